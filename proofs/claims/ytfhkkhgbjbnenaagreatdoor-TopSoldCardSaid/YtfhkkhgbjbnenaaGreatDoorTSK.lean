/- TopSold: a block is shifted by what was lost; TopSold: the row. -/
import Derived.Test.YtfhkkhgbjbnenaaGreatDoorTSJ
import Derived.Test.YtfhkkhgbjbnenaaGreatDoorTSD
import Derived.Test.YtfhkkhgbjbnenaaGreatDoorRows
import Derived.ProofKit
import Derived.LaidMore
import Derived.Stop.Joined

set_option linter.unusedVariables false
set_option linter.unusedSimpArgs false
set_option linter.unusedSectionVars false
set_option maxRecDepth 100000
set_option maxHeartbeats 4000000

namespace Go.X.Tl
open Go Go.Proofs Go.X Go.X.Lt
open Go.X.Gr (aB az au bQ dj ca da hasB cD dW eA aE bZ iC bc bR code fq eD a_ eg B5 oG js jF)
open Go.X.Wr (gF iW Wd kR jm eb cH jZ fN mO)
open Go.X.W (ll dA CO Dz CN zO)
def Gq (lo hi:Int):Nat→aB→aB
 |0,g=>⟨g.l0,g.h0,g.l1,g.h1,g.l2,g.h2,g.l3,g.h3,g.l4,g.h4,g.st⟩
 |1,g=>⟨g.l0-hi,g.h0-lo,g.l1,g.h1,g.l2,g.h2,g.l3,g.h3,g.l4,g.h4,g.st⟩
 |2,g=>⟨g.l0-hi,g.h0-lo,g.l1-hi,g.h1-lo,g.l2,g.h2,g.l3,g.h3,g.l4,g.h4,g.st⟩
 |3,g=>⟨g.l0-hi,g.h0-lo,g.l1-hi,g.h1-lo,g.l2-hi,g.h2-lo,g.l3,g.h3,g.l4,g.h4,g.st⟩
 |4,g=>⟨g.l0-hi,g.h0-lo,g.l1-hi,g.h1-lo,g.l2-hi,g.h2-lo,g.l3-hi,g.h3-lo,g.l4,g.h4,g.st⟩
 |_,g=>⟨g.l0-hi,g.h0-lo,g.l1-hi,g.h1-lo,g.l2-hi,g.h2-lo,g.l3-hi,g.h3-lo,g.l4-hi,g.h4-lo,g.st⟩
def ny (n:Int):Nat→B5→B5
 |0,b=>(b.1,b.2.1,b.2.2.1,b.2.2.2.1,b.2.2.2.2)
 |1,b=>(b.1-n,b.2.1,b.2.2.1,b.2.2.2.1,b.2.2.2.2)
 |2,b=>(b.1-n,b.2.1-n,b.2.2.1,b.2.2.2.1,b.2.2.2.2)
 |3,b=>(b.1-n,b.2.1-n,b.2.2.1-n,b.2.2.2.1,b.2.2.2.2)
 |4,b=>(b.1-n,b.2.1-n,b.2.2.1-n,b.2.2.2.1-n,b.2.2.2.2)
 |_,b=>(b.1-n,b.2.1-n,b.2.2.1-n,b.2.2.2.1-n,b.2.2.2.2-n)
def fS (p:Tp)(i:Nat)(n:Int)(k:Nat):List (Nat × FE):=(12,⟨[],.si .i64 (i:Int)⟩)::(17,⟨[],.sl 15⟩)::(18,⟨[],.sp 16 0⟩)::(20,⟨[],.sp 17 0⟩)::(22,⟨[],.si .i64 n⟩)::(160,⟨[],.si .i64 (k:Int)⟩)::fZ p i
def hS (p:Tp)(z:Zb)(g:aB)(t:B5)(lo hi n:Int)(k:Nat):List (Nat × HB):=(15,.vec 3 1 5 (a_ (ny n k t)))::(16,.cells 37 (dG (Gq lo hi k g)))::(17,.cells 36 [.si .i64 lo,.si .i64 hi])::hZ p z
section
variable {G:cp}{p:Tp}{z:Zb}{K:Ex→St→Prop}
def dd (a:Int):Prop:=-20≤a∧a≤20
theorem AS {j:Nat}(h:j<5):j=0∨j=1∨j=2∨j=3∨j=4:=by omega
theorem ac0 (hG:∀j,8≤j→G.ρ j=none){g:aB}{t:B5}{lo hi n:Int}(hl:-1000≤lo∧lo≤1000)(hh:-1000≤hi∧hi≤1000)(hn:-1000≤n∧n≤1000)(hg:(dd g.l0∧dd g.h0)∧(dd g.l1∧dd g.h1)∧(dd g.l2∧dd g.h2)∧(dd g.l3∧dd g.h3)∧dd g.l4∧dd g.h4)(ht:dd t.1∧dd t.2.1∧dd t.2.2.1∧dd t.2.2.2.1∧dd t.2.2.2.2)
  (hK:K (.exit 4) ⟨(161,⟨[],.sb false⟩)::fS p z.i n 5,[],hS p z g t lo hi n 5,18,[]⟩) :
  aX (X3 G) (iW 4 (code Tryz.f3)) ⟨fS p z.i n 0,[],hS p z g t lo hi n 0,18,[]⟩ K:=by
 simp only[dd] at hg ht
 refine cm (cd G) 8 (λy:{y:Nat // y≤5}=>⟨fS p z.i n y.1,[],hS p z g t lo hi n y.1,18,[]⟩) (λy=>5-y.1) hG ⟨0,by decide⟩ (λj=>j) ⟨AU,AU,rfl,rfl,rfl,rfl,trivial⟩ ?_
 rintro⟨k,hk⟩
 have hk:k≤5:=hk
 rcases(show k=0∨k=1∨k=2∨k=3∨k=4∨k=5 by omega) with rfl|rfl|rfl|rfl|rfl|rfl
 case inr.inr.inr.inr.inr =>
  refine Br.mk (λh=>(by cases h)) (λ_=>?_)
  exact hK
 case inl =>
  refine Br.mk (λ_=>?_) (λh=>(by cases h))
  refine cU (cd G) bP [0,0,0,0,8,24,56,0,128,504,0,1024,3072,7168,0,16384,64512,131064,0,0,786432,1835008,0,8126464,262137,17039353,67108863,134217727] [(25,16)] 27 (by kernel_rfl) ?_
  refine aa.mk (show(0:Int)≤((0:Nat):Int)∧((0:Nat):Int)<5 by decide) ?_
  refine aa.mk (show ae .i64 (g.l0-hi) from⟨by omega,by omega⟩) ?_
  refine aa.mk (show(0:Int)≤((0:Nat):Int)∧((0:Nat):Int)<5 by decide) ?_
  refine aa.mk (show ae .i64 (g.h0-lo) from⟨by omega,by omega⟩) ?_
  refine aa.mk (show(0:Int)≤((0:Nat):Int)∧((0:Nat):Int)<5 by decide) ?_
  refine aa.mk (show ae .i64 (t.1-n) from⟨by omega,by omega⟩) ?_
  refine aa.mk (show(0:Int)≤((0:Nat):Int)∧((0:Nat):Int)<5 by decide) ?_
  refine aa.mk (show(0:Int)≤((0:Nat):Int)∧((0:Nat):Int)<5 by decide) ?_
  refine oZ 15 3 1 5 0 0 (a_ (ny n 0 t)) (a_ (ny n 1 t)) [.si .i64 (t.1-n)] (cd G) aj rfl rfl rfl rfl rfl rfl rfl rfl rfl rfl (by decide) (Nat.le_refl 1) (λj hj=>?_) ?_
  ·rcases AS hj with rfl|rfl|rfl|rfl|rfl<;>rfl
  exact aa.mk (show ae .i64 (((0:Nat):Int)+1) by decide) ⟨⟨1,by decide⟩,(λj=>j),⟨AU,AU,rfl,rfl,rfl,rfl,trivial⟩,(show 5-1<5-0 by decide)⟩
 case inr.inl =>
  refine Br.mk (λ_=>?_) (λh=>(by cases h))
  refine cU (cd G) bP [0,0,0,0,8,24,56,0,128,504,0,1024,3072,7168,0,16384,64512,131064,0,0,786432,1835008,0,8126464,262137,17039353,67108863,134217727] [(25,16)] 27 (by kernel_rfl) ?_
  refine aa.mk (show(0:Int)≤((1:Nat):Int)∧((1:Nat):Int)<5 by decide) ?_
  refine aa.mk (show ae .i64 (g.l1-hi) from⟨by omega,by omega⟩) ?_
  refine aa.mk (show(0:Int)≤((1:Nat):Int)∧((1:Nat):Int)<5 by decide) ?_
  refine aa.mk (show ae .i64 (g.h1-lo) from⟨by omega,by omega⟩) ?_
  refine aa.mk (show(0:Int)≤((1:Nat):Int)∧((1:Nat):Int)<5 by decide) ?_
  refine aa.mk (show ae .i64 (t.2.1-n) from⟨by omega,by omega⟩) ?_
  refine aa.mk (show(0:Int)≤((1:Nat):Int)∧((1:Nat):Int)<5 by decide) ?_
  refine aa.mk (show(0:Int)≤((1:Nat):Int)∧((1:Nat):Int)<5 by decide) ?_
  refine oZ 15 3 1 5 1 0 (a_ (ny n 1 t)) (a_ (ny n 2 t)) [.si .i64 (t.2.1-n)] (cd G) aj rfl rfl rfl rfl rfl rfl rfl rfl rfl rfl (by decide) (Nat.le_refl 1) (λj hj=>?_) ?_
  ·rcases AS hj with rfl|rfl|rfl|rfl|rfl<;>rfl
  exact aa.mk (show ae .i64 (((1:Nat):Int)+1) by decide) ⟨⟨2,by decide⟩,(λj=>j),⟨AU,AU,rfl,rfl,rfl,rfl,trivial⟩,(show 5-2<5-1 by decide)⟩
 case inr.inr.inl =>
  refine Br.mk (λ_=>?_) (λh=>(by cases h))
  refine cU (cd G) bP [0,0,0,0,8,24,56,0,128,504,0,1024,3072,7168,0,16384,64512,131064,0,0,786432,1835008,0,8126464,262137,17039353,67108863,134217727] [(25,16)] 27 (by kernel_rfl) ?_
  refine aa.mk (show(0:Int)≤((2:Nat):Int)∧((2:Nat):Int)<5 by decide) ?_
  refine aa.mk (show ae .i64 (g.l2-hi) from⟨by omega,by omega⟩) ?_
  refine aa.mk (show(0:Int)≤((2:Nat):Int)∧((2:Nat):Int)<5 by decide) ?_
  refine aa.mk (show ae .i64 (g.h2-lo) from⟨by omega,by omega⟩) ?_
  refine aa.mk (show(0:Int)≤((2:Nat):Int)∧((2:Nat):Int)<5 by decide) ?_
  refine aa.mk (show ae .i64 (t.2.2.1-n) from⟨by omega,by omega⟩) ?_
  refine aa.mk (show(0:Int)≤((2:Nat):Int)∧((2:Nat):Int)<5 by decide) ?_
  refine aa.mk (show(0:Int)≤((2:Nat):Int)∧((2:Nat):Int)<5 by decide) ?_
  refine oZ 15 3 1 5 2 0 (a_ (ny n 2 t)) (a_ (ny n 3 t)) [.si .i64 (t.2.2.1-n)] (cd G) aj rfl rfl rfl rfl rfl rfl rfl rfl rfl rfl (by decide) (Nat.le_refl 1) (λj hj=>?_) ?_
  ·rcases AS hj with rfl|rfl|rfl|rfl|rfl<;>rfl
  exact aa.mk (show ae .i64 (((2:Nat):Int)+1) by decide) ⟨⟨3,by decide⟩,(λj=>j),⟨AU,AU,rfl,rfl,rfl,rfl,trivial⟩,(show 5-3<5-2 by decide)⟩
 case inr.inr.inr.inl =>
  refine Br.mk (λ_=>?_) (λh=>(by cases h))
  refine cU (cd G) bP [0,0,0,0,8,24,56,0,128,504,0,1024,3072,7168,0,16384,64512,131064,0,0,786432,1835008,0,8126464,262137,17039353,67108863,134217727] [(25,16)] 27 (by kernel_rfl) ?_
  refine aa.mk (show(0:Int)≤((3:Nat):Int)∧((3:Nat):Int)<5 by decide) ?_
  refine aa.mk (show ae .i64 (g.l3-hi) from⟨by omega,by omega⟩) ?_
  refine aa.mk (show(0:Int)≤((3:Nat):Int)∧((3:Nat):Int)<5 by decide) ?_
  refine aa.mk (show ae .i64 (g.h3-lo) from⟨by omega,by omega⟩) ?_
  refine aa.mk (show(0:Int)≤((3:Nat):Int)∧((3:Nat):Int)<5 by decide) ?_
  refine aa.mk (show ae .i64 (t.2.2.2.1-n) from⟨by omega,by omega⟩) ?_
  refine aa.mk (show(0:Int)≤((3:Nat):Int)∧((3:Nat):Int)<5 by decide) ?_
  refine aa.mk (show(0:Int)≤((3:Nat):Int)∧((3:Nat):Int)<5 by decide) ?_
  refine oZ 15 3 1 5 3 0 (a_ (ny n 3 t)) (a_ (ny n 4 t)) [.si .i64 (t.2.2.2.1-n)] (cd G) aj rfl rfl rfl rfl rfl rfl rfl rfl rfl rfl (by decide) (Nat.le_refl 1) (λj hj=>?_) ?_
  ·rcases AS hj with rfl|rfl|rfl|rfl|rfl<;>rfl
  exact aa.mk (show ae .i64 (((3:Nat):Int)+1) by decide) ⟨⟨4,by decide⟩,(λj=>j),⟨AU,AU,rfl,rfl,rfl,rfl,trivial⟩,(show 5-4<5-3 by decide)⟩
 case inr.inr.inr.inr.inl =>
  refine Br.mk (λ_=>?_) (λh=>(by cases h))
  refine cU (cd G) bP [0,0,0,0,8,24,56,0,128,504,0,1024,3072,7168,0,16384,64512,131064,0,0,786432,1835008,0,8126464,262137,17039353,67108863,134217727] [(25,16)] 27 (by kernel_rfl) ?_
  refine aa.mk (show(0:Int)≤((4:Nat):Int)∧((4:Nat):Int)<5 by decide) ?_
  refine aa.mk (show ae .i64 (g.l4-hi) from⟨by omega,by omega⟩) ?_
  refine aa.mk (show(0:Int)≤((4:Nat):Int)∧((4:Nat):Int)<5 by decide) ?_
  refine aa.mk (show ae .i64 (g.h4-lo) from⟨by omega,by omega⟩) ?_
  refine aa.mk (show(0:Int)≤((4:Nat):Int)∧((4:Nat):Int)<5 by decide) ?_
  refine aa.mk (show ae .i64 (t.2.2.2.2-n) from⟨by omega,by omega⟩) ?_
  refine aa.mk (show(0:Int)≤((4:Nat):Int)∧((4:Nat):Int)<5 by decide) ?_
  refine aa.mk (show(0:Int)≤((4:Nat):Int)∧((4:Nat):Int)<5 by decide) ?_
  refine oZ 15 3 1 5 4 0 (a_ (ny n 4 t)) (a_ (ny n 5 t)) [.si .i64 (t.2.2.2.2-n)] (cd G) aj rfl rfl rfl rfl rfl rfl rfl rfl rfl rfl (by decide) (Nat.le_refl 1) (λj hj=>?_) ?_
  ·rcases AS hj with rfl|rfl|rfl|rfl|rfl<;>rfl
  exact aa.mk (show ae .i64 (((4:Nat):Int)+1) by decide) ⟨⟨5,by decide⟩,(λj=>j),⟨AU,AU,rfl,rfl,rfl,rfl,trivial⟩,(show 5-5<5-4 by decide)⟩
end
end Go.X.Tl
namespace Go.X
open Go
theorem acS {X:Cx}{st:St}{K:Ex→St→Prop}{c:Operand}{x y:Code}{b:Bool}(e:ev (findF st.F) [] c=some (.sb b))(ht:b=true→aX X x st K)(hf:b=false→aX X y st K):aX X (.cond c x y) st K:=fun ρ a w hm=>by
 have hv:=aQ hm.fm (π:=[]) (λx hx=>by cases hx) e
 simp only[den,Option.some.injEq] at hv
 exact wpIn_cond_split hv.symm (λh=>ht h ρ a w hm) (λh=>hf h ρ a w hm)
end Go.X
namespace Go.X.Tl
open Go Go.Proofs Go.X Go.X.Lt
open Go.X.Gr (aB az au bQ dj ca da hasB cD dW eA aE bZ iC bc bR code fq eD a_ eg B5 oG js jF fR)
open Go.X.Wr (gF iW Wd kR jm eb cH jZ fN mO)
open Go.X.W (ll dA CO Dz CN zO)
def gX (p:Tp)(xs:Nat→aB)(j:Nat):aB:={ xs j with st:=p.x0.st }
def tr (TL:List Gr.En)(j:Nat):B5:=(TL.getD j eD).2.2
structure Mm (p:Tp) (z:Zb):Prop where
 i:z.i≤p.x0.nB
 len:z.TL.length=z.i
 c:0≤z.c∧z.c≤2*(z.i:Int)
 ok:∀j,j<z.i→fR (gX p z.xs j) (tr z.TL j)
theorem ac1 {g:aB}{t:B5}{lo hi n:Int}(h:fR g t)(hn:lo≤n∧n≤hi):fR (Gq lo hi 5 g) (ny n 5 t):=by
 obtain⟨a0,a1,a2,a3,a4⟩:=t
 obtain⟨r0,r1,r2,r3,r4,tE,tF,tG,tI,qM,tK,tL,tJ⟩:=h
 simp only at r0 r1 r2 r3 r4 tE tF tG tI qM tK tL tJ
 refine⟨?_,?_,?_,?_,?_,?_,?_,?_,?_,?_,?_,?_,?_⟩<;>simp only[Gq,ny]<;>omega
theorem RG {g:aB}{t:B5}(h:fR g t)(hg:(-20≤g.l0∧g.l0≤g.h0∧g.h0≤20∧g.h0-g.l0≤6)∧(-20≤g.l1∧g.l1≤g.h1∧g.h1≤20∧g.h1-g.l1≤6)∧(-20≤g.l2∧g.l2≤g.h2∧g.h2≤20∧g.h2-g.l2≤6)∧(-20≤g.l3∧g.l3≤g.h3∧g.h3≤20∧g.h3-g.l3≤6)∧(-20≤g.l4∧g.l4≤g.h4∧g.h4≤20∧g.h4-g.l4≤6)) :
  ((dd g.l0∧dd g.h0)∧(dd g.l1∧dd g.h1)∧(dd g.l2∧dd g.h2)∧(dd g.l3∧dd g.h3)∧dd g.l4∧dd g.h4)∧dd t.1∧dd t.2.1∧dd t.2.2.1∧dd t.2.2.2.1∧dd t.2.2.2.2:=by
 obtain⟨a0,a1,a2,a3,a4⟩:=t
 obtain⟨r0,r1,r2,r3,r4,-,-,-,-,-,-,-,-⟩:=h
 simp only at r0 r1 r2 r3 r4
 simp only[dd]
 omega
def fB (p:Tp)(i:Nat):List (Nat × FE):=(12,⟨[],.si .i64 (i:Int)⟩)::(17,⟨[],.sl 15⟩)::(18,⟨[],.sp 16 0⟩)::fZ p i
def hB (p:Tp)(z:Zb)(g:aB)(t:B5)(c:Int):List (Nat × HB):=(15,.vec 3 1 5 (a_ t))::(16,.cells 37 (dG g))::hZ p { z with c:=c }
def sB (p:Tp)(z:Zb)(y:aB × B5 × Int):St:=⟨fB p z.i,[],hB p z y.1 y.2.1 y.2.2,17,[]⟩
theorem NP {L:List Gr.En}{i:Nat}(hi:i<L.length):L.getD i eD∈L:=by
 rw[List.getD_eq_getElem?_getD,List.getElem?_eq_getElem hi]
 exact List.getElem_mem hi
section
variable {G:cp}{p:Tp}{K:Ex→St→Prop}
theorem MJ:Body P 26:=aw Tryz.func26 (c:=code Tryz.f26) rfl (by decide)
theorem b7:Body P 7:=aw Tryz.func7 (c:=code Tryz.f7) rfl (by decide)
theorem MG:Body P 11:=aw Tryz.func11 (c:=code Tryz.f11) rfl (by decide)
theorem UN (hG:∀j,8≤j→G.ρ j=none)(hp:zH p)(hx:ov p.x0=true)(hR:∀F gs H nx,K .ret ⟨(8,⟨[],.sb true⟩)::F,gs,H,nx,[]⟩)
  (hK:∀z,Mm p z→z.i=p.x0.nB→K (.exit 0) ⟨(81,⟨[],.sb (decide ((z.i:Int)<(p.x0.nB:Int)))⟩)::fZ p z.i,[],hZ p z,15,[]⟩) :
  aX (X3 G) (iW 0 (code Tryz.f3)) ⟨fZ p 0,[],hZ p ⟨0,λ_=>⟨0,0,0,0,0,0,0,0,0,0,0⟩,[],0⟩,15,[]⟩ K:=by
 refine Q9 8 (λz:{z:Zb // Mm p z}=>⟨fZ p z.1.i,[],hZ p z.1,15,[]⟩) (λz=>p.x0.nB-z.1.i) hG ⟨⟨0,λ_=>⟨0,0,0,0,0,0,0,0,0,0,0⟩,[],0⟩,Nat.zero_le _,rfl,by decide,λj hj=>absurd hj (Nat.not_lt_zero _)⟩ (λj=>j) ⟨AU,AU,rfl,rfl,rfl,rfl,trivial⟩ ?_
 rintro⟨z,hz⟩
 have wO:=hz.i
 have Z2:=hz.c
 have gY:=hz.len
 obtain⟨hB,Jk⟩:p.x0.nB≤6∧∀b,b<p.x0.nB→da (gP p.x0 b) (LL p.x0)=true:=by
  unfold ov uv at hx
  simp only[Bool.and_eq_true,Bool.not_eq_true',Bool.or_eq_false_iff,decide_eq_false_iff_not,Bool.not_eq_false',decide_eq_true_eq,List.all_eq_true,List.mem_range] at hx
  exact⟨by omega,λb hb=>hx.2.2.1 b hb⟩
 refine fi (cW (cd G) _ _ _ ?_)
 refine(show fp _ _ _ .normal _ from ?_)
 refine fi (cW (cd G) _ _ _ ?_)
 refine Br.mk (λh=>?_) (λh=>?_)
 case refine_2 =>
  have h:¬(z.i:Int)<(p.x0.nB:Int):=of_decide_eq_false h
  exact hK z hz (by omega)
 have h:(z.i:Int)<(p.x0.nB:Int):=of_decide_eq_true h
 have hi:z.i<p.x0.nB:=by omega
 have Pw:=Jk z.i hi
 have pA:=R1 Pw
 refine(show fp _ _ _ .normal _ from ?_)
 refine fi (SA (fi (cW (cd G) _ _ _ ?_)))
 refine(show fp _ _ _ .normal _ from ?_)
 refine fi (cW (cd G) _ _ _ ?_)
 refine(show fp _ _ _ .normal _ from ?_)
 refine fi (cW (cd G) _ _ _ ?_)
 refine aa.mk (show(0:Int)≤(z.i:Int)∧(z.i:Int)<(p.x0.nB:Int) from⟨by omega,h⟩) ?_
 refine(show aX _ _ _ _ from ?_)
 refine kF (af:=⟨wF p z.i (p.x0.bl z.i) 0 1,[],hZ p z,15,[]⟩) 8 (λj=>j) hG ⟨AU,AU,rfl,rfl,rfl,rfl,trivial⟩ ?_
 refine aeb hG pA.1 λw=>?_
 refine(show fp _ _ _ .normal _ from ?_)
 refine fi (cW (cd G) _ _ _ ?_)
 refine Br.mk (λh1=>?_) (λh1=>?_)
 ·refine aa.mk ⟨rfl,rfl⟩ ?_
  exact hR _ _ _ _
 refine(show fp _ _ _ .normal _ from ?_)
 refine fi (cW (cd G) _ _ _ ?_)
 refine aa.mk (show Cells _ _ _ _ _ _ _ _∧(0:Int)≤(z.i:Int)∧(z.i:Int)≤(p.x0.nB:Int)-1 from⟨lX p.x0,by omega,by omega⟩) ?_
 refine av (cd G) aj rfl rfl rfl rfl ⟨b7,?_⟩
 refine aO [.agg (bR 0 (gP p.x0 z.i))] [(0,.ro 2 p.x0.nL λi=>az (p.x0.li i))] 1 (λj=>1) AU rfl AU rfl rfl ?_
 refine Gr.s87 (Gr.A6 Pw).1 ⟨pA.1.1.2.2.2,pA.1.2.1.2.2.2,pA.1.2.2.1.2.2.2,pA.1.2.2.2.1.2.2.2,pA.1.2.2.2.2.2.2.2⟩ λL hL=>⟨rfl,AU,AU,?_⟩
 refine(show fp _ _ _ .normal _ from ?_)
 refine fi (cW (cd G) _ _ _ ?_)
 refine Br.mk (λh2=>?_) (λh2=>?_)
 ·refine aa.mk ⟨rfl,rfl⟩ ?_
  exact hR _ _ _ _
 have h2:¬(L.length:Int)=0:=of_decide_eq_false h2
 have hLl:L.length≤16807:=by
  have h3:=congrArg List.length hL
  have h4:=Gr.MT (g:=gP p.x0 z.i) ⟨pA.1.1.2.2.2,pA.1.2.1.2.2.2,pA.1.2.2.1.2.2.2,pA.1.2.2.2.1.2.2.2,pA.1.2.2.2.2.2.2.2⟩
  rw[List.length_map] at h3
  omega
 refine(show fp _ _ _ .normal _ from ?_)
 refine fi (cW (cd G) _ _ _ ?_)
 refine aa.mk (show ae .i64 ((L.length:Int)-1) from⟨by omega,by omega⟩) ?_
 have n_:=NJ hp (c:=z.c) (lo:=0) (hi:=(L.length:Int)-1) (by omega) (by omega)
 obtain⟨d,hd⟩:∃d,ll p.m p.o z.c 0 ((L.length:Int)-1)=d:=⟨_,rfl⟩
 refine av (cd G) aj rfl rfl rfl rfl ⟨MJ,M8 (c:=z.c) (lo:=0) (hi:=(L.length:Int)-1) hp rfl rfl rfl (by omega) (by omega) ?_⟩
 rw[hd] at n_ ⊢
 refine aa.mk (show(0:Int)≤d∧d<(L.length:Int) from⟨by omega,by omega⟩) ?_
 have Yx:d.toNat<L.length:=by omega
 have gU:=NP Yx
 refine WA 16 120 5 (L.getD d.toNat eD).2.1 (L.getD d.toNat eD).1 (a_ (L.getD d.toNat eD).2.2) (.sl 18) (cd G) aj rfl ⟨⟨_,gU,rfl,rfl,rfl⟩,rfl,?_⟩
 refine vS 17 18 5 (a_ (L.getD d.toNat eD).2.2) (cd G) aj rfl rfl rfl rfl rfl rfl rfl rfl rfl rfl rfl rfl (by decide) (by decide) rfl rfl rfl rfl (by decide) (by decide) ?_
 have ap:fR (gP p.x0 z.i) (L.getD d.toNat eD).2.2:=by
  refine Gr.FG.1 ?_
  rw[←hL]
  exact List.mem_map.2 ⟨_,gU,rfl⟩
 obtain⟨t,ht⟩:∃t,(L.getD d.toNat eD).2.2=t:=⟨_,rfl⟩
 rw[ht] at ap ⊢
 refine(show fp _ _ _ .normal _ from ?_)
 refine fi (cW (cd G) _ _ _ ?_)
 refine aa.mk (show(0:Int)≤(z.i:Int)∧(z.i:Int)<(p.x0.nB:Int) from⟨by omega,h⟩) ?_
 refine(show fp _ _ _ .normal _ from ?_)
 refine kF (af:=sB p z (p.x0.bl z.i,t,z.c+1)) 8 (λj=>match j with|15=>19|16=>20|j=>j) hG ⟨AU,AU,rfl,rfl,rfl,rfl,trivial⟩ ?_
 refine Lc (ι:={y:aB × B5 × Int // fR { y.1 with st:=p.x0.st } y.2.1∧0≤y.2.2∧y.2.2≤2*(z.i:Int)+2}) 8 (λy=>sB p z y.1) hG ?_ ?_
 ·have Pk:Lt.gP p.x0 z.i={ p.x0.bl z.i with st:=p.x0.st }:=rfl
  refine fi (cW (cd G) _ _ _ ?_)
  refine(show fp _ _ _ .normal _ from ?_)
  refine acS (b:=decide ((z.i:Int)<(p.nW:Int))) rfl (λh3=>?_) (λh3=>?_)
  case refine_2=>exact cW (cd G) _ _ _ ⟨⟨(p.x0.bl z.i,t,z.c+1),ap,(by omega:0≤z.c+1),(by omega:z.c+1≤2*(z.i:Int)+2)⟩,λj=>j,AU,AU,rfl,rfl,rfl,rfl,trivial⟩
  have h3:(z.i:Int)<(p.nW:Int):=of_decide_eq_true h3
  have Pz:z.i<p.nW:=by omega
  have mm:=hp.told z.i Pz
  refine fi (cW (cd G) _ _ _ ?_)
  refine aa.mk (show(0:Int)≤(z.i:Int)∧(z.i:Int)<(p.nW:Int) from⟨by omega,h3⟩) ?_
  refine(show fp _ _ _ .normal _ from ?_)
  refine acW 7 17 45 (p.g z.i).n 4 (p.g z.i).v (vN (p.g z.i).ev) _ (wbS (p.g z.i) 18) rfl rfl (aal mm (aec p Pz)) rfl ?_
  refine(cW (cd G) _ _ _ ?_)
  refine aa.mk (show decide ((40:Int)<((p.g z.i).n:Int))=false→((p.g z.i).n≤1000000∧Wr.r_ (p.g z.i).n (vN (p.g z.i).ev)) from λhh=>⟨by
   simp only[decide_eq_false_iff_not] at hh;omega,Wr.H_ _ _⟩) ?_
  refine Br.mk (λh2=>?_) (λh2=>?_)
  ·refine aa.mk ⟨rfl,rfl⟩ ?_
   exact hR _ _ _ _
  have h2:(decide ((40:Int)<((p.g z.i).n:Int))||!eb (m6 (p.g z.i)))=false:=h2
  simp only[Bool.or_eq_false_iff,decide_eq_false_iff_not,Bool.not_eq_false'] at h2
  obtain⟨Y2,JW⟩:=h2
  refine av (cd G) aj rfl rfl rfl rfl ⟨MG,?_⟩
  refine aO [jZ (m6 (p.g z.i)) 1] (fN (m6 (p.g z.i))) 2 (λj=>match j with|1=>18|j=>j) AU rfl AU rfl rfl ?_
  have hq:=λhc=>Wr.aa0 JW hc
  cases hc:cH (m6 (p.g z.i)) with
  |false =>
   have e:Wr.zd (m6 (p.g z.i))=.bn [.agg [.si .i64 0,.si .i64 0],.si .i64 10]:=by unfold Wr.zd;rw[hc];rfl
   refine Wr.Sk JW ?_
   rw[e]
   refine⟨rfl,AU,AU,?_⟩
   refine Br.mk (λ_=>?_) (λh=>by cases h)
   refine aa.mk (λ_=>⟨rfl,rfl⟩) ?_
   exact hR _ _ _ _
  |true =>
   have e:Wr.zd (m6 (p.g z.i))=.bn [.agg [.si .i64 (Wr.eW (m6 (p.g z.i)) (Wr.gw (m6 (p.g z.i)))).1,.si .i64 (Wr.eW (m6 (p.g z.i)) (Wr.gw (m6 (p.g z.i)))).2],.si .i64 0]:=by unfold Wr.zd;rw[hc];rfl
   refine Wr.Sk JW ?_
   rw[e]
   refine⟨rfl,AU,AU,?_⟩
   have hl:=hq hc
   obtain⟨lo,k7⟩:∃lo,(Wr.eW (m6 (p.g z.i)) (Wr.gw (m6 (p.g z.i)))).1=lo:=⟨_,rfl⟩
   obtain⟨eC,wB⟩:∃hi,(Wr.eW (m6 (p.g z.i)) (Wr.gw (m6 (p.g z.i)))).2=hi:=⟨_,rfl⟩
   rw[k7,wB] at hl ⊢
   refine Br.mk (λh=>by cases h) (λ_=>?_)
   have BB:=NJ hp (c:=z.c+1) (lo:=lo) (hi:=eC) (by omega) (by omega)
   obtain⟨n,hn⟩:∃n,ll p.m p.o (z.c+1) lo eC=n:=⟨_,rfl⟩
   refine av (cd G) aj rfl rfl rfl rfl ⟨MJ,M8 (c:=z.c+1) (lo:=lo) (hi:=eC) hp rfl rfl rfl (by omega) (by omega) ?_⟩
   rw[hn] at BB ⊢
   have ec:z.c+1+1=z.c+2:=by omega
   have Bd:=RG ap pA.1
   refine(show aX _ _ _ _ from ?_)
   refine kF (af:=⟨fS p z.i n 0,[],hS p { z with c:=z.c+2 } (p.x0.bl z.i) t lo eC n 0,18,[]⟩) 8 (λj=>match j with|17=>19|j=>j) hG ⟨AU,AU,rfl,rfl,rfl,rfl,trivial⟩ ?_
   refine ac0 (z:={ z with c:=z.c+2 }) hG (by omega) (by omega) (by omega) Bd.1 Bd.2 ?_
   exact⟨⟨(Gq lo eC 5 (p.x0.bl z.i),ny n 5 t,z.c+2),ac1 (g:=gP p.x0 z.i) ap BB,(by omega:0≤z.c+2),(by omega:z.c+2≤2*(z.i:Int)+2)⟩,λj=>j,AU,AU,rfl,rfl,rfl,rfl,trivial⟩
 ·rintro⟨⟨g,t,c⟩,hy,I1,Pl⟩
  have I1:0≤c:=I1
  have Pl:c≤2*(z.i:Int)+2:=Pl
  refine acU 15 13 [17] [] (cd G) ⟨rfl,by decide,λj hj=>rfl,rfl,rfl,by decide,λad cap=>?_⟩
  refine mQ (Te:=0) 12 17 z.i 1 _ _ (λj=>dG (if j<z.i then z.xs j else g)) (cd G) aj rfl rfl rfl rfl rfl rfl rfl rfl rfl rfl rfl rfl (by decide) (by decide) rfl rfl rfl rfl (by omega) (λk hk=>?_) ?_
  ·rcases Nat.lt_or_ge k z.i with h1|h1
   ·rw[if_pos h1,if_pos h1]
   ·obtain rfl:k=z.i:=by omega
    rw[if_neg (by omega),if_neg (by omega),show z.i-z.i=0 by omega]
    rfl
  refine mQ (Te:=0) 14 19 z.i 1 (oG z.TL) _ (oG (z.TL++[(ad,cap,t)])) (cd G) aj rfl rfl rfl rfl rfl rfl rfl rfl rfl rfl rfl rfl (by decide) (by decide) rfl rfl rfl rfl (by omega) (λk hk=>?_) ?_
  ·rw[←gY] at hk ⊢
   rw[Gr.RB hk]
   split
   ·rfl
   ·rw[show k-z.TL.length=0 by omega];rfl
  refine(show fp _ _ _ .normal _ from ?_)
  refine cW (cd G) _ _ _ ?_
  refine aa.mk (show ae .i64 ((z.i:Int)+1) from⟨by omega,by omega⟩) ⟨⟨⟨z.i+1,λj=>if j<z.i then z.xs j else g,z.TL++[(ad,cap,t)],c⟩,⟨(by omega:z.i+1≤p.x0.nB),?_,⟨I1,?_⟩,λj hj=>?_⟩⟩,(λj=>match j with|12=>18|14=>20|j=>j),⟨AU,?_,rfl,rfl,rfl,rfl,trivial⟩,by show p.x0.nB-(z.i+1)<p.x0.nB-z.i;omega⟩
  ·show(z.TL++[(ad,cap,t)]).length=z.i+1
   rw[List.length_append,gY];rfl
  ·show c≤2*((z.i+1:Nat):Int)
   omega
  ·have hj:j<z.i+1:=hj
   have ex:gX p (λj=>if j<z.i then z.xs j else g) j=(λq:aB=>{ q with st:=p.x0.st }) (if j<z.i then z.xs j else g):=rfl
   show fR (gX p (λj=>if j<z.i then z.xs j else g) j) (tr (z.TL++[(ad,cap,t)]) j)
   rw[ex]
   unfold tr
   rcases Nat.lt_or_ge j z.i with h1|h1
   ·have h4:=hz.ok j h1
    rw[if_pos h1,List.getD_eq_getElem?_getD,List.getElem?_append_left (by omega),←List.getD_eq_getElem?_getD]
    exact h4
   ·obtain rfl:j=z.i:=by omega
    rw[if_neg (by omega),List.getD_eq_getElem?_getD,List.getElem?_append_right (by omega),gY,Nat.sub_self]
    exact hy
  ·repeat' (first|exact trivial|exact rfl|(intro k hk;exact⟨rfl,rfl⟩)|(intro v m g h;first|exact h|exact Gr.N8 h)|refine And.intro ?_ ?_)
end
end Go.X.Tl
namespace Go.X
open Go
theorem zi {X:Cx}{st:St}{K:Ex→St→Prop}{c:Code}(id de Tc n size m:Nat)(v:Value)(gt get get':Nat→List SV){C:Value→Nat→(Nat→List SV)→Prop}(h1:ab st.H id=some (.vec Tc 1 n get))(h2:ab st.H de=some (.ax size C))
  (hc:∃ad k,v=.slice (some ad) m k∧C v m gt) (hg:∀i,i<n→get i=get' i∨(get i=[.sv v]∧get' i=[.sl st.nx]))
  (h:eQ st λF gs H nx D=>fa (nx+1) λaA=>aX X c ⟨F,gs,(id,.vec Tc 1 n get')::(nx,.ro size m gt)::H,aA,D⟩ K):aX X c st K:=by
 intro ρ a w hm
 rw[eG,fw] at h
 obtain⟨ad,k,rfl,hc⟩:=hc
 have dZ:id≠st.nx:=λe=>by
  obtain⟨nm,h2,_⟩:=hm.hm.ok _ _ h1
  rw[hm.nx id (by omega)] at h2;cases h2
 obtain⟨nm,h3,h4⟩:=hm.hm.ok _ _ h1
 have cI:=hm.focus h2 hc
 have hd:den (aq ρ st.nx (.sl (some ad) m k size)) (.sl st.nx)=some (.slice (some ad) m k):=by simp[den,cj]
 have h5:ab ((st.nx,.ro size m gt)::st.H) id=some (.vec Tc 1 n get):=by
  rw[ba,aR _ _ (Ne.symm dZ)];exact h1
 refine h _ a w (cI.swap (hb':=.vec Tc 1 n get') h5 rfl (nm:=nm) (by rw[bF _ _ dZ];exact h3) ?_ (λ_ _ _ h=>by cases h))
 have h6:=kK (Ext.aq (.sl (some ad) m k size) (hm.nx _ (Nat.le_refl _))) h4
 cases nm<;>simp only[ao] at h6 ⊢
 ·exact h6
 ·obtain⟨e1,e2,e3,cells,c1,c2,c3⟩:=h6
  refine⟨e1,e2,e3,cells,c1,c2,λi hi=>?_⟩
  obtain⟨vs,d1,d2,d3,d4⟩:=c3 i hi
  rcases hg i hi with e|⟨e,e'⟩
  ·exact⟨vs,by rw[←e];exact d1,d2,d3,d4⟩
  ·refine⟨vs,?_,d2,d3,d4⟩
   rw[e] at d1
   rw[e',←d1]
   simp only[ai,hd]
   simp[den,Value.oneCell']
end Go.X
namespace Go.X.Tl
open Go Go.Proofs Go.X Go.X.Lt
open Go.X.Gr (aB az au bQ dj ca da hasB cD dW eA aE bZ iC bc bR code fq eD a_ eg B5 oG js jF fR oQ jU rA cE il yY Cu A5 wq o5 cC)
theorem HF (o:Nat→Int):∀n,mJ o n≤n
 |0=>Nat.le_refl _
 |n+1=>by have:=HF o n;unfold mJ;split<;>omega
structure Z6 where
 i:Nat
 cQ:Nat
 en:Nat→Et
 su:Int
 be:Int
 wo:Int
structure nF (x:Lo) (o:Nat→Int) (z:Z6):Prop where
 i:z.i≤x.nB
 cQ:z.cQ=mJ o z.i
 et:r9 x z.cQ z.en
 lt:∀j,j<z.cQ→(z.en j).1<z.i
 KU:my z.en z.cQ=z.su
 sb:z.su≤z.be
 bw:z.be≤z.wo
 w:z.wo≤(fQ (ed x) z.i).1
 b0:0≤z.su
theorem RW {f g:Nat→Et}:∀n,(∀j,j<n→f j=g j)→my f n=my g n
 |0,_=>rfl
 |n+1,h=>by unfold my;rw[RW n λj hj=>h j (by omega),h n (by omega)]
theorem adD {x:Lo}(hx:dp x)(i:Nat):(fQ (ed x) i).1≤100*(i:Int):=(LB i λj _=>zx hx _ _).1.2
theorem nF.wb {x:Lo}(hx:dp x){o:Nat→Int}{z:Z6}(h:nF x o z):z.wo≤600:=by
 have h1:=adD hx z.i
 have h2:=h.w
 have h3:=h.i
 have h4:=hx.nB
 omega
def lO:Z6:=⟨0,0,λ_=>(0,0,0),0,0,0⟩
theorem RF (x:Lo)(o:Nat→Int):nF x o lO:=⟨Nat.zero_le _,rfl,⟨by decide,λi hi=>absurd hi (Nat.not_lt_zero _),λi hi=>absurd hi (Nat.not_lt_zero _),λi hi=>absurd hi (Nat.not_lt_zero _),λi j hi hj=>absurd hj (Nat.not_lt_zero _)⟩,λj hj=>absurd hj (Nat.not_lt_zero _),rfl,by decide,by decide,Int.le_refl _,by decide⟩
def SL (z:Z6):Z6:={ z with i:=z.i+1 }
theorem nF.skip {x:Lo}(hx:dp x){o:Nat→Int}{z:Z6}(h:nF x o z)(hi:z.i<x.nB)(ho:o z.i<0):nF x o (SL z):=by
 refine⟨hi,?_,h.et,λj hj=>Nat.lt_succ_of_lt (h.lt j hj),h.KU,h.sb,h.bw,?_,h.b0⟩
 ·show z.cQ=mJ o z.i+if 0≤o z.i then 1 else 0
  rw[if_neg (by omega),h.cQ];rfl
 ·show z.wo≤(fQ (ed x) z.i).1+(ed x z.i).1
  have h1:=(zx hx (gf x z.i) (x.nL+1)).1.1
  have h2:=h.w
  have h3:0≤(ed x z.i).1:=h1
  omega
def iK (x:Lo)(o:Int):Nat:=(x.od o.toNat).1.toNat
structure Ml (x:Lo) (b:Nat) (o:Int):Prop where
 oN:o<(x.nO:Int)
 e:((iK x o:Nat):Int)=(x.od o.toNat).1
 w:iK x o<x.nL
 su:ea x b (iK x o)=true
 le:gy x b≤iK x o
 ss:ea x b (gy x b)=true
theorem aet {x:Lo}(hx:dp x){b:Nat}{o:Int}(h0:0≤o)(h:y6 x b o):Ml x b o:=by
 rcases h with h|⟨h1,h2,h3⟩
 ·omega
 have hod:=(hx.od o.toNat (by omega)).1
 have hw:iK x o<x.nL:=by unfold iK;omega
 have hle:=Sy hw h3
 exact⟨h2,by unfold iK;omega,hw,h3,hle,Sz (by omega)⟩
def CX (x:Lo)(o:Nat→Int)(z:Z6):Z6:=⟨z.i+1,z.cQ+1,λj=>if j<z.cQ then z.en j else(z.i,iK x (o z.i),x.bE (iK x (o z.i))),z.su+x.bE (iK x (o z.i)),z.be+x.bE (gy x z.i),z.wo+(ed x z.i).1⟩
theorem nF.take {x:Lo}(hx:dp x){o:Nat→Int}{z:Z6}(h:nF x o z)(hi:z.i<x.nB)(ho:0≤o z.i)(hw:Ml x z.i (o z.i)):nF x o (CX x o z):=by
 have hP:=hx.nP
 have hc:=HF o z.i
 have hcn:=h.cQ
 have hB:=hx.nB
 have PQ:=(hx.bE (iK x (o z.i)) (by have:=hw.w;omega)).1
 have wK:=RV hx hw.le (by have:=hw.w;omega)
 have hwo:=aeu hx hi (Nat.lt_of_le_of_lt hw.le hw.w) hw.ss
 have h1:=h.sb
 have h2:=h.bw
 have h3:=h.w
 have h4:=h.b0
 refine⟨hi,?_,⟨?_,λj hj=>?_,λj hj=>?_,λj hj=>?_,λj k hj hk=>?_⟩,λj hj=>?_,?_,?_,?_,?_,?_⟩
 ·show z.cQ+1=mJ o z.i+if 0≤o z.i then 1 else 0
  rw[if_pos ho,h.cQ]
 ·show z.cQ+1≤8
  omega
 all_goals simp only[CX]
 ·split
  ·rename_i h5;exact h.et.b j h5
  ·exact⟨hi,hw.w⟩
 ·split
  ·rename_i h5;exact h.et.su j h5
  ·exact hw.su
 ·split
  ·rename_i h5;exact h.et.bE j h5
  ·rfl
 ·have hk:k<z.cQ+1:=hk
  rw[if_pos (show j<z.cQ by omega)]
  split
  ·rename_i h5;exact h.et.HQ j k hj h5
  ·exact Nat.ne_of_lt (h.lt j (by omega))
 ·split
  ·rename_i h5;exact Nat.lt_succ_of_lt (h.lt j h5)
  ·exact Nat.lt_succ_self _
 ·unfold my
  rw[RW (g:=z.en) z.cQ λj hj=>by rw[if_pos hj],h.KU,if_neg (Nat.lt_irrefl _)]
 ·omega
 ·omega
 ·show _≤(fQ (ed x) z.i).1+(ed x z.i).1
  omega
 ·omega
theorem adE {x:Lo}(hx:dp x){b w:Nat}(hb:b<x.nB)(hw:w<x.nL)(h:ea x b w=true):Gr.qJ (gP x b) (LL x) (w:Int)=2∧Gr.gl (gP x b) (LL x) (Gr.qB (LL x) (w:Int))=0:=by
 have hL:w<(LL x).length:=by rw[Dd];exact hw
 have hg:=hx.gb b hb
 have hh:=hx.has b hb
 refine⟨?_,?_⟩
 ·rw[Gr.Sc hg hh hL]
  unfold ea at h
  have h:=of_decide_eq_true h
  exact if_pos h
 ·rw[Gr.J8 hL,Gr.AB hg,if_pos hh]
def mU (x:Lo)(b:Nat)(q n:Int):Lo:={ x with bl:=λj=>if j=b then oQ (x.bl j) q n else x.bl j }
theorem IC (x:Lo)(b:Nat)(q n:Int):gP (mU x b q n) b=oQ (gP x b) q n:=by
 unfold gP mU
 simp only[if_true]
 unfold oQ
 split
 ·rfl
 split
 ·rfl
 split
 ·rfl
 split<;>rfl
theorem OY (x:Lo){b j:Nat}(q n:Int)(h:j≠b):gP (mU x b q n) j=gP x j:=by
 unfold gP mU
 simp only[if_neg h]
theorem WR {x:Lo}(hx:dp x){b:Nat}{q:Int}(hq:0≤q∧q<5){t:B5}(hb:b<x.nB)(ht:fR (gP x b) t):dp (mU x b q (il (cE q) t))∧(gy x b<x.nL→ea x b (gy x b)=true→gy (mU x b q (il (cE q) t)) b≤gy x b):=by
 have hp:=Cu hq ht
 have Je:fR (gP (mU x b q (il (cE q) t)) b) t:=by rw[IC];exact(yY hq hp).2 ⟨ht,rfl⟩
 refine⟨⟨hx.nB,hx.nO,hx.g7,hx.nP,hx.gz,λj hj=>?_,hx.bE,hx.od,λj hj=>?_⟩,λh1 h2=>?_⟩
 ·have e:LL (mU x b q (il (cE q) t))=LL x:=rfl
  rw[e]
  by_cases Bo:j=b
  ·subst Bo
   rw[IC]
   exact A5 (hx.gb j hj) hq hp
  ·rw[OY _ _ _ Bo]
   exact hx.gb j hj
 ·by_cases Bo:j=b
  ·subst Bo
   exact wq.2 ⟨t,Je⟩
  ·rw[OY _ _ _ Bo]
   exact hx.has j hj
 ·refine Sy h1 (Gy.2 λt' P1=>?_)
  rw[IC] at P1
  exact Gy.1 h2 t' ((yY hq hp).1 P1).1
end Go.X.Tl
namespace Go.X.Tl
open Go Go.Proofs Go.X Go.X.Lt
open Go.X.Gr (aB az au bQ dj ca da hasB cD dW eA aE bZ iC bc bR code fq eD a_ eg B5 oG js jF fR oQ jU rA cE il yY Cu A5 wq o5 cC)
open Go.X.Wr (gF iW)
theorem Lj {i:Nat}(h:i<6):i=0∨i=1∨i=2∨i=3∨i=4∨i=5:=by omega
theorem AV {p:Prop}(h:p:=by repeat' (first|exact trivial|exact rfl|exact List.Perm.refl _|(intro i hi;first|exact⟨rfl,rfl⟩|exact rfl|(rcases Lj (Nat.lt_of_lt_of_le hi (by assumption)) with rfl|rfl|rfl|rfl|rfl|rfl<;>exact⟨rfl,rfl⟩))|(intro v m g h;exact h)|assumption|refine And.intro ?_ ?_)):p:=h
def va (n:Nat):Code→Code
 |.seq a b=>(match va n a with|.skip=>va n b|c=>c)
 |.cond _ a b=>(match va n a with|.skip=>va n b|c=>c)
 |.block _ a=>va n a
 |.loop a=>va n a
 |.region id ops f=>(match Nat.beq id n with|true=>.region id ops f|false=>.skip)
 |_=>.skip
def xP (p:Tp)(xs:Nat→aB):Lo:={ p.x0 with bl:=xs }
def norm (x:Lo):Lo:={ x with bl:=λj=>{ x.bl j with st:=0 } }
theorem KG {x:Lo}(h:dp x):dp (norm x):=⟨h.nB,h.nO,h.g7,h.nP,h.gz,h.gb,h.bE,h.od,h.has⟩
theorem abp {x:Lo}{n:Nat}{en:Nat→Et}(h:r9 x n en):r9 (norm x) n en:=⟨h.le,h.b,h.su,h.bE,h.HQ⟩
structure Fx where
 xs:Nat→aB
 tq:Nat→B5
 gx:Int
 o:Nat→Int
 v1:Int
 v2:Int
def F6 (p:Tp)(f:Fx)(z:Z6):List (Nat × FE):=[(3,⟨[],.si .u8 p.pt⟩),(10,⟨[],.sp 11 0⟩),(11,⟨[],.sl 14⟩),(24,⟨[],.si .i64 f.gx⟩),(27,⟨[],.sp 16 0⟩),(29,⟨[],.sl 17⟩),(30,⟨[],.si .i64 z.su⟩),(31,⟨[],.si .i64 z.be⟩),(32,⟨[],.si .i64 z.wo⟩),(230,⟨[],.sl 15⟩),(231,⟨[],.si .i64 (p.x0.nB:Int)⟩),(232,⟨[],.si .i64 (z.i:Int)⟩)]
def H6 (p:Tp)(f:Fx)(z:Z6):List (Nat × HB):=(11,.cells 27 (e_ 1 12 3 4 p.x0))::(12,.vec 37 10 p.x0.nB λj=>dG (f.xs j))::(14,.vec 24 1 p.x0.nB λi=>[.sl (18+i)])::(15,.vec 3 1 p.x0.nB λj=>iC (f.o j))::(16,.cells 36 [.si .i64 f.v1,.si .i64 f.v2])::(17,.vec 62 3 z.cQ λj=>j_ (jd (z.en j))) ::
 (18,.ro 1 5 (a_ (f.tq 0)))::(19,.ro 1 5 (a_ (f.tq 1)))::(20,.ro 1 5 (a_ (f.tq 2)))::(21,.ro 1 5 (a_ (f.tq 3)))::(22,.ro 1 5 (a_ (f.tq 4)))::(23,.ro 1 5 (a_ (f.tq 5)))::bs p
structure Fd where
 n:Nat
 s:Nat
 w1:Int
 w2:Int
def F7 (p:Tp)(f:Fx)(z:Z6)(d:Fd):List (Nat × FE):=(33,⟨[],.si .i64 (z.i:Int)⟩)::(35,⟨[],.si .i64 (d.n:Int)⟩)::(36,⟨[],.si .i64 (d.s:Int)⟩)::(37,⟨[],.si .i64 0⟩)::(38,⟨[],.sp 24 0⟩)::(39,⟨[],.si .i64 0⟩)::(40,⟨[],.si .i64 2⟩)::(41,⟨[],.si .i64 0⟩)::F6 p f z
def H7 (p:Tp)(f:Fx)(z:Z6)(d:Fd):List (Nat × HB):=(24,.cells 36 [.si .i64 d.w1,.si .i64 d.w2])::H6 p f z
section
variable {G:cp}{p:Tp}{f:Fx}{z:Z6}{d:Fd}{K:Ex→St→Prop}
theorem aaf (b:B5)(h:dd b.1∧dd b.2.1∧dd b.2.2.1∧dd b.2.2.2.1∧dd b.2.2.2.2):Gr.jq 5 (a_ b):=λi hi=>⟨rfl,by
 simp only[dd] at h
 obtain⟨h0,h1,h2,h3,h4⟩:=h
 show Gr.sm (eg b i)
 unfold Gr.sm eg
 split<;>omega⟩
theorem ab9 (hG:∀j,8≤j→G.ρ j=none)(hB:p.x0.nB≤6)(hL:p.x0.nL≤4)(hi:z.i<p.x0.nB)(hs:(0:Int)≤(d.s:Int)∧d.s≤d.n)(hb:∀j,j<p.x0.nB→dd (f.tq j).1∧dd (f.tq j).2.1∧dd (f.tq j).2.2.1∧dd (f.tq j).2.2.2.1∧dd (f.tq j).2.2.2.2)(ho:cC (LL p.x0) (o5 (f.tq z.i))≤d.s) :
  aX (X3 G) (va 56 (code Tryz.f3)) ⟨F7 p f z d,[],H7 p f z d,25,[]⟩ (GV 8 (λ_:Unit=>⟨(304,⟨[],.sb false⟩)::F7 p f z d,[],H7 p f z d,25,[]⟩) K):=by
 obtain⟨i,cQ,en,su,be,wo⟩:=z
 have hi:i<p.x0.nB:=hi
 have YK:(i:Int)≤(p.x0.nB:Int)-1:=by omega
 have uB:(0:Int)≤(i:Int):=by omega
 have sY:(i:Int)<(p.x0.nB:Int):=by omega
 have Ym:=aaf _ (hb i hi)
 have ho:cC (LL p.x0) (o5 (f.tq i))≤d.s:=ho
 have ho:decide ((d.s:Int)<((cC (LL p.x0) (o5 (f.tq i)):Nat):Int))=false:=decide_eq_false (by omega)
 have BL:decide ((d.s:Int)<0)=false:=decide_eq_false (by omega)
 have ew:decide ((d.n:Int)<(d.s:Int))=false:=decide_eq_false (by omega)
 have hv:(!decide ((0:Int)=0)||!decide ((0:Int)=0)||!decide ((0:Int)=0)||decide ((d.s:Int)<0)||decide ((d.n:Int)<(d.s:Int))||!decide ((2:Int)=2)||decide ((d.s:Int)<((cC (LL p.x0) (o5 (f.tq i)):Nat):Int)))=false:=by rw[BL,ew,ho];rfl
 have dU:=hv.symm
 clear BL ew ho
 rcases Lj (Nat.lt_of_lt_of_le hi hB) with rfl|rfl|rfl|rfl|rfl|rfl
 all_goals
  refine cU (cd G) bP [0,1,3,7,15,31,63,127,255,511,1023,2047,4095,8191,16383,32767,32767,131071,262143,524287,1048575,2097151,4194303,8388607,16777215,16777215,67108863,16777215,16777215,419430399,956301311,2147483647,16777215,8589934591,17179869183] [] 35 (by kernel_rfl) ?_
  refine aa.mk (bZ ⟨lX (xP p f.xs),uB,YK⟩) ?_
  refine aa.mk (bZ ⟨uB,sY⟩) ?_
  refine aa.mk (bZ ⟨⟨dj _ _,by omega⟩,Ym,by decide⟩) ?_
  exact⟨(),λj=>j,AU,AV,rfl,rfl,rfl,rfl,trivial⟩
end
end Go.X.Tl
namespace Go.X
open Go
section
variable {X:Cx}{st:St}
theorem WD (id n s es len off:Nat)(k j:Int){Tr d:Nat}{get:Nat→List SV}{kk:IntKind}{e:TypeId}{te:TI}{ops:List Oper}{i:Nat}{o:Oper}{r:List Oper}{Q:Exit→Act→World→Prop}{K:St→Prop}{Kp:List PanicEntry→St→Prop}{t:Nat}{x y:Operand}{ti:TI}
  (hX:X.Ok) (hC:dm X Q K Kp) (hi:ops.drop i=o::r) (hc:o.op=.indexAddr t x y) (hg:o.guard=none) (hp:eF st.gs X.nt o.dst=false) (bz:o.dst=some d) (ht:X.T t=some ti) (hd:ti.desc=.array len e) (ff:X.T e=some te) (hs:te.size=es)
  (h1:ev (findF st.F) [] x=some (.se id k 0)) (h2:ev (findF st.F) [] y=some (.si kk j)) (h3:ab st.H id=some (.vec Tr s n get)) (hk:0≤k∧k<(n:Int)) (hj:0≤j∧j<(len:Int)) (ho:j.toNat*es=off)
  (h:eQ st λF gs H nx D=>c7 X ops Q K Kp (i+1) r ⟨(d,⟨[],.se id k off⟩)::F,gs,H,nx,D⟩):eB X ops Q K Kp i o r st:=by
 refine kg hX hC hi (by rw[hc];intro c h;cases h) hg fun ρ a w hm=>?_
 have rE:bu a []:=λx hx=>by cases hx
 have e1:=aQ hm.fm rE h1
 have e2:=aQ hm.fm rE h2
 obtain⟨nm,k1,k2⟩:=hm.hm.ok _ _ h3
 have kl:k.toNat<n:=by omega
 cases nm<;>simp only[ao] at k2
 ·obtain⟨_,_,_,rfl,_⟩:=k2;omega
 rename_i b n' c s'
 obtain⟨rfl,rfl,_⟩:=k2
 simp only[den,k1,kl,if_true,Nat.add_zero,Option.some.injEq] at e1
 simp only[den,Option.some.injEq] at e2
 have cr:=J5 (P:=X.P) hX.dx ht hd ff (k:=kk) hj ⟨b,k.toNat*s',none⟩ w
 refine⟨.pointer (some ⟨b,k.toNat*s'+off,none⟩),w,ρ,_,.inl ?_,hm.put (d:=o.dst) (s:=.se id k off) hp (by simp only[den,k1,kl,if_true]),?_⟩
 ·simp only[execOp,hc,←e1,←e2]
  rw[hs] at cr
  have:(⟨b,k.toNat*s',none⟩:Addr).add (j.toNat*es)=⟨b,k.toNat*s'+off,none⟩:=by rw[oM,ho]
  rw[this] at cr
  exact cy cr
 ·rw[eG] at h;rw[bz];exact h
end
end Go.X
namespace Go.X.Tl
open Go Go.Proofs Go.X Go.X.Lt
open Go.X.Gr (aB az au bQ dj ca da hasB cD dW eA aE bZ iC bc bR code fq eD a_ eg B5 oG js jF fR oQ jU rA cE il yY Cu A5 wq o5 cC)
open Go.X.Wr (gF iW)
def F8 (p:Tp)(f:Fx)(z:Z6)(s:Nat)(q:Int):List (Nat × FE):=(33,⟨[],.si .i64 (z.i:Int)⟩)::(36,⟨[],.si .i64 (s:Int)⟩)::(42,⟨[],.sp 24 0⟩)::(43,⟨[],.si .i64 q⟩)::F6 p f z
def H8 (p:Tp)(f:Fx)(z:Z6)(y:Lo):List (Nat × HB):=(24,.cells 27 (e_ 1 25 3 4 p.x0))::(25,.vec 37 10 p.x0.nB λj=>dG (y.bl j))::H6 p f z
section
variable {G:cp}{p:Tp}{f:Fx}{z:Z6}{s:Nat}{K:Ex→St→Prop}
theorem ab' (hG:∀j,8≤j→G.ρ j=none)(hB:p.x0.nB≤6)(hi:z.i<p.x0.nB){q:Int}(hq:0≤q∧q<5){Y:Lo}
  (hg:∀j,j<p.x0.nB→dG (Y.bl j)=if j=((z.i:Nat):Int).toNat then iZ (dG (f.xs j)) (q.toNat*2) [.si .i64 (eg (f.tq z.i) q.toNat),.si .i64 (eg (f.tq z.i) q.toNat)] else dG (f.xs j)) :
  aX (X3 G) (va 63 (code Tryz.f3)) ⟨F8 p f z s q,[],H8 p f z (xP p f.xs),26,[]⟩ (GV 8 (λ_:Unit=>⟨F8 p f z s q,[],H8 p f z Y,26,[]⟩) K):=by
 obtain⟨i,cQ,en,su,be,wo⟩:=z
 have hi:i<p.x0.nB:=hi
 have uB:(0:Int)≤(i:Int):=by omega
 have sY:(i:Int)<(p.x0.nB:Int):=by omega
 have tg:0≤q∧q<((5:Nat):Int):=hq
 rcases Lj (Nat.lt_of_lt_of_le hi hB) with rfl|rfl|rfl|rfl|rfl|rfl
 all_goals
  rcases(show q=0∨q=1∨q=2∨q=3∨q=4 by omega) with rfl|rfl|rfl|rfl|rfl
  all_goals
   refine cU (cd G) bP [0,1,0,0,0,0,48,112,0,496,1008,0,0,6144,14336,0,63488,129024,262128,7,1048575,2097151] [] 20 (by kernel_rfl) ?_
   refine aa.mk ⟨uB,sY⟩ ?_
   refine aa.mk tg ?_
   refine aa.mk ⟨uB,sY⟩ ?_
   refine aa.mk tg ?_
   refine aa.mk ⟨uB,sY⟩ ?_
   refine WD 25 p.x0.nB 10 2 5 _ _ _ (cd G) aj rfl rfl rfl rfl rfl rfl rfl rfl rfl rfl rfl rfl ⟨uB,sY⟩ tg rfl ?_
   refine oZ 25 37 10 p.x0.nB _ _ _ (λj=>dG (Y.bl j)) _ (cd G) aj rfl rfl rfl rfl rfl rfl rfl rfl rfl rfl ⟨uB,sY⟩ (Nat.le_of_ble_eq_true rfl) hg ?_
   exact⟨(),λj=>j,AU,AV,rfl,rfl,rfl,rfl,trivial⟩
end
theorem WQ (p:Tp)(f:Fx){i:Nat}{q:Int}(hq:0≤q∧q<5)(j:Nat) :
  dG ((mU (xP p f.xs) i q (il (cE q) (f.tq i))).bl j)=if j=((i:Nat):Int).toNat then iZ (dG (f.xs j)) (q.toNat*2) [.si .i64 (eg (f.tq i) q.toNat),.si .i64 (eg (f.tq i) q.toNat)] else dG (f.xs j):=by
 rw[Int.toNat_natCast]
 show dG (if j=i then oQ (f.xs j) q (il (cE q) (f.tq i)) else f.xs j)=_
 by_cases h:j=i
 ·rw[if_pos h,if_pos h]
  rcases(show q=0∨q=1∨q=2∨q=3∨q=4 by omega) with rfl|rfl|rfl|rfl|rfl<;>rfl
 ·rw[if_neg h,if_neg h]
def F5 (p:Tp)(f:Fx)(z:Z6):List (Nat × FE):=[(10,⟨[],.sp 11 0⟩),(24,⟨[],.si .i64 f.gx⟩),(27,⟨[],.sp 16 0⟩),(29,⟨[],.sl 17⟩),(30,⟨[],.si .i64 z.su⟩),(31,⟨[],.si .i64 z.be⟩),(32,⟨[],.si .i64 z.wo⟩),(231,⟨[],.si .i64 (p.x0.nB:Int)⟩),(232,⟨[],.si .i64 (z.i:Int)⟩)]
def H5 (p:Tp)(f:Fx)(z:Z6):List (Nat × HB):=(11,.cells 27 (e_ 1 12 3 4 p.x0))::(12,.vec 37 10 p.x0.nB λj=>dG (f.xs j))::(16,.cells 36 [.si .i64 f.v1,.si .i64 f.v2])::(17,.vec 62 3 z.cQ λj=>j_ (jd (z.en j)))::bs p
theorem acV {X:Cx}{c:Code}{st:St}{K:Ex→St→Prop}{ι:Type}(S:ι→St)(x:Ex)(h:∀K':Ex→St→Prop,(∀i,K' x (S i))→aX X c st K')(hk:∀i,K x (S i)):aX X c st K:=h K hk
structure L5 (p:Tp) (f:Fx):Prop where
 hx:dp (xP p f.xs)
 tq:∀j,j<p.x0.nB→fR (gP (xP p f.xs) j) (f.tq j)
 o:∀j,j<p.x0.nB→y6 (xP p f.xs) j (f.o j)
def wZ (x:Lo)(o:Nat→Int)(z:Z6):Z6:={ CX x o z with i:=z.i }
theorem Ty (x:Lo)(S:Nat):∀n,fb (norm x) S n=fb x S n
 |0=>rfl
 |n+1=>by
  have h:=Ty x S n
  have e:nr (norm x) n=nr x n:=rfl
  unfold fb
  rw[h,e]
theorem LW (x:Lo)(b:Nat):ed (norm x) b=ed x b:=Ty x _ _
theorem Sx (x:Lo)(b:Nat):gy (norm x) b=gy x b:=rfl
section
variable {G:cp}{p:Tp}{f:Fx}{K:Ex→St→Prop}
theorem V1 (hG:∀j,8≤j→G.ρ j=none)(hp:zH p)(hf:L5 p f)
  (hK:∀z,nF (xP p f.xs) f.o z→z.i=p.x0.nB→K (.exit 6) ⟨(233,⟨[],.sb false⟩)::F5 p f z,[],H5 p f z,18,[]⟩) :
  aX (X3 G) (iW 6 (code Tryz.f3)) ⟨F6 p f lO,[],H6 p f lO,24,[]⟩ K:=by
 have hx:=hf.hx
 have hN:=KG hx
 have hB:p.x0.nB≤6:=hx.nB
 have hL:p.x0.nL≤4:=hx.nL.2
 have hP:p.x0.nP=p.x0.nL:=hx.nP
 have hO:p.x0.nO≤4:=hx.nO
 refine Q9 8 (λz:{z:Z6 // nF (xP p f.xs) f.o z}=>⟨F6 p f z.1,[],H6 p f z.1,24,[]⟩) (λz=>p.x0.nB-z.1.i) hG ⟨lO,RF _ _⟩ (λj=>j) ⟨AU,AV,rfl,rfl,rfl,rfl,trivial⟩ ?_
 rintro⟨z,hz⟩
 have wO:z.i≤p.x0.nB:=hz.i
 have Z2:=HF f.o z.i
 have ae2:=hz.cQ
 rcases Nat.lt_or_ge z.i p.x0.nB with hi|kj
 case inr =>
  have Z3:z.i=p.x0.nB:=by omega
  refine kF (af:=⟨F5 p f z,[],H5 p f z,18,[]⟩) 8 (λj=>j) hG ⟨AU,AV,rfl,rfl,rfl,rfl,trivial⟩ ?_
  refine cW (cd G) _ _ _ ?_
  have hd:decide ((z.i:Int)<(p.x0.nB:Int))=false:=decide_eq_false (by omega)
  refine Br.mk (λh=>?_) (λ_=>?_)
  ·have h:(z.i:Int)<(p.x0.nB:Int):=of_decide_eq_true h
   omega
  refine(show K (.exit 6) ⟨(233,⟨[],.sb (decide ((z.i:Int)<(p.x0.nB:Int)))⟩)::F5 p f z,[],H5 p f z,18,[]⟩ from ?_)
  rw[hd]
  exact hK z hz Z3
 refine fi (cW (cd G) _ _ _ ?_)
 refine(show fp _ _ _ .normal _ from ?_)
 refine fi (cW (cd G) _ _ _ ?_)
 refine Br.mk (λh=>?_) (λh=>?_)
 case refine_2 =>
  have h:¬(z.i:Int)<(p.x0.nB:Int):=of_decide_eq_false h
  omega
 have h:(z.i:Int)<(p.x0.nB:Int):=of_decide_eq_true h
 refine(show fp _ _ _ .normal _ from ?_)
 refine fi (SA (fi (cW (cd G) _ _ _ ?_)))
 refine aa.mk (show(0:Int)≤(z.i:Int)∧(z.i:Int)<(p.x0.nB:Int) from⟨by omega,h⟩) ?_
 refine(show fp _ _ _ .normal _ from ?_)
 refine fi (cW (cd G) _ _ _ ?_)
 refine Br.mk (λh1=>?_) (λh1=>?_)
 ·have h1:f.o z.i<0:=of_decide_eq_true h1
  refine(show fp _ _ _ .normal _ from ?_)
  refine cW (cd G) _ _ _ ?_
  exact aa.mk (show ae .i64 ((z.i:Int)+1) from⟨by omega,by omega⟩) ⟨⟨SL z,hz.skip hx hi h1⟩,(λj=>j),⟨AU,AV,rfl,rfl,rfl,rfl,trivial⟩,by show p.x0.nB-(z.i+1)<p.x0.nB-z.i;omega⟩
 have h1:¬f.o z.i<0:=of_decide_eq_false h1
 have hw:=aet hx (by omega) (hf.o z.i hi)
 have hwn:iK (xP p f.xs) (f.o z.i)<p.x0.nL:=hw.w
 have Zf:f.o z.i<(p.x0.nO:Int):=hw.oN
 refine(show fp _ _ _ .normal _ from ?_)
 refine fi (cW (cd G) _ _ _ ?_)
 refine Br.mk (λh2=>?_) (λh2=>?_)
 ·have h2:(p.x0.nO:Int)≤f.o z.i:=of_decide_eq_true h2
  omega
 refine(show fp _ _ _ .normal _ from ?_)
 refine fi (cW (cd G) _ _ _ ?_)
 refine aa.mk (show(0:Int)≤f.o z.i∧f.o z.i<(p.x0.nO:Int) from⟨by omega,Zf⟩) ?_
 refine(show fp _ _ _ .normal _ from ?_)
 refine fi (cW (cd G) _ _ _ ?_)
 refine aa.mk (show Cells _ _ _ _ _ _ _ _∧dp (norm (xP p f.xs))∧(0:Int)≤(z.i:Int)∧(z.i:Int)≤(p.x0.nB:Int)-1 from⟨lX (xP p f.xs),hN,by omega,by omega⟩) ?_
 refine(show fp _ _ _ .normal _ from ?_)
 refine fi (cW (cd G) _ _ _ ?_)
 refine aa.mk (show Cells _ _ _ _ _ _ _ _∧dp (norm (xP p f.xs))∧(0:Int)≤(z.i:Int)∧(z.i:Int)≤(p.x0.nB:Int)-1 from⟨lX (xP p f.xs),hN,by omega,by omega⟩) ?_
 refine(show fp _ _ _ .normal _ from ?_)
 refine fi (cW (cd G) _ _ _ ?_)
 refine aa.mk (show Cells _ _ _ _ _ _ _ _∧(0:Int)≤(z.i:Int)∧(z.i:Int)≤(p.x0.nB:Int)-1 from⟨lX (xP p f.xs),by omega,by omega⟩) ?_
 obtain⟨BL,ew⟩:=adE hx hi hw.w hw.su
 have HS:=hw.e
 rw[HS] at BL ew
 refine aa.mk (show bQ _ _∧p.x0.nL≤1000000 from⟨dj _ _,by omega⟩) ?_
 obtain⟨sv,tl⟩:∃sv,gy (xP p f.xs) z.i=sv:=⟨_,rfl⟩
 obtain⟨W,hW⟩:∃W,ed (xP p f.xs) z.i=W:=⟨_,rfl⟩
 have ZI:((gy (norm (xP p f.xs)) z.i:Nat):Int)=(sv:Int):=by rw[Sx,tl]
 have Ya:(ed (norm (xP p f.xs)) z.i).1=W.1:=by rw[LW,hW]
 have Yb:(ed (norm (xP p f.xs)) z.i).2=W.2:=by rw[LW,hW]
 refine(show fp _ _ _ .normal _ from ?_)
 have V':=HS.symm
 refine kF (af:=⟨F7 p f z ⟨iK (xP p f.xs) (f.o z.i),sv,W.1,W.2⟩,[],H7 p f z ⟨iK (xP p f.xs) (f.o z.i),sv,W.1,W.2⟩,25,[]⟩) 8 (λj=>j) hG ⟨AU,AV,rfl,rfl,rfl,rfl,trivial⟩ ?_
 clear BL ew HS V' ZI Ya Yb
 have pC:=hw.le
 have BE:=abv (hf.tq z.i hi) (Nat.lt_of_le_of_lt pC hw.w)
 rw[tl] at pC BE
 have Pk:∀j,j<p.x0.nB→dd (f.tq j).1∧dd (f.tq j).2.1∧dd (f.tq j).2.2.1∧dd (f.tq j).2.2.2.1∧dd (f.tq j).2.2.2.2:=λj hj=>(RG (hf.tq j hj) (R1 (hx.gb j hj)).1).2
 refine fi (Lc 8 _ hG (ab9 hG hB hL hi ⟨Int.natCast_nonneg _,pC⟩ Pk BE) λ_=>?_)
 refine cW (cd G) _ _ _ ?_
 refine Br.mk (λh=>by cases h) (λ_=>?_)
 refine(show fp _ _ _ .normal _ from ?_)
 refine fi (cW (cd G) _ _ _ ?_)
 refine aa.mk (show(0:Int)≤((iK (xP p f.xs) (f.o z.i):Nat):Int)∧((iK (xP p f.xs) (f.o z.i):Nat):Int)<(p.x0.nP:Int) from⟨by omega,by omega⟩) ?_
 refine mQ (Te:=0) 17 25 z.cQ 1 _ _ (λj=>j_ (jd ((CX (xP p f.xs) f.o z).en j))) (cd G) aj rfl rfl rfl rfl rfl rfl rfl rfl rfl rfl rfl rfl (by decide) (by decide) rfl rfl rfl rfl (by omega) (λk hk=>?_) ?_
 ·show j_ (jd (if k<z.cQ then z.en k else _))=_
  rcases Nat.lt_or_ge k z.cQ with h5|h5
  ·rw[if_pos h5,if_pos h5]
  ·obtain rfl:k=z.cQ:=by omega
   rw[if_neg (by omega),if_neg (by omega),show z.cQ-z.cQ=0 by omega]
   rfl
 refine(show fp _ _ _ .normal _ from ?_)
 refine fi (cU (cd G) bP [0,0,2,0,14,30,63,0,0,256,0,1792,3840,8064,0,0,32768,114688,127,278527,1048575] [] 21 (by kernel_rfl) ?_)
 have tc:=(hx.bE (iK (xP p f.xs) (f.o z.i)) (show iK (xP p f.xs) (f.o z.i)<p.x0.nP by omega)).1
 have wK:=(hx.bE sv (show sv<p.x0.nP by omega)).1
 have tc:0≤p.x0.bE (iK (xP p f.xs) (f.o z.i))∧p.x0.bE (iK (xP p f.xs) (f.o z.i))≤100:=tc
 have wK:0≤p.x0.bE sv∧p.x0.bE sv≤100:=wK
 have IT:=(zx hx (gf (xP p f.xs) z.i) ((xP p f.xs).nL+1)).1
 have IT:0≤(ed (xP p f.xs) z.i).1∧(ed (xP p f.xs) z.i).1≤100:=IT
 rw[hW] at IT
 have hz0:=hz.b0
 have rF:=hz.sb
 have lE:=hz.bw
 have hz3:=hz.wb hx
 refine aa.mk (show(0:Int)≤((iK (xP p f.xs) (f.o z.i):Nat):Int)∧((iK (xP p f.xs) (f.o z.i):Nat):Int)<(p.x0.nP:Int) from⟨by omega,by omega⟩) ?_
 refine aa.mk (show ae .i64 (z.su+p.x0.bE (iK (xP p f.xs) (f.o z.i))) from⟨by omega,by omega⟩) ?_
 refine aa.mk (show(0:Int)≤(sv:Int)∧(sv:Int)<(p.x0.nP:Int) from⟨by omega,by omega⟩) ?_
 refine aa.mk (show ae .i64 (z.be+p.x0.bE sv) from⟨by omega,by omega⟩) ?_
 refine aa.mk (show ae .i64 (z.wo+W.1) from⟨by omega,by omega⟩) ?_
 refine(show fp _ _ _ .normal _ from ?_)
 have ebe:z.be+p.x0.bE sv=(wZ (xP p f.xs) f.o z).be:=by
  show z.be+p.x0.bE sv=z.be+p.x0.bE (gy (xP p f.xs) z.i)
  rw[tl]
 have ewo:z.wo+W.1=(wZ (xP p f.xs) f.o z).wo:=by
  show z.wo+W.1=z.wo+(ed (xP p f.xs) z.i).1
  rw[hW]
 refine kF (af:=⟨(33,⟨[],.si .i64 (z.i:Int)⟩)::(36,⟨[],.si .i64 (sv:Int)⟩)::F6 p f (wZ (xP p f.xs) f.o z),[],H6 p f (wZ (xP p f.xs) f.o z),24,[]⟩) 8 (λj=>match j with|17=>26|j=>j) hG ⟨AU,AV,rfl,rfl,rfl,rfl,trivial⟩ ?_
 refine fi (cW (cd G) _ _ _ ?_)
 refine(show fp _ _ _ .normal _ from ?_)
 refine fi (cW (cd G) _ _ _ ?_)
 refine vS 25 12 p.x0.nB (λj=>dG (f.xs j)) (cd G) aj rfl rfl rfl rfl rfl rfl rfl rfl rfl rfl rfl rfl (by decide) (by decide) rfl rfl rfl rfl (by decide) (by omega) ?_
 have k9:=hp.pt
 obtain⟨q,hq⟩:∃q,p.pt.tmod 5=q:=⟨_,rfl⟩
 have E1:=Int.tmod_nonneg 5 k9.1
 have BH:=Int.tmod_lt_of_pos p.pt (show(0:Int)<5 by decide)
 rw[hq] at E1 BH
 refine(show fp _ _ _ .normal _ from ?_)
 refine fi (cW (cd G) _ _ _ ?_)
 refine aa.mk (show ae .i64 p.pt from⟨by omega,by omega⟩) ?_
 refine aa.mk (show(5:Int)≠0 by decide) ?_
 refine(show fp _ _ _ .normal _ from ?_)
 refine kF (af:=⟨F8 p f (wZ (xP p f.xs) f.o z) sv q,[],H8 p f (wZ (xP p f.xs) f.o z) (xP p f.xs),26,[]⟩) 8 (λj=>match j with|25=>26|j=>j) hG ⟨AU,AV,rfl,rfl,rfl,rfl,trivial⟩ ?_
 refine Lc 8 _ hG (ab' (z:=wZ (xP p f.xs) f.o z) (Y:=mU (xP p f.xs) z.i q (il (cE q) (f.tq z.i))) hG hB hi ⟨E1,BH⟩ (λj _=>WQ p f ⟨E1,BH⟩ j)) λ_=>?_
 obtain⟨hY,Yf⟩:=WR hx (q:=q) ⟨E1,BH⟩ hi (hf.tq z.i hi)
 refine fi (cW (cd G) _ _ _ ?_)
 have X8:=KG hY
 have ZJ:=Yf (by rw[tl];exact Nat.lt_of_le_of_lt pC hw.w) hw.ss
 rw[tl,←Sx] at ZJ
 refine aa.mk (show Cells _ _ _ _ _ _ _ _∧dp (norm (mU (xP p f.xs) z.i q (il (cE q) (f.tq z.i))))∧(0:Int)≤(z.i:Int)∧(z.i:Int)≤(p.x0.nB:Int)-1 from⟨lX (mU (xP p f.xs) z.i q (il (cE q) (f.tq z.i))),X8,by omega,by omega⟩) ?_
 refine(show fp _ _ _ .normal _ from ?_)
 refine cW (cd G) _ _ _ ?_
 refine Br.mk (λh6=>?_) (λ_=>?_)
 ·exfalso
  have h6:(!decide ((0:Int)=0)||decide ((sv:Int)<((gy (norm (mU (xP p f.xs) z.i q (il (cE q) (f.tq z.i)))) z.i:Nat):Int)))=true:=h6
  rw[decide_eq_false (show ¬(sv:Int)<((gy (norm (mU (xP p f.xs) z.i q (il (cE q) (f.tq z.i)))) z.i:Nat):Int) by omega)] at h6
  cases h6
 refine(show fp _ _ _ .normal _ from ?_)
 refine cW (cd G) _ _ _ ?_
 exact aa.mk (show ae .i64 ((z.i:Int)+1) from⟨by omega,by omega⟩) ⟨⟨CX (xP p f.xs) f.o z,hz.take hx hi (by omega) hw⟩,(λj=>j),⟨AU,AV,rfl,rfl,rfl,rfl,trivial⟩,by show p.x0.nB-(z.i+1)<p.x0.nB-z.i;omega⟩
theorem V4 (hG:∀j,8≤j→G.ρ j=none)(h0:p.x0.nB=0)
  (hK:∀z,nF (xP p f.xs) f.o z→z.i=p.x0.nB→K (.exit 6) ⟨(233,⟨[],.sb false⟩)::F5 p f z,[],H5 p f z,18,[]⟩) :
  aX (X3 G) (iW 6 (code Tryz.f3)) ⟨F5 p f lO,[],H5 p f lO,18,[]⟩ K:=by
 refine cm (cd G) 8 (λ_:Unit=>⟨F5 p f lO,[],H5 p f lO,18,[]⟩) (λ_=>0) hG () (λj=>j) ⟨AU,AU,rfl,rfl,rfl,rfl,trivial⟩ ?_
 rintro -
 have hd:decide (((0:Nat):Int)<(p.x0.nB:Int))=false:=decide_eq_false (by omega)
 refine Br.mk (λh=>?_) (λ_=>?_)
 ·have h:((0:Nat):Int)<(p.x0.nB:Int):=of_decide_eq_true h
  omega
 refine(show K (.exit 6) ⟨(233,⟨[],.sb (decide (((0:Nat):Int)<(p.x0.nB:Int)))⟩)::F5 p f lO,[],H5 p f lO,18,[]⟩ from ?_)
 rw[hd]
 exact hK lO (RF _ _) h0.symm
end
end Go.X.Tl
namespace Go.X
open Go
theorem WH {X:Cx}{st:St}{ops:List Oper}{i:Nat}{o:Oper}{r:List Oper}{Q:Exit→Act→World→Prop}{Kn:St→Prop}{Kp:List PanicEntry→St→Prop}
  {x y z u v:Operand} {c:Call} {d:Nat} {k:IntKind} {p q s e f:Int} (hX:X.Ok) (hC:dm X Q Kn Kp) (hi:ops.drop i=o::r)
  (hc:o.op=.call c) (bi:c.callee=.builtin .max) (lr:c.args=#[x,y,z,u,v]) (hg:o.guard=none) (bz:o.dst=some d) (hp:eF st.gs X.nt (some d)=false)
  (h1:ev (findF st.F) [] x=some (.si k p)) (h2:ev (findF st.F) [] y=some (.si k q)) (h3:ev (findF st.F) [] z=some (.si k s)) (h4:ev (findF st.F) [] u=some (.si k e)) (h5:ev (findF st.F) [] v=some (.si k f))
  (h:eQ st λF gs H nx D=>c7 X ops Q Kn Kp (i+1) r ⟨(d,⟨[],.si k (max (max (max (max p q) s) e) f)⟩)::F,gs,H,nx,D⟩):eB X ops Q Kn Kp i o r st:=by
 refine kg hX hC hi (by rw[hc];intro c h;cases h) hg fun ρ a w hm=>?_
 have hs:bu a []:=λx hx=>by cases hx
 have e1:=aQ hm.fm hs h1
 have e2:=aQ hm.fm hs h2
 have e3:=aQ hm.fm hs h3
 have e4:=aQ hm.fm hs h4
 have e5:=aQ hm.fm hs h5
 simp only[den,Option.some.injEq] at e1 e2 e3 e4 e5
 rw[eG] at h
 refine⟨.int k (max (max (max (max p q) s) e) f),w,ρ,_,.inl ?_,hm.put (d:=o.dst) (s:=.si k (max (max (max (max p q) s) e) f)) (by rw[bz];exact hp) rfl,by rw[bz];exact h⟩
 have ju:c.args.map a.eval=#[a.eval x,a.eval y,a.eval z,a.eval u,a.eval v]:=by rw[lr];simp
 obtain⟨cs,fI⟩:∃cs:Array Bool,∀w,(resolve a.eval c o.type).run X.P w=.ok { target:=.builtin .max c.argTypes o.type cs,args:=#[a.eval x,a.eval y,a.eval z,a.eval u,a.eval v] } w :=
  ⟨_,λw=>by simp only[resolve,bi,ju];rfl⟩
 simp only[execOp,hc,Sem.run_bind,fI]
 simp only[Result.andThen,invoke,builtin]
 refine cy ?_
 have Zm:∀a b:Int,max a b=if b>a then b else a:=λa b=>by
  split<;>omega
 rw[←e1,←e2,←e3,←e4,←e5]
 simp only[Zm,Builtin.max_]
 rfl
end Go.X
namespace Go.X.Tl
open Go Go.Proofs Go.X Go.X.Lt
open Go.X.Gr (aB az au bQ dj ca da hasB cD dW eA aE bZ iC bc bR code fq eD a_ eg B5 oG js jF fR oQ jU rA cE il yY Cu A5 wq o5 cC)
open Go.X.Wr (gF iW)
open Go.X.W (ll dA CO Dz CN zO)
def rl (p:Tp)(xs:Nat→aB)(TL:List Gr.En):Fx:=⟨xs,λj=>tr TL (if j<p.x0.nB then j else 0),(jr (norm (xP p xs))).gx,(jr (norm (xP p xs))).o,(fQ (ed (norm (xP p xs))) p.x0.nB).1,(fQ (ed (norm (xP p xs))) p.x0.nB).2⟩
def TK (p:Tp)(f:Fx)(TL:List Gr.En):List (Nat × HB):=(11,.cells 27 (e_ 1 12 3 4 p.x0))::(12,.vec 37 10 p.x0.nB λj=>dG (f.xs j))::(13,.ax 1 (js TL))::(14,.vec 24 1 p.x0.nB (oG TL))::(15,.vec 3 1 p.x0.nB λj=>iC (f.o j))::(16,.cells 36 [.si .i64 f.v1,.si .i64 f.v2])::(17,.vec 62 3 0 λj=>j_ (jd (0,0,0)))::bs p
def tS (TL:List Gr.En)(k i:Nat):List SV:=match Nat.blt i k with
 |true=>[.sl (18+i)]
 |false=>oG TL i
theorem zq (TL:List Gr.En)(n j:Nat):∀i,i<n→tS TL j i=tS TL (j+1) i∨(tS TL j i=[.sv (jF (TL.getD (if j<n then j else 0) eD))]∧tS TL (j+1) i=[.sl (18+j)]):=λi hi=>by
 have ht:∀a b,a<b→Nat.blt a b=true:=λa b h=>by rw[Nat.blt_eq];exact h
 have hf:∀a b,¬a<b→Nat.blt a b=false:=λa b h=>by rw[←Bool.not_eq_true,Nat.blt_eq];exact h
 unfold tS
 rcases Nat.lt_trichotomy i j with h|rfl|h
 ·rw[ht i j h,ht i (j+1) (by omega)]
  exact .inl rfl
 ·rw[if_pos hi,hf i i (Nat.lt_irrefl _),ht i (i+1) (Nat.lt_succ_self _)]
  exact .inr ⟨rfl,rfl⟩
 ·rw[hf i j (by omega),hf i (j+1) (by omega)]
  exact .inl rfl
theorem Q_ (x:Lo):ov (norm x)=ov x:=rfl
theorem s3 {p:Tp}(hp:zH p):bG P 3 (A3 p) (bs p) 8 (λv _ _=>v=.sb true) (λ_ _ _=>False):=by
 refine cT O2.ok Tryz.func3 (c:=code Tryz.f3) rfl (Nat.le_of_ble_eq_true rfl) λG hG=>?_
 have k9:=hp.pt
 refine WH (cd G) aj rfl rfl rfl rfl rfl rfl rfl rfl rfl rfl rfl rfl ?_
 obtain⟨mx,Jw⟩:∃mx,max (max (max (max (p.x0.nL:Int) (p.x0.nB:Int)) (p.x0.nP:Int)) (p.x0.nO:Int)) (p.nW:Int)=mx:=⟨_,rfl⟩
 refine aa.mk (show decide ((40:Int)<max (max (max (max (p.x0.nL:Int) (p.x0.nB:Int)) (p.x0.nP:Int)) (p.x0.nO:Int)) (p.nW:Int))=false→Cells _ _ _ _ _ _ _ _∧p.x0.nL≤1000000 from λhh=>⟨lX p.x0,by
  have hh:=of_decide_eq_false hh
  omega⟩) ?_
 refine Br.mk (λh=>?_) (λh=>?_)
 ·refine aa.mk ⟨rfl,rfl⟩ ?_
  exact rfl
 have h:(decide ((40:Int)<max (max (max (max (p.x0.nL:Int) (p.x0.nB:Int)) (p.x0.nP:Int)) (p.x0.nO:Int)) (p.nW:Int))||!ov (norm p.x0))=false:=h
 rw[Bool.or_eq_false_iff,Bool.not_eq_false',Q_] at h
 obtain⟨O9,Bu⟩:=h
 have O9:=of_decide_eq_false O9
 clear Jw
 refine av (cd G) aj rfl rfl rfl rfl ⟨zO,?_⟩
 refine aO [.sl 0] [(0,.ro 1 p.m λi=>[.si .u16 (p.o i)])] 1 (λj=>6) AU rfl AU rfl rfl ?_
 refine CN ⟨rfl,AU,AU,?_⟩
 refine(show aX _ _ _ _ from ?_)
 refine Lb 11 27 37 10 (λj=>dG ⟨0,0,0,0,0,0,0,0,0,0,0⟩) _ [.sl 1,.si .i64 p.x0.st,.sl 12,.sl 3,.si .i64 p.x0.g7,.sl 4] rfl rfl ?_
 refine acT 1 ?_
 refine KF 11 24 1 (oG []) rfl ?_
 refine kF (af:=⟨fZ p 0,[],hZ p ⟨0,λ_=>⟨0,0,0,0,0,0,0,0,0,0,0⟩,[],0⟩,15,[]⟩) 8 (λj=>j) hG ⟨AU,?_,rfl,rfl,rfl,rfl,trivial⟩ ?_
 ·repeat' (first|exact trivial|exact rfl|(intro i hi;exact⟨rfl,rfl⟩)|(intro i hi;exact absurd hi (Nat.not_lt_zero _))|(intro v m g h;first|exact h|(obtain⟨e,he,_⟩:=h;cases he))|refine And.intro ?_ ?_)
 refine UN hG hp Bu (λF gs H nx=>rfl) λz hz wO=>?_
 obtain⟨i,xs,TL,c⟩:=z
 obtain rfl:i=p.x0.nB:=wO
 have X5:p.x0.nL≤1000000:=by omega
 refine aa.mk (show Cells _ _ _ _ _ _ _ _∧p.x0.nL≤1000000 from⟨lX (xP p xs),X5⟩) ?_
 refine Br.mk (λh=>?_) (λh=>?_)
 ·refine aa.mk ⟨rfl,rfl⟩ ?_
  exact rfl
 have h:(!ov (norm (xP p xs)))=false:=h
 rw[Bool.not_eq_false',Q_] at h
 have hx:dp (xP p xs):=aa2 h λb hb=>wq.2 ⟨_,hz.ok b hb⟩
 have hN:=KG hx
 have Jd:=VU (norm (xP p xs))
 have EW:=Jd.om
 refine aa.mk (show Cells _ _ _ _ _ _ _ _∧dp (norm (xP p xs)) from⟨lX (xP p xs),hN⟩) ?_
 refine aa.mk (show Cells _ _ _ _ _ _ _ _∧dp (norm (xP p xs)) from⟨lX (xP p xs),hN⟩) ?_
 have EW:(jr (norm (xP p xs))).om=p.x0.nB:=EW
 refine Br.mk (λh=>?_) (λ_=>?_)
 ·exfalso
  have h:(!decide ((0:Int)=0)||!decide ((0:Int)=0)||!decide (((jr (norm (xP p xs))).om:Int)=(p.x0.nB:Int)))=true:=h
  rw[EW,decide_eq_true (show(p.x0.nB:Int)=(p.x0.nB:Int) from rfl)] at h
  cases h
 have hB:p.x0.nB≤6:=hx.nB
 have Bk:L5 p (rl p xs TL):=by
  refine⟨hx,λj hj=>?_,λj hj=>Jd.o j hj⟩
  show fR (gP (xP p xs) j) (tr TL (if j<p.x0.nB then j else 0))
  rw[if_pos hj]
  exact hz.ok j hj
 refine(show aX _ _ _ _ from ?_)
 refine KF 29 62 3 (λj=>j_ (jd (0,0,0))) rfl ?_
 refine kF (af:=⟨F6 p (rl p xs TL) lO,[],TK p (rl p xs TL) TL,18,[]⟩) 8 (λj=>match j with|16=>19|17=>20|j=>j) hG ⟨?_,AU,rfl,rfl,rfl,rfl,trivial⟩ ?_
 ·have aeX:((jr (norm (xP p xs))).om:Int)=(p.x0.nB:Int):=by rw[EW]
  exact AU
 refine acV (ι:={z:Z6 // nF (xP p xs) (rl p xs TL).o z∧z.i=p.x0.nB}) (λz=>⟨(233,⟨[],.sb false⟩)::F5 p (rl p xs TL) z.1,[],H5 p (rl p xs TL) z.1,18,[]⟩) (.exit 6) (λK' rn=>?_) ?_
 ·rcases Nat.eq_zero_or_pos p.x0.nB with h0|cR
  ·refine kF (af:=⟨F5 p (rl p xs TL) lO,[],H5 p (rl p xs TL) lO,18,[]⟩) 8 (λj=>j) hG ⟨AU,AU,rfl,rfl,rfl,rfl,trivial⟩ ?_
   exact V4 hG h0 λz hz wO=>rn ⟨z,hz,wO⟩
  ·have gU:∀j,∃ad k,jF (TL.getD (if j<p.x0.nB then j else 0) eD)=.slice (some ad) 5 k∧js TL (jF (TL.getD (if j<p.x0.nB then j else 0) eD)) 5 (a_ (tr TL (if j<p.x0.nB then j else 0))):=λj=>by
    have hl:(if j<p.x0.nB then j else 0)<TL.length:=by
     have:=hz.len
     have h5:TL.length=p.x0.nB:=this
     split<;>omega
    exact⟨_,_,rfl,_,NP hl,rfl,rfl,rfl⟩
   refine zi 14 13 24 p.x0.nB 1 5 (jF (TL.getD (if 0<p.x0.nB then 0 else 0) eD)) (a_ (tr TL (if 0<p.x0.nB then 0 else 0))) (tS TL 0) (tS TL 1) rfl rfl (gU 0) (zq TL p.x0.nB 0) ?_
   refine zi 14 13 24 p.x0.nB 1 5 (jF (TL.getD (if 1<p.x0.nB then 1 else 0) eD)) (a_ (tr TL (if 1<p.x0.nB then 1 else 0))) (tS TL 1) (tS TL 2) rfl rfl (gU 1) (zq TL p.x0.nB 1) ?_
   refine zi 14 13 24 p.x0.nB 1 5 (jF (TL.getD (if 2<p.x0.nB then 2 else 0) eD)) (a_ (tr TL (if 2<p.x0.nB then 2 else 0))) (tS TL 2) (tS TL 3) rfl rfl (gU 2) (zq TL p.x0.nB 2) ?_
   refine zi 14 13 24 p.x0.nB 1 5 (jF (TL.getD (if 3<p.x0.nB then 3 else 0) eD)) (a_ (tr TL (if 3<p.x0.nB then 3 else 0))) (tS TL 3) (tS TL 4) rfl rfl (gU 3) (zq TL p.x0.nB 3) ?_
   refine zi 14 13 24 p.x0.nB 1 5 (jF (TL.getD (if 4<p.x0.nB then 4 else 0) eD)) (a_ (tr TL (if 4<p.x0.nB then 4 else 0))) (tS TL 4) (tS TL 5) rfl rfl (gU 4) (zq TL p.x0.nB 4) ?_
   refine zi 14 13 24 p.x0.nB 1 5 (jF (TL.getD (if 5<p.x0.nB then 5 else 0) eD)) (a_ (tr TL (if 5<p.x0.nB then 5 else 0))) (tS TL 5) (tS TL 6) rfl rfl (gU 5) (zq TL p.x0.nB 5) ?_
   refine kF (af:=⟨F6 p (rl p xs TL) lO,[],H6 p (rl p xs TL) lO,24,[]⟩) 8 (λj=>j) hG ⟨AU,AV,rfl,rfl,rfl,rfl,trivial⟩ ?_
   exact V1 hG hp Bk λz hz wO=>rn ⟨z,hz,wO⟩
 ·rintro⟨z6,yH,Qa⟩
  have Y7:=abp yH.et
  have iS:Cells p.x0.nL (λi=>az (p.x0.li i)) p.x0.nB (λi=>dG (xs i)) p.x0.nP (λi=>iC (p.x0.bE i)) p.x0.nO (λi=>az (p.x0.od i))∧dp (norm (xP p xs))∧(GN z6.cQ λj=>j_ (jd (z6.en j)))∧r9 (norm (xP p xs)) z6.cQ z6.en:=⟨lX (xP p xs),hN,λi hi=>rfl,Y7⟩
  refine aa.mk iS ?_
  refine aa.mk iS ?_
  refine aa.mk (λ_=>⟨rfl,rfl⟩) ?_
  have q1:(z6.cQ:Int)=(jr (norm (xP p xs))).gx:=by
   have h1:=Jd.gx
   have h2:=yH.cQ
   rw[Qa] at h2
   rw[h1,h2]
   rfl
  have q2:my z6.en z6.cQ=z6.su:=yH.KU
  have q3:z6.su≤z6.be:=yH.sb
  have q4:z6.be≤z6.wo:=yH.bw
  have q5:z6.wo≤(fQ (ed (norm (xP p xs))) p.x0.nB).1:=by
   have h1:=yH.w
   rw[Qa] at h1
   rw[show ed (norm (xP p xs))=ed (xP p xs) from funext (LW _)]
   exact h1
  refine(show SV.sb (((((((decide ((4:Int)=4)&&decide ((0:Int)=0))&&decide ((z6.cQ:Int)=(jr (norm (xP p xs))).gx))&&decide (my z6.en z6.cQ=z6.su))&&decide (z6.su≤z6.be))&&decide (z6.be≤z6.wo))&&decide (z6.wo≤(fQ (ed (norm (xP p xs))) p.x0.nB).1))&&true)=.sb true from ?_)
  rw[decide_eq_true q1,decide_eq_true q2,decide_eq_true q3,decide_eq_true q4,decide_eq_true q5]
  rfl
end Go.X.Tl
namespace Go.X.Tl
open Go Go.Proofs Go.X Go.X.Lt Go.ChangeShapes Go.WideShapes Go.ChangeAt Go.RowKit Go.Joins
open Go.X.Gr (aB az iC)
open Go.X.Wr (jm kR gF uY bg)
theorem wf_u16 {x:Int}(h:(Lit.int .u16 x).wf=true):0≤x∧x<65536:=by
 simp only[Lit.wf,IntKind.min,IntKind.max,IntKind.signed,IntKind.bits,Bool.and_eq_true,decide_eq_true_eq] at h;simp at h;omega
theorem wf_u8 {x:Int}(h:(Lit.int .u8 x).wf=true):0≤x∧x<256:=by
 simp only[Lit.wf,IntKind.min,IntKind.max,IntKind.signed,IntKind.bits,Bool.and_eq_true,decide_eq_true_eq] at h;simp at h;omega
def dg (P:Program)(t i:Nat):Field:=match P.underlying t with
 |some (.struct fs)=>(match fs[i]? with
  |some f=>f
  | none => ⟨ "", 0, 0, false, "", "", 0⟩)
 | _ => ⟨ "", 0, 0, false, "", "", 0⟩
theorem adP:Tryz.prog.underlying 36=some (.struct #[dg Tryz.prog 36 0,dg Tryz.prog 36 1]):=by kernel_rfl
theorem adS:Tryz.prog.underlying 45=some (.struct #[dg Tryz.prog 45 0,dg Tryz.prog 45 1,dg Tryz.prog 45 2]):=by kernel_rfl
theorem WT:((dg Tryz.prog 45 0).type=36∧(dg Tryz.prog 45 0).offset=0)∧((dg Tryz.prog 45 1).type=36∧(dg Tryz.prog 45 1).offset=2)∧((dg Tryz.prog 45 2).type=43∧(dg Tryz.prog 45 2).offset=4) :=
 ⟨⟨by kernel_rfl,by kernel_rfl⟩,⟨by kernel_rfl,by kernel_rfl⟩,⟨by kernel_rfl,by kernel_rfl⟩⟩
theorem S6:Tryz.prog.underlying 27=some (.struct #[dg Tryz.prog 27 0,dg Tryz.prog 27 1,dg Tryz.prog 27 2,dg Tryz.prog 27 3,dg Tryz.prog 27 4,dg Tryz.prog 27 5]):=by kernel_rfl
theorem WS:((dg Tryz.prog 27 0).type=22∧(dg Tryz.prog 27 0).offset=0)∧((dg Tryz.prog 27 1).type=3∧(dg Tryz.prog 27 1).offset=1)∧((dg Tryz.prog 27 2).type=23∧(dg Tryz.prog 27 2).offset=2)∧((dg Tryz.prog 27 3).type=24∧(dg Tryz.prog 27 3).offset=3)∧((dg Tryz.prog 27 4).type=3∧(dg Tryz.prog 27 4).offset=4)∧((dg Tryz.prog 27 5).type=25∧(dg Tryz.prog 27 5).offset=5) :=
 ⟨⟨by kernel_rfl,by kernel_rfl⟩,⟨by kernel_rfl,by kernel_rfl⟩,⟨by kernel_rfl,by kernel_rfl⟩,⟨by kernel_rfl,by kernel_rfl⟩,⟨by kernel_rfl,by kernel_rfl⟩,⟨by kernel_rfl,by kernel_rfl⟩⟩
theorem S9:Tryz.prog.underlying 3=some (.int .i64):=by kernel_rfl
theorem adR:Tryz.prog.underlying 43=some (.slice 77):=by kernel_rfl
theorem S7:Tryz.prog.underlying 28=some (.slice 45):=by kernel_rfl
theorem adL:Tryz.prog.underlying 22=some (.slice 120):=by kernel_rfl
theorem adM:Tryz.prog.underlying 23=some (.slice 37):=by kernel_rfl
theorem adN:Tryz.prog.underlying 24=some (.slice 3):=by kernel_rfl
theorem adO:Tryz.prog.underlying 25=some (.slice 55):=by kernel_rfl
theorem Kt:lay Tryz.prog 3 36=some [.i64,.i64]:=by kernel_rfl
theorem aaJ:lay Tryz.prog 3 120=some [.i64,.i64]:=by kernel_rfl
theorem aaK:lay Tryz.prog 3 55=some [.i64,.i64]:=by kernel_rfl
theorem QL:lay Tryz.prog 3 3=some [.i64]:=by kernel_rfl
theorem aaM:lay Tryz.prog 4 77=some [.i64,.i64,.i64,.i64]:=by kernel_rfl
theorem adQ:Tryz.prog.underlying 37=some (.array 5 36):=by kernel_rfl
theorem DN:Tryz.prog.cellsOf 36=2:=by kernel_rfl
theorem VC:Tryz.prog.cellsOf 43=1:=by kernel_rfl
theorem VD:Tryz.prog.cellsOf 45=5:=by kernel_rfl
theorem VG:Tryz.prog.cellsOf 77=4:=by kernel_rfl
theorem Vv:Tryz.prog.cellsOf 120=2:=by kernel_rfl
theorem VE:Tryz.prog.cellsOf 55=2:=by kernel_rfl
theorem VB:Tryz.prog.cellsOf 37=10:=by kernel_rfl
theorem Af:Tryz.prog.cellsOf 3=1:=by kernel_rfl
theorem Vw:Tryz.prog.cellsOf 22=1:=by kernel_rfl
theorem Vx:Tryz.prog.cellsOf 23=1:=by kernel_rfl
theorem Vy:Tryz.prog.cellsOf 24=1:=by kernel_rfl
theorem Vz:Tryz.prog.cellsOf 25=1:=by kernel_rfl
theorem VA:Tryz.prog.cellsOf 27=6:=by kernel_rfl
theorem own:ownKnob Tryz.prog.godebug=none:=by kernel_rfl
theorem laidOut:laidOutB Tryz.prog=true:=by kernel_rfl
theorem S8:Tryz.prog.underlying 29=some (.slice 72):=by kernel_rfl
theorem aaL:lay Tryz.prog 3 72=some [.u16]:=by kernel_rfl
theorem VF:Tryz.prog.cellsOf 72=1:=by kernel_rfl
theorem adT:Tryz.prog.underlying 5=some (.int .u8):=by kernel_rfl
section
variable {H:Type}{enc:TypeId × Value→H}{W:World}{base:Nat}
theorem abF {t:TypeId}{k:IntKind}(ht:Tryz.prog.underlying t=some (.int k)){v:Value}{d:DataW H}{p:List MemPlace}(hv:Value.okWide Tryz.prog W .any base t v)(h:DataW.Trod enc Tryz.prog W 0 (λ_=>true) true t v d p) :
  ∃x:Int,v=.int k x∧(Lit.int k x).wf=true:=by
 obtain⟨x,rfl,_,_,wx⟩:=open_int ht hv h
 exact⟨x,rfl,wx⟩
theorem abJ {v:Value}{d:DataW H}{p:List MemPlace}(hv:Value.okWide Tryz.prog W .any base 29 v)(h:DataW.Trod enc Tryz.prog W 0 (λ_=>true) true 29 v d p) :
  ∃(a:Option Addr) (n cap:Nat) (f:Nat→Int),v=.slice a n cap∧n≤maxLen∧(∀j,j<n→0≤f j∧f j<65536)∧∀ρ:Env,ao ρ W (.ro 1 n λi=>[.si .u16 (f i)]) (.sl a n cap 1):=by
 obtain⟨a',n',HC,rfl⟩:=okWide_slice S8 hv
 obtain⟨fuel,hf⟩:=h
 obtain⟨a,n,cap,N,pj,hm,hN,hw,hk⟩:=F1 S8 aaL VF (by decide) hf
 have pj:[Value.slice a' n' HC]=[.slice a n cap]:=pj
 refine⟨a,n,cap,λi=>(N i).getD 0 0,(by injection pj),hm,λj hj=>?_,fun ρ=>?_⟩
 ·have h1:=hN j
  have h2:=hw j hj
  match hn:N j,h1 with
  |[x],_ =>
   rw[hn] at h2
   show 0≤(N j).getD 0 0∧(N j).getD 0 0<65536
   rw[hn]
   exact wf_u16 (h2 (.u16,x) (by simp))
 ·have e:(λi=>tt [.u16] (N i))=λi=>[SV.si .u16 ((N i).getD 0 0)]:=by
   funext i
   have:=hN i
   match hn:N i,this with
   |[x],_=>rfl
  have:=hk ρ
  rw[e] at this
  exact this
theorem KO {D:Type}(d0:D)(V:D→List Value)(S:D→List SV)(R:D→Prop)(z:Nat)(hz:0<z)(hV:∀d,(V d).length=z)(h1:∀d,(V d).all (·.oneCell')=true)(hS:∀ρ d,ai ρ (S d)=some (V d))
  {t e:TypeId} {fuel:Nat} {cs:List Value} {x:DataW H × List MemPlace} (ht:Tryz.prog.underlying t=some (.slice e)) (hC:Tryz.prog.cellsOf e=z)
  (jx:∀fuel c y,c.length=z→DataW.trod enc Tryz.prog W 0 (λ_=>true) true fuel e c=some y→∃d,c=V d∧R d)
  (h:DataW.trod enc Tryz.prog W 0 (λ_=>true) true fuel t cs=some x) :
  ∃(a:Option Addr) (len cap:Nat) (f:Nat→D),cs=[.slice a len cap]∧uM (.slice a len cap) len∧len≤maxLen∧(∀i,i<len→R (f i))∧∀ρ:Env,ao ρ W (.ro z len λi=>S (f i)) (.sl a len cap z):=by
 rcases DataW.trod_slice ht h with⟨rfl,_⟩|⟨a,len,cap,Wf,rest,m,_,rfl,_,_,hle,hm,hlen,rv,_⟩
 ·exact⟨none,0,0,λ_=>d0,rfl,.inl ⟨rfl,rfl⟩,Nat.zero_le _,λi hi=>absurd hi (Nat.not_lt_zero _),fun ρ=>⟨rfl,rfl,Nat.le_refl _,λh=>by omega⟩⟩
 ·have key:∀i,i<len→∃d:D,R d∧∀j v,(V d)[j]?=some v→W.cell? (a.add (i*z+j))=some v:=by
   intro i hi
   have h1:=rv i hi
   rw[List.getElem?_eq_getElem (by omega)] at h1
   simp only[Option.bind_eq_some_iff] at h1
   obtain⟨c1,h2,h3⟩:=h1
   obtain⟨h0,h4,h5⟩:=World.cells?_some h2
   obtain⟨d,rfl,hR⟩:=jx _ _ _ (by simp_all) h3
   refine⟨d,hR,λj v hv=>?_⟩
   have hj:j<(V d).length:=(List.getElem?_eq_some_iff.1 hv).1
   rw[←Go.X.add_add,←hC,h5 j (by have:=hV d;omega)]
   exact hv
  have hN:∃f:Nat→D,∀i,i<len→R (f i)∧∀j v,(V (f i))[j]?=some v→W.cell? (a.add (i*z+j))=some v:=by
   refine⟨λi=>if hi:i<len then(key i hi).choose else d0,λi hi=>?_⟩
   simp only[hi,dif_pos]
   exact(key i hi).choose_spec
  obtain⟨f,hf⟩:=hN
  refine⟨some a,len,cap,f,rfl,.inr ⟨a,cap,rfl⟩,by omega,λi hi=>(hf i hi).1,fun ρ=>⟨rfl,rfl,hle,λcR=>⟨a,rfl,?_,λi hi=>⟨_,hS ρ (f i),h1 _,hV _,(hf i hi).2⟩⟩⟩⟩
  obtain⟨v,hv⟩:∃v,(V (f 0))[0]?=some v:=⟨_,List.getElem?_eq_getElem (by rw[hV];exact hz)⟩
  have:=(hf 0 cR).2 0 v hv
  rw[Nat.zero_mul,Nat.zero_add,Go.X.Mp] at this
  rcases Nat.lt_or_ge a.block W.heap.size with aG|kj
  ·exact aG
  ·simp[World.cell?,Array.getElem?_eq_none kj] at this
theorem abC {fuel:Nat}{cs:List Value}{x:DataW H × List MemPlace}(h:DataW.trod enc Tryz.prog W 0 (λ_=>true) true fuel 43 cs=some x) :
  ∃(v:Value) (n:Nat) (ev:Nat→jm),cs=[v]∧uM v n∧n≤maxLen∧vR W 4 v n (vN ev):=by
 obtain⟨a,n,cap,f,rfl,hs,hm,_,hk⟩:=KO (D:=jm) ⟨0,0,0,0⟩ (λr=>[.int .i64 r.kind,.int .i64 r.gM,.int .i64 r.lo,.int .i64 r.hi]) kR (λ_=>True) 4 (by decide) (λ_=>rfl) (λ_=>rfl)
  (fun ρ d=>by simp[kR,den,ai]) adR VG (λfuel c y hc hy=>by
   obtain⟨ns,q1,q2,_⟩:=zt 4 77 _ _ _ _ aaM hy
   match ns,q1 with
   |[a,b,c,d],_=>exact⟨⟨a,b,c,d⟩,q2,trivial⟩) h
 refine⟨_,n,f,rfl,hs,hm,?_⟩
 obtain⟨_,_,h1,h2⟩:=hk λ_=>none
 exact⟨a,cap,rfl,h1,h2⟩
def LS (d:Wb):List Value:=[.int .i64 d.l1,.int .i64 d.l2,.int .i64 d.u1,.int .i64 d.u2,d.v]
theorem abK {fuel:Nat}{cs:List Value}{x:DataW H × List MemPlace}(h:DataW.trod enc Tryz.prog W 0 (λ_=>true) true fuel 28 cs=some x) :
  ∃(a:Option Addr) (n cap:Nat) (g:Nat→Wb),cs=[.slice a n cap]∧n≤maxLen∧(∀i,i<n→uM (g i).v (g i).n∧vR W 4 (g i).v (g i).n (vN (g i).ev))∧∀ρ:Env,ao ρ W (.ro 5 n λi=>C3 (g i)) (.sl a n cap 5):=by
 obtain⟨a,n,cap,f,e,hs,hm,hR,hk⟩:=KO (D:={d:Wb // uM d.v d.n}) ⟨⟨0,0,0,0,0,λ_=>⟨0,0,0,0⟩,.slice none 0 0⟩,.inl ⟨rfl,rfl⟩⟩ (λd=>LS d.1) (λd=>C3 d.1) (λd=>vR W 4 d.1.v d.1.n (vN d.1.ev)) 5 (by decide) (λ_=>rfl)
  (λd=>by have:=d.2.one;simpa [LS,Value.oneCell'] using this) (fun ρ d=>by have:=d.2.one;simp[C3,LS,den,ai,this]) S7 VD (λfuel c y hc hy=>by
   obtain⟨⟨yG,Jz⟩,⟨BP,uG⟩,E6,mY⟩:=WT
   obtain⟨xs,m,_,_,hl,hlen,lx⟩:=DataW.trod_struct adS hy
   match xs,hlen with
   |[y0,y1,y2],_ =>
    have h0:=lx 0 (dg Tryz.prog 45 0) rfl
    have h1:=lx 1 (dg Tryz.prog 45 1) rfl
    have h2:=lx 2 (dg Tryz.prog 45 2) rfl
    rw[yG,Jz,DN] at h0
    rw[BP,uG,DN] at h1
    rw[E6,mY,VC] at h2
    match c,hc with
    |[e0,e1,e2,e3,e4],_ =>
     obtain⟨v,n,ev,f3,hs,hm,hk⟩:=abC h2
     obtain⟨n0,q1,q2,q3⟩:=zt 3 36 _ _ _ _ Kt h0
     obtain⟨n1,r1,r2,r3⟩:=zt 3 36 _ _ _ _ Kt h1
     match n0,q1,n1,r1 with
     |[x,y],_,[u,w],_ =>
      have f3:[e4]=[v]:=f3
      have q2:[e0,e1]=[.int .i64 x,.int .i64 y]:=q2
      have r2:[e2,e3]=[.int .i64 u,.int .i64 w]:=r2
      cases f3
      cases q2
      cases r2
      exact⟨⟨⟨x,y,u,w,n,ev,_⟩,hs⟩,rfl,hk⟩) h
 exact⟨a,n,cap,λi=>(f i).1,e,hm,λi hi=>⟨(f i).2,hR i hi⟩,hk⟩
theorem abD {fuel:Nat}{cs:List Value}{x:DataW H × List MemPlace}(h:DataW.trod enc Tryz.prog W 0 (λ_=>true) true fuel 22 cs=some x) :
  ∃(a:Option Addr) (n cap:Nat) (rd:Nat→Int × Int),cs=[.slice a n cap]∧n≤maxLen∧∀ρ:Env,ao ρ W (.ro 2 n λi=>az (rd i)) (.sl a n cap 2):=by
 obtain⟨a,n,cap,N,rfl,hm,hN,_,hk⟩:=F1 adL aaJ Vv (by decide) h
 refine⟨a,n,cap,λi=>((N i).getD 0 0,(N i).getD 1 0),rfl,hm,fun ρ=>?_⟩
 have e:(λi=>tt [.i64,.i64] (N i))=λi=>az (((N i).getD 0 0,(N i).getD 1 0)):=by
  funext i
  have:=hN i
  match hn:N i,this with
  |[x,y],_=>rfl
 have:=hk ρ
 rw[e] at this
 exact this
theorem abH {fuel:Nat}{cs:List Value}{x:DataW H × List MemPlace}(h:DataW.trod enc Tryz.prog W 0 (λ_=>true) true fuel 24 cs=some x) :
  ∃(a:Option Addr) (n cap:Nat) (rd:Nat→Int),cs=[.slice a n cap]∧n≤maxLen∧∀ρ:Env,ao ρ W (.ro 1 n λi=>iC (rd i)) (.sl a n cap 1):=by
 obtain⟨a,n,cap,N,rfl,hm,hN,_,hk⟩:=F1 adN QL Af (by decide) h
 refine⟨a,n,cap,λi=>(N i).getD 0 0,rfl,hm,fun ρ=>?_⟩
 have e:(λi=>tt [.i64] (N i))=λi=>iC ((N i).getD 0 0):=by
  funext i
  have:=hN i
  match hn:N i,this with
  |[x],_=>rfl
 have:=hk ρ
 rw[e] at this
 exact this
theorem abG {fuel:Nat}{cs:List Value}{x:DataW H × List MemPlace}(h:DataW.trod enc Tryz.prog W 0 (λ_=>true) true fuel 25 cs=some x) :
  ∃(a:Option Addr) (n cap:Nat) (rd:Nat→Int × Int),cs=[.slice a n cap]∧n≤maxLen∧∀ρ:Env,ao ρ W (.ro 2 n λi=>az (rd i)) (.sl a n cap 2):=by
 obtain⟨a,n,cap,N,rfl,hm,hN,_,hk⟩:=F1 adO aaK VE (by decide) h
 refine⟨a,n,cap,λi=>((N i).getD 0 0,(N i).getD 1 0),rfl,hm,fun ρ=>?_⟩
 have e:(λi=>tt [.i64,.i64] (N i))=λi=>az (((N i).getD 0 0,(N i).getD 1 0)):=by
  funext i
  have:=hN i
  match hn:N i,this with
  |[x,y],_=>rfl
 have:=hk ρ
 rw[e] at this
 exact this
theorem Cz {fuel:Nat}{c d:Value}{x:DataW H × List MemPlace}(h:DataW.trod enc Tryz.prog W 0 (λ_=>true) true fuel 36 [c,d]=some x):∃lo hi:Int,c=.int .i64 lo∧d=.int .i64 hi:=by
 obtain⟨ns,q1,q2,q3⟩:=zt 3 36 _ fuel _ _ Kt h
 match ns,q1 with
 |[x,y],_ =>
  have q2:[c,d]=[.int .i64 x,.int .i64 y]:=q2
  cases q2
  exact⟨x,y,rfl,rfl⟩
def MR (g:aB):List Value:=[.int .i64 g.l0,.int .i64 g.h0,.int .i64 g.l1,.int .i64 g.h1,.int .i64 g.l2,.int .i64 g.h2,.int .i64 g.l3,.int .i64 g.h3,.int .i64 g.l4,.int .i64 g.h4]
theorem abI {fuel:Nat}{cs:List Value}{x:DataW H × List MemPlace}(h:DataW.trod enc Tryz.prog W 0 (λ_=>true) true fuel 23 cs=some x) :
  ∃(a:Option Addr) (n cap:Nat) (rd:Nat→aB),cs=[.slice a n cap]∧n≤maxLen∧∀ρ:Env,ao ρ W (.ro 10 n λi=>dG (rd i)) (.sl a n cap 10):=by
 obtain⟨a,n,cap,f,e,hs,hm,hR,hk⟩:=KO (D:=aB) ⟨0,0,0,0,0,0,0,0,0,0,0⟩ MR dG (λ_=>True) 10 (by decide) (λ_=>rfl) (λ_=>rfl) (fun ρ d=>by simp[dG,MR,den,ai]) adM VB (λfuel c y hc hy=>by
   match c,hc with
   |[e1,e2,e3,e4,e5,e6,e7,e8,e9,V9],_ =>
   obtain⟨zs,m2,_,_,_,hz,jx⟩:=DataW.trod_array adQ hy
   match zs,hz with
   |[z0,z1,z2,z3,z4],_ =>
    have k0:=jx 0 (by decide)
    have k1:=jx 1 (by decide)
    have k2:=jx 2 (by decide)
    have k3:=jx 3 (by decide)
    have k4:=jx 4 (by decide)
    rw[DN] at k0 k1 k2 k3 k4
    obtain⟨l0,u0,a0,b0⟩:=Cz (c:=e1) (d:=e2) k0
    obtain⟨l1,u1,a1,b1⟩:=Cz (c:=e3) (d:=e4) k1
    obtain⟨l2,u2,a2,b2⟩:=Cz (c:=e5) (d:=e6) k2
    obtain⟨l3,u3,a3,b3⟩:=Cz (c:=e7) (d:=e8) k3
    obtain⟨l4,u4,a4,b4⟩:=Cz (c:=e9) (d:=V9) k4
    subst a0 b0 a1 b1 a2 b2 a3 b3 a4 b4
    exact⟨⟨l0,u0,l1,u1,l2,u2,l3,u3,l4,u4,0⟩,rfl,trivial⟩) h
 exact⟨a,n,cap,f,e,hm,hk⟩
theorem RQ {fuel:Nat}{c:Value}{x:DataW H × List MemPlace}(h:DataW.trod enc Tryz.prog W 0 (λ_=>true) true fuel 3 [c]=some x):∃z:Int,c=.int .i64 z:=by
 obtain⟨ns,q1,q2,q3⟩:=zt 3 3 _ fuel _ _ QL h
 match ns,q1 with
 |[z],_ =>
  have q2:[c]=[.int .i64 z]:=q2
  cases q2
  exact⟨z,rfl⟩
theorem abE {v:Value}{d:DataW H}{p:List MemPlace}(hv:Value.okWide Tryz.prog W .any base 27 v)(h:DataW.Trod enc Tryz.prog W 0 (λ_=>true) true 27 v d p) :
  ∃(x:Lo) (a0 a1 a2 a3:Option Addr) (c0 c1 c2 c3:Nat),v=.agg #[.slice a0 x.nL c0,.int .i64 x.st,.slice a1 x.nB c1,.slice a2 x.nP c2,.int .i64 x.g7,.slice a3 x.nO c3]∧(∀ρ:Env,ao ρ W (.ro 2 x.nL λi=>az (x.li i)) (.sl a0 x.nL c0 2))∧(∀ρ:Env,ao ρ W (.ro 10 x.nB λi=>dG (x.bl i)) (.sl a1 x.nB c1 10))∧(∀ρ:Env,ao ρ W (.ro 1 x.nP λi=>iC (x.bE i)) (.sl a2 x.nP c2 1))∧∀ρ:Env,ao ρ W (.ro 2 x.nO λi=>az (x.od i)) (.sl a3 x.nO c3 2):=by
 obtain⟨⟨yG,Jz⟩,⟨BP,uG⟩,⟨E6,mY⟩,⟨ZK,BC⟩,⟨ZL,Zd⟩,ZM,Ze⟩:=WS
 obtain⟨cs,rfl,dr⟩:=okWide_struct S6 hv
 obtain⟨fuel,hf⟩:=h
 obtain⟨xs,m,_,_,hl,hlen,lx⟩:=DataW.trod_struct S6 hf
 match xs,hlen with
 |[y0,y1,y2,y3,y4,y5],_ =>
  have h0:=lx 0 (dg Tryz.prog 27 0) rfl
  have h1:=lx 1 (dg Tryz.prog 27 1) rfl
  have h2:=lx 2 (dg Tryz.prog 27 2) rfl
  have h3:=lx 3 (dg Tryz.prog 27 3) rfl
  have h4:=lx 4 (dg Tryz.prog 27 4) rfl
  have h5:=lx 5 (dg Tryz.prog 27 5) rfl
  rw[yG,Jz,Vw] at h0
  rw[BP,uG,Af] at h1
  rw[E6,mY,Vx] at h2
  rw[ZK,BC,Vy] at h3
  rw[ZL,Zd,Af] at h4
  rw[ZM,Ze,Vz] at h5
  obtain⟨l⟩:=cs
  have dr:l.length=6:=by simpa [VA] using dr
  match l,dr with
  |[e0,e1,e2,e3,e4,e5],_ =>
   obtain⟨a0,n0,c0,r0,f0,m0,k0⟩:=abD h0
   obtain⟨z1,f1⟩:=RQ (c:=e1) h1
   obtain⟨a2,n2,c2,r2,f2,m2,k2⟩:=abI h2
   obtain⟨a3,n3,c3,r3,f3,m3,k3⟩:=abH h3
   obtain⟨z4,f4⟩:=RQ (c:=e4) h4
   obtain⟨a5,n5,c5,r5,f5,m5,k5⟩:=abG h5
   have f0:[e0]=[.slice a0 n0 c0]:=f0
   have f2:[e2]=[.slice a2 n2 c2]:=f2
   have f3:[e3]=[.slice a3 n3 c3]:=f3
   have f5:[e5]=[.slice a5 n5 c5]:=f5
   cases f0
   cases f2
   cases f3
   cases f5
   subst f1 f4
   exact⟨⟨n0,r0,z1,n2,r2,n3,r3,z4,n5,r5⟩,a0,a2,a3,a5,c0,c2,c3,c5,rfl,k0,k2,k3,k5⟩
end
end Go.X.Tl
namespace Go.X
open Go Go.Proofs Go.ChangeShapes Go.WideShapes Go.ChangeAt Go.RowKit
section
variable {H:Type}{enc:TypeId × Value→H}
theorem acs {C:Checked}{a:Assume}{os:Os}{f tb:Nat}{fn:Func}{s:ChangeSpec}{conds:List PathCond}(laid:List (String × DataW Unit))(hl:laidOutB C.prog=true)(own:ownKnob C.prog.godebug=none)(started:os.Started)(abn:C.prog.inits.idxOf? f=none)
  (iR:C.prog.funcs[f]?=some fn)
  (witness:∃(w:World) (tape:Tape) (i:Input),w.os=os∧(w.forCall tape i).Shaped C.prog∧i.vars=[]∧Input.okWide C.prog (w.forCall tape i) .any w.heap.size f i ∧
   ((s.pre enc C.prog fn conds false (w.forCall tape i).memory i.args∧laidMetH C.prog laid (w.forCall tape i).memory)∧sizedMet enc C.prog fn (OpenSpec.ofChange s) false (w.forCall tape i).memory i.args)∧a.holds C.prog (lone (Frame.enter C.prog f i.args .normal) [] (w.forCall tape i)))
  (P6:s.vars=[]) (fI:fn.resultTypes=#[tb]) (ZN:C.prog.underlying tb=some .bool) (Zw:(fn.params.toList.all λt=>C.prog.readableRec t&&decide (t<C.prog.types.size))=true)
  (ZF:∀ds:List (DataW H),ds.length=fn.params.toList.length→s.fn H (ds++[])={ results:=[.lit (.bool true)],args:=ds })
  (hw:∀(W:World) (base:Nat) (args:Array Value) (ds:List (DataW H)) (p:List MemPlace),(∀(j:Nat) t v,fn.params[j]?=some t→args[j]?=some v→Value.okWide C.prog W .any base t v) →
   DataW.TrodAll enc C.prog W 0 (λ_=>true) true fn.params.toList args.toList ds p→laidMetH C.prog laid W→Mb C.prog f W args.toList) :
  ReturnsInHanded a C os f .any (λw args=>(s.pre enc C.prog fn conds false w args∧laidMetH C.prog laid w)∧sizedMet enc C.prog fn (OpenSpec.ofChange s) false w args) (s.post enc C.prog fn false true false false):=by
 refine returnsInHanded_of_change_and (X:=λw _=>laidMetH C.prog laid w) (λ_ _ _ hh h=>h.of_heap hh) own started abn iR witness ?_
 intro W base args ds gs before tn hW aeR _ hL _
 have X_:=hW
 obtain⟨p,q,hA,hV,rfl,pu,lA⟩:=hW
 rw[P6] at hV
 obtain⟨rfl,rfl⟩:=trodVars_none hV
 obtain⟨ρ,H0,l,nx,hm,fY,mc,hd,hS⟩:=hw W base args ds p tn hA hL
 refine(hS ρ W args.toList hm mc hd).mono λe W' uH=>?_
 rcases uH with⟨v,H',aA,ρ',u,rfl,hv,_,pw,_,rfl⟩|⟨ch,H',aA,ρ',_,_,_,_,hF⟩
 case inr=>exact hF.elim
 simp only[den,Option.some.injEq] at hv
 subst hv
 have cK:∀b,b<W.heap.size→W'.heap[b]?=W.heap[b]?:=λb hb=>pw.same b hb (fY b)
 have qz:∀p'∈p,W.sameAt W' p':=by
  intro p' ko
  have aG:=LJ hA p' ko
  cases p' with
  |cell b o=>exact World.cell?_of_block (w:=W) (cK b aG)
  |map b=>exact cK b aG
 have hs:=ZF ds (by simpa using S4 hA)
 refine⟨_,rfl,ds,[],p++[],[],p,[],X_,?_,?_,?_,?_,λh=>by cases h⟩
 ·rw[hs,fI]
  exact trodAll_mk1 (shut_bool ZN _)
 ·rw[hs]
  refine S3 hl (λt ht=>?_) hA qz (λx hx=>by simpa using LJ hA x hx)
  have:=List.all_eq_true.1 Zw t ht
  simpa using this
 ·rw[hs,P6]
  rfl
 ·refine⟨pw.str.1,pw.str.2,λi hi=>?_⟩
  rw[cK i hi]
  split<;>simp_all
end
end Go.X
namespace Go.X.Tl
open Go Go.Proofs Go.X Go.X.Lt Go.ChangeShapes Go.WideShapes Go.ChangeAt Go.RowKit
theorem OX : Tryz.prog.globalNamed "blockworks/wear.none" = some 0 := by kernel_rfl
theorem adG:(Tryz.prog.globals[0]?).map (·.type)=some 83:=by kernel_rfl
theorem adU:Tryz.prog.underlying 83=some (.struct #[dg Tryz.prog 83 0]):=by kernel_rfl
theorem Ot:(dg Tryz.prog 83 0).type=36∧(dg Tryz.prog 83 0).offset=0:=⟨by kernel_rfl,by kernel_rfl⟩
theorem Eh:((dg Tryz.prog 36 0).type=3∧(dg Tryz.prog 36 0).offset=0)∧((dg Tryz.prog 36 1).type=3∧(dg Tryz.prog 36 1).offset=1):=⟨⟨by kernel_rfl,by kernel_rfl⟩,⟨by kernel_rfl,by kernel_rfl⟩⟩
theorem VH:Tryz.prog.cellsOf 83=2:=by kernel_rfl
abbrev yN : List (String × DataW Unit) := [("blockworks/wear.none", YtfhkkhgbjbnenaaGreatDoor.Rows.laid_blockworks_wear_none)]
theorem abt {W:World}(h:laidMetH Tryz.prog yN W):vR W 2 (.slice (some ⟨0,0,none⟩) 1 1) 1 (λ_=>Wr.bg Wr.uY):=by
 rw[MakeChecks.laidMetH_plain _ _ _ (by kernel_rfl)] at h
 obtain⟨ps,⟨g0,t0,Nz,f0,p0,q0,YG,yG,ZU,Bf,_,_⟩,_,_⟩:=h
 obtain rfl:=Option.some.inj (OX.symm.trans YG)
 obtain rfl:=Option.some.inj (adG.symm.trans yG)
 obtain⟨xs,m,rfl,hx,hlen,P9,lx⟩:=DataW.trod_struct adU Bf
 match xs,P9 with
 |[x0],_ =>
  have h0:=lx 0 (dg Tryz.prog 83 0) rfl
  rw[Ot.1,Ot.2,DN] at h0
  have h0:DataW.trod _ Tryz.prog W 0 _ false m 36 ((Nz.toList.drop 0).take 2)=some x0:=h0
  rw[VH] at hlen
  obtain⟨ys,m2,rfl,hy,_,Z1,Pu⟩:=DataW.trod_struct adP h0
  match ys,Z1 with
  |[y0,y1],_ =>
   have k0:=Pu 0 (dg Tryz.prog 36 0) rfl
   have k1:=Pu 1 (dg Tryz.prog 36 1) rfl
   rw[Eh.1.1,Eh.1.2,Af] at k0
   rw[Eh.2.1,Eh.2.2,Af] at k1
   match pj:Nz.toList,hlen with
   |[c0,c1],_ =>
    rw[pj] at k0 k1
    obtain⟨n0,e0,e1,_⟩:=DataW.trod_int S9 (show DataW.trod _ Tryz.prog W 0 _ false m2 3 [c0]=some y0 from k0)
    obtain⟨n1,e2,e3,_⟩:=DataW.trod_int S9 (show DataW.trod _ Tryz.prog W 0 _ false m2 3 [c1]=some y1 from k1)
    have JX:YtfhkkhgbjbnenaaGreatDoor.Rows.laid_blockworks_wear_none=(DataW.agg ([x0].map (·.1)):DataW Unit):=congrArg Prod.fst hx
    rw[hy,e1,e3] at JX
    simp only[YtfhkkhgbjbnenaaGreatDoor.Rows.laid_blockworks_wear_none,List.map_cons,List.map_nil,DataW.agg.injEq,List.cons.injEq,DataW.lit.injEq,Lit.int.injEq,true_and,and_true] at JX
    obtain⟨rfl,rfl⟩:=JX
    have e0:c0=.int .i64 1048576:=by simpa using e0
    have e2:c1=.int .i64 (-1048576):=by simpa using e2
    subst e0;subst e2
    have hc:∀i,W.cell? ⟨0,i,none⟩=[Value.int .i64 1048576,.int .i64 (-1048576)][i]?:=λi=>by
     rw[World.var?_cell OX ZU i,←pj,Array.getElem?_toList]
    refine⟨_,1,rfl,Nat.le_refl _,λ_=>⟨_,rfl,?_,λi hi=>⟨[.int .i64 1048576,.int .i64 (-1048576)],rfl,rfl,rfl,λj v hv=>?_⟩⟩⟩
    ·have:=hc 0
     rcases Nat.lt_or_ge 0 W.heap.size with aG|kj
     ·exact aG
     ·simp[World.cell?,Array.getElem?_eq_none kj] at this
    ·obtain rfl:i=0:=by omega
     have:=hc j
     rw[hv] at this
     rw[lR,Nat.zero_mul,Nat.zero_add]
     exact this
end Go.X.Tl
namespace Go.X.Tl
open Go Go.Proofs Go.X Go.X.Lt Go.ChangeShapes Go.WideShapes Go.ChangeAt Go.RowKit
open Go.X.Gr (az iC)
open Go.X.Wr (gF)
def D2 (l:List Nm):Env:=λj=>l[j]?
theorem NS {l:List Nm}(h:∀nm∈l,nm.owner=none){j:Nat}{nm:Nm}{b:Nat}(h1:D2 l j=some nm)(h2:nm.owner=some b):False:=by
 rw[h nm (List.mem_of_getElem? h1)] at h2;cases h2
theorem abL {W:World}{base:Nat}{H:Type}{enc:TypeId × Value→H}{args:Array Value}{ds:List (DataW H)}{p:List MemPlace}(tn:∀(j:Nat) t v,Tryz.f3.params[j]?=some t→args[j]?=some v→Value.okWide Tryz.prog W .any base t v)
  (hA:DataW.TrodAll enc Tryz.prog W 0 (λ_=>true) true Tryz.f3.params.toList args.toList ds p) (hL:laidMetH Tryz.prog yN W):Mb Tryz.prog 3 W args.toList:=by
 have e:Tryz.f3.params=#[27,28,29,5]:=by kernel_rfl
 rw[e] at tn hA
 obtain⟨v0,vs0,d0,ds0,p0,q0,ju,rfl,rfl,h0,r0⟩:=trodAll_cons hA
 obtain⟨v1,vs1,d1,ds1,p1,q1,rfl,rfl,rfl,h1,r1⟩:=trodAll_cons r0
 obtain⟨v2,vs2,d2,ds2,p2,q2,rfl,rfl,rfl,h2,r2⟩:=trodAll_cons r1
 obtain⟨v3,vs3,d3,ds3,p3,q3,rfl,rfl,rfl,h3,r3⟩:=trodAll_cons r2
 obtain⟨rfl,rfl,rfl⟩:=trodAll_nil r3
 obtain rfl:args=#[v0,v1,v2,v3]:=by cases args;simp_all
 obtain⟨x,a0,a1,a2,a3,c0,c1,c2,c3,rfl,k0,k1,k2,k3⟩:=abE (tn 0 27 v0 rfl rfl) h0
 obtain⟨a',n',HC,rfl⟩:=okWide_slice S7 (tn 1 28 v1 rfl rfl)
 obtain⟨fuel,hf⟩:=h1
 obtain⟨a,n,cap,g,Av,hn,hg,hb⟩:=abK hf
 have Av:[Value.slice a' n' HC]=[.slice a n cap]:=Av
 injection Av with Av
 rw[Av]
 obtain⟨b,m,Nd,o,rfl,hm,ho,kW⟩:=abJ (tn 2 29 v2 rfl rfl) h2
 obtain⟨x3,rfl,w3⟩:=abF adT (tn 3 5 v3 rfl rfl) h3
 have YV:=abt hL
 obtain⟨P',sP⟩:∃P':Tp,P'=⟨x,n,g,m,o,x3⟩:=⟨_,rfl⟩
 have fY:∀b',¬Own (D2 [.sl none 0 0 0,.sl a0 x.nL c0 2,.sl a1 x.nB c1 10,.sl a2 x.nP c2 1,.sl a3 x.nO c3 2,.sl a n cap 5,.sl b m Nd 1,.sl none 0 0 0]) (ab (bs P')) b':=by
  rintro b' ⟨id,hb,nm,k1,k2,k3,k4⟩
  exact NS (by simp[Nm.owner]) k3 k4
 refine⟨D2 [.sl none 0 0 0,.sl a0 x.nL c0 2,.sl a1 x.nB c1 10,.sl a2 x.nP c2 1,.sl a3 x.nO c3 2,.sl a n cap 5,.sl b m Nd 1,.sl none 0 0 0],bs P',A3 P',8,?_,fY,?_,?_,s3 ?_⟩
 ·refine⟨λid hb' hf=>?_,λid bM x y nm ak b' _ _ _ _ k1 _ k2 _=>?_,λ_ _ _ _ _ b' _ _ _ _=>fY b',λb' _=>fY b'⟩
  ·by_cases e0:id=0
   ·subst e0
    have hf:some (HB.ax 2 gF)=some hb':=hf
    cases hf
    refine⟨_,rfl,rfl,?_⟩
    rintro v k get ⟨rfl,rfl,rfl⟩
    exact YV
   by_cases e1:id=1
   ·subst e1
    have hf:some (HB.ro 2 P'.x0.nL λi=>az (P'.x0.li i))=some hb':=hf
    cases hf
    exact⟨_,rfl,by rw[sP];exact k0 _⟩
   by_cases e2:id=2
   ·subst e2
    have hf:some (HB.ro 10 P'.x0.nB λi=>dG (P'.x0.bl i))=some hb':=hf
    cases hf
    exact⟨_,rfl,by rw[sP];exact k1 _⟩
   by_cases e3:id=3
   ·subst e3
    have hf:some (HB.ro 1 P'.x0.nP λi=>iC (P'.x0.bE i))=some hb':=hf
    cases hf
    exact⟨_,rfl,by rw[sP];exact k2 _⟩
   by_cases e4:id=4
   ·subst e4
    have hf:some (HB.ro 2 P'.x0.nO λi=>az (P'.x0.od i))=some hb':=hf
    cases hf
    exact⟨_,rfl,by rw[sP];exact k3 _⟩
   by_cases e5:id=5
   ·subst e5
    have hf:some (HB.ro 5 P'.nW λi=>C3 (P'.g i))=some hb':=hf
    cases hf
    exact⟨_,rfl,by rw[sP];exact hb _⟩
   by_cases e6:id=6
   ·subst e6
    have hf:some (HB.ro 1 P'.m λi=>[.si .u16 (P'.o i)])=some hb':=hf
    cases hf
    exact⟨_,rfl,by rw[sP];exact kW _⟩
   by_cases e7:id=7
   ·subst e7
    have hf:some (HB.ax 4 (LR P'.nW P'.g))=some hb':=hf
    cases hf
    refine⟨_,rfl,rfl,?_⟩
    rw[sP]
    rintro v k get ⟨i,hi,rfl,rfl,rfl⟩
    exact(hg i hi).2
   ·have:ab (bs P') id=none:=by simp[bs,ab,Ne.symm e0,Ne.symm e1,Ne.symm e2,Ne.symm e3,Ne.symm e4,Ne.symm e5,Ne.symm e6,Ne.symm e7]
    rw[this] at hf;cases hf
  ·exact(NS (by simp[Nm.owner]) k1 k2).elim
 ·intro j hj
  exact List.getElem?_eq_none hj
 ·rw[sP]
  simp[A3,e_,den,ai,Value.oneCell',D2]
 ·rw[sP]
  exact⟨hm,ho,wf_u8 w3,λi hi=>(hg i hi).1⟩
theorem V5 (os:Os)(args:Array Value):laidMetH Tryz.prog yN ((World.doorLaid Tryz.prog 400 os).forCall (λ_ _=>0) ⟨#[],args,[]⟩).memory :=
 laidMetH_of_parts3 (fuel:=8) (laidMet_of_run' 8 (by kernel_rfl) (by kernel_rfl)) (by kernel_rfl) (by kernel_rfl)
theorem aaT (os:Os)(started:os.Started)(H:Type)(enc:TypeId × Value→H) :
  ReturnsInHanded {} Tryz.checked os 3 .any (λw args=>(YtfhkkhgbjbnenaaGreatDoor.Rows.topSoldSpec.pre enc Tryz.prog Tryz.f3 [] false w args∧laidMetH Tryz.prog yN w)∧sizedMet enc Tryz.prog Tryz.f3 (OpenSpec.ofChange YtfhkkhgbjbnenaaGreatDoor.Rows.topSoldSpec) false w args) (YtfhkkhgbjbnenaaGreatDoor.Rows.topSoldSpec.post enc Tryz.prog Tryz.f3 false true false false):=by
 refine acs (C:=Tryz.checked) yN laidOut own started (by kernel_rfl) Tryz.func3 (tb:=4)
  (ChangeSpec.witness_shaped (enc:=enc) (C:=Tryz.checked) (os:=os) (X:=λw _=>laidMetH Tryz.prog yN w) false (World.doorLaid Tryz.prog 400 os) #[.agg #[.slice none 0 0,.int .i64 0,.slice none 0 0,.slice none 0 0,.int .i64 0,.slice none 0 0],.slice none 0 0,.slice none 0 0,.int .u8 0] 8 rfl (World.shaped_of_RefB (by kernel_rfl) (by kernel_rfl)) (by kernel_rfl) (by kernel_rfl) (by kernel_rfl) (V5 os _))
  rfl (by kernel_rfl) (by kernel_rfl) (by kernel_rfl) (λds hd=>?_) (λW base args ds p tn hA hL=>abL tn hA hL)
 match ds,hd with
 |[d0,d1,d2,d3],_=>rfl
end Go.X.Tl
namespace Go.Proofs.YtfhkkhgbjbnenaaGreatDoor
open Go Go.Proofs
theorem S2:Rows.TopSoldSaid :=
 OpenClaim.holds_of_wide 3 Tryz.f3 rfl rfl rfl rfl rfl rfl rfl ⟨rfl,rfl,rfl,rfl,rfl⟩ rfl rfl rfl rfl rfl (by kernel_rfl) Tryz.func3 (by kernel_rfl)
  (of_decide_eq_true (by kernel_rfl)) (by unfold Func.isWrapper;rw[if_neg (of_decide_eq_false (by kernel_rfl))];exact⟨rfl,rfl⟩)
  (λos st H enc _=>Go.X.Tl.aaT os st H enc)
#print axioms S2
end Go.Proofs.YtfhkkhgbjbnenaaGreatDoor
