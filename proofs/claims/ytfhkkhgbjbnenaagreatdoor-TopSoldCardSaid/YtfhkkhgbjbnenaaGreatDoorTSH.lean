/- Lot: the document's Grade and Lot; Stack: Fewest, Count, Needed. -/
import Derived.Test.YtfhkkhgbjbnenaaGreatDoorTSG
import Derived.Test.YtfhkkhgbjbnenaaGreatDoorTSD
import Derived.Test.YtfhkkhgbjbnenaaGreatDoorTSC

set_option linter.unusedVariables false
set_option linter.unusedSimpArgs false
set_option linter.unusedSectionVars false
set_option maxRecDepth 100000
set_option maxHeartbeats 4000000

namespace Go.X.Lt
open Go Go.Proofs Go.X
open Go.X.Gr (aB az au bQ dj ca da hasB cD dW eA aE bZ iC bc bR code fq)
def c8:Ct:=λfr args H=>match args with
 |[.agg (.sl i0::r),.si .i64 b]=>mq H (.sl i0::r) λx C=>some ⟨some (C∧0≤b∧b≤(x.nB:Int)-1),none,.agg (bR i0 (gP x b.toNat)),[]⟩
 |_=>none
theorem Vm:cY c8:=by
 intro fr args H H' out hH h
 unfold c8 at h ⊢
 split at h
 ·exact uS hH h
 ·cases h
theorem k8:aP P 8 c8:=by
 have g:=ah
 refine bq (C:=aC _) g.ok Tryz.func8 (c:=code Tryz.f8) rfl λfr args H out h hp=>?_
 unfold c8 at h
 split at h
 case h_2=>cases h
 rename_i j0 r b
 obtain⟨i0,i1,i2,i3,x,C,e,hh,h2⟩:=wX h
 clear h
 injection e with e1 e2
 cases e1
 subst e2
 cases h2
 obtain⟨hC,lq,kW⟩:C∧0≤b∧b≤(x.nB:Int)-1:=hp
 refine⟨jU j0 i1 i2 i3 x,[.agg (e_ 0 1 2 3 x),.si .i64 b],H4 x,4,[],rfl,rfl,Nat.le_of_ble_eq_true rfl,hh hC,rfl,rfl,λG hG=>?_⟩
 clear hh hC
 obtain⟨b,rfl⟩:∃n:Nat,b=(n:Int):=⟨b.toNat,by omega⟩
 rw[Int.toNat_natCast]
 refine cU (g.ok _ _ _) bP [0,1,0,4,0,28,60,0,128,511,1023] [(10,5)] 11 (by kernel_rfl) ?_
 refine aa.mk (show(0:Int)≤(b:Int)∧(b:Int)<(x.nB:Int) from⟨by omega,by omega⟩) ?_
 exact⟨.inl rfl,⟨AU,rfl,AU,AU,rfl,rfl⟩⟩
theorem g8 {l:List (Nat × Ct)}(g:Good P T l):Good P T ((8,c8)::l):=g.add k8 Vm (aw Tryz.func8 (c:=code Tryz.f8) rfl (by decide))
def uv (x:Lo):Bool:=!(decide (6<(x.nB:Int))||decide (4<(x.nO:Int))||!aE x.g7 0 50||!decide ((x.nP:Int)=(x.nL:Int)))
def bB (x:Lo)(b:Nat):Bool:=da (gP x b) (LL x)
def pB (x:Lo)(i:Nat):Bool:=aE (x.bE i) 0 100 && !(decide (0<i)&&decide (x.bE (i-1)<x.bE i))
def oB (x:Lo)(i:Nat):Bool:=aE (x.od i).1 0 ((x.nL:Int)-1)&&aE (x.od i).2 1 6
def ov (x:Lo):Bool:=uv x&&(da (gZ x) (LL x)&&((List.range x.nB).all (bB x)&&((List.range x.nP).all (pB x)&&(List.range x.nO).all (oB x))))
theorem xD {n i:Nat}{f:Nat→Bool}(hi:i<n)(h:f i=false):(List.range n).all f=false:=by
 rw[List.all_eq_false]
 exact⟨i,List.mem_range.2 hi,by rw[h];decide⟩
theorem xE {n:Nat}{f:Nat→Bool}(h:∀j,j<n→f j=true):(List.range n).all f=true:=by
 rw[List.all_eq_true]
 exact λi hi=>h i (List.mem_range.1 hi)
def c4:Ct:=λfr args H=>match args with
 |[.agg l]=>mq H l λx C=>some ⟨some (C∧x.nL≤1000000),none,.sb (ov x),[]⟩
 |_=>none
theorem DJ:cY c4:=by
 intro fr args H H' out hH h
 unfold c4 at h ⊢
 split at h
 ·exact uS hH h
 ·cases h
def ue:Ct:=λfr args H=>match args with
 |[.agg l,.si .i64 n]=>mq H l λx C=>some ⟨some (C∧x.nL≤1000000),none,.sb (aE n 0 ((x.nL:Int)-1)),[]⟩
 |_=>none
theorem U5:cY ue:=by
 intro fr args H H' out hH h
 unfold ue at h ⊢
 split at h
 ·exact uS hH h
 ·cases h
theorem Kd:aP P 22 ue:=by
 have g:=OM ah
 refine bq (C:=aC _) g.ok Tryz.func22 (c:=code Tryz.f22) rfl λfr args H out h hp=>?_
 unfold ue at h
 split at h
 case h_2=>cases h
 rename_i l n
 obtain⟨i0,i1,i2,i3,x,C,rfl,hh,h⟩:=wX h
 cases h
 obtain⟨hC,hL⟩:C∧x.nL≤1000000:=hp
 refine⟨jU i0 i1 i2 i3 x,[.agg (e_ 0 1 2 3 x),.si .i64 n],H4 x,4,[],rfl,rfl,Nat.le_of_ble_eq_true rfl,hh hC,rfl,rfl,λG hG=>?_⟩
 exact aa.mk (show ae .i64 ((x.nL:Int)-1) from⟨by omega,by omega⟩) ⟨.inl rfl,bU AU rfl rfl AU⟩
theorem Iw {l:List (Nat × Ct)}(g:Good P T l):Good P T ((22,ue)::l):=g.add Kd U5 (aw Tryz.func22 (c:=code Tryz.f22) rfl (by decide))
theorem lX (x:Lo):Cells x.nL (λi=>az (x.li i)) x.nB (λi=>dG (x.bl i)) x.nP (λi=>iC (x.bE i)) x.nO (λi=>az (x.od i)):=⟨dj _ _,λ_ _=>rfl,λ_ _=>rfl,dj _ _⟩
theorem k4:aP P 4 c4:=by
 have g:=OM (XL (g8 (Iw ah)))
 refine bq (C:=aC _) g.ok Tryz.func4 (c:=code Tryz.f4) rfl λfr args H out h hp=>?_
 unfold c4 at h
 split at h
 case h_2=>cases h
 rename_i l
 obtain⟨i0,i1,i2,i3,x,C,rfl,hh,h⟩:=wX h
 cases h
 obtain⟨hC,hL⟩:C∧x.nL≤1000000:=hp
 refine⟨jU i0 i1 i2 i3 x,[.agg (e_ 0 1 2 3 x)],H4 x,4,[],rfl,rfl,Nat.le_of_ble_eq_true rfl,hh hC,rfl,rfl,λG hG=>?_⟩
 clear hh hC
 refine Br.mk (λh=>?_) (λh=>?_)
 ·have h:uv x=false:=by unfold uv;rw[Bool.not_eq_false'];exact h
  have e:false=ov x:=by rw[ov,h];rfl
  exact⟨.inl rfl,bU AU rfl rfl AU⟩
 have h:uv x=true:=by unfold uv;rw[Bool.not_eq_true'];exact h
 have hd:ov x=(da (gZ x) (LL x)&&((List.range x.nB).all (bB x)&&((List.range x.nP).all (pB x)&&(List.range x.nO).all (oB x)))):=by rw[ov,h];rfl
 have hn:x.nB≤6∧x.nO≤4∧x.nP=x.nL:=by
  simp only[uv,Bool.not_eq_true',Bool.or_eq_false_iff,decide_eq_false_iff_not,Bool.not_eq_false',decide_eq_true_eq] at h
  omega
 rw[hd]
 refine aa.mk ⟨dj _ _,hL⟩ ?_
 refine Br.mk (λh=>?_) (λh=>?_)
 ·have h:(!da (gZ x) (LL x))=true:=h
  rw[Bool.not_eq_true'] at h
  rw[h]
  exact⟨.inl rfl,bU AU rfl rfl AU⟩
 have h:(!da (gZ x) (LL x))=false:=h
 rw[Bool.not_eq_false'] at h
 rw[h,Bool.true_and]
 refine cm (g.ok _ _ _) 4 (λz:{i:Nat // i≤x.nB∧∀j,j<i→bB x j=true}=>⟨[(1,⟨[],.sp 4 0⟩),(3,⟨[],.si .i64 (z.1:Int)⟩)],[],(4,.cells 27 (e_ 0 1 2 3 x))::H4 x,5,[]⟩) (λz=>x.nB-z.1) hG ⟨0,Nat.zero_le _,λj hj=>absurd hj (Nat.not_lt_zero _)⟩ (λj=>j) ⟨AU,AU,rfl,rfl,rfl,rfl,trivial⟩ ?_
 rintro⟨i,hi,cq⟩
 have hi:i≤x.nB:=hi
 refine Br.mk (λh=>?_) (λh=>?_)
 ·have h:(i:Int)<(x.nB:Int):=of_decide_eq_true h
  refine aa.mk (show Cells _ _ _ _ _ _ _ _∧(0:Int)≤(i:Int)∧(i:Int)≤(x.nB:Int)-1 from⟨lX x,by omega,by omega⟩) ?_
  refine aa.mk ⟨dj _ _,hL⟩ ?_
  refine Br.mk (λh2=>?_) (λh2=>?_)
  ·have h2:(!bB x i)=true:=h2
   rw[Bool.not_eq_true'] at h2
   have e:false=((List.range x.nB).all (bB x)&&((List.range x.nP).all (pB x)&&(List.range x.nO).all (oB x))):=by rw[xD (by omega) h2];rfl
   exact⟨.inl rfl,bU AU rfl rfl AU⟩
  have h2:(!bB x i)=false:=h2
  rw[Bool.not_eq_false'] at h2
  refine aa.mk (show ae .i64 ((i:Int)+1) from⟨by omega,by omega⟩) ⟨⟨i+1,by omega,λj hj=>?_⟩,(λj=>j),⟨AU,AU,rfl,rfl,rfl,rfl,trivial⟩,by show x.nB-(i+1)<x.nB-i;omega⟩
  rcases Nat.lt_succ_iff_lt_or_eq.1 hj with hj|rfl
  ·exact cq j hj
  ·exact h2
 have h:¬(i:Int)<(x.nB:Int):=of_decide_eq_false h
 obtain rfl:i=x.nB:=by omega
 rw[xE cq,Bool.true_and]
 refine cm (g.ok _ _ _) 4 (λz:{i:Nat // i≤x.nP∧∀j,j<i→pB x j=true}=>⟨[(1,⟨[],.sp 4 0⟩),(4,⟨[],.si .i64 (z.1:Int)⟩)],[],(4,.cells 27 (e_ 0 1 2 3 x))::H4 x,5,[]⟩) (λz=>x.nP-z.1) hG ⟨0,Nat.zero_le _,λj hj=>absurd hj (Nat.not_lt_zero _)⟩ (λj=>j) ⟨AU,AU,rfl,rfl,rfl,rfl,trivial⟩ ?_
 rintro⟨i,hi,Pg⟩
 have hi:i≤x.nP:=hi
 refine Br.mk (λh=>?_) (λh=>?_)
 ·have h:(i:Int)<(x.nP:Int):=of_decide_eq_true h
  refine cU (g.ok _ _ _) bP [0,1,0,7,15,31,63,127,255,511,1023,2047,4095,2047,16383,32767,2047,67583,2047,264191,985087,2033663,4194303,8388607,16777215] [] 25 (by kernel_rfl) ?_
  refine aa.mk (show(0:Int)≤(i:Int)∧(i:Int)<(x.nP:Int) from⟨by omega,h⟩) ?_
  refine aa.mk (bZ (show(0:Int)≤(i:Int)∧(i:Int)<(x.nP:Int) from⟨by omega,h⟩)) ?_
  refine aa.mk (bZ (show ae .i64 ((i:Int)-1) from⟨by omega,by omega⟩)) ?_
  refine aa.mk (by
   intro h1 h2
   have hg:(0:Int)<(i:Int):=of_decide_eq_true h1
   exact(⟨by omega,by omega⟩:(0:Int)≤(i:Int)-1∧(i:Int)-1<(x.nP:Int))) ?_
  have ei:((i:Int)-1).toNat=i-1:=by omega
  have ej:decide ((0:Int)<(i:Int))=decide (0<i):=decide_eq_decide.2 (by omega)
  have EY:pB x i = !(!aE (x.bE i) 0 100||decide ((0:Int)<(i:Int))&&decide (x.bE ((i:Int)-1).toNat<x.bE i)):=by
   unfold pB
   rw[ei,ej,Bool.not_or,Bool.not_not]
  refine Br.mk (λh2=>?_) (λh2=>?_)
  ·have h2:(!aE (x.bE i) 0 100||decide ((0:Int)<(i:Int))&&decide (x.bE ((i:Int)-1).toNat<x.bE i))=true:=h2
   rw[h2] at EY
   have e:false=((List.range x.nP).all (pB x)&&(List.range x.nO).all (oB x)):=by rw[xD (by omega) EY];rfl
   exact⟨.inl rfl,bU AU rfl rfl AU⟩
  have h2:(!aE (x.bE i) 0 100||decide ((0:Int)<(i:Int))&&decide (x.bE ((i:Int)-1).toNat<x.bE i))=false:=h2
  rw[h2] at EY
  refine aa.mk (show ae .i64 ((i:Int)+1) from⟨by omega,by omega⟩) ⟨⟨i+1,by omega,λj hj=>?_⟩,(λj=>j),⟨AU,AU,rfl,rfl,rfl,rfl,trivial⟩,by show x.nP-(i+1)<x.nP-i;omega⟩
  rcases Nat.lt_succ_iff_lt_or_eq.1 hj with hj|rfl
  ·exact Pg j hj
  ·exact EY
 have h:¬(i:Int)<(x.nP:Int):=of_decide_eq_false h
 obtain rfl:i=x.nP:=by omega
 rw[xE Pg,Bool.true_and]
 refine cm (g.ok _ _ _) 4 (λz:{i:Nat // i≤x.nO∧∀j,j<i→oB x j=true}=>⟨[(1,⟨[],.sp 4 0⟩),(5,⟨[],.si .i64 (z.1:Int)⟩)],[],(4,.cells 27 (e_ 0 1 2 3 x))::H4 x,5,[]⟩) (λz=>x.nO-z.1) hG ⟨0,Nat.zero_le _,λj hj=>absurd hj (Nat.not_lt_zero _)⟩ (λj=>j) ⟨AU,AU,rfl,rfl,rfl,rfl,trivial⟩ ?_
 rintro⟨i,hi,Pf⟩
 have hi:i≤x.nO:=hi
 refine Br.mk (λh=>?_) (λh=>?_)
 ·have h:(i:Int)<(x.nO:Int):=of_decide_eq_true h
  refine cU (g.ok _ _ _) bP [0,0,2,0,14,30,62,127,255,511,1023,2047,1023,8191,16383,32767,65535,131071,262143] [] 19 (by kernel_rfl) ?_
  refine aa.mk (show(0:Int)≤(i:Int)∧(i:Int)<(x.nO:Int) from⟨by omega,h⟩) ?_
  refine aa.mk (bZ (show Cells _ _ _ _ _ _ _ _∧x.nL≤1000000 from⟨lX x,hL⟩)) ?_
  refine aa.mk (bZ (show(0:Int)≤(i:Int)∧(i:Int)<(x.nO:Int) from⟨by omega,h⟩)) ?_
  have ET:oB x i = !(!aE (x.od i).1 0 ((x.nL:Int)-1)||!aE (x.od i).2 1 6):=by unfold oB;rw[Bool.not_or,Bool.not_not,Bool.not_not]
  refine Br.mk (λh2=>?_) (λh2=>?_)
  ·have h2:(!aE (x.od i).1 0 ((x.nL:Int)-1)||!aE (x.od i).2 1 6)=true:=h2
   rw[h2] at ET
   have e:false=(List.range x.nO).all (oB x):=by rw[xD (by omega) ET]
   exact⟨.inl rfl,bU AU rfl rfl AU⟩
  have h2:(!aE (x.od i).1 0 ((x.nL:Int)-1)||!aE (x.od i).2 1 6)=false:=h2
  rw[h2] at ET
  refine aa.mk (show ae .i64 ((i:Int)+1) from⟨by omega,by omega⟩) ⟨⟨i+1,by omega,λj hj=>?_⟩,(λj=>j),⟨AU,AU,rfl,rfl,rfl,rfl,trivial⟩,by show x.nO-(i+1)<x.nO-i;omega⟩
  rcases Nat.lt_succ_iff_lt_or_eq.1 hj with hj|rfl
  ·exact Pf j hj
  ·exact ET
 have h:¬(i:Int)<(x.nO:Int):=of_decide_eq_false h
 obtain rfl:i=x.nO:=by omega
 rw[xE Pf]
 exact⟨.inl rfl,bU AU rfl rfl AU⟩
theorem g4 {l:List (Nat × Ct)}(g:Good P T l):Good P T ((4,c4)::l):=g.add k4 DJ (aw Tryz.func4 (c:=code Tryz.f4) rfl (by decide))
end Go.X.Lt
namespace Go.X.W
open Go Go.Proofs Go.X
noncomputable abbrev P:Program:=Tryz.prog
def pl:List Nat:=[36,214,212]
theorem pO:xA P pl:=by
 intro t ht
 simp only[pl,List.mem_cons,List.not_mem_nil,or_false] at ht
 rcases ht with rfl|rfl|rfl
 ·exact⟨by kernel_rfl,by kernel_rfl,by decide⟩
 ·exact⟨by kernel_rfl,by kernel_rfl,by decide⟩
 ·exact⟨by kernel_rfl,by kernel_rfl,by decide⟩
noncomputable abbrev T:cf:=xn P pl
theorem bP:P.follows .mixedOrders=true:=by kernel_rfl
theorem ah:Good P T []:=⟨ve pO,λp h=>by cases h⟩
def code (f:Func):Code:=match f.body with
 |some c=>c
 |none=>.skip
def aE (n lo hi:Int):Bool:=decide (lo≤n)&&decide (n≤hi)
def sy:Ct:=bd fun
 |[.si .i64 a,.si .i64 b,.si .i64 c]=>some ⟨none,none,.sb (aE a b c),[]⟩
 |_=>none
theorem Kh {l:List (Nat × Ct)}(g:Good P T l):aP P 122 sy:=bq (C:=aC l) g.ok Tryz.func122 (c:=code Tryz.f122) rfl λfr args H out h hp=>by
 simp only[sy,bd] at h
 split at h
 ·cases h
  refine dt rfl (Nat.le_of_ble_eq_true rfl) λG hG=>?_
  refine⟨.inl rfl,cz rfl rfl rfl⟩
 ·cases h
theorem yn {l:List (Nat × Ct)}(g:Good P T l):Good P T ((122,sy)::l):=g.add (Kh g) (cZ _) (aw Tryz.func122 (c:=code Tryz.f122) rfl (by decide))
def xj (a b lo hi wide:Int):Bool:=decide (lo≤a)&&decide (a≤b)&&decide (b≤hi)&&decide (b-a≤wide)
def Hy:Ct:=bd fun
 |[.agg [.si .i64 a,.si .i64 b],.si .i64 lo,.si .i64 hi,.si .i64 wide]=>some ⟨some (-1000000≤lo∧hi≤1000000),none,.sb (xj a b lo hi wide),[]⟩
 |_=>none
theorem QE {l:List (Nat × Ct)}(g:Good P T l):aP P 128 Hy:=bq (C:=aC l) g.ok Tryz.func128 (c:=code Tryz.f128) rfl λfr args H out h hp=>by
 simp only[Hy,bd] at h
 split at h
 ·rename_i a b lo hi wide
  cases h
  obtain⟨h1,h2⟩:-1000000≤lo∧hi≤1000000:=hp
  refine dt rfl (Nat.le_of_ble_eq_true rfl) λG hG=>?_
  refine aa.mk (λh=>?_) ⟨.inl rfl,cz rfl rfl rfl⟩
  have h:(decide (lo≤a)&&decide (a≤b)&&decide (b≤hi))=true:=h
  simp only[Bool.and_eq_true,decide_eq_true_eq] at h
  show _≤b-a∧b-a≤_
  omega
 ·cases h
theorem XG {l:List (Nat × Ct)}(g:Good P T l):Good P T ((128,Hy)::l):=g.add (QE g) (cZ _) (aw Tryz.func128 (c:=code Tryz.f128) rfl (by decide))
def iX (e:Int):List PanicEntry:=[{ v:=.iface 233 (.int .i64 e),recovered:=false }]
def xW:Ct:=bd fun
 |[.sb b,.si .i64 e]=>some ⟨none,some (!b,iX e),.bn [],[]⟩
 |_=>none
theorem Kl {l:List (Nat × Ct)}(g:Good P T l):aP P 127 xW:=by
 refine bq (C:=aC _) g.ok Tryz.func127 (c:=code Tryz.f127) rfl λfr args H out h hp=>?_
 simp only[xW,bd] at h
 split at h
 ·rename_i b e
  cases h
  refine dt rfl (Nat.le_of_ble_eq_true rfl) λG hG=>?_
  refine Br.mk (λh=>?_) (λh=>?_)
  ·refine AM aj rfl rfl rfl ?_
   exact⟨by rw[h];rfl,trivial⟩
  ·exact⟨.inr ⟨_,by rw[h]⟩,cz trivial rfl rfl⟩
 ·cases h
theorem OW {l:List (Nat × Ct)}(g:Good P T l):Good P T ((127,xW)::l):=g.add (Kl g) (cZ _) (aw Tryz.func127 (c:=code Tryz.f127) rfl (by decide))
theorem vp:r8 P 120 233 47:=by
 refine G9 (T:=T) (ve pO) Tryz.func120 rfl (by decide) rfl rfl rfl rfl rfl rfl rfl rfl (by decide) (by decide) (by decide) (by decide) (by decide) ?_ ?_
 ·intro x G hG
  refine Br.mk (λh=>by cases h) (λ_=>rfl)
 ·intro x k m G hG
  refine Br.mk (λ_=>?_) (λh=>by cases h)
  refine Br.mk (λh=>by cases h) (λ_=>rfl)
def ll (m:Nat)(o:Nat→Int)(c lo hi:Int):Int:=if m=0 then lo else lo+(o ((c+1).tmod (m:Int)).toNat+71*(c+1)).tmod (hi-lo+1)
theorem Dz:Body P 26:=aw Tryz.func26 (c:=code Tryz.f26) rfl (by decide)
def dA (m:Nat)(o:Nat→Int)(c:Int):List (Nat × HB):=[(0,.ro 1 m λi=>[.si .u16 (o i)]),(1,.cells 3 [.si .i64 c]),(2,.cells 29 [.sl 0])]
theorem CO {m:Nat}{o:Nat→Int}(hm:m≤maxLen)(ho:∀i,i<m→0≤o i∧o i<65536){c lo hi:Int}(hc:0≤c∧c≤100000)(hl:-1000000≤lo∧lo≤hi∧hi≤1000000){Rv:SV→List (Nat × HB)→Nat→Prop}{Rp:List PanicEntry→List (Nat × HB)→Nat→Prop}
  (aY:Rv (.si .i64 (ll m o c lo hi)) (dA m o (c+1)) 3):bG P 26 [.agg [.si .i64 lo,.si .i64 hi],.sp 1 0,.sp 2 0] (dA m o c) 3 Rv Rp:=by
 have g:=ah
 refine eI (ι:=Unit) g.ok Tryz.func26 (c:=code Tryz.f26) rfl (Nat.le_of_ble_eq_true rfl) (λ_=>.si .i64 (ll m o c lo hi)) (λx=>dA m o (c+1)) 3 (λG hG=>?_) (λx=>aY)
 refine aa.mk (show ae .i64 (c+1) from⟨by omega,by omega⟩) ?_
 refine Br.mk (λh=>?_) (λh=>?_)
 ·have h:((m:Nat):Int)=0:=of_decide_eq_true h
  have e:lo=ll m o c lo hi:=by unfold ll;rw[if_pos (by omega)]
  refine⟨(),(λj=>j),?_,?_,rfl,rfl,rfl,rfl⟩<;>repeat' (first|exact trivial|exact rfl|exact e|(intro i hi;exact⟨rfl,rfl⟩)|refine And.intro ?_ ?_)
 ·have h:¬((m:Nat):Int)=0:=of_decide_eq_false h
  obtain⟨c',rfl⟩:∃c':Nat,c=(c':Int):=⟨c.toNat,by omega⟩
  have wG:(((c':Nat):Int)+1).tmod (m:Int)=(((c'+1) % m:Nat):Int):=rfl
  have aG:(c'+1) % m<m:=Nat.mod_lt _ (by omega)
  have Y1:((((c':Nat):Int)+1).tmod (m:Int)).toNat=(c'+1) % m:=by rw[wG,Int.toNat_natCast]
  have EU:=ho _ aG
  obtain⟨v,hv⟩:∃v,o ((((c':Nat):Int)+1).tmod (m:Int)).toNat=v:=⟨_,rfl⟩
  have hvb:0≤v∧v<65536:=by rw[←hv,Y1];exact EU
  have h1:0≤v+71*((c':Int)+1):=by omega
  have h2:=Int.tmod_nonneg (hi-lo+1) h1
  have h3:=Int.tmod_lt_of_pos (v+71*((c':Int)+1)) (show 0<hi-lo+1 by omega)
  have hV:ll m o (c':Int) lo hi=lo+(v+71*((c':Int)+1)).tmod (hi-lo+1):=by unfold ll;rw[if_neg (by omega),hv]
  rw[hV]
  refine cU (g.ok _ _ _) bP [0,1,0,0,0,16,56,124,252,508,0,1024,4092,0,8192,0,32768,122880,253952,524284,1048575,2097151] [] 22 (by kernel_rfl) ?_
  refine aa.mk (show((m:Nat):Int)≠0 by omega) (aa.mk (show(0:Int)≤(((c':Nat):Int)+1).tmod (m:Int)∧(((c':Nat):Int)+1).tmod (m:Int)<(m:Int) from⟨by rw[wG];omega,by rw[wG];omega⟩) ?_)
  refine aa.mk (show ae .i64 (o ((((c':Nat):Int)+1).tmod (m:Int)).toNat) by rw[hv];exact⟨by omega,by omega⟩) ?_
  refine aa.mk (show ae .i64 (71*(((c':Nat):Int)+1)) from⟨by omega,by omega⟩) (aa.mk (show ae .i64 (o ((((c':Nat):Int)+1).tmod (m:Int)).toNat+71*(((c':Nat):Int)+1)) by rw[hv];exact⟨by omega,by omega⟩) ?_)
  refine aa.mk (show ae .i64 (hi-lo) from⟨by omega,by omega⟩) (aa.mk (show ae .i64 (hi-lo+1) from⟨by omega,by omega⟩) (aa.mk (show hi-lo+1≠0 by omega) ?_))
  refine aa.mk (show ae .i64 (lo+(o ((((c':Nat):Int)+1).tmod (m:Int)).toNat+71*(((c':Nat):Int)+1)).tmod (hi-lo+1)) by rw[hv];exact⟨by omega,by omega⟩) ?_
  have hE:lo+(o ((((c':Nat):Int)+1).tmod (m:Int)).toNat+71*(((c':Nat):Int)+1)).tmod (hi-lo+1)=lo+(v+71*((c':Int)+1)).tmod (hi-lo+1):=by rw[hv]
  refine⟨(),(λj=>j),?_,?_,rfl,rfl,rfl,rfl⟩<;>repeat' (first|exact trivial|exact rfl|exact hE|(intro i hi;exact⟨rfl,rfl⟩)|refine And.intro ?_ ?_)
def xT:Ct:=bd fun
 |[.si .i64 a,.si .i64 b]=>some ⟨none,none,.agg [.si .i64 a,.si .i64 b],[]⟩
 |_=>none
theorem Ka {l:List (Nat × Ct)}(g0:Good P T l):aP P 9 xT:=by
 have g:=ah
 refine bq (C:=aC _) g.ok Tryz.func9 (c:=code Tryz.f9) rfl λfr args H out h hp=>?_
 simp only[xT,bd] at h
 split at h
 ·cases h
  refine dt rfl (Nat.le_of_ble_eq_true rfl) λG hG=>⟨.inl rfl,cz ?_ rfl rfl⟩
  exact Q2
 ·cases h
theorem Iv {l:List (Nat × Ct)}(g:Good P T l):Good P T ((9,xT)::l):=g.add (Ka g) (cZ _) (aw Tryz.func9 (c:=code Tryz.f9) rfl (by decide))
theorem zO:Body P 6:=aw Tryz.func6 (c:=code Tryz.f6) rfl (by decide)
theorem CN {m:Nat}{o:Nat→Int}{Rv:SV→List (Nat × HB)→Nat→Prop}{Rp:List PanicEntry→List (Nat × HB)→Nat→Prop}
  (aY:Rv (.fn (.func 26) [] [.sp 1 0,.sp 2 0]) (dA m o 0) 3):bG P 6 [.sl 0] [(0,.ro 1 m λi=>[.si .u16 (o i)])] 1 Rv Rp:=by
 have g:=ah
 refine eI (ι:=Unit) g.ok Tryz.func6 (c:=code Tryz.f6) rfl (Nat.le_of_ble_eq_true rfl) (λ_=>.fn (.func 26) [] [.sp 1 0,.sp 2 0]) (λx=>dA m o 0) 3 (λG hG=>?_) (λx=>aY)
 refine⟨(),(λj=>match j with|1=>2|2=>1|j=>j),?_,?_,rfl,rfl,rfl,rfl⟩<;>exact Q1
end Go.X.W
namespace Go.X.Lt
open Go Go.Proofs Go.X
open Go.X.Gr (aB az au bQ dj ca da hasB cD dW eA aE bZ iC bc bR code fq)
theorem g9 {l:List (Nat × Ct)}(g:Good P T l):Good P T ((9,W.xT)::l):=g.add (W.Ka W.ah) (cZ _) (aw Tryz.func9 (c:=code Tryz.f9) rfl (by decide))
def Hr:Ct:=bd fun
 |[.si .i64 n]=>some ⟨none,none,.agg (dG ⟨n,n,n,n,n,n,n,n,n,n,0⟩),[]⟩
 |_=>none
theorem k60:aP P 60 Hr:=by
 have g:=g9 ah
 refine bq (C:=aC _) g.ok Tryz.func60 (c:=code Tryz.f60) rfl λfr args H out h hp=>?_
 simp only[Hr,bd] at h
 split at h
 ·cases h
  exact dt rfl (Nat.le_of_ble_eq_true rfl) λG hG=>⟨.inl rfl,cz AU rfl rfl⟩
 ·cases h
theorem Xx {l:List (Nat × Ct)}(g:Good P T l):Good P T ((60,Hr)::l):=g.add k60 (cZ _) (aw Tryz.func60 (c:=code Tryz.f60) rfl (by decide))
def QK:Nat→Int × Int
 |0=>(2,1)
 |1=>(4,3)
 |_=>(8,6)
def r13:Nat→aB
 |0=>⟨1,1,0,2,1,3,2,4,0,1,0⟩
 |1=>⟨0,0,0,0,0,0,0,0,0,0,0⟩
 |2=>⟨-9,-9,-9,-9,-9,-9,-9,-9,-9,-9,0⟩
 |_=>⟨7,7,6,6,6,6,6,6,6,6,0⟩
def MI (i:Nat):aB:={ r13 i with st:=0 }
def RR:Nat→Int
 |0=>30
 |1=>20
 |_=>5
def RA:Nat→Int × Int
 |0=>(0,1)
 |_=>(1,2)
def oI:Lo:=⟨3,QK,2,4,MI,3,RR,8,2,RA⟩
def nQ:Ct:=λfr args H=>match args with
 |[]=>some ⟨none,none,.agg [.sl fr,.si .i64 2,.sl (fr+1),.sl (fr+2),.si .i64 8,.sl (fr+3)],[(fr,.ro 2 3 λi=>az (QK i)),(fr+1,.ro 10 4 λi=>dG (MI i)),(fr+1+1,.ro 1 3 λi=>iC (RR i)),(fr+1+1+1,.ro 2 2 λi=>az (RA i))]⟩
 |_=>none
theorem DI:cY nQ:=by
 intro fr args H H' out hH h
 unfold nQ at h ⊢
 split at h
 ·exact h
 ·cases h
theorem Fo:aP P 23 nQ:=by
 have g:=g9 (Xx ah)
 refine bq (C:=aC _) g.ok Tryz.func23 (c:=code Tryz.f23) rfl λfr args H out h hp=>?_
 unfold nQ at h
 split at h
 case h_2=>cases h
 cases h
 refine⟨[],[],[],0,[14,62,66,78],rfl,rfl,Nat.zero_le _,wk H,rfl,rfl,λG hG=>?_⟩
 refine aa.mk ⟨by decide,by decide⟩ ?_
 refine cU (g.ok _ _ _) bP [0,0,0,7,0,16,48,112,240,496,0,1520,0,7664,0,32752,0,0,0,393216,1048575,2097151] [(21,0)] 22 (by kernel_rfl) ?_
 refine⟨.inl rfl,⟨AU,rfl,?_,AU,rfl,rfl⟩⟩
 have i3:∀{i:Nat},i<3→i=0∨i=1∨i=2:=λh=>by omega
 have i4:∀{i:Nat},i<4→i=0∨i=1∨i=2∨i=3:=λh=>by omega
 have i2:∀{i:Nat},i<2→i=0∨i=1:=λh=>by omega
 refine⟨rfl,⟨rfl,rfl,λi hi=>?_⟩,rfl,⟨rfl,rfl,λi hi=>?_⟩,rfl,⟨rfl,rfl,λi hi=>?_⟩,rfl,⟨rfl,rfl,λi hi=>?_⟩,trivial⟩
 ·rcases i3 hi with rfl|rfl|rfl<;>exact⟨rfl,rfl⟩
 ·rcases i4 hi with rfl|rfl|rfl|rfl<;>exact⟨rfl,rfl⟩
 ·rcases i3 hi with rfl|rfl|rfl<;>exact⟨rfl,rfl⟩
 ·rcases i2 hi with rfl|rfl<;>exact⟨rfl,rfl⟩
theorem ON {l:List (Nat × Ct)}(g:Good P T l):Good P T ((23,nQ)::l):=g.add Fo DI (aw Tryz.func23 (c:=code Tryz.f23) rfl (by decide))
def B3 (n:Nat)(f:Nat→Int)(m:Nat)(h:Nat→Int):Bool:=decide ((n:Int)=(m:Int))&&(List.range n).all λi=>decide (f i=h i)
def zW:Ct:=λfr args H=>match args with
 |[.sl a,.sl b]=>(match cn 1 H a,cn 1 H b with
  |some (n,get),some (m,aH)=>some ⟨some ((vn n get∧n≤1000000)∧vn m aH),none,.sb (B3 n (bc get) m (bc aH)),[]⟩
  |_,_=>none)
 |_=>none
theorem U6:cY zW:=by
 intro fr args H H' out hH h
 unfold zW at h ⊢
 split at h
 ·split at h
  ·rename_i e1 e2
   simp only[fk hH e1,fk hH e2]
   exact h
  ·cases h
 ·cases h
theorem k24:aP P 24 zW:=by
 have g:=ah
 refine bq (C:=aC _) g.ok Tryz.func24 (c:=code Tryz.f24) rfl λfr args H out h hp=>?_
 unfold zW at h
 split at h
 case h_2=>cases h
 rename_i a b
 split at h
 case h_2=>cases h
 rename_i _ _ n get m aH e1 e2
 cases h
 obtain⟨⟨h1,hn⟩,h2⟩:(vn n get∧n≤1000000)∧vn m aH:=hp
 have hh:Hand H [(a,.ro 1 n λi=>iC (bc get i)),(b,.ro 1 m λi=>iC (bc aH i))]:=uq ⟨gK e1 λi hi=>by rw[h1 i hi];rfl,gK e2 λi hi=>by rw[h2 i hi];rfl,trivial⟩ ⟨λi hi=>AU,λi hi=>AU,trivial⟩ rfl
 refine⟨_,[.sl 0,.sl 1],[(0,.ro 1 n λi=>iC (bc get i)),(1,.ro 1 m λi=>iC (bc aH i))],2,[],rfl,rfl,Nat.le_of_ble_eq_true rfl,hh,rfl,rfl,λG hG=>?_⟩
 clear hh h1 h2
 generalize bc get=f
 generalize bc aH=f2
 refine Br.mk (λh=>?_) (λh=>?_)
 ·have h:(!decide ((n:Int)=(m:Int)))=true:=h
  rw[Bool.not_eq_true'] at h
  have e:false=B3 n f m f2:=by rw[B3,h];rfl
  exact⟨.inl rfl,bU AU rfl rfl AU⟩
 have h:(!decide ((n:Int)=(m:Int)))=false:=h
 rw[Bool.not_eq_false'] at h
 have e0:B3 n f m f2=(List.range n).all λi=>decide (f i=f2 i):=by rw[B3,h];rfl
 have oh:(n:Int)=(m:Int):=of_decide_eq_true h
 rw[e0]
 refine cm (g.ok _ _ _) 2 (λz:{i:Nat // i≤n∧∀j,j<i→decide (f j=f2 j)=true}=>⟨[(0,⟨[],.sl 0⟩),(1,⟨[],.sl 1⟩),(5,⟨[],.si .i64 (z.1:Int)⟩)],[],[(0,.ro 1 n λi=>iC (f i)),(1,.ro 1 m λi=>iC (f2 i))],2,[]⟩) (λz=>n-z.1) hG ⟨0,Nat.zero_le _,λj hj=>absurd hj (Nat.not_lt_zero _)⟩ (λj=>j) ⟨AU,AU,rfl,rfl,rfl,rfl,trivial⟩ ?_
 rintro⟨i,hi,cq⟩
 have hi:i≤n:=hi
 refine Br.mk (λh=>?_) (λh=>?_)
 ·have h:(i:Int)<(n:Int):=of_decide_eq_true h
  refine cU (g.ok _ _ _) bP [0,0,3,7,0,0,48,112,255] [] 9 (by kernel_rfl) ?_
  refine aa.mk (show(0:Int)≤(i:Int)∧(i:Int)<(n:Int) from⟨by omega,h⟩) (aa.mk (show(0:Int)≤(i:Int)∧(i:Int)<(m:Int) from⟨by omega,by omega⟩) ?_)
  refine Br.mk (λh2=>?_) (λh2=>?_)
  ·have h2:(!decide (f i=f2 i))=true:=h2
   rw[Bool.not_eq_true'] at h2
   have e:false=(List.range n).all λi=>decide (f i=f2 i):=by rw[xD (f:=λi=>decide (f i=f2 i)) (by omega) h2]
   exact⟨.inl rfl,bU AU rfl rfl AU⟩
  have h2:(!decide (f i=f2 i))=false:=h2
  rw[Bool.not_eq_false'] at h2
  refine aa.mk (show ae .i64 ((i:Int)+1) from⟨by omega,by omega⟩) ⟨⟨i+1,by omega,λj hj=>?_⟩,(λj=>j),⟨AU,AU,rfl,rfl,rfl,rfl,trivial⟩,by show n-(i+1)<n-i;omega⟩
  rcases Nat.lt_succ_iff_lt_or_eq.1 hj with hj|rfl
  ·exact cq j hj
  ·exact h2
 have h:¬(i:Int)<(n:Int):=of_decide_eq_false h
 obtain rfl:i=n:=by omega
 rw[xE (f:=λi=>decide (f i=f2 i)) cq]
 exact⟨.inl rfl,bU AU rfl rfl AU⟩
theorem Xh {l:List (Nat × Ct)}(g:Good P T l):Good P T ((24,zW)::l):=g.add k24 U6 (aw Tryz.func24 (c:=code Tryz.f24) rfl (by decide))
end Go.X.Lt
namespace Go.X
open Go
theorem abc {ρ:Env}{id nx:Nat}{nm:Nm}(h1:ρ id=some nm)(aU:∀j,nx≤j→ρ j=none):aq ρ nx nm=ke ρ (uW id nx) (nx+1):=by
 funext j
 by_cases e1:j=nx
 ·subst e1
  rw[cj,nZ (by omega)]
  simp[uW,h1]
 ·rw[bF _ _ e1]
  have:Nat.beq j nx=false:=by
   cases e2:Nat.beq j nx with
   |true=>exact(e1 (Nat.eq_of_beq_eq_true e2)).elim
   |false=>rfl
  unfold ke
  simp only[uW,this]
  split
  ·rfl
  ·exact aU j (by omega)
theorem M9 {P:Program}{n:Nat}{l:List SV}{H:List (Nat × HB)}{nx:Nat}{Rv:SV→List (Nat × HB)→Nat→Prop}{Rp:List PanicEntry→List (Nat × HB)→Nat→Prop}(id iA Tc:Nat)(cs cs':List SV){hb:HB}(hf:ab H id=some hb)(hl:hb.live=true)
  (hc:ab H iA=some (.cells Tc cs)) (aV:id≠iA) (pj:p8 cs (cX (uW id nx) cs')) (Yr:fM (nx+1) cs'=true) (h:bG P n l ((iA,.cells Tc cs')::(nx,hb)::(id,.dead)::H) (nx+1) Rv Rp) (mj:∀s n g,hb≠.ro s n g:=by intro s n g h;cases h) (BA:∀s C,hb≠.ax s C:=by intro s C h;cases h):bG P n l H nx Rv Rp:=by
 refine Ae (fun ρ w hm aU=>?_) h
 obtain⟨nm,h1,h2⟩:=hm.ok _ _ hf
 obtain⟨nc,c1,c2⟩:=hm.ok _ _ hc
 have hx:=aU nx (Nat.le_refl _)
 obtain⟨g1,g2,g3⟩:=hm.move hf h1 hx hl mj BA
 have sU:iA≠nx:=by rintro rfl;rw[hx] at c1;cases c1
 have e:=abc h1 aU
 have pq:ab ((nx,hb)::(id,.dead)::H) iA=some (.cells Tc cs):=by
  rw[ba,aR _ _ (Ne.symm sU),ba,aR _ _ aV];exact hc
 have Z4:aq ρ nx nm iA=some nc:=by rw[bF _ _ sU];exact c1
 let X:Cx:=⟨P,λ_=>none,λ_=>none,⟨w,Own (aq ρ nx nm) (ab ((nx,hb)::(id,.dead)::H)),aq ρ nx nm,Fz (ab ((nx,hb)::(id,.dead)::H))⟩,none,0⟩
 have cL:Mod X (aq ρ nx nm) ⟨[],[],(nx,hb)::(id,.dead)::H,nx+1,[]⟩ { tmps:=#[],defers:=[] } w:={
  fm:=λt e hf=>by cases hf
  gs:=λt e hf=>by cases hf
  df:=trivial
  hm:=g1
  kp:={ str:=dF.refl _,size:=Nat.le_refl _,same:=λ_ _ _=>rfl,own:=λb h=>.inl h,ext:=Ext.refl _,fz:=λb h=>.inr (.inr h) }
  nx:=λj hj=>by
   have hj:nx+1≤j:=hj
   rw[bF _ _ (by omega)];exact aU j (by omega)
  sz:=rfl }
 have ap:ao (aq ρ nx nm) w (.cells Tc cs') nc:=by
  cases nc<;>simp only[ao] at c2 ⊢
  obtain⟨vs,d1,d2,d3⟩:=c2
  exact⟨vs,by rw[e,mK _ Yr,←qY _ _ pj];exact d1,d2,d3⟩
 have cI:=cL.swap (hb':=.cells Tc cs') pq rfl Z4 ap (λ_ _ _ h=>by cases h)
 have back:∀j x,ab ((iA,.cells Tc cs')::(nx,hb)::(id,.dead)::H) j=some x→(j=iA∧x=.cells Tc cs')∨ab ((nx,hb)::(id,.dead)::H) j=some x:=λj x hj=>by
  rw[ba] at hj
  by_cases e1:iA=j
  ·subst e1;rw[cP] at hj;cases hj;exact .inl ⟨rfl,rfl⟩
  ·rw[aR _ _ e1] at hj;exact .inr hj
 refine⟨_,Ext.aq nm hx,cI.hm,λj hj=>by rw[bF _ _ (by omega)];exact aU j (by omega),λaM hd=>fT (Ext.aq nm hx) _ _ hd,?_,?_⟩
 ·rintro b ⟨j,x,ak,k1,k2,k3,k4⟩
  rcases back j x k1 with⟨rfl,rfl⟩|k
  ·exact g2 b ⟨j,.cells Tc cs,ak,pq,rfl,k3,k4⟩
  ·exact g2 b ⟨j,x,ak,k,k2,k3,k4⟩
 ·rintro b ⟨i,s2,C',v,m',get',q1,q2,q3,q4⟩
  rcases back i _ q1 with⟨_,k⟩|k
  ·cases k
  ·exact g3 b ⟨i,s2,C',v,m',get',k,q2,q3,q4⟩
end Go.X
namespace Go.X.Lt
open Go Go.Proofs Go.X
open Go.X.Gr (aB az au bQ dj ca da hasB cD dW eA aE bZ iC bc bR code fq)
structure Ds where
 gx:Int
 om:Nat
 o:Nat→Int
 ls:Nat→Int
def dY (f:Nat→Int)(b:Nat)(v:Int)(j:Nat):Int:=if j=b then v else f j
def fO (g:Nat→Nat)(o j:Nat):Nat:=if j=o then g j+1 else g j
def lF {α:Type}(f:Nat→α→α):Nat→α→α
 |0,d=>d
 |i+1,d=>f i (lF f i d)
def fJ (x:Lo):Nat→Nat→Nat→(Nat→Nat)→Ds→Ds
 |0,_,bS,_,d=>if(bS:Int)≤d.gx then d else⟨bS,x.nB,d.ls,d.ls⟩
 |k+1,b,bS,g,d=>if(bS:Int)+((k+1:Nat):Int)≤d.gx then d else
  lF (λo e=>if(decide ((g o:Int)=(x.od o).2)||!ea x b (x.od o).1.toNat)=true then e else fJ x k (b+1) (bS+1) (fO g o) { e with ls:=dY e.ls b o }) x.nO (fJ x k (b+1) bS g { d with ls:=dY d.ls b (-1) })
def qn (gs:List (Nat × Int))(g:Nat→Nat):Prop:=∀o,(match br gs o with|some v=>v|none=>0)=(g o:Int)
theorem qn.inc {gs:List (Nat × Int)}{g:Nat→Nat}(h:qn gs g)(o:Nat):qn (bN gs o ((g o:Int)+1)) (fO g o):=by
 intro j
 rw[Cj]
 unfold fO
 by_cases e:o=j
 ·subst e;rw[if_pos rfl,if_pos rfl];show(g o:Int)+1=((g o+1:Nat):Int);omega
 ·rw[if_neg e,if_neg (Ne.symm e)];exact h j
theorem qn.dec {gs:List (Nat × Int)}{g:Nat→Nat}{o:Nat}(h:qn gs (fO g o)):qn (bN gs o (((fO g o o:Nat):Int)-1)) g:=by
 intro j
 rw[Cj]
 by_cases e:o=j
 ·subst e;rw[if_pos rfl];unfold fO;rw[if_pos rfl];show((g o+1:Nat):Int)-1=(g o:Int);omega
 ·rw[if_neg e]
  have:=h j
  unfold fO at this
  rw[if_neg (Ne.symm e)] at this
  exact this
def Ir:SV:=.fn (.func 39) [] [.sp 9 0,.sp 8 0,.sp 10 0,.sp 11 0,.sp 12 0,.sp 13 0,.sp 14 0]
def Wg (gs:List (Nat × Int)):List (SV × SV):=dT nK iV gs
def x_ (k:Nat)(x:Lo)(es:List ((Nat × Nat) × Bool))(gs:List (Nat × Int))(d:Ds):List (Nat × HB):=[(0,.ro 2 x.nL λi=>az (x.li i)),(1,.ro 10 x.nB λi=>dG (x.bl i)),(2,.ro 1 x.nP λi=>iC (x.bE i)),(3,.ro 2 x.nO λi=>az (x.od i)),(4,.mp (bK es)),(5,.mp []),(6,.vec 3 1 x.nB λi=>iC ((gf x i:Nat):Int)),(7,.cells 113 (Lf x)),
 (8,.cells 3 [.si .i64 d.gx]),(9,.cells 24 [.sl 15]),(10,.cells 24 [.sl k]),(11,.cells 100 [Ir]),(12,.cells 27 (e_ 0 1 2 3 x)),(13,.cells 99 [.sm 17]),(14,.cells 96 [.sp 7 0]),(15,.vec 3 1 x.nB λj=>iC (d.ls j)),(17,.mp (Wg gs)),(k,.vec 3 1 d.om λj=>iC (d.o j))]
def DR (x:Lo)(es:List ((Nat × Nat) × Bool))(gs:List (Nat × Int))(d:Ds):List (Nat × HB):=(16,.dead)::x_ 19 x es gs d
def Al (b bS:Nat):List SV:=[.si .i64 (b:Int),.si .i64 (bS:Int),.sp 9 0,.sp 8 0,.sp 10 0,.sp 11 0,.sp 12 0,.sp 13 0,.sp 14 0]
theorem Dv:Body P 39:=aw Tryz.func39 (c:=code Tryz.f39) rfl (by decide)
def Dh (x:Lo)(k:Nat):Prop:=∀(b bS:Nat) (g:Nat→Nat) (es:List ((Nat × Nat) × Bool)) (gs:List (Nat × Int)) (d:Ds) (Rv:SV→List (Nat × HB)→Nat→Prop) (Rp:List PanicEntry→List (Nat × HB)→Nat→Prop),b+k=x.nB→bS+k≤x.nB→dV x es→qn gs g→(∀o,g o≤bS) →
 (∀a9 jt,dV x a9→qn jt g→Rv (.bn []) (DR x a9 jt (fJ x k b bS g d)) 20)→bG P 39 (Al b bS) (x_ 16 x es gs d) 18 Rv Rp
theorem acC {x:Lo}(hx:dp x):Dh x 0:=by
 intro b bS g es gs d Rv Rp Yn E5 hk hg yB aY
 have hB:=hx.nB
 obtain rfl:b=x.nB:=by omega
 refine M9 16 10 24 [.sl 16] [.sl 18] rfl rfl rfl (by decide) AU rfl ?_
 refine eI (ι:=Unit) ah.ok Tryz.func39 (c:=code Tryz.f39) rfl (Nat.le_of_ble_eq_true rfl) (λ_=>.bn []) (λ_=>DR x es gs (fJ x 0 x.nB bS g d)) 20 (λG hG=>?_) (λ_=>aY es gs hk hg)
 refine aa.mk (show ae .i64 ((bS:Int)+(x.nB:Int)) from⟨by omega,by omega⟩) (aa.mk (show ae .i64 ((bS:Int)+(x.nB:Int)-(x.nB:Int)) from⟨by omega,by omega⟩) ?_)
 refine Br.mk (λh=>?_) (λh=>?_)
 ·have h:(bS:Int)+(x.nB:Int)-(x.nB:Int)≤d.gx:=of_decide_eq_true h
  have e:fJ x 0 x.nB bS g d=d:=by unfold fJ;rw[if_pos (by omega)]
  rw[e]
  exact⟨(),(λj=>match j with|19=>18|j=>j),AU,AU,rfl,rfl,rfl,rfl⟩
 have h:¬(bS:Int)+(x.nB:Int)-(x.nB:Int)≤d.gx:=of_decide_eq_false h
 have e:fJ x 0 x.nB bS g d=⟨bS,x.nB,d.ls,d.ls⟩:=by unfold fJ;rw[if_neg (by omega)]
 rw[e]
 refine Br.mk (λ_=>?_) (λh=>?_)
 case refine_2=>have h:¬(x.nB:Int)=(x.nB:Int):=of_decide_eq_false h;exact absurd rfl h
 refine(show aX _ _ _ _ from ?_)
 refine lT bP ?_
 refine ef 0 (ah.ok _ _ _) rfl rfl rfl rfl rfl rfl rfl (by kernel_rfl) (by kernel_rfl) (by kernel_rfl) ?_
 refine aJ [1,4] (ah.ok _ _ _) (by kernel_rfl) (by decide) ⟨?_,?_,trivial⟩
 refine aJ [2,4] (ah.ok _ _ _) (by kernel_rfl) (by decide) ⟨?_,?_,trivial⟩
 refine aJ [3,4] (ah.ok _ _ _) (by kernel_rfl) (by decide) ⟨?_,?_,trivial⟩
 refine oY x.nB (ah.ok _ _ _) bm rfl rfl rfl rfl rfl rfl rfl rfl rfl rfl (by decide) (by omega) rfl rfl ?_
 refine aJ [4] (ah.ok _ _ _) (by kernel_rfl) (by decide) ⟨?_,trivial⟩
 rotate_left 1
 refine aJ [3] (ah.ok _ _ _) (by kernel_rfl) (by decide) ⟨?_,trivial⟩
 refine oY x.nB (ah.ok _ _ _) bm rfl rfl rfl rfl rfl rfl rfl rfl rfl rfl (by decide) (by omega) rfl rfl ?_
 rotate_left 1
 refine aJ [2] (ah.ok _ _ _) (by kernel_rfl) (by decide) ⟨?_,trivial⟩
 refine aJ [3] (ah.ok _ _ _) (by kernel_rfl) (by decide) ⟨?_,trivial⟩
 refine oY x.nB (ah.ok _ _ _) bm rfl rfl rfl rfl rfl rfl rfl rfl rfl rfl (by decide) (by omega) rfl rfl ?_
 rotate_left 1
 refine aJ [1] (ah.ok _ _ _) (by kernel_rfl) (by decide) ⟨?_,trivial⟩
 refine aJ [2] (ah.ok _ _ _) (by kernel_rfl) (by decide) ⟨?_,trivial⟩
 refine aJ [3] (ah.ok _ _ _) (by kernel_rfl) (by decide) ⟨?_,trivial⟩
 refine oY x.nB (ah.ok _ _ _) bm rfl rfl rfl rfl rfl rfl rfl rfl rfl rfl (by decide) (by omega) rfl rfl ?_
 rotate_left 1
 all_goals
  refine aJ [5] (ah.ok _ _ _) (by kernel_rfl) (by decide) ⟨?_,trivial⟩
  refine j6 (by kernel_rfl) ?_
  refine Ea 19 15 x.nB x.nB _ (λj=>iC (d.ls j)) (λj=>iC (d.ls j)) (ah.ok _ _ _) aj rfl rfl rfl rfl rfl rfl rfl rfl rfl rfl rfl rfl rfl rfl rfl (by decide) (λi hi=>by rw[if_pos hi]) ?_
  exact⟨(),(λj=>j),AU,AU,rfl,rfl,rfl,rfl⟩
theorem acD {x:Lo}(hx:dp x){k:Nat}(ih:Dh x k):Dh x (k+1):=by
 intro b bS g es gs d Rv Rp Yn E5 hk hg yB aY
 have hB:=hx.nB
 have hO:=hx.nO
 refine M9 16 10 24 [.sl 16] [.sl 18] rfl rfl rfl (by decide) AU rfl ?_
 refine eI (ι:={z:List ((Nat × Nat) × Bool) × List (Nat × Int) // dV x z.1∧qn z.2 g}) ah.ok Tryz.func39 (c:=code Tryz.f39) rfl (Nat.le_of_ble_eq_true rfl) (λ_=>.bn []) (λz=>DR x z.1.1 z.1.2 (fJ x (k+1) b bS g d)) 20 (λG hG=>?_) (λz=>aY z.1.1 z.1.2 z.2.1 z.2.2)
 refine aa.mk (show ae .i64 ((bS:Int)+(x.nB:Int)) from⟨by omega,by omega⟩) (aa.mk (show ae .i64 ((bS:Int)+(x.nB:Int)-(b:Int)) from⟨by omega,by omega⟩) ?_)
 refine Br.mk (λh=>?_) (λh=>?_)
 ·have h:(bS:Int)+(x.nB:Int)-(b:Int)≤d.gx:=of_decide_eq_true h
  have e:fJ x (k+1) b bS g d=d:=by unfold fJ;rw[if_pos (by omega)]
  rw[e]
  exact⟨⟨(es,gs),hk,hg⟩,(λj=>match j with|19=>18|j=>j),AU,AU,rfl,rfl,rfl,rfl⟩
 have h:¬(bS:Int)+(x.nB:Int)-(b:Int)≤d.gx:=of_decide_eq_false h
 have e:fJ x (k+1) b bS g d=lF (λo e=>if(decide ((g o:Int)=(x.od o).2)||!ea x b (x.od o).1.toNat)=true then e else fJ x k (b+1) (bS+1) (fO g o) { e with ls:=dY e.ls b o }) x.nO (fJ x k (b+1) bS g { d with ls:=dY d.ls b (-1) }):=by
  rw[fJ,if_neg (by omega)]
 rw[e]
 refine Br.mk (λh=>?_) (λ_=>?_)
 ·have h:(b:Int)=(x.nB:Int):=of_decide_eq_true h
  omega
 refine aa.mk (show(0:Int)≤(b:Int)∧(b:Int)<(x.nB:Int) from⟨by omega,by omega⟩) ?_
 refine oZ 15 3 1 x.nB (b:Int) 0 (λj=>iC (d.ls j)) (λj=>iC (dY d.ls b (-1) j)) [.si .i64 (-1)] (ah.ok _ _ _) aj rfl rfl rfl rfl rfl rfl rfl rfl rfl rfl ⟨by omega,by omega⟩ (by decide) (λj hj=>?_) ?_
 ·show iC (dY d.ls b (-1) j)=if j=b then _ else _
  unfold dY
  split<;>rfl
 refine aa.mk (show ae .i64 ((b:Int)+1) from⟨by omega,by omega⟩) ?_
 refine av (ah.ok _ _ _) aj rfl rfl rfl rfl ⟨Dv,?_⟩
 refine aO (Al (b+1) bS) (x_ 16 x es gs { d with ls:=dY d.ls b (-1) }) 18 (λj=>match j with|16=>18|j=>j) AU rfl AU rfl rfl ?_
 refine ih (b+1) bS g es gs { d with ls:=dY d.ls b (-1) } _ _ (by omega) (by omega) hk hg yB λa9 jt bW jg=>⟨rfl,AU,AU,?_⟩
 obtain⟨D0,Ew⟩:∃D0,fJ x k (b+1) bS g { d with ls:=dY d.ls b (-1) }=D0:=⟨_,rfl⟩
 rw[Ew]
 obtain⟨F,hF⟩:∃F:Nat→Ds→Ds,F=λo e=>if(decide ((g o:Int)=(x.od o).2)||!ea x b (x.od o).1.toNat)=true then e else fJ x k (b+1) (bS+1) (fO g o) { e with ls:=dY e.ls b o }:=⟨_,rfl⟩
 rw[←hF]
 have PD:∀o j,fO g o j≤bS+1:=λo j=>by
  have:=yB j
  unfold fO
  split<;>omega
 refine cm (ah.ok _ _ _) 19 (λz:{z:Nat × List ((Nat × Nat) × Bool) × List (Nat × Int) × Ds // z.1≤x.nO∧dV x z.2.1∧qn z.2.2.1 g∧z.2.2.2=lF F z.1 D0}=>⟨[(0,⟨[],.si .i64 (b:Int)⟩),(1,⟨[],.si .i64 (bS:Int)⟩),(2,⟨[],.sp 9 0⟩),(3,⟨[],.sp 8 0⟩),(4,⟨[],.sp 10 0⟩),(5,⟨[],.sp 11 0⟩),(6,⟨[],.sp 12 0⟩),(7,⟨[],.sp 13 0⟩),(8,⟨[],.sp 14 0⟩),(41,⟨[],.sl 3⟩),(42,⟨[],.si .i64 (x.nO:Int)⟩),(43,⟨[],.si .i64 (z.1.1:Int)⟩)],[],DR x z.1.2.1 z.1.2.2.1 z.1.2.2.2,20,[]⟩) (λz=>x.nO-z.1.1) hG ⟨(0,a9,jt,D0),Nat.zero_le _,bW,jg,rfl⟩ (λj=>match j with|19=>20|j=>j) ⟨AU,AU,rfl,rfl,rfl,rfl,trivial⟩ ?_
 clear hk hg bW jg Ew e
 rintro⟨⟨o,dq,jR,E⟩,hi,c9,kY,hE⟩
 have hi:o≤x.nO:=hi
 have c9:dV x dq:=c9
 have kY:qn jR g:=kY
 have hE:E=lF F o D0:=hE
 have hs:lF F (o+1) D0=F o E:=by rw[hE];rfl
 refine Br.mk (λh=>?_) (λh=>?_)
 ·have h:(o:Int)<(x.nO:Int):=of_decide_eq_true h
  have ho:=hx.od o (by omega)
  have aeS:=yB o
  have yt:ae .i64 ((o:Int)+1):=⟨by omega,by omega⟩
  obtain⟨n,hn⟩:∃n,(x.od o).1.toNat=n:=⟨_,rfl⟩
  have e2:(x.od o).1=(n:Int):=by omega
  have yr:F o E=if(decide ((g o:Int)=(x.od o).2)||!ea x b n)=true then E else fJ x k (b+1) (bS+1) (fO g o) { E with ls:=dY E.ls b o }:=by rw[hF,←hn]
  refine aa.mk (show(0:Int)≤(o:Int)∧(o:Int)<(x.nO:Int) from⟨by omega,h⟩) ?_
  have fV:=kY o
  cases hv:br jR o with
  |none =>
   rw[hv] at fV
   have fV:(0:Int)=(g o:Int):=fV
   by_cases hq:(g o:Int)=(x.od o).2
   ·have e1:decide ((0:Int)=(x.od o).2)=true:=decide_eq_true (by rw[fV];exact hq)
    have qq:lF F (o+1) D0=E:=by rw[hs,yr,if_pos (by rw[decide_eq_true hq];rfl)]
    refine mR nK iV jR o 17 (ah.ok _ _ _) aj rfl rfl rfl rfl rfl rfl rfl rfl rfl nk pG rfl rfl rfl (λ_=>⟨λv' dU=>?_,λdU=>?_⟩)
    ·exact absurd (hv.symm.trans dU) (by simp)
    ·refine Ik 54 false (ah.ok _ _ _) aj rfl rfl rfl rfl rfl rfl rfl AU (by assumption) ?_
     refine Br.mk (λ_=>?_) (λh=>absurd h (by rw[Bool.not_false,Bool.or_true];decide))
     exact aa.mk yt ⟨⟨(o+1,dq,jR,E),by show o+1≤x.nO;omega,c9,kY,qq.symm⟩,(λj=>j),⟨AU,AU,rfl,rfl,rfl,rfl,trivial⟩,by show x.nO-(o+1)<x.nO-o;omega⟩
   ·have e1:decide ((0:Int)=(x.od o).2)=false:=decide_eq_false (by rw[fV];exact hq)
    refine mR nK iV jR o 17 (ah.ok _ _ _) aj rfl rfl rfl rfl rfl rfl rfl rfl rfl nk pG rfl rfl rfl (λ_=>⟨λv' dU=>?_,λdU=>?_⟩)
    ·exact absurd (hv.symm.trans dU) (by simp)
    ·refine AN rfl rfl AU ?_
     refine av (ah.ok _ _ _) aj rfl rfl rfl rfl ⟨xK,?_⟩
     refine aO [.sp 7 0,.agg [.si .i64 (b:Int),.si .i64 (n:Int)]] (ey x dq x.nB) 8 (λj=>j) AU rfl AU rfl rfl ?_
     refine zf hx (by omega) (by omega) c9 λeJ bA=>⟨rfl,AU,AU,?_⟩
     refine Br.mk (λh=>?_) (λh=>?_)
     ·have h:(decide ((0:Int)=(x.od o).2)||!ea x b n)=true:=h
      rw[e1] at h
      have qq:lF F (o+1) D0=E:=by rw[hs,yr,decide_eq_false hq,if_pos h]
      exact aa.mk yt ⟨⟨(o+1,eJ,jR,E),by show o+1≤x.nO;omega,bA,kY,qq.symm⟩,(λj=>j),⟨AU,AU,rfl,rfl,rfl,rfl,trivial⟩,by show x.nO-(o+1)<x.nO-o;omega⟩
     ·have h:(decide ((0:Int)=(x.od o).2)||!ea x b n)=false:=h
      rw[e1] at h
      have qq:lF F (o+1) D0=fJ x k (b+1) (bS+1) (fO g o) { E with ls:=dY E.ls b o }:=by rw[hs,yr,decide_eq_false hq,if_neg (by rw[h];decide)]
      refine aa.mk (show(0:Int)≤(b:Int)∧(b:Int)<(x.nB:Int) from⟨by omega,by omega⟩) ?_
      refine oZ 15 3 1 x.nB (b:Int) 0 (λj=>iC (E.ls j)) (λj=>iC (dY E.ls b o j)) [.si .i64 (o:Int)] (ah.ok _ _ _) aj rfl rfl rfl rfl rfl rfl rfl rfl rfl rfl ⟨by omega,by omega⟩ (Nat.le_refl 1) (λj hj=>?_) ?_
      ·show iC (dY E.ls b o j)=if j=b then _ else _
       unfold dY
       split<;>rfl
      refine mR nK iV jR o 17 (ah.ok _ _ _) aj rfl rfl rfl rfl rfl rfl rfl rfl rfl nk pG rfl rfl rfl (λ_=>⟨λv' dU=>?_,λdU=>?_⟩)
      ·exact absurd (hv.symm.trans dU) (by simp)
      ·refine aa.mk (show ae .i64 ((0:Int)+1) from⟨by omega,by omega⟩) ?_
       refine mS nK iV jR o ((0:Int)+1) _ rfl 17 (ah.ok _ _ _) aj rfl (.inl rfl) rfl rfl rfl rfl nk pG rfl rfl rfl rfl λ_=>?_
       refine aa.mk (show ae .i64 ((b:Int)+1) from⟨by omega,by omega⟩) (aa.mk (show ae .i64 ((bS:Int)+1) from⟨by omega,by omega⟩) ?_)
       refine av (ah.ok _ _ _) aj rfl rfl rfl rfl ⟨Dv,?_⟩
       refine aO (Al (b+1) (bS+1)) (x_ 16 x eJ (bN jR o ((0:Int)+1)) { E with ls:=dY E.ls b o }) 18 (λj=>match j with|16=>19|j=>j) AU rfl AU rfl rfl ?_
       refine ih (b+1) (bS+1) (fO g o) eJ (bN jR o ((0:Int)+1)) { E with ls:=dY E.ls b o } _ _ (by omega) (by omega) bA (by rw[fV];exact kY.inc o) (PD o) λH3 wg aI Bm=>⟨rfl,AU,AU,?_⟩
       have me:=Bm o
       have YO:((fO g o o:Nat):Int)=(g o:Int)+1:=by unfold fO;rw[if_pos rfl];rfl
       refine mR nK iV wg o 17 (ah.ok _ _ _) aj rfl rfl rfl rfl rfl rfl rfl rfl rfl nk pG rfl rfl rfl (λ_=>⟨λv3 pE=>?_,λpE=>?_⟩)
       ·rw[pE] at me
        have me:v3=((fO g o o:Nat):Int):=me
        refine aa.mk (show ae .i64 (v3-1) from⟨by omega,by omega⟩) ?_
        refine mS nK iV wg o (v3-1) _ rfl 17 (ah.ok _ _ _) aj rfl (.inl rfl) rfl rfl rfl rfl nk pG rfl rfl rfl rfl λ_=>?_
        exact aa.mk yt ⟨⟨(o+1,H3,bN wg o (v3-1),fJ x k (b+1) (bS+1) (fO g o) { E with ls:=dY E.ls b o }),by show o+1≤x.nO;omega,aI,by rw[me];exact Bm.dec,qq.symm⟩,(λj=>match j with|19=>22|j=>j),⟨AU,AU,rfl,rfl,rfl,rfl,trivial⟩,by show x.nO-(o+1)<x.nO-o;omega⟩
       ·exfalso
        rw[pE] at me
        have me:(0:Int)=((fO g o o:Nat):Int):=me
        omega
  |some v =>
   rw[hv] at fV
   have fV:v=(g o:Int):=fV
   by_cases hq:(g o:Int)=(x.od o).2
   ·have e1:decide (v=(x.od o).2)=true:=decide_eq_true (by rw[fV];exact hq)
    have qq:lF F (o+1) D0=E:=by rw[hs,yr,if_pos (by rw[decide_eq_true hq];rfl)]
    refine mR nK iV jR o 17 (ah.ok _ _ _) aj rfl rfl rfl rfl rfl rfl rfl rfl rfl nk pG rfl rfl rfl (λ_=>⟨λv' dU=>?_,λdU=>?_⟩)
    ·obtain rfl:v=v':=Option.some.inj (hv.symm.trans dU)
     refine Ik 54 false (ah.ok _ _ _) aj rfl rfl rfl rfl rfl rfl rfl AU (by assumption) ?_
     refine Br.mk (λ_=>?_) (λh=>absurd h (by rw[Bool.not_false,Bool.or_true];decide))
     exact aa.mk yt ⟨⟨(o+1,dq,jR,E),by show o+1≤x.nO;omega,c9,kY,qq.symm⟩,(λj=>j),⟨AU,AU,rfl,rfl,rfl,rfl,trivial⟩,by show x.nO-(o+1)<x.nO-o;omega⟩
    ·exact absurd (hv.symm.trans dU) (by simp)
   ·have e1:decide (v=(x.od o).2)=false:=decide_eq_false (by rw[fV];exact hq)
    refine mR nK iV jR o 17 (ah.ok _ _ _) aj rfl rfl rfl rfl rfl rfl rfl rfl rfl nk pG rfl rfl rfl (λ_=>⟨λv' dU=>?_,λdU=>?_⟩)
    ·obtain rfl:v=v':=Option.some.inj (hv.symm.trans dU)
     refine AN rfl rfl AU ?_
     refine av (ah.ok _ _ _) aj rfl rfl rfl rfl ⟨xK,?_⟩
     refine aO [.sp 7 0,.agg [.si .i64 (b:Int),.si .i64 (n:Int)]] (ey x dq x.nB) 8 (λj=>j) AU rfl AU rfl rfl ?_
     refine zf hx (by omega) (by omega) c9 λeJ bA=>⟨rfl,AU,AU,?_⟩
     refine Br.mk (λh=>?_) (λh=>?_)
     ·have h:(decide (v=(x.od o).2)||!ea x b n)=true:=h
      rw[e1] at h
      have qq:lF F (o+1) D0=E:=by rw[hs,yr,decide_eq_false hq,if_pos h]
      exact aa.mk yt ⟨⟨(o+1,eJ,jR,E),by show o+1≤x.nO;omega,bA,kY,qq.symm⟩,(λj=>j),⟨AU,AU,rfl,rfl,rfl,rfl,trivial⟩,by show x.nO-(o+1)<x.nO-o;omega⟩
     ·have h:(decide (v=(x.od o).2)||!ea x b n)=false:=h
      rw[e1] at h
      have qq:lF F (o+1) D0=fJ x k (b+1) (bS+1) (fO g o) { E with ls:=dY E.ls b o }:=by rw[hs,yr,decide_eq_false hq,if_neg (by rw[h];decide)]
      refine aa.mk (show(0:Int)≤(b:Int)∧(b:Int)<(x.nB:Int) from⟨by omega,by omega⟩) ?_
      refine oZ 15 3 1 x.nB (b:Int) 0 (λj=>iC (E.ls j)) (λj=>iC (dY E.ls b o j)) [.si .i64 (o:Int)] (ah.ok _ _ _) aj rfl rfl rfl rfl rfl rfl rfl rfl rfl rfl ⟨by omega,by omega⟩ (Nat.le_refl 1) (λj hj=>?_) ?_
      ·show iC (dY E.ls b o j)=if j=b then _ else _
       unfold dY
       split<;>rfl
      refine mR nK iV jR o 17 (ah.ok _ _ _) aj rfl rfl rfl rfl rfl rfl rfl rfl rfl nk pG rfl rfl rfl (λ_=>⟨λv' dU=>?_,λdU=>?_⟩)
      ·obtain rfl:v=v':=Option.some.inj (hv.symm.trans dU)
       refine aa.mk (show ae .i64 (v+1) from⟨by omega,by omega⟩) ?_
       refine mS nK iV jR o (v+1) _ rfl 17 (ah.ok _ _ _) aj rfl (.inl rfl) rfl rfl rfl rfl nk pG rfl rfl rfl rfl λ_=>?_
       refine aa.mk (show ae .i64 ((b:Int)+1) from⟨by omega,by omega⟩) (aa.mk (show ae .i64 ((bS:Int)+1) from⟨by omega,by omega⟩) ?_)
       refine av (ah.ok _ _ _) aj rfl rfl rfl rfl ⟨Dv,?_⟩
       refine aO (Al (b+1) (bS+1)) (x_ 16 x eJ (bN jR o (v+1)) { E with ls:=dY E.ls b o }) 18 (λj=>match j with|16=>19|j=>j) AU rfl AU rfl rfl ?_
       refine ih (b+1) (bS+1) (fO g o) eJ (bN jR o (v+1)) { E with ls:=dY E.ls b o } _ _ (by omega) (by omega) bA (by rw[fV];exact kY.inc o) (PD o) λH3 wg aI Bm=>⟨rfl,AU,AU,?_⟩
       have me:=Bm o
       have YO:((fO g o o:Nat):Int)=(g o:Int)+1:=by unfold fO;rw[if_pos rfl];rfl
       refine mR nK iV wg o 17 (ah.ok _ _ _) aj rfl rfl rfl rfl rfl rfl rfl rfl rfl nk pG rfl rfl rfl (λ_=>⟨λv3 pE=>?_,λpE=>?_⟩)
       ·rw[pE] at me
        have me:v3=((fO g o o:Nat):Int):=me
        refine aa.mk (show ae .i64 (v3-1) from⟨by omega,by omega⟩) ?_
        refine mS nK iV wg o (v3-1) _ rfl 17 (ah.ok _ _ _) aj rfl (.inl rfl) rfl rfl rfl rfl nk pG rfl rfl rfl rfl λ_=>?_
        exact aa.mk yt ⟨⟨(o+1,H3,bN wg o (v3-1),fJ x k (b+1) (bS+1) (fO g o) { E with ls:=dY E.ls b o }),by show o+1≤x.nO;omega,aI,by rw[me];exact Bm.dec,qq.symm⟩,(λj=>match j with|19=>22|j=>j),⟨AU,AU,rfl,rfl,rfl,rfl,trivial⟩,by show x.nO-(o+1)<x.nO-o;omega⟩
       ·exfalso
        rw[pE] at me
        have me:(0:Int)=((fO g o o:Nat):Int):=me
        omega
      ·exact absurd (hv.symm.trans dU) (by simp)
    ·exact absurd (hv.symm.trans dU) (by simp)
 ·have h:¬(o:Int)<(x.nO:Int):=of_decide_eq_false h
  obtain rfl:o=x.nO:=by omega
  subst hE
  exact⟨⟨(dq,jR),c9,kY⟩,(λj=>j),AU,AU,rfl,rfl,rfl,rfl⟩
theorem Sm {x:Lo}(hx:dp x):∀k,Dh x k
 |0=>acC hx
 |k+1=>acD hx (Sm hx k)
end Go.X.Lt
namespace Go.X.S
open Go Go.Proofs Go.X
noncomputable abbrev P:Program:=Tryz.prog
def pl:List Nat:=[36,231]
theorem pO:xA P pl:=by
 intro t ht
 simp only[pl,List.mem_cons,List.not_mem_nil,or_false] at ht
 rcases ht with rfl|rfl
 ·exact⟨by kernel_rfl,by kernel_rfl,by decide⟩
 ·exact⟨by kernel_rfl,by kernel_rfl,by decide⟩
noncomputable abbrev T:cf:=xn P pl
theorem bP:P.follows .mixedOrders=true:=by kernel_rfl
theorem ah:Good P T []:=⟨ve pO,λp h=>by cases h⟩
def code (f:Func):Code:=match f.body with
 |some c=>c
 |none=>.skip
def xV:Ct:=bd fun
 |[.si .i64 a,.si .i64 b,.si .i64 c]=>some ⟨none,none,.sb (decide (b≤a)&&decide (a≤c)),[]⟩
 |_=>none
theorem abV {n:Nat}(h:n≤62):(0:Int)<2 ^ n∧(2:Int) ^ n≤4611686018427387904:=by
 constructor
 ·exact Int.pow_pos (by decide)
 ·have:(2:Nat) ^ n≤2 ^ 62:=Nat.pow_le_pow_right (by decide) h
  have h2:((2 ^ n:Nat):Int)≤((2 ^ 62:Nat):Int):=by exact_mod_cast this
  rw[Int.natCast_pow] at h2
  exact h2
def fC:Nat→Nat
 |0=>0
 |n+1=>(n+1) % 2+fC ((n+1) / 2)
decreasing_by omega
theorem SK {n:Nat}(h:0<n):fC n=n % 2+fC (n / 2):=by
 obtain⟨m,rfl⟩:∃m,n=m+1:=⟨n-1,by omega⟩
 rw[fC]
def vA:Ct:=bd fun
 |[.si .i64 x]=>some ⟨some (x<4611686018427387904),none,.si .i64 (fC x.toNat),[]⟩
 |_=>none
def sx:Ct:=bd fun
 |[.agg [.si .i64 a,.si .i64 b]]=>some ⟨none,none,.sb (decide (0≤a)&&decide (a≤b)&&decide (b≤5000)),[]⟩
 |_=>none
theorem Ke {l:List (Nat × Ct)}(g:Good P T l):aP P 117 sx:=by
 refine bq (C:=aC _) g.ok Tryz.func117 (c:=code Tryz.f117) rfl λfr args H out h hp=>?_
 simp only[sx,bd] at h
 split at h
 ·cases h
  refine dt rfl (Nat.le_of_ble_eq_true rfl) λG hG=>?_
  exact⟨.inl rfl,cz rfl rfl rfl⟩
 ·cases h
theorem A1 {l:List (Nat × Ct)}(g:Good P T l):Good P T ((117,sx)::l):=g.add (Ke g) (cZ _) (aw Tryz.func117 (c:=code Tryz.f117) rfl (by decide))
def GZ (a b n c d e f:Int):SV:=.agg [.si .i64 ((if 0<n then a+e else a)+c),.si .i64 ((if 0<n then b+f else b)+d),.si .i64 (n+1)]
def okB (n:Int):Prop:=-1000000≤n∧n≤1000000
def Hs:Ct:=bd fun
 |[.agg [.si .i64 a,.si .i64 b,.si .i64 n],.agg [.si .i64 c,.si .i64 d],.agg [.si .i64 e,.si .i64 f]] =>
  some ⟨some (okB a∧okB b∧okB n∧okB c∧okB d∧okB e∧okB f),none,GZ a b n c d e f,[]⟩
 |_=>none
theorem k63 {l:List (Nat × Ct)}(g:Good P T l):aP P 140 Hs:=by
 refine bq (C:=aC _) g.ok Tryz.func140 (c:=code Tryz.f140) rfl λfr args H out h hp=>?_
 simp only[Hs,bd] at h
 split at h
 ·rename_i a b n c d e f
  cases h
  obtain⟨ha,hb,hn,hc,hd,he,hf⟩:okB a∧okB b∧okB n∧okB c∧okB d∧okB e∧okB f:=hp
  unfold okB at ha hb hn hc hd he hf
  refine dt rfl (Nat.le_of_ble_eq_true rfl) λG hG=>?_
  refine Br.mk (λh=>?_) (λh=>?_)
  ·have h:0<n:=of_decide_eq_true h
   refine cU (g.ok _ _ _) bP [0,1,3,0,8,31,0,64,192,0,512,1984,511,4607,12799,32767,65535,131071] [(14,0),(17,0)] 18 (by kernel_rfl) ?_
   refine aa.mk (show _∧_ by omega) (aa.mk (show _∧_ by omega) (aa.mk (show _∧_ by omega) (aa.mk (show _∧_ by omega) (aa.mk (show _∧_ by omega) ?_))))
   refine⟨.inl rfl,cz ?_ rfl rfl⟩
   simp only[GZ,if_pos h]
   exact⟨⟨rfl,rfl⟩,⟨rfl,rfl⟩,⟨rfl,rfl⟩,trivial⟩
  ·have h:¬0<n:=of_decide_eq_false h
   refine aa.mk (show _∧_ by omega) (aa.mk (show _∧_ by omega) (aa.mk (show _∧_ by omega) ?_))
   refine⟨.inl rfl,cz ?_ rfl rfl⟩
   simp only[GZ,if_neg h]
   exact⟨⟨rfl,rfl⟩,⟨rfl,rfl⟩,⟨rfl,rfl⟩,trivial⟩
 ·cases h
theorem Xy {l:List (Nat × Ct)}(g:Good P T l):Good P T ((140,Hs)::l):=g.add (k63 g) (cZ _) (aw Tryz.func140 (c:=code Tryz.f140) rfl (by decide))
def sA:Ct:=bd fun
 |[.si .u64 x,.si .i64 n]=>some ⟨some (0≤x∧x≤1000000∧0≤n∧n≤40),none,.si .u64 ((x.toNat ||| 2 ^ n.toNat:Nat):Int),[]⟩
 |_=>none
theorem Ki {l:List (Nat × Ct)}(g:Good P T l):aP P 141 sA:=by
 refine bq (C:=aC _) g.ok Tryz.func141 (c:=code Tryz.f141) rfl λfr args H out h hp=>?_
 simp only[sA,bd] at h
 split at h
 ·rename_i x n
  cases h
  obtain⟨h1,h2,h3,h4⟩:0≤x∧x≤1000000∧0≤n∧n≤40:=hp
  have PQ:=abV (n:=n.toNat) (by omega)
  have e:((1:Int)*2 ^ n.toNat).toNat=2 ^ n.toNat:=by
   rw[Int.one_mul]
   exact Int.toNat_natCast (2 ^ n.toNat)
  refine dt rfl (Nat.le_of_ble_eq_true rfl) λG hG=>?_
  refine aa.mk (show _∧_∧_∧_ from⟨h3,?_,?_⟩) (aa.mk (show _∧_∧(_∧_)∧_∧_ from ?_) ⟨.inl rfl,cz ⟨rfl,?_⟩ rfl rfl⟩)
  ·show n.toNat≤64
   omega
  ·show _≤(1:Int)*2 ^ n.toNat∧(1:Int)*2 ^ n.toNat≤_
   omega
  ·show _∧0≤(1:Int)*2 ^ n.toNat∧(_∧_)∧_≤(1:Int)*2 ^ n.toNat∧(1:Int)*2 ^ n.toNat≤_
   omega
  ·show((x.toNat ||| ((1:Int)*2 ^ n.toNat).toNat:Nat):Int)=_
   rw[e]
 ·cases h
theorem Iz {l:List (Nat × Ct)}(g:Good P T l):Good P T ((141,sA)::l):=g.add (Ki g) (cZ _) (aw Tryz.func141 (c:=code Tryz.f141) rfl (by decide))
instance ae4 (k:IntKind) (n:Int):Decidable (ae k n):=by cases k<;>(unfold ae;infer_instance)
def sC:Ct:=bd fun
 |[.si .u64 x]=>some ⟨some (0≤x∧x<256),none,.si .i64 (fC x.toNat),[]⟩
 |_=>none
theorem k78 {l:List (Nat × Ct)}(g:Good P T l):aP P 146 sC:=by
 refine bq (C:=aC _) g.ok Tryz.func146 (c:=code Tryz.f146) rfl λfr args H out h hp=>?_
 simp only[sC,bd] at h
 split at h
 ·rename_i x
  cases h
  obtain⟨h0,h1⟩:0≤x∧x<256:=hp
  obtain⟨n,rfl⟩:∃n:Nat,x=n:=⟨x.toNat,by omega⟩
  have hn:n<256:=by omega
  refine dt rfl (Nat.le_of_ble_eq_true rfl) λG hG=>?_
  clear hG h0 h1
  refine aa.mk ?_ (aa.mk ?_ (aa.mk ?_ (aa.mk ?_ (aa.mk ?_ (aa.mk ?_ (aa.mk ?_ (aa.mk ?_ (aa.mk ?_ (aa.mk ?_ (aa.mk ?_ (aa.mk ?_ (aa.mk ?_ (aa.mk ?_ (aa.mk ?_ (aa.mk ?_ (aa.mk ?_ (aa.mk ?_ (aa.mk ?_ ⟨.inl rfl,cz ⟨rfl,?_⟩ rfl rfl⟩))))))))))))))))))
  all_goals (revert n;decide +kernel)
 ·cases h
theorem XC {l:List (Nat × Ct)}(g:Good P T l):Good P T ((146,sC)::l):=g.add (k78 g) (cZ _) (aw Tryz.func146 (c:=code Tryz.f146) rfl (by decide))
theorem Kj {l:List (Nat × Ct)}(g0:Good P T l):aP P 144 sC:=by
 have g:=XC g0
 refine bq (C:=aC _) g.ok Tryz.func144 (c:=code Tryz.f144) rfl λfr args H out h hp=>?_
 simp only[sC,bd] at h
 split at h
 ·rename_i x
  cases h
  refine dt rfl (Nat.le_of_ble_eq_true rfl) λG hG=>?_
  refine Br.mk (λh=>by cases h) (λ_=>aa.mk hp ⟨.inl rfl,cz ⟨rfl,rfl⟩ rfl rfl⟩)
 ·cases h
theorem XB {l:List (Nat × Ct)}(g:Good P T l):Good P T ((144,sC)::l):=g.add (Kj g) (cZ _) (aw Tryz.func144 (c:=code Tryz.f144) rfl (by decide))
theorem B9 {l:List (Nat × Ct)}(g0:Good P T l):aP P 142 sC:=by
 have g:=XB g0
 refine bq (C:=aC _) g.ok Tryz.func142 (c:=code Tryz.f142) rfl λfr args H out h hp=>?_
 simp only[sC,bd] at h
 split at h
 ·rename_i x
  cases h
  refine dt rfl (Nat.le_of_ble_eq_true rfl) λG hG=>?_
  exact aa.mk hp ⟨.inl rfl,cz ⟨rfl,rfl⟩ rfl rfl⟩
 ·cases h
theorem v8 {l:List (Nat × Ct)}(g:Good P T l):Good P T ((142,sC)::l):=g.add (B9 g) (cZ _) (aw Tryz.func142 (c:=code Tryz.f142) rfl (by decide))
def Cf (x y:Int):Bool:=decide ((fC x.toNat:Int)<fC y.toNat)||(decide ((fC x.toNat:Int)=fC y.toNat)&&decide (x<y))
def nT:Ct:=bd fun
 |[.si .u64 x,.si .u64 y]=>some ⟨some (0≤x∧x<256∧0≤y∧y<256),none,.sb (Cf x y),[]⟩
 |_=>none
theorem B8 {l:List (Nat × Ct)}(g0:Good P T l):aP P 133 nT:=by
 have g:=v8 g0
 refine bq (C:=aC _) g.ok Tryz.func133 (c:=code Tryz.f133) rfl λfr args H out h hp=>?_
 simp only[nT,bd] at h
 split at h
 ·rename_i x y
  cases h
  obtain⟨h0,h1,h2,h3⟩:0≤x∧x<256∧0≤y∧y<256:=hp
  refine dt rfl (Nat.le_of_ble_eq_true rfl) λG hG=>?_
  exact aa.mk ⟨h0,h1⟩ (aa.mk ⟨h2,h3⟩ (aa.mk (λ_=>⟨h0,h1⟩) (aa.mk (λ_=>⟨h2,h3⟩) ⟨.inl rfl,cz rfl rfl rfl⟩)))
 ·cases h
theorem v7 {l:List (Nat × Ct)}(g:Good P T l):Good P T ((133,nT)::l):=g.add (B8 g) (cZ _) (aw Tryz.func133 (c:=code Tryz.f133) rfl (by decide))
def iX (e:Int):List PanicEntry:=[{ v:=.iface 220 (.int .i64 e),recovered:=false }]
def vB:Ct:=bd fun
 |[.sb b,.si .i64 e]=>some ⟨none,some (!b,iX e),.bn [],[]⟩
 |_=>none
theorem Kg {l:List (Nat × Ct)}(g:Good P T l):aP P 119 vB:=by
 refine bq (C:=aC _) g.ok Tryz.func119 (c:=code Tryz.f119) rfl λfr args H out h hp=>?_
 simp only[vB,bd] at h
 split at h
 ·rename_i b e
  cases h
  refine dt rfl (Nat.le_of_ble_eq_true rfl) λG hG=>?_
  refine Br.mk (λh=>?_) (λh=>?_)
  ·refine AM aj rfl rfl rfl ?_
   exact⟨by rw[h];rfl,trivial⟩
  ·exact⟨.inr ⟨_,by rw[h]⟩,cz trivial rfl rfl⟩
 ·cases h
theorem A4 {l:List (Nat × Ct)}(g:Good P T l):Good P T ((119,vB)::l):=g.add (Kg g) (cZ _) (aw Tryz.func119 (c:=code Tryz.f119) rfl (by decide))
theorem vp:r8 P 115 220 47:=by
 refine G9 (T:=T) (ve pO) Tryz.func115 rfl (by decide) rfl rfl rfl rfl rfl rfl rfl rfl (by decide) (by decide) (by decide) (by decide) (by decide) ?_ ?_
 ·intro x G hG
  refine Br.mk (λh=>by cases h) (λ_=>rfl)
 ·intro x k m G hG
  refine Br.mk (λ_=>?_) (λh=>by cases h)
  refine Br.mk (λh=>by cases h) (λ_=>rfl)
def zn (k:List Span→Int→Int→List SV→Option (Option Prop × SV)):Ct:=λ_ args H =>
 match args with
 |.agg [.sl id,.si .i64 lo,.si .i64 hi]::r=>(match cn 2 H id with
  |some (n,get)=>(match k (jG n get) lo hi r with
   |some (p,v)=>some ⟨some (oK n get∧eU 0 [] r=true∧fc p),none,v,[]⟩
   |none=>none)
  |none=>none)
 |_=>none
theorem adp (k:List Span→Int→Int→List SV→Option (Option Prop × SV)):cY (zn k):=by
 intro fr args H H' out hH h
 unfold zn at h ⊢
 split at h
 ·rename_i id lo hi r
  split at h
  ·rename_i n get e
   simp only[fk hH e]
   exact h
  ·cases h
 ·cases h
def vc (f:Nat→Int)(set:Nat):Nat→Int
 |0=>0
 |n+1=>vc f set n+if set.testBit n then f n else 0
def RC (n:Nat)(sp:Nat→Span)(lo hi:Int)(set:Nat):Span :=
 (((fC set:Int)-1)*lo+vc (λi=>(sp i).1) set n,((fC set:Int)-1)*hi+vc (λi=>(sp i).2) set n)
def cC (L:List Span)(lo hi:Int)(set:Nat):Span:=RC L.length (λi=>L.getD i (0,0)) lo hi set
def zP (x:Span):Bool:=decide (x.1<1)||decide (x.2<x.1)||decide (500<x.2)||decide (6<x.2-x.1)
def Bg (n lo hi:Int):Bool:=decide (8<n)||decide (lo<0)||decide (hi<lo)||decide (5<hi)
def xh (L:List Span)(lo hi:Int):Bool:=!Bg L.length lo hi&&L.all λx=>!zP x
def Qt (n:Nat)(m:Int):Bool:=decide (1≤m)&&decide (m≤2 ^ n-1)
def fF (L:List Span)(lo hi:Int)(b:Bool):Int:=if xh L lo hi then(if b then 0 else 2) else 1
theorem H2 {L:List Span}{lo hi:Int}{b:Bool}(h:fF L lo hi b=0):xh L lo hi=true∧b=true:=by
 unfold fF at h
 cases hs:xh L lo hi<;>cases b<;>simp[hs] at h ⊢
theorem acY {L:List Span}{lo hi:Int}(h:xh L lo hi=true):L.length≤8∧0≤lo∧lo≤hi∧hi≤5∧∀x∈L,1≤x.1∧x.1≤x.2∧x.2≤500∧x.2-x.1≤6:=by
 simp only[xh,Bg,Bool.and_eq_true,Bool.not_eq_true',Bool.or_eq_false_iff,decide_eq_false_iff_not,List.all_eq_true] at h
 obtain⟨⟨⟨⟨h1,h2⟩,h3⟩,h4⟩,h5⟩:=h
 refine⟨by omega,by omega,by omega,by omega,λx hx=>?_⟩
 have:=h5 x hx
 simp only[zP,Bool.or_eq_false_iff,decide_eq_false_iff_not] at this
 omega
def Q3 (L:List Span)(lo hi m:Int):Span:=if fF L lo hi (Qt L.length m)=0 then cC L lo hi m.toNat else(0,0)
def mI:Ct:=zn λL lo hi r=>match r with
 |[.si .i64 m]=>some (some (L.length≤40),.bn [.agg [.si .i64 (Q3 L lo hi m).1,.si .i64 (Q3 L lo hi m).2],.si .i64 (fF L lo hi (Qt L.length m))])
 |_=>none
def B6 (a b:Int):Bool:=decide (0≤a)&&decide (a≤b)&&decide (b≤5000)
def zZ:Ct:=λfr args H =>
 match args with
 |[.agg [.sl id,.si .i64 lo,.si .i64 hi],.sb is]=>(match cn 2 H id with
  |some (n,get)=>some ⟨some (oK n get),some (!decide (fF (jG n get) lo hi is=0),iX (fF (jG n get) lo hi is)),.sp fr 0,
    [(fr,.cells 223 [.sl (fr+1),.si .i64 lo,.si .i64 hi]),(fr+1,.ro 2 n λi=>iw (gL get i))]⟩
  |none=>none)
 |_=>none
theorem U9:cY zZ:=by
 intro fr args H H' out hH h
 unfold zZ at h ⊢
 split at h
 ·split at h
  ·rename_i e
   simp only[fk hH e]
   exact h
  ·cases h
 ·cases h
def qb (x:Span):Bool:=decide (1≤x.1)&&decide (x.1≤x.2)&&decide (x.2≤500)&&decide (x.2-x.1≤6)
theorem UP (x:Span):qb x = !zP x:=by
 simp only[qb,zP,Bool.not_or,←Bool.decide_and]
 rw[Bool.eq_iff_iff]
 simp
def ux (n lo hi:Int):Bool:=decide (n≤8)&&decide (0≤lo)&&decide (lo≤hi)&&decide (hi≤5)
theorem YA (n lo hi:Int):ux n lo hi = !Bg n lo hi:=by
 simp only[ux,Bg]
 rw[Bool.eq_iff_iff]
 simp
theorem k41 {l:List (Nat × Ct)}(g0:Good P T l):aP P 116 zZ:=by
 have g:=A4 g0
 refine bq (C:=aC _) g.ok Tryz.func116 (c:=code Tryz.f116) rfl λfr args H out h hp=>?_
 unfold zZ at h
 split at h
 ·rename_i id lo hi is
  split at h
  ·rename_i n get e
   cases h
   have hs:oK n get:=hp
   have hh:Hand H [(id,.ro 2 n λi=>iw (gL get i))]:=kU e (λi=>rfl) (λi hi=>(hs i hi).symm)
   refine⟨[(id,.ro 2 n λi=>iw (gL get i))],[.agg [.sl 0,.si .i64 lo,.si .i64 hi],.sb is],[(0,.ro 2 n λi=>iw (gL get i))],1,[3,2],rfl,rfl,Nat.le_of_ble_eq_true rfl,hh,rfl,rfl,λG hG=>?_⟩
   generalize PZ:gL get=sp
   have hE:fF (jG n get) lo hi is=if ux n lo hi=true then(if(List.range n).all (λi=>qb (sp i))=true then(if is then 0 else 2) else 1) else 1:=by
    have h1:(jG n get).all (λx=>!zP x)=(List.range n).all (λi=>qb (sp i)):=by
     subst PZ
     simp only[jG,List.all_map]
     congr 1
     funext i
     exact(UP _).symm
    have h2:(jG n get).length=n:=by simp[jG]
    simp only[fF,xh,h1,h2,YA]
    cases Bg (n:Int) lo hi<;>simp
   generalize fF (jG n get) lo hi is=E at hE
   refine Br.mk (λh=>?_) (λh=>?_)
   ·have h:(!ux n lo hi)=true:=h
    have h:ux n lo hi=false:=by simpa only[Bool.not_eq_true'] using h
    rw[h] at hE
    simp at hE
    subst hE
    exact⟨rfl,trivial,trivial⟩
   ·have h:(!ux n lo hi)=false:=h
    have h:ux n lo hi=true:=by simpa only[Bool.not_eq_false'] using h
    rw[h] at hE
    simp only[if_true] at hE
    have h8:n≤8:=by
     simp only[ux,Bool.and_eq_true,decide_eq_true_eq] at h
     omega
    refine rI (g.ok _ _ _) (λx:{i:Nat // i≤n∧∀j,j<i→qb (sp j)=true}=>⟨[(1,⟨[],.sb is⟩),(2,⟨[],.sp 1 0⟩),(35,⟨[],.sl 0⟩),(36,⟨[],.si .i64 n⟩),(37,⟨[],.si .i64 x.1⟩)],[],
     [(0,.ro 2 n λi=>iw (sp i)),(1,.cells 178 [.sl 0,.si .i64 lo,.si .i64 hi])],2,[]⟩) (λx=>n-x.1) (λ_ j hj=>hG j (by have:2≤j:=hj;omega)) ⟨0,Nat.zero_le _,λj hj=>by omega⟩ ?_ ?_
    ·refine⟨?_,?_,rfl,rfl,rfl⟩
     ·exact Q2
     ·exact⟨⟨rfl,λi hi=>rfl,rfl⟩,⟨⟨rfl,rfl,⟨rfl,rfl⟩,⟨rfl,rfl⟩,trivial⟩,rfl,rfl⟩,trivial⟩
    ·rintro⟨i,dD,cq⟩
     refine Br.mk (λh1=>?_) (λh1=>?_)
     ·have h1:(i:Int)<(n:Int):=of_decide_eq_true h1
      refine aa.mk (show(0:Int)≤(i:Int)∧(i:Int)<(n:Int) from⟨by omega,h1⟩) ?_
      refine aa.mk ?_ ?_
      ·show(decide (1≤(sp i).1)&&decide ((sp i).1≤(sp i).2)&&decide ((sp i).2≤500))=true→ae .i64 ((sp i).2-(sp i).1)
       intro hb
       simp only[Bool.and_eq_true,decide_eq_true_eq] at hb
       show _≤(sp i).2-(sp i).1∧(sp i).2-(sp i).1≤_
       omega
      refine Br.mk (λh2=>?_) (λh2=>?_)
      ·have h2:(!qb (sp i))=true:=h2
       have h2:qb (sp i)=false:=by simpa only[Bool.not_eq_true'] using h2
       have h3:(List.range n).all (λi=>qb (sp i))=false:=by
        rw[List.all_eq_false]
        exact⟨i,List.mem_range.2 (by omega),by simp[h2]⟩
       rw[h3] at hE
       simp at hE
       subst hE
       exact⟨rfl,trivial,trivial⟩
      ·have h2:(!qb (sp i))=false:=h2
       have h2:qb (sp i)=true:=by simpa only[Bool.not_eq_false'] using h2
       refine aa.mk (show _∧_ from ?_) ⟨⟨i+1,(by omega:i+1≤n),?_⟩,?_,?_⟩
       ·show _≤(i:Int)+1∧(i:Int)+1≤_
        omega
       ·intro j hj
        rcases Nat.lt_or_ge j i with h3|h3
        ·exact cq j h3
        ·rw[show j=i by omega];exact h2
       ·refine⟨?_,?_,rfl,rfl,rfl⟩
        ·exact Q2
        ·exact⟨⟨rfl,λi hi=>rfl,rfl⟩,⟨⟨rfl,rfl,⟨rfl,rfl⟩,⟨rfl,rfl⟩,trivial⟩,rfl,rfl⟩,trivial⟩
       ·show n-(i+1)<n-i
        omega
     ·have h1:¬(i:Int)<(n:Int):=of_decide_eq_false h1
      have wC:i=n:=by omega
      have h3:(List.range n).all (λi=>qb (sp i))=true:=by
       rw[List.all_eq_true]
       intro j hj
       exact cq j (by rw[wC];exact List.mem_range.1 hj)
      rw[h3] at hE
      simp only[if_true] at hE
      refine Br.mk (λh2=>?_) (λh2=>?_)
      ·have h2:(!is)=true:=h2
       have h2:is=false:=by simpa only[Bool.not_eq_true'] using h2
       subst h2
       simp at hE
       subst hE
       exact⟨rfl,trivial,trivial⟩
      ·have h2:(!is)=false:=h2
       have h2:is=true:=by simpa only[Bool.not_eq_false'] using h2
       subst h2
       simp at hE
       subst hE
       refine oY n (g.ok _ _ _) aj rfl rfl rfl rfl rfl rfl rfl rfl rfl rfl (by decide) (by omega) rfl rfl ?_
       refine Ea 2 0 n n _ (λi=>iw (sp i)) (λi=>iw (sp i)) (g.ok _ _ _) aj rfl rfl rfl rfl rfl rfl rfl rfl rfl rfl rfl rfl rfl rfl rfl (by decide) (λi hi=>by rw[if_pos hi]) ?_
       exact⟨.inr ⟨_,rfl⟩,⟨⟨rfl,rfl⟩,rfl,⟨rfl,⟨⟨rfl,rfl,⟨rfl,rfl⟩,⟨rfl,rfl⟩,trivial⟩,rfl⟩,rfl,⟨rfl,rfl,λi hi=>⟨rfl,rfl⟩⟩,trivial⟩,⟨trivial,trivial⟩,rfl,rfl⟩⟩
  ·cases h
 ·cases h
theorem Xo {l:List (Nat × Ct)}(g:Good P T l):Good P T ((116,zZ)::l):=g.add (k41 g) U9 (aw Tryz.func116 (c:=code Tryz.f116) rfl (by decide))
def oA (bI id n:Nat)(lo hi:Int)(sp:Nat→Span):List (Nat × HB):=[(bI,.cells 223 [.sl 1,.si .i64 lo,.si .i64 hi]),(id,.ro 2 n λi=>iw (sp i))]
theorem SC {H:LH}{bI id n:Nat}{lo hi:Int}{get:Nat→List SV}(h1:H bI=some (.cells 223 [.sl id,.si .i64 lo,.si .i64 hi]))(h2:cn 2 H id=some (n,get))(hs:oK n get) :
  Hand H (oA bI id n lo hi (gL get)) where
 ok j c hb h:=by
  match j,h with
  |0,h=>simp[oA] at h;obtain⟨rfl,rfl⟩:=h;exact h1
  |1,h =>
   simp[oA] at h;obtain⟨rfl,rfl⟩:=h
   exact gK h2 λi hi=>by rw[hs i hi];rfl
  |j+2,h=>simp[oA] at h
 ids j c hb h:=by
  match j,h with
  |0,h=>simp[oA] at h;obtain⟨rfl,rfl⟩:=h;exact⟨by show 1<2;decide,trivial,trivial,trivial⟩
  |1,h=>simp[oA] at h;obtain⟨rfl,rfl⟩:=h;exact λi hi=>⟨trivial,trivial,trivial⟩
  |j+2,h=>simp[oA] at h
 inj i j c hb hb' h1 h2 o1 o2:=by
  match i,j,h1,h2 with
  |0,0,_,_=>rfl
  |1,1,_,_=>rfl
  |0,1,h1,h2=>simp[oA] at h2;obtain⟨_,rfl⟩:=h2;cases o2
  |1,0,h1,h2=>simp[oA] at h1;obtain⟨_,rfl⟩:=h1;cases o1
  |i+2,_,h,_=>simp[oA] at h
  |_,j+2,_,h=>simp[oA] at h
def xg (n:Nat)(lo hi:Int)(sp:Nat→Span):List (Nat × HB):=[(0,.cells 223 [.sl 1,.si .i64 lo,.si .i64 hi]),(1,.ro 2 n λi=>iw (sp i))]
def dz (set:Nat):Nat→Nat
 |0=>0
 |n+1=>dz set n+if set.testBit n then 1 else 0
def wS (f:Nat→Int)(ay:Int)(set:Nat):Nat→Int
 |0=>0
 |n+1=>if set.testBit n then(if 0<dz set n then wS f ay set n+ay else wS f ay set n)+f n else wS f ay set n
theorem Nr {set:Nat}:∀{n},dz set n=0→∀(f:Nat→Int) ay,wS f ay set n=0
 |0,_,_,_=>rfl
 |n+1,h,f,ay=>by
  simp only[dz] at h
  have h1:dz set n=0:=by omega
  have h2:set.testBit n=false:=by
   cases hb:set.testBit n with
   |false=>rfl
   |true=>rw[hb] at h;simp at h
  simp only[wS,h2]
  exact Nr h1 f ay
theorem GI (f:Nat→Int)(ay:Int)(set:Nat):∀n,0<dz set n→wS f ay set n=((dz set n:Int)-1)*ay+vc f set n
 |0,h=>by simp[dz] at h
 |n+1,h=>by
  cases hb:set.testBit n with
  |false =>
   have e:dz set (n+1)=dz set n:=by simp[dz,hb]
   simp only[wS,vc,hb,e]
   rw[e] at h
   have:=GI f ay set n h
   simp
   exact this
  |true =>
   have e:dz set (n+1)=dz set n+1:=by simp[dz,hb]
   simp only[wS,vc,hb,if_true,e]
   rcases Nat.eq_zero_or_pos (dz set n) with h0|h0
   ·have s0:∀m,dz set m=0→vc f set m=0:=by
     intro m
     induction m with
     |zero=>intro _;rfl
     |succ m ih =>
      intro hm
      simp only[dz] at hm
      have h2:set.testBit m=false:=by
       cases hb:set.testBit m with
       |false=>rfl
       |true=>rw[hb] at hm;simp at hm
      simp[vc,h2,ih (by omega)]
    rw[h0,Nr h0,s0 n h0]
    simp
   ·rw[if_pos h0,GI f ay set n h0]
    have:((dz set n+1:Nat):Int)-1=((dz set n:Int)-1)+1:=by omega
    rw[this,Int.add_mul ((dz set n:Int)-1) 1 ay]
    omega
theorem zj {x n:Nat}:decide ((((((x:Int).fdiv (2 ^ n)).toNat &&& (1:Int).toNat:Nat)):Int)=1)=x.testBit n:=by
 have h1:((x:Int).fdiv (2 ^ n))=((x / 2 ^ n:Nat):Int):=by
  rw[Int.fdiv_eq_ediv_of_nonneg _ (Int.pow_nonneg (by omega))]
  push_cast
  rfl
 rw[h1,Nat.testBit_eq_decide_div_mod_eq]
 have:((1:Int).toNat)=1:=rfl
 rw[this,Int.toNat_natCast,Nat.and_one_is_mod]
 simp only[decide_eq_decide]
 omega
def w6 (L:List Span)(lo hi:Int)(set:Nat):Int × Int × Int :=
 (wS (λi=>(L.getD i (0,0)).1) lo set L.length,wS (λi=>(L.getD i (0,0)).2) hi set L.length,dz set L.length)
theorem LQ {f g:Nat→Int}{ay:Int}{set:Nat}:∀n,(∀i,i<n→f i=g i)→wS f ay set n=wS g ay set n
 |0,_=>rfl
 |n+1,h=>by
  have:=LQ (f:=f) (g:=g) (ay:=ay) (set:=set) n (λi hi=>h i (by omega))
  simp only[wS,this,h n (by omega)]
theorem getD_map {n i:Nat}{sp:Nat→Span}(h:i<n):((List.range n).map sp).getD i (0,0)=sp i:=by
 simp[List.getD_eq_getElem?_getD,List.getElem?_map,List.getElem?_range h]
theorem abq {n:Nat}{sp:Nat→Span}{lo hi:Int}{set:Nat}:w6 ((List.range n).map sp) lo hi set=(wS (λi=>(sp i).1) lo set n,wS (λi=>(sp i).2) hi set n,(dz set n:Int)):=by
 simp only[w6,List.length_map,List.length_range]
 rw[LQ (f:=λi=>(((List.range n).map sp).getD i (0,0)).1) (g:=λi=>(sp i).1) n (λi hi=>by rw[getD_map hi]),LQ (f:=λi=>(((List.range n).map sp).getD i (0,0)).2) (g:=λi=>(sp i).2) n (λi hi=>by rw[getD_map hi])]
def oy (x:Int):Prop:=0≤x∧x≤1000
def y8 (L:List Span)(lo hi:Int):Prop:=L.length≤8∧oy lo∧oy hi∧∀x∈L,oy x.1∧oy x.2
theorem adq {C:Nat→Option Ct}{fn:Func}{c:Code}{k:List Span→Int→Int→List SV→Option (Option Prop × SV)}{fr:Nat}{args:List SV}{H:LH}{out:cJ}(ho:zn k fr args H=some out)(hp:fc out.pre)
  (h:∀(n:Nat) (sp:Nat→Span) (lo hi:Int) (r:List SV) (p:Option Prop) (v:SV) (Rv:SV→St→Prop),k ((List.range n).map sp) lo hi r=some (p,v)→fc p →
   (∀v' st,eY v' v→di 0 [] v'=true→Rv v' st)→r.length+1≤fn.ntmps ∧
   ∀G:cp,(∀j,1≤j→G.ρ j=none)→exec ⟨P,T,C,G,none,fn.ntmps⟩ c (start (.agg [.sl 0,.si .i64 lo,.si .i64 hi]::r) [(0,.ro 2 n λi=>iw (sp i))] 1) (zA ⟨P,T,C,G,none,fn.ntmps⟩ 115 220 47 fn.results.toList Rv)) :
  Mj P T C 115 220 47 fn c H args fr out:=by
 unfold zn at ho
 split at ho
 ·rename_i id lo hi r
  split at ho
  ·rename_i n get e
   split at ho
   ·rename_i p v hk
    cases ho
    obtain⟨hs,hr,hp⟩:oK n get∧eU 0 [] r=true∧fc p:=hp
    have hh:Hand H [(id,.ro 2 n λi=>iw (gL get i))]:=kU e (λi=>rfl) (λi hi=>(hs i hi).symm)
    have h0:=h n (gL get) lo hi r p v (λv' st=>((none:Option (Bool × List PanicEntry))=none∨∃ch,(none:Option (Bool × List PanicEntry))=some (false,ch))∧pZ [(id,.ro 2 n λi=>iw (gL get i))] [] fr ⟨some (oK n get∧eU 0 [] r=true∧fc p),none,v,[]⟩ v' st)
     hk hp
     (λv' st h1 h2=>⟨.inl rfl,bU h1 h2 rfl ⟨trivial,trivial⟩⟩)
    refine⟨[(id,.ro 2 n λi=>iw (gL get i))],.agg [.sl 0,.si .i64 lo,.si .i64 hi]::r,[(0,.ro 2 n λi=>iw (gL get i))],1,[],?_,?_,h0.1,hh,rfl,rfl,h0.2⟩
    ·show _=bX _ _::cX _ r
     rw[rV r hr]
     rfl
    ·show(match di 1 [] (.agg [.sl 0,.si .i64 lo,.si .i64 hi]) with
      |true=>eU 1 [] r
      |false=>false)=true
     exact wU r hr
   ·cases ho
  ·cases ho
 ·cases ho
theorem Ln (n:Nat)(sp:Nat→Span):oK n (λi=>iw (sp i)):=λi hi=>rfl
theorem Nq (set:Nat):∀n,dz set (n+1)=set % 2+dz (set / 2) n
 |0=>by
  simp only[dz,Nat.testBit_zero]
  have:set % 2=0∨set % 2=1:=by omega
  rcases this with h|h<;>simp[h]
 |n+1=>by
  have ih:=Nq set n
  rw[dz,ih]
  simp only[dz,Nat.testBit_succ]
  omega
theorem xZ:∀(n set:Nat),set<2 ^ n→dz set n=fC set
 |0,set,h=>by
  have:set=0:=by simpa using h
  subst this;simp[dz,fC]
 |n+1,set,h=>by
  rw[Nq]
  rcases Nat.eq_zero_or_pos set with rfl|hp
  ·have:dz 0 n=fC 0:=xZ n 0 (Nat.pow_pos (by decide))
   simp[this,fC]
  ·rw[SK hp,xZ n (set / 2) (by rw[Nat.pow_succ] at h;omega)]
theorem SI {set:Nat}(h:0<set):0<fC set:=by
 induction set using Nat.strongRecOn with
 |_ set ih =>
  rw[SK h]
  rcases Nat.eq_zero_or_pos (set / 2) with h2|h2
  ·have:set % 2=1:=by omega
   omega
  ·have:=ih (set / 2) (by omega) h2
   omega
theorem abr {L:List Span}{lo hi:Int}{set:Nat}(h:0<set)(h2:set<2 ^ L.length):w6 L lo hi set=((cC L lo hi set).1,(cC L lo hi set).2,(fC set:Int)):=by
 have hc:=xZ L.length set h2
 have hp:=SI h
 simp only[w6,cC,RC]
 rw[GI _ lo set _ (by omega),GI _ hi set _ (by omega),hc]
theorem RJ {L:List Span}{lo hi:Int}(h:xh L lo hi=true):y8 L lo hi:=by
 obtain⟨a1,a2,a3,a4,a5⟩:=acY h
 refine⟨a1,⟨by omega,by omega⟩,⟨by omega,by omega⟩,λx hx=>?_⟩
 have:=a5 x hx
 exact⟨⟨by omega,by omega⟩,by omega,by omega⟩
def aa8 (w:Span)(x:Int × Int × Int):Bool:=decide (w.1≤x.2.1)&&decide (x.1≤w.2)
def Fe (w:Span)(x:Int × Int × Int):Bool:=decide (w.1≤x.1)&&decide (x.2.1≤w.2)
def xW:Ct:=bd fun
 |[.agg [.si .i64 c,.si .i64 d],.agg [.si .i64 a,.si .i64 b,.si .i64 n]]=>some ⟨none,none,.sb (Fe (c,d) (a,b,n)),[]⟩
 |_=>none
theorem Kl {l:List (Nat × Ct)}(g:Good P T l):aP P 166 xW:=by
 refine bq (C:=aC _) g.ok Tryz.func166 (c:=code Tryz.f166) rfl λfr args H out h hp=>?_
 simp only[xW,bd] at h
 split at h
 ·cases h
  refine dt rfl (Nat.le_of_ble_eq_true rfl) λG hG=>?_
  exact⟨.inl rfl,cz rfl rfl rfl⟩
 ·cases h
theorem m74 : qW P 206 "blockworks/stack.is" 166 := FH (by kernel_rfl)
theorem Hb:Body P 166:=aw Tryz.func166 (c:=code Tryz.f166) rfl (by decide)
structure Fd where
 many:Nat
 least:Nat
 each:Nat
 some:Nat
deriving DecidableEq
def dv (x:Fd):SV:=.agg [.si .i64 x.many,.si .u64 x.least,.si .u64 x.each,.si .u64 x.some]
def gQ (x:Fd):List SV:=[.si .i64 x.many,.si .u64 x.least,.si .u64 x.each,.si .u64 x.some]
def foundAt (get:Nat→List SV)(i:Nat):Fd:=match get i with
 |[.si .i64 a,.si .u64 b,.si .u64 c,.si .u64 d]=>⟨a.toNat,b.toNat,c.toNat,d.toNat⟩
 |_=>⟨0,0,0,0⟩
def GQ (n:Nat)(get:Nat→List SV):Prop:=∀i,i<n→get i=gQ (foundAt get i)
theorem W2 (n:Nat)(f:Nat→Fd):GQ n (λi=>gQ (f i)):=λi hi=>by simp[foundAt,gQ]
theorem OB (f:Nat→Fd)(i:Nat):foundAt (λi=>gQ (f i)) i=f i:=by simp[foundAt,gQ]
def ni (x y:Nat):Bool:=decide (fC x<fC y)||(decide (fC x=fC y)&&decide (x<y))
theorem QR (x y:Nat):Cf x y=ni x y:=by
 simp only[Cf,ni,Int.toNat_natCast]
 rw[Bool.eq_iff_iff]
 simp only[Bool.or_eq_true,Bool.and_eq_true,decide_eq_true_eq]
 constructor<;>intro h<;>omega
def join (f x:Fd):Fd:=⟨f.many+x.many,if ni x.least f.least=true then x.least else f.least,f.each &&& x.each,f.some ||| x.some⟩
def jn (f:Nat→Fd):Nat→Fd
 |0=>⟨0,0,0,0⟩
 |n+1=>if n=0 then f 0 else join (jn f n) (f n)
def okF (x:Fd):Prop:=x.many≤1000000∧x.least<256∧x.each<256∧x.some<256
theorem QB {f:Nat→Fd}:∀n,(∀i,i<n→okF (f i))→(jn f n).many≤n*1000000∧(jn f n).least<256∧(jn f n).each<256∧(jn f n).some<256
 |0,_=>by simp[jn]
 |n+1,h=>by
  have ih:=QB n (λi hi=>h i (by omega))
  have h0:=h n (by omega)
  unfold okF at h0
  simp only[jn]
  split
  ·rename_i e;subst e
   omega
  ·simp only[join]
   refine⟨by omega,by split<;>omega,?_,?_⟩
   ·exact Nat.lt_of_le_of_lt Nat.and_le_left ih.2.2.1
   ·exact Nat.or_lt_two_pow (n:=8) ih.2.2.2 h0.2.2.2
def sy:Ct:=λfr args H =>
 match args with
 |[.sl id]=>(match cn 4 H id with
  |some (n,get)=>some ⟨some (GQ n get∧n≤1000∧∀i,i<n→okF (foundAt get i)),none,dv (jn (foundAt get) n),[]⟩
  |none=>none)
 |[.sv (.slice none 0 0)]=>some ⟨none,none,dv ⟨0,0,0,0⟩,[]⟩
 |_=>none
theorem Vf:cY sy:=by
 intro fr args H H' out hH h
 unfold sy at h ⊢
 split at h
 ·split at h
  ·rename_i e
   simp only[fk hH e]
   exact h
  ·cases h
 ·exact h
 ·cases h
theorem Kh {l:List (Nat × Ct)}(g0:Good P T l):aP P 126 sy:=by
 have g:=v7 g0
 refine bq (C:=aC _) g.ok Tryz.func126 (c:=code Tryz.f126) rfl λfr args H out h hp=>?_
 unfold sy at h
 split at h
 ·rename_i id
  split at h
  ·rename_i n get e
   cases h
   obtain⟨hs,hn,hb⟩:GQ n get∧n≤1000∧∀i,i<n→okF (foundAt get i):=hp
   have hh:Hand H [(id,.ro 4 n λi=>gQ (foundAt get i))]:=kU e (λi=>rfl) (λi hi=>(hs i hi).symm)
   refine⟨[(id,.ro 4 n λi=>gQ (foundAt get i))],[.sl 0],[(0,.ro 4 n λi=>gQ (foundAt get i))],1,[],rfl,rfl,Nat.le_of_ble_eq_true rfl,hh,rfl,rfl,λG hG=>?_⟩
   generalize foundAt get=f at hb ⊢
   refine rI (g.ok _ _ _) (λx:{i:Nat // i≤n}=>⟨[(2,⟨[],.sp 1 0⟩),(5,⟨[],.sl 0⟩),(6,⟨[],.si .i64 n⟩),(7,⟨[],.si .i64 x.1⟩)],[],
    [(0,.ro 4 n λi=>gQ (f i)),(1,.cells 199 (gQ (jn f x.1)))],2,[]⟩) (λx=>n-x.1) (λ_ j hj=>hG j (by have:2≤j:=hj;omega)) ⟨0,Nat.zero_le _⟩ ?_ ?_
   ·refine⟨?_,?_,rfl,rfl,rfl⟩
    ·exact Q2
    ·exact⟨⟨rfl,λi hi=>rfl,rfl⟩,⟨⟨rfl,⟨rfl,rfl⟩,⟨rfl,rfl⟩,⟨rfl,rfl⟩,⟨rfl,rfl⟩,trivial⟩,rfl,rfl⟩,trivial⟩
   ·rintro⟨i,dD⟩
    refine Br.mk (λh=>?_) (λh=>?_)
    ·have h:(i:Int)<(n:Int):=of_decide_eq_true h
     refine aa.mk (show(0:Int)≤(i:Int)∧(i:Int)<(n:Int) from⟨by omega,h⟩) ?_
     refine Br.mk (λh1=>?_) (λh1=>?_)
     ·have h1:(i:Int)=0:=of_decide_eq_true h1
      have h1:i=0:=by omega
      subst h1
      refine aa.mk (show(-9223372036854775808:Int)≤0+1∧(0:Int)+1≤9223372036854775807 by decide) ⟨⟨1,(by omega:1≤n)⟩,?_,?_⟩
      ·refine⟨?_,?_,rfl,rfl,rfl⟩
       ·exact Q2
       ·exact⟨⟨rfl,λi hi=>rfl,rfl⟩,⟨⟨rfl,⟨rfl,rfl⟩,⟨rfl,rfl⟩,⟨rfl,rfl⟩,⟨rfl,rfl⟩,trivial⟩,rfl,rfl⟩,trivial⟩
      ·show n-1<n-0
       omega
     ·have h1:¬(i:Int)=0:=of_decide_eq_false h1
      have hj:=QB i (λj hj=>hb j (by omega))
      have hx:=hb i (by omega)
      unfold okF at hx
      obtain⟨J,hJ⟩:∃J,jn f i=J:=⟨_,rfl⟩
      rw[hJ] at hj
      have uE:jn f (i+1)=join J (f i):=by
       simp only[jn]
       rw[if_neg (by omega),hJ]
      refine aa.mk (show(-9223372036854775808:Int)≤((jn f i).many:Int)+((f i).many:Int)∧((jn f i).many:Int)+((f i).many:Int)≤9223372036854775807 by rw[hJ];omega) ?_
      refine cU (g.ok _ _ _) bP [0,1,0,4,15,0,32,0,128,480,127,1151,4095,8191] [(11,1),(13,1)] 14 (by kernel_rfl) ?_
      refine aa.mk (show 0≤((jn f i).each:Int)∧0≤((f i).each:Int)∧(0≤((jn f i).each:Int)∧((jn f i).each:Int)≤18446744073709551615)∧(0≤((f i).each:Int)∧((f i).each:Int)≤18446744073709551615) by rw[hJ];omega) ?_
      refine aa.mk (show 0≤((jn f i).some:Int)∧0≤((f i).some:Int)∧(0≤((jn f i).some:Int)∧((jn f i).some:Int)≤18446744073709551615)∧(0≤((f i).some:Int)∧((f i).some:Int)≤18446744073709551615) by rw[hJ];omega) ?_
      refine aa.mk (show 0≤((f i).least:Int)∧((f i).least:Int)<256∧0≤((jn f i).least:Int)∧((jn f i).least:Int)<256 by rw[hJ];omega) ?_
      refine Br.mk (λh2=>?_) (λh2=>?_)
      ·have h2:Cf ((f i).least:Int) ((jn f i).least:Int)=true:=h2
       rw[QR,hJ] at h2
       refine aa.mk (show(-9223372036854775808:Int)≤(i:Int)+1∧(i:Int)+1≤9223372036854775807 by omega) ⟨⟨i+1,(by omega:i+1≤n)⟩,?_,?_⟩
       ·refine⟨?_,?_,rfl,rfl,rfl⟩
        ·exact Q2
        ·refine⟨⟨rfl,λi hi=>rfl,rfl⟩,⟨⟨rfl,⟨rfl,?_⟩,⟨rfl,?_⟩,⟨rfl,?_⟩,⟨rfl,?_⟩,trivial⟩,rfl,rfl⟩,trivial⟩
         ·show((jn f i).many:Int)+((f i).many:Int)=((jn f (i+1)).many:Int)
          rw[uE,hJ];simp[join]
         ·show((f i).least:Int)=((jn f (i+1)).least:Int)
          rw[uE];simp[join,h2]
         ·show((((jn f i).each:Int).toNat &&& ((f i).each:Int).toNat:Nat):Int)=((jn f (i+1)).each:Int)
          rw[uE,hJ];simp[join]
         ·show((((jn f i).some:Int).toNat ||| ((f i).some:Int).toNat:Nat):Int)=((jn f (i+1)).some:Int)
          rw[uE,hJ];simp[join]
       ·show n-(i+1)<n-i
        omega
      ·have h2:Cf ((f i).least:Int) ((jn f i).least:Int)=false:=h2
       rw[QR,hJ] at h2
       refine aa.mk (show(-9223372036854775808:Int)≤(i:Int)+1∧(i:Int)+1≤9223372036854775807 by omega) ⟨⟨i+1,(by omega:i+1≤n)⟩,?_,?_⟩
       ·refine⟨?_,?_,rfl,rfl,rfl⟩
        ·exact Q2
        ·refine⟨⟨rfl,λi hi=>rfl,rfl⟩,⟨⟨rfl,⟨rfl,?_⟩,⟨rfl,?_⟩,⟨rfl,?_⟩,⟨rfl,?_⟩,trivial⟩,rfl,rfl⟩,trivial⟩
         ·show((jn f i).many:Int)+((f i).many:Int)=((jn f (i+1)).many:Int)
          rw[uE,hJ];simp[join]
         ·show((jn f i).least:Int)=((jn f (i+1)).least:Int)
          rw[uE,hJ];simp[join,h2]
         ·show((((jn f i).each:Int).toNat &&& ((f i).each:Int).toNat:Nat):Int)=((jn f (i+1)).each:Int)
          rw[uE,hJ];simp[join]
         ·show((((jn f i).some:Int).toNat ||| ((f i).some:Int).toNat:Nat):Int)=((jn f (i+1)).some:Int)
          rw[uE,hJ];simp[join]
       ·show n-(i+1)<n-i
        omega
    ·have h:¬(i:Int)<(n:Int):=of_decide_eq_false h
     have:i=n:=by omega
     subst this
     exact⟨.inl rfl,bU ⟨⟨rfl,rfl⟩,⟨rfl,rfl⟩,⟨rfl,rfl⟩,⟨rfl,rfl⟩,trivial⟩ rfl rfl ⟨trivial,trivial⟩⟩
  ·cases h
 ·cases h
  refine dt rfl (Nat.le_of_ble_eq_true rfl) λG hG=>?_
  refine rI (g.ok _ _ _) (λx:Unit=>⟨[(2,⟨[],.sp 0 0⟩),(5,⟨[],.sv (.slice none 0 0)⟩),(6,⟨[],.si .i64 0⟩),(7,⟨[],.si .i64 0⟩)],[],
    [(0,.cells 199 (gQ ⟨0,0,0,0⟩))],1,[]⟩) (λx=>0) (λ_ j hj=>hG j (Nat.zero_le _)) () ?_ ?_
  ·refine⟨?_,?_,rfl,rfl,rfl⟩
   ·exact Q2
   ·exact⟨⟨⟨rfl,⟨rfl,rfl⟩,⟨rfl,rfl⟩,⟨rfl,rfl⟩,⟨rfl,rfl⟩,trivial⟩,rfl,rfl⟩,trivial⟩
  ·intro _
   refine Br.mk (λh=>by cases h) (λh=>?_)
   exact⟨.inl rfl,cz ⟨⟨rfl,rfl⟩,⟨rfl,rfl⟩,⟨rfl,rfl⟩,⟨rfl,rfl⟩,trivial⟩ rfl rfl⟩
 ·cases h
theorem yn {l:List (Nat × Ct)}(g:Good P T l):Good P T ((126,sy)::l):=g.add (Kh g) Vf (aw Tryz.func126 (c:=code Tryz.f126) rfl (by decide))
theorem Cg {x y:Nat}:ni x y=true↔fC x<fC y∨(fC x=fC y∧x<y):=by
 simp only[ni,Bool.or_eq_true,Bool.and_eq_true,decide_eq_true_eq]
theorem QS {x y:Nat}:¬ni x y=true↔fC y<fC x∨(fC x=fC y∧y≤x):=by
 rw[Cg];omega
def mr (x y:Nat):Nat:=if ni y x=true then y else x
theorem aba (x y:Nat):mr x y=mr y x:=by
 unfold mr
 by_cases h1:ni y x=true<;>by_cases h2:ni x y=true
 ·rw[Cg] at h1 h2;omega
 ·rw[if_pos h1,if_neg h2]
 ·rw[if_neg h1,if_pos h2]
 ·rw[if_neg h1,if_neg h2]
  rw[QS] at h1 h2;omega
theorem aa_ (x y z:Nat):mr (mr x y) z=mr x (mr y z):=by
 unfold mr
 by_cases h1:ni y x=true<;>by_cases h2:ni z y=true<;>by_cases h3:ni z x=true <;>
  simp only[h1,h2,h3,if_true,if_false,Bool.false_eq_true]<;>simp only[QS,Cg] at h1 h2 h3<;>omega
theorem join_eq (f x:Fd):join f x=⟨f.many+x.many,mr f.least x.least,f.each &&& x.each,f.some ||| x.some⟩:=rfl
theorem join_comm (f x:Fd):join f x=join x f:=by
 simp only[join_eq,aba f.least,Nat.add_comm f.many,Nat.and_comm f.each,Nat.or_comm f.some]
theorem join_assoc (f x y:Fd):join (join f x) y=join f (join x y):=by
 simp only[join_eq,aa_,Nat.add_assoc,Nat.and_assoc,Nat.or_assoc]
def jo (o:Option Fd)(x:Fd):Option Fd:=match o with
 |none=>some x
 |some y=>some (join y x)
def J (l:List Fd):Option Fd:=l.foldl jo none
def jj (a b:Option Fd):Option Fd:=match b with
 |none=>a
 |some y=>jo a y
theorem WZ (l:List Fd)(o:Option Fd):l.foldl jo o=jj o (J l):=by
 have key:∀(l:List Fd) (o p:Option Fd),l.foldl jo (jj o p)=jj o (l.foldl jo p):=by
  intro l
  induction l with
  |nil=>intro o p;rfl
  |cons x r ih =>
   intro o p
   simp only[List.foldl_cons]
   have:jo (jj o p) x=jj o (jo p x):=by
    cases p with
    |none=>rfl
    |some y=>cases o with
     |none=>rfl
     |some z=>simp only[jj,jo,join_assoc]
   rw[this,ih]
 exact key l o none
theorem GS (a b:List Fd):J (a++b)=jj (J a) (J b):=by
 simp only[J,List.foldl_append]
 exact WZ b _
theorem qV (x:Fd)(l:List Fd):J (x::l)=jj (some x) (J l):=by
 have:=GS [x] l
 simpa [J,jo] using this
theorem Qz (a:Option Fd):jj none a=a:=by cases a<;>rfl
theorem Fi (a b:Option Fd):jj a b=jj b a:=by
 cases a<;>cases b<;>simp only[jj,jo]
 rw[join_comm]
theorem m7 (a b c:Option Fd):jj (jj a b) c=jj a (jj b c):=by
 cases a<;>cases b<;>cases c<;>simp only[jj,jo]
 rw[join_assoc]
theorem GU {a b:List Fd}(h:a.Perm b):J a=J b:=by
 induction h with
 |nil=>rfl
 |cons x _ ih=>rw[qV,qV,ih]
 |swap x y l=>rw[qV,qV,qV,qV,←m7,←m7,Fi (some y) (some x)]
 |trans _ _ h1 h2=>rw[h1,h2]
theorem L7 {l:List Fd}:J l=none↔l=[]:=by
 constructor
 ·intro h
  cases l with
  |nil=>rfl
  |cons x r=>rw[qV] at h;cases hj:J r<;>rw[hj] at h<;>simp[jj,jo] at h
 ·rintro rfl;rfl
theorem QA (f:Nat→Fd):∀n,jn f n=(J ((List.range n).map f)).getD ⟨0,0,0,0⟩
 |0=>rfl
 |n+1=>by
  have ih:=QA f n
  rw[List.range_succ,List.map_append,GS]
  simp only[jn]
  split
  ·rename_i e;subst e;rfl
  ·rename_i e
   rw[ih]
   cases hj:J ((List.range n).map f) with
   |none=>rw[L7] at hj;simp at hj;exact absurd hj e
   |some y=>rfl
section
variable {κ:Type} [DecidableEq κ]
def Gk (S:List (κ × Fd))(k:κ):Option Fd:=J ((S.filter (λp=>decide (p.1=k))).map (·.2))
theorem zC (a b:List (κ × Fd))(k:κ):Gk (a++b) k=jj (Gk a k) (Gk b k):=by
 simp only[Gk,List.filter_append,List.map_append,GS]
theorem GR (k':κ)(f:Fd)(k:κ):Gk [(k',f)] k=if k'=k then some f else none:=by
 simp only[Gk,List.filter_cons,List.filter_nil]
 split<;>rename_i h
 ·simp at h;subst h;simp[J,jo]
 ·simp at h;simp[J,h]
theorem TJ {a b:List (κ × Fd)}(h:a.Perm b)(k:κ):Gk a k=Gk b k:=GU ((h.filter _).map _)
def dO (m:List (κ × Fd))(k:κ)(f:Fd):List (κ × Fd):=bN m k (match br m k with
 |some cw=>join cw f
 |none=>f)
def group (S:List (κ × Fd)):List (κ × Fd):=S.foldl (λm p=>dO m p.1 p.2) []
theorem aaY (m:List (κ × Fd))(k:κ)(v:Fd)(k':κ):br (bN m k v) k'=if k'=k then some v else br m k':=by
 induction m with
 |nil=>simp only[bN,br];split<;>split<;>simp_all
 |cons p r ih =>
  simp only[bN]
  split
  ·rename_i e;simp only[br]
   by_cases h:k=k'
   ·subst h;simp
   ·rw[if_neg h,if_neg (λe'=>h e'.symm),if_neg (λe'=>h (e.symm.trans e'))]
  ·rename_i e;simp only[br,ih]
   by_cases h:p.1=k'
   ·subst h;simp[e]
   ·simp[h]
theorem aaX (m:List (κ × Fd))(k:κ)(f:Fd)(k':κ):br (dO m k f) k'=if k'=k then jo (br m k) f else br m k':=by
 rw[dO,aaY]
 split
 ·cases br m k<;>rfl
 ·rfl
theorem Er (S:List (κ × Fd))(k:κ):br (group S) k=Gk S k:=by
 have key:∀(S:List (κ × Fd)) (m:List (κ × Fd)),br (S.foldl (λm p=>dO m p.1 p.2) m) k=jj (br m k) (Gk S k):=by
  intro S
  induction S with
  |nil=>intro m;rfl
  |cons p r ih =>
   intro m
   simp only[List.foldl_cons]
   rw[ih,aaX]
   have:Gk (p::r) k=jj (Gk [p] k) (Gk r k):=zC [p] r k
   rw[this,GR,←m7]
   by_cases h:k=p.1
   ·subst h;simp[jj]
   ·rw[if_neg h,if_neg (λe=>h e.symm)]
    simp[jj]
 have:=key S []
 rw[group,this]
 exact Qz _
theorem abX (m:List (κ × Fd))(k:κ)(f:Fd)(h:(m.map (·.1)).Nodup):((dO m k f).map (·.1)).Nodup:=by
 have key:∀(m:List (κ × Fd)) v,(m.map (·.1)).Nodup→((bN m k v).map (·.1)).Nodup∧∀x,x∈(bN m k v).map (·.1)→x∈m.map (·.1)∨x=k:=by
  intro m v
  induction m with
  |nil=>intro _;simp[bN]
  |cons p r ih =>
   intro h
   simp only[List.map_cons,List.nodup_cons] at h
   obtain⟨Fa,BZ⟩:=ih h.2
   simp only[bN]
   split
   ·rename_i e;subst e
    refine⟨by simpa using h,λx hx=>?_⟩
    simp only[List.map_cons,List.mem_cons] at hx ⊢
    rcases hx with hx|hx
    ·exact .inr hx
    ·exact .inl (.inr hx)
   ·rename_i e
    simp only[List.map_cons,List.nodup_cons,List.mem_cons]
    refine⟨⟨λhm=>?_,Fa⟩,λx hx=>?_⟩
    ·rcases BZ _ hm with hm|hm
     ·exact h.1 hm
     ·exact e hm
    ·rcases hx with hx|hx
     ·exact .inl (.inl hx)
     ·rcases BZ _ hx with hx|hx
      ·exact .inl (.inr hx)
      ·exact .inr hx
 exact(key m _ h).1
theorem Es (S:List (κ × Fd))(p:κ × Fd):group (S++[p])=dO (group S) p.1 p.2:=by
 simp only[group,List.foldl_append,List.foldl_cons,List.foldl_nil]
theorem A7 (S:List (κ × Fd)):((group S).map (·.1)).Nodup:=by
 have key:∀(S m:List (κ × Fd)),(m.map (·.1)).Nodup→((S.foldl (λm p=>dO m p.1 p.2) m).map (·.1)).Nodup:=by
  intro S
  induction S with
  |nil=>intro m h;exact h
  |cons p r ih=>intro m h;exact ih _ (abX m _ _ h)
 exact key S [] (by simp)
theorem RX {a b:List (κ × Fd)}(ha:(a.map (·.1)).Nodup)(hb:(b.map (·.1)).Nodup)(h:∀k,br a k=br b k):a.Perm b:=by
 have mem:∀{a b:List (κ × Fd)},(a.map (·.1)).Nodup→(∀k,br a k=br b k)→∀p,p∈a→p∈b:=by
  intro a b ha h p hp
  have h1:=Kx (l:=a) (k:=p.1) (v:=p.2) ha hp
  rw[h] at h1
  exact wW h1
 have nd:∀{a:List (κ × Fd)},(a.map (·.1)).Nodup→a.Nodup:=by
  intro a h
  unfold List.Nodup at h ⊢
  rw[List.pairwise_map] at h
  exact h.imp λaV e=>aV (by rw[e])
 rw[List.perm_ext_iff_of_nodup (nd ha) (nd hb)]
 exact λp=>⟨mem ha h p,mem hb (λk=>(h k).symm) p⟩
def ez (S:List (κ × Fd)):Nat:=(S.map (·.2.many)).sum
theorem adC (m:List (κ × Fd))(k:κ)(v:Fd):ez (bN m k v)+(match br m k with|some o=>o.many|none=>0)=ez m+v.many:=by
 induction m with
 |nil=>simp[bN,br,ez]
 |cons p r ih =>
  simp only[bN,br]
  split
  ·simp[ez];omega
  ·simp only[ez,List.map_cons,List.sum_cons] at ih ⊢
   omega
theorem adA (m:List (κ × Fd))(k:κ)(f:Fd):ez (dO m k f)=ez m+f.many:=by
 have:=adC m k (match br m k with|some cw=>join cw f|none=>f)
 unfold dO
 cases h:br m k with
 |none=>rw[h] at this;simpa using this
 |some o=>rw[h] at this;simp only[join] at this ⊢;omega
theorem LC (S:List (κ × Fd)):ez (group S)=ez S:=by
 have key:∀(S m:List (κ × Fd)),ez (S.foldl (λm p=>dO m p.1 p.2) m)=ez m+ez S:=by
  intro S
  induction S with
  |nil=>intro m;simp[ez]
  |cons p r ih=>intro m;rw[List.foldl_cons,ih,adA];simp[ez];omega
 have:=key S []
 simpa [group,ez] using this
theorem SY {a b:List (κ × Fd)}(h:a.Perm b):ez a=ez b:=(h.map _).sum_nat
theorem LD {S:List (κ × Fd)}{p:κ × Fd}(h:p∈S):p.2.many≤ez S:=by
 induction S with
 |nil=>cases h
 |cons q r ih =>
  simp only[ez,List.map_cons,List.sum_cons] at ih ⊢
  rcases List.mem_cons.1 h with rfl|h
  ·omega
  ·have:=ih h;omega
theorem Ep (P:Fd→Prop)(hP:∀f x,P f→P x→P (join f x)){S:List (κ × Fd)}(h:∀p∈S,P p.2):∀p∈group S,P p.2:=by
 have aq:∀(m:List (κ × Fd)) k v,(∀p∈m,P p.2)→P v→∀p∈bN m k v,P p.2:=by
  intro m k v
  induction m with
  |nil=>intro _ hv p hp;simp[bN] at hp;subst hp;exact hv
  |cons q r ih =>
   intro hm hv p hp
   simp only[bN] at hp
   split at hp
   ·rcases List.mem_cons.1 hp with rfl|hp
    ·exact hv
    ·exact hm p (List.mem_cons_of_mem _ hp)
   ·rcases List.mem_cons.1 hp with rfl|hp
    ·exact hm p List.mem_cons_self
    ·exact ih (λp hp=>hm p (List.mem_cons_of_mem _ hp)) hv p hp
 have key:∀(S m:List (κ × Fd)),(∀p∈S,P p.2)→(∀p∈m,P p.2)→∀p∈S.foldl (λm p=>dO m p.1 p.2) m,P p.2:=by
  intro S
  induction S with
  |nil=>intro m _ hm;exact hm
  |cons q r ih =>
   intro m hS hm
   refine ih _ (λp hp=>hS p (List.mem_cons_of_mem _ hp)) (aq m _ _ hm ?_)
   cases hl:br m q.1 with
   |none=>exact hS q List.mem_cons_self
   |some o=>exact hP _ _ (hm _ (wW hl)) (hS q List.mem_cons_self)
 exact key S [] h (λp hp=>by cases hp)
end
structure Lg where
 lo:Int
 hi:Int
 many:Int
deriving DecidableEq
def dB (x:Lg):SV:=.agg [.si .i64 x.lo,.si .i64 x.hi,.si .i64 x.many]
theorem mM:gB T 231 dB where
 ty:=⟨_,rfl⟩
 vC:=λa=>by kernel_rfl
 eq:=λa b=>by
  have h:l5 T 9 231 (dB a) (dB b)=some ((decide (a.lo=b.lo)&&(decide (a.hi=b.hi)&&true))&&(decide (a.many=b.many)&&true)):=by kernel_rfl
  rw[h]
  congr 1
  rw[Bool.eq_iff_iff]
  obtain⟨a1,a2,a3⟩:=a
  obtain⟨b1,b2,b3⟩:=b
  simp[and_assoc]
 cl:=λa=>⟨.agg #[.int .i64 a.lo,.int .i64 a.hi,.int .i64 a.many],rfl⟩
 same:=λa=>by
  have:cv (dB a)=.agg #[.int .i64 a.lo,.int .i64 a.hi,.int .i64 a.many]:=rfl
  rw[this]
  simp[Instr.sameBits]
theorem mL:kJ dv:=λa=>⟨.agg #[.int .i64 a.many,.int .u64 a.least,.int .u64 a.each,.int .u64 a.some],rfl⟩
def kI:Lg:=⟨0,0,0⟩
def lN (ay b:Span)(k:Lg):Lg:=⟨(if 0<k.many then k.lo+ay.1 else k.lo)+b.1,(if 0<k.many then k.hi+ay.2 else k.hi)+b.2,k.many+1⟩
def kG (i:Nat)(f:Fd):Fd:=⟨f.many,f.least ||| 2 ^ i,f.each ||| 2 ^ i,f.some ||| 2 ^ i⟩
def eH (ay b:Span)(i:Nat)(p:Lg × Fd):List (Lg × Fd):=[p,(lN ay b p.1,kG i p.2)]
def hQ (ay:Span)(sp:Nat→Span):Nat→List (Lg × Fd)
 |0=>[(kI,⟨1,0,0,0⟩)]
 |i+1=>(hQ ay sp i).flatMap (eH ay (sp i) i)
theorem SJ {x i:Nat}(h:x<2 ^ i):fC (x ||| 2 ^ i)=fC x+1:=by
 have h2:x ||| 2 ^ i<2 ^ (i+1):=Nat.or_lt_two_pow (by rw[Nat.pow_succ];omega) (Nat.pow_lt_pow_right (by decide) (by omega))
 rw[←xZ (i+1) _ h2,←xZ i x h]
 have hc:∀j,j≤i→dz (x ||| 2 ^ i) j=dz x j:=by
  intro j
  induction j with
  |zero=>intro _;rfl
  |succ j ih =>
   intro hj
   simp only[dz,ih (by omega),Nat.testBit_or]
   have:(2 ^ i).testBit j=false:=by rw[Nat.testBit_two_pow];simp;omega
   simp[this]
 simp only[dz,hc i (Nat.le_refl _),Nat.testBit_or]
 simp[Nat.testBit_two_pow_self]
theorem KP {x i:Nat}(h:x<2 ^ i):x ||| 2 ^ i=x+2 ^ i:=by
 rw[Nat.or_comm]
 have:=Nat.two_pow_add_eq_or_of_lt h 1
 simp at this
 rw[←this];omega
theorem aaR {x y i:Nat}(hx:x<2 ^ i)(hy:y<2 ^ i):ni (x ||| 2 ^ i) (y ||| 2 ^ i)=ni x y:=by
 rw[Bool.eq_iff_iff,Cg,Cg,SJ hx,SJ hy,KP hx,KP hy]
 omega
theorem abb {x y i:Nat}(hx:x<2 ^ i)(hy:y<2 ^ i):mr (x ||| 2 ^ i) (y ||| 2 ^ i)=mr x y ||| 2 ^ i:=by
 unfold mr
 rw[aaR hy hx]
 split<;>rfl
theorem aej {f x:Fd}{i:Nat}(hf:f.least<2 ^ i)(hx:x.least<2 ^ i):kG i (join f x)=join (kG i f) (kG i x):=by
 simp only[kG,join_eq,abb hf hx,Fd.mk.injEq,true_and]
 constructor
 ·apply Nat.eq_of_testBit_eq;intro j
  simp only[Nat.testBit_or,Nat.testBit_and]
  cases f.each.testBit j<;>cases x.each.testBit j<;>cases (2 ^ i).testBit j<;>rfl
 ·apply Nat.eq_of_testBit_eq;intro j
  simp only[Nat.testBit_or]
  cases f.some.testBit j<;>cases x.some.testBit j<;>cases (2 ^ i).testBit j<;>rfl
theorem adx (ay b:Span)(i:Nat)(S:List (Lg × Fd))(h:∀p∈S,p.2.least<2 ^ i)(k:Lg):Gk ((group S).flatMap (eH ay b i)) k=Gk (S.flatMap (eH ay b i)) k:=by
 have key:∀(r S:List (Lg × Fd)),(∀p∈S,p.2.least<2 ^ i)→(∀p∈r,p.2.least<2 ^ i)→Gk ((group S).flatMap (eH ay b i)) k=Gk (S.flatMap (eH ay b i)) k →
   Gk ((group (S++r)).flatMap (eH ay b i)) k=Gk ((S++r).flatMap (eH ay b i)) k:=by
  intro r
  induction r with
  |nil=>intro S _ _ h;simpa using h
  |cons p r ih =>
   intro S hS hr h
   have e:S++p::r=(S++[p])++r:=by simp
   rw[e]
   refine ih (S++[p]) (λq hq=>?_) (λq hq=>hr q (List.mem_cons_of_mem _ hq)) ?_
   ·rcases List.mem_append.1 hq with hq|hq
    ·exact hS q hq
    ·simp at hq;subst hq;exact hr q List.mem_cons_self
   ·rw[Es,List.flatMap_append,zC,←h]
    have hp:=hr p List.mem_cons_self
    cases hl:br (group S) p.1 with
    |none =>
     rw[dO,hl,zv (Ci.1 hl),List.flatMap_append,zC]
    |some o =>
     have ho:o.least<2 ^ i:=by
      refine Ep (λf=>f.least<2 ^ i) (λf x h1 h2=>?_) hS _ (wW hl)
      simp only[join_eq,mr]
      split<;>assumption
     obtain⟨u,v,e1,e2⟩:=LN (v:=join o p.2) (A7 S) (wW hl)
     rw[dO,hl,e2,e1]
     simp only[List.flatMap_append,List.flatMap_cons,zC,List.flatMap_nil,List.append_nil]
     have EX:∀(k':Lg) (x y:Fd),Gk [(k',join x y)] k=jj (Gk [(k',x)] k) (Gk [(k',y)] k):=by
      intro k' x y
      simp only[GR]
      by_cases h1:k'=k
      ·simp only[h1,if_true,jj,jo]
      ·simp only[h1,if_false,jj]
     have jj4:∀a b c d:Option Fd,jj (jj a b) (jj c d)=jj (jj a c) (jj b d):=by
      intro a b c d
      rw[m7,m7,←m7 b,←m7 c,Fi b c]
     have hs:Gk (eH ay b i (p.1,join o p.2)) k=jj (Gk (eH ay b i (p.1,o)) k) (Gk (eH ay b i p) k):=by
      have Lp:∀(q:Lg × Fd),Gk (eH ay b i q) k=jj (Gk [q] k) (Gk [(lN ay b q.1,kG i q.2)] k):=λq=>zC [q] [(lN ay b q.1,kG i q.2)] k
      obtain⟨pk,pf⟩:=p
      rw[Lp,Lp,Lp,aej ho hp,EX,EX,jj4]
     rw[hs]
     rw[m7 _ _ (Gk (eH ay b i p) k),m7 _ _ (Gk (List.flatMap (eH ay b i) v) k),m7 _ (Gk (List.flatMap (eH ay b i) v) k),Fi (Gk (eH ay b i p) k)]
 have:=key S [] (λp hp=>by cases hp) h rfl
 simpa using this
theorem yQ (ay:Span)(sp:Nat→Span):∀i,(∀p∈hQ ay sp i,p.2.least<2 ^ i∧p.2.each<2 ^ i∧p.2.some<2 ^ i∧p.2.many=1)∧ez (hQ ay sp i)=2 ^ i∧(hQ ay sp i).length=2 ^ i
 |0=>by
  refine⟨λp hp=>?_,rfl,rfl⟩
  simp[hQ] at hp;subst hp;simp
 |i+1=>by
  obtain⟨h1,h2,h3⟩:=yQ ay sp i
  have gV:2 ^ i<2 ^ (i+1):=Nat.pow_lt_pow_right (by decide) (by omega)
  refine⟨λp hp=>?_,?_,?_⟩
  ·simp only[hQ,List.mem_flatMap] at hp
   obtain⟨q,hq,hp⟩:=hp
   have hb:=h1 q hq
   simp only[eH,List.mem_cons,List.not_mem_nil,or_false] at hp
   rcases hp with rfl|rfl
   ·omega
   ·refine⟨?_,?_,?_,hb.2.2.2⟩<;>exact Nat.or_lt_two_pow (by omega) gV
  ·have:∀(S:List (Lg × Fd)),ez (S.flatMap (eH ay (sp i) i))=2*ez S:=by
    intro S
    induction S with
    |nil=>rfl
    |cons p r ih =>
     simp only[List.flatMap_cons,ez,List.map_append,List.sum_append,List.map_cons,List.sum_cons] at ih ⊢
     rw[ih]
     simp[eH,kG]
     omega
   rw[hQ,this,h2,Nat.pow_succ];omega
  ·have:∀(S:List (Lg × Fd)),(S.flatMap (eH ay (sp i) i)).length=2*S.length:=by
    intro S
    induction S with
    |nil=>rfl
    |cons p r ih=>simp only[List.flatMap_cons,List.length_append,ih,List.length_cons];simp[eH];omega
   rw[hQ,this,h3,Nat.pow_succ];omega
def qE (ay:Span)(n:Nat)(sp:Nat→Span):List (Lg × Fd):=group ((hQ ay sp n).filter λp=>decide (p.1≠kI))
def lV:Ct:=λfr args H =>
 match args with
 |[.sp bI 0]=>(match H bI with
  |some (.cells 223 [.sl id,.si .i64 lo,.si .i64 hi])=>(match cn 2 H id with
   |some (n,get)=>some ⟨some (oK n get∧y8 (jG n get) lo hi),none,.sm fr,[(fr,.mp (dT dB dv (qE (lo,hi) n (gL get))))]⟩
   |none=>none)
  |_=>none)
 |_=>none
theorem Ho:cY lV:=by
 intro fr args H H' out hH h
 unfold lV at h ⊢
 split at h
 ·split at h
  ·rename_i e1
   rw[hH _ _ e1]
   split at h
   ·rename_i e
    simp only[fk hH e]
    exact h
   ·cases h
  ·cases h
 ·cases h
def zF (ay:Span)(sp:Nat→Span)(i:Nat)(m:List (Lg × Fd)):Prop:=(m.map (·.1)).Nodup∧∀k,br m k=Gk (hQ ay sp i) k
theorem Re {ay:Span}{sp:Nat→Span}{i:Nat}{m:List (Lg × Fd)}(h:zF ay sp i m):m.Perm (group (hQ ay sp i)) :=
 RX h.1 (A7 _) λk=>by rw[h.2,Er]
theorem XQ {S:List (Lg × Fd)}(P:Lg→Prop)(h:∀p∈S,P p.1):∀p∈group S,P p.1:=by
 intro p hp
 have h1:=Kx (k:=p.1) (v:=p.2) (A7 S) hp
 rw[Er] at h1
 by_cases hn:(S.filter (λq=>decide (q.1=p.1)))=[]
 ·rw[Gk,hn] at h1;cases h1
 ·obtain⟨q,hq⟩:=List.exists_mem_of_ne_nil _ hn
  have:=List.mem_filter.1 hq
  have e:q.1=p.1:=by simpa using this.2
  rw[←e];exact h q this.1
theorem QU {ay:Span}{sp:Nat→Span}{n:Nat}(hf:(0≤ay.1∧ay.1≤1000)∧(0≤ay.2∧ay.2≤1000))(hb:∀i,i<n→(0≤(sp i).1∧(sp i).1≤1000)∧(0≤(sp i).2∧(sp i).2≤1000)) :
  ∀i,i≤n→∀p∈hQ ay sp i,0≤p.1.lo∧p.1.lo≤i*2000∧0≤p.1.hi∧p.1.hi≤i*2000∧0≤p.1.many∧p.1.many≤i
 |0,_,p,hp=>by simp[hQ] at hp;subst hp;simp[kI]
 |i+1,hi,p,hp=>by
  simp only[hQ,List.mem_flatMap] at hp
  obtain⟨q,hq,hp⟩:=hp
  have h1:=QU hf hb i (by omega) q hq
  have h2:=hb i (by omega)
  simp only[eH,List.mem_cons,List.not_mem_nil,or_false] at hp
  rcases hp with rfl|rfl
  ·omega
  ·simp only[lN]
   split<;>omega
theorem Rc {ay:Span}{sp:Nat→Span}{n i:Nat}{m:List (Lg × Fd)}(h:zF ay sp i m)(hi:i≤n)(hf:(0≤ay.1∧ay.1≤1000)∧(0≤ay.2∧ay.2≤1000))(hb:∀i,i<n→(0≤(sp i).1∧(sp i).1≤1000)∧(0≤(sp i).2∧(sp i).2≤1000)) :
  ez m=2 ^ i∧∀p∈m,(p.2.least<2 ^ i∧p.2.each<2 ^ i∧p.2.some<2 ^ i)∧0≤p.1.lo∧p.1.lo≤i*2000∧0≤p.1.hi∧p.1.hi≤i*2000∧0≤p.1.many∧p.1.many≤i:=by
 have hp:=Re h
 obtain⟨a1,a2,a3⟩:=yQ ay sp i
 refine⟨by rw[SY hp,LC,a2],λp hm=>?_⟩
 have an:=hp.mem_iff.1 hm
 refine⟨Ep (λf=>f.least<2 ^ i∧f.each<2 ^ i∧f.some<2 ^ i) (λf x h1 h2=>?_) (λq hq=>⟨(a1 q hq).1,(a1 q hq).2.1,(a1 q hq).2.2.1⟩) p an,XQ (λk=>0≤k.lo∧k.lo≤i*2000∧0≤k.hi∧k.hi≤i*2000∧0≤k.many∧k.many≤i) (QU hf hb i hi) p an⟩
 simp only[join_eq]
 refine⟨?_,Nat.lt_of_le_of_lt Nat.and_le_left h1.2.1,Nat.or_lt_two_pow h1.2.2 h2.2.2⟩
 unfold mr;split
 ·exact h2.1
 ·exact h1.1
theorem adB (ay b:Span)(i:Nat)(S:List (Lg × Fd)):ez (S.flatMap (eH ay b i))=2*ez S:=by
 induction S with
 |nil=>rfl
 |cons p r ih =>
  simp only[List.flatMap_cons,ez,List.map_append,List.sum_append,List.map_cons,List.sum_cons] at ih ⊢
  rw[ih]
  simp[eH,kG]
  omega
theorem Rr {ay b:Span}{i:Nat}{m aN rest:List (Lg × Fd)}{M:List (Lg × Fd)}{r:List (Lg × Fd)}(hi:i<8)(hp:m.Perm (aN++rest))(hs:ez m=2 ^ i)(hm:∀p∈m,p.2.least<2 ^ i∧p.2.each<2 ^ i∧p.2.some<2 ^ i)(hr:∀p∈r,∃q∈rest,p=q)
  (hM:group (aN.flatMap (eH ay b i)++r)=M):∀p∈M,p.2.many≤2*2 ^ i+ez r∧p.2.least<256∧p.2.each<256∧p.2.some<256:=by
 subst hM
 have XW:(2:Nat) ^ (i+1)≤2 ^ 8:=Nat.pow_le_pow_right (by decide) (by omega)
 have gV:2 ^ i<2 ^ (i+1):=Nat.pow_lt_pow_right (by decide) (by omega)
 have tl:ez aN≤2 ^ i:=by
  have:=SY hp
  rw[hs] at this
  simp only[ez,List.map_append,List.sum_append] at this ⊢
  omega
 have e8:(2:Nat) ^ 8=256:=rfl
 intro p gU
 refine⟨?_,?_⟩
 ·have h1:=LD gU
  rw[LC] at h1
  have h2:=adB ay b i aN
  simp only[ez,List.map_append,List.sum_append] at h1 h2 ⊢
  simp only[ez] at tl
  omega
 ·refine Ep (λf=>f.least<256∧f.each<256∧f.some<256) (λf x h1 h2=>?_) (λq hq=>?_) p gU
  ·simp only[join_eq]
   refine⟨?_,Nat.lt_of_le_of_lt Nat.and_le_left h1.2.1,Nat.or_lt_two_pow (n:=8) h1.2.2 h2.2.2⟩
   unfold mr;split
   ·exact h2.1
   ·exact h1.1
  ·rcases List.mem_append.1 hq with hq|hq
   ·simp only[List.mem_flatMap] at hq
    obtain⟨u,hu,hq⟩:=hq
    have hb:=hm u (hp.mem_iff.2 (List.mem_append_left _ hu))
    simp only[eH,List.mem_cons,List.not_mem_nil,or_false] at hq
    rcases hq with rfl|rfl
    ·omega
    ·have o1:∀x,x<2 ^ i→x ||| 2 ^ i<256:=λx hx=>by
      have:=Nat.or_lt_two_pow (n:=i+1) (x:=x) (y:=2 ^ i) (by omega) gV
      omega
     exact⟨o1 _ hb.1,o1 _ hb.2.1,o1 _ hb.2.2⟩
   ·obtain⟨q',Zp,rfl⟩:=hr q hq
    have hb:=hm q (hp.mem_iff.2 (List.mem_append_right _ Zp))
    omega
theorem R3 {m:List (Lg × Fd)}{k:Lg}{o f:Fd}(h:br m k=some o):dO m k f=bN m k (join o f):=by simp only[dO,h]
theorem R2 {m:List (Lg × Fd)}{k:Lg}{f:Fd}(h:br m k=none):dO m k f=bN m k f:=by simp only[dO,h]
theorem abh {ay:Span}{sp:Nat→Span}{i:Nat}{m V:List (Lg × Fd)}(hv:V.Perm m)(hm:zF ay sp i m)(k:Lg):br (group (V.flatMap (eH ay (sp i) i))) k=Gk (hQ ay sp (i+1)) k:=by
 rw[Er,hQ,←adx ay (sp i) i (hQ ay sp i) (λp hp=>((yQ ay sp i).1 p hp).1)]
 exact TJ ((hv.trans (Re hm)).flatMap_right _) k
theorem aaV {m:List (Lg × Fd)}(hn:(m.map (·.1)).Nodup)(k k':Lg):br (j7 m k) k'=if k'=k then none else br m k':=by
 induction m with
 |nil=>simp[j7,br]
 |cons p r ih =>
  simp only[List.map_cons,List.nodup_cons] at hn
  simp only[j7]
  split
  ·rename_i e;subst e
   split
   ·rename_i e2;subst e2;exact Ci.2 hn.1
   ·rename_i e2;simp only[br];rw[if_neg (λe=>e2 e.symm)]
  ·rename_i e
   simp only[br,ih hn.2]
   by_cases h:p.1=k'
   ·subst h;simp[e]
   ·simp[h]
theorem TH (S:List (Lg × Fd))(z k:Lg):Gk (S.filter λp=>decide (p.1≠z)) k=if k=z then none else Gk S k:=by
 simp only[Gk,List.filter_filter]
 split
 ·rename_i e;subst e
  have:S.filter (λa=>decide (a.1=k)&&decide (a.1≠k))=[]:=by
   rw[List.filter_eq_nil_iff];intro a _;simp
  rw[this];rfl
 ·rename_i e
  congr 2
  apply List.filter_congr
  intro a _
  by_cases h:a.1=k
  ·simp[h,e]
  ·simp[h]
theorem VW {ay:Span}{sp:Nat→Span}{n:Nat}{m:List (Lg × Fd)}(hm:zF ay sp n m):(dT dB dv (j7 m kI)).Perm (dT dB dv (qE ay n sp)):=by
 refine List.Perm.map _ (RX ?_ (A7 _) λk=>?_)
 ·have:∀(m:List (Lg × Fd)),((j7 m kI).map (·.1)).Sublist (m.map (·.1)):=by
   intro m
   induction m with
   |nil=>exact .slnil
   |cons p r ih =>
    simp only[j7]
    split
    ·exact List.sublist_cons_self _ _
    ·exact ih.cons_cons _
  exact(this m).nodup hm.1
 ·rw[aaV hm.1,hm.2,qE,Er,TH]
theorem MN:Body P 139:=aw Tryz.func139 (c:=code Tryz.f139) rfl (by decide)
theorem B7:aP P 132 lV:=by
 have g:=Xy (Iz (yn ah))
 refine bq (C:=aC _) g.ok Tryz.func132 (c:=code Tryz.f132) rfl λfr args H out h hp=>?_
 unfold lV at h
 split at h
 ·rename_i bI
  split at h
  ·rename_i id lo hi e1
   split at h
   ·rename_i n get e
    cases h
    obtain⟨hs,ap⟩:oK n get∧y8 (jG n get) lo hi:=hp
    have hh:=SC e1 e hs
    refine⟨oA bI id n lo hi (gL get),[.sp 0 0],xg n lo hi (gL get),2,[2],rfl,rfl,Nat.le_of_ble_eq_true rfl,hh,rfl,rfl,λG hG=>?_⟩
    have hb:∀i,i<n→oy (gL get i).1∧oy (gL get i).2:=λi hi=>ap.2.2.2 _ (List.mem_map.2 ⟨i,List.mem_range.2 hi,rfl⟩)
    have hn:n≤8:=by have:=ap.1;simpa [jG] using this
    have k7:=ap.2.1
    have wB:=ap.2.2.1
    clear ap hh hs e e1
    generalize gL get=sp at hb ⊢
    unfold oy at hb k7 wB
    refine sL (g.ok _ _ _) aj rfl rfl rfl rfl rfl ?_
    refine mS dB dv [] kI ⟨1,0,0,0⟩ [(kI,⟨1,0,0,0⟩)] rfl 2 (g.ok _ _ _) aj rfl (.inr rfl) rfl rfl rfl rfl mM mL rfl rfl rfl rfl ?_
    intro _
    refine cm (g.ok _ _ _) 2 (λx:{p:Nat × List (Lg × Fd) // p.1≤n∧zF (lo,hi) sp p.1 p.2}=>⟨[(0,⟨[],.sp 0 0⟩),(3,⟨[],.sm 2⟩),(4,⟨[],.fn (.func 139) [] []⟩),(17,⟨[],.sl 1⟩),(18,⟨[],.si .i64 n⟩),(19,⟨[],.si .i64 x.1.1⟩)],[],
     (2,.mp (dT dB dv x.1.2))::xg n lo hi sp,3,[]⟩) (λx=>n-x.1.1) hG ⟨(0,[(kI,⟨1,0,0,0⟩)]),Nat.zero_le _,⟨by simp,λk=>by rw[hQ,GR];rfl⟩⟩ (λj=>j) ?_ ?_
    ·refine⟨?_,?_,rfl,rfl,rfl,rfl,trivial⟩
     ·exact Q2
     ·exact⟨⟨List.Perm.refl _,rfl⟩,⟨⟨rfl,⟨rfl,⟨rfl,rfl⟩,⟨rfl,rfl⟩,trivial⟩,rfl⟩,rfl⟩,⟨⟨rfl,rfl,λi hi=>⟨rfl,rfl⟩⟩,rfl⟩,trivial⟩
    ·rintro⟨⟨i,m⟩,dD,hm⟩
     refine Br.mk (λh=>?_) (λh=>?_)
     ·have h:(i:Int)<(n:Int):=of_decide_eq_true h
      refine aa.mk (show(0:Int)≤(i:Int)∧(i:Int)<(n:Int) from⟨by omega,h⟩) ?_
      refine sL (g.ok _ _ _) aj rfl rfl rfl rfl rfl ?_
      refine Ed dB dv m 2 (g.ok _ _ _) aj rfl rfl rfl rfl rfl rfl rfl mM mL rfl rfl ?_
      intro lA ts clock mn
      refine rI (g.ok _ _ _) (λx:{p:List ((Lg × Fd) × Nat) × List ((Lg × Fd) × Nat) // ts.Perm (p.1++p.2)}=>⟨[(0,⟨[],.sp 0 0⟩),(3,⟨[],.sm 2⟩),(4,⟨[],.fn (.func 139) [] []⟩),(5,⟨[],.si .i64 i⟩),(6,⟨[],.sp 3 0⟩),(7,⟨[],.sm 4⟩),(17,⟨[],.sl 1⟩),(18,⟨[],.si .i64 n⟩),(19,⟨[],.si .i64 i⟩),(26,⟨[],.sp 5 0⟩)],[],
       (5,.it 2 clock (x.1.1.map (·.2)) clock)::(2,.map (kd dB dv ts) clock)::(4,.mp (dT dB dv (group ((x.1.1.map (·.1)).flatMap (eH (lo,hi) (sp i) i)))))::(3,.cells 36 (iw (sp i)))::xg n lo hi sp,6,[]⟩)
       (λx=>x.1.2.length) (λ_ j hj=>hG j (by have:6≤j:=hj;omega)) ⟨([],ts),by simp⟩ ?_ ?_
      ·refine⟨?_,?_,rfl,rfl,rfl⟩
       ·exact Q2
       ·refine⟨⟨rfl,?_,rfl⟩,⟨rfl,trivial,rfl⟩,⟨rfl,trivial,rfl⟩,⟨⟨rfl,⟨rfl,rfl⟩,⟨rfl,rfl⟩,trivial⟩,rfl,rfl⟩,⟨⟨rfl,rfl,⟨rfl,rfl⟩,⟨rfl,rfl⟩,trivial⟩,rfl,rfl⟩,⟨rfl,λi hi=>rfl,rfl⟩,trivial⟩
        show(2:Nat)<6
        decide
      ·rintro⟨⟨aN,rest⟩,hp⟩
       refine Ec dB dv 2 5 clock ts aN rest (g.ok _ _ _) aj rfl rfl rfl rfl rfl mM mL rfl rfl rfl hp ⟨λhr=>?_,?_⟩
       ·subst hr
        have wE:=Rc hm dD ⟨k7,wB⟩ (λi hi=>⟨(hb i hi).1,(hb i hi).2⟩)
        have jy:(aN.map (·.1)).Perm m:=by
         have:=mn.symm.trans (hp.map _)
         simpa using this.symm
        refine Br.mk (λh=>by cases h) (λ_=>?_)
        refine aa.mk (show(-9223372036854775808:Int)≤(i:Int)+1∧(i:Int)+1≤9223372036854775807 by omega) ⟨⟨(i+1,group ((aN.map (·.1)).flatMap (eH (lo,hi) (sp i) i))),(by show i+1≤n;omega),A7 _,λk=>abh jy hm k⟩,(λj=>match j with|2=>4|k=>k),?_,?_⟩
        ·refine⟨?_,?_,rfl,rfl,rfl,rfl,trivial⟩
         ·exact Q2
         ·exact⟨⟨List.Perm.refl _,rfl⟩,⟨⟨rfl,⟨rfl,⟨rfl,rfl⟩,⟨rfl,rfl⟩,trivial⟩,rfl⟩,rfl⟩,⟨⟨rfl,rfl,λi hi=>⟨rfl,rfl⟩⟩,rfl⟩,trivial⟩
        ·show n-(i+1)<n-i
         omega
       ·rintro⟨⟨⟨ka,kb,kc⟩,⟨fm,fl,fe,fs⟩⟩,b⟩ iY lD
        refine Br.mk (λ_=>?_) (λh=>by cases h)
        refine Eb dB dv 2 5 clock ts aN ⟨⟨⟨ka,kb,kc⟩,⟨fm,fl,fe,fs⟩⟩,b⟩ (g.ok _ _ _) aj rfl rfl rfl rfl rfl mM mL rfl rfl rfl ?_ ?_
        ·refine hp.mem_iff.2 (List.mem_append_right _ (lD.mem_iff.2 List.mem_cons_self))
        ·have wE:=Rc hm dD ⟨k7,wB⟩ (λi hi=>⟨(hb i hi).1,(hb i hi).2⟩)
         have jy:m.Perm (aN.map (·.1)++rest.map (·.1)):=by rw[←List.map_append];exact mn.symm.trans (hp.map _)
         have Zn:(rest.map (·.1)).Perm ((⟨ka,kb,kc⟩,⟨fm,fl,fe,fs⟩)::iY.map (·.1)):=lD.map _
         have Py:i<8:=by omega
         have PB:((⟨ka,kb,kc⟩,⟨fm,fl,fe,fs⟩):Lg × Fd)∈rest.map (·.1):=Zn.mem_iff.2 List.mem_cons_self
         have PC:((⟨ka,kb,kc⟩,⟨fm,fl,fe,fs⟩):Lg × Fd)∈m:=jy.mem_iff.2 (List.mem_append_right _ PB)
         have EQ:=wE.2 _ PC
         have Pv:=LD PC
         rw[wE.1] at Pv
         simp only at EQ Pv
         have PQ:2 ^ i≤128:=(show 2 ^ i≤2 ^ 7 from Nat.pow_le_pow_right (by decide) (by omega))
         have Ez:=Rr (ay:=(lo,hi)) (b:=sp i) (r:=[]) Py jy wE.1 (λp hp=>(wE.2 p hp).1) (λp hp=>by cases hp) rfl
         have EA:=Rr (ay:=(lo,hi)) (b:=sp i) (r:=[(⟨ka,kb,kc⟩,⟨fm,fl,fe,fs⟩)]) Py jy wE.1 (λp hp=>(wE.2 p hp).1) (λp hp=>⟨_,PB,by simpa using hp⟩) rfl
         rw[Es] at EA
         rw[List.append_nil] at Ez
         simp only[ez,List.map_nil,List.sum_nil,List.map_cons,List.sum_cons] at Ez EA
         generalize hM:group ((aN.map (·.1)).flatMap (eH (lo,hi) (sp i) i))=M at Ez EA ⊢
         refine av (g.ok _ _ _) aj rfl rfl rfl rfl ?_
         refine⟨MN,DM g.ok Tryz.func139 (c:=code Tryz.f139) rfl (Nat.le_of_ble_eq_true rfl) (.bn []) ((4,.mp (dT dB dv (dO M ⟨ka,kb,kc⟩ ⟨fm,fl,fe,fs⟩)))::(7,.cells 199 (gQ ⟨fm,fl,fe,fs⟩))::(6,.cells 231 [.si .i64 ka,.si .i64 kb,.si .i64 kc])::(5,.it 2 clock (List.map (λx:(Lg × Fd) × Nat=>x.2) (aN++[((⟨ka,kb,kc⟩,⟨fm,fl,fe,fs⟩),b)])) clock)::(2,.map (kd dB dv ts) clock)::(3,.cells 36 (iw (sp i)))::xg n lo hi sp) 8 (λG1 Pb=>?_) ?_⟩
         ·refine mR dB dv M ⟨ka,kb,kc⟩ 4 (g.ok _ _ _) aj rfl rfl rfl rfl rfl rfl rfl rfl rfl mM mL rfl rfl rfl ?_
          intro X7
          refine⟨?_,λho=>?_⟩
          ·rintro⟨om,ol,oe,os⟩ ho
           have IZ:=Ez _ (wW ho)
           refine Br.mk (λ_=>?_) (λh=>by cases h)
           refine aa.mk ⟨?_,by decide,?_⟩ ?_
           ·intro q hq
            rcases(show q=0∨q=1 by omega) with rfl|rfl<;>rfl
           ·intro q hq
            rcases(show q=0∨q=1 by omega) with rfl|rfl
            ·show om≤1000000∧ol<256∧oe<256∧os<256
             simp only at IZ;omega
            ·show fm≤1000000∧fl<256∧fe<256∧fs<256
             omega
           refine mS dB dv M ⟨ka,kb,kc⟩ (join ⟨om,ol,oe,os⟩ ⟨fm,fl,fe,fs⟩) (dO M ⟨ka,kb,kc⟩ ⟨fm,fl,fe,fs⟩) (R3 ho) 4 (g.ok _ _ _) aj rfl (.inl rfl) rfl rfl rfl rfl mM mL rfl rfl rfl rfl ?_
           intro _
           exact⟨λj=>j,⟨⟨⟨List.Perm.refl _,rfl⟩,⟨⟨rfl,⟨⟨rfl,rfl⟩,⟨rfl,rfl⟩,⟨rfl,rfl⟩,⟨rfl,rfl⟩,trivial⟩,rfl⟩,rfl⟩,⟨⟨rfl,⟨⟨rfl,rfl⟩,⟨rfl,rfl⟩,⟨rfl,rfl⟩,trivial⟩,rfl⟩,rfl⟩,⟨⟨rfl,rfl,rfl,rfl,rfl⟩,rfl⟩,⟨⟨rfl,rfl⟩,rfl⟩,⟨⟨rfl,⟨⟨rfl,rfl⟩,⟨rfl,rfl⟩,trivial⟩,rfl⟩,rfl⟩,⟨⟨rfl,⟨rfl,⟨rfl,rfl⟩,⟨rfl,rfl⟩,trivial⟩,rfl⟩,rfl⟩,⟨⟨rfl,rfl,λi hi=>⟨rfl,rfl⟩⟩,rfl⟩,trivial⟩,trivial,rfl,rfl,rfl,rfl⟩⟩
          ·refine Br.mk (λh=>by cases h) (λ_=>?_)
           refine mS dB dv M ⟨ka,kb,kc⟩ ⟨fm,fl,fe,fs⟩ (dO M ⟨ka,kb,kc⟩ ⟨fm,fl,fe,fs⟩) (R2 ho) 4 (g.ok _ _ _) aj rfl (.inl rfl) rfl rfl rfl rfl mM mL rfl rfl rfl rfl ?_
           intro _
           exact⟨λj=>j,⟨⟨⟨List.Perm.refl _,rfl⟩,⟨⟨rfl,⟨⟨rfl,rfl⟩,⟨rfl,rfl⟩,⟨rfl,rfl⟩,⟨rfl,rfl⟩,trivial⟩,rfl⟩,rfl⟩,⟨⟨rfl,⟨⟨rfl,rfl⟩,⟨rfl,rfl⟩,⟨rfl,rfl⟩,trivial⟩,rfl⟩,rfl⟩,⟨⟨rfl,rfl,rfl,rfl,rfl⟩,rfl⟩,⟨⟨rfl,rfl⟩,rfl⟩,⟨⟨rfl,⟨⟨rfl,rfl⟩,⟨rfl,rfl⟩,trivial⟩,rfl⟩,rfl⟩,⟨⟨rfl,⟨rfl,⟨rfl,rfl⟩,⟨rfl,rfl⟩,trivial⟩,rfl⟩,rfl⟩,⟨⟨rfl,rfl,λi hi=>⟨rfl,rfl⟩⟩,rfl⟩,trivial⟩,trivial,rfl,rfl,rfl,rfl⟩⟩
         have PZ:=hb i (by omega)
         have JE:∀x,x<2 ^ i→x ||| 2 ^ i<256:=λx hx=>by
          have h1:2 ^ i<2 ^ (i+1):=Nat.pow_lt_pow_right (by decide) (by omega)
          have h2:(2:Nat) ^ (i+1)≤2 ^ 8:=Nat.pow_le_pow_right (by decide) (by omega)
          have:=Nat.or_lt_two_pow (n:=i+1) (x:=x) (y:=2 ^ i) (by omega) h1
          omega
         refine cU (g.ok _ _ _) bP [0,0,0,0,0,16,48,112,252,0,512,0,2048,0,14844,0,32768,0,260604,0,524288,0,4192764,8388604,16777215] [] 24 (by kernel_rfl) ?_
         refine aa.mk (show okB ka∧okB kb∧okB kc∧okB (sp i).1∧okB (sp i).2∧okB lo∧okB hi from ?_) ?_
         ·unfold okB;omega
         refine aa.mk (show(0:Int)≤(fl:Int)∧(fl:Int)≤1000000∧(0:Int)≤(i:Int)∧(i:Int)≤40 by omega) ?_
         refine aa.mk (show(0:Int)≤(fe:Int)∧(fe:Int)≤1000000∧(0:Int)≤(i:Int)∧(i:Int)≤40 by omega) ?_
         refine aa.mk (show(0:Int)≤(fs:Int)∧(fs:Int)≤1000000∧(0:Int)≤(i:Int)∧(i:Int)≤40 by omega) ?_
         refine av (g.ok _ _ _) aj rfl rfl rfl rfl ?_
         refine⟨MN,DM g.ok Tryz.func139 (c:=code Tryz.f139) rfl (Nat.le_of_ble_eq_true rfl) (.bn []) ((4,.mp (dT dB dv (dO (dO M ⟨ka,kb,kc⟩ ⟨fm,fl,fe,fs⟩) (lN (lo,hi) (sp i) ⟨ka,kb,kc⟩) (kG i ⟨fm,fl,fe,fs⟩))))::(7,.cells 199 (gQ ⟨fm,fl,fe,fs⟩))::(6,.cells 231 [.si .i64 ka,.si .i64 kb,.si .i64 kc])::(5,.it 2 clock (List.map (λx:(Lg × Fd) × Nat=>x.2) (aN++[((⟨ka,kb,kc⟩,⟨fm,fl,fe,fs⟩),b)])) clock)::(2,.map (kd dB dv ts) clock)::(3,.cells 36 (iw (sp i)))::xg n lo hi sp) 104 (λG1 Pb=>?_) ?_⟩
         ·refine mR dB dv (dO M ⟨ka,kb,kc⟩ ⟨fm,fl,fe,fs⟩) (lN (lo,hi) (sp i) ⟨ka,kb,kc⟩) 4 (g.ok _ _ _) aj rfl rfl rfl rfl rfl rfl rfl rfl rfl mM mL rfl rfl rfl ?_
          intro X7
          refine⟨?_,λho=>?_⟩
          ·rintro⟨om,ol,oe,os⟩ ho
           have IZ:=EA _ (wW ho)
           refine Br.mk (λ_=>?_) (λh=>by cases h)
           refine aa.mk ⟨?_,by decide,?_⟩ ?_
           ·intro q hq
            rcases(show q=0∨q=1 by omega) with rfl|rfl<;>rfl
           ·intro q hq
            rcases(show q=0∨q=1 by omega) with rfl|rfl
            ·show om≤1000000∧ol<256∧oe<256∧os<256
             simp only at IZ;omega
            ·show fm≤1000000∧(fl ||| 2 ^ i)<256∧(fe ||| 2 ^ i)<256∧(fs ||| 2 ^ i)<256
             exact⟨by omega,JE _ EQ.1.1,JE _ EQ.1.2.1,JE _ EQ.1.2.2⟩
           refine mS dB dv (dO M ⟨ka,kb,kc⟩ ⟨fm,fl,fe,fs⟩) (lN (lo,hi) (sp i) ⟨ka,kb,kc⟩) (join ⟨om,ol,oe,os⟩ (kG i ⟨fm,fl,fe,fs⟩)) (dO (dO M ⟨ka,kb,kc⟩ ⟨fm,fl,fe,fs⟩) (lN (lo,hi) (sp i) ⟨ka,kb,kc⟩) (kG i ⟨fm,fl,fe,fs⟩)) (R3 ho) 4 (g.ok _ _ _) aj rfl (.inl rfl) rfl rfl rfl rfl mM mL rfl rfl rfl rfl ?_
           intro _
           exact⟨λj=>j,⟨⟨⟨List.Perm.refl _,rfl⟩,⟨⟨rfl,⟨⟨rfl,rfl⟩,⟨rfl,rfl⟩,⟨rfl,rfl⟩,⟨rfl,rfl⟩,trivial⟩,rfl⟩,rfl⟩,⟨⟨rfl,⟨⟨rfl,rfl⟩,⟨rfl,rfl⟩,⟨rfl,rfl⟩,trivial⟩,rfl⟩,rfl⟩,⟨⟨rfl,rfl,rfl,rfl,rfl⟩,rfl⟩,⟨⟨rfl,rfl⟩,rfl⟩,⟨⟨rfl,⟨⟨rfl,rfl⟩,⟨rfl,rfl⟩,trivial⟩,rfl⟩,rfl⟩,⟨⟨rfl,⟨rfl,⟨rfl,rfl⟩,⟨rfl,rfl⟩,trivial⟩,rfl⟩,rfl⟩,⟨⟨rfl,rfl,λi hi=>⟨rfl,rfl⟩⟩,rfl⟩,trivial⟩,trivial,rfl,rfl,rfl,rfl⟩⟩
          ·refine Br.mk (λh=>by cases h) (λ_=>?_)
           refine mS dB dv (dO M ⟨ka,kb,kc⟩ ⟨fm,fl,fe,fs⟩) (lN (lo,hi) (sp i) ⟨ka,kb,kc⟩) (kG i ⟨fm,fl,fe,fs⟩) (dO (dO M ⟨ka,kb,kc⟩ ⟨fm,fl,fe,fs⟩) (lN (lo,hi) (sp i) ⟨ka,kb,kc⟩) (kG i ⟨fm,fl,fe,fs⟩)) (R2 ho) 4 (g.ok _ _ _) aj rfl (.inl rfl) rfl rfl rfl rfl mM mL rfl rfl rfl rfl ?_
           intro _
           exact⟨λj=>j,⟨⟨⟨List.Perm.refl _,rfl⟩,⟨⟨rfl,⟨⟨rfl,rfl⟩,⟨rfl,rfl⟩,⟨rfl,rfl⟩,⟨rfl,rfl⟩,trivial⟩,rfl⟩,rfl⟩,⟨⟨rfl,⟨⟨rfl,rfl⟩,⟨rfl,rfl⟩,⟨rfl,rfl⟩,trivial⟩,rfl⟩,rfl⟩,⟨⟨rfl,rfl,rfl,rfl,rfl⟩,rfl⟩,⟨⟨rfl,rfl⟩,rfl⟩,⟨⟨rfl,⟨⟨rfl,rfl⟩,⟨rfl,rfl⟩,trivial⟩,rfl⟩,rfl⟩,⟨⟨rfl,⟨rfl,⟨rfl,rfl⟩,⟨rfl,rfl⟩,trivial⟩,rfl⟩,rfl⟩,⟨⟨rfl,rfl,λi hi=>⟨rfl,rfl⟩⟩,rfl⟩,trivial⟩,trivial,rfl,rfl,rfl,rfl⟩⟩
         refine⟨⟨(aN++[((⟨ka,kb,kc⟩,⟨fm,fl,fe,fs⟩),b)],iY),?_⟩,?_,?_⟩
         ·rw[List.append_assoc]
          exact hp.trans (List.Perm.append_left _ lD)
         ·refine⟨?_,?_,rfl,rfl,rfl⟩
          ·exact Q2
          ·refine⟨⟨rfl,?_,rfl⟩,⟨rfl,trivial,rfl⟩,⟨?_,trivial,rfl⟩,⟨⟨rfl,⟨rfl,rfl⟩,⟨rfl,rfl⟩,trivial⟩,rfl,rfl⟩,⟨⟨rfl,rfl,⟨rfl,rfl⟩,⟨rfl,rfl⟩,trivial⟩,rfl,rfl⟩,⟨rfl,λi hi=>rfl,rfl⟩,trivial⟩
           ·show(2:Nat)<6
            decide
           ·show HB.mp (dT dB dv (dO (dO M ⟨ka,kb,kc⟩ ⟨fm,fl,fe,fs⟩) (lN (lo,hi) (sp i) ⟨ka,kb,kc⟩) (kG i ⟨fm,fl,fe,fs⟩)))=HB.mp (dT dB dv (group ((List.map (λx:(Lg × Fd) × Nat=>x.1) (aN++[((⟨ka,kb,kc⟩,⟨fm,fl,fe,fs⟩),b)])).flatMap (eH (lo,hi) (sp i) i))))
            rw[List.map_append,List.flatMap_append]
            have e1:∀(A:List (Lg × Fd)),group (A++(eH (lo,hi) (sp i) i ((⟨ka,kb,kc⟩,⟨fm,fl,fe,fs⟩):Lg × Fd)))=dO (dO (group A) ⟨ka,kb,kc⟩ ⟨fm,fl,fe,fs⟩) (lN (lo,hi) (sp i) ⟨ka,kb,kc⟩) (kG i ⟨fm,fl,fe,fs⟩):=λA=>by
             rw[show A++(eH (lo,hi) (sp i) i ((⟨ka,kb,kc⟩,⟨fm,fl,fe,fs⟩):Lg × Fd))=(A++[(⟨ka,kb,kc⟩,⟨fm,fl,fe,fs⟩)])++[(lN (lo,hi) (sp i) ⟨ka,kb,kc⟩,kG i ⟨fm,fl,fe,fs⟩)] by simp[eH]]
             rw[Es,Es]
            have e2:=e1 ((aN.map (·.1)).flatMap (eH (lo,hi) (sp i) i))
            rw[hM] at e2
            rw[←e2]
            simp
         ·show iY.length<rest.length
          rw[lD.length_eq];simp
     ·have h:¬(i:Int)<(n:Int):=of_decide_eq_false h
      have wC:i=n:=by omega
      subst wC
      refine Wz dB dv m kI 2 (g.ok _ _ _) aj rfl rfl rfl rfl rfl rfl rfl rfl rfl mM mL rfl rfl rfl ?_
      intro _
      exact⟨.inl rfl,⟨rfl,rfl,⟨rfl,VW hm,trivial⟩,⟨⟨rfl,rfl,⟨rfl,rfl⟩,⟨rfl,rfl⟩,trivial⟩,trivial,trivial⟩,rfl,rfl⟩⟩
   ·cases h
  ·cases h
 ·cases h
theorem v5 {l:List (Nat × Ct)}(g:Good P T l):Good P T ((132,lV)::l):=g.add B7 Ho (aw Tryz.func132 (c:=code Tryz.f132) rfl (by decide))
def ou (t:Nat)(w:Span)(k:Lg):Bool:=if t=73 then aa8 w (k.lo,k.hi,k.many) else Fe w (k.lo,k.hi,k.many)
def kM (ay:Span)(n:Nat)(sp:Nat→Span)(p:Lg→Bool):List Fd:=((qE ay n sp).filter λe=>p e.1).map (·.2)
def kH:Fd:=⟨0,0,0,0⟩
def z7:Ct:=λfr args H =>
 match args with
 |[.sp bI 0,.cg t (.agg [.si .i64 a,.si .i64 b])]=>(match H bI with
  |some (.cells 223 [.sl id,.si .i64 lo,.si .i64 hi])=>(match cn 2 H id with
   |some (n,get)=>some ⟨some (t=206∧oK n get∧y8 (jG n get) lo hi),none,
     .bn [dv ((J (kM (lo,hi) n (gL get) (ou t (a,b)))).getD kH),.sb (decide (0<(kM (lo,hi) n (gL get) (ou t (a,b))).length))],[]⟩
   |none=>none)
  |_=>none)
 |_=>none
theorem Va:cY z7:=by
 intro fr args H H' out hH h
 unfold z7 at h ⊢
 split at h
 ·split at h
  ·rename_i e1
   rw[hH _ _ e1]
   split at h
   ·rename_i e
    simp only[fk hH e]
    exact h
   ·cases h
  ·cases h
 ·cases h
def gd (p:Lg→Bool)(aN:List ((Lg × Fd) × Nat)):List Fd:=((aN.map (·.1)).filter λe=>p e.1).map (·.2)
theorem abY (m:List (Lg × Fd))(k:Lg)(f:Fd):(dO m k f).length≤m.length+1:=by
 have aq:∀(m:List (Lg × Fd)) k v,(bN m k v).length≤m.length+1:=by
  intro m k v
  induction m with
  |nil=>simp[bN]
  |cons q r ih =>
   simp only[bN]
   split
   ·simp
   ·simp only[List.length_cons];omega
 exact aq _ _ _
theorem XR (S:List (Lg × Fd)):(group S).length≤S.length:=by
 have key:∀(S m:List (Lg × Fd)),(S.foldl (λm p=>dO m p.1 p.2) m).length≤m.length+S.length:=by
  intro S
  induction S with
  |nil=>intro m;exact Nat.le_refl _
  |cons p r ih =>
   intro m
   have:=abY m p.1 p.2
   have h2:=ih (dO m p.1 p.2)
   simp only[List.foldl_cons,List.length_cons] at h2 ⊢
   omega
 have:=key S []
 simp only[List.length_nil,Nat.zero_add] at this
 exact this
theorem F4 {n:Nat}(h:n≤8):2 ^ n≤256:=Nat.le_trans (Nat.pow_le_pow_right (by decide) h) (by decide)
theorem QQ {ay:Span}{n:Nat}{sp:Nat→Span}(h:n≤8):(qE ay n sp).length≤256 :=
 Nat.le_trans (XR _) (Nat.le_trans (List.length_filter_le _ _) ((yQ ay sp n).2.2 ▸ F4 h))
theorem aaO {ay:Span}{n:Nat}{sp:Nat→Span}(h:n≤8):∀p∈qE ay n sp,okF p.2:=by
 intro p hp
 have h1:=Ep (λf=>f.least<256∧f.each<256∧f.some<256) (λf x hf hx=>by
  refine⟨?_,Nat.lt_of_le_of_lt Nat.and_le_left hf.2.1,Nat.or_lt_two_pow (n:=8) hf.2.2 hx.2.2⟩
  simp only[join]
  split
  ·exact hx.1
  ·exact hf.1) (S:=(hQ ay sp n).filter λp=>decide (p.1≠kI)) (λq hq=>by
   have:=(yQ ay sp n).1 q (List.mem_filter.1 hq).1
   have h8:=F4 h
   omega) p hp
 have h2:p.2.many≤ez (qE ay n sp):=LD hp
 rw[qE,LC] at h2
 have h3:ez ((hQ ay sp n).filter λp=>decide (p.1≠kI))≤ez (hQ ay sp n):=by
  generalize hQ ay sp n=S
  induction S with
  |nil=>exact Nat.le_refl _
  |cons q r ih =>
   rw[List.filter_cons]
   split<;>simp only[ez,List.map_cons,List.sum_cons] at ih ⊢<;>omega
 rw[(yQ ay sp n).2.1] at h3
 have h8:=F4 h
 exact⟨by omega,h1⟩
theorem Sw (p:Lg→Bool)(aN:List ((Lg × Fd) × Nat)):(gd p aN).length≤aN.length:=by
 simp only[gd,List.length_map]
 exact Nat.le_trans (List.length_filter_le _ _) (by simp)
theorem acO {p:Lg→Bool}{aN:List ((Lg × Fd) × Nat)}{x:Fd}(h:x∈gd p aN):∃q∈aN,x=q.1.2:=by
 simp only[gd,List.mem_map,List.mem_filter] at h
 obtain⟨a,⟨⟨q,hq,rfl⟩,_⟩,rfl⟩:=h
 exact⟨q,hq,rfl⟩
theorem acP {ay:Span}{n:Nat}{sp:Nat→Span}{p:Lg→Bool}{ts aN:List ((Lg × Fd) × Nat)}(h:(ts.map λx=>x.1).Perm (qE ay n sp))(hv:ts.Perm aN):(gd p aN).Perm (kM ay n sp p):=by
 refine List.Perm.map _ (List.Perm.filter _ ?_)
 exact((hv.map _).symm.trans h)
theorem ab1 (l:List Fd)(z:Fd):(List.range l.length).map (λi=>l.getD i z)=l:=by
 apply List.ext_getElem
 ·simp
 ·intro i h1 h2
  simp[List.getElem_map,List.getElem_range,List.getD_eq_getElem?_getD,List.getElem?_eq_getElem h2]
theorem acQ {ay:Span}{n:Nat}{sp:Nat→Span}{p:Lg→Bool}{L:List Fd}(h:L.Perm (kM ay n sp p)):jn (foundAt (λi=>gQ (L.getD i kH))) L.length=(J (kM ay n sp p)).getD kH:=by
 rw[show foundAt (λi=>gQ (L.getD i kH))=λi=>L.getD i kH from funext λi=>OB _ i,QA,ab1,GU h]
 rfl
theorem Dx:Body P 125:=aw Tryz.func125 (c:=code Tryz.f125) rfl (by decide)
theorem UB:Body P 131:=aw Tryz.func131 (c:=code Tryz.f131) rfl (by decide)
theorem aao {t de : Nat} (ht : t = 206 ∧ de = 166) : qW P t "blockworks/stack.is" de ∧ Body P de ∧ ∀ (a b ka kb kc : Int) (H : List (Nat × HB)) (nx : Nat) (Rv : SV → List (Nat × HB) → Nat → Prop) (Rp : List PanicEntry → List (Nat × HB) → Nat → Prop),
  Rv (.sb (ou t (a,b) ⟨ka,kb,kc⟩)) H (nx+4)→bG P de [.agg [.si .i64 a,.si .i64 b],.agg [.si .i64 ka,.si .i64 kb,.si .i64 kc]] H nx Rv Rp:=by
 obtain⟨rfl,rfl⟩:=ht
 exact⟨m74,Hb,λa b ka kb kc H nx Rv Rp h=>oU (Kl ah) (out:=⟨none,none,.sb (Fe (a,b) (ka,kb,kc)),[]⟩) rfl trivial (λ_=>h) (λch h=>by cases h)⟩
theorem k50:aP P 118 z7:=by
 have g:=v5 (yn ah)
 refine Aj (C:=aC _) g.ok Tryz.func118 (c:=code Tryz.f118) rfl λfr args H out h hp=>?_
 unfold z7 at h
 split at h
 ·rename_i bI t a b
  split at h
  ·rename_i id lo hi e1
   split at h
   ·rename_i n get e
    cases h
    obtain⟨ht,hs,ap⟩:t=206∧oK n get∧y8 (jG n get) lo hi:=hp
    obtain⟨de,YD⟩:∃de,t=206∧de=166:=⟨_,ht,rfl⟩
    obtain⟨Y0,sR,gr⟩:=aao YD
    have hh:=SC e1 e hs
    refine⟨oA bI id n lo hi (gL get),[.sp 0 0,.cg t (.agg [.si .i64 a,.si .i64 b])],xg n lo hi (gL get),2,[],rfl,rfl,Nat.le_of_ble_eq_true rfl,hh,rfl,rfl,λG hG=>?_⟩
    have P0:oK n (λi=>iw (gL get i)):=Ln _ _
    have s9:y8 (jG n (λi=>iw (gL get i))) lo hi:=ap
    generalize gL get=sp at P0 s9 ⊢
    refine av (g.ok _ _ _) aj rfl rfl rfl rfl ?_
    refine⟨Dx,cT g.ok Tryz.func125 (c:=code Tryz.f125) rfl (Nat.le_of_ble_eq_true rfl) λG1 Pb=>?_⟩
    refine lK (g.ok _ _ _) rfl rfl rfl UB ?_
    intro fn
    refine cT g.ok Tryz.func131 (c:=code Tryz.f131) rfl (Nat.le_of_ble_eq_true rfl) λG2 b_=>?_
    refine aa.mk ⟨P0,s9⟩ ?_
    refine Ed dB dv (qE (lo,hi) n sp) 8 (g.ok _ _ _) aj rfl rfl rfl rfl rfl rfl rfl mM mL rfl rfl ?_
    intro lA ts clock mn
    refine abj 3 226 199 4 (λi=>gQ kH) rfl ?_
    obtain⟨p,yE⟩:∃p:Lg→Bool,ou t (a,b)=p:=⟨_,rfl⟩
    refine cm (g.ok _ _ _) 8 (λx:{p:List ((Lg × Fd) × Nat) × List ((Lg × Fd) × Nat) // ts.Perm (p.1++p.2)}=>⟨[(0,⟨[],.fy 7⟩),(1,⟨[],.sp 4 0⟩),(2,⟨[],.sp 5 0⟩),(8,⟨[],.sp 12 0⟩)],[],
     (12,.it 8 clock (x.1.1.map (·.2)) clock)::(8,.map (kd dB dv ts) clock)::(3,.cells 226 [.sl 13])::(13,.vec 199 4 (gd p x.1.1).length (λi=>gQ ((gd p x.1.1).getD i kH))) ::
      (7,.loop [(6,.sp 3 0)] Tryz.f118.ntmps fn [12,13] (u9 (code Tryz.f118)) (u_ (code Tryz.f118)) 6 .ready none)::(6,.eh)::(5,.cells 225 [.cg t (.agg [.si .i64 a,.si .i64 b])])::(4,.cells 201 [.sp 0 0])::(2,.cells 199 (gQ kH))::xg n lo hi sp,14,[]⟩)
     (λx=>x.1.2.length) b_ ⟨([],ts),by simp⟩ (λj=>j) ?_ ?_
    ·refine⟨?_,?_,rfl,rfl,rfl,rfl,trivial⟩
     ·exact Q2
     ·refine⟨⟨⟨rfl,rfl,rfl,rfl,rfl⟩,rfl⟩,⟨⟨rfl,rfl⟩,rfl⟩,⟨⟨rfl,⟨rfl,trivial⟩,rfl⟩,rfl⟩,⟨⟨rfl,rfl,rfl,λi hi=>absurd hi (Nat.not_lt_zero _)⟩,rfl⟩,⟨⟨rfl,rfl,rfl,rfl,rfl,rfl,rfl,rfl,rfl,?_⟩,rfl⟩,⟨trivial,rfl⟩,⟨⟨rfl,⟨rfl,trivial⟩,rfl⟩,rfl⟩,⟨⟨rfl,⟨⟨rfl,rfl⟩,trivial⟩,rfl⟩,rfl⟩,⟨⟨rfl,⟨⟨rfl,rfl⟩,⟨rfl,rfl⟩,⟨rfl,rfl⟩,⟨rfl,rfl⟩,trivial⟩,rfl⟩,rfl⟩,⟨⟨rfl,⟨rfl,⟨rfl,rfl⟩,⟨rfl,rfl⟩,trivial⟩,rfl⟩,rfl⟩,⟨⟨rfl,rfl,λi hi=>⟨rfl,rfl⟩⟩,rfl⟩,trivial⟩
      intro t' v hv
      simp only[gq] at hv
      split at hv
      ·rename_i e6
       have h6:6=t':=by simpa using e6
       subst h6
       cases hv
       exact⟨rfl,rfl⟩
      ·cases hv
    ·rintro⟨⟨aN,rest⟩,hp⟩
     refine Ec dB dv 8 12 clock ts aN rest (g.ok _ _ _) aj rfl rfl rfl rfl rfl mM mL rfl rfl rfl hp ⟨λhr=>?_,?_⟩
     ·replace hr:rest=[]:=hr
      subst hr
      have hv:ts.Perm aN:=by simpa using hp
      have pC:=acP (p:=p) mn hv
      have ly:(gd p aN).length≤256:=Nat.le_trans (Sw p aN) (by
       have:=mn.length_eq
       rw[List.length_map,hv.length_eq] at this
       rw[this]
       exact QQ (by have:=s9.1;simpa [jG] using this))
      refine Br.mk (λh=>by cases h) (λ_=>?_)
      refine cU (g.ok _ _ _) bP [0,1,0,4,12,3,63] [(5,2)] 7 (by kernel_rfl) ?_
      refine aa.mk ⟨W2 _ _,by show(gd p aN).length≤1000;omega,λi hi=>?_⟩ ?_
      ·rw[OB (λi=>(gd p aN).getD i kH)]
       have hi:i<(gd p aN).length:=hi
       rw[List.getD_eq_getElem?_getD,List.getElem?_eq_getElem hi]
       obtain⟨q,hq,e⟩:=acO (List.getElem_mem hi)
       simp only[Option.getD_some]
       rw[e]
       have h8:n≤8:=by have:=s9.1;simpa [jG] using this
       exact aaO h8 _ (mn.mem_iff.1 (List.mem_map_of_mem (hv.mem_iff.2 hq)))
      have hj:=acQ pC
      refine⟨.inl rfl,⟨?_,rfl,trivial,⟨⟨rfl,rfl,⟨rfl,rfl⟩,⟨rfl,rfl⟩,trivial⟩,trivial,trivial⟩,rfl,rfl⟩⟩
      ·show eY (.bn [dv (jn (foundAt (λi=>gQ ((gd p aN).getD i kH))) (gd p aN).length),.sb (decide ((0:Int)<((gd p aN).length:Int)))]) (.bn [dv ((J (kM (lo,hi) n sp (ou t (a,b)))).getD kH),.sb (decide (0<(kM (lo,hi) n sp (ou t (a,b))).length))])
       rw[yE,hj,pC.length_eq]
       refine⟨⟨⟨rfl,rfl⟩,⟨rfl,rfl⟩,⟨rfl,rfl⟩,⟨rfl,rfl⟩,trivial⟩,?_,trivial⟩
       refine decide_eq_decide.2 ?_
       omega
     ·rintro⟨⟨⟨ka,kb,kc⟩,⟨fm,fl,fe,fs⟩⟩,b'⟩ iY lD
      refine Br.mk (λ_=>?_) (λh=>by cases h)
      refine Eb dB dv 8 12 clock ts aN ⟨⟨⟨ka,kb,kc⟩,⟨fm,fl,fe,fs⟩⟩,b'⟩ (g.ok _ _ _) aj rfl rfl rfl rfl rfl mM mL rfl rfl rfl ?_ ?_
      ·refine hp.mem_iff.2 (List.mem_append_right _ (lD.mem_iff.2 List.mem_cons_self))
      ·refine qk de (g.ok _ _ _) aj rfl rfl rfl rfl rfl rfl rfl Y0 sR ?_
       refine gr a b ka kb kc _ _ _ _ ?_
       rw[yE]
       have wL:gd p (aN++[(((⟨ka,kb,kc⟩:Lg),(⟨fm,fl,fe,fs⟩:Fd)),b')])=if p ⟨ka,kb,kc⟩=true then gd p aN++[⟨fm,fl,fe,fs⟩] else gd p aN:=by
        simp only[gd,List.map_append,List.filter_append,List.map_cons,List.map_nil,List.filter_cons,List.filter_nil]
        split<;>simp
       have jy:ts.Perm ((aN++[(((⟨ka,kb,kc⟩:Lg),(⟨fm,fl,fe,fs⟩:Fd)),b')])++iY):=by
        rw[List.append_assoc]
        exact hp.trans (List.Perm.append_left _ lD)
       have PG:iY.length<rest.length:=by rw[lD.length_eq];simp
       refine Br.mk (λh=>?_) (λh=>?_)
       ·have h:p ⟨ka,kb,kc⟩=false:=by simpa using h
        rw[h] at wL
        refine⟨⟨(aN++[(((⟨ka,kb,kc⟩:Lg),(⟨fm,fl,fe,fs⟩:Fd)),b')],iY),jy⟩,(λj=>j),?_,PG⟩
        simp only[Bool.false_eq_true,if_false] at wL
        refine⟨?_,?_,rfl,rfl,rfl,rfl,trivial⟩
        ·exact Q2
        ·refine⟨⟨⟨rfl,rfl,rfl,rfl,rfl⟩,rfl⟩,⟨⟨rfl,rfl⟩,rfl⟩,⟨⟨rfl,⟨rfl,trivial⟩,rfl⟩,rfl⟩,⟨⟨rfl,rfl,?_,?_⟩,rfl⟩,⟨⟨rfl,rfl,rfl,rfl,rfl,rfl,rfl,rfl,rfl,?_⟩,rfl⟩,⟨trivial,rfl⟩,⟨⟨rfl,⟨rfl,trivial⟩,rfl⟩,rfl⟩,⟨⟨rfl,⟨⟨rfl,rfl⟩,trivial⟩,rfl⟩,rfl⟩,⟨⟨rfl,⟨⟨rfl,rfl⟩,⟨rfl,rfl⟩,⟨rfl,rfl⟩,⟨rfl,rfl⟩,trivial⟩,rfl⟩,rfl⟩,⟨⟨rfl,⟨rfl,⟨rfl,rfl⟩,⟨rfl,rfl⟩,trivial⟩,rfl⟩,rfl⟩,⟨⟨rfl,rfl,λi hi=>⟨rfl,rfl⟩⟩,rfl⟩,trivial⟩
         ·show(gd p aN).length=(gd p (aN++[(((⟨ka,kb,kc⟩:Lg),(⟨fm,fl,fe,fs⟩:Fd)),b')])).length
          rw[wL]
         ·intro i hi
          show gQ ((gd p aN).getD i kH)=cX (λj=>j) (gQ ((gd p (aN++[(((⟨ka,kb,kc⟩:Lg),(⟨fm,fl,fe,fs⟩:Fd)),b')])).getD i kH))∧_
          rw[wL]
          exact⟨rfl,rfl⟩
         ·intro t' v hv
          simp only[gq] at hv
          split at hv
          ·rename_i e6
           have h6:6=t':=by simpa using e6
           subst h6
           cases hv
           exact⟨rfl,rfl⟩
          ·cases hv
       ·have h:p ⟨ka,kb,kc⟩=true:=by simpa using h
        rw[if_pos h] at wL
        refine vT 7 g.ok (g.ok _ _ _) aj rfl rfl rfl rfl rfl rfl rfl rfl rfl (by decide) ?_
        intro G3 r pc
        refine mQ (Te:=0) 13 21 (gd p aN).length 1 _ _ (λi=>gQ ((gd p aN++[(⟨fm,fl,fe,fs⟩:Fd)]).getD i kH)) (g.ok _ _ _) aj rfl rfl rfl rfl rfl rfl rfl rfl rfl rfl rfl rfl (by decide) (by decide) rfl rfl rfl rfl ?_ ?_ ?_
        ·have h1:=Sw p aN
         have h2:aN.length≤ts.length:=by rw[hp.length_eq];simp
         have h3:ts.length≤256:=by
          have:=mn.length_eq
          rw[List.length_map] at this
          rw[this]
          exact QQ (by have:=s9.1;simpa [jG] using this)
         omega
        ·intro i hi
         show gQ _=_
         rw[List.getD_eq_getElem?_getD,List.getElem?_append]
         split
         ·rw[List.getD_eq_getElem?_getD]
         ·rename_i h'
          have:i-(gd p aN).length=0:=by omega
          rw[this]
          rfl
        ·refine Br.mk (λh=>by cases h) (λ_=>?_)
         refine⟨⟨(aN++[(((⟨ka,kb,kc⟩:Lg),(⟨fm,fl,fe,fs⟩:Fd)),b')],iY),jy⟩,(λj=>if j=13 then 22 else j),?_,PG⟩
         refine⟨?_,?_,rfl,rfl,rfl,rfl,trivial⟩
         ·exact Q2
         ·refine⟨⟨⟨rfl,rfl,rfl,rfl,rfl⟩,rfl⟩,⟨⟨rfl,rfl⟩,rfl⟩,⟨⟨rfl,⟨rfl,trivial⟩,rfl⟩,rfl⟩,⟨⟨rfl,rfl,?_,?_⟩,rfl⟩,⟨⟨rfl,rfl,rfl,rfl,rfl,rfl,rfl,rfl,rfl,?_⟩,rfl⟩,⟨trivial,rfl⟩,⟨⟨rfl,⟨rfl,trivial⟩,rfl⟩,rfl⟩,⟨⟨rfl,⟨⟨rfl,rfl⟩,trivial⟩,rfl⟩,rfl⟩,⟨⟨rfl,⟨⟨rfl,rfl⟩,⟨rfl,rfl⟩,⟨rfl,rfl⟩,⟨rfl,rfl⟩,trivial⟩,rfl⟩,rfl⟩,⟨⟨rfl,⟨rfl,⟨rfl,rfl⟩,⟨rfl,rfl⟩,trivial⟩,rfl⟩,rfl⟩,⟨⟨rfl,rfl,λi hi=>⟨rfl,rfl⟩⟩,rfl⟩,trivial⟩
          ·show(gd p aN).length+1=(gd p (aN++[(((⟨ka,kb,kc⟩:Lg),(⟨fm,fl,fe,fs⟩:Fd)),b')])).length
           rw[wL,List.length_append]
           rfl
          ·intro i hi
           show gQ _=cX _ (gQ ((gd p (aN++[(((⟨ka,kb,kc⟩:Lg),(⟨fm,fl,fe,fs⟩:Fd)),b')])).getD i kH))∧_
           rw[wL]
           exact⟨rfl,rfl⟩
          ·intro t' v hv
           simp only[gq] at hv
           split at hv
           ·rename_i e6
            have h6:6=t':=by simpa using e6
            subst h6
            cases hv
            exact⟨rfl,rfl⟩
           ·cases hv
   ·cases h
  ·cases h
 ·cases h
theorem Xr {l:List (Nat × Ct)}(g:Good P T l):Good P T ((118,z7)::l):=g.add k50 Va (aw Tryz.func118 (c:=code Tryz.f118) rfl (by decide))
def one (x:Nat):Fd:=⟨1,x,x,x⟩
def kr (ay:Span)(sp:Nat→Span)(n x:Nat):Lg:=⟨wS (λi=>(sp i).1) ay.1 x n,wS (λi=>(sp i).2) ay.2 x n,(dz x n:Int)⟩
theorem LP {f:Nat→Int}{ay:Int}{x y:Nat}:∀n,(∀i,i<n→x.testBit i=y.testBit i)→wS f ay x n=wS f ay y n∧dz x n=dz y n
 |0,_=>⟨rfl,rfl⟩
 |n+1,h=>by
  obtain⟨h1,h2⟩:=LP (f:=f) (ay:=ay) n (λi hi=>h i (by omega))
  simp only[wS,dz,h1,h2,h n (by omega),and_self]
theorem aay {ay:Span}{sp:Nat→Span}{n x:Nat}(h:x<2 ^ n):kr ay sp (n+1) x=kr ay sp n x:=by
 have hb:x.testBit n=false:=Nat.testBit_lt_two_pow h
 simp only[kr,wS,dz,hb,if_false,Bool.false_eq_true,Nat.add_zero]
theorem aax {ay:Span}{sp:Nat→Span}{n x:Nat}(h:x<2 ^ n):kr ay sp (n+1) (x ||| 2 ^ n)=lN ay (sp n) (kr ay sp n x):=by
 have hb:(x ||| 2 ^ n).testBit n=true:=by simp[Nat.testBit_or,Nat.testBit_two_pow_self]
 have hl:∀i,i<n→(x ||| 2 ^ n).testBit i=x.testBit i:=λi hi=>by
  rw[Nat.testBit_or,Nat.testBit_two_pow_of_ne (by omega)];simp
 have h1:=LP (f:=λi=>(sp i).1) (ay:=ay.1) n hl
 have h2:=LP (f:=λi=>(sp i).2) (ay:=ay.2) n hl
 simp only[kr,wS,dz,hb,if_true,h1.1,h1.2,h2.1,lN]
 have e:(0<dz x n)=(0<(dz x n:Int)):=by apply propext;omega
 simp only[e]
 congr 1
theorem ab0 (n:Nat):List.range (2 ^ (n+1))=List.range (2 ^ n)++(List.range (2 ^ n)).map (λx=>x ||| 2 ^ n):=by
 rw[show 2 ^ (n+1)=2 ^ n+2 ^ n by rw[Nat.pow_succ];omega,List.range_add]
 congr 1
 refine List.map_congr_left λx hx=>?_
 rw[KP (List.mem_range.1 hx)];omega
theorem Oq {α β:Type}(f g:α→β):∀l:List α,(l.flatMap λp=>[f p,g p]).Perm (l.map f++l.map g)
 |[]=>List.Perm.refl _
 |a::l=>by
  have ih:=Oq f g l
  simp only[List.flatMap_cons,List.map_cons,List.cons_append,List.nil_append]
  refine List.Perm.cons _ ?_
  exact(List.Perm.cons _ ih).trans List.perm_middle.symm
theorem QV (ay:Span)(sp:Nat→Span):∀n,(hQ ay sp n).Perm ((List.range (2 ^ n)).map λx=>(kr ay sp n x,one x))
 |0=>by
  refine .of_eq ?_
  simp[hQ,kr,wS,dz,kI,one]
 |n+1=>by
  have ih:=QV ay sp n
  simp only[hQ]
  refine(ih.flatMap_right _).trans ?_
  rw[ab0,List.map_append,List.map_map]
  refine(Oq (λp:Lg × Fd=>p) (λp:Lg × Fd=>(lN ay (sp n) p.1,kG n p.2)) _).trans (.of_eq ?_)
  rw[List.map_map,List.map_map]
  congr 1
  ·refine List.map_congr_left λx hx=>?_
   simp only[Function.comp,aay (List.mem_range.1 hx)]
  ·refine List.map_congr_left λx hx=>?_
   simp only[Function.comp,aax (List.mem_range.1 hx)]
   rfl
theorem Fj (o:Option Fd)(x:Fd):jo o x=jj o (some x):=by cases o<;>rfl
theorem L8 (p:Lg→Bool)(k:Lg)(f:Fd):∀m:List (Lg × Fd),J (((dO m k f).filter λe=>p e.1).map (·.2))=if p k=true then jo (J ((m.filter λe=>p e.1).map (·.2))) f else J ((m.filter λe=>p e.1).map (·.2))
 |[]=>by
  simp only[dO,br,bN,List.filter_cons,List.filter_nil]
  split<;>rfl
 |(k',v)::m=>by
  have ih:=L8 p k f m
  by_cases hk:k'=k
  ·subst hk
   simp only[dO,br,bN,if_true,List.filter_cons]
   cases hp:p k' with
   |false=>simp
   |true =>
    simp only[if_true,List.map_cons,qV,Fj]
    rw[show(some (join v f))=jj (some v) (some f) from rfl,m7,Fi (some f),m7]
  ·have e:dO ((k',v)::m) k f=(k',v)::dO m k f:=by
    simp only[dO,br,bN,if_neg hk]
   rw[e]
   simp only[List.filter_cons]
   cases hp:p k' with
   |false=>simpa [hp] using ih
   |true =>
    simp only[if_true,List.map_cons,qV,ih]
    split
    ·rw[Fj,Fj,m7]
    ·rfl
theorem TO (p:Lg→Bool)(S:List (Lg × Fd)):J (((group S).filter λe=>p e.1).map (·.2))=J ((S.filter λe=>p e.1).map (·.2)):=by
 have key:∀(S m:List (Lg × Fd)),J (((S.foldl (λm p=>dO m p.1 p.2) m).filter λe=>p e.1).map (·.2))=jj (J ((m.filter λe=>p e.1).map (·.2))) (J ((S.filter λe=>p e.1).map (·.2))):=by
  intro S
  induction S with
  |nil=>intro m;rfl
  |cons q r ih =>
   intro m
   simp only[List.foldl_cons]
   rw[ih,L8]
   simp only[List.filter_cons]
   split
   ·simp only[List.map_cons,qV,Fj,m7]
   ·rfl
 have:=key S []
 simp only[List.filter_nil,List.map_nil] at this
 rw[show J []=none from rfl,Qz] at this
 exact this
def Lu (n:Nat)(q:Nat→Bool):List Nat:=(List.range (2 ^ n)).filter λx=>decide (0<x)&&q x
def o7 (n:Nat)(q:Nat→Bool):Option Fd:=J ((Lu n q).map one)
theorem aaA {ay:Span}{sp:Nat→Span}{n x:Nat}(h:x<2 ^ n):decide (kr ay sp n x≠kI)=decide (0<x):=by
 rw[decide_eq_decide]
 rcases Nat.eq_zero_or_pos x with h0|h0
 ·subst h0
  have e:kr ay sp n 0=kI:=by
   have:∀(f:Nat→Int) (ay:Int) n,wS f ay 0 n=0∧dz 0 n=0:=by
    intro f ay n
    induction n with
    |zero=>exact⟨rfl,rfl⟩
    |succ n ih=>simp[wS,dz,ih.1,ih.2]
   simp[kr,kI,(this _ ay.1 n).1,(this _ ay.2 n).1,(this (λi=>(sp i).1) ay.1 n).2]
  simp[e]
 ·have:=xZ n x h
  have h2:=SI h0
  refine⟨λ_=>h0,λ_ e=>?_⟩
  have e2:=congrArg Lg.many e
  simp only[kr,kI] at e2
  omega
theorem Ms (ay:Span)(n:Nat)(sp:Nat→Span)(p:Lg→Bool):J (kM ay n sp p)=o7 n λx=>p (kr ay sp n x):=by
 unfold kM qE
 rw[TO]
 rw[List.filter_filter]
 have h:=QV ay sp n
 rw[GU ((h.filter (λe=>p e.1&&decide (e.1≠kI))).map (·.2))]
 unfold o7 Lu
 rw[List.filter_map,List.map_map]
 congr 1
 have e:List.filter ((λe:Lg × Fd=>p e.1&&decide (e.1≠kI)) ∘ λx=>(kr ay sp n x,one x)) (List.range (2 ^ n))=List.filter (λx=>decide (0<x)&&p (kr ay sp n x)) (List.range (2 ^ n)):=by
  refine List.filter_congr λx hx=>?_
  simp only[Function.comp]
  rw[aaA (List.mem_range.1 hx),Bool.and_comm]
 rw[e]
 rfl
theorem Mt {ay:Span}{n:Nat}{sp:Nat→Span}{p:Lg→Bool}:decide (0<(kM ay n sp p).length)=(o7 n λx=>p (kr ay sp n x)).isSome:=by
 rw[←Ms]
 cases h:kM ay n sp p with
 |nil=>rfl
 |cons x r =>
  cases hj:J (x::r) with
  |none=>exact absurd (L7.1 hj) (by simp)
  |some f=>simp
theorem aaz {ay:Span}{sp:Nat→Span}{n x:Nat}:(⟨(w6 ((List.range n).map sp) ay.1 ay.2 x).1,(w6 ((List.range n).map sp) ay.1 ay.2 x).2.1,(w6 ((List.range n).map sp) ay.1 ay.2 x).2.2⟩:Lg)=kr ay sp n x:=by
 rw[abq];rfl
theorem TN (P:Fd→Prop)(hP:∀f x,P f→P x→P (join f x)){l:List Fd}(h:∀x∈l,P x){f:Fd}(hj:J l=some f):P f:=by
 have key:∀(l:List Fd) (o:Option Fd),(∀g,o=some g→P g)→(∀x∈l,P x)→∀g,l.foldl jo o=some g→P g:=by
  intro l
  induction l with
  |nil=>intro o ho _ g hg;exact ho g hg
  |cons x r ih =>
   intro o ho hl g hg
   refine ih (jo o x) (λg hg=>?_) (λy hy=>hl y (List.mem_cons_of_mem _ hy)) g hg
   have hx:=hl x List.mem_cons_self
   cases o with
   |none=>cases hg;exact hx
   |some o'=>cases hg;exact hP _ _ (ho o' rfl) hx
 exact key l none (λg hg=>by cases hg) h f hj
theorem W1 {n:Nat}{q:Nat→Bool}{f:Fd}(h:o7 n q=some f):f.least<2 ^ n∧f.each<2 ^ n∧f.some<2 ^ n:=by
 refine TN (λf=>f.least<2 ^ n∧f.each<2 ^ n∧f.some<2 ^ n) (λf x hf hx=>?_) (λx hx=>?_) h
 ·refine⟨?_,Nat.lt_of_le_of_lt Nat.and_le_left hf.2.1,Nat.or_lt_two_pow hf.2.2 hx.2.2⟩
  simp only[join]
  split
  ·exact hx.1
  ·exact hf.1
 ·obtain⟨y,hy,rfl⟩:=List.mem_map.1 hx
  have:=List.mem_range.1 (List.mem_filter.1 hy).1
  exact⟨this,this,this⟩
def Ga (L:List Span)(lo hi:Int)(w:Span)(x:Nat):Bool:=Fe w ((cC L lo hi x).1,(cC L lo hi x).2,0)
theorem W0 {n:Nat}{q q':Nat→Bool}(h:∀x,0<x→x<2 ^ n→q x=q' x):o7 n q=o7 n q':=by
 unfold o7 Lu
 congr 2
 refine List.filter_congr λx hx=>?_
 cases h0:decide (0<x) with
 |false=>rfl
 |true=>rw[h x (of_decide_eq_true h0) (List.mem_range.1 hx)]
theorem T1 {n:Nat}{sp:Nat→Span}{lo hi a b:Int}:(o7 n λx=>ou 206 (a,b) (kr (lo,hi) sp n x))=o7 n (Ga ((List.range n).map sp) lo hi (a,b)):=by
 refine W0 λx h0 hx=>?_
 have h:=abr (L:=(List.range n).map sp) (lo:=lo) (hi:=hi) h0 (by simpa using hx)
 have hk:=aaz (ay:=(lo,hi)) (sp:=sp) (n:=n) (x:=x)
 rw[←hk,h]
 rfl
def sM (L:List Span)(lo hi a b:Int):Int × Int :=
 if fF L lo hi (B6 a b)=0 then(match o7 L.length (Ga L lo hi (a,b)) with|some f=>((f.least:Int),0)|none=>(0,4)) else(0,fF L lo hi (B6 a b))
def ud:Ct:=zn λL lo hi r=>match r with
 |[.agg [.si .i64 a,.si .i64 b]]=>some (some (L.length≤40),.bn [.si .i64 (sM L lo hi a b).1,.si .i64 (sM L lo hi a b).2])
 |_=>none
theorem Kc {l:List (Nat × Ct)}(g0:Good P T l):aP P 95 ud:=by
 have g:=A4 (Xr (Xo (A1 g0)))
 refine VL (C:=aC _) g.ok vp Tryz.func95 (c:=code Tryz.f95) rfl λfr args H out h hp=>adq h hp λn sp lo hi r p v Rv hk hp hR=>?_
 split at hk
 ·rename_i a b
  cases hk
  have hp:((List.range n).map sp).length≤40:=hp
  have ko:n≤40:=by simpa using hp
  refine⟨Nat.le_of_ble_eq_true rfl,λG hG=>?_⟩
  refine AK (g.ok _ _ _) rfl aj rfl rfl rfl rfl ?_
  refine cU (g.ok _ _ _) bP [0,0,2,7,0,16,48,127,255,511,511,0,3071,8191] [(12,48)] 14 (by kernel_rfl) ?_
  refine aa.mk (Ln _ _) ?_
  generalize hE:fF ((List.range n).map sp) lo hi (B6 a b)=E at hR
  have cq:=T1 (n:=n) (sp:=sp) (lo:=lo) (hi:=hi) (a:=a) (b:=b)
  refine Br.mk (λh=>?_) (λh=>?_)
  ·have h:(!decide (fF ((List.range n).map sp) lo hi (B6 a b)=0))=true:=h
   rw[hE] at h
   have h:¬E=0:=by simpa using h
   have hw:sM ((List.range n).map sp) lo hi a b=(0,E):=by rw[sM,hE,if_neg h]
   exact hR _ _ ⟨⟨rfl,by rw[hw]⟩,⟨rfl,by rw[hw];exact hE⟩,trivial⟩ rfl
  ·have h:(!decide (fF ((List.range n).map sp) lo hi (B6 a b)=0))=false:=h
   rw[hE] at h
   have h:E=0:=by simpa using h
   obtain⟨q1,q2⟩:=H2 (hE.trans h)
   refine aa.mk ⟨rfl,Ln _ _,RJ q1⟩ ?_
   refine Br.mk (λhb=>?_) (λhb=>?_)
   ·have hb:(!decide (0<(kM (lo,hi) n sp (ou 206 (a,b))).length))=true:=hb
    rw[Mt,cq] at hb
    cases hf:o7 n (Ga ((List.range n).map sp) lo hi (a,b)) with
    |some f=>rw[hf] at hb;cases hb
    |none =>
     have hw:sM ((List.range n).map sp) lo hi a b=(0,4):=by rw[sM,hE,if_pos h,List.length_map,List.length_range,hf]
     exact hR _ _ ⟨⟨rfl,by rw[hw]⟩,⟨rfl,by rw[hw]⟩,trivial⟩ rfl
   ·have hb:(!decide (0<(kM (lo,hi) n sp (ou 206 (a,b))).length))=false:=hb
    rw[Mt,cq] at hb
    cases hf:o7 n (Ga ((List.range n).map sp) lo hi (a,b)) with
    |none=>rw[hf] at hb;cases hb
    |some f =>
     have hw:sM ((List.range n).map sp) lo hi a b=((f.least:Int),0):=by rw[sM,hE,if_pos h,List.length_map,List.length_range,hf]
     have hJ:J (kM (lo,hi) n sp (ou 206 (a,b)))=some f:=(Ms _ _ _ _).trans (cq.trans hf)
     have aG:=(W1 hf).1
     have XW:=F4 (n:=n) (by have:=(RJ q1).1;simpa using this)
     have hl:((J (kM (lo,hi) n sp (ou 206 (a,b)))).getD kH).least=f.least:=by rw[hJ];rfl
     refine aa.mk ?_ (hR _ _ ⟨⟨rfl,?_⟩,⟨rfl,by rw[hw]⟩,trivial⟩ rfl)
     ·show ae .i64 ((((J (kM (lo,hi) n sp (ou 206 (a,b)))).getD kH).least:Nat):Int)
      rw[hl]
      exact⟨by omega,by omega⟩
     ·show((((J (kM (lo,hi) n sp (ou 206 (a,b)))).getD kH).least:Nat):Int)=_
      rw[hl,hw]
 ·cases hk
end Go.X.S
