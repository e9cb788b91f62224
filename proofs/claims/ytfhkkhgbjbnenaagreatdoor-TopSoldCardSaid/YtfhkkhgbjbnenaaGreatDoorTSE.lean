/- Grade: the greatest of some numbers; a block's faces; Grade: open. -/
import Derived.Test.YtfhkkhgbjbnenaaGreatDoorTSD

set_option linter.unusedVariables false
set_option linter.unusedSimpArgs false
set_option linter.unusedSectionVars false
set_option maxRecDepth 100000
set_option maxHeartbeats 4000000

namespace Go.X.Gr
open Go Go.Proofs Go.X
theorem Yi {H:LH}{id T:Nat}{cs:List SV}(h:H id=some (.cells T cs))(hk:eU 0 [] cs=true)(hi:iM (λi=>i<1) cs):Hand H [(id,.cells T cs)] where
 ok j c hb hj:=by
  match j,hj with
  |0,hj =>
   simp at hj;obtain⟨rfl,rfl⟩:=hj
   show H id=some (.cells T (cX _ cs))
   rw[rV _ hk];exact h
  |j+1,hj=>simp at hj
 ids j c hb hj:=by
  match j,hj with
  |0,hj=>simp at hj;obtain⟨rfl,rfl⟩:=hj;exact hi
  |j+1,hj=>simp at hj
 inj i j c hb hb' h1 h2 _ _:=by
  match i,j,h1,h2 with
  |0,0,_,_=>rfl
  |i+1,_,h,_=>simp at h
  |_,j+1,_,h=>simp at h
theorem dS (n:Nat)(h:Nat.ble n 100=true):ae .i64 ((n:Int)+1):=by
 have h:=Nat.le_of_ble_eq_true h
 exact⟨by show -9223372036854775808≤(n:Int)+1;omega,by show(n:Int)+1≤9223372036854775807;omega⟩
theorem cS (i m:Nat)(h:Nat.blt i m=true):(0:Int)≤(i:Int)∧(i:Int)<(m:Int):=by
 have h:i<m:=Nat.le_of_ble_eq_true h
 omega
def f_ (a0 a1 a2 a3 a4:Int):Int:=max (max (max (max a0 a1) a2) a3) a4
def XT (a0 a1 a2 a3 a4:Int):Nat→Int
 |0=>0
 |1=>a0
 |2=>max a0 a1
 |3=>max (max a0 a1) a2
 |4=>max (max (max a0 a1) a2) a3
 |_=>f_ a0 a1 a2 a3 a4
def IG (a b:Int):Nat→Int
 |0=>0
 |1=>a
 |_=>max a b
def G_ (a b:Int):Nat→Int
 |0=>a
 |_=>b
def c5 (a0 a1 a2 a3 a4:Int):List SV:=[.si .i64 a0,.si .i64 a1,.si .i64 a2,.si .i64 a3,.si .i64 a4]
def kO:Ct:=λ_ args H=>match args with
 |[.sl id]=>(match cn 1 H id with
  |some (2,get)=>(match get 0,get 1 with
   |[.si .i64 a],[.si .i64 b]=>some ⟨none,none,.si .i64 (max a b),[]⟩
   |_,_=>none)
  |_=>none)
 |[.ss id 0 5 lc]=>(match H id with
  |some (.cells 157 [.si .i64 a0,.si .i64 a1,.si .i64 a2,.si .i64 a3,.si .i64 a4])=>some ⟨none,none,.si .i64 (f_ a0 a1 a2 a3 a4),[]⟩
  |_=>none)
 |_=>none
theorem Vk:cY kO:=by
 intro fr args H H' out hH h
 unfold kO at h ⊢
 split at h
 ·split at h
  ·rename_i e
   simp only[fk hH e]
   exact h
  ·cases h
 ·split at h
  ·rename_i e
   simp only[hH _ _ e]
   exact h
  ·cases h
 ·cases h
theorem k84 {l:List (Nat × Ct)}(g:Good P T l):aP P 113 kO:=by
 refine bq (C:=aC _) g.ok Tryz.func113 (c:=code Tryz.f113) rfl λfr args H out h hp=>?_
 unfold kO at h
 split at h
 ·rename_i id
  split at h
  ·rename_i get e
   split at h
   ·rename_i a b e0 e1
    cases h
    have hh:Hand H [(id,.ro 1 2 λi=>[.si .i64 (G_ a b i)])]:=kU e (λi=>rfl) (λi hi=>by
     rcases(show i=0∨i=1 by omega) with rfl|rfl
     ·exact e0.symm
     ·exact e1.symm)
    refine⟨_,[.sl 0],[(0,.ro 1 2 λi=>[.si .i64 (G_ a b i)])],1,[],rfl,rfl,Nat.le_of_ble_eq_true rfl,hh,rfl,rfl,λG hG=>?_⟩
    refine rI (g.ok _ _ _) (λx:{i:Nat // i≤2}=>⟨[(2,⟨[],.si .i64 (IG a b x.1)⟩),(5,⟨[],.sl 0⟩),(6,⟨[],.si .i64 2⟩),(7,⟨[],.si .i64 x.1⟩)],[],
     [(0,.ro 1 2 λi=>[.si .i64 (G_ a b i)])],1,[]⟩) (λx=>2-x.1) (λ_ j hj=>hG j hj) ⟨0,Nat.zero_le _⟩ ?_ ?_
    ·refine⟨?_,?_,rfl,rfl,rfl⟩<;>exact Q0
    ·rintro⟨i,hi⟩
     have step:∀(i v:Nat) (w:Int) (hi:i+1≤2),w=IG a b (i+1)→∃y:{i:Nat // i≤2},y.1=i+1∧w=IG a b y.1:=λi v w hi h=>⟨⟨i+1,hi⟩,rfl,h⟩
     rcases(show i=0∨i=1∨i=2 by omega) with rfl|rfl|rfl
     ·refine Br.mk (λ_=>?_) (λh=>by cases h)
      refine aa.mk (cS 0 2 rfl) ?_
      refine Br.mk (λ_=>?_) (λh=>by cases h)
      refine aa.mk (dS 0 rfl) ⟨⟨1,by omega⟩,?_,by show 2-1<2-0;omega⟩
      refine⟨?_,?_,rfl,rfl,rfl⟩<;>exact Q0
     ·refine Br.mk (λ_=>?_) (λh=>by cases h)
      refine aa.mk (cS 1 2 rfl) ?_
      refine Br.mk (λh=>?_) (λh=>?_)
      ·have h:b>a:=of_decide_eq_true h
       refine aa.mk (dS 1 rfl) ⟨⟨2,by omega⟩,?_,by show 2-2<2-1;omega⟩
       refine⟨?_,?_,rfl,rfl,rfl⟩<;>repeat' (first|exact trivial|exact rfl|(intro i hi;exact rfl)|(show b=max a b;omega)|refine And.intro ?_ ?_)
      ·have h:¬b>a:=of_decide_eq_false h
       refine aa.mk (dS 1 rfl) ⟨⟨2,by omega⟩,?_,by show 2-2<2-1;omega⟩
       refine⟨?_,?_,rfl,rfl,rfl⟩<;>repeat' (first|exact trivial|exact rfl|(intro i hi;exact rfl)|(show a=max a b;omega)|refine And.intro ?_ ?_)
     ·refine Br.mk (λh=>by cases h) (λ_=>?_)
      exact⟨.inl rfl,bU ⟨rfl,rfl⟩ rfl rfl ⟨trivial,trivial⟩⟩
   ·cases h
  ·cases h
 ·rename_i id lc
  split at h
  ·rename_i a0 a1 a2 a3 a4 e
   cases h
   have hh:Hand H [(id,.cells 157 (c5 a0 a1 a2 a3 a4))]:=Yi e rfl ⟨trivial,trivial,trivial,trivial,trivial,trivial⟩
   refine⟨_,[.ss 0 0 5 lc],[(0,.cells 157 (c5 a0 a1 a2 a3 a4))],1,[],rfl,rfl,Nat.le_of_ble_eq_true rfl,hh,rfl,rfl,λG hG=>?_⟩
   refine rI (g.ok _ _ _) (λx:{i:Nat // i≤5}=>⟨[(2,⟨[],.si .i64 (XT a0 a1 a2 a3 a4 x.1)⟩),(5,⟨[],.ss 0 0 5 lc⟩),(6,⟨[],.si .i64 5⟩),(7,⟨[],.si .i64 x.1⟩)],[],
    [(0,.cells 157 (c5 a0 a1 a2 a3 a4))],1,[]⟩) (λx=>5-x.1) (λ_ j hj=>hG j hj) ⟨0,Nat.zero_le _⟩ ?_ ?_
   ·refine⟨?_,?_,rfl,rfl,rfl⟩<;>exact Q0
   ·rintro⟨i,hi⟩
    rcases(show i=0∨i=1∨i=2∨i=3∨i=4∨i=5 by omega) with rfl|rfl|rfl|rfl|rfl|rfl
    ·refine Br.mk (λ_=>?_) (λh=>by cases h)
     refine aa.mk (cS 0 5 rfl) ?_
     refine Br.mk (λ_=>?_) (λh=>by cases h)
     refine aa.mk (dS 0 rfl) ⟨⟨1,by omega⟩,?_,by show 5-1<5-0;omega⟩
     refine⟨?_,?_,rfl,rfl,rfl⟩<;>exact Q0
    ·refine Br.mk (λ_=>?_) (λh=>by cases h)
     refine aa.mk (cS 1 5 rfl) ?_
     refine Br.mk (λh=>?_) (λh=>?_)
     ·have h:a1>a0:=of_decide_eq_true h
      refine aa.mk (dS 1 rfl) ⟨⟨2,by omega⟩,?_,by show 5-2<5-1;omega⟩
      refine⟨?_,?_,rfl,rfl,rfl⟩<;>repeat' (first|exact trivial|exact rfl|(intro i hi;exact rfl)|(show a1=max a0 a1;omega)|refine And.intro ?_ ?_)
     ·have h:¬a1>a0:=of_decide_eq_false h
      refine aa.mk (dS 1 rfl) ⟨⟨2,by omega⟩,?_,by show 5-2<5-1;omega⟩
      refine⟨?_,?_,rfl,rfl,rfl⟩<;>repeat' (first|exact trivial|exact rfl|(intro i hi;exact rfl)|(show a0=max a0 a1;omega)|refine And.intro ?_ ?_)
    ·refine Br.mk (λ_=>?_) (λh=>by cases h)
     refine aa.mk (cS 2 5 rfl) ?_
     refine Br.mk (λh=>?_) (λh=>?_)
     ·have h:a2>max a0 a1:=of_decide_eq_true h
      refine aa.mk (dS 2 rfl) ⟨⟨3,by omega⟩,?_,by show 5-3<5-2;omega⟩
      refine⟨?_,?_,rfl,rfl,rfl⟩<;>repeat' (first|exact trivial|exact rfl|(intro i hi;exact rfl)|(show a2=max (max a0 a1) a2;omega)|refine And.intro ?_ ?_)
     ·have h:¬a2>max a0 a1:=of_decide_eq_false h
      refine aa.mk (dS 2 rfl) ⟨⟨3,by omega⟩,?_,by show 5-3<5-2;omega⟩
      refine⟨?_,?_,rfl,rfl,rfl⟩<;>repeat' (first|exact trivial|exact rfl|(intro i hi;exact rfl)|(show max a0 a1=max (max a0 a1) a2;omega)|refine And.intro ?_ ?_)
    ·refine Br.mk (λ_=>?_) (λh=>by cases h)
     refine aa.mk (cS 3 5 rfl) ?_
     refine Br.mk (λh=>?_) (λh=>?_)
     ·have h:a3>max (max a0 a1) a2:=of_decide_eq_true h
      refine aa.mk (dS 3 rfl) ⟨⟨4,by omega⟩,?_,by show 5-4<5-3;omega⟩
      refine⟨?_,?_,rfl,rfl,rfl⟩<;>repeat' (first|exact trivial|exact rfl|(intro i hi;exact rfl)|(show a3=max (max (max a0 a1) a2) a3;omega)|refine And.intro ?_ ?_)
     ·have h:¬a3>max (max a0 a1) a2:=of_decide_eq_false h
      refine aa.mk (dS 3 rfl) ⟨⟨4,by omega⟩,?_,by show 5-4<5-3;omega⟩
      refine⟨?_,?_,rfl,rfl,rfl⟩<;>repeat' (first|exact trivial|exact rfl|(intro i hi;exact rfl)|(show max (max a0 a1) a2=max (max (max a0 a1) a2) a3;omega)|refine And.intro ?_ ?_)
    ·refine Br.mk (λ_=>?_) (λh=>by cases h)
     refine aa.mk (cS 4 5 rfl) ?_
     refine Br.mk (λh=>?_) (λh=>?_)
     ·have h:a4>max (max (max a0 a1) a2) a3:=of_decide_eq_true h
      refine aa.mk (dS 4 rfl) ⟨⟨5,by omega⟩,?_,by show 5-5<5-4;omega⟩
      refine⟨?_,?_,rfl,rfl,rfl⟩<;>repeat' (first|exact trivial|exact rfl|(intro i hi;exact rfl)|(show a4=max (max (max (max a0 a1) a2) a3) a4;omega)|refine And.intro ?_ ?_)
     ·have h:¬a4>max (max (max a0 a1) a2) a3:=of_decide_eq_false h
      refine aa.mk (dS 4 rfl) ⟨⟨5,by omega⟩,?_,by show 5-5<5-4;omega⟩
      refine⟨?_,?_,rfl,rfl,rfl⟩<;>repeat' (first|exact trivial|exact rfl|(intro i hi;exact rfl)|(show max (max (max a0 a1) a2) a3=max (max (max (max a0 a1) a2) a3) a4;omega)|refine And.intro ?_ ?_)
    ·refine Br.mk (λh=>by cases h) (λ_=>?_)
     exact⟨.inl rfl,bU ⟨rfl,rfl⟩ rfl rfl Q2⟩
  ·cases h
 ·cases h
theorem Em {l:List (Nat × Ct)}(g:Good P T l):Good P T ((113,kO)::l):=g.add (k84 g) Vk (aw Tryz.func113 (c:=code Tryz.f113) rfl (by decide))
def sm (a:Int):Prop:=-1000≤a∧a≤1000
def lM (a0 a1 a2 a3 a4:Int):Prop:=sm a0∧sm a1∧sm a2∧sm a3∧sm a4
def ng5 (a0 a1 a2 a3 a4:Int):Nat→List SV
 |0=>c5 a0 a1 a2 a3 a4
 |1=>c5 (0-a0) a1 a2 a3 a4
 |2=>c5 (0-a0) (0-a1) a2 a3 a4
 |3=>c5 (0-a0) (0-a1) (0-a2) a3 a4
 |4=>c5 (0-a0) (0-a1) (0-a2) (0-a3) a4
 |_=>c5 (0-a0) (0-a1) (0-a2) (0-a3) (0-a4)
def zr (a0 a1 a2 a3 a4:Int):Int:=f_ (0-a0) (0-a1) (0-a2) (0-a3) (0-a4)
theorem Rf {a0 a1 a2 a3 a4:Int}(h:lM a0 a1 a2 a3 a4):sm (f_ a0 a1 a2 a3 a4):=by
 unfold lM sm at h
 unfold sm f_
 omega
theorem abe {a0 a1 a2 a3 a4:Int}(h:lM a0 a1 a2 a3 a4):lM (0-a0) (0-a1) (0-a2) (0-a3) (0-a4):=by
 unfold lM sm at h ⊢
 omega
def Hw:Ct:=bd fun
 |[.agg [.si .i64 a0,.si .i64 a1,.si .i64 a2,.si .i64 a3,.si .i64 a4]]=>some ⟨some (lM a0 a1 a2 a3 a4),none,.si .i64 (zr a0 a1 a2 a3 a4),[]⟩
 |_=>none
theorem k92 {l:List (Nat × Ct)}(g0:Good P T l):aP P 165 Hw:=by
 have g:=Em g0
 refine bq (C:=aC _) g.ok Tryz.func165 (c:=code Tryz.f165) rfl λfr args H out h hp=>?_
 simp only[Hw,bd] at h
 split at h
 ·rename_i a0 a1 a2 a3 a4
  cases h
  have hp:lM a0 a1 a2 a3 a4:=hp
  unfold lM sm at hp
  refine dt rfl (Nat.le_of_ble_eq_true rfl) λG hG=>?_
  refine rI (g.ok _ _ _) (λx:{i:Nat // i≤5}=>⟨[(1,⟨[],.sp 0 0⟩),(4,⟨[],.si .i64 x.1⟩)],[],
   [(0,.cells 157 (ng5 a0 a1 a2 a3 a4 x.1))],1,[]⟩) (λx=>5-x.1) (λ_ j hj=>hG j (Nat.zero_le _)) ⟨0,Nat.zero_le _⟩ ?_ ?_
  ·refine⟨?_,?_,rfl,rfl,rfl⟩<;>exact Q0
  ·rintro⟨i,hi⟩
   rcases(show i=0∨i=1∨i=2∨i=3∨i=4∨i=5 by omega) with rfl|rfl|rfl|rfl|rfl|rfl
   ·refine Br.mk (λ_=>?_) (λh=>by cases h)
    refine aa.mk (cS 0 5 rfl) ?_
    refine aa.mk (show ae .i64 (0-a0) from⟨by omega,by omega⟩) ?_
    refine aa.mk (cS 0 5 rfl) ?_
    refine aa.mk (dS 0 rfl) ⟨⟨1,by omega⟩,?_,by show 5-1<5-0;omega⟩
    refine⟨?_,?_,rfl,rfl,rfl⟩<;>exact Q0
   ·refine Br.mk (λ_=>?_) (λh=>by cases h)
    refine aa.mk (cS 1 5 rfl) ?_
    refine aa.mk (show ae .i64 (0-a1) from⟨by omega,by omega⟩) ?_
    refine aa.mk (cS 1 5 rfl) ?_
    refine aa.mk (dS 1 rfl) ⟨⟨2,by omega⟩,?_,by show 5-2<5-1;omega⟩
    refine⟨?_,?_,rfl,rfl,rfl⟩<;>exact Q0
   ·refine Br.mk (λ_=>?_) (λh=>by cases h)
    refine aa.mk (cS 2 5 rfl) ?_
    refine aa.mk (show ae .i64 (0-a2) from⟨by omega,by omega⟩) ?_
    refine aa.mk (cS 2 5 rfl) ?_
    refine aa.mk (dS 2 rfl) ⟨⟨3,by omega⟩,?_,by show 5-3<5-2;omega⟩
    refine⟨?_,?_,rfl,rfl,rfl⟩<;>exact Q0
   ·refine Br.mk (λ_=>?_) (λh=>by cases h)
    refine aa.mk (cS 3 5 rfl) ?_
    refine aa.mk (show ae .i64 (0-a3) from⟨by omega,by omega⟩) ?_
    refine aa.mk (cS 3 5 rfl) ?_
    refine aa.mk (dS 3 rfl) ⟨⟨4,by omega⟩,?_,by show 5-4<5-3;omega⟩
    refine⟨?_,?_,rfl,rfl,rfl⟩<;>exact Q0
   ·refine Br.mk (λ_=>?_) (λh=>by cases h)
    refine aa.mk (cS 4 5 rfl) ?_
    refine aa.mk (show ae .i64 (0-a4) from⟨by omega,by omega⟩) ?_
    refine aa.mk (cS 4 5 rfl) ?_
    refine aa.mk (dS 4 rfl) ⟨⟨5,by omega⟩,?_,by show 5-5<5-4;omega⟩
    refine⟨?_,?_,rfl,rfl,rfl⟩<;>exact Q0
   ·refine Br.mk (λh=>by cases h) (λ_=>?_)
    refine aa.mk ⟨by decide,by decide,by decide,by decide⟩ ?_
    exact⟨.inl rfl,cz ⟨rfl,rfl⟩ rfl rfl⟩
 ·cases h
theorem OU {l:List (Nat × Ct)}(g:Good P T l):Good P T ((165,Hw)::l):=g.add (k92 g) (cZ _) (aw Tryz.func165 (c:=code Tryz.f165) rfl (by decide))
def pM (a0 a1 a2 a3 a4:Int):Int:=max (f_ a0 a1 a2 a3 a4) (zr a0 a1 a2 a3 a4)
def pU (a0 a1 a2 a3 a4:Int):Int:=f_ a0 a1 a2 a3 a4+zr a0 a1 a2 a3 a4
def Hq:Ct:=bd fun
 |[.agg [.si .i64 a0,.si .i64 a1,.si .i64 a2,.si .i64 a3,.si .i64 a4]]=>some ⟨some (lM a0 a1 a2 a3 a4),none,.si .i64 (pM a0 a1 a2 a3 a4),[]⟩
 |_=>none
theorem QD {l:List (Nat × Ct)}(g0:Good P T l):aP P 162 Hq:=by
 have g:=OU (Em g0)
 refine bq (C:=aC _) g.ok Tryz.func162 (c:=code Tryz.f162) rfl λfr args H out h hp=>?_
 simp only[Hq,bd] at h
 split at h
 ·rename_i a0 a1 a2 a3 a4
  cases h
  have hp:lM a0 a1 a2 a3 a4:=hp
  refine dt rfl (Nat.le_of_ble_eq_true rfl) λG hG=>?_
  refine cU (g.ok _ _ _) bP [0,1,0,7,15,31,63] [] 6 (by kernel_rfl) ?_
  refine aa.mk ⟨by decide,by decide,by decide,by decide⟩ ?_
  refine aa.mk hp ?_
  exact⟨.inl rfl,cz ⟨rfl,rfl⟩ rfl rfl⟩
 ·cases h
theorem Xv {l:List (Nat × Ct)}(g:Good P T l):Good P T ((162,Hq)::l):=g.add (QD g) (cZ _) (aw Tryz.func162 (c:=code Tryz.f162) rfl (by decide))
def Hn:Ct:=bd fun
 |[.agg [.si .i64 a0,.si .i64 a1,.si .i64 a2,.si .i64 a3,.si .i64 a4]]=>some ⟨some (lM a0 a1 a2 a3 a4),none,.si .i64 (pU a0 a1 a2 a3 a4),[]⟩
 |_=>none
theorem QC {l:List (Nat × Ct)}(g0:Good P T l):aP P 164 Hn:=by
 have g:=OU (Em g0)
 refine bq (C:=aC _) g.ok Tryz.func164 (c:=code Tryz.f164) rfl λfr args H out h hp=>?_
 simp only[Hn,bd] at h
 split at h
 ·rename_i a0 a1 a2 a3 a4
  cases h
  have hp:lM a0 a1 a2 a3 a4:=hp
  have h1:=Rf hp
  have h2:=Rf (abe hp)
  refine dt rfl (Nat.le_of_ble_eq_true rfl) λG hG=>?_
  refine cU (g.ok _ _ _) bP [0,1,0,7,15,31] [] 5 (by kernel_rfl) ?_
  refine aa.mk ⟨by decide,by decide,by decide,by decide⟩ ?_
  refine aa.mk hp ?_
  refine aa.mk (show ae .i64 (f_ a0 a1 a2 a3 a4+zr a0 a1 a2 a3 a4) from by unfold sm at h1 h2;unfold zr;exact⟨by omega,by omega⟩) ?_
  exact⟨.inl rfl,cz ⟨rfl,rfl⟩ rfl rfl⟩
 ·cases h
theorem Xt {l:List (Nat × Ct)}(g:Good P T l):Good P T ((164,Hn)::l):=g.add (QC g) (cZ _) (aw Tryz.func164 (c:=code Tryz.f164) rfl (by decide))
def Ww (a0 a1 a2 a3 a4:Int):SV:=.agg [.si .i64 (pM a0 a1 a2 a3 a4),.si .i64 (pU a0 a1 a2 a3 a4)]
def M6:Ct:=bd fun
 |[.agg [],.agg [.si .i64 a0,.si .i64 a1,.si .i64 a2,.si .i64 a3,.si .i64 a4]]=>some ⟨some (lM a0 a1 a2 a3 a4),none,Ww a0 a1 a2 a3 a4,[]⟩
 |_=>none
theorem uN {l:List (Nat × Ct)}(g0:Good P T l):aP P 163 M6:=by
 have g:=Xv (Xt g0)
 refine bq (C:=aC _) g.ok Tryz.func163 (c:=code Tryz.f163) rfl λfr args H out h hp=>?_
 simp only[M6,bd] at h
 split at h
 ·rename_i a0 a1 a2 a3 a4
  cases h
  have hp:lM a0 a1 a2 a3 a4:=hp
  refine dt rfl (Nat.le_of_ble_eq_true rfl) λG hG=>?_
  refine cU (g.ok _ _ _) bP [0,1,0,7] [] 4 (by kernel_rfl) ?_
  refine aa.mk hp ?_
  refine aa.mk hp ?_
  exact⟨.inl rfl,cz ⟨⟨rfl,rfl⟩,⟨rfl,rfl⟩,trivial⟩ rfl rfl⟩
 ·cases h
def dH {γ α:Type}(f:γ→α→γ × Bool):γ→List α→γ × Bool
 |c,[]=>(c,true)
 |c,x::l=>match f c x with
  |(c',true)=>dH f c' l
  |(c',false)=>(c',false)
theorem n6 {γ α:Type}{f:γ→α→γ × Bool}{c:γ}{x:α}{l:List α}(h:(f c x).2=true):dH f c (x::l)=dH f (f c x).1 l:=by
 rw[dH]
 split
 ·rename_i e;rw[e]
 ·rename_i e;rw[e] at h;cases h
theorem n7 {γ α:Type}{f:γ→α→γ × Bool}{c:γ}{x:α}{l:List α}(h:(f c x).2=false):dH f c (x::l)=((f c x).1,false):=by
 rw[dH]
 split
 ·rename_i e;rw[e] at h;cases h
 ·rename_i e;rw[e]
theorem AY {γ α:Type}{f:γ→α→γ × Bool}{ok:γ→Prop}(h:∀c x,ok c→(f c x).2=true→ok (f c x).1):∀{l:List α} {c:γ},ok c→(dH f c l).2=true→ok (dH f c l).1
 |[],c,hc,_=>hc
 |x::l,c,hc,hs=>by
  cases e:(f c x).2 with
  |true =>
   rw[n6 e] at hs ⊢
   exact AY h (h c x hc e) hs
  |false=>rw[n7 e] at hs;cases hs
def xq:Nat→Int→List Int
 |0,_=>[]
 |n+1,k=>k::xq n (k+1)
def cx (lo hi:Int):List Int:=xq (hi+1-lo).toNat lo
theorem rR {lo hi:Int}(h:lo≤hi):cx lo hi=lo::cx (lo+1) hi:=by
 unfold cx
 obtain⟨m,hm⟩:∃m:Nat,(hi+1-lo).toNat=m+1:=⟨(hi-lo).toNat,by omega⟩
 rw[hm,show(hi+1-(lo+1)).toNat=m by omega]
 rfl
theorem rS {lo hi:Int}(h:hi<lo):cx lo hi=[]:=by
 unfold cx
 rw[show(hi+1-lo).toNat=0 by omega]
 rfl
structure aB where
 l0:Int
 h0:Int
 l1:Int
 h1:Int
 l2:Int
 h2:Int
 l3:Int
 h3:Int
 l4:Int
 h4:Int
 st:Int
def eo (g:aB):Prop:=(-20≤g.l0∧g.h0≤20)∧(-20≤g.l1∧g.h1≤20)∧(-20≤g.l2∧g.h2≤20)∧(-20≤g.l3∧g.h3≤20)∧(-20≤g.l4∧g.h4≤20)∧0≤g.st∧g.st≤10
def cN (st a k:Int):Bool:=!decide (max (a-k) (k-a)>st)
def l7 (st:Int)(k:Int):Nat→Bool
 |0=>true
 |_=>true
def jQ (st:Int)(a0:Int)(k:Int):Nat→Bool
 |0=>true
 |_=>cN st a0 k
def iE (st:Int)(a0 a1:Int)(k:Int):Nat→Bool
 |0=>true
 |1=>cN st a0 k
 |_=>cN st a0 k&&cN st a1 k
def ik (st:Int)(a0 a1 a2:Int)(k:Int):Nat→Bool
 |0=>true
 |1=>cN st a0 k
 |2=>cN st a0 k
 |_=>cN st a0 k&&cN st a2 k
def gR (st:Int)(a0 a1 a2 a3:Int)(k:Int):Nat→Bool
 |0=>true
 |1=>cN st a0 k
 |2=>cN st a0 k&&cN st a1 k
 |3=>cN st a0 k&&cN st a1 k
 |_=>cN st a0 k&&cN st a1 k&&cN st a3 k
section
variable {γ:Type}(f:γ→Int→Int→Int→Int→Int→γ × Bool)(g:aB)
def jE (c:γ)(a0 a1 a2 a3:Int):γ × Bool:=dH (λc k=>f c a0 a1 a2 a3 k) c ((cx g.l4 g.h4).filter λk=>gR g.st a0 a1 a2 a3 k 4)
def jD (c:γ)(a0 a1 a2:Int):γ × Bool:=dH (λc k=>jE f g c a0 a1 a2 k) c ((cx g.l3 g.h3).filter λk=>ik g.st a0 a1 a2 k 3)
def jC (c:γ)(a0 a1:Int):γ × Bool:=dH (λc k=>jD f g c a0 a1 k) c ((cx g.l2 g.h2).filter λk=>iE g.st a0 a1 k 2)
def jB (c:γ)(a0:Int):γ × Bool:=dH (λc k=>jC f g c a0 k) c ((cx g.l1 g.h1).filter λk=>jQ g.st a0 k 1)
def nq (c:γ):γ × Bool:=dH (λc k=>jB f g c k) c ((cx g.l0 g.h0).filter λk=>l7 g.st  k 0)
end
def ub (g:aB):List SV:=[.sl 0,.si .i64 g.l0,.si .i64 g.h0,.si .i64 g.l1,.si .i64 g.h1,.si .i64 g.l2,.si .i64 g.h2,.si .i64 g.l3,.si .i64 g.h3,.si .i64 g.l4,.si .i64 g.h4,.si .i64 g.st,.sl 2]
def uO (t:Nat):Bool:=match Nat.blt t 22,Nat.beq t 1,Nat.beq t 4 with
 |true,false,false=>true
 |_,_,_=>false
def Cs:List (Nat × HB)→Bool
 |[]=>true
 |(t,_)::r=>match uO t with
  |true=>false
  |false=>Cs r
theorem Og {t:Nat}(ht:uO t=true):∀{A H:List (Nat × HB)},Cs A=true→ab (A++H) t=ab H t
 |[],H,_=>rfl
 |(s,x)::r,H,h=>by
  simp only[Cs] at h
  split at h
  ·cases h
  ·rename_i e
   have aV:s≠t:=by rintro rfl;rw[ht] at e;cases e
   rw[List.cons_append,ba,aR _ _ aV]
   exact Og ht h
theorem Tw {n:Nat}{A H:List (Nat × HB)}(hA:Cs A=true):∀{B:List (Nat × HB)},gN (λj=>j) n H B→(∀p∈B,uO p.1=true)→gN (λj=>j) n (A++H) B
 |[],_,_=>trivial
 |(t,hb)::r,h,hk=>by
  simp only[gN] at h ⊢
  refine⟨?_,Tw hA h.2 λp hp=>hk p (List.mem_cons_of_mem _ hp)⟩
  rw[Og (hk _ List.mem_cons_self) hA]
  exact h.1
theorem Tv {n:Nat}{H:List (Nat × HB)}{T:List (Nat × HB)}(hT:gN (λj=>j) n H T):∀{B:List (Nat × HB)},gN (λj=>j) n H B→gN (λj=>j) n H (B++T)
 |[],_=>hT
 |(t,hb)::r,h=>by
  simp only[gN] at h
  exact⟨h.1,Tv hT h.2⟩
theorem c6 {n:Nat}{A B T:List (Nat × HB)}(hT:gN (λj=>j) n T T)(hk:∀p∈T,uO p.1=true)(hA:Cs A=true)(h:gN (λj=>j) n (A++T) B):gN (λj=>j) n (A++T) (B++T) :=
 Tv (Tw hA hT hk) h
def Fr (g:aB)(a0 a1 a2 a3 a4:Int):List (Nat × HB) :=
 [(24,.cells 147 [.fn (Fn.func 111) [] [.sp 22 0,.sp 23 0,.sp 4 0,.sp 24 0]]),(23,.cells 157 (c5 a0 a1 a2 a3 a4)),(22,.cells 163 [.fy 21]),(4,.cells 114 [.sp 1 0]),(1,.cells 155 (ub g))]
theorem xM:Body P 111:=aw Tryz.func111 (c:=code Tryz.f111) rfl (by decide)
theorem so:Body P 110:=aw Tryz.func110 (c:=code Tryz.f110) rfl (by decide)
theorem cA:Good P T [(113,kO),(112,i_)]:=Em (IA ah)
def aD (a:Int):Prop:=-20≤a∧a≤20
theorem RN {γ:Type}{f:γ→Int→Int→Int→Int→Int→γ × Bool}{g:aB}{ok:γ→Prop}(hO:∀c a0 a1 a2 a3 a4,ok c→(f c a0 a1 a2 a3 a4).2=true→ok (f c a0 a1 a2 a3 a4).1){c:γ}{a0 a1 a2 a3:Int}(hc:ok c)(h:(jE f g c a0 a1 a2 a3).2=true):ok (jE f g c a0 a1 a2 a3).1:=AY (λc k h1 h2=>hO _ _ _ _ _ _ h1 h2) hc h
theorem RM {γ:Type}{f:γ→Int→Int→Int→Int→Int→γ × Bool}{g:aB}{ok:γ→Prop}(hO:∀c a0 a1 a2 a3 a4,ok c→(f c a0 a1 a2 a3 a4).2=true→ok (f c a0 a1 a2 a3 a4).1){c:γ}{a0 a1 a2:Int}(hc:ok c)(h:(jD f g c a0 a1 a2).2=true):ok (jD f g c a0 a1 a2).1:=AY (λc k h1 h2=>RN hO h1 h2) hc h
theorem RL {γ:Type}{f:γ→Int→Int→Int→Int→Int→γ × Bool}{g:aB}{ok:γ→Prop}(hO:∀c a0 a1 a2 a3 a4,ok c→(f c a0 a1 a2 a3 a4).2=true→ok (f c a0 a1 a2 a3 a4).1){c:γ}{a0 a1:Int}(hc:ok c)(h:(jC f g c a0 a1).2=true):ok (jC f g c a0 a1).1:=AY (λc k h1 h2=>RM hO h1 h2) hc h
theorem abA {γ:Type}{f:γ→Int→Int→Int→Int→Int→γ × Bool}{g:aB}{ok:γ→Prop}(hO:∀c a0 a1 a2 a3 a4,ok c→(f c a0 a1 a2 a3 a4).2=true→ok (f c a0 a1 a2 a3 a4).1){c:γ}{a0:Int}(hc:ok c)(h:(jB f g c a0).2=true):ok (jB f g c a0).1:=AY (λc k h1 h2=>RL hO h1 h2) hc h
section
variable {γ:Type}{f:γ→Int→Int→Int→Int→Int→γ × Bool}{g:aB}{CH:γ→List (Nat × HB)}{ok:γ→Prop}(hg:eo g)(hT:∀c,gN (λj=>j) 25 (CH c) (CH c))(hK:∀c,∀p∈CH c,uO p.1=true)
 (hO:∀c a0 a1 a2 a3 a4,ok c→(f c a0 a1 a2 a3 a4).2=true→ok (f c a0 a1 a2 a3 a4).1)
 (hY:∀c a0 a1 a2 a3 a4,ok c→aD a0→aD a1→aD a2→aD a3→aD a4→oL P T (aC [(113,kO),(112,i_)]) 21 [.agg (c5 a0 a1 a2 a3 a4)] (Fr g a0 a1 a2 a3 a4++CH c) 25 (f c a0 a1 a2 a3 a4).2 (Fr g a0 a1 a2 a3 a4++CH (f c a0 a1 a2 a3 a4).1) 25)
include hg hT hK hO hY
theorem acJ (c:γ)(hc:ok c){a0 a1 a2 a3 a4:Int}(o0:aD a0)(o1:aD a1)(o2:aD a2)(o3:aD a3)(o4:aD a4){Rv:SV→List (Nat × HB)→Nat→Prop}{Rp:List PanicEntry→List (Nat × HB)→Nat→Prop}
  (aY:Rv (.sb (f c a0 a1 a2 a3 a4).2) (Fr g a0 a1 a2 a3 a4++CH (f c a0 a1 a2 a3 a4).1) 25) :
  bG P 111 [.si .i64 5,.sp 22 0,.sp 23 0,.sp 4 0,.sp 24 0] (Fr g a0 a1 a2 a3 a4++CH c) 25 Rv Rp:=by
 have gg:=cA
 refine DM gg.ok Tryz.func111 (c:=code Tryz.f111) rfl (Nat.le_of_ble_eq_true rfl) _ _ _ (λG2 b_=>?_) aY
 refine Br.mk (λ_=>?_) (λh=>by cases h)
 refine hY c _ _ _ _ _ hc o0 o1 o2 o3 o4 _ _ _ _ _ _ _ _ _ _ _ _ _ _ _ aj rfl rfl rfl rfl rfl rfl rfl ?_
 refine⟨λj=>j,?_,rfl,rfl,bJ _,rfl,rfl⟩
 exact c6 (A:=Fr g a0 a1 a2 a3 a4) (B:=Fr g a0 a1 a2 a3 a4) (hT _) (hK _) rfl Q0
theorem acI (c:γ)(hc:ok c){a0 a1 a2 a3:Int}(o0:aD a0)(o1:aD a1)(o2:aD a2)(o3:aD a3){b4:Int}{Rv:SV→List (Nat × HB)→Nat→Prop}{Rp:List PanicEntry→List (Nat × HB)→Nat→Prop}
  (aY:∀e4:Int,Rv (.sb (jE f g c a0 a1 a2 a3).2) (Fr g a0 a1 a2 a3 e4++CH (jE f g c a0 a1 a2 a3).1) 25) :
  bG P 111 [.si .i64 4,.sp 22 0,.sp 23 0,.sp 4 0,.sp 24 0] (Fr g a0 a1 a2 a3 b4++CH c) 25 Rv Rp:=by
 have gg:=cA
 refine eI (ι:=Int) gg.ok Tryz.func111 (c:=code Tryz.f111) rfl (Nat.le_of_ble_eq_true rfl) (λ_=>.sb (jE f g c a0 a1 a2 a3).2) (λx=>Fr g a0 a1 a2 a3 x++CH (jE f g c a0 a1 a2 a3).1) 25 (λG2 b_=>?_) (λx=>aY x)
 obtain⟨R,hR⟩:∃R,jE f g c a0 a1 a2 a3=R:=⟨_,rfl⟩
 rw[hR]
 have jg:=hg
 unfold eo at jg
 have p0:=o0
 unfold aD at p0
 have p1:=o1
 unfold aD at p1
 have p2:=o2
 unfold aD at p2
 have p3:=o3
 unfold aD at p3
 refine Br.mk (λh=>by cases h) (λ_=>?_)
 refine aa.mk (cS 4 5 rfl) ?_
 refine cm (gg.ok _ _ _) 25 (λx:{x:Int × γ × Int // g.l4≤x.1∧(x.1≤g.h4+1∨x.1=g.l4)∧dH (λc k=>f c a0 a1 a2 a3 k) x.2.1 ((cx x.1 g.h4).filter λk=>gR g.st a0 a1 a2 a3 k 4)=R∧ok x.2.1} =>
  ⟨[(0,⟨[],.si .i64 4⟩),(1,⟨[],.sp 22 0⟩),(2,⟨[],.sp 23 0⟩),(3,⟨[],.sp 4 0⟩),(4,⟨[],.sp 24 0⟩),(7,⟨[],.si .i64 x.1.1⟩)],[],
  Fr g a0 a1 a2 a3 x.1.2.2++CH x.1.2.1,25,[]⟩) (λx=>(g.h4+1-x.1.1).toNat) b_ ⟨(g.l4,c,b4),by omega,.inr rfl,hR,hc⟩ (λj=>j) ?_ ?_
 ·refine⟨?_,c6 (A:=Fr g a0 a1 a2 a3 b4) (B:=Fr g a0 a1 a2 a3 b4) (hT _) (hK _) rfl Q0,bJ _,rfl,rfl,rfl,trivial⟩
  exact Q0
 ·rintro⟨⟨k,c,b4⟩,c9,bA,aI,hc⟩
  refine aa.mk (cS 4 5 rfl) ?_
  refine Br.mk (λh1=>?_) (λh1=>?_)
  ·have h1:k≤g.h4:=of_decide_eq_true h1
   have aI:dH (λc k=>f c a0 a1 a2 a3 k) c ((cx k g.h4).filter λk=>gR g.st a0 a1 a2 a3 k 4)=R:=aI
   rw[rR h1] at aI
   refine aa.mk ⟨by decide,by decide,by decide,by decide⟩ ?_
   refine cm (gg.ok _ _ _) 25 (λx:{i:Nat // i≤4∧gR g.st a0 a1 a2 a3 k i=true} =>
    ⟨[(0,⟨[],.si .i64 4⟩),(1,⟨[],.sp 22 0⟩),(2,⟨[],.sp 23 0⟩),(3,⟨[],.sp 4 0⟩),(4,⟨[],.sp 24 0⟩),(7,⟨[],.si .i64 k⟩),(36,⟨[],.ss 23 0 4 5⟩),(37,⟨[],.si .i64 4⟩),(38,⟨[],.si .i64 x.1⟩)],[],
    Fr g a0 a1 a2 a3 b4++CH c,25,[]⟩) (λx=>4-x.1) b_ ⟨0,Nat.zero_le _,rfl⟩ (λj=>j) ?_ ?_
   ·refine⟨?_,c6 (A:=Fr g a0 a1 a2 a3 b4) (B:=Fr g a0 a1 a2 a3 b4) (hT _) (hK _) rfl Q0,bJ _,rfl,rfl,rfl,trivial⟩
    exact Q0
   ·rintro⟨i,hi,hf⟩
    rcases(show i=0∨i=1∨i=2∨i=3∨i=4 by omega) with rfl|rfl|rfl|rfl|rfl
    ·show exec _ _ ⟨[(0,⟨[],.si .i64 4⟩),(1,⟨[],.sp 22 0⟩),(2,⟨[],.sp 23 0⟩),(3,⟨[],.sp 4 0⟩),(4,⟨[],.sp 24 0⟩),(7,⟨[],.si .i64 k⟩),(36,⟨[],.ss 23 0 4 5⟩),(37,⟨[],.si .i64 4⟩),(38,⟨[],.si .i64 0⟩)],[],Fr g a0 a1 a2 a3 b4++CH c,25,[]⟩ _
     refine Br.mk (λ_=>?_) (λh=>by cases h)
     refine aa.mk (cS 0 4 rfl) ?_
     refine cU (gg.ok _ _ _) bP [0,0,3,7,15,31,31,127,31,31,799,2047,4095,31,8223,24607,57375,122911,262143,524287] [] 19 (by kernel_rfl) ?_
     refine aa.mk (show ae .i64 (((0:Nat):Int)+4) from⟨by decide,by decide⟩) ?_
     refine aa.mk (bZ (show ae .i64 (a0-k) from⟨by omega,by omega⟩)) ?_
     refine aa.mk (bZ (show ae .i64 (k-a0) from⟨by omega,by omega⟩)) ?_
     refine Br.mk (λh2=>?_) (λh2=>?_)
     ·have h2:(decide (eZ 0 4=1)&&decide (max (a0-k) (k-a0)>g.st))=true:=h2
      have hn:cN g.st a0 k=false:=by rw[cN,(Bool.and_eq_true_iff.1 h2).2];rfl
      have dI:gR g.st a0 a1 a2 a3 k 4=false:=by simp[gR,hn]
      refine aa.mk (show ae .i64 (k+1) from⟨by omega,by omega⟩) ⟨⟨(k+1,c,b4),by show g.l4≤k+1;omega,.inl (by show k+1≤g.h4+1;omega),by rw[←aI];rw[List.filter_cons_of_neg (by rw[dI];simp)],hc⟩,λj=>j,⟨?_,c6 (A:=_::Fr g a0 a1 a2 a3 b4) (B:=Fr g a0 a1 a2 a3 b4) (hT _) (hK _) rfl Q0,bJ _,rfl,rfl,rfl,trivial⟩,by show(g.h4+1-(k+1)).toNat<(g.h4+1-k).toNat;omega⟩
      exact Q0
     ·have h2:(decide (eZ 0 4=1)&&decide (max (a0-k) (k-a0)>g.st))=false:=h2
      have hn:cN g.st a0 k=true:=by rw[cN,show decide (max (a0-k) (k-a0)>g.st)=false from by rw[show eZ 0 4=1 from rfl] at h2;simpa using h2];rfl
      refine aa.mk (dS 0 rfl) ⟨⟨1,by omega,by simp_all [gR]⟩,λj=>j,⟨?_,c6 (A:=_::Fr g a0 a1 a2 a3 b4) (B:=Fr g a0 a1 a2 a3 b4) (hT _) (hK _) rfl Q0,bJ _,rfl,rfl,rfl,trivial⟩,by show 4-1<4-0;omega⟩
      exact Q0
    ·show exec _ _ ⟨[(0,⟨[],.si .i64 4⟩),(1,⟨[],.sp 22 0⟩),(2,⟨[],.sp 23 0⟩),(3,⟨[],.sp 4 0⟩),(4,⟨[],.sp 24 0⟩),(7,⟨[],.si .i64 k⟩),(36,⟨[],.ss 23 0 4 5⟩),(37,⟨[],.si .i64 4⟩),(38,⟨[],.si .i64 1⟩)],[],Fr g a0 a1 a2 a3 b4++CH c,25,[]⟩ _
     refine Br.mk (λ_=>?_) (λh=>by cases h)
     refine aa.mk (cS 1 4 rfl) ?_
     refine cU (gg.ok _ _ _) bP [0,0,3,7,15,31,31,127,31,31,799,2047,4095,31,8223,24607,57375,122911,262143,524287] [] 19 (by kernel_rfl) ?_
     refine aa.mk (show ae .i64 (((1:Nat):Int)+4) from⟨by decide,by decide⟩) ?_
     refine aa.mk (bZ (show ae .i64 (a1-k) from⟨by omega,by omega⟩)) ?_
     refine aa.mk (bZ (show ae .i64 (k-a1) from⟨by omega,by omega⟩)) ?_
     refine Br.mk (λh2=>?_) (λh2=>?_)
     ·have h2:(decide (eZ 1 4=1)&&decide (max (a1-k) (k-a1)>g.st))=true:=h2
      have hn:cN g.st a1 k=false:=by rw[cN,(Bool.and_eq_true_iff.1 h2).2];rfl
      have dI:gR g.st a0 a1 a2 a3 k 4=false:=by simp[gR,hn]
      refine aa.mk (show ae .i64 (k+1) from⟨by omega,by omega⟩) ⟨⟨(k+1,c,b4),by show g.l4≤k+1;omega,.inl (by show k+1≤g.h4+1;omega),by rw[←aI];rw[List.filter_cons_of_neg (by rw[dI];simp)],hc⟩,λj=>j,⟨?_,c6 (A:=_::Fr g a0 a1 a2 a3 b4) (B:=Fr g a0 a1 a2 a3 b4) (hT _) (hK _) rfl Q0,bJ _,rfl,rfl,rfl,trivial⟩,by show(g.h4+1-(k+1)).toNat<(g.h4+1-k).toNat;omega⟩
      exact Q0
     ·have h2:(decide (eZ 1 4=1)&&decide (max (a1-k) (k-a1)>g.st))=false:=h2
      have hn:cN g.st a1 k=true:=by rw[cN,show decide (max (a1-k) (k-a1)>g.st)=false from by rw[show eZ 1 4=1 from rfl] at h2;simpa using h2];rfl
      refine aa.mk (dS 1 rfl) ⟨⟨2,by omega,by simp_all [gR]⟩,λj=>j,⟨?_,c6 (A:=_::Fr g a0 a1 a2 a3 b4) (B:=Fr g a0 a1 a2 a3 b4) (hT _) (hK _) rfl Q0,bJ _,rfl,rfl,rfl,trivial⟩,by show 4-2<4-1;omega⟩
      exact Q0
    ·show exec _ _ ⟨[(0,⟨[],.si .i64 4⟩),(1,⟨[],.sp 22 0⟩),(2,⟨[],.sp 23 0⟩),(3,⟨[],.sp 4 0⟩),(4,⟨[],.sp 24 0⟩),(7,⟨[],.si .i64 k⟩),(36,⟨[],.ss 23 0 4 5⟩),(37,⟨[],.si .i64 4⟩),(38,⟨[],.si .i64 2⟩)],[],Fr g a0 a1 a2 a3 b4++CH c,25,[]⟩ _
     refine Br.mk (λ_=>?_) (λh=>by cases h)
     refine aa.mk (cS 2 4 rfl) ?_
     refine cU (gg.ok _ _ _) bP [0,0,3,7,15,31,31,127,31,31,799,2047,4095,31,8223,24607,57375,122911,262143,524287] [] 19 (by kernel_rfl) ?_
     refine aa.mk (show ae .i64 (((2:Nat):Int)+4) from⟨by decide,by decide⟩) ?_
     refine aa.mk (bZ (show ae .i64 (a2-k) from⟨by omega,by omega⟩)) ?_
     refine aa.mk (bZ (show ae .i64 (k-a2) from⟨by omega,by omega⟩)) ?_
     refine Br.mk (λh2=>?_) (λh2=>?_)
     ·have h2:(decide (eZ 2 4=1)&&decide (max (a2-k) (k-a2)>g.st))=true:=h2
      exact absurd h2 (by rw[show eZ 2 4=2 from rfl];simp)
     ·have h2:(decide (eZ 2 4=1)&&decide (max (a2-k) (k-a2)>g.st))=false:=h2
      have hn:True:=trivial
      refine aa.mk (dS 2 rfl) ⟨⟨3,by omega,by simp_all [gR]⟩,λj=>j,⟨?_,c6 (A:=Fr g a0 a1 a2 a3 b4) (B:=Fr g a0 a1 a2 a3 b4) (hT _) (hK _) rfl Q0,bJ _,rfl,rfl,rfl,trivial⟩,by show 4-3<4-2;omega⟩
      exact Q0
    ·show exec _ _ ⟨[(0,⟨[],.si .i64 4⟩),(1,⟨[],.sp 22 0⟩),(2,⟨[],.sp 23 0⟩),(3,⟨[],.sp 4 0⟩),(4,⟨[],.sp 24 0⟩),(7,⟨[],.si .i64 k⟩),(36,⟨[],.ss 23 0 4 5⟩),(37,⟨[],.si .i64 4⟩),(38,⟨[],.si .i64 3⟩)],[],Fr g a0 a1 a2 a3 b4++CH c,25,[]⟩ _
     refine Br.mk (λ_=>?_) (λh=>by cases h)
     refine aa.mk (cS 3 4 rfl) ?_
     refine cU (gg.ok _ _ _) bP [0,0,3,7,15,31,31,127,31,31,799,2047,4095,31,8223,24607,57375,122911,262143,524287] [] 19 (by kernel_rfl) ?_
     refine aa.mk (show ae .i64 (((3:Nat):Int)+4) from⟨by decide,by decide⟩) ?_
     refine aa.mk (bZ (show ae .i64 (a3-k) from⟨by omega,by omega⟩)) ?_
     refine aa.mk (bZ (show ae .i64 (k-a3) from⟨by omega,by omega⟩)) ?_
     refine Br.mk (λh2=>?_) (λh2=>?_)
     ·have h2:(decide (eZ 3 4=1)&&decide (max (a3-k) (k-a3)>g.st))=true:=h2
      have hn:cN g.st a3 k=false:=by rw[cN,(Bool.and_eq_true_iff.1 h2).2];rfl
      have dI:gR g.st a0 a1 a2 a3 k 4=false:=by simp[gR,hn]
      refine aa.mk (show ae .i64 (k+1) from⟨by omega,by omega⟩) ⟨⟨(k+1,c,b4),by show g.l4≤k+1;omega,.inl (by show k+1≤g.h4+1;omega),by rw[←aI];rw[List.filter_cons_of_neg (by rw[dI];simp)],hc⟩,λj=>j,⟨?_,c6 (A:=_::Fr g a0 a1 a2 a3 b4) (B:=Fr g a0 a1 a2 a3 b4) (hT _) (hK _) rfl Q0,bJ _,rfl,rfl,rfl,trivial⟩,by show(g.h4+1-(k+1)).toNat<(g.h4+1-k).toNat;omega⟩
      exact Q0
     ·have h2:(decide (eZ 3 4=1)&&decide (max (a3-k) (k-a3)>g.st))=false:=h2
      have hn:cN g.st a3 k=true:=by rw[cN,show decide (max (a3-k) (k-a3)>g.st)=false from by rw[show eZ 3 4=1 from rfl] at h2;simpa using h2];rfl
      refine aa.mk (dS 3 rfl) ⟨⟨4,by omega,by simp_all [gR]⟩,λj=>j,⟨?_,c6 (A:=_::Fr g a0 a1 a2 a3 b4) (B:=Fr g a0 a1 a2 a3 b4) (hT _) (hK _) rfl Q0,bJ _,rfl,rfl,rfl,trivial⟩,by show 4-4<4-3;omega⟩
      exact Q0
    ·refine Br.mk (λh=>by cases h) (λ_=>?_)
     have dI:gR g.st a0 a1 a2 a3 k 4=true:=hf
     rw[List.filter_cons_of_pos (by exact dI)] at aI
     refine aa.mk (cS 4 5 rfl) ?_
     refine aa.mk (dS 4 rfl) ?_
     refine av (gg.ok _ _ _) aj rfl rfl rfl rfl ?_
     refine⟨xM,?_⟩
     refine lW (Fr g a0 a1 a2 a3 k++CH c) (c6 (A:=_::Fr g a0 a1 a2 a3 b4) (B:=Fr g a0 a1 a2 a3 k) (hT _) (hK _) rfl Q0) ?_
     refine acJ hg hT hK hO hY c hc o0 o1 o2 o3 (show aD k from⟨by omega,by omega⟩) ?_
     refine Br.mk (λh2=>?_) (λh2=>?_)
     ·have h2:(!(f c a0 a1 a2 a3 k).2)=true:=h2
      have h2:(f c a0 a1 a2 a3 k).2=false:=by simpa using h2
      rw[n7 (f:=λc k=>f c a0 a1 a2 a3 k) (c:=c) (x:=k) h2] at aI
      refine⟨k,λj=>j,?_,by rw[←aI];rfl,rfl,bJ _,rfl,rfl⟩
      rw[←aI]
      exact c6 (A:=Fr g a0 a1 a2 a3 k) (B:=Fr g a0 a1 a2 a3 k) (hT _) (hK _) rfl Q0
     ·have h2:(!(f c a0 a1 a2 a3 k).2)=false:=h2
      have h2:(f c a0 a1 a2 a3 k).2=true:=by simpa using h2
      rw[n6 (f:=λc k=>f c a0 a1 a2 a3 k) (c:=c) (x:=k) h2] at aI
      have aU:ok (f c a0 a1 a2 a3 k).1:=hO _ _ _ _ _ _ hc h2
      refine aa.mk (show ae .i64 (k+1) from⟨by omega,by omega⟩) ⟨⟨(k+1,(f c a0 a1 a2 a3 k).1,k),by show g.l4≤k+1;omega,.inl (by show k+1≤g.h4+1;omega),aI,aU⟩,λj=>j,⟨?_,c6 (A:=Fr g a0 a1 a2 a3 k) (B:=Fr g a0 a1 a2 a3 k) (hT _) (hK _) rfl Q0,bJ _,rfl,rfl,rfl,trivial⟩,by show(g.h4+1-(k+1)).toNat<(g.h4+1-k).toNat;omega⟩
      exact Q0
  ·have h1:¬k≤g.h4:=of_decide_eq_false h1
   have aI:dH (λc k=>f c a0 a1 a2 a3 k) c ((cx k g.h4).filter λk=>gR g.st a0 a1 a2 a3 k 4)=R:=aI
   rw[rS (by omega)] at aI
   have aI:(c,true)=R:=aI
   refine⟨b4,λj=>j,?_,by rw[←aI];rfl,rfl,bJ _,rfl,rfl⟩
   have e:CH R.1=CH c:=by rw[←aI]
   show gN (λj=>j) 25 (Fr g a0 a1 a2 a3 b4++CH c) (Fr g a0 a1 a2 a3 b4++CH R.1)
   rw[e]
   exact c6 (A:=Fr g a0 a1 a2 a3 b4) (B:=Fr g a0 a1 a2 a3 b4) (hT _) (hK _) rfl Q0
theorem acH (c:γ)(hc:ok c){a0 a1 a2:Int}(o0:aD a0)(o1:aD a1)(o2:aD a2){b3 b4:Int}{Rv:SV→List (Nat × HB)→Nat→Prop}{Rp:List PanicEntry→List (Nat × HB)→Nat→Prop}
  (aY:∀e3 e4:Int,Rv (.sb (jD f g c a0 a1 a2).2) (Fr g a0 a1 a2 e3 e4++CH (jD f g c a0 a1 a2).1) 25) :
  bG P 111 [.si .i64 3,.sp 22 0,.sp 23 0,.sp 4 0,.sp 24 0] (Fr g a0 a1 a2 b3 b4++CH c) 25 Rv Rp:=by
 have gg:=cA
 refine eI (ι:=Int × Int) gg.ok Tryz.func111 (c:=code Tryz.f111) rfl (Nat.le_of_ble_eq_true rfl) (λ_=>.sb (jD f g c a0 a1 a2).2) (λx=>Fr g a0 a1 a2 x.1 x.2++CH (jD f g c a0 a1 a2).1) 25 (λG2 b_=>?_) (λx=>aY x.1 x.2)
 obtain⟨R,hR⟩:∃R,jD f g c a0 a1 a2=R:=⟨_,rfl⟩
 rw[hR]
 have jg:=hg
 unfold eo at jg
 have p0:=o0
 unfold aD at p0
 have p1:=o1
 unfold aD at p1
 have p2:=o2
 unfold aD at p2
 refine Br.mk (λh=>by cases h) (λ_=>?_)
 refine aa.mk (cS 3 5 rfl) ?_
 refine cm (gg.ok _ _ _) 25 (λx:{x:Int × γ × Int × Int // g.l3≤x.1∧(x.1≤g.h3+1∨x.1=g.l3)∧dH (λc k=>jE f g c a0 a1 a2 k) x.2.1 ((cx x.1 g.h3).filter λk=>ik g.st a0 a1 a2 k 3)=R∧ok x.2.1} =>
  ⟨[(0,⟨[],.si .i64 3⟩),(1,⟨[],.sp 22 0⟩),(2,⟨[],.sp 23 0⟩),(3,⟨[],.sp 4 0⟩),(4,⟨[],.sp 24 0⟩),(7,⟨[],.si .i64 x.1.1⟩)],[],
  Fr g a0 a1 a2 x.1.2.2.1 x.1.2.2.2++CH x.1.2.1,25,[]⟩) (λx=>(g.h3+1-x.1.1).toNat) b_ ⟨(g.l3,c,(b3,b4)),by omega,.inr rfl,hR,hc⟩ (λj=>j) ?_ ?_
 ·refine⟨?_,c6 (A:=Fr g a0 a1 a2 b3 b4) (B:=Fr g a0 a1 a2 b3 b4) (hT _) (hK _) rfl Q0,bJ _,rfl,rfl,rfl,trivial⟩
  exact Q0
 ·rintro⟨⟨k,c,b3,b4⟩,c9,bA,aI,hc⟩
  refine aa.mk (cS 3 5 rfl) ?_
  refine Br.mk (λh1=>?_) (λh1=>?_)
  ·have h1:k≤g.h3:=of_decide_eq_true h1
   have aI:dH (λc k=>jE f g c a0 a1 a2 k) c ((cx k g.h3).filter λk=>ik g.st a0 a1 a2 k 3)=R:=aI
   rw[rR h1] at aI
   refine aa.mk ⟨by decide,by decide,by decide,by decide⟩ ?_
   refine cm (gg.ok _ _ _) 25 (λx:{i:Nat // i≤3∧ik g.st a0 a1 a2 k i=true} =>
    ⟨[(0,⟨[],.si .i64 3⟩),(1,⟨[],.sp 22 0⟩),(2,⟨[],.sp 23 0⟩),(3,⟨[],.sp 4 0⟩),(4,⟨[],.sp 24 0⟩),(7,⟨[],.si .i64 k⟩),(36,⟨[],.ss 23 0 3 5⟩),(37,⟨[],.si .i64 3⟩),(38,⟨[],.si .i64 x.1⟩)],[],
    Fr g a0 a1 a2 b3 b4++CH c,25,[]⟩) (λx=>3-x.1) b_ ⟨0,Nat.zero_le _,rfl⟩ (λj=>j) ?_ ?_
   ·refine⟨?_,c6 (A:=Fr g a0 a1 a2 b3 b4) (B:=Fr g a0 a1 a2 b3 b4) (hT _) (hK _) rfl Q0,bJ _,rfl,rfl,rfl,trivial⟩
    exact Q0
   ·rintro⟨i,hi,hf⟩
    rcases(show i=0∨i=1∨i=2∨i=3 by omega) with rfl|rfl|rfl|rfl
    ·show exec _ _ ⟨[(0,⟨[],.si .i64 3⟩),(1,⟨[],.sp 22 0⟩),(2,⟨[],.sp 23 0⟩),(3,⟨[],.sp 4 0⟩),(4,⟨[],.sp 24 0⟩),(7,⟨[],.si .i64 k⟩),(36,⟨[],.ss 23 0 3 5⟩),(37,⟨[],.si .i64 3⟩),(38,⟨[],.si .i64 0⟩)],[],Fr g a0 a1 a2 b3 b4++CH c,25,[]⟩ _
     refine Br.mk (λ_=>?_) (λh=>by cases h)
     refine aa.mk (cS 0 3 rfl) ?_
     refine cU (gg.ok _ _ _) bP [0,0,3,7,15,31,31,127,31,31,799,2047,4095,31,8223,24607,57375,122911,262143,524287] [] 19 (by kernel_rfl) ?_
     refine aa.mk (show ae .i64 (((0:Nat):Int)+3) from⟨by decide,by decide⟩) ?_
     refine aa.mk (bZ (show ae .i64 (a0-k) from⟨by omega,by omega⟩)) ?_
     refine aa.mk (bZ (show ae .i64 (k-a0) from⟨by omega,by omega⟩)) ?_
     refine Br.mk (λh2=>?_) (λh2=>?_)
     ·have h2:(decide (eZ 0 3=1)&&decide (max (a0-k) (k-a0)>g.st))=true:=h2
      have hn:cN g.st a0 k=false:=by rw[cN,(Bool.and_eq_true_iff.1 h2).2];rfl
      have dI:ik g.st a0 a1 a2 k 3=false:=by simp[ik,hn]
      refine aa.mk (show ae .i64 (k+1) from⟨by omega,by omega⟩) ⟨⟨(k+1,c,(b3,b4)),by show g.l3≤k+1;omega,.inl (by show k+1≤g.h3+1;omega),by rw[←aI];rw[List.filter_cons_of_neg (by rw[dI];simp)],hc⟩,λj=>j,⟨?_,c6 (A:=_::Fr g a0 a1 a2 b3 b4) (B:=Fr g a0 a1 a2 b3 b4) (hT _) (hK _) rfl Q0,bJ _,rfl,rfl,rfl,trivial⟩,by show(g.h3+1-(k+1)).toNat<(g.h3+1-k).toNat;omega⟩
      exact Q0
     ·have h2:(decide (eZ 0 3=1)&&decide (max (a0-k) (k-a0)>g.st))=false:=h2
      have hn:cN g.st a0 k=true:=by rw[cN,show decide (max (a0-k) (k-a0)>g.st)=false from by rw[show eZ 0 3=1 from rfl] at h2;simpa using h2];rfl
      refine aa.mk (dS 0 rfl) ⟨⟨1,by omega,by simp_all [ik]⟩,λj=>j,⟨?_,c6 (A:=_::Fr g a0 a1 a2 b3 b4) (B:=Fr g a0 a1 a2 b3 b4) (hT _) (hK _) rfl Q0,bJ _,rfl,rfl,rfl,trivial⟩,by show 3-1<3-0;omega⟩
      exact Q0
    ·show exec _ _ ⟨[(0,⟨[],.si .i64 3⟩),(1,⟨[],.sp 22 0⟩),(2,⟨[],.sp 23 0⟩),(3,⟨[],.sp 4 0⟩),(4,⟨[],.sp 24 0⟩),(7,⟨[],.si .i64 k⟩),(36,⟨[],.ss 23 0 3 5⟩),(37,⟨[],.si .i64 3⟩),(38,⟨[],.si .i64 1⟩)],[],Fr g a0 a1 a2 b3 b4++CH c,25,[]⟩ _
     refine Br.mk (λ_=>?_) (λh=>by cases h)
     refine aa.mk (cS 1 3 rfl) ?_
     refine cU (gg.ok _ _ _) bP [0,0,3,7,15,31,31,127,31,31,799,2047,4095,31,8223,24607,57375,122911,262143,524287] [] 19 (by kernel_rfl) ?_
     refine aa.mk (show ae .i64 (((1:Nat):Int)+3) from⟨by decide,by decide⟩) ?_
     refine aa.mk (bZ (show ae .i64 (a1-k) from⟨by omega,by omega⟩)) ?_
     refine aa.mk (bZ (show ae .i64 (k-a1) from⟨by omega,by omega⟩)) ?_
     refine Br.mk (λh2=>?_) (λh2=>?_)
     ·have h2:(decide (eZ 1 3=1)&&decide (max (a1-k) (k-a1)>g.st))=true:=h2
      exact absurd h2 (by rw[show eZ 1 3=2 from rfl];simp)
     ·have h2:(decide (eZ 1 3=1)&&decide (max (a1-k) (k-a1)>g.st))=false:=h2
      have hn:True:=trivial
      refine aa.mk (dS 1 rfl) ⟨⟨2,by omega,by simp_all [ik]⟩,λj=>j,⟨?_,c6 (A:=Fr g a0 a1 a2 b3 b4) (B:=Fr g a0 a1 a2 b3 b4) (hT _) (hK _) rfl Q0,bJ _,rfl,rfl,rfl,trivial⟩,by show 3-2<3-1;omega⟩
      exact Q0
    ·show exec _ _ ⟨[(0,⟨[],.si .i64 3⟩),(1,⟨[],.sp 22 0⟩),(2,⟨[],.sp 23 0⟩),(3,⟨[],.sp 4 0⟩),(4,⟨[],.sp 24 0⟩),(7,⟨[],.si .i64 k⟩),(36,⟨[],.ss 23 0 3 5⟩),(37,⟨[],.si .i64 3⟩),(38,⟨[],.si .i64 2⟩)],[],Fr g a0 a1 a2 b3 b4++CH c,25,[]⟩ _
     refine Br.mk (λ_=>?_) (λh=>by cases h)
     refine aa.mk (cS 2 3 rfl) ?_
     refine cU (gg.ok _ _ _) bP [0,0,3,7,15,31,31,127,31,31,799,2047,4095,31,8223,24607,57375,122911,262143,524287] [] 19 (by kernel_rfl) ?_
     refine aa.mk (show ae .i64 (((2:Nat):Int)+3) from⟨by decide,by decide⟩) ?_
     refine aa.mk (bZ (show ae .i64 (a2-k) from⟨by omega,by omega⟩)) ?_
     refine aa.mk (bZ (show ae .i64 (k-a2) from⟨by omega,by omega⟩)) ?_
     refine Br.mk (λh2=>?_) (λh2=>?_)
     ·have h2:(decide (eZ 2 3=1)&&decide (max (a2-k) (k-a2)>g.st))=true:=h2
      have hn:cN g.st a2 k=false:=by rw[cN,(Bool.and_eq_true_iff.1 h2).2];rfl
      have dI:ik g.st a0 a1 a2 k 3=false:=by simp[ik,hn]
      refine aa.mk (show ae .i64 (k+1) from⟨by omega,by omega⟩) ⟨⟨(k+1,c,(b3,b4)),by show g.l3≤k+1;omega,.inl (by show k+1≤g.h3+1;omega),by rw[←aI];rw[List.filter_cons_of_neg (by rw[dI];simp)],hc⟩,λj=>j,⟨?_,c6 (A:=_::Fr g a0 a1 a2 b3 b4) (B:=Fr g a0 a1 a2 b3 b4) (hT _) (hK _) rfl Q0,bJ _,rfl,rfl,rfl,trivial⟩,by show(g.h3+1-(k+1)).toNat<(g.h3+1-k).toNat;omega⟩
      exact Q0
     ·have h2:(decide (eZ 2 3=1)&&decide (max (a2-k) (k-a2)>g.st))=false:=h2
      have hn:cN g.st a2 k=true:=by rw[cN,show decide (max (a2-k) (k-a2)>g.st)=false from by rw[show eZ 2 3=1 from rfl] at h2;simpa using h2];rfl
      refine aa.mk (dS 2 rfl) ⟨⟨3,by omega,by simp_all [ik]⟩,λj=>j,⟨?_,c6 (A:=_::Fr g a0 a1 a2 b3 b4) (B:=Fr g a0 a1 a2 b3 b4) (hT _) (hK _) rfl Q0,bJ _,rfl,rfl,rfl,trivial⟩,by show 3-3<3-2;omega⟩
      exact Q0
    ·refine Br.mk (λh=>by cases h) (λ_=>?_)
     have dI:ik g.st a0 a1 a2 k 3=true:=hf
     rw[List.filter_cons_of_pos (by exact dI)] at aI
     refine aa.mk (cS 3 5 rfl) ?_
     refine aa.mk (dS 3 rfl) ?_
     refine av (gg.ok _ _ _) aj rfl rfl rfl rfl ?_
     refine⟨xM,?_⟩
     refine lW (Fr g a0 a1 a2 k b4++CH c) (c6 (A:=_::Fr g a0 a1 a2 b3 b4) (B:=Fr g a0 a1 a2 k b4) (hT _) (hK _) rfl Q0) ?_
     refine acI hg hT hK hO hY c hc o0 o1 o2 (show aD k from⟨by omega,by omega⟩) ?_
     intro e4
     refine Br.mk (λh2=>?_) (λh2=>?_)
     ·have h2:(!(jE f g c a0 a1 a2 k).2)=true:=h2
      have h2:(jE f g c a0 a1 a2 k).2=false:=by simpa using h2
      rw[n7 (f:=λc k=>jE f g c a0 a1 a2 k) (c:=c) (x:=k) h2] at aI
      refine⟨(k,e4),λj=>j,?_,by rw[←aI];rfl,rfl,bJ _,rfl,rfl⟩
      rw[←aI]
      exact c6 (A:=Fr g a0 a1 a2 k e4) (B:=Fr g a0 a1 a2 k e4) (hT _) (hK _) rfl Q0
     ·have h2:(!(jE f g c a0 a1 a2 k).2)=false:=h2
      have h2:(jE f g c a0 a1 a2 k).2=true:=by simpa using h2
      rw[n6 (f:=λc k=>jE f g c a0 a1 a2 k) (c:=c) (x:=k) h2] at aI
      have aU:ok (jE f g c a0 a1 a2 k).1:=RN hO hc h2
      refine aa.mk (show ae .i64 (k+1) from⟨by omega,by omega⟩) ⟨⟨(k+1,(jE f g c a0 a1 a2 k).1,(k,e4)),by show g.l3≤k+1;omega,.inl (by show k+1≤g.h3+1;omega),aI,aU⟩,λj=>j,⟨?_,c6 (A:=Fr g a0 a1 a2 k e4) (B:=Fr g a0 a1 a2 k e4) (hT _) (hK _) rfl Q0,bJ _,rfl,rfl,rfl,trivial⟩,by show(g.h3+1-(k+1)).toNat<(g.h3+1-k).toNat;omega⟩
      exact Q0
  ·have h1:¬k≤g.h3:=of_decide_eq_false h1
   have aI:dH (λc k=>jE f g c a0 a1 a2 k) c ((cx k g.h3).filter λk=>ik g.st a0 a1 a2 k 3)=R:=aI
   rw[rS (by omega)] at aI
   have aI:(c,true)=R:=aI
   refine⟨(b3,b4),λj=>j,?_,by rw[←aI];rfl,rfl,bJ _,rfl,rfl⟩
   have e:CH R.1=CH c:=by rw[←aI]
   show gN (λj=>j) 25 (Fr g a0 a1 a2 b3 b4++CH c) (Fr g a0 a1 a2 b3 b4++CH R.1)
   rw[e]
   exact c6 (A:=Fr g a0 a1 a2 b3 b4) (B:=Fr g a0 a1 a2 b3 b4) (hT _) (hK _) rfl Q0
theorem acG (c:γ)(hc:ok c){a0 a1:Int}(o0:aD a0)(o1:aD a1){b2 b3 b4:Int}{Rv:SV→List (Nat × HB)→Nat→Prop}{Rp:List PanicEntry→List (Nat × HB)→Nat→Prop}
  (aY:∀e2 e3 e4:Int,Rv (.sb (jC f g c a0 a1).2) (Fr g a0 a1 e2 e3 e4++CH (jC f g c a0 a1).1) 25) :
  bG P 111 [.si .i64 2,.sp 22 0,.sp 23 0,.sp 4 0,.sp 24 0] (Fr g a0 a1 b2 b3 b4++CH c) 25 Rv Rp:=by
 have gg:=cA
 refine eI (ι:=Int × Int × Int) gg.ok Tryz.func111 (c:=code Tryz.f111) rfl (Nat.le_of_ble_eq_true rfl) (λ_=>.sb (jC f g c a0 a1).2) (λx=>Fr g a0 a1 x.1 x.2.1 x.2.2++CH (jC f g c a0 a1).1) 25 (λG2 b_=>?_) (λx=>aY x.1 x.2.1 x.2.2)
 obtain⟨R,hR⟩:∃R,jC f g c a0 a1=R:=⟨_,rfl⟩
 rw[hR]
 have jg:=hg
 unfold eo at jg
 have p0:=o0
 unfold aD at p0
 have p1:=o1
 unfold aD at p1
 refine Br.mk (λh=>by cases h) (λ_=>?_)
 refine aa.mk (cS 2 5 rfl) ?_
 refine cm (gg.ok _ _ _) 25 (λx:{x:Int × γ × Int × Int × Int // g.l2≤x.1∧(x.1≤g.h2+1∨x.1=g.l2)∧dH (λc k=>jD f g c a0 a1 k) x.2.1 ((cx x.1 g.h2).filter λk=>iE g.st a0 a1 k 2)=R∧ok x.2.1} =>
  ⟨[(0,⟨[],.si .i64 2⟩),(1,⟨[],.sp 22 0⟩),(2,⟨[],.sp 23 0⟩),(3,⟨[],.sp 4 0⟩),(4,⟨[],.sp 24 0⟩),(7,⟨[],.si .i64 x.1.1⟩)],[],
  Fr g a0 a1 x.1.2.2.1 x.1.2.2.2.1 x.1.2.2.2.2++CH x.1.2.1,25,[]⟩) (λx=>(g.h2+1-x.1.1).toNat) b_ ⟨(g.l2,c,(b2,b3,b4)),by omega,.inr rfl,hR,hc⟩ (λj=>j) ?_ ?_
 ·refine⟨?_,c6 (A:=Fr g a0 a1 b2 b3 b4) (B:=Fr g a0 a1 b2 b3 b4) (hT _) (hK _) rfl Q0,bJ _,rfl,rfl,rfl,trivial⟩
  exact Q0
 ·rintro⟨⟨k,c,b2,b3,b4⟩,c9,bA,aI,hc⟩
  refine aa.mk (cS 2 5 rfl) ?_
  refine Br.mk (λh1=>?_) (λh1=>?_)
  ·have h1:k≤g.h2:=of_decide_eq_true h1
   have aI:dH (λc k=>jD f g c a0 a1 k) c ((cx k g.h2).filter λk=>iE g.st a0 a1 k 2)=R:=aI
   rw[rR h1] at aI
   refine aa.mk ⟨by decide,by decide,by decide,by decide⟩ ?_
   refine cm (gg.ok _ _ _) 25 (λx:{i:Nat // i≤2∧iE g.st a0 a1 k i=true} =>
    ⟨[(0,⟨[],.si .i64 2⟩),(1,⟨[],.sp 22 0⟩),(2,⟨[],.sp 23 0⟩),(3,⟨[],.sp 4 0⟩),(4,⟨[],.sp 24 0⟩),(7,⟨[],.si .i64 k⟩),(36,⟨[],.ss 23 0 2 5⟩),(37,⟨[],.si .i64 2⟩),(38,⟨[],.si .i64 x.1⟩)],[],
    Fr g a0 a1 b2 b3 b4++CH c,25,[]⟩) (λx=>2-x.1) b_ ⟨0,Nat.zero_le _,rfl⟩ (λj=>j) ?_ ?_
   ·refine⟨?_,c6 (A:=Fr g a0 a1 b2 b3 b4) (B:=Fr g a0 a1 b2 b3 b4) (hT _) (hK _) rfl Q0,bJ _,rfl,rfl,rfl,trivial⟩
    exact Q0
   ·rintro⟨i,hi,hf⟩
    rcases(show i=0∨i=1∨i=2 by omega) with rfl|rfl|rfl
    ·show exec _ _ ⟨[(0,⟨[],.si .i64 2⟩),(1,⟨[],.sp 22 0⟩),(2,⟨[],.sp 23 0⟩),(3,⟨[],.sp 4 0⟩),(4,⟨[],.sp 24 0⟩),(7,⟨[],.si .i64 k⟩),(36,⟨[],.ss 23 0 2 5⟩),(37,⟨[],.si .i64 2⟩),(38,⟨[],.si .i64 0⟩)],[],Fr g a0 a1 b2 b3 b4++CH c,25,[]⟩ _
     refine Br.mk (λ_=>?_) (λh=>by cases h)
     refine aa.mk (cS 0 2 rfl) ?_
     refine cU (gg.ok _ _ _) bP [0,0,3,7,15,31,31,127,31,31,799,2047,4095,31,8223,24607,57375,122911,262143,524287] [] 19 (by kernel_rfl) ?_
     refine aa.mk (show ae .i64 (((0:Nat):Int)+2) from⟨by decide,by decide⟩) ?_
     refine aa.mk (bZ (show ae .i64 (a0-k) from⟨by omega,by omega⟩)) ?_
     refine aa.mk (bZ (show ae .i64 (k-a0) from⟨by omega,by omega⟩)) ?_
     refine Br.mk (λh2=>?_) (λh2=>?_)
     ·have h2:(decide (eZ 0 2=1)&&decide (max (a0-k) (k-a0)>g.st))=true:=h2
      have hn:cN g.st a0 k=false:=by rw[cN,(Bool.and_eq_true_iff.1 h2).2];rfl
      have dI:iE g.st a0 a1 k 2=false:=by simp[iE,hn]
      refine aa.mk (show ae .i64 (k+1) from⟨by omega,by omega⟩) ⟨⟨(k+1,c,(b2,b3,b4)),by show g.l2≤k+1;omega,.inl (by show k+1≤g.h2+1;omega),by rw[←aI];rw[List.filter_cons_of_neg (by rw[dI];simp)],hc⟩,λj=>j,⟨?_,c6 (A:=_::Fr g a0 a1 b2 b3 b4) (B:=Fr g a0 a1 b2 b3 b4) (hT _) (hK _) rfl Q0,bJ _,rfl,rfl,rfl,trivial⟩,by show(g.h2+1-(k+1)).toNat<(g.h2+1-k).toNat;omega⟩
      exact Q0
     ·have h2:(decide (eZ 0 2=1)&&decide (max (a0-k) (k-a0)>g.st))=false:=h2
      have hn:cN g.st a0 k=true:=by rw[cN,show decide (max (a0-k) (k-a0)>g.st)=false from by rw[show eZ 0 2=1 from rfl] at h2;simpa using h2];rfl
      refine aa.mk (dS 0 rfl) ⟨⟨1,by omega,by simp_all [iE]⟩,λj=>j,⟨?_,c6 (A:=_::Fr g a0 a1 b2 b3 b4) (B:=Fr g a0 a1 b2 b3 b4) (hT _) (hK _) rfl Q0,bJ _,rfl,rfl,rfl,trivial⟩,by show 2-1<2-0;omega⟩
      exact Q0
    ·show exec _ _ ⟨[(0,⟨[],.si .i64 2⟩),(1,⟨[],.sp 22 0⟩),(2,⟨[],.sp 23 0⟩),(3,⟨[],.sp 4 0⟩),(4,⟨[],.sp 24 0⟩),(7,⟨[],.si .i64 k⟩),(36,⟨[],.ss 23 0 2 5⟩),(37,⟨[],.si .i64 2⟩),(38,⟨[],.si .i64 1⟩)],[],Fr g a0 a1 b2 b3 b4++CH c,25,[]⟩ _
     refine Br.mk (λ_=>?_) (λh=>by cases h)
     refine aa.mk (cS 1 2 rfl) ?_
     refine cU (gg.ok _ _ _) bP [0,0,3,7,15,31,31,127,31,31,799,2047,4095,31,8223,24607,57375,122911,262143,524287] [] 19 (by kernel_rfl) ?_
     refine aa.mk (show ae .i64 (((1:Nat):Int)+2) from⟨by decide,by decide⟩) ?_
     refine aa.mk (bZ (show ae .i64 (a1-k) from⟨by omega,by omega⟩)) ?_
     refine aa.mk (bZ (show ae .i64 (k-a1) from⟨by omega,by omega⟩)) ?_
     refine Br.mk (λh2=>?_) (λh2=>?_)
     ·have h2:(decide (eZ 1 2=1)&&decide (max (a1-k) (k-a1)>g.st))=true:=h2
      have hn:cN g.st a1 k=false:=by rw[cN,(Bool.and_eq_true_iff.1 h2).2];rfl
      have dI:iE g.st a0 a1 k 2=false:=by simp[iE,hn]
      refine aa.mk (show ae .i64 (k+1) from⟨by omega,by omega⟩) ⟨⟨(k+1,c,(b2,b3,b4)),by show g.l2≤k+1;omega,.inl (by show k+1≤g.h2+1;omega),by rw[←aI];rw[List.filter_cons_of_neg (by rw[dI];simp)],hc⟩,λj=>j,⟨?_,c6 (A:=_::Fr g a0 a1 b2 b3 b4) (B:=Fr g a0 a1 b2 b3 b4) (hT _) (hK _) rfl Q0,bJ _,rfl,rfl,rfl,trivial⟩,by show(g.h2+1-(k+1)).toNat<(g.h2+1-k).toNat;omega⟩
      exact Q0
     ·have h2:(decide (eZ 1 2=1)&&decide (max (a1-k) (k-a1)>g.st))=false:=h2
      have hn:cN g.st a1 k=true:=by rw[cN,show decide (max (a1-k) (k-a1)>g.st)=false from by rw[show eZ 1 2=1 from rfl] at h2;simpa using h2];rfl
      refine aa.mk (dS 1 rfl) ⟨⟨2,by omega,by simp_all [iE]⟩,λj=>j,⟨?_,c6 (A:=_::Fr g a0 a1 b2 b3 b4) (B:=Fr g a0 a1 b2 b3 b4) (hT _) (hK _) rfl Q0,bJ _,rfl,rfl,rfl,trivial⟩,by show 2-2<2-1;omega⟩
      exact Q0
    ·refine Br.mk (λh=>by cases h) (λ_=>?_)
     have dI:iE g.st a0 a1 k 2=true:=hf
     rw[List.filter_cons_of_pos (by exact dI)] at aI
     refine aa.mk (cS 2 5 rfl) ?_
     refine aa.mk (dS 2 rfl) ?_
     refine av (gg.ok _ _ _) aj rfl rfl rfl rfl ?_
     refine⟨xM,?_⟩
     refine lW (Fr g a0 a1 k b3 b4++CH c) (c6 (A:=_::Fr g a0 a1 b2 b3 b4) (B:=Fr g a0 a1 k b3 b4) (hT _) (hK _) rfl Q0) ?_
     refine acH hg hT hK hO hY c hc o0 o1 (show aD k from⟨by omega,by omega⟩) ?_
     intro e3 e4
     refine Br.mk (λh2=>?_) (λh2=>?_)
     ·have h2:(!(jD f g c a0 a1 k).2)=true:=h2
      have h2:(jD f g c a0 a1 k).2=false:=by simpa using h2
      rw[n7 (f:=λc k=>jD f g c a0 a1 k) (c:=c) (x:=k) h2] at aI
      refine⟨(k,e3,e4),λj=>j,?_,by rw[←aI];rfl,rfl,bJ _,rfl,rfl⟩
      rw[←aI]
      exact c6 (A:=Fr g a0 a1 k e3 e4) (B:=Fr g a0 a1 k e3 e4) (hT _) (hK _) rfl Q0
     ·have h2:(!(jD f g c a0 a1 k).2)=false:=h2
      have h2:(jD f g c a0 a1 k).2=true:=by simpa using h2
      rw[n6 (f:=λc k=>jD f g c a0 a1 k) (c:=c) (x:=k) h2] at aI
      have aU:ok (jD f g c a0 a1 k).1:=RM hO hc h2
      refine aa.mk (show ae .i64 (k+1) from⟨by omega,by omega⟩) ⟨⟨(k+1,(jD f g c a0 a1 k).1,(k,e3,e4)),by show g.l2≤k+1;omega,.inl (by show k+1≤g.h2+1;omega),aI,aU⟩,λj=>j,⟨?_,c6 (A:=Fr g a0 a1 k e3 e4) (B:=Fr g a0 a1 k e3 e4) (hT _) (hK _) rfl Q0,bJ _,rfl,rfl,rfl,trivial⟩,by show(g.h2+1-(k+1)).toNat<(g.h2+1-k).toNat;omega⟩
      exact Q0
  ·have h1:¬k≤g.h2:=of_decide_eq_false h1
   have aI:dH (λc k=>jD f g c a0 a1 k) c ((cx k g.h2).filter λk=>iE g.st a0 a1 k 2)=R:=aI
   rw[rS (by omega)] at aI
   have aI:(c,true)=R:=aI
   refine⟨(b2,b3,b4),λj=>j,?_,by rw[←aI];rfl,rfl,bJ _,rfl,rfl⟩
   have e:CH R.1=CH c:=by rw[←aI]
   show gN (λj=>j) 25 (Fr g a0 a1 b2 b3 b4++CH c) (Fr g a0 a1 b2 b3 b4++CH R.1)
   rw[e]
   exact c6 (A:=Fr g a0 a1 b2 b3 b4) (B:=Fr g a0 a1 b2 b3 b4) (hT _) (hK _) rfl Q0
theorem acF (c:γ)(hc:ok c){a0:Int}(o0:aD a0){b1 b2 b3 b4:Int}{Rv:SV→List (Nat × HB)→Nat→Prop}{Rp:List PanicEntry→List (Nat × HB)→Nat→Prop}
  (aY:∀e1 e2 e3 e4:Int,Rv (.sb (jB f g c a0).2) (Fr g a0 e1 e2 e3 e4++CH (jB f g c a0).1) 25) :
  bG P 111 [.si .i64 1,.sp 22 0,.sp 23 0,.sp 4 0,.sp 24 0] (Fr g a0 b1 b2 b3 b4++CH c) 25 Rv Rp:=by
 have gg:=cA
 refine eI (ι:=Int × Int × Int × Int) gg.ok Tryz.func111 (c:=code Tryz.f111) rfl (Nat.le_of_ble_eq_true rfl) (λ_=>.sb (jB f g c a0).2) (λx=>Fr g a0 x.1 x.2.1 x.2.2.1 x.2.2.2++CH (jB f g c a0).1) 25 (λG2 b_=>?_) (λx=>aY x.1 x.2.1 x.2.2.1 x.2.2.2)
 obtain⟨R,hR⟩:∃R,jB f g c a0=R:=⟨_,rfl⟩
 rw[hR]
 have jg:=hg
 unfold eo at jg
 have p0:=o0
 unfold aD at p0
 refine Br.mk (λh=>by cases h) (λ_=>?_)
 refine aa.mk (cS 1 5 rfl) ?_
 refine cm (gg.ok _ _ _) 25 (λx:{x:Int × γ × Int × Int × Int × Int // g.l1≤x.1∧(x.1≤g.h1+1∨x.1=g.l1)∧dH (λc k=>jC f g c a0 k) x.2.1 ((cx x.1 g.h1).filter λk=>jQ g.st a0 k 1)=R∧ok x.2.1} =>
  ⟨[(0,⟨[],.si .i64 1⟩),(1,⟨[],.sp 22 0⟩),(2,⟨[],.sp 23 0⟩),(3,⟨[],.sp 4 0⟩),(4,⟨[],.sp 24 0⟩),(7,⟨[],.si .i64 x.1.1⟩)],[],
  Fr g a0 x.1.2.2.1 x.1.2.2.2.1 x.1.2.2.2.2.1 x.1.2.2.2.2.2++CH x.1.2.1,25,[]⟩) (λx=>(g.h1+1-x.1.1).toNat) b_ ⟨(g.l1,c,(b1,b2,b3,b4)),by omega,.inr rfl,hR,hc⟩ (λj=>j) ?_ ?_
 ·refine⟨?_,c6 (A:=Fr g a0 b1 b2 b3 b4) (B:=Fr g a0 b1 b2 b3 b4) (hT _) (hK _) rfl Q0,bJ _,rfl,rfl,rfl,trivial⟩
  exact Q0
 ·rintro⟨⟨k,c,b1,b2,b3,b4⟩,c9,bA,aI,hc⟩
  refine aa.mk (cS 1 5 rfl) ?_
  refine Br.mk (λh1=>?_) (λh1=>?_)
  ·have h1:k≤g.h1:=of_decide_eq_true h1
   have aI:dH (λc k=>jC f g c a0 k) c ((cx k g.h1).filter λk=>jQ g.st a0 k 1)=R:=aI
   rw[rR h1] at aI
   refine aa.mk ⟨by decide,by decide,by decide,by decide⟩ ?_
   refine cm (gg.ok _ _ _) 25 (λx:{i:Nat // i≤1∧jQ g.st a0 k i=true} =>
    ⟨[(0,⟨[],.si .i64 1⟩),(1,⟨[],.sp 22 0⟩),(2,⟨[],.sp 23 0⟩),(3,⟨[],.sp 4 0⟩),(4,⟨[],.sp 24 0⟩),(7,⟨[],.si .i64 k⟩),(36,⟨[],.ss 23 0 1 5⟩),(37,⟨[],.si .i64 1⟩),(38,⟨[],.si .i64 x.1⟩)],[],
    Fr g a0 b1 b2 b3 b4++CH c,25,[]⟩) (λx=>1-x.1) b_ ⟨0,Nat.zero_le _,rfl⟩ (λj=>j) ?_ ?_
   ·refine⟨?_,c6 (A:=Fr g a0 b1 b2 b3 b4) (B:=Fr g a0 b1 b2 b3 b4) (hT _) (hK _) rfl Q0,bJ _,rfl,rfl,rfl,trivial⟩
    exact Q0
   ·rintro⟨i,hi,hf⟩
    rcases(show i=0∨i=1 by omega) with rfl|rfl
    ·show exec _ _ ⟨[(0,⟨[],.si .i64 1⟩),(1,⟨[],.sp 22 0⟩),(2,⟨[],.sp 23 0⟩),(3,⟨[],.sp 4 0⟩),(4,⟨[],.sp 24 0⟩),(7,⟨[],.si .i64 k⟩),(36,⟨[],.ss 23 0 1 5⟩),(37,⟨[],.si .i64 1⟩),(38,⟨[],.si .i64 0⟩)],[],Fr g a0 b1 b2 b3 b4++CH c,25,[]⟩ _
     refine Br.mk (λ_=>?_) (λh=>by cases h)
     refine aa.mk (cS 0 1 rfl) ?_
     refine cU (gg.ok _ _ _) bP [0,0,3,7,15,31,31,127,31,31,799,2047,4095,31,8223,24607,57375,122911,262143,524287] [] 19 (by kernel_rfl) ?_
     refine aa.mk (show ae .i64 (((0:Nat):Int)+1) from⟨by decide,by decide⟩) ?_
     refine aa.mk (bZ (show ae .i64 (a0-k) from⟨by omega,by omega⟩)) ?_
     refine aa.mk (bZ (show ae .i64 (k-a0) from⟨by omega,by omega⟩)) ?_
     refine Br.mk (λh2=>?_) (λh2=>?_)
     ·have h2:(decide (eZ 0 1=1)&&decide (max (a0-k) (k-a0)>g.st))=true:=h2
      have hn:cN g.st a0 k=false:=by rw[cN,(Bool.and_eq_true_iff.1 h2).2];rfl
      have dI:jQ g.st a0 k 1=false:=by simp[jQ,hn]
      refine aa.mk (show ae .i64 (k+1) from⟨by omega,by omega⟩) ⟨⟨(k+1,c,(b1,b2,b3,b4)),by show g.l1≤k+1;omega,.inl (by show k+1≤g.h1+1;omega),by rw[←aI];rw[List.filter_cons_of_neg (by rw[dI];simp)],hc⟩,λj=>j,⟨?_,c6 (A:=_::Fr g a0 b1 b2 b3 b4) (B:=Fr g a0 b1 b2 b3 b4) (hT _) (hK _) rfl Q0,bJ _,rfl,rfl,rfl,trivial⟩,by show(g.h1+1-(k+1)).toNat<(g.h1+1-k).toNat;omega⟩
      exact Q0
     ·have h2:(decide (eZ 0 1=1)&&decide (max (a0-k) (k-a0)>g.st))=false:=h2
      have hn:cN g.st a0 k=true:=by rw[cN,show decide (max (a0-k) (k-a0)>g.st)=false from by rw[show eZ 0 1=1 from rfl] at h2;simpa using h2];rfl
      refine aa.mk (dS 0 rfl) ⟨⟨1,by omega,by simp_all [jQ]⟩,λj=>j,⟨?_,c6 (A:=_::Fr g a0 b1 b2 b3 b4) (B:=Fr g a0 b1 b2 b3 b4) (hT _) (hK _) rfl Q0,bJ _,rfl,rfl,rfl,trivial⟩,by show 1-1<1-0;omega⟩
      exact Q0
    ·refine Br.mk (λh=>by cases h) (λ_=>?_)
     have dI:jQ g.st a0 k 1=true:=hf
     rw[List.filter_cons_of_pos (by exact dI)] at aI
     refine aa.mk (cS 1 5 rfl) ?_
     refine aa.mk (dS 1 rfl) ?_
     refine av (gg.ok _ _ _) aj rfl rfl rfl rfl ?_
     refine⟨xM,?_⟩
     refine lW (Fr g a0 k b2 b3 b4++CH c) (c6 (A:=_::Fr g a0 b1 b2 b3 b4) (B:=Fr g a0 k b2 b3 b4) (hT _) (hK _) rfl Q0) ?_
     refine acG hg hT hK hO hY c hc o0 (show aD k from⟨by omega,by omega⟩) ?_
     intro e2 e3 e4
     refine Br.mk (λh2=>?_) (λh2=>?_)
     ·have h2:(!(jC f g c a0 k).2)=true:=h2
      have h2:(jC f g c a0 k).2=false:=by simpa using h2
      rw[n7 (f:=λc k=>jC f g c a0 k) (c:=c) (x:=k) h2] at aI
      refine⟨(k,e2,e3,e4),λj=>j,?_,by rw[←aI];rfl,rfl,bJ _,rfl,rfl⟩
      rw[←aI]
      exact c6 (A:=Fr g a0 k e2 e3 e4) (B:=Fr g a0 k e2 e3 e4) (hT _) (hK _) rfl Q0
     ·have h2:(!(jC f g c a0 k).2)=false:=h2
      have h2:(jC f g c a0 k).2=true:=by simpa using h2
      rw[n6 (f:=λc k=>jC f g c a0 k) (c:=c) (x:=k) h2] at aI
      have aU:ok (jC f g c a0 k).1:=RL hO hc h2
      refine aa.mk (show ae .i64 (k+1) from⟨by omega,by omega⟩) ⟨⟨(k+1,(jC f g c a0 k).1,(k,e2,e3,e4)),by show g.l1≤k+1;omega,.inl (by show k+1≤g.h1+1;omega),aI,aU⟩,λj=>j,⟨?_,c6 (A:=Fr g a0 k e2 e3 e4) (B:=Fr g a0 k e2 e3 e4) (hT _) (hK _) rfl Q0,bJ _,rfl,rfl,rfl,trivial⟩,by show(g.h1+1-(k+1)).toNat<(g.h1+1-k).toNat;omega⟩
      exact Q0
  ·have h1:¬k≤g.h1:=of_decide_eq_false h1
   have aI:dH (λc k=>jC f g c a0 k) c ((cx k g.h1).filter λk=>jQ g.st a0 k 1)=R:=aI
   rw[rS (by omega)] at aI
   have aI:(c,true)=R:=aI
   refine⟨(b1,b2,b3,b4),λj=>j,?_,by rw[←aI];rfl,rfl,bJ _,rfl,rfl⟩
   have e:CH R.1=CH c:=by rw[←aI]
   show gN (λj=>j) 25 (Fr g a0 b1 b2 b3 b4++CH c) (Fr g a0 b1 b2 b3 b4++CH R.1)
   rw[e]
   exact c6 (A:=Fr g a0 b1 b2 b3 b4) (B:=Fr g a0 b1 b2 b3 b4) (hT _) (hK _) rfl Q0
theorem acE (c:γ)(hc:ok c){b0 b1 b2 b3 b4:Int}{Rv:SV→List (Nat × HB)→Nat→Prop}{Rp:List PanicEntry→List (Nat × HB)→Nat→Prop}
  (aY:∀e0 e1 e2 e3 e4:Int,Rv (.sb (nq f g c).2) (Fr g e0 e1 e2 e3 e4++CH (nq f g c).1) 25) :
  bG P 111 [.si .i64 0,.sp 22 0,.sp 23 0,.sp 4 0,.sp 24 0] (Fr g b0 b1 b2 b3 b4++CH c) 25 Rv Rp:=by
 have gg:=cA
 refine eI (ι:=Int × Int × Int × Int × Int) gg.ok Tryz.func111 (c:=code Tryz.f111) rfl (Nat.le_of_ble_eq_true rfl) (λ_=>.sb (nq f g c).2) (λx=>Fr g x.1 x.2.1 x.2.2.1 x.2.2.2.1 x.2.2.2.2++CH (nq f g c).1) 25 (λG2 b_=>?_) (λx=>aY x.1 x.2.1 x.2.2.1 x.2.2.2.1 x.2.2.2.2)
 obtain⟨R,hR⟩:∃R,nq f g c=R:=⟨_,rfl⟩
 rw[hR]
 have jg:=hg
 unfold eo at jg
 refine Br.mk (λh=>by cases h) (λ_=>?_)
 refine aa.mk (cS 0 5 rfl) ?_
 refine cm (gg.ok _ _ _) 25 (λx:{x:Int × γ × Int × Int × Int × Int × Int // g.l0≤x.1∧(x.1≤g.h0+1∨x.1=g.l0)∧dH (λc k=>jB f g c  k) x.2.1 ((cx x.1 g.h0).filter λk=>l7 g.st  k 0)=R∧ok x.2.1} =>
  ⟨[(0,⟨[],.si .i64 0⟩),(1,⟨[],.sp 22 0⟩),(2,⟨[],.sp 23 0⟩),(3,⟨[],.sp 4 0⟩),(4,⟨[],.sp 24 0⟩),(7,⟨[],.si .i64 x.1.1⟩)],[],
  Fr g x.1.2.2.1 x.1.2.2.2.1 x.1.2.2.2.2.1 x.1.2.2.2.2.2.1 x.1.2.2.2.2.2.2++CH x.1.2.1,25,[]⟩) (λx=>(g.h0+1-x.1.1).toNat) b_ ⟨(g.l0,c,(b0,b1,b2,b3,b4)),by omega,.inr rfl,hR,hc⟩ (λj=>j) ?_ ?_
 ·refine⟨?_,c6 (A:=Fr g b0 b1 b2 b3 b4) (B:=Fr g b0 b1 b2 b3 b4) (hT _) (hK _) rfl Q0,bJ _,rfl,rfl,rfl,trivial⟩
  exact Q0
 ·rintro⟨⟨k,c,b0,b1,b2,b3,b4⟩,c9,bA,aI,hc⟩
  refine aa.mk (cS 0 5 rfl) ?_
  refine Br.mk (λh1=>?_) (λh1=>?_)
  ·have h1:k≤g.h0:=of_decide_eq_true h1
   have aI:dH (λc k=>jB f g c  k) c ((cx k g.h0).filter λk=>l7 g.st  k 0)=R:=aI
   rw[rR h1] at aI
   refine aa.mk ⟨by decide,by decide,by decide,by decide⟩ ?_
   refine cm (gg.ok _ _ _) 25 (λx:{i:Nat // i≤0∧l7 g.st  k i=true} =>
    ⟨[(0,⟨[],.si .i64 0⟩),(1,⟨[],.sp 22 0⟩),(2,⟨[],.sp 23 0⟩),(3,⟨[],.sp 4 0⟩),(4,⟨[],.sp 24 0⟩),(7,⟨[],.si .i64 k⟩),(36,⟨[],.ss 23 0 0 5⟩),(37,⟨[],.si .i64 0⟩),(38,⟨[],.si .i64 x.1⟩)],[],
    Fr g b0 b1 b2 b3 b4++CH c,25,[]⟩) (λx=>0-x.1) b_ ⟨0,Nat.zero_le _,rfl⟩ (λj=>j) ?_ ?_
   ·refine⟨?_,c6 (A:=Fr g b0 b1 b2 b3 b4) (B:=Fr g b0 b1 b2 b3 b4) (hT _) (hK _) rfl Q0,bJ _,rfl,rfl,rfl,trivial⟩
    exact Q0
   ·rintro⟨i,hi,hf⟩
    rcases(show i=0 by omega) with rfl
    ·refine Br.mk (λh=>by cases h) (λ_=>?_)
     have dI:l7 g.st  k 0=true:=hf
     rw[List.filter_cons_of_pos (by exact dI)] at aI
     refine aa.mk (cS 0 5 rfl) ?_
     refine aa.mk (dS 0 rfl) ?_
     refine av (gg.ok _ _ _) aj rfl rfl rfl rfl ?_
     refine⟨xM,?_⟩
     refine lW (Fr g k b1 b2 b3 b4++CH c) (c6 (A:=_::Fr g b0 b1 b2 b3 b4) (B:=Fr g k b1 b2 b3 b4) (hT _) (hK _) rfl Q0) ?_
     refine acF hg hT hK hO hY c hc (show aD k from⟨by omega,by omega⟩) ?_
     intro e1 e2 e3 e4
     refine Br.mk (λh2=>?_) (λh2=>?_)
     ·have h2:(!(jB f g c  k).2)=true:=h2
      have h2:(jB f g c  k).2=false:=by simpa using h2
      rw[n7 (f:=λc k=>jB f g c  k) (c:=c) (x:=k) h2] at aI
      refine⟨(k,e1,e2,e3,e4),λj=>j,?_,by rw[←aI];rfl,rfl,bJ _,rfl,rfl⟩
      rw[←aI]
      exact c6 (A:=Fr g k e1 e2 e3 e4) (B:=Fr g k e1 e2 e3 e4) (hT _) (hK _) rfl Q0
     ·have h2:(!(jB f g c  k).2)=false:=h2
      have h2:(jB f g c  k).2=true:=by simpa using h2
      rw[n6 (f:=λc k=>jB f g c  k) (c:=c) (x:=k) h2] at aI
      have aU:ok (jB f g c  k).1:=abA hO hc h2
      refine aa.mk (show ae .i64 (k+1) from⟨by omega,by omega⟩) ⟨⟨(k+1,(jB f g c  k).1,(k,e1,e2,e3,e4)),by show g.l0≤k+1;omega,.inl (by show k+1≤g.h0+1;omega),aI,aU⟩,λj=>j,⟨?_,c6 (A:=Fr g k e1 e2 e3 e4) (B:=Fr g k e1 e2 e3 e4) (hT _) (hK _) rfl Q0,bJ _,rfl,rfl,rfl,trivial⟩,by show(g.h0+1-(k+1)).toNat<(g.h0+1-k).toNat;omega⟩
      exact Q0
  ·have h1:¬k≤g.h0:=of_decide_eq_false h1
   have aI:dH (λc k=>jB f g c  k) c ((cx k g.h0).filter λk=>l7 g.st  k 0)=R:=aI
   rw[rS (by omega)] at aI
   have aI:(c,true)=R:=aI
   refine⟨(b0,b1,b2,b3,b4),λj=>j,?_,by rw[←aI];rfl,rfl,bJ _,rfl,rfl⟩
   have e:CH R.1=CH c:=by rw[←aI]
   show gN (λj=>j) 25 (Fr g b0 b1 b2 b3 b4++CH c) (Fr g b0 b1 b2 b3 b4++CH R.1)
   rw[e]
   exact c6 (A:=Fr g b0 b1 b2 b3 b4) (B:=Fr g b0 b1 b2 b3 b4) (hT _) (hK _) rfl Q0
end
def Bx (g:aB):List (Nat × HB):=[(4,.cells 114 [.sp 1 0]),(1,.cells 155 (ub g))]
theorem tN {γ:Type}{f:γ→Int→Int→Int→Int→Int→γ × Bool}{g:aB}{CH:γ→List (Nat × HB)}{ok:γ→Prop}(hg:eo g)(hT:∀c,gN (λj=>j) 25 (CH c) (CH c))(hK:∀c,∀p∈CH c,uO p.1=true)
  (hO:∀c a0 a1 a2 a3 a4,ok c→(f c a0 a1 a2 a3 a4).2=true→ok (f c a0 a1 a2 a3 a4).1)
  (hY:∀c a0 a1 a2 a3 a4,ok c→aD a0→aD a1→aD a2→aD a3→aD a4→oL P T (aC [(113,kO),(112,i_)]) 21 [.agg (c5 a0 a1 a2 a3 a4)] (Fr g a0 a1 a2 a3 a4++CH c) 25 (f c a0 a1 a2 a3 a4).2 (Fr g a0 a1 a2 a3 a4++CH (f c a0 a1 a2 a3 a4).1) 25)
  (c:γ) (hc:ok c) {Rv:SV→List (Nat × HB)→Nat→Prop} {Rp:List PanicEntry→List (Nat × HB)→Nat→Prop} (aY:Rv (.bn []) (Bx g++CH (nq f g c).1) 25) :
  bG P 110 [.fy 21,.sp 4 0] (Bx g++CH c) 22 Rv Rp:=by
 have gg:=cA
 refine DM gg.ok Tryz.func110 (c:=code Tryz.f110) rfl (Nat.le_of_ble_eq_true rfl) _ _ _ (λG2 b_=>?_) aY
 refine av (gg.ok _ _ _) aj rfl rfl rfl rfl ?_
 refine⟨xM,?_⟩
 refine lW (Fr g 0 0 0 0 0++CH c) (c6 (A:=(24,_)::(24,_)::(23,_)::(22,_)::Bx g) (B:=Fr g 0 0 0 0 0) (hT _) (hK _) rfl Q0) ?_
 refine acE hg hT hK hO hY c hc ?_
 intro e0 e1 e2 e3 e4
 refine⟨λj=>j,?_,trivial,rfl,bJ _,rfl,rfl⟩
 exact c6 (A:=Fr g e0 e1 e2 e3 e4) (B:=Bx g) (hT _) (hK _) rfl Q0
def az (p:Int × Int):List SV:=[.si .i64 p.1,.si .i64 p.2]
def au (get:Nat→List SV)(i:Nat):Int × Int:=match get i with
 |[.si .i64 a,.si .i64 b]=>(a,b)
 |_=>(0,0)
def bQ (n:Nat)(get:Nat→List SV):Prop:=∀i,i<n→get i=az (au get i)
theorem dj (n:Nat)(v:Nat→Int × Int):bQ n (λi=>az (v i)):=λi hi=>rfl
def zS (i1 i2:Nat)(g:aB):List SV:=[.sl i1,.si .i64 g.l0,.si .i64 g.h0,.si .i64 g.l1,.si .i64 g.h1,.si .i64 g.l2,.si .i64 g.h2,.si .i64 g.l3,.si .i64 g.h3,.si .i64 g.l4,.si .i64 g.h4,.si .i64 g.st,.sl i2]
def oT (H:LH)(aZ:Nat)(K:aB→(n:Nat)→(Nat→List SV)→(m:Nat)→(Nat→List SV)→Option cJ):Option cJ :=
 match H aZ with
 |some (.cells 155 [.sl i1,.si .i64 l0,.si .i64 h0,.si .i64 l1,.si .i64 h1,.si .i64 l2,.si .i64 h2,.si .i64 l3,.si .i64 h3,.si .i64 l4,.si .i64 h4,.si .i64 st,.sl i2])=>(match cn 2 H i1,cn 2 H i2 with
  |some (n,get),some (m,aH)=>K ⟨l0,h0,l1,h1,l2,h2,l3,h3,l4,h4,st⟩ n get m aH
  |_,_=>none)
 |_=>none
theorem vy {H:LH}{aZ:Nat}{K:aB→(n:Nat)→(Nat→List SV)→(m:Nat)→(Nat→List SV)→Option cJ}{out:cJ}(h:oT H aZ K=some out) :
  ∃i1 i2 g n get m aH,H aZ=some (.cells 155 (zS i1 i2 g))∧cn 2 H i1=some (n,get)∧cn 2 H i2=some (m,aH)∧K g n get m aH=some out:=by
 unfold oT at h
 split at h
 ·rename_i e
  split at h
  ·rename_i e1 e2
   exact⟨_,_,⟨_,_,_,_,_,_,_,_,_,_,_⟩,_,_,_,_,e,e1,e2,h⟩
  ·cases h
 ·cases h
theorem vx {H H':LH}{aZ:Nat}{K:aB→(n:Nat)→(Nat→List SV)→(m:Nat)→(Nat→List SV)→Option cJ}{out:cJ}(hH:∀id hb,H id=some hb→H' id=some hb)(h:oT H aZ K=some out):oT H' aZ K=some out:=by
 unfold oT at h ⊢
 split at h
 ·rename_i e
  split at h
  ·rename_i e1 e2
   simp only[hH _ _ e,fk hH e1,fk hH e2]
   exact h
  ·cases h
 ·cases h
def jN (i1 aZ i2 n m:Nat)(g:aB)(l1 l2:Nat→Int × Int):List (Nat × HB):=[(i1,.ro 2 n λi=>az (l1 i)),(aZ,.cells 155 (ub g)),(i2,.ro 2 m λi=>az (l2 i))]
def DF (n m:Nat)(g:aB)(l1 l2:Nat→Int × Int):List (Nat × HB):=[(0,.ro 2 n λi=>az (l1 i)),(1,.cells 155 (ub g)),(2,.ro 2 m λi=>az (l2 i))]
def gi (i1 aZ i2 n m:Nat)(g:aB)(l1 l2:Nat→Int × Int):List (Nat × HB):=[(i1,.ro 2 n λi=>az (l1 i)),(aZ,.cells 155 (ub g)),(i2,.ro 2 m λi=>az (l2 i)),(i1,.ro 2 n λi=>az (l1 i))]
def uc (n m:Nat)(g:aB)(l1 l2:Nat→Int × Int):List (Nat × HB):=[(0,.ro 2 n λi=>az (l1 i)),(1,.cells 155 (ub g)),(2,.ro 2 m λi=>az (l2 i)),(3,.ro 2 n λi=>az (l1 i))]
theorem MU {H:LH}{aZ i1 i2 n m:Nat}{g:aB}{get aH:Nat→List SV}(h1:H aZ=some (.cells 155 (zS i1 i2 g)))(h2:cn 2 H i1=some (n,get))(h3:cn 2 H i2=some (m,aH))(hs:bQ n get)(ew:bQ m aH) :
  Hand H (jN i1 aZ i2 n m g (au get) (au aH)) where
 ok j c hb h:=by
  match j,h with
  |0,h =>
   simp[jN] at h;obtain⟨rfl,rfl⟩:=h
   exact gK h2 λi hi=>by rw[hs i hi];rfl
  |1,h=>simp[jN] at h;obtain⟨rfl,rfl⟩:=h;exact h1
  |2,h =>
   simp[jN] at h;obtain⟨rfl,rfl⟩:=h
   exact gK h3 λi hi=>by rw[ew i hi];rfl
  |j+3,h=>simp[jN] at h
 ids j c hb h:=by
  match j,h with
  |0,h=>simp[jN] at h;obtain⟨rfl,rfl⟩:=h;exact λi hi=>⟨trivial,trivial,trivial⟩
  |1,h=>simp[jN] at h;obtain⟨rfl,rfl⟩:=h;exact⟨(by show 0<3;decide),trivial,trivial,trivial,trivial,trivial,trivial,trivial,trivial,trivial,trivial,trivial,(by show 2<3;decide),trivial⟩
  |2,h=>simp[jN] at h;obtain⟨rfl,rfl⟩:=h;exact λi hi=>⟨trivial,trivial,trivial⟩
  |j+3,h=>simp[jN] at h
 inj i j c hb hb' h1 h2 o1 o2:=by
  match i,j,h1,h2 with
  |0,0,_,_=>rfl
  |1,1,_,_=>rfl
  |2,2,_,_=>rfl
  |0,1,h1,h2=>simp[jN] at h1;obtain⟨_,rfl⟩:=h1;cases o1
  |0,2,h1,h2=>simp[jN] at h1;obtain⟨_,rfl⟩:=h1;cases o1
  |1,0,h1,h2=>simp[jN] at h2;obtain⟨_,rfl⟩:=h2;cases o2
  |1,2,h1,h2=>simp[jN] at h2;obtain⟨_,rfl⟩:=h2;cases o2
  |2,0,h1,h2=>simp[jN] at h1;obtain⟨_,rfl⟩:=h1;cases o1
  |2,1,h1,h2=>simp[jN] at h1;obtain⟨_,rfl⟩:=h1;cases o1
  |i+3,_,h,_=>simp[jN] at h
  |_,j+3,_,h=>simp[jN] at h
theorem DG {H:LH}{aZ i1 i2 n m:Nat}{g:aB}{get aH:Nat→List SV}(h1:H aZ=some (.cells 155 (zS i1 i2 g)))(h2:cn 2 H i1=some (n,get))(h3:cn 2 H i2=some (m,aH))(hs:bQ n get)(ew:bQ m aH) :
  Hand H (gi i1 aZ i2 n m g (au get) (au aH)) where
 ok j c hb h:=by
  match j,h with
  |0,h =>
   simp[gi] at h;obtain⟨rfl,rfl⟩:=h
   exact gK h2 λi hi=>by rw[hs i hi];rfl
  |1,h=>simp[gi] at h;obtain⟨rfl,rfl⟩:=h;exact h1
  |2,h =>
   simp[gi] at h;obtain⟨rfl,rfl⟩:=h
   exact gK h3 λi hi=>by rw[ew i hi];rfl
  |3,h =>
   simp[gi] at h;obtain⟨rfl,rfl⟩:=h
   exact gK h2 λi hi=>by rw[hs i hi];rfl
  |j+4,h=>simp[gi] at h
 ids j c hb h:=by
  match j,h with
  |0,h=>simp[gi] at h;obtain⟨rfl,rfl⟩:=h;exact λi hi=>⟨trivial,trivial,trivial⟩
  |1,h=>simp[gi] at h;obtain⟨rfl,rfl⟩:=h;exact⟨(by show 0<4;decide),trivial,trivial,trivial,trivial,trivial,trivial,trivial,trivial,trivial,trivial,trivial,(by show 2<4;decide),trivial⟩
  |2,h=>simp[gi] at h;obtain⟨rfl,rfl⟩:=h;exact λi hi=>⟨trivial,trivial,trivial⟩
  |3,h=>simp[gi] at h;obtain⟨rfl,rfl⟩:=h;exact λi hi=>⟨trivial,trivial,trivial⟩
  |j+4,h=>simp[gi] at h
 inj i j c hb hb' h1 h2 o1 o2:=by
  match i,j,h1,h2 with
  |0,0,_,_=>rfl
  |1,1,_,_=>rfl
  |2,2,_,_=>rfl
  |0,1,h1,h2=>simp[gi] at h1;obtain⟨_,rfl⟩:=h1;cases o1
  |0,2,h1,h2=>simp[gi] at h1;obtain⟨_,rfl⟩:=h1;cases o1
  |1,0,h1,h2=>simp[gi] at h2;obtain⟨_,rfl⟩:=h2;cases o2
  |1,2,h1,h2=>simp[gi] at h2;obtain⟨_,rfl⟩:=h2;cases o2
  |2,0,h1,h2=>simp[gi] at h1;obtain⟨_,rfl⟩:=h1;cases o1
  |2,1,h1,h2=>simp[gi] at h1;obtain⟨_,rfl⟩:=h1;cases o1
  |0,3,h1,h2=>simp[gi] at h1;obtain⟨_,rfl⟩:=h1;cases o1
  |2,3,h1,h2=>simp[gi] at h1;obtain⟨_,rfl⟩:=h1;cases o1
  |1,3,h1,h2=>simp[gi] at h2;obtain⟨_,rfl⟩:=h2;cases o2
  |3,_,h1,h2=>simp[gi] at h1;obtain⟨_,rfl⟩:=h1;cases o1
  |i+4,_,h,_=>simp[gi] at h
  |_,j+4,_,h=>simp[gi] at h
abbrev B5:=Int × Int × Int × Int × Int
theorem oS:Body P 86:=aw Tryz.func86 (c:=code Tryz.f86) rfl (by decide)
theorem UF:Body P 85:=aw Tryz.func85 (c:=code Tryz.f85) rfl (by decide)
theorem Hb:Body P 87:=aw Tryz.func87 (c:=code Tryz.f87) rfl (by decide)
def AJ (_:Option B5)(a0 a1 a2 a3 a4:Int):Option B5 × Bool:=(some (a0,a1,a2,a3,a4),false)
def aeA:Option B5→List SV
 |none=>c5 0 0 0 0 0
 |some (a0,a1,a2,a3,a4)=>c5 a0 a1 a2 a3 a4
def acK:Option B5→LoopState
 |none=>.ready
 |some _=>.done
def abO:Option B5→Option Code
 |none=>none
 |some _=>some .ret
def Hc:Option B5→Bool
 |none=>false
 |some _=>true
noncomputable def DO (n m:Nat)(l1 l2:Nat→Int × Int)(fn:Nat)(c:Option B5):List (Nat × HB) :=
 [(21,.loop [(3,.sp 5 0),(4,.sp 6 0),(5,.sp 7 0),(7,.fn (.func 110) [] [.sp 4 0])] Tryz.f85.ntmps fn [8] (u9 (code Tryz.f85)) (u_ (code Tryz.f85)) 20 (acK c) (abO c)),(20,.eh),
  (7,.cells 4 [.sb (Hc c)]),(6,.cells 157 (aeA c)),(5,.cells 165 [.fn (.func 87) [] []]),(2,.ro 2 m λi=>az (l2 i)),(0,.ro 2 n λi=>az (l1 i))]
theorem tw {H:List (Nat × HB)}(h:(H.all λp=>uO p.1)=true):∀p∈H,uO p.1=true:=λp hp=>List.all_eq_true.1 h p hp
theorem aeJ {g:aB}{n m:Nat}{l1 l2:Nat→Int × Int}{fn:Nat}(a0 a1 a2 a3 a4:Int) :
  oL P T (aC [(113,kO),(112,i_)]) 21 [.agg (c5 a0 a1 a2 a3 a4)] (Fr g a0 a1 a2 a3 a4++DO n m l1 l2 fn none) 25 false (Fr g a0 a1 a2 a3 a4++DO n m l1 l2 fn (some (a0,a1,a2,a3,a4))) 25:=by
 refine tQ 21 cA.ok (l':=[(8,.agg (c5 a0 a1 a2 a3 a4)),(3,.sp 5 0),(4,.sp 6 0),(5,.sp 7 0),(7,.fn (.func 110) [] [.sp 4 0])]) rfl rfl (by decide) λG r hG=>?_
 refine av (cA.ok _ _ _) aj rfl rfl rfl rfl ?_
 refine⟨Hb,?_⟩
 refine cT cA.ok Tryz.func87 (c:=code Tryz.f87) rfl (Nat.le_of_ble_eq_true rfl) λG2 b_=>?_
 refine Br.mk (λ_=>?_) (λh=>by cases h)
 refine⟨λj=>j,?_,rfl,rfl,bJ _,rfl,rfl⟩
 repeat' (first|exact trivial|exact rfl|(intro i hi;exact⟨rfl,rfl⟩)|refine bh ?_|refine And.intro ?_ ?_)
def hasB (g:aB):Bool:=Hc (nq AJ g none).1
def xV:Ct:=λfr args H=>match args with
 |[.sp aZ 0]=>oT H aZ λg n get m aH=>some ⟨some (bQ n get∧bQ m aH∧eo g),some (!hasB g,iX 10),.sp aZ 0,[]⟩
 |_=>none
theorem Vc:cY xV:=by
 intro fr args H H' out hH h
 unfold xV at h ⊢
 split at h
 ·exact vx hH h
 ·cases h
theorem k61 {l:List (Nat × Ct)}(g0:Good P T l):aP P 52 xV:=by
 have g:=v7 ah
 refine bq (C:=aC _) g.ok Tryz.func52 (c:=code Tryz.f52) rfl λfr args H out h hp=>?_
 unfold xV at h
 split at h
 ·rename_i aZ
  obtain⟨i1,i2,p,n,get,m,aH,e1,e2,e3,h⟩:=vy h
  cases h
  obtain⟨hs,ew,hb⟩:bQ n get∧bQ m aH∧eo p:=hp
  have hh:=DG e1 e2 e3 hs ew
  refine⟨gi i1 aZ i2 n m p (au get) (au aH),[.sp 1 0],uc n m p (au get) (au aH),4,[],rfl,rfl,Nat.le_of_ble_eq_true rfl,hh,rfl,rfl,λG hG=>?_⟩
  generalize au get=l1
  generalize au aH=l2
  refine av (g.ok _ _ _) aj rfl rfl rfl rfl ?_
  refine⟨oS,?_⟩
  refine cT g.ok Tryz.func86 (c:=code Tryz.f86) rfl (Nat.le_of_ble_eq_true rfl) λG2 b_=>?_
  refine av (g.ok _ _ _) aj rfl rfl rfl rfl ?_
  refine⟨UF,?_⟩
  refine HA g.ok Tryz.func85 (c:=code Tryz.f85) rfl (Nat.le_of_ble_eq_true rfl) λG3 pc=>?_
  refine(show aX _ _ _ _ from ?_)
  refine weaken (g.ok _ _ _) (af:=⟨[(3,⟨[],.sp 5 0⟩),(4,⟨[],.sp 6 0⟩),(5,⟨[],.sp 7 0⟩),(7,⟨[],.fn (.func 110) [] [.sp 4 0]⟩)],[],
   (7,.cells 4 [.sb false])::(6,.cells 157 (c5 0 0 0 0 0))::(5,.cells 165 [.fn (.func 87) [] []])::(4,.cells 114 [.sp 1 0])::uc n m p l1 l2,20,[]⟩) 5 (λj=>j) pc ?_ ?_
  ·refine⟨?_,?_,bJ _,rfl,rfl,rfl,trivial⟩
   ·exact Q2
   ·exact Q1
  refine lK (g.ok _ _ _) rfl rfl rfl so ?_
  intro fn
  refine lW (Bx p++DO n m l1 l2 fn none) (by repeat' (first|exact trivial|exact rfl|(intro i hi;exact⟨rfl,rfl⟩)|refine bh ?_|refine And.intro ?_ ?_)) ?_
  refine tN (f:=AJ) (ok:=λc=>c=none) (CH:=DO n m l1 l2 fn) hb (λc=>?_) (λc=>tw (by cases c<;>rfl)) (λc a0 a1 a2 a3 a4 _ h=>by cases h) (λc a0 a1 a2 a3 a4 hc _ _ _ _ _=>by subst hc;exact aeJ a0 a1 a2 a3 a4) none rfl ?_
  ·cases c<;>repeat' (first|exact trivial|exact rfl|(intro i hi;exact⟨rfl,rfl⟩)|refine bh ?_|refine And.intro ?_ ?_)
  have hH:hasB p=Hc (nq AJ p none).1:=rfl
  generalize (nq AJ p none).1=R at hH
  cases R with
  |none =>
   refine Br.mk (λ_=>?_) (λh=>by cases h)
   exact⟨by rw[hH];rfl,Q1⟩
  |some x =>
   obtain⟨a0,a1,a2,a3,a4⟩:=x
   refine Br.mk (λh=>by cases h) (λ_=>?_)
   exact⟨.inr ⟨_,by rw[hH];rfl⟩,⟨⟨rfl,rfl⟩,rfl,trivial,Q1,rfl,rfl⟩⟩
 ·cases h
theorem OP {l:List (Nat × Ct)}(g:Good P T l):Good P T ((52,xV)::l):=g.add (k61 g) Vc (aw Tryz.func52 (c:=code Tryz.f52) rfl (by decide))
theorem zM:Body P 108:=aw Tryz.func108 (c:=code Tryz.f108) rfl (by decide)
theorem Dw:Body P 164:=aw Tryz.func164 (c:=code Tryz.f164) rfl (by decide)
theorem UA:Body P 162:=aw Tryz.func162 (c:=code Tryz.f162) rfl (by decide)
abbrev nG:=Option (Int × Int)
def l6 (L:Int→Int→Int→Int→Int→Int)(c:nG)(a0 a1 a2 a3 a4:Int):nG × Bool:=(match c with
 |none=>some (min (L a0 a1 a2 a3 a4) (L a0 a1 a2 a3 a4),max (L a0 a1 a2 a3 a4) (L a0 a1 a2 a3 a4))
 |some (lo,hi)=>some (min lo (L a0 a1 a2 a3 a4),max hi (L a0 a1 a2 a3 a4)),true)
def xN:nG→Bool
 |none=>false
 |some _=>true
def zw:nG→Int × Int
 |none=>(0,0)
 |some p=>p
def cE (q:Int)(a0 a1 a2 a3 a4:Int):Int:=if q=0 then a0 else if q=1 then a1 else if q=2 then a2 else if q=3 then a3 else a4
noncomputable def eS (OF:SV)(E:List (Nat × HB))(n m:Nat)(l1 l2:Nat→Int × Int)(fn:Nat)(c:nG):List (Nat × HB) :=
 [(21,.loop [(3,.sp 5 0),(4,.sp 6 0),(5,.sp 7 0),(9,.fn (.func 110) [] [.sp 4 0])] Tryz.f107.ntmps fn [10] (u9 (code Tryz.f107)) (u_ (code Tryz.f107)) 20 .ready none),(20,.eh),
  (7,.cells 4 [.sb (xN c)]),(6,.cells 36 [.si .i64 (zw c).1,.si .i64 (zw c).2]),(5,.cells 191 [OF]),(2,.ro 2 m λi=>az (l2 i)),(0,.ro 2 n λi=>az (l1 i))]++E
theorem rZ {a0 a1 a2 a3 a4:Int}(o0:aD a0)(o1:aD a1)(o2:aD a2)(o3:aD a3)(o4:aD a4):lM a0 a1 a2 a3 a4:=by
 unfold aD at *
 unfold lM sm
 omega
def ia (L:Int→Int→Int→Int→Int→Int)(g:aB):nG:=(nq (l6 L) g none).1
theorem aeI {g:aB}{n m:Nat}{l1 l2:Nat→Int × Int}{fn:Nat}(c:nG){a0 a1 a2 a3 a4:Int}(o0:aD a0)(o1:aD a1)(o2:aD a2)(o3:aD a3)(o4:aD a4) :
  oL P T (aC [(113,kO),(112,i_)]) 21 [.agg (c5 a0 a1 a2 a3 a4)] (Fr g a0 a1 a2 a3 a4++eS (.fn (.func 164) [] []) [] n m l1 l2 fn c) 25 true (Fr g a0 a1 a2 a3 a4++eS (.fn (.func 164) [] []) [] n m l1 l2 fn (l6 pU c a0 a1 a2 a3 a4).1) 25:=by
 refine tQ 21 cA.ok (l':=[(10,.agg (c5 a0 a1 a2 a3 a4)),(3,.sp 5 0),(4,.sp 6 0),(5,.sp 7 0),(9,.fn (.func 110) [] [.sp 4 0])]) rfl rfl (by decide) λG r hG=>?_
 refine av (cA.ok _ _ _) aj rfl rfl rfl rfl ?_
 refine⟨Dw,?_⟩
 refine oU (QC ah) rfl (rZ o0 o1 o2 o3 o4) (λ_=>?_) (λch h=>by cases h)
 cases c with
 |none =>
  refine Br.mk (λ_=>?_) (λh=>by cases h)
  refine⟨λj=>j,?_,rfl,rfl,bJ _,rfl,rfl⟩
  repeat' (first|exact trivial|exact rfl|(intro i hi;exact⟨rfl,rfl⟩)|refine bh ?_|refine And.intro ?_ ?_)
 |some p =>
  refine Br.mk (λh=>by cases h) (λ_=>?_)
  refine⟨λj=>j,?_,rfl,rfl,bJ _,rfl,rfl⟩
  repeat' (first|exact trivial|exact rfl|(intro i hi;exact⟨rfl,rfl⟩)|refine bh ?_|refine And.intro ?_ ?_)
theorem aeC {g:aB}{n m:Nat}{l1 l2:Nat→Int × Int}{fn:Nat}(c:nG){a0 a1 a2 a3 a4:Int}(o0:aD a0)(o1:aD a1)(o2:aD a2)(o3:aD a3)(o4:aD a4) :
  oL P T (aC [(113,kO),(112,i_)]) 21 [.agg (c5 a0 a1 a2 a3 a4)] (Fr g a0 a1 a2 a3 a4++eS (.fn (.func 162) [] []) [] n m l1 l2 fn c) 25 true (Fr g a0 a1 a2 a3 a4++eS (.fn (.func 162) [] []) [] n m l1 l2 fn (l6 pM c a0 a1 a2 a3 a4).1) 25:=by
 refine tQ 21 cA.ok (l':=[(10,.agg (c5 a0 a1 a2 a3 a4)),(3,.sp 5 0),(4,.sp 6 0),(5,.sp 7 0),(9,.fn (.func 110) [] [.sp 4 0])]) rfl rfl (by decide) λG r hG=>?_
 refine av (cA.ok _ _ _) aj rfl rfl rfl rfl ?_
 refine⟨UA,?_⟩
 refine oU (QD ah) rfl (rZ o0 o1 o2 o3 o4) (λ_=>?_) (λch h=>by cases h)
 cases c with
 |none =>
  refine Br.mk (λ_=>?_) (λh=>by cases h)
  refine⟨λj=>j,?_,rfl,rfl,bJ _,rfl,rfl⟩
  repeat' (first|exact trivial|exact rfl|(intro i hi;exact⟨rfl,rfl⟩)|refine bh ?_|refine And.intro ?_ ?_)
 |some p =>
  refine Br.mk (λh=>by cases h) (λ_=>?_)
  refine⟨λj=>j,?_,rfl,rfl,bJ _,rfl,rfl⟩
  repeat' (first|exact trivial|exact rfl|(intro i hi;exact⟨rfl,rfl⟩)|refine bh ?_|refine And.intro ?_ ?_)
theorem aeD {g:aB}{n m:Nat}{l1 l2:Nat→Int × Int}{fn:Nat}(c:nG){a0 a1 a2 a3 a4:Int}(o0:aD a0)(o1:aD a1)(o2:aD a2)(o3:aD a3)(o4:aD a4) :
  oL P T (aC [(113,kO),(112,i_)]) 21 [.agg (c5 a0 a1 a2 a3 a4)] (Fr g a0 a1 a2 a3 a4++eS (.fn (.func 108) [] [.sp 3 0]) [(3,.cells 3 [.si .i64 0])] n m l1 l2 fn c) 25 true (Fr g a0 a1 a2 a3 a4++eS (.fn (.func 108) [] [.sp 3 0]) [(3,.cells 3 [.si .i64 0])] n m l1 l2 fn (l6 (cE 0) c a0 a1 a2 a3 a4).1) 25:=by
 refine tQ 21 cA.ok (l':=[(10,.agg (c5 a0 a1 a2 a3 a4)),(3,.sp 5 0),(4,.sp 6 0),(5,.sp 7 0),(9,.fn (.func 110) [] [.sp 4 0])]) rfl rfl (by decide) λG r hG=>?_
 refine av (cA.ok _ _ _) aj rfl rfl rfl rfl ?_
 refine⟨zM,?_⟩
 refine cT cA.ok Tryz.func108 (c:=code Tryz.f108) rfl (Nat.le_of_ble_eq_true rfl) λG2 b_=>?_
 refine aa.mk ⟨by decide,by decide⟩ ?_
 cases c with
 |none =>
  refine Br.mk (λ_=>?_) (λh=>by cases h)
  refine⟨λj=>j,?_,rfl,rfl,bJ _,rfl,rfl⟩
  repeat' (first|exact trivial|exact rfl|(intro i hi;exact⟨rfl,rfl⟩)|refine bh ?_|refine And.intro ?_ ?_)
 |some p =>
  refine Br.mk (λh=>by cases h) (λ_=>?_)
  refine⟨λj=>j,?_,rfl,rfl,bJ _,rfl,rfl⟩
  repeat' (first|exact trivial|exact rfl|(intro i hi;exact⟨rfl,rfl⟩)|refine bh ?_|refine And.intro ?_ ?_)
theorem aeE {g:aB}{n m:Nat}{l1 l2:Nat→Int × Int}{fn:Nat}(c:nG){a0 a1 a2 a3 a4:Int}(o0:aD a0)(o1:aD a1)(o2:aD a2)(o3:aD a3)(o4:aD a4) :
  oL P T (aC [(113,kO),(112,i_)]) 21 [.agg (c5 a0 a1 a2 a3 a4)] (Fr g a0 a1 a2 a3 a4++eS (.fn (.func 108) [] [.sp 3 0]) [(3,.cells 3 [.si .i64 1])] n m l1 l2 fn c) 25 true (Fr g a0 a1 a2 a3 a4++eS (.fn (.func 108) [] [.sp 3 0]) [(3,.cells 3 [.si .i64 1])] n m l1 l2 fn (l6 (cE 1) c a0 a1 a2 a3 a4).1) 25:=by
 refine tQ 21 cA.ok (l':=[(10,.agg (c5 a0 a1 a2 a3 a4)),(3,.sp 5 0),(4,.sp 6 0),(5,.sp 7 0),(9,.fn (.func 110) [] [.sp 4 0])]) rfl rfl (by decide) λG r hG=>?_
 refine av (cA.ok _ _ _) aj rfl rfl rfl rfl ?_
 refine⟨zM,?_⟩
 refine cT cA.ok Tryz.func108 (c:=code Tryz.f108) rfl (Nat.le_of_ble_eq_true rfl) λG2 b_=>?_
 refine aa.mk ⟨by decide,by decide⟩ ?_
 cases c with
 |none =>
  refine Br.mk (λ_=>?_) (λh=>by cases h)
  refine⟨λj=>j,?_,rfl,rfl,bJ _,rfl,rfl⟩
  repeat' (first|exact trivial|exact rfl|(intro i hi;exact⟨rfl,rfl⟩)|refine bh ?_|refine And.intro ?_ ?_)
 |some p =>
  refine Br.mk (λh=>by cases h) (λ_=>?_)
  refine⟨λj=>j,?_,rfl,rfl,bJ _,rfl,rfl⟩
  repeat' (first|exact trivial|exact rfl|(intro i hi;exact⟨rfl,rfl⟩)|refine bh ?_|refine And.intro ?_ ?_)
theorem aeF {g:aB}{n m:Nat}{l1 l2:Nat→Int × Int}{fn:Nat}(c:nG){a0 a1 a2 a3 a4:Int}(o0:aD a0)(o1:aD a1)(o2:aD a2)(o3:aD a3)(o4:aD a4) :
  oL P T (aC [(113,kO),(112,i_)]) 21 [.agg (c5 a0 a1 a2 a3 a4)] (Fr g a0 a1 a2 a3 a4++eS (.fn (.func 108) [] [.sp 3 0]) [(3,.cells 3 [.si .i64 2])] n m l1 l2 fn c) 25 true (Fr g a0 a1 a2 a3 a4++eS (.fn (.func 108) [] [.sp 3 0]) [(3,.cells 3 [.si .i64 2])] n m l1 l2 fn (l6 (cE 2) c a0 a1 a2 a3 a4).1) 25:=by
 refine tQ 21 cA.ok (l':=[(10,.agg (c5 a0 a1 a2 a3 a4)),(3,.sp 5 0),(4,.sp 6 0),(5,.sp 7 0),(9,.fn (.func 110) [] [.sp 4 0])]) rfl rfl (by decide) λG r hG=>?_
 refine av (cA.ok _ _ _) aj rfl rfl rfl rfl ?_
 refine⟨zM,?_⟩
 refine cT cA.ok Tryz.func108 (c:=code Tryz.f108) rfl (Nat.le_of_ble_eq_true rfl) λG2 b_=>?_
 refine aa.mk ⟨by decide,by decide⟩ ?_
 cases c with
 |none =>
  refine Br.mk (λ_=>?_) (λh=>by cases h)
  refine⟨λj=>j,?_,rfl,rfl,bJ _,rfl,rfl⟩
  repeat' (first|exact trivial|exact rfl|(intro i hi;exact⟨rfl,rfl⟩)|refine bh ?_|refine And.intro ?_ ?_)
 |some p =>
  refine Br.mk (λh=>by cases h) (λ_=>?_)
  refine⟨λj=>j,?_,rfl,rfl,bJ _,rfl,rfl⟩
  repeat' (first|exact trivial|exact rfl|(intro i hi;exact⟨rfl,rfl⟩)|refine bh ?_|refine And.intro ?_ ?_)
theorem aeG {g:aB}{n m:Nat}{l1 l2:Nat→Int × Int}{fn:Nat}(c:nG){a0 a1 a2 a3 a4:Int}(o0:aD a0)(o1:aD a1)(o2:aD a2)(o3:aD a3)(o4:aD a4) :
  oL P T (aC [(113,kO),(112,i_)]) 21 [.agg (c5 a0 a1 a2 a3 a4)] (Fr g a0 a1 a2 a3 a4++eS (.fn (.func 108) [] [.sp 3 0]) [(3,.cells 3 [.si .i64 3])] n m l1 l2 fn c) 25 true (Fr g a0 a1 a2 a3 a4++eS (.fn (.func 108) [] [.sp 3 0]) [(3,.cells 3 [.si .i64 3])] n m l1 l2 fn (l6 (cE 3) c a0 a1 a2 a3 a4).1) 25:=by
 refine tQ 21 cA.ok (l':=[(10,.agg (c5 a0 a1 a2 a3 a4)),(3,.sp 5 0),(4,.sp 6 0),(5,.sp 7 0),(9,.fn (.func 110) [] [.sp 4 0])]) rfl rfl (by decide) λG r hG=>?_
 refine av (cA.ok _ _ _) aj rfl rfl rfl rfl ?_
 refine⟨zM,?_⟩
 refine cT cA.ok Tryz.func108 (c:=code Tryz.f108) rfl (Nat.le_of_ble_eq_true rfl) λG2 b_=>?_
 refine aa.mk ⟨by decide,by decide⟩ ?_
 cases c with
 |none =>
  refine Br.mk (λ_=>?_) (λh=>by cases h)
  refine⟨λj=>j,?_,rfl,rfl,bJ _,rfl,rfl⟩
  repeat' (first|exact trivial|exact rfl|(intro i hi;exact⟨rfl,rfl⟩)|refine bh ?_|refine And.intro ?_ ?_)
 |some p =>
  refine Br.mk (λh=>by cases h) (λ_=>?_)
  refine⟨λj=>j,?_,rfl,rfl,bJ _,rfl,rfl⟩
  repeat' (first|exact trivial|exact rfl|(intro i hi;exact⟨rfl,rfl⟩)|refine bh ?_|refine And.intro ?_ ?_)
theorem aeH {g:aB}{n m:Nat}{l1 l2:Nat→Int × Int}{fn:Nat}(c:nG){a0 a1 a2 a3 a4:Int}(o0:aD a0)(o1:aD a1)(o2:aD a2)(o3:aD a3)(o4:aD a4) :
  oL P T (aC [(113,kO),(112,i_)]) 21 [.agg (c5 a0 a1 a2 a3 a4)] (Fr g a0 a1 a2 a3 a4++eS (.fn (.func 108) [] [.sp 3 0]) [(3,.cells 3 [.si .i64 4])] n m l1 l2 fn c) 25 true (Fr g a0 a1 a2 a3 a4++eS (.fn (.func 108) [] [.sp 3 0]) [(3,.cells 3 [.si .i64 4])] n m l1 l2 fn (l6 (cE 4) c a0 a1 a2 a3 a4).1) 25:=by
 refine tQ 21 cA.ok (l':=[(10,.agg (c5 a0 a1 a2 a3 a4)),(3,.sp 5 0),(4,.sp 6 0),(5,.sp 7 0),(9,.fn (.func 110) [] [.sp 4 0])]) rfl rfl (by decide) λG r hG=>?_
 refine av (cA.ok _ _ _) aj rfl rfl rfl rfl ?_
 refine⟨zM,?_⟩
 refine cT cA.ok Tryz.func108 (c:=code Tryz.f108) rfl (Nat.le_of_ble_eq_true rfl) λG2 b_=>?_
 refine aa.mk ⟨by decide,by decide⟩ ?_
 cases c with
 |none =>
  refine Br.mk (λ_=>?_) (λh=>by cases h)
  refine⟨λj=>j,?_,rfl,rfl,bJ _,rfl,rfl⟩
  repeat' (first|exact trivial|exact rfl|(intro i hi;exact⟨rfl,rfl⟩)|refine bh ?_|refine And.intro ?_ ?_)
 |some p =>
  refine Br.mk (λh=>by cases h) (λ_=>?_)
  refine⟨λj=>j,?_,rfl,rfl,bJ _,rfl,rfl⟩
  repeat' (first|exact trivial|exact rfl|(intro i hi;exact⟨rfl,rfl⟩)|refine bh ?_|refine And.intro ?_ ?_)
def Lm (L:Int→Int→Int→Int→Int→Int)(pre:Prop)(g:aB):Option cJ:=some ⟨some pre,some (!xN (ia L g),iX 10),.agg [.si .i64 (zw (ia L g)).1,.si .i64 (zw (ia L g)).2],[]⟩
def z5:Ct:=λfr args H=>match args with
 |[.sp aZ 0,.fn (.func 164) [] []]=>oT H aZ λg n get m aH=>Lm pU (bQ n get∧bQ m aH∧eo g) g
 |[.sp aZ 0,.fn (.func 162) [] []]=>oT H aZ λg n get m aH=>Lm pM (bQ n get∧bQ m aH∧eo g) g
 |[.sp aZ 0,.fn (.func 108) [] [.sp px 0]]=>(match H px with
  |some (.cells 3 [.si .i64 q])=>oT H aZ λg n get m aH=>Lm (cE q) ((bQ n get∧bQ m aH∧eo g)∧0≤q∧q<5) g
  |_=>none)
 |_=>none
theorem U_:cY z5:=by
 intro fr args H H' out hH h
 unfold z5 at h ⊢
 split at h
 ·exact vx hH h
 ·exact vx hH h
 ·split at h
  ·rename_i e
   rw[hH _ _ e]
   exact vx hH h
  ·cases h
 ·cases h
def gC (i1 aZ i2 px n m:Nat)(g:aB)(l1 l2:Nat→Int × Int)(q:Int):List (Nat × HB):=[(i1,.ro 2 n λi=>az (l1 i)),(aZ,.cells 155 (ub g)),(i2,.ro 2 m λi=>az (l2 i)),(px,.cells 3 [.si .i64 q])]
def ra (n m:Nat)(g:aB)(l1 l2:Nat→Int × Int)(q:Int):List (Nat × HB):=[(0,.ro 2 n λi=>az (l1 i)),(1,.cells 155 (ub g)),(2,.ro 2 m λi=>az (l2 i)),(3,.cells 3 [.si .i64 q])]
theorem zR {H:LH}{aZ i1 i2 px n m:Nat}{g:aB}{get aH:Nat→List SV}{q:Int}(h1:H aZ=some (.cells 155 (zS i1 i2 g)))(h2:cn 2 H i1=some (n,get))(h3:cn 2 H i2=some (m,aH))(hs:bQ n get)(ew:bQ m aH)(h4:H px=some (.cells 3 [.si .i64 q])) :
  Hand H (gC i1 aZ i2 px n m g (au get) (au aH) q) where
 ok j c hb h:=by
  match j,h with
  |0,h =>
   simp[gC] at h;obtain⟨rfl,rfl⟩:=h
   exact gK h2 λi hi=>by rw[hs i hi];rfl
  |1,h=>simp[gC] at h;obtain⟨rfl,rfl⟩:=h;exact h1
  |2,h =>
   simp[gC] at h;obtain⟨rfl,rfl⟩:=h
   exact gK h3 λi hi=>by rw[ew i hi];rfl
  |3,h=>simp[gC] at h;obtain⟨rfl,rfl⟩:=h;exact h4
  |j+4,h=>simp[gC] at h
 ids j c hb h:=by
  match j,h with
  |0,h=>simp[gC] at h;obtain⟨rfl,rfl⟩:=h;exact λi hi=>⟨trivial,trivial,trivial⟩
  |1,h=>simp[gC] at h;obtain⟨rfl,rfl⟩:=h;exact⟨(by show 0<4;decide),trivial,trivial,trivial,trivial,trivial,trivial,trivial,trivial,trivial,trivial,trivial,(by show 2<4;decide),trivial⟩
  |2,h=>simp[gC] at h;obtain⟨rfl,rfl⟩:=h;exact λi hi=>⟨trivial,trivial,trivial⟩
  |3,h=>simp[gC] at h;obtain⟨rfl,rfl⟩:=h;exact⟨trivial,trivial⟩
  |j+4,h=>simp[gC] at h
 inj i j c hb hb' k1 k2 o1 o2:=by
  match i,j,k1,k2 with
  |0,0,_,_=>rfl
  |1,1,_,_=>rfl
  |2,2,_,_=>rfl
  |3,3,_,_=>rfl
  |0,_,k1,_=>simp[gC] at k1;obtain⟨_,rfl⟩:=k1;cases o1
  |2,_,k1,_=>simp[gC] at k1;obtain⟨_,rfl⟩:=k1;cases o1
  |1,0,_,k2=>simp[gC] at k2;obtain⟨_,rfl⟩:=k2;cases o2
  |3,0,_,k2=>simp[gC] at k2;obtain⟨_,rfl⟩:=k2;cases o2
  |1,2,_,k2=>simp[gC] at k2;obtain⟨_,rfl⟩:=k2;cases o2
  |3,2,_,k2=>simp[gC] at k2;obtain⟨_,rfl⟩:=k2;cases o2
  |1,3,k1,k2 =>
   simp[gC] at k1 k2;obtain⟨e1,_⟩:=k1;obtain⟨e2,_⟩:=k2
   rw[e1,←e2,h4] at h1;cases h1
  |3,1,k1,k2 =>
   simp[gC] at k1 k2;obtain⟨e1,_⟩:=k1;obtain⟨e2,_⟩:=k2
   rw[e2,←e1,h4] at h1;cases h1
  |i+4,_,h,_=>simp[gC] at h
  |_,j+4,_,h=>simp[gC] at h
theorem k49 {l:List (Nat × Ct)}(g0:Good P T l):aP P 107 z5:=by
 have g:=v7 ah
 refine Aj (C:=aC _) g.ok Tryz.func107 (c:=code Tryz.f107) rfl λfr args H out h hp=>?_
 unfold z5 at h
 split at h
 ·rename_i aZ
  obtain⟨i1,i2,p,n,get,m,aH,e1,e2,e3,h⟩:=vy h
  cases h
  obtain⟨hs,ew,hb⟩:bQ n get∧bQ m aH∧eo p:=hp
  refine⟨gi i1 aZ i2 n m p (au get) (au aH),[.sp 1 0,.fn (.func 164) [] []],uc n m p (au get) (au aH),4,[],rfl,rfl,Nat.le_of_ble_eq_true rfl,DG e1 e2 e3 hs ew,rfl,rfl,λG hG=>?_⟩
  generalize au get=l1
  generalize au aH=l2
  refine av (g.ok _ _ _) aj rfl rfl rfl rfl ?_
  refine⟨oS,?_⟩
  refine cT g.ok Tryz.func86 (c:=code Tryz.f86) rfl (Nat.le_of_ble_eq_true rfl) λG2 b_=>?_
  refine(show aX _ _ _ _ from ?_)
  refine weaken (g.ok _ _ _) (af:=⟨[(3,⟨[],.sp 5 0⟩),(4,⟨[],.sp 6 0⟩),(5,⟨[],.sp 7 0⟩),(9,⟨[],.fn (.func 110) [] [.sp 4 0]⟩)],[],
   (7,.cells 4 [.sb false])::(6,.cells 36 [.si .i64 0,.si .i64 0])::(5,.cells 191 [.fn (.func 164) [] []])::(4,.cells 114 [.sp 1 0])::uc n m p l1 l2,20,[]⟩) 4 (λj=>match j with|4=>7|5=>4|6=>5|7=>6|j=>j) hG ?_ ?_
  ·refine⟨?_,?_,rfl,rfl,rfl,rfl,trivial⟩
   ·repeat' (first|exact trivial|exact rfl|(intro i hi;exact⟨rfl,rfl⟩)|refine bh ?_|refine And.intro ?_ ?_)
   ·repeat' (first|exact trivial|exact rfl|(intro i hi;exact⟨rfl,rfl⟩)|refine bh ?_|refine And.intro ?_ ?_)
  refine lK (g.ok _ _ _) rfl rfl rfl so ?_
  intro fn
  refine lW (Bx p++eS (.fn (.func 164) [] []) [] n m l1 l2 fn none) (by repeat' (first|exact trivial|exact rfl|(intro i hi;exact⟨rfl,rfl⟩)|refine bh ?_|refine And.intro ?_ ?_)) ?_
  refine tN (f:=l6 pU) (ok:=λ_=>True) (CH:=eS (.fn (.func 164) [] []) [] n m l1 l2 fn) hb (λc=>?_) (λc=>tw rfl) (λc a0 a1 a2 a3 a4 _ _=>trivial) (λc a0 a1 a2 a3 a4 _ o0 o1 o2 o3 o4=>aeI c o0 o1 o2 o3 o4) none trivial ?_
  ·repeat' (first|exact trivial|exact rfl|(intro i hi;exact⟨rfl,rfl⟩)|refine bh ?_|refine And.intro ?_ ?_)
  show qZ _ _ _ _ _ _ (Bx p++eS (.fn (.func 164) [] []) [] n m l1 l2 fn (ia pU p)) 25
  generalize ia pU p=R
  cases R with
  |none =>
   refine Br.mk (λ_=>?_) (λh=>by cases h)
   exact⟨rfl,by repeat' (first|exact trivial|exact rfl|(intro i hi;exact⟨rfl,rfl⟩)|refine bh ?_|refine And.intro ?_ ?_)⟩
  |some x =>
   obtain⟨lo,hi⟩:=x
   refine Br.mk (λh=>by cases h) (λ_=>?_)
   exact⟨.inr ⟨_,rfl⟩,bU ⟨⟨rfl,rfl⟩,⟨rfl,rfl⟩,trivial⟩ rfl rfl (by repeat' (first|exact trivial|exact rfl|(intro i hi;exact⟨rfl,rfl⟩)|refine bh ?_|refine And.intro ?_ ?_))⟩
 ·rename_i aZ
  obtain⟨i1,i2,p,n,get,m,aH,e1,e2,e3,h⟩:=vy h
  cases h
  obtain⟨hs,ew,hb⟩:bQ n get∧bQ m aH∧eo p:=hp
  refine⟨gi i1 aZ i2 n m p (au get) (au aH),[.sp 1 0,.fn (.func 162) [] []],uc n m p (au get) (au aH),4,[],rfl,rfl,Nat.le_of_ble_eq_true rfl,DG e1 e2 e3 hs ew,rfl,rfl,λG hG=>?_⟩
  generalize au get=l1
  generalize au aH=l2
  refine av (g.ok _ _ _) aj rfl rfl rfl rfl ?_
  refine⟨oS,?_⟩
  refine cT g.ok Tryz.func86 (c:=code Tryz.f86) rfl (Nat.le_of_ble_eq_true rfl) λG2 b_=>?_
  refine(show aX _ _ _ _ from ?_)
  refine weaken (g.ok _ _ _) (af:=⟨[(3,⟨[],.sp 5 0⟩),(4,⟨[],.sp 6 0⟩),(5,⟨[],.sp 7 0⟩),(9,⟨[],.fn (.func 110) [] [.sp 4 0]⟩)],[],
   (7,.cells 4 [.sb false])::(6,.cells 36 [.si .i64 0,.si .i64 0])::(5,.cells 191 [.fn (.func 162) [] []])::(4,.cells 114 [.sp 1 0])::uc n m p l1 l2,20,[]⟩) 4 (λj=>match j with|4=>7|5=>4|6=>5|7=>6|j=>j) hG ?_ ?_
  ·refine⟨?_,?_,rfl,rfl,rfl,rfl,trivial⟩
   ·repeat' (first|exact trivial|exact rfl|(intro i hi;exact⟨rfl,rfl⟩)|refine bh ?_|refine And.intro ?_ ?_)
   ·repeat' (first|exact trivial|exact rfl|(intro i hi;exact⟨rfl,rfl⟩)|refine bh ?_|refine And.intro ?_ ?_)
  refine lK (g.ok _ _ _) rfl rfl rfl so ?_
  intro fn
  refine lW (Bx p++eS (.fn (.func 162) [] []) [] n m l1 l2 fn none) (by repeat' (first|exact trivial|exact rfl|(intro i hi;exact⟨rfl,rfl⟩)|refine bh ?_|refine And.intro ?_ ?_)) ?_
  refine tN (f:=l6 pM) (ok:=λ_=>True) (CH:=eS (.fn (.func 162) [] []) [] n m l1 l2 fn) hb (λc=>?_) (λc=>tw rfl) (λc a0 a1 a2 a3 a4 _ _=>trivial) (λc a0 a1 a2 a3 a4 _ o0 o1 o2 o3 o4=>aeC c o0 o1 o2 o3 o4) none trivial ?_
  ·repeat' (first|exact trivial|exact rfl|(intro i hi;exact⟨rfl,rfl⟩)|refine bh ?_|refine And.intro ?_ ?_)
  show qZ _ _ _ _ _ _ (Bx p++eS (.fn (.func 162) [] []) [] n m l1 l2 fn (ia pM p)) 25
  generalize ia pM p=R
  cases R with
  |none =>
   refine Br.mk (λ_=>?_) (λh=>by cases h)
   exact⟨rfl,by repeat' (first|exact trivial|exact rfl|(intro i hi;exact⟨rfl,rfl⟩)|refine bh ?_|refine And.intro ?_ ?_)⟩
  |some x =>
   obtain⟨lo,hi⟩:=x
   refine Br.mk (λh=>by cases h) (λ_=>?_)
   exact⟨.inr ⟨_,rfl⟩,bU ⟨⟨rfl,rfl⟩,⟨rfl,rfl⟩,trivial⟩ rfl rfl (by repeat' (first|exact trivial|exact rfl|(intro i hi;exact⟨rfl,rfl⟩)|refine bh ?_|refine And.intro ?_ ?_))⟩
 ·rename_i aZ px
  split at h
  ·rename_i q e4
   obtain⟨i1,i2,p,n,get,m,aH,e1,e2,e3,h⟩:=vy h
   cases h
   obtain⟨⟨hs,ew,hb⟩,BH,tg⟩:(bQ n get∧bQ m aH∧eo p)∧0≤q∧q<5:=hp
   rcases(show q=0∨q=1∨q=2∨q=3∨q=4 by omega) with rfl|rfl|rfl|rfl|rfl
   ·refine⟨gC i1 aZ i2 px n m p (au get) (au aH) 0,[.sp 1 0,.fn (.func 108) [] [.sp 3 0]],ra n m p (au get) (au aH) 0,4,[],rfl,rfl,Nat.le_of_ble_eq_true rfl,zR e1 e2 e3 hs ew e4,rfl,rfl,λG hG=>?_⟩
    generalize au get=l1
    generalize au aH=l2
    refine av (g.ok _ _ _) aj rfl rfl rfl rfl ?_
    refine⟨oS,?_⟩
    refine cT g.ok Tryz.func86 (c:=code Tryz.f86) rfl (Nat.le_of_ble_eq_true rfl) λG2 b_=>?_
    refine(show aX _ _ _ _ from ?_)
    refine weaken (g.ok _ _ _) (af:=⟨[(3,⟨[],.sp 5 0⟩),(4,⟨[],.sp 6 0⟩),(5,⟨[],.sp 7 0⟩),(9,⟨[],.fn (.func 110) [] [.sp 4 0]⟩)],[],
     (7,.cells 4 [.sb false])::(6,.cells 36 [.si .i64 0,.si .i64 0])::(5,.cells 191 [.fn (.func 108) [] [.sp 3 0]])::(4,.cells 114 [.sp 1 0])::ra n m p l1 l2 0,20,[]⟩) 4 (λj=>match j with|4=>7|5=>4|6=>5|7=>6|j=>j) hG ?_ ?_
    ·refine⟨?_,?_,rfl,rfl,rfl,rfl,trivial⟩
     ·repeat' (first|exact trivial|exact rfl|(intro i hi;exact⟨rfl,rfl⟩)|refine bh ?_|refine And.intro ?_ ?_)
     ·repeat' (first|exact trivial|exact rfl|(intro i hi;exact⟨rfl,rfl⟩)|refine bh ?_|refine And.intro ?_ ?_)
    refine lK (g.ok _ _ _) rfl rfl rfl so ?_
    intro fn
    refine lW (Bx p++eS (.fn (.func 108) [] [.sp 3 0]) [(3,.cells 3 [.si .i64 0])] n m l1 l2 fn none) (by repeat' (first|exact trivial|exact rfl|(intro i hi;exact⟨rfl,rfl⟩)|refine bh ?_|refine And.intro ?_ ?_)) ?_
    refine tN (f:=l6 (cE 0)) (ok:=λ_=>True) (CH:=eS (.fn (.func 108) [] [.sp 3 0]) [(3,.cells 3 [.si .i64 0])] n m l1 l2 fn) hb (λc=>?_) (λc=>tw rfl) (λc a0 a1 a2 a3 a4 _ _=>trivial) (λc a0 a1 a2 a3 a4 _ o0 o1 o2 o3 o4=>aeD c o0 o1 o2 o3 o4) none trivial ?_
    ·repeat' (first|exact trivial|exact rfl|(intro i hi;exact⟨rfl,rfl⟩)|refine bh ?_|refine And.intro ?_ ?_)
    show qZ _ _ _ _ _ _ (Bx p++eS (.fn (.func 108) [] [.sp 3 0]) [(3,.cells 3 [.si .i64 0])] n m l1 l2 fn (ia (cE 0) p)) 25
    generalize ia (cE 0) p=R
    cases R with
    |none =>
     refine Br.mk (λ_=>?_) (λh=>by cases h)
     exact⟨rfl,by repeat' (first|exact trivial|exact rfl|(intro i hi;exact⟨rfl,rfl⟩)|refine bh ?_|refine And.intro ?_ ?_)⟩
    |some x =>
     obtain⟨lo,hi⟩:=x
     refine Br.mk (λh=>by cases h) (λ_=>?_)
     exact⟨.inr ⟨_,rfl⟩,bU ⟨⟨rfl,rfl⟩,⟨rfl,rfl⟩,trivial⟩ rfl rfl (by repeat' (first|exact trivial|exact rfl|(intro i hi;exact⟨rfl,rfl⟩)|refine bh ?_|refine And.intro ?_ ?_))⟩
   ·refine⟨gC i1 aZ i2 px n m p (au get) (au aH) 1,[.sp 1 0,.fn (.func 108) [] [.sp 3 0]],ra n m p (au get) (au aH) 1,4,[],rfl,rfl,Nat.le_of_ble_eq_true rfl,zR e1 e2 e3 hs ew e4,rfl,rfl,λG hG=>?_⟩
    generalize au get=l1
    generalize au aH=l2
    refine av (g.ok _ _ _) aj rfl rfl rfl rfl ?_
    refine⟨oS,?_⟩
    refine cT g.ok Tryz.func86 (c:=code Tryz.f86) rfl (Nat.le_of_ble_eq_true rfl) λG2 b_=>?_
    refine(show aX _ _ _ _ from ?_)
    refine weaken (g.ok _ _ _) (af:=⟨[(3,⟨[],.sp 5 0⟩),(4,⟨[],.sp 6 0⟩),(5,⟨[],.sp 7 0⟩),(9,⟨[],.fn (.func 110) [] [.sp 4 0]⟩)],[],
     (7,.cells 4 [.sb false])::(6,.cells 36 [.si .i64 0,.si .i64 0])::(5,.cells 191 [.fn (.func 108) [] [.sp 3 0]])::(4,.cells 114 [.sp 1 0])::ra n m p l1 l2 1,20,[]⟩) 4 (λj=>match j with|4=>7|5=>4|6=>5|7=>6|j=>j) hG ?_ ?_
    ·refine⟨?_,?_,rfl,rfl,rfl,rfl,trivial⟩
     ·repeat' (first|exact trivial|exact rfl|(intro i hi;exact⟨rfl,rfl⟩)|refine bh ?_|refine And.intro ?_ ?_)
     ·repeat' (first|exact trivial|exact rfl|(intro i hi;exact⟨rfl,rfl⟩)|refine bh ?_|refine And.intro ?_ ?_)
    refine lK (g.ok _ _ _) rfl rfl rfl so ?_
    intro fn
    refine lW (Bx p++eS (.fn (.func 108) [] [.sp 3 0]) [(3,.cells 3 [.si .i64 1])] n m l1 l2 fn none) (by repeat' (first|exact trivial|exact rfl|(intro i hi;exact⟨rfl,rfl⟩)|refine bh ?_|refine And.intro ?_ ?_)) ?_
    refine tN (f:=l6 (cE 1)) (ok:=λ_=>True) (CH:=eS (.fn (.func 108) [] [.sp 3 0]) [(3,.cells 3 [.si .i64 1])] n m l1 l2 fn) hb (λc=>?_) (λc=>tw rfl) (λc a0 a1 a2 a3 a4 _ _=>trivial) (λc a0 a1 a2 a3 a4 _ o0 o1 o2 o3 o4=>aeE c o0 o1 o2 o3 o4) none trivial ?_
    ·repeat' (first|exact trivial|exact rfl|(intro i hi;exact⟨rfl,rfl⟩)|refine bh ?_|refine And.intro ?_ ?_)
    show qZ _ _ _ _ _ _ (Bx p++eS (.fn (.func 108) [] [.sp 3 0]) [(3,.cells 3 [.si .i64 1])] n m l1 l2 fn (ia (cE 1) p)) 25
    generalize ia (cE 1) p=R
    cases R with
    |none =>
     refine Br.mk (λ_=>?_) (λh=>by cases h)
     exact⟨rfl,by repeat' (first|exact trivial|exact rfl|(intro i hi;exact⟨rfl,rfl⟩)|refine bh ?_|refine And.intro ?_ ?_)⟩
    |some x =>
     obtain⟨lo,hi⟩:=x
     refine Br.mk (λh=>by cases h) (λ_=>?_)
     exact⟨.inr ⟨_,rfl⟩,bU ⟨⟨rfl,rfl⟩,⟨rfl,rfl⟩,trivial⟩ rfl rfl (by repeat' (first|exact trivial|exact rfl|(intro i hi;exact⟨rfl,rfl⟩)|refine bh ?_|refine And.intro ?_ ?_))⟩
   ·refine⟨gC i1 aZ i2 px n m p (au get) (au aH) 2,[.sp 1 0,.fn (.func 108) [] [.sp 3 0]],ra n m p (au get) (au aH) 2,4,[],rfl,rfl,Nat.le_of_ble_eq_true rfl,zR e1 e2 e3 hs ew e4,rfl,rfl,λG hG=>?_⟩
    generalize au get=l1
    generalize au aH=l2
    refine av (g.ok _ _ _) aj rfl rfl rfl rfl ?_
    refine⟨oS,?_⟩
    refine cT g.ok Tryz.func86 (c:=code Tryz.f86) rfl (Nat.le_of_ble_eq_true rfl) λG2 b_=>?_
    refine(show aX _ _ _ _ from ?_)
    refine weaken (g.ok _ _ _) (af:=⟨[(3,⟨[],.sp 5 0⟩),(4,⟨[],.sp 6 0⟩),(5,⟨[],.sp 7 0⟩),(9,⟨[],.fn (.func 110) [] [.sp 4 0]⟩)],[],
     (7,.cells 4 [.sb false])::(6,.cells 36 [.si .i64 0,.si .i64 0])::(5,.cells 191 [.fn (.func 108) [] [.sp 3 0]])::(4,.cells 114 [.sp 1 0])::ra n m p l1 l2 2,20,[]⟩) 4 (λj=>match j with|4=>7|5=>4|6=>5|7=>6|j=>j) hG ?_ ?_
    ·refine⟨?_,?_,rfl,rfl,rfl,rfl,trivial⟩
     ·repeat' (first|exact trivial|exact rfl|(intro i hi;exact⟨rfl,rfl⟩)|refine bh ?_|refine And.intro ?_ ?_)
     ·repeat' (first|exact trivial|exact rfl|(intro i hi;exact⟨rfl,rfl⟩)|refine bh ?_|refine And.intro ?_ ?_)
    refine lK (g.ok _ _ _) rfl rfl rfl so ?_
    intro fn
    refine lW (Bx p++eS (.fn (.func 108) [] [.sp 3 0]) [(3,.cells 3 [.si .i64 2])] n m l1 l2 fn none) (by repeat' (first|exact trivial|exact rfl|(intro i hi;exact⟨rfl,rfl⟩)|refine bh ?_|refine And.intro ?_ ?_)) ?_
    refine tN (f:=l6 (cE 2)) (ok:=λ_=>True) (CH:=eS (.fn (.func 108) [] [.sp 3 0]) [(3,.cells 3 [.si .i64 2])] n m l1 l2 fn) hb (λc=>?_) (λc=>tw rfl) (λc a0 a1 a2 a3 a4 _ _=>trivial) (λc a0 a1 a2 a3 a4 _ o0 o1 o2 o3 o4=>aeF c o0 o1 o2 o3 o4) none trivial ?_
    ·repeat' (first|exact trivial|exact rfl|(intro i hi;exact⟨rfl,rfl⟩)|refine bh ?_|refine And.intro ?_ ?_)
    show qZ _ _ _ _ _ _ (Bx p++eS (.fn (.func 108) [] [.sp 3 0]) [(3,.cells 3 [.si .i64 2])] n m l1 l2 fn (ia (cE 2) p)) 25
    generalize ia (cE 2) p=R
    cases R with
    |none =>
     refine Br.mk (λ_=>?_) (λh=>by cases h)
     exact⟨rfl,by repeat' (first|exact trivial|exact rfl|(intro i hi;exact⟨rfl,rfl⟩)|refine bh ?_|refine And.intro ?_ ?_)⟩
    |some x =>
     obtain⟨lo,hi⟩:=x
     refine Br.mk (λh=>by cases h) (λ_=>?_)
     exact⟨.inr ⟨_,rfl⟩,bU ⟨⟨rfl,rfl⟩,⟨rfl,rfl⟩,trivial⟩ rfl rfl (by repeat' (first|exact trivial|exact rfl|(intro i hi;exact⟨rfl,rfl⟩)|refine bh ?_|refine And.intro ?_ ?_))⟩
   ·refine⟨gC i1 aZ i2 px n m p (au get) (au aH) 3,[.sp 1 0,.fn (.func 108) [] [.sp 3 0]],ra n m p (au get) (au aH) 3,4,[],rfl,rfl,Nat.le_of_ble_eq_true rfl,zR e1 e2 e3 hs ew e4,rfl,rfl,λG hG=>?_⟩
    generalize au get=l1
    generalize au aH=l2
    refine av (g.ok _ _ _) aj rfl rfl rfl rfl ?_
    refine⟨oS,?_⟩
    refine cT g.ok Tryz.func86 (c:=code Tryz.f86) rfl (Nat.le_of_ble_eq_true rfl) λG2 b_=>?_
    refine(show aX _ _ _ _ from ?_)
    refine weaken (g.ok _ _ _) (af:=⟨[(3,⟨[],.sp 5 0⟩),(4,⟨[],.sp 6 0⟩),(5,⟨[],.sp 7 0⟩),(9,⟨[],.fn (.func 110) [] [.sp 4 0]⟩)],[],
     (7,.cells 4 [.sb false])::(6,.cells 36 [.si .i64 0,.si .i64 0])::(5,.cells 191 [.fn (.func 108) [] [.sp 3 0]])::(4,.cells 114 [.sp 1 0])::ra n m p l1 l2 3,20,[]⟩) 4 (λj=>match j with|4=>7|5=>4|6=>5|7=>6|j=>j) hG ?_ ?_
    ·refine⟨?_,?_,rfl,rfl,rfl,rfl,trivial⟩
     ·repeat' (first|exact trivial|exact rfl|(intro i hi;exact⟨rfl,rfl⟩)|refine bh ?_|refine And.intro ?_ ?_)
     ·repeat' (first|exact trivial|exact rfl|(intro i hi;exact⟨rfl,rfl⟩)|refine bh ?_|refine And.intro ?_ ?_)
    refine lK (g.ok _ _ _) rfl rfl rfl so ?_
    intro fn
    refine lW (Bx p++eS (.fn (.func 108) [] [.sp 3 0]) [(3,.cells 3 [.si .i64 3])] n m l1 l2 fn none) (by repeat' (first|exact trivial|exact rfl|(intro i hi;exact⟨rfl,rfl⟩)|refine bh ?_|refine And.intro ?_ ?_)) ?_
    refine tN (f:=l6 (cE 3)) (ok:=λ_=>True) (CH:=eS (.fn (.func 108) [] [.sp 3 0]) [(3,.cells 3 [.si .i64 3])] n m l1 l2 fn) hb (λc=>?_) (λc=>tw rfl) (λc a0 a1 a2 a3 a4 _ _=>trivial) (λc a0 a1 a2 a3 a4 _ o0 o1 o2 o3 o4=>aeG c o0 o1 o2 o3 o4) none trivial ?_
    ·repeat' (first|exact trivial|exact rfl|(intro i hi;exact⟨rfl,rfl⟩)|refine bh ?_|refine And.intro ?_ ?_)
    show qZ _ _ _ _ _ _ (Bx p++eS (.fn (.func 108) [] [.sp 3 0]) [(3,.cells 3 [.si .i64 3])] n m l1 l2 fn (ia (cE 3) p)) 25
    generalize ia (cE 3) p=R
    cases R with
    |none =>
     refine Br.mk (λ_=>?_) (λh=>by cases h)
     exact⟨rfl,by repeat' (first|exact trivial|exact rfl|(intro i hi;exact⟨rfl,rfl⟩)|refine bh ?_|refine And.intro ?_ ?_)⟩
    |some x =>
     obtain⟨lo,hi⟩:=x
     refine Br.mk (λh=>by cases h) (λ_=>?_)
     exact⟨.inr ⟨_,rfl⟩,bU ⟨⟨rfl,rfl⟩,⟨rfl,rfl⟩,trivial⟩ rfl rfl (by repeat' (first|exact trivial|exact rfl|(intro i hi;exact⟨rfl,rfl⟩)|refine bh ?_|refine And.intro ?_ ?_))⟩
   ·refine⟨gC i1 aZ i2 px n m p (au get) (au aH) 4,[.sp 1 0,.fn (.func 108) [] [.sp 3 0]],ra n m p (au get) (au aH) 4,4,[],rfl,rfl,Nat.le_of_ble_eq_true rfl,zR e1 e2 e3 hs ew e4,rfl,rfl,λG hG=>?_⟩
    generalize au get=l1
    generalize au aH=l2
    refine av (g.ok _ _ _) aj rfl rfl rfl rfl ?_
    refine⟨oS,?_⟩
    refine cT g.ok Tryz.func86 (c:=code Tryz.f86) rfl (Nat.le_of_ble_eq_true rfl) λG2 b_=>?_
    refine(show aX _ _ _ _ from ?_)
    refine weaken (g.ok _ _ _) (af:=⟨[(3,⟨[],.sp 5 0⟩),(4,⟨[],.sp 6 0⟩),(5,⟨[],.sp 7 0⟩),(9,⟨[],.fn (.func 110) [] [.sp 4 0]⟩)],[],
     (7,.cells 4 [.sb false])::(6,.cells 36 [.si .i64 0,.si .i64 0])::(5,.cells 191 [.fn (.func 108) [] [.sp 3 0]])::(4,.cells 114 [.sp 1 0])::ra n m p l1 l2 4,20,[]⟩) 4 (λj=>match j with|4=>7|5=>4|6=>5|7=>6|j=>j) hG ?_ ?_
    ·refine⟨?_,?_,rfl,rfl,rfl,rfl,trivial⟩
     ·repeat' (first|exact trivial|exact rfl|(intro i hi;exact⟨rfl,rfl⟩)|refine bh ?_|refine And.intro ?_ ?_)
     ·repeat' (first|exact trivial|exact rfl|(intro i hi;exact⟨rfl,rfl⟩)|refine bh ?_|refine And.intro ?_ ?_)
    refine lK (g.ok _ _ _) rfl rfl rfl so ?_
    intro fn
    refine lW (Bx p++eS (.fn (.func 108) [] [.sp 3 0]) [(3,.cells 3 [.si .i64 4])] n m l1 l2 fn none) (by repeat' (first|exact trivial|exact rfl|(intro i hi;exact⟨rfl,rfl⟩)|refine bh ?_|refine And.intro ?_ ?_)) ?_
    refine tN (f:=l6 (cE 4)) (ok:=λ_=>True) (CH:=eS (.fn (.func 108) [] [.sp 3 0]) [(3,.cells 3 [.si .i64 4])] n m l1 l2 fn) hb (λc=>?_) (λc=>tw rfl) (λc a0 a1 a2 a3 a4 _ _=>trivial) (λc a0 a1 a2 a3 a4 _ o0 o1 o2 o3 o4=>aeH c o0 o1 o2 o3 o4) none trivial ?_
    ·repeat' (first|exact trivial|exact rfl|(intro i hi;exact⟨rfl,rfl⟩)|refine bh ?_|refine And.intro ?_ ?_)
    show qZ _ _ _ _ _ _ (Bx p++eS (.fn (.func 108) [] [.sp 3 0]) [(3,.cells 3 [.si .i64 4])] n m l1 l2 fn (ia (cE 4) p)) 25
    generalize ia (cE 4) p=R
    cases R with
    |none =>
     refine Br.mk (λ_=>?_) (λh=>by cases h)
     exact⟨rfl,by repeat' (first|exact trivial|exact rfl|(intro i hi;exact⟨rfl,rfl⟩)|refine bh ?_|refine And.intro ?_ ?_)⟩
    |some x =>
     obtain⟨lo,hi⟩:=x
     refine Br.mk (λh=>by cases h) (λ_=>?_)
     exact⟨.inr ⟨_,rfl⟩,bU ⟨⟨rfl,rfl⟩,⟨rfl,rfl⟩,trivial⟩ rfl rfl (by repeat' (first|exact trivial|exact rfl|(intro i hi;exact⟨rfl,rfl⟩)|refine bh ?_|refine And.intro ?_ ?_))⟩
  ·cases h
 ·cases h
theorem Xq {l:List (Nat × Ct)}(g:Good P T l):Good P T ((107,z5)::l):=g.add (k49 g) U_ (aw Tryz.func107 (c:=code Tryz.f107) rfl (by decide))
abbrev Fc:=Int × Int
def dv (p:Fc):SV:=.agg [.si .i64 p.1,.si .i64 p.2]
def gk (b:Bool):SV:=.sb b
theorem DY:gB T 171 dv where
 ty:=⟨_,rfl⟩
 vC:=λa=>by kernel_rfl
 eq:=λa b=>by
  have h:l5 T 9 171 (dv a) (dv b)=some (decide (a.1=b.1)&&(decide (a.2=b.2)&&true)):=by kernel_rfl
  rw[h]
  congr 1
  rw[Bool.eq_iff_iff]
  obtain⟨a1,a2⟩:=a
  obtain⟨b1,b2⟩:=b
  simp
 cl:=λa=>⟨.agg #[.int .i64 a.1,.int .i64 a.2],rfl⟩
 same:=λa=>by
  have:cv (dv a)=.agg #[.int .i64 a.1,.int .i64 a.2]:=rfl
  rw[this]
  simp[Instr.sameBits]
theorem rj:kJ gk:=λa=>⟨.bool a,rfl⟩
theorem tW:Body P 163:=aw Tryz.func163 (c:=code Tryz.f163) rfl (by decide)
theorem uT : qW P 169 "blockworks/grade.at" 163 := Ri (i := _) (d := _) rfl rfl (by intro e h; cases h) ⟨_, rfl, rfl, rfl⟩
def kz (a0 a1 a2 a3 a4:Int):Fc:=(pM a0 a1 a2 a3 a4,pU a0 a1 a2 a3 a4)
def yf (L:Int→Int→Int→Int→Int→Fc)(c:List (Fc × Bool))(a0 a1 a2 a3 a4:Int):List (Fc × Bool) × Bool:=(bN c (L a0 a1 a2 a3 a4) true,true)
def rk (L:Int→Int→Int→Int→Int→Fc)(g:aB):List (Fc × Bool):=(nq (yf L) g []).1
noncomputable def Ng (s:LoopState)(LK:SV)(n m:Nat)(l1 l2:Nat→Int × Int)(fn:Nat)(c:List (Fc × Bool)):List (Nat × HB) :=
 [(21,.loop [(3,.sp 5 0),(5,.sp 7 0),(9,.fn (.func 110) [] [.sp 4 0])] Tryz.f88.ntmps fn [10] (u9 (code Tryz.f88)) (u_ (code Tryz.f88)) 20 s none),(20,.eh),
  (7,.cells 166 [.sm 6]),(6,.mp (dT dv gk c)),(5,.cells 194 [LK]),(2,.ro 2 m λi=>az (l2 i)),(0,.ro 2 n λi=>az (l1 i))]
noncomputable abbrev Ah:=Ng .ready
theorem aeB {g:aB}{n m:Nat}{l1 l2:Nat→Int × Int}{fn:Nat}(c:List (Fc × Bool)){a0 a1 a2 a3 a4:Int}(o0:aD a0)(o1:aD a1)(o2:aD a2)(o3:aD a3)(o4:aD a4) :
  oL P T (aC [(113,kO),(112,i_)]) 21 [.agg (c5 a0 a1 a2 a3 a4)] (Fr g a0 a1 a2 a3 a4++Ah (.cg 169 (.agg [])) n m l1 l2 fn c) 25 true (Fr g a0 a1 a2 a3 a4++Ah (.cg 169 (.agg [])) n m l1 l2 fn (yf kz c a0 a1 a2 a3 a4).1) 25:=by
 refine tQ 21 cA.ok (l':=[(10,.agg (c5 a0 a1 a2 a3 a4)),(3,.sp 5 0),(5,.sp 7 0),(9,.fn (.func 110) [] [.sp 4 0])]) rfl rfl (by decide) λG r hG=>?_
 refine(show aX _ _ _ _ from ?_)
 refine lT bP ?_
 refine Mz [0,1,2] ⟨[(11,⟨[],.sm 6⟩),(14,⟨[],dv (kz a0 a1 a2 a3 a4)⟩)],[],Fr g a0 a1 a2 a3 a4++Ng .busy (.cg 169 (.agg [])) n m l1 l2 fn c,30,[]⟩ 1 #[true,true,true,true,false] (cA.ok _ _ _) (by kernel_rfl) (by decide) (λK hK=>⟨?_,?_,?_,trivial⟩) ?_
 ·skip
  refine aJ [1,2] (cA.ok _ _ _) (by kernel_rfl) (by decide) ⟨?_,?_,trivial⟩
  ·skip
   refine aJ [2] (cA.ok _ _ _) (by kernel_rfl) (by decide) ⟨?_,trivial⟩
   refine aJ [3] (cA.ok _ _ _) (by kernel_rfl) (by decide) ⟨?_,trivial⟩
   refine qk 163 (cA.ok _ _ _) bm rfl rfl rfl rfl rfl rfl rfl uT tW ?_
   refine oU (uN ah) rfl (rZ o0 o1 o2 o3 o4) (λ_=>?_) (λch h=>by cases h)
   exact ij 25 (λj=>j) hG (by refine⟨?_,?_,bJ _,rfl,rfl,rfl,trivial⟩<;>repeat' (first|exact trivial|exact rfl|(intro i hi;exact⟨rfl,rfl⟩)|exact List.Perm.refl _|refine bh ?_|refine And.intro ?_ ?_)) hK
  ·skip
   refine aJ [1] (cA.ok _ _ _) (by kernel_rfl) (by decide) ⟨?_,trivial⟩
   refine aJ [3] (cA.ok _ _ _) (by kernel_rfl) (by decide) ⟨?_,trivial⟩
   refine qk 163 (cA.ok _ _ _) bm rfl rfl rfl rfl rfl rfl rfl uT tW ?_
   refine oU (uN ah) rfl (rZ o0 o1 o2 o3 o4) (λ_=>?_) (λch h=>by cases h)
   exact ij 25 (λj=>j) hG (by refine⟨?_,?_,bJ _,rfl,rfl,rfl,trivial⟩<;>repeat' (first|exact trivial|exact rfl|(intro i hi;exact⟨rfl,rfl⟩)|exact List.Perm.refl _|refine bh ?_|refine And.intro ?_ ?_)) hK
 ·skip
  refine aJ [0,2] (cA.ok _ _ _) (by kernel_rfl) (by decide) ⟨?_,?_,trivial⟩
  ·skip
   refine aJ [2] (cA.ok _ _ _) (by kernel_rfl) (by decide) ⟨?_,trivial⟩
   refine aJ [3] (cA.ok _ _ _) (by kernel_rfl) (by decide) ⟨?_,trivial⟩
   refine qk 163 (cA.ok _ _ _) bm rfl rfl rfl rfl rfl rfl rfl uT tW ?_
   refine oU (uN ah) rfl (rZ o0 o1 o2 o3 o4) (λ_=>?_) (λch h=>by cases h)
   exact ij 25 (λj=>j) hG (by refine⟨?_,?_,bJ _,rfl,rfl,rfl,trivial⟩<;>repeat' (first|exact trivial|exact rfl|(intro i hi;exact⟨rfl,rfl⟩)|exact List.Perm.refl _|refine bh ?_|refine And.intro ?_ ?_)) hK
  ·skip
   refine aJ [0,3] (cA.ok _ _ _) (by kernel_rfl) (by decide) ⟨?_,?_,trivial⟩
   ·skip
    refine aJ [3] (cA.ok _ _ _) (by kernel_rfl) (by decide) ⟨?_,trivial⟩
    refine qk 163 (cA.ok _ _ _) bm rfl rfl rfl rfl rfl rfl rfl uT tW ?_
    refine oU (uN ah) rfl (rZ o0 o1 o2 o3 o4) (λ_=>?_) (λch h=>by cases h)
    exact ij 25 (λj=>j) hG (by refine⟨?_,?_,bJ _,rfl,rfl,rfl,trivial⟩<;>repeat' (first|exact trivial|exact rfl|(intro i hi;exact⟨rfl,rfl⟩)|exact List.Perm.refl _|refine bh ?_|refine And.intro ?_ ?_)) hK
   ·skip
    refine qk 163 (cA.ok _ _ _) bm rfl rfl rfl rfl rfl rfl rfl uT tW ?_
    refine oU (uN ah) rfl (rZ o0 o1 o2 o3 o4) (λ_=>?_) (λch h=>by cases h)
    refine aJ [0] (cA.ok _ _ _) (by kernel_rfl) (by decide) ⟨?_,trivial⟩
    exact ij 25 (λj=>j) hG (by refine⟨?_,?_,bJ _,rfl,rfl,rfl,trivial⟩<;>repeat' (first|exact trivial|exact rfl|(intro i hi;exact⟨rfl,rfl⟩)|exact List.Perm.refl _|refine bh ?_|refine And.intro ?_ ?_)) hK
 ·skip
  refine aJ [0,1] (cA.ok _ _ _) (by kernel_rfl) (by decide) ⟨?_,?_,trivial⟩
  ·skip
   refine aJ [1] (cA.ok _ _ _) (by kernel_rfl) (by decide) ⟨?_,trivial⟩
   refine aJ [3] (cA.ok _ _ _) (by kernel_rfl) (by decide) ⟨?_,trivial⟩
   refine qk 163 (cA.ok _ _ _) bm rfl rfl rfl rfl rfl rfl rfl uT tW ?_
   refine oU (uN ah) rfl (rZ o0 o1 o2 o3 o4) (λ_=>?_) (λch h=>by cases h)
   exact ij 25 (λj=>j) hG (by refine⟨?_,?_,bJ _,rfl,rfl,rfl,trivial⟩<;>repeat' (first|exact trivial|exact rfl|(intro i hi;exact⟨rfl,rfl⟩)|exact List.Perm.refl _|refine bh ?_|refine And.intro ?_ ?_)) hK
  ·skip
   refine aJ [0,3] (cA.ok _ _ _) (by kernel_rfl) (by decide) ⟨?_,?_,trivial⟩
   ·skip
    refine aJ [3] (cA.ok _ _ _) (by kernel_rfl) (by decide) ⟨?_,trivial⟩
    refine qk 163 (cA.ok _ _ _) bm rfl rfl rfl rfl rfl rfl rfl uT tW ?_
    refine oU (uN ah) rfl (rZ o0 o1 o2 o3 o4) (λ_=>?_) (λch h=>by cases h)
    exact ij 25 (λj=>j) hG (by refine⟨?_,?_,bJ _,rfl,rfl,rfl,trivial⟩<;>repeat' (first|exact trivial|exact rfl|(intro i hi;exact⟨rfl,rfl⟩)|exact List.Perm.refl _|refine bh ?_|refine And.intro ?_ ?_)) hK
   ·skip
    refine qk 163 (cA.ok _ _ _) bm rfl rfl rfl rfl rfl rfl rfl uT tW ?_
    refine oU (uN ah) rfl (rZ o0 o1 o2 o3 o4) (λ_=>?_) (λch h=>by cases h)
    refine aJ [0] (cA.ok _ _ _) (by kernel_rfl) (by decide) ⟨?_,trivial⟩
    exact ij 25 (λj=>j) hG (by refine⟨?_,?_,bJ _,rfl,rfl,rfl,trivial⟩<;>repeat' (first|exact trivial|exact rfl|(intro i hi;exact⟨rfl,rfl⟩)|exact List.Perm.refl _|refine bh ?_|refine And.intro ?_ ?_)) hK
 refine aJ [4] (cA.ok _ _ _) (by kernel_rfl) (by decide) ⟨?_,trivial⟩
 refine mS dv gk c (kz a0 a1 a2 a3 a4) true _ rfl 6 (cA.ok _ _ _) bm rfl (.inl rfl) rfl rfl rfl rfl DY rj rfl rfl rfl rfl λ_=>?_
 refine j6 (by kernel_rfl) ?_
 refine⟨λj=>j,?_,rfl,rfl,bJ _,rfl,rfl⟩
 repeat' (first|exact trivial|exact rfl|(intro i hi;exact⟨rfl,rfl⟩)|exact List.Perm.refl _|refine bh ?_|refine And.intro ?_ ?_)
def Wx (fr:Nat)(L:Int→Int→Int→Int→Int→Fc)(pre:Prop)(g:aB):Option cJ:=some ⟨some pre,none,.sm fr,[(fr,.mp (dT dv gk (rk L g)))]⟩
def sA:Ct:=λfr args H=>match args with
 |[.sp aZ 0,.cg 169 (.agg [])]=>oT H aZ λg n get m aH=>Wx fr kz (bQ n get∧bQ m aH∧eo g) g
 |_=>none
theorem Vg:cY sA:=by
 intro fr args H H' out hH h
 unfold sA at h ⊢
 split at h
 ·exact vx hH h
 ·cases h
theorem Ki {l:List (Nat × Ct)}(g0:Good P T l):aP P 88 sA:=by
 have g:=ah
 refine Aj (C:=aC _) g.ok Tryz.func88 (c:=code Tryz.f88) rfl λfr args H out h hp=>?_
 unfold sA at h
 split at h
 ·rename_i aZ 
  obtain⟨i1,i2,p,n,get,m,aH,e1,e2,e3,h⟩:=vy h
  cases h
  obtain⟨hs,ew,hb⟩:bQ n get∧bQ m aH∧eo p:=hp
  refine⟨gi i1 aZ i2 n m p (au get) (au aH),[.sp 1 0,.cg 169 (.agg [])],uc n m p (au get) (au aH),4,[6],rfl,rfl,Nat.le_of_ble_eq_true rfl,DG e1 e2 e3 hs ew,rfl,rfl,λG hG=>?_⟩
  generalize au get=l1
  generalize au aH=l2
  refine sL (g.ok _ _ _) aj rfl rfl rfl rfl rfl ?_
  refine av (g.ok _ _ _) aj rfl rfl rfl rfl ?_
  refine⟨oS,?_⟩
  refine cT g.ok Tryz.func86 (c:=code Tryz.f86) rfl (Nat.le_of_ble_eq_true rfl) λG2 b_=>?_
  refine(show aX _ _ _ _ from ?_)
  refine weaken (g.ok _ _ _) (af:=⟨[(3,⟨[],.sp 5 0⟩),(5,⟨[],.sp 7 0⟩),(9,⟨[],.fn (.func 110) [] [.sp 4 0]⟩)],[],
   (7,.cells 166 [.sm 6])::(6,.mp [])::(5,.cells 194 [.cg 169 (.agg [])])::(4,.cells 114 [.sp 1 0])::uc n m p l1 l2,20,[]⟩) 4 (λj=>match j with|4=>7|5=>4|6=>5|7=>6|j=>j) hG ?_ ?_
  ·refine⟨?_,?_,rfl,rfl,rfl,rfl,trivial⟩
   ·repeat' (first|exact trivial|exact rfl|(intro i hi;exact⟨rfl,rfl⟩)|exact List.Perm.refl _|refine bh ?_|refine And.intro ?_ ?_)
   ·repeat' (first|exact trivial|exact rfl|(intro i hi;exact⟨rfl,rfl⟩)|exact List.Perm.refl _|refine bh ?_|refine And.intro ?_ ?_)
  refine lK (g.ok _ _ _) rfl rfl rfl so ?_
  intro fn
  refine lW (Bx p++Ah (.cg 169 (.agg [])) n m l1 l2 fn []) (by repeat' (first|exact trivial|exact rfl|(intro i hi;exact⟨rfl,rfl⟩)|exact List.Perm.refl _|refine bh ?_|refine And.intro ?_ ?_)) ?_
  refine tN (f:=yf kz) (ok:=λ_=>True) (CH:=Ah (.cg 169 (.agg [])) n m l1 l2 fn) hb (λc=>?_) (λc=>tw rfl) (λc a0 a1 a2 a3 a4 _ _=>trivial) (λc a0 a1 a2 a3 a4 _ o0 o1 o2 o3 o4=>aeB c o0 o1 o2 o3 o4) [] trivial ?_
  ·repeat' (first|exact trivial|exact rfl|(intro i hi;exact⟨rfl,rfl⟩)|exact List.Perm.refl _|refine bh ?_|refine And.intro ?_ ?_)
  show qZ _ _ _ _ _ _ (Bx p++Ah (.cg 169 (.agg [])) n m l1 l2 fn (rk kz p)) 25
  generalize rk kz p=R
  exact⟨.inl rfl,⟨rfl,rfl,⟨rfl,List.Perm.refl _,trivial⟩,(by repeat' (first|exact trivial|exact rfl|(intro i hi;exact⟨rfl,rfl⟩)|exact List.Perm.refl _|refine bh ?_|refine And.intro ?_ ?_)),rfl,rfl⟩⟩
 ·cases h
theorem Iz {l:List (Nat × Ct)}(g:Good P T l):Good P T ((88,sA)::l):=g.add (Ki g) Vg (aw Tryz.func88 (c:=code Tryz.f88) rfl (by decide))
def ca (n:Nat)(get:Nat→List SV):List (Int × Int):=(List.range n).map (au get)
def lG (f l:Int × Int):Bool:=wT f.1 f.2 l.1 l.2
def cC (L:List (Int × Int))(f:Fc):Nat:=L.findIdx λl=>lG f l
def Ab:Ct:=λfr args H=>match args with
 |[.sp aZ 0,.agg [.si .i64 a,.si .i64 b]]=>oT H aZ λg n get m aH=>some ⟨some (bQ n get∧bQ m aH∧m≤100∧cC (ca m aH) (a,b)<m),none,.si .i64 (cC (ca m aH) (a,b):Nat),[]⟩
 |_=>none
theorem Vj:cY Ab:=by
 intro fr args H H' out hH h
 unfold Ab at h ⊢
 split at h
 ·exact vx hH h
 ·cases h
theorem k79 {l:List (Nat × Ct)}(g0:Good P T l):aP P 89 Ab:=by
 have g:=XA ah
 refine bq (C:=aC _) g.ok Tryz.func89 (c:=code Tryz.f89) rfl λfr args H out h hp=>?_
 unfold Ab at h
 split at h
 ·rename_i aZ a b
  obtain⟨i1,i2,p,n,get,m,aH,e1,e2,e3,h⟩:=vy h
  cases h
  obtain⟨hs,ew,hm,hx⟩:bQ n get∧bQ m aH∧m≤100∧cC (ca m aH) (a,b)<m:=hp
  refine⟨jN i1 aZ i2 n m p (au get) (au aH),[.sp 1 0,.agg [.si .i64 a,.si .i64 b]],DF n m p (au get) (au aH),3,[],rfl,rfl,Nat.le_of_ble_eq_true rfl,MU e1 e2 e3 hs ew,rfl,rfl,λG hG=>?_⟩
  unfold ca at hx ⊢
  generalize au get=l1
  generalize au aH=l2 at hx ⊢
  obtain⟨x,ot⟩:∃x,cC ((List.range m).map l2) (a,b)=x:=⟨_,rfl⟩
  have aG:∀i,i<x→wT a b (l2 i).1 (l2 i).2=false:=λi hi=>by
   have h:=List.not_of_lt_findIdx (p:=λl=>lG (a,b) l) (xs:=(List.range m).map l2) (i:=i) (by rw[←ot] at hi;exact hi)
   simpa [lG] using h
  have jv:wT a b (l2 x).1 (l2 x).2=true:=by
   have h:=List.findIdx_getElem (p:=λl=>lG (a,b) l) (xs:=(List.range m).map l2) (w:=by
    have:=hx
    unfold cC at this
    simpa using this)
   have e:List.findIdx (λl=>lG (a,b) l) ((List.range m).map l2)=x:=ot
   simp only[e] at h
   simpa [lG] using h
  rw[ot] at hx ⊢
  refine cm (g.ok _ _ _) 3 (λz:{i:Nat // i≤x}=>⟨[(0,⟨[],.sp 1 0⟩),(3,⟨[],.sp 3 0⟩),(5,⟨[],.si .i64 z.1⟩)],[],(3,.cells 171 [.si .i64 a,.si .i64 b])::DF n m p l1 l2,4,[]⟩) (λz=>x-z.1) hG ⟨0,Nat.zero_le _⟩ (λj=>j) ?_ ?_
  ·refine⟨?_,?_,rfl,rfl,rfl,rfl,trivial⟩<;>exact Q1
  ·rintro⟨i,hi⟩
   refine cU (g.ok _ _ _) bP [0,0,2,6,14,0,62,126,255,511] [] 10 (by kernel_rfl) ?_
   refine aa.mk (show(0:Int)≤(i:Int)∧(i:Int)<(m:Int) from⟨by omega,by omega⟩) ?_
   refine Br.mk (λh=>?_) (λh=>?_)
   ·have h:(!wT a b (l2 i).1 (l2 i).2)=true:=h
    have aV:i≠x:=λe=>by rw[e,jv] at h;cases h
    refine aa.mk (show ae .i64 ((i:Int)+1) from⟨by omega,by omega⟩) ⟨⟨i+1,by omega⟩,(λj=>j),?_,by show x-(i+1)<x-i;omega⟩
    refine⟨?_,?_,rfl,rfl,rfl,rfl,trivial⟩<;>exact Q1
   ·have h:(!wT a b (l2 i).1 (l2 i).2)=false:=h
    have dL:i=x:=by
     rcases Nat.lt_or_ge i x with hl|hl
     ·rw[aG i hl] at h;cases h
     ·omega
    subst dL
    exact⟨.inl rfl,bU ⟨rfl,rfl⟩ rfl rfl Q1⟩
 ·cases h
theorem XD {l:List (Nat × Ct)}(g:Good P T l):Good P T ((89,Ab)::l):=g.add (k79 g) Vj (aw Tryz.func89 (c:=code Tryz.f89) rfl (by decide))
def kT (L:List (Int × Int))(fs:List Fc):Nat:=fs.foldl (λs f=>s ||| 2 ^ cC L f) 0
theorem XP (L:List (Int × Int))(fs:List Fc)(f:Fc):kT L (fs++[f])=kT L fs ||| 2 ^ cC L f:=by simp[kT,List.foldl_append]
theorem Eo (L:List (Int × Int))(fs:List Fc)(k:Nat):(kT L fs).testBit k=fs.any λf=>decide (cC L f=k):=by
 have key:∀(fs:List Fc) (s:Nat),(fs.foldl (λs f=>s ||| 2 ^ cC L f) s).testBit k=(s.testBit k||fs.any λf=>decide (cC L f=k)):=by
  intro fs
  induction fs with
  |nil=>intro s;simp
  |cons f r ih =>
   intro s
   rw[List.foldl_cons,ih,Nat.testBit_or,Nat.testBit_two_pow,List.any_cons,Bool.or_assoc]
 have:=key fs 0
 simpa [kT] using this
theorem XO {L:List (Int × Int)}{a b:List Fc}(h:a.Perm b):kT L a=kT L b:=by
 refine Nat.eq_of_testBit_eq λk=>?_
 rw[Eo,Eo]
 exact h.any_eq
theorem O5 {L:List (Int × Int)}{fs:List Fc}{m:Nat}(h:∀f∈fs,cC L f<m):kT L fs<2 ^ m:=by
 refine Nat.lt_pow_two_of_testBit _ λk hk=>?_
 rw[Eo]
 refine Bool.eq_false_iff.2 λha=>?_
 obtain⟨f,hf,e⟩:=List.any_eq_true.1 ha
 have:=h f hf
 have e:cC L f=k:=of_decide_eq_true e
 omega
def cD (L:List (Int × Int))(g:aB):Nat:=kT L ((rk kz g).map (·.1))
def z9:Ct:=λfr args H=>match args with
 |[.sp aZ 0]=>oT H aZ λg n get m aH=>some ⟨some (bQ n get∧bQ m aH∧eo g∧m≤5∧∀p∈rk kz g,cC (ca m aH) p.1<m),none,.si .u64 (cD (ca m aH) g:Nat),[]⟩
 |_=>none
theorem Vd:cY z9:=by
 intro fr args H H' out hH h
 unfold z9 at h ⊢
 split at h
 ·exact vx hH h
 ·cases h
theorem k62 {l:List (Nat × Ct)}(g0:Good P T l):aP P 53 z9:=by
 have g:=Iz (XD ah)
 refine bq (C:=aC _) g.ok Tryz.func53 (c:=code Tryz.f53) rfl λfr args H out h hp=>?_
 unfold z9 at h
 split at h
 ·rename_i aZ
  obtain⟨i1,i2,p,n,get,m,aH,e1,e2,e3,h⟩:=vy h
  cases h
  obtain⟨hs,ew,hb,hm,cq⟩:bQ n get∧bQ m aH∧eo p∧m≤5∧∀q∈rk kz p,cC (ca m aH) q.1<m:=hp
  refine⟨jN i1 aZ i2 n m p (au get) (au aH),[.sp 1 0],DF n m p (au get) (au aH),3,[],rfl,rfl,Nat.le_of_ble_eq_true rfl,MU e1 e2 e3 hs ew,rfl,rfl,λG hG=>?_⟩
  unfold cD ca at *
  generalize au get=l1
  generalize au aH=l2 at cq ⊢
  obtain⟨L,hL⟩:∃L,(List.range m).map l2=L:=⟨_,rfl⟩
  refine aa.mk ⟨dj _ _,dj _ _,hb⟩ ?_
  rw[hL] at cq ⊢
  generalize X1:rk kz p=Fv at cq ⊢
  refine Ed dv gk Fv 3 (g.ok _ _ _) aj rfl rfl rfl rfl rfl rfl rfl DY rj rfl (by rw[←X1];rfl) ?_
  intro lA ts clock mn
  refine cm (g.ok _ _ _) 3 (λx:{p:List ((Fc × Bool) × Nat) × List ((Fc × Bool) × Nat) // ts.Perm (p.1++p.2)}=>⟨[(0,⟨[],.sp 1 0⟩),(2,⟨[],.si .u64 (kT L (x.1.1.map (·.1.1)):Nat)⟩),(8,⟨[],.sp 7 0⟩)],[],
   [(7,.it 3 clock (x.1.1.map (·.2)) clock),(3,.map (kd dv gk ts) clock)]++DF n m p l1 l2,8,[]⟩) (λx=>x.1.2.length) hG ⟨([],ts),by simp⟩ (λj=>j) ?_ ?_
  ·refine⟨?_,?_,rfl,rfl,rfl,rfl,trivial⟩
   ·exact Q2
   ·repeat' (first|exact trivial|exact rfl|(intro i hi;exact⟨rfl,rfl⟩)|refine bh ?_|refine And.intro ?_ ?_)
  ·rintro⟨⟨aN,rest⟩,hp⟩
   have BE:∀y∈aN++rest,cC L y.1.1<m:=λy hy=>by
    have h1:y.1∈Fv:=mn.mem_iff.1 (List.mem_map_of_mem (f:=λx=>x.1) (hp.mem_iff.2 hy))
    exact cq _ h1
   have PO:∀k,k≤m→(2:Nat) ^ k≤32:=λk hk=>Nat.pow_le_pow_right (by decide) (show k≤5 by omega)
   have rD:kT L (aN.map (·.1.1))<2 ^ m:=O5 λf hf=>by
    obtain⟨y,hy,rfl⟩:=List.mem_map.1 hf
    exact BE y (List.mem_append_left _ hy)
   have:=PO m (Nat.le_refl _)
   refine Ec dv gk 3 7 clock ts aN rest (g.ok _ _ _) aj rfl rfl rfl rfl rfl DY rj rfl rfl rfl hp ⟨λhr=>?_,?_⟩
   ·replace hr:rest=[]:=hr
    subst hr
    have hv:ts.Perm aN:=by simpa using hp
    refine Br.mk (λh=>by cases h) (λ_=>?_)
    refine⟨.inl rfl,bU ⟨rfl,?_⟩ rfl rfl Q1⟩
    show((kT L (aN.map (·.1.1)):Nat):Int)=((kT L (Fv.map (·.1)):Nat):Int)
    rw[XO (show(aN.map (·.1.1)).Perm (Fv.map (·.1)) from by
     have h2:=((hv.symm.map (λx=>x.1)).trans mn).map (λx:Fc × Bool=>x.1)
     rw[List.map_map] at h2
     exact h2)]
   ·rintro⟨⟨⟨a,b⟩,bb⟩,st⟩ iY lD
    refine Br.mk (λ_=>?_) (λh=>by cases h)
    have EZ:(((a,b),bb),st)∈ts:=hp.mem_iff.2 (List.mem_append_right _ (lD.mem_iff.2 List.mem_cons_self))
    refine Eb dv gk 3 7 clock ts aN (((a,b),bb),st) (g.ok _ _ _) aj rfl rfl rfl rfl rfl DY rj rfl rfl rfl EZ ?_
    have hx:cC L (a,b)<m:=BE (((a,b),bb),st) (hp.mem_iff.1 EZ)
    refine aa.mk ⟨dj _ _,dj _ _,by omega,(by show cC ((List.range m).map l2) (a,b)<m;rw[hL];exact hx)⟩ ?_
    obtain⟨x,ot⟩:∃x,cC L (a,b)=x:=⟨_,rfl⟩
    have hE:cC ((List.range m).map l2) (a,b)=x:=by rw[hL,ot]
    rw[ot] at hx
    have h2x:=PO x (by omega)
    have XX:0<(2:Nat) ^ x:=Nat.pow_pos (by decide)
    have uK:(1*2 ^ ((cC ((List.range m).map l2) (a,b):Nat):Int).toNat:Int)=((2 ^ x:Nat):Int):=by
     rw[hE,Int.toNat_natCast]
     push_cast
     omega
    refine aa.mk (show(0:Int)≤((cC ((List.range m).map l2) (a,b):Nat):Int)∧((cC ((List.range m).map l2) (a,b):Nat):Int).toNat≤64∧ae .u64 (1*2 ^ ((cC ((List.range m).map l2) (a,b):Nat):Int).toNat) from by
     rw[uK,hE,Int.toNat_natCast]
     exact⟨by omega,by omega,by show(0:Int)≤_;omega,by show _≤(18446744073709551615:Int);omega⟩) ?_
    refine aa.mk (show(0:Int)≤((kT L (aN.map (·.1.1)):Nat):Int)∧(0:Int)≤1*2 ^ ((cC ((List.range m).map l2) (a,b):Nat):Int).toNat∧ae .u64 ((kT L (aN.map (·.1.1)):Nat):Int)∧ae .u64 (1*2 ^ ((cC ((List.range m).map l2) (a,b):Nat):Int).toNat) from by
     rw[uK]
     exact⟨by omega,by omega,⟨by show(0:Int)≤_;omega,by show _≤(18446744073709551615:Int);omega⟩,by show(0:Int)≤_;omega,by show _≤(18446744073709551615:Int);omega⟩) ?_
    have jy:ts.Perm ((aN++[(((a,b),bb),st)])++iY):=by
     rw[List.append_assoc]
     exact hp.trans (List.Perm.append_left _ lD)
    refine⟨⟨(aN++[(((a,b),bb),st)],iY),jy⟩,(λj=>j),?_,(by show iY.length<rest.length;rw[lD.length_eq];simp)⟩
    refine⟨?_,?_,rfl,rfl,rfl,rfl,trivial⟩
    ·repeat' (first|exact trivial|exact rfl|refine And.intro ?_ ?_)
     show((((kT L (aN.map (·.1.1)):Nat):Int).toNat ||| (1*2 ^ ((cC ((List.range m).map l2) (a,b):Nat):Int).toNat:Int).toNat:Nat):Int)=((kT L ((aN++[(((a,b),bb),st)]).map (·.1.1)):Nat):Int)
     rw[uK,List.map_append,List.map_singleton,XP,ot,Int.toNat_natCast,Int.toNat_natCast]
    ·repeat' (first|exact trivial|exact rfl|(intro i hi;exact⟨rfl,rfl⟩)|refine bh ?_|refine And.intro ?_ ?_)
 ·cases h
theorem OQ {l:List (Nat × Ct)}(g:Good P T l):Good P T ((53,z9)::l):=g.add (k62 g) Vd (aw Tryz.func53 (c:=code Tryz.f53) rfl (by decide))
def Hl:Ct:=bd fun
 |[.si .i64 q]=>some ⟨none,none,.sb (aE q 0 4),[]⟩
 |_=>none
theorem k48 {l:List (Nat × Ct)}(g0:Good P T l):aP P 106 Hl:=by
 have g:=IB (OT ah)
 refine bq (C:=aC _) g.ok Tryz.func106 (c:=code Tryz.f106) rfl λfr args H out h hp=>?_
 simp only[Hl,bd] at h
 split at h
 ·cases h
  refine dt rfl (Nat.le_of_ble_eq_true rfl) λG hG=>?_
  exact⟨.inl rfl,cz rfl rfl rfl⟩
 ·cases h
theorem Xp {l:List (Nat × Ct)}(g:Good P T l):Good P T ((106,Hl)::l):=g.add (k48 g) (cZ _) (aw Tryz.func106 (c:=code Tryz.f106) rfl (by decide))
def bR (i1:Nat)(g:aB):List SV:=[.sl i1,.si .i64 g.l0,.si .i64 g.h0,.si .i64 g.l1,.si .i64 g.h1,.si .i64 g.l2,.si .i64 g.h2,.si .i64 g.l3,.si .i64 g.h3,.si .i64 g.l4,.si .i64 g.h4,.si .i64 g.st]
def pa (H:LH)(l:List SV)(K:Nat→aB→(n:Nat)→(Nat→List SV)→Option cJ):Option cJ :=
 match l with
 |[.sl i1,.si .i64 l0,.si .i64 h0,.si .i64 l1,.si .i64 h1,.si .i64 l2,.si .i64 h2,.si .i64 l3,.si .i64 h3,.si .i64 l4,.si .i64 h4,.si .i64 st]=>(match cn 2 H i1 with
  |some (n,get)=>K i1 ⟨l0,h0,l1,h1,l2,h2,l3,h3,l4,h4,st⟩ n get
  |none=>none)
 |_=>none
theorem we {H:LH}{l:List SV}{K:Nat→aB→(n:Nat)→(Nat→List SV)→Option cJ}{out:cJ}(h:pa H l K=some out) :
  ∃i1 g n get,l=bR i1 g∧cn 2 H i1=some (n,get)∧K i1 g n get=some out:=by
 unfold pa at h
 split at h
 ·split at h
  ·rename_i e1
   exact⟨_,⟨_,_,_,_,_,_,_,_,_,_,_⟩,_,_,rfl,e1,h⟩
  ·cases h
 ·cases h
theorem wc {H H':LH}{l:List SV}{K:Nat→aB→(n:Nat)→(Nat→List SV)→Option cJ}{out:cJ}(hH:∀id hb,H id=some hb→H' id=some hb)(h:pa H l K=some out):pa H' l K=some out:=by
 unfold pa at h ⊢
 split at h
 ·split at h
  ·rename_i e1
   simp only[fk hH e1]
   exact h
  ·cases h
 ·cases h
def z_:Ct:=λfr args H=>match args with
 |[.agg l,.si .i64 q]=>pa H l λi1 g n get=>some ⟨some (bQ n get∧n≤1000000),none,.sb (aE q 0 ((n:Int)-1)),[]⟩
 |_=>none
theorem Ve:cY z_:=by
 intro fr args H H' out hH h
 unfold z_ at h ⊢
 split at h
 ·exact wc hH h
 ·cases h
theorem k65 {l:List (Nat × Ct)}(g0:Good P T l):aP P 51 z_:=by
 have g:=IB ah
 refine bq (C:=aC _) g.ok Tryz.func51 (c:=code Tryz.f51) rfl λfr args H out h hp=>?_
 unfold z_ at h
 split at h
 ·rename_i l q
  obtain⟨i1,p,n,get,rfl,e1,h⟩:=we h
  cases h
  obtain⟨hs,hn⟩:bQ n get∧n≤1000000:=hp
  have hh:Hand H [(i1,.ro 2 n λi=>az (au get i))]:=kU e1 (λi=>rfl) (λi hi=>(hs i hi).symm)
  refine⟨[(i1,.ro 2 n λi=>az (au get i))],[.agg (bR 0 p),.si .i64 q],[(0,.ro 2 n λi=>az (au get i))],1,[],rfl,rfl,Nat.le_of_ble_eq_true rfl,hh,rfl,rfl,λG hG=>?_⟩
  refine aa.mk (show ae .i64 ((n:Int)-1) from⟨by show(-9223372036854775808:Int)≤_;omega,by show _≤(9223372036854775807:Int);omega⟩) ?_
  exact⟨.inl rfl,bU rfl rfl rfl Q1⟩
 ·cases h
theorem Xz {l:List (Nat × Ct)}(g:Good P T l):Good P T ((51,z_)::l):=g.add (k65 g) Ve (aw Tryz.func51 (c:=code Tryz.f51) rfl (by decide))
def kh (n:Nat)(st:Int):Bool:=aE n 1 4&&aE st 0 10
def rH (p l:Int × Int):Bool:=aE l.1 p.1 20&&aE l.2 p.2 20
def nj:Int × Int→List (Int × Int)→Bool
 |_,[]=>true
 |p,l::r=>rH p l&&nj l r
def cb (lo hi:Int):Bool:=(decide (-20≤lo)&&decide (lo≤hi)&&decide (hi≤20))&&decide (hi-lo≤6)
def dw (g:aB):Nat→Bool
 |0=>true
 |1=>cb g.l0 g.h0
 |2=>cb g.l0 g.h0&&cb g.l1 g.h1
 |3=>(cb g.l0 g.h0&&cb g.l1 g.h1)&&cb g.l2 g.h2
 |4=>((cb g.l0 g.h0&&cb g.l1 g.h1)&&cb g.l2 g.h2)&&cb g.l3 g.h3
 |_=>(((cb g.l0 g.h0&&cb g.l1 g.h1)&&cb g.l2 g.h2)&&cb g.l3 g.h3)&&cb g.l4 g.h4
def da (g:aB)(L:List (Int × Int)):Bool:=kh L.length g.st&&(nj (0,0) L&&dw g 5)
def ft (g:aB)(L:List (Int × Int))(is:Bool):Int:=if da g L=true then(if is=true then 0 else 2) else 1
def jh (n:Nat)(l:Nat→Int × Int)(i:Nat):Int × Int:=if i<n then l i else(40,40)
def sx:Ct:=λfr args H=>match args with
 |[.agg l,.sb is]=>pa H l λi1 g n get=>some ⟨some (bQ n get∧n≤1000000),some (!decide (ft g (ca n get) is=0),iX (ft g (ca n get) is)),.sp fr 0,
   [(fr,.cells 155 (zS i1 (fr+1) g)),(fr+1,.vec 120 2 (n+1) λi=>az (jh n (au get) i))]⟩
 |_=>none
theorem U':cY sx:=by
 intro fr args H H' out hH h
 unfold sx at h ⊢
 split at h
 ·exact wc hH h
 ·cases h
def m_ (L:Nat→Int × Int):Nat→Int × Int
 |0=>(0,0)
 |i+1=>L i
theorem Ke {l:List (Nat × Ct)}(g0:Good P T l):aP P 50 sx:=by
 have g:=v7 (IB ah)
 refine bq (C:=aC _) g.ok Tryz.func50 (c:=code Tryz.f50) rfl λfr args H out h hp=>?_
 unfold sx at h
 split at h
 case h_2=>cases h
 rename_i l is
 obtain⟨i1,p,n,get,rfl,e1,h⟩:=we h
 cases h
 obtain⟨hs,hn⟩:bQ n get∧n≤1000000:=hp
 have hh:Hand H [(i1,.ro 2 n λi=>az (au get i))]:=kU e1 (λi=>rfl) (λi hi=>(hs i hi).symm)
 refine⟨[(i1,.ro 2 n λi=>az (au get i))],[.agg (bR 0 p),.sb is],[(0,.ro 2 n λi=>az (au get i))],1,[10,3],rfl,rfl,Nat.le_of_ble_eq_true rfl,hh,rfl,rfl,λG hG=>?_⟩
 have hE:ft p (ca n get) is=if kh n p.st=true then(if nj (0,0) ((List.range n).map (au get))=true then(if dw p 5=true then(if is=true then 0 else 2) else 1) else 1) else 1:=by
  unfold ft da ca
  rw[List.length_map,List.length_range]
  cases kh n p.st<;>cases nj (0,0) ((List.range n).map (au get))<;>cases dw p 5<;>rfl
 generalize ft p (ca n get) is=E at hE ⊢
 generalize au get=L at hE ⊢
 refine Br.mk (λh=>?_) (λh=>?_)
 ·have h:(!kh n p.st)=true:=h
  have h:kh n p.st=false:=by simpa using h
  rw[h] at hE
  simp only[Bool.false_eq_true,if_false] at hE
  subst hE
  exact⟨rfl,trivial,trivial⟩
 have h:(!kh n p.st)=false:=h
 have h:kh n p.st=true:=by simpa using h
 rw[if_pos h] at hE
 have Y3:n≤4:=by
  simp only[kh,aE,Bool.and_eq_true,decide_eq_true_eq] at h
  omega
 obtain⟨V,hV⟩:∃V,nj (0,0) ((List.range n).map L)=V:=⟨_,rfl⟩
 rw[hV] at hE
 have I6:∀i,i<n→(List.range' i (n-i)).map L=L i::(List.range' (i+1) (n-(i+1))).map L:=λi hi=>by
  rw[show n-i=(n-(i+1))+1 by omega,List.range'_succ,List.map_cons]
 refine cm (g.ok _ _ _) 1 (λx:{i:Nat // i≤n∧nj (m_ L i) ((List.range' i (n-i)).map L)=V}=>⟨[(1,⟨[],.sb is⟩),(2,⟨[],.sp 1 0⟩),(5,⟨[],.sp 2 0⟩),(23,⟨[],.sl 0⟩),(24,⟨[],.si .i64 n⟩),(25,⟨[],.si .i64 x.1⟩)],[],
  [(2,.cells 120 (az (m_ L x.1))),(1,.cells 40 (bR 0 p)),(0,.ro 2 n λi=>az (L i))],3,[]⟩) (λx=>n-x.1) hG ⟨0,Nat.zero_le _,by rw[←hV,List.range_eq_range'];rfl⟩ (λj=>j) ?_ ?_
 ·refine⟨?_,?_,rfl,rfl,rfl,rfl,trivial⟩<;>exact Q1
 rintro⟨i,hi,hv⟩
 refine Br.mk (λh1=>?_) (λh1=>?_)
 ·have h1:(i:Int)<(n:Int):=of_decide_eq_true h1
  refine aa.mk (show(0:Int)≤(i:Int)∧(i:Int)<(n:Int) from⟨by omega,h1⟩) ?_
  rw[I6 i (by omega)] at hv
  refine Br.mk (λh2=>?_) (λh2=>?_)
  ·have h2:(!rH (m_ L i) (L i))=true:=h2
   have h2:rH (m_ L i) (L i)=false:=by simpa using h2
   rw[nj,h2] at hv
   have hv:false=V:=hv
   subst hv
   simp only[Bool.false_eq_true,if_false] at hE
   subst hE
   exact⟨rfl,trivial,trivial⟩
  ·have h2:(!rH (m_ L i) (L i))=false:=h2
   have h2:rH (m_ L i) (L i)=true:=by simpa using h2
   rw[nj,h2,Bool.true_and] at hv
   refine aa.mk (show ae .i64 ((i:Int)+1) from⟨by omega,by omega⟩) ⟨⟨i+1,by omega,hv⟩,(λj=>j),?_,by show n-(i+1)<n-i;omega⟩
   refine⟨?_,?_,rfl,rfl,rfl,rfl,trivial⟩<;>exact Q1
 have h1:¬(i:Int)<(n:Int):=of_decide_eq_false h1
 obtain rfl:i=n:=by omega
 rw[show i-i=0 by omega] at hv
 have hv:true=V:=hv
 subst hv
 rw[if_pos rfl] at hE
 refine cm (g.ok _ _ _) 1 (λx:{j:Nat // j≤5∧dw p j=true}=>⟨[(1,⟨[],.sb is⟩),(2,⟨[],.sp 1 0⟩),(45,⟨[],.agg [.si .i64 p.l0,.si .i64 p.h0,.si .i64 p.l1,.si .i64 p.h1,.si .i64 p.l2,.si .i64 p.h2,.si .i64 p.l3,.si .i64 p.h3,.si .i64 p.l4,.si .i64 p.h4]⟩),(46,⟨[],.si .i64 x.1⟩)],[],
  [(1,.cells 40 (bR 0 p)),(0,.ro 2 i λi=>az (L i))],3,[]⟩) (λx=>5-x.1) hG ⟨0,Nat.zero_le _,rfl⟩ (λj=>j) ?_ ?_
 ·refine⟨?_,?_,rfl,rfl,rfl,rfl,trivial⟩<;>exact Q1
 rintro⟨j,hj,lC⟩
 rcases(show j=0∨j=1∨j=2∨j=3∨j=4∨j=5 by omega) with rfl|rfl|rfl|rfl|rfl|rfl
 ·refine Br.mk (λ_=>?_) (λh=>by cases h)
  refine aa.mk (cS 0 5 rfl) ?_
  refine aa.mk (λh2=>?_) ?_
  ·have h2:(decide (-20≤p.l0)&&decide (p.l0≤p.h0)&&decide (p.h0≤20))=true:=h2
   simp only[Bool.and_eq_true,decide_eq_true_eq] at h2
   show _≤p.h0-p.l0∧p.h0-p.l0≤_
   omega
  refine Br.mk (λh2=>?_) (λh2=>?_)
  ·have h2:(!cb p.l0 p.h0)=true:=h2
   have h2:cb p.l0 p.h0=false:=by simpa using h2
   have h3:dw p 5=false:=by simp[dw,h2]
   rw[h3] at hE
   simp only[Bool.false_eq_true,if_false] at hE
   subst hE
   exact⟨rfl,trivial,trivial⟩
  ·have h2:(!cb p.l0 p.h0)=false:=h2
   have h2:cb p.l0 p.h0=true:=by simpa using h2
   refine aa.mk (dS 0 rfl) ⟨⟨1,by omega,h2⟩,(λj=>j),?_,by show 5-1<5-0;omega⟩
   refine⟨?_,?_,rfl,rfl,rfl,rfl,trivial⟩<;>exact Q1
 ·refine Br.mk (λ_=>?_) (λh=>by cases h)
  refine aa.mk (cS 1 5 rfl) ?_
  refine aa.mk (λh2=>?_) ?_
  ·have h2:(decide (-20≤p.l1)&&decide (p.l1≤p.h1)&&decide (p.h1≤20))=true:=h2
   simp only[Bool.and_eq_true,decide_eq_true_eq] at h2
   show _≤p.h1-p.l1∧p.h1-p.l1≤_
   omega
  refine Br.mk (λh2=>?_) (λh2=>?_)
  ·have h2:(!cb p.l1 p.h1)=true:=h2
   have h2:cb p.l1 p.h1=false:=by simpa using h2
   have h3:dw p 5=false:=by simp[dw,h2]
   rw[h3] at hE
   simp only[Bool.false_eq_true,if_false] at hE
   subst hE
   exact⟨rfl,trivial,trivial⟩
  ·have h2:(!cb p.l1 p.h1)=false:=h2
   have h2:cb p.l1 p.h1=true:=by simpa using h2
   refine aa.mk (dS 1 rfl) ⟨⟨2,by omega,(show(dw p 1&&cb p.l1 p.h1)=true from by rw[show dw p 1=true from lC,h2];rfl)⟩,(λj=>j),?_,by show 5-2<5-1;omega⟩
   refine⟨?_,?_,rfl,rfl,rfl,rfl,trivial⟩<;>exact Q1
 ·refine Br.mk (λ_=>?_) (λh=>by cases h)
  refine aa.mk (cS 2 5 rfl) ?_
  refine aa.mk (λh2=>?_) ?_
  ·have h2:(decide (-20≤p.l2)&&decide (p.l2≤p.h2)&&decide (p.h2≤20))=true:=h2
   simp only[Bool.and_eq_true,decide_eq_true_eq] at h2
   show _≤p.h2-p.l2∧p.h2-p.l2≤_
   omega
  refine Br.mk (λh2=>?_) (λh2=>?_)
  ·have h2:(!cb p.l2 p.h2)=true:=h2
   have h2:cb p.l2 p.h2=false:=by simpa using h2
   have h3:dw p 5=false:=by simp[dw,h2]
   rw[h3] at hE
   simp only[Bool.false_eq_true,if_false] at hE
   subst hE
   exact⟨rfl,trivial,trivial⟩
  ·have h2:(!cb p.l2 p.h2)=false:=h2
   have h2:cb p.l2 p.h2=true:=by simpa using h2
   refine aa.mk (dS 2 rfl) ⟨⟨3,by omega,(show(dw p 2&&cb p.l2 p.h2)=true from by rw[show dw p 2=true from lC,h2];rfl)⟩,(λj=>j),?_,by show 5-3<5-2;omega⟩
   refine⟨?_,?_,rfl,rfl,rfl,rfl,trivial⟩<;>exact Q1
 ·refine Br.mk (λ_=>?_) (λh=>by cases h)
  refine aa.mk (cS 3 5 rfl) ?_
  refine aa.mk (λh2=>?_) ?_
  ·have h2:(decide (-20≤p.l3)&&decide (p.l3≤p.h3)&&decide (p.h3≤20))=true:=h2
   simp only[Bool.and_eq_true,decide_eq_true_eq] at h2
   show _≤p.h3-p.l3∧p.h3-p.l3≤_
   omega
  refine Br.mk (λh2=>?_) (λh2=>?_)
  ·have h2:(!cb p.l3 p.h3)=true:=h2
   have h2:cb p.l3 p.h3=false:=by simpa using h2
   have h3:dw p 5=false:=by simp[dw,h2]
   rw[h3] at hE
   simp only[Bool.false_eq_true,if_false] at hE
   subst hE
   exact⟨rfl,trivial,trivial⟩
  ·have h2:(!cb p.l3 p.h3)=false:=h2
   have h2:cb p.l3 p.h3=true:=by simpa using h2
   refine aa.mk (dS 3 rfl) ⟨⟨4,by omega,(show(dw p 3&&cb p.l3 p.h3)=true from by rw[show dw p 3=true from lC,h2];rfl)⟩,(λj=>j),?_,by show 5-4<5-3;omega⟩
   refine⟨?_,?_,rfl,rfl,rfl,rfl,trivial⟩<;>exact Q1
 ·refine Br.mk (λ_=>?_) (λh=>by cases h)
  refine aa.mk (cS 4 5 rfl) ?_
  refine aa.mk (λh2=>?_) ?_
  ·have h2:(decide (-20≤p.l4)&&decide (p.l4≤p.h4)&&decide (p.h4≤20))=true:=h2
   simp only[Bool.and_eq_true,decide_eq_true_eq] at h2
   show _≤p.h4-p.l4∧p.h4-p.l4≤_
   omega
  refine Br.mk (λh2=>?_) (λh2=>?_)
  ·have h2:(!cb p.l4 p.h4)=true:=h2
   have h2:cb p.l4 p.h4=false:=by simpa using h2
   have h3:dw p 5=false:=by simp[dw,h2]
   rw[h3] at hE
   simp only[Bool.false_eq_true,if_false] at hE
   subst hE
   exact⟨rfl,trivial,trivial⟩
  ·have h2:(!cb p.l4 p.h4)=false:=h2
   have h2:cb p.l4 p.h4=true:=by simpa using h2
   refine aa.mk (dS 4 rfl) ⟨⟨5,by omega,(show(dw p 4&&cb p.l4 p.h4)=true from by rw[show dw p 4=true from lC,h2];rfl)⟩,(λj=>j),?_,by show 5-5<5-4;omega⟩
   refine⟨?_,?_,rfl,rfl,rfl,rfl,trivial⟩<;>exact Q1
 refine Br.mk (λh=>by cases h) (λ_=>?_)
 rw[if_pos lC] at hE
 refine Br.mk (λh2=>?_) (λh2=>?_)
 ·have h2:(!is)=true:=h2
  have h2:is=false:=by simpa using h2
  subst h2
  simp only[Bool.false_eq_true,if_false] at hE
  subst hE
  exact⟨rfl,trivial,trivial⟩
 have h2:(!is)=false:=h2
 have h2:is=true:=by simpa using h2
 subst h2
 rw[if_pos rfl] at hE
 subst hE
 refine(show aX _ _ _ _ from ?_)
 refine lT bP ?_
 refine ef 1 (g.ok _ _ _) rfl rfl rfl rfl rfl rfl rfl (by kernel_rfl) (by kernel_rfl) (by kernel_rfl) ?_
 refine Mz [0,2] ⟨[(76,⟨[],.agg (bR 0 p)⟩),(81,⟨[],.sl 3⟩),(2,⟨[],.sp 1 0⟩)],[],[(3,.vec 120 2 (i+1) λ_=>[.si .i64 0,.si .i64 0]),(1,.cells 40 (bR 0 p)),(0,.ro 2 i λi=>az (L i))],10,[]⟩ 3 #[true,true,true,true,true,true,false,false,false] (g.ok _ _ _) (by kernel_rfl) (by decide) (λK hK=>⟨?_,?_,trivial⟩) ?_
 ·skip
  refine aJ [2] (g.ok _ _ _) (by kernel_rfl) (by decide) ⟨?_,trivial⟩
  refine aJ [3] (g.ok _ _ _) (by kernel_rfl) (by decide) ⟨?_,trivial⟩
  refine aJ [4] (g.ok _ _ _) (by kernel_rfl) (by decide) ⟨?_,trivial⟩
  refine aa.mk (show ae .i64 ((i:Int)+1) from⟨by omega,by omega⟩) ?_
  refine aJ [5] (g.ok _ _ _) (by kernel_rfl) (by decide) ⟨?_,trivial⟩
  refine oY (i+1) (g.ok _ _ _) bm rfl rfl rfl rfl rfl rfl rfl rfl rfl rfl (by decide) (by omega) rfl rfl ?_
  exact ij 1 (λj=>j) hG (by refine⟨?_,?_,bJ _,rfl,rfl,rfl,trivial⟩<;>exact Q1) hK
 ·skip
  refine aJ [0,3] (g.ok _ _ _) (by kernel_rfl) (by decide) ⟨?_,?_,trivial⟩
  ·skip
   refine aJ [3] (g.ok _ _ _) (by kernel_rfl) (by decide) ⟨?_,trivial⟩
   refine aJ [4] (g.ok _ _ _) (by kernel_rfl) (by decide) ⟨?_,trivial⟩
   refine aa.mk (show ae .i64 ((i:Int)+1) from⟨by omega,by omega⟩) ?_
   refine aJ [5] (g.ok _ _ _) (by kernel_rfl) (by decide) ⟨?_,trivial⟩
   refine oY (i+1) (g.ok _ _ _) bm rfl rfl rfl rfl rfl rfl rfl rfl rfl rfl (by decide) (by omega) rfl rfl ?_
   exact ij 1 (λj=>j) hG (by refine⟨?_,?_,bJ _,rfl,rfl,rfl,trivial⟩<;>exact Q1) hK
  ·skip
   refine aJ [0,4] (g.ok _ _ _) (by kernel_rfl) (by decide) ⟨?_,?_,trivial⟩
   ·skip
    refine aJ [4] (g.ok _ _ _) (by kernel_rfl) (by decide) ⟨?_,trivial⟩
    refine aa.mk (show ae .i64 ((i:Int)+1) from⟨by omega,by omega⟩) ?_
    refine aJ [5] (g.ok _ _ _) (by kernel_rfl) (by decide) ⟨?_,trivial⟩
    refine oY (i+1) (g.ok _ _ _) bm rfl rfl rfl rfl rfl rfl rfl rfl rfl rfl (by decide) (by omega) rfl rfl ?_
    exact ij 1 (λj=>j) hG (by refine⟨?_,?_,bJ _,rfl,rfl,rfl,trivial⟩<;>exact Q1) hK
   ·skip
    refine aa.mk (show ae .i64 ((i:Int)+1) from⟨by omega,by omega⟩) ?_
    refine aJ [0,5] (g.ok _ _ _) (by kernel_rfl) (by decide) ⟨?_,?_,trivial⟩
    ·skip
     refine aJ [5] (g.ok _ _ _) (by kernel_rfl) (by decide) ⟨?_,trivial⟩
     refine oY (i+1) (g.ok _ _ _) bm rfl rfl rfl rfl rfl rfl rfl rfl rfl rfl (by decide) (by omega) rfl rfl ?_
     exact ij 1 (λj=>j) hG (by refine⟨?_,?_,bJ _,rfl,rfl,rfl,trivial⟩<;>exact Q1) hK
    ·skip
     refine oY (i+1) (g.ok _ _ _) bm rfl rfl rfl rfl rfl rfl rfl rfl rfl rfl (by decide) (by omega) rfl rfl ?_
     refine aJ [0] (g.ok _ _ _) (by kernel_rfl) (by decide) ⟨?_,trivial⟩
     exact ij 1 (λj=>j) hG (by refine⟨?_,?_,bJ _,rfl,rfl,rfl,trivial⟩<;>exact Q1) hK
 refine aJ [6] (g.ok _ _ _) (by kernel_rfl) (by decide) ⟨?_,trivial⟩
 refine aJ [7] (g.ok _ _ _) (by kernel_rfl) (by decide) ⟨?_,trivial⟩
 refine aJ [8] (g.ok _ _ _) (by kernel_rfl) (by decide) ⟨?_,trivial⟩
 refine j6 (by kernel_rfl) ?_
 refine cU (g.ok _ _ _) bP [0,1,3,7,0,16,63] [] 6 (by kernel_rfl) ?_
 refine Ea 3 0 (i+1) i (λ_=>[.si .i64 0,.si .i64 0]) (λj=>az (L j)) (λj=>if j<i then az (L j) else[.si .i64 0,.si .i64 0]) (g.ok _ _ _) aj rfl rfl rfl rfl rfl rfl rfl rfl rfl rfl rfl rfl rfl rfl rfl (by decide) (λj hj=>rfl) ?_
 refine(show aX _ _ _ _ from ?_)
 refine cU (g.ok _ _ _) bP [0,1,3,7,0,16,48,0,255,511] [] 9 (by kernel_rfl) ?_
 refine aa.mk (show(0:Int)≤(i:Int)∧(i:Int)<((i+1:Nat):Int) from⟨by omega,by omega⟩) ?_
 refine oZ 3 120 2 (i+1) i 0 (λj=>if j<i then az (L j) else[.si .i64 0,.si .i64 0]) (λj=>az (jh i L j)) [.si .i64 40,.si .i64 40] (g.ok _ _ _) aj rfl rfl rfl rfl rfl rfl rfl rfl rfl rfl (by omega) (by decide) (λj hj=>?_) ?_
 ·unfold jh
  by_cases kZ:j<i
  ·rw[if_pos kZ,if_neg (show ¬j=(i:Int).toNat by omega),if_pos kZ]
  ·rw[if_neg kZ,if_pos (show j=(i:Int).toNat by omega),if_neg kZ]
   rfl
 exact⟨.inr ⟨_,rfl⟩,⟨⟨rfl,rfl⟩,rfl,Q1,Q1,rfl,rfl⟩⟩
theorem A1 {l:List (Nat × Ct)}(g:Good P T l):Good P T ((50,sx)::l):=g.add (Ke g) U' (aw Tryz.func50 (c:=code Tryz.f50) rfl (by decide))
end Go.X.Gr
