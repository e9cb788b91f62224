/- Slices: the executor's steps; Grade: the small functions of the package and of its document. -/
import Derived.Test.YtfhkkhgbjbnenaaGreatDoorTSC
import Derived.RangeFuncRecord
import Derived.ProofKit
import Derived.OpenShut
import Derived.Carry
import Derived.ChangeOld
import Derived.Deep.Slices
import Derived.Lib.SmallJoins
import Derived.OrdersIn

set_option linter.unusedVariables false
set_option linter.unusedSimpArgs false
set_option linter.unusedSectionVars false
set_option maxRecDepth 100000
set_option maxHeartbeats 4000000

namespace Go.X
open Go
section
variable {X:Cx}{st:St}
theorem Mod.kill {ρ:Env}{a:Act}{w:World}(hm:Mod X ρ st a w){id:Nat}{hb:HB}(hf:ab st.H id=some hb):Mod X ρ { st with H:=(id,.dead)::st.H } a w where
 fm:=hm.fm
 gs:=hm.gs
 df:=hm.df
 hm:=hm.hm.kill (let ⟨nm,h,_⟩:=hm.hm.ok id hb hf;⟨nm,h⟩)
 kp:={
  str:=hm.kp.str
  size:=hm.kp.size
  same:=hm.kp.same
  own:=λb ho=>by
   obtain⟨i,x,nm,_,h1,h2,h3,h4⟩:=Own.kill ho
   exact hm.kp.own b ⟨i,x,nm,h1,h2,h3,h4⟩
  ext:=hm.kp.ext
  fz:=λb hz=>hm.kp.fz b (hz.aq λs C h=>by cases h) }
 nx:=hm.nx
 sz:=hm.sz
theorem Mod.swap {ρ:Env}{a:Act}{w:World}(hm:Mod X ρ st a w){id:Nat}{hb hb':HB}{nm:Nm}(hf:ab st.H id=some hb)(hl:hb.live=true)(hn:ρ id=some nm)(ap:ao ρ w hb' nm)(mj:∀s n g,hb'≠.ro s n g)(ma:∀s C,hb'≠.ax s C:=by intro s C h;cases h):Mod X ρ { st with H:=(id,hb')::st.H } a w:=by
 have cM:∀c,Own ρ (jI (ab st.H) id hb') c→Own ρ (ab st.H) c:=by
  rintro c ⟨j,x,ak,h1,h2,h3,h4⟩
  by_cases e:id=j
  ·subst e;exact⟨id,hb,ak,hf,hl,h3,h4⟩
  ·rw[aR _ _ e] at h1;exact⟨j,x,ak,h1,h2,h3,h4⟩
 exact{
  fm:=hm.fm
  gs:=hm.gs
  df:=hm.df
  hm:={
   ok:=λj x hj=>by
    rw[ba] at hj
    by_cases e:id=j
    ·subst e;rw[cP] at hj;cases hj;exact⟨nm,hn,ap⟩
    ·rw[aR _ _ e] at hj;exact hm.hm.ok j x hj
   sep:=λi j x y c_ dE b h1 h2 l1 l2 r1 r2 o1 o2=>by
    rw[ba] at h1 h2
    by_cases e1:id=i<;>by_cases e2:id=j
    ·exact e1.symm.trans e2
    ·subst e1
     rw[aR _ _ e2] at h2
     exact hm.hm.sep id j hb y c_ dE b hf h2 hl l2 r1 r2 o1 o2
    ·subst e2
     rw[aR _ _ e1] at h1
     exact hm.hm.sep i id x hb c_ dE b h1 hf l1 hl r1 r2 o1 o2
    ·rw[aR _ _ e1] at h1
     rw[aR _ _ e2] at h2
     exact hm.hm.sep i j x y c_ dE b h1 h2 l1 l2 r1 r2 o1 o2
   ro:=λj size n get ak c hj fG hr lq BD=>by
    rw[ba] at hj
    by_cases e:id=j
    ·subst e;rw[cP] at hj;cases hj;exact mj _ _ _ rfl
    ·rw[aR _ _ e] at hj
     exact hm.hm.ro j size n get ak c hj fG hr lq (cM c BD)
   ax:=λb hz ho=>hm.hm.ax b (hz.aq ma) (cM b ho) }
  kp:={ str:=hm.kp.str,size:=hm.kp.size,same:=hm.kp.same,own:=λb ho=>hm.kp.own b (cM b ho),ext:=hm.kp.ext,fz:=λb hz=>hm.kp.fz b (hz.aq ma) }
  nx:=hm.nx
  sz:=hm.sz }
theorem K9 {P:Program}{a:Act}{o:Oper}{c:Call}{b:Builtin}{x y:Operand}{t u:TypeId}{f:Array TypeId→TypeId→Array Value→Sem Value}{w w':World}{v:Value}(hc:o.op=.call c)(bi:c.callee=.builtin b)(lr:c.args=#[x,y])(gG:c.argTypes=#[t,u])
  (hb:∀cs args,builtin b #[t,u] o.type cs args=(do pure (.value (←f #[t,u] o.type args)):Sem Next)) (h:(f #[t,u] o.type #[a.eval x,a.eval y]).run P w=.ok v w'):(execOp a.eval o).run P w=.ok (.value v) w':=by
 have ju:c.args.map a.eval=#[a.eval x,a.eval y]:=by rw[lr];simp
 simp only[execOp,hc,Sem.run_bind,resolve,bi,ju,gG]
 simp only[Sem.run_pure,Result.andThen,invoke,hb]
 exact cy h
theorem mQ (bI oE n m:Nat)(get aH get':Nat→List SV){ops:List Oper}{i:Nat}{o:Oper}{r:List Oper}{Q:Exit→Act→World→Prop}{Kn:St→Prop}{Kp:List PanicEntry→St→Prop}
  {t e:TypeId} {ti te:TI} {s x:Operand} {c:Call} {d:Nat} {Te:TypeId} (hX:X.Ok) (hC:dm X Q Kn Kp) (hi:ops.drop i=o::r)
  (hc:o.op=.call c) (bi:c.callee=.builtin .append) (lr:c.args=#[s,x]) (gG:c.argTypes=#[t,t]) (hg:o.guard=none) (bz:o.dst=some d) (hp:eF st.gs X.nt (some d)=false)
  (ht:X.T t=some ti) (hd:ti.desc=.slice e) (ff:X.T e=some te) (yI:te.zero.cells.size=te.size) (cR:0<te.size) (sS:te.bytes≤1000)
  (h1:ev (findF st.F) [] s=some (.sl bI)) (h2:ev (findF st.F) [] x=some (.sl oE)) (h3:ab st.H bI=some (.vec e te.size n get)) (h4:cn te.size (ab st.H) oE=some (m,aH))
  (oh:n+m≤1000000) (jg:∀i,i<n+m→get' i=if i<n then get i else aH (i-n))
  (h:eQ st λF gs H nx D=>fa (nx+1) λaA=>c7 X ops Q Kn Kp (i+1) r ⟨(d,⟨[],.sl nx⟩)::F,gs,(nx,.vec e te.size (n+m) get')::(bI,.dead)::H,aA,D⟩):eB X ops Q Kn Kp i o r st:=by
 refine kg hX hC hi (by rw[hc];intro c h;cases h) hg fun ρ a w hm=>?_
 have hs:bu a []:=λx hx=>by cases hx
 have e1:=aQ hm.fm hs h1
 have e2:=aQ hm.fm hs h2
 obtain⟨A,c2,news,s1,s2,s3,s4,s5,s6⟩:=Lk hm.hm h4 e2
 have ZC:cn te.size (ab st.H) bI=some (n,get):=by unfold cn;rw[h3];simp
 obtain⟨B,c1,xs,x1,x2,x3,x4,x5,x6⟩:=Lk hm.hm ZC e1
 obtain⟨nm,hn,ap⟩:=hm.hm.ok _ _ h3
 have gS:A=none→m=0:=by
  rintro rfl
  rcases Nat.eq_zero_or_pos m with h|h
  ·exact h
  ·obtain⟨ad,h⟩:=s2 h;cases h
 have cM:w.ownsRow 0 e te.size (a.eval s) n xs∧∀g,(a.eval s).ownBlock=some g→nm.owner=some g:=by
  cases nm<;>simp only[ao] at ap
  ·obtain⟨rfl,rfl,rfl,rfl,rfl⟩:=ap
   simp only[den,hn,Option.some.injEq] at e1
   rw[←e1]
   have:xs=[]:=List.eq_nil_of_length_eq_zero (by rw[x3];simp)
   subst this
   exact⟨World.ownsRow_nil w 0 e _,λg hg=>by simp[Value.ownBlock] at hg⟩
  ·rename_i nb n2 cc s'
   obtain⟨rfl,rfl,hle,cells,d5,d6,d7⟩:=ap
   simp only[den,hn,Option.some.injEq] at e1
   rw[←e1]
   refine⟨⟨x3,.inr ⟨nb,cc,cells.toArray,rfl,Nat.zero_le _,d5,hle.1,hle.2,by simpa using d6,?_⟩⟩,λg hg=>by simpa [Value.ownBlock,Nm.owner] using hg⟩
   simp only[List.toList_toArray]
   apply List.ext_getElem?
   intro j
   rw[List.getElem?_take]
   split
   ·rename_i hj
    rw[←e1] at x1;cases x1
    obtain⟨u,hu⟩:∃u,xs[j]?=some u:=⟨_,List.getElem?_eq_getElem (by omega)⟩
    have:=x6 _ rfl j u hu
    rw[lR] at this
    simp only[World.cell?,d5,List.getElem?_toArray] at this
    rw[hu];simpa using this
   ·rename_i hj
    rw[List.getElem?_eq_none (by omega)]
 have ki:∀g,(a.eval s).ownBlock=some g→¬Own ρ (ab ({ st with H:=(bI,.dead)::st.H }:St).H) g∧(∀j size n get nm,ab ({ st with H:=(bI,.dead)::st.H }:St).H j=some (.ro size n get)→0<n→ρ j=some nm→eX nm≠some g)∧(X.G.M g∨X.G.w0.heap.size≤g)∧¬Fz (ab ({ st with H:=(bI,.dead)::st.H }:St).H) g:=by
  intro g EL
  have ho:=cM.2 g EL
  refine⟨λhO=>?_,λj size n' get' ak hj eN hr hb=>?_,hm.kp.own g ⟨bI,_,nm,h3,rfl,hn,ho⟩,λhz=>hm.hm.ax g (hz.aq λs C h=>by cases h) ⟨bI,_,nm,h3,rfl,hn,ho⟩⟩
  ·obtain⟨i',x',ak,k0,k1,k2,k3,k4⟩:=Own.kill hO
   exact k0 (hm.hm.sep i' bI x' _ ak nm g k1 h3 k2 rfl k3 hn k4 ho)
  ·have gT:ab st.H j=some (.ro size n' get'):=by
    rw[ba] at hj
    by_cases e:bI=j
    ·subst e;rw[cP] at hj;cases hj
    ·rw[aR _ _ e] at hj;exact hj
   exact hm.hm.ro j size n' get' ak g gT eN hr hb ⟨bI,_,nm,h3,rfl,hn,ho⟩
 obtain⟨v',w',ak,q1,q2,q3⟩:=Uf (ty:=o.type) hX (hm.kill h3) ht hd ff yI cR sS cM.1 oh x5 x4 ki s2 s3 s4 s5 s6 gS jg
 rw[←s1] at q1
 rw[eG,fw] at h
 exact⟨v',w',_,_,.inl (K9 hc bi lr gG (λ_ _=>rfl) q1),q3.put (d:=o.dst) (s:=.sl st.nx) (by rw[bz];exact hp) q2,by rw[bz];exact h⟩
theorem Se {ρ:Env}{w:World}{T s n:Nat}{xs:List SV}{get:Nat→List SV}{nm:Nm}(h:ao ρ w (.row T s n xs) nm)(hg:∀i,i<n→(xs.drop (i*s)).take s=get i):ao ρ w (.vec T s n get) nm:=by
 cases nm<;>simp only[ao] at h ⊢
 obtain⟨e1,e2,e3,vs,rest,d1,d2,d3,d4,d5⟩:=h
 refine⟨e1,e2,e3,vs++rest,d5,?_,λi hi=>?_⟩
 ·rw[List.length_append,d3,d4,←Nat.add_mul]
  congr 1;omega
 ·have hd:=An d1 (i*s) s
  rw[hg i hi] at hd
  have hle:i*s+s≤n*s:=by
   have:(i+1)*s≤n*s:=Nat.mul_le_mul_right _ hi
   rw[Nat.add_mul] at this;omega
  refine⟨_,hd,?_,by simp;omega,λj v hv=>?_⟩
  ·rw[List.all_eq_true] at d2 ⊢
   intro x qA
   exact d2 x (List.mem_of_mem_drop (List.mem_of_mem_take qA))
  ·rw[List.getElem?_take] at hv
   split at hv
   ·rw[List.getElem?_drop] at hv
    rw[List.getElem?_append_left (by have:=iI hv;omega)]
    exact hv
   ·cases hv
theorem R' {z:List SV}{s:Nat}(hz:z.length=s):∀(n i:Nat),i<n→((la n z).drop (i*s)).take s=z
 |0,i,hi=>by omega
 |n+1,0,_=>by simp only[la,Nat.zero_mul,List.drop_zero];rw[←hz];exact List.take_left
 |n+1,i+1,hi=>by
  simp only[la]
  subst hz
  rw[Nat.add_mul,Nat.one_mul,Nat.add_comm,List.drop_append]
  have:=R' (z:=z) rfl n i (by omega)
  simp only[Nat.add_sub_cancel_left]
  rw[List.drop_eq_nil_of_le (by omega),List.nil_append]
  exact this
theorem oY (n:Nat){ops:List Oper}{i:Nat}{o:Oper}{r:List Oper}{Q:Exit→Act→World→Prop}{Kn:St→Prop}{Kp:List PanicEntry→St→Prop}
  {t e:TypeId} {ti te:TI} {x y:Operand} {d:Nat} {k k':IntKind} {z:List SV} (hX:X.Ok) (hC:dm X Q Kn Kp) (hi:ops.drop i=o::r)
  (hc:o.op=.makeSlice t x y) (hg:o.guard=none) (bz:o.dst=some d) (hp:eF st.gs X.nt (some d)=false)
  (ht:X.T t=some ti) (hd:ti.desc=.slice e) (ff:X.T e=some te) (hz:ofValues te.zero.cells.toList=some z) (gY:z.length=te.size) (sS:te.bytes≤1000) (hn:n≤1000)
  (h1:ev (findF st.F) [] x=some (.si k n)) (h2:ev (findF st.F) [] y=some (.si k' n))
  (h:eQ st λF gs H nx D=>fa (nx+1) λaA=>c7 X ops Q Kn Kp (i+1) r ⟨(d,⟨[],.sl nx⟩)::F,gs,(nx,.vec e te.size n (λ_=>z))::H,aA,D⟩):eB X ops Q Kn Kp i o r st:=by
 refine kg hX hC hi (by rw[hc];intro c h;cases h) hg fun ρ a w hm=>?_
 have hs:bu a []:=λx hx=>by cases hx
 have e1:=aQ hm.fm hs h1
 have e2:=aQ hm.fm hs h2
 simp only[den,Option.some.injEq] at e1 e2
 obtain⟨v,nm,ob,q1,q2,q3,q4,q5⟩:=aa4 (P:=X.P) (T:=X.T) (ρ:=ρ) (H:=ab st.H) (w:=w) (fr:=st.nx) hX.dx (hm.nx _ (Nat.le_refl _)) ht hd ff hz gY sS hn (k:=k) (k':=k')
 rw[eG,fw] at h
 refine⟨v,_,_,_,.inl ?_,hm.new (d:=o.dst) (s:=.sl st.nx) (hb:=.vec e te.size n (λ_=>z)) (by rw[bz];exact hp) q2 (Se q3 (λi hi=>R' gY n i hi)) q4 q5.1,?_⟩
 ·simp only[execOp,hc,←e1,←e2];exact q1
 ·rw[bz];exact h
theorem Ea (DU oE n m:Nat)(get aH get':Nat→List SV){ops:List Oper}{i:Nat}{o:Oper}{r:List Oper}{Q:Exit→Act→World→Prop}{Kn:St→Prop}{Kp:List PanicEntry→St→Prop}
  {t u e:TypeId} {ti te:TI} {s x:Operand} {c:Call} {d:Nat} (hX:X.Ok) (hC:dm X Q Kn Kp) (hi:ops.drop i=o::r)
  (hc:o.op=.call c) (bi:c.callee=.builtin .copy) (lr:c.args=#[s,x]) (gG:c.argTypes=#[t,u]) (hg:o.guard=none) (bz:o.dst=some d) (hp:eF st.gs X.nt (some d)=false)
  (ht:X.T t=some ti) (hd:ti.desc=.slice e) (ff:X.T e=some te)
  (h1:ev (findF st.F) [] s=some (.sl DU)) (h2:ev (findF st.F) [] x=some (.sl oE)) (h3:ab st.H DU=some (.vec e te.size n get)) (h4:cn te.size (ab st.H) oE=some (m,aH))
  (aV:DU≠oE) (jg:∀i,i<n→get' i=if i<m then aH i else get i)
  (h:eQ st λF gs H nx D=>c7 X ops Q Kn Kp (i+1) r ⟨(d,⟨[],.si .i64 (min m n:Nat)⟩)::F,gs,(DU,.vec e te.size n get')::H,nx,D⟩):eB X ops Q Kn Kp i o r st:=by
 refine kg hX hC hi (by rw[hc];intro c h;cases h) hg fun ρ a w hm=>?_
 have hs:bu a []:=λx hx=>by cases hx
 have e1:=aQ hm.fm hs h1
 have e2:=aQ hm.fm hs h2
 obtain⟨A,c2,news,s1,s2,s3,s4,s5,s6⟩:=Lk hm.hm h4 e2
 obtain⟨nm,hn,ap⟩:=hm.hm.ok _ _ h3
 obtain⟨hu,_,_⟩:=hX.dx t ti ht
 rw[hd] at hu
 rw[eG] at h
 have rB:(min m n)*te.size≤m*te.size:=Nat.mul_le_mul_right _ (Nat.min_le_left _ _)
 have aeW:(min m n)*te.size≤n*te.size:=Nat.mul_le_mul_right _ (Nat.min_le_right _ _)
 have wy:(news.take ((min m n)*te.size)).length=(min m n)*te.size:=by rw[List.length_take];omega
 have pq:(Builtin.firstCells te.size (min m n) (a.eval x)).run X.P w=.ok (news.take ((min m n)*te.size)).toArray w:=by
  rw[s1]
  cases A with
  |some ad=>exact run_firstCells_some (P:=X.P) w te.size (min m n) ad m c2 _ wy (λj v hj=>s6 ad rfl j v (by rw[List.getElem?_take] at hj;split at hj;exact hj;cases hj))
  |none =>
   have Bv:m=0:=by
    rcases Nat.eq_zero_or_pos m with h|h
    ·exact h
    ·obtain⟨ad,h⟩:=s2 h;cases h
   subst Bv
   have:news=[]:=List.eq_nil_of_length_eq_zero (by rw[s3];simp)
   subst this
   simp[Builtin.firstCells]
 have hlen:(Builtin.lenOf (a.eval x)).run X.P w=.ok m w:=by rw[s1];rfl
 have PI:Nat.min m n=min m n:=rfl
 cases nm<;>simp only[ao] at ap
 ·obtain⟨rfl,rfl,rfl,rfl,rfl⟩:=ap
  simp only[den,hn,Option.some.injEq] at e1
  have cr:(Builtin.copy_ #[t,u] o.type #[a.eval s,a.eval x]).run X.P w=.ok (goInt (min m 0:Nat)) w:=by
   rw[←e1]
   simp[Builtin.copy_,Sem.run_bind,run_underlying hu,hlen,lL hX.dx ff,pq,Result.andThen,PI]
   have:=pq
   simp only[Nat.min_zero] at this
   simp[this,Result.andThen]
  exact⟨_,w,ρ,_,.inl (K9 hc bi lr gG (λ_ _=>rfl) cr),(hm.swap (hb':=.vec e te.size 0 get') h3 rfl hn ⟨rfl,rfl,rfl,rfl,rfl⟩ (λ_ _ _ h=>by cases h)).put (d:=o.dst) (s:=.si .i64 (min m 0:Nat)) (by rw[bz];exact hp) rfl,by rw[bz];exact h⟩
 ·rename_i nb n2 cc s'
  obtain⟨rfl,rfl,hle,cells,d5,d6,d7⟩:=ap
  simp only[den,hn,Option.some.injEq] at e1
  have dI:(min m n2)*te.size≤cells.length:=by
   have:n2*te.size≤cc*te.size:=Nat.mul_le_mul_right _ hle.1
   omega
  have bD:=run_storeCells_at X.P nb 0 e (news.take ((min m n2)*te.size)) 0 cells.toArray w d5 (by simp only[List.size_toArray];omega) (λv hv=>s4 v (List.mem_of_mem_take hv))
  simp only[Nat.zero_add,Nat.add_zero,List.take_zero,List.nil_append,List.toList_toArray] at bD
  have cr:(Builtin.copy_ #[t,u] o.type #[a.eval s,a.eval x]).run X.P w=.ok (goInt (min m n2:Nat)) (w.setRow nb (news.take ((min m n2)*te.size)++cells.drop ((news.take ((min m n2)*te.size)).length)).toArray):=by
   rw[←e1]
   simp[Builtin.copy_,Sem.run_bind,run_underlying hu,hlen,lL hX.dx ff,pq,Result.andThen,PI,bD]
  have Y4:=setRow_heap w nb cells.toArray (news.take ((min m n2)*te.size)++cells.drop ((news.take ((min m n2)*te.size)).length)).toArray e (0,0) d5
  refine⟨_,_,ρ,_,.inl (K9 hc bi lr gG (λ_ _=>rfl) cr),(hm.xo (hb':=.vec e te.size n2 get') h3 rfl hn rfl (size_setRow _ _ _) (λk hk=>I9 _ _ _ _ hk) ?_ rfl (λ_ _ _ h=>by cases h)).put (d:=o.dst) (s:=.si .i64 (min m n2:Nat)) (by rw[bz];exact hp) rfl,by rw[bz];exact h⟩
  refine⟨rfl,rfl,hle,_,Y4,by rw[List.length_append,List.length_drop,wy];omega,λi hi=>?_⟩
  rw[jg i hi]
  split
  ·rename_i ir
   have kW:(i+1)*te.size≤(min m n2)*te.size:=Nat.mul_le_mul_right _ (by omega)
   rw[Nat.add_mul] at kW
   refine⟨_,s5 i ir,?_,by simp only[List.length_take,List.length_drop,s3];omega,λj v hv=>?_⟩
   ·rw[List.all_eq_true]
    exact λx hx=>s4 x (List.mem_of_mem_drop (List.mem_of_mem_take hx))
   ·rw[List.getElem?_take] at hv
    split at hv
    ·rw[List.getElem?_drop] at hv
     rw[List.getElem?_append_left (by rw[wy];omega),List.getElem?_take,if_pos (by omega)]
     exact hv
    ·cases hv
  ·rename_i ir
   obtain⟨vs,c1,U3,c3,c4⟩:=d7 i hi
   have kW:(min m n2)*te.size≤i*te.size:=Nat.mul_le_mul_right _ (by omega)
   refine⟨vs,c1,U3,c3,λj v hv=>?_⟩
   rw[List.getElem?_append_right (by rw[wy];omega),List.getElem?_drop,wy,←c4 j v hv]
   congr 1;omega
end
def mD:Nat:=1000000
def vY:List (Nat × FE)→List (Nat × SV)
 |[]=>[]
 |(t,e)::r=>match rM e.gp with
  |true=>(t,e.v)::vY r
  |false=>vY r
def vU:List (Nat × SV)→List (Nat × FE)
 |[]=>[]
 |(t,v)::r=>(t,⟨[],v⟩)::vU r
theorem AO:∀{l:List (Nat × SV)} {t:Nat} {e:FE},findF (vU l) t=some e→e.gp=[]∧gq l t=some e.v
 |[],t,e,h=>by cases h
 |(s,v)::r,t,e,h=>by
  simp only[vU,findF,gq] at h ⊢
  split at h
  ·rename_i e1
   cases h;rw[if_pos e1];exact⟨rfl,rfl⟩
  ·rename_i e1
   rw[if_neg e1];exact AO h
def C1:List (Nat × FE)→List Nat→Bool
 |[],_=>true
 |(t,e)::r,seen=>match rM e.gp,pK seen t with
  |true,_=>C1 r (t::seen)
  |false,true=>C1 r seen
  |false,false=>false
theorem It {seen:List Nat}:∀{F:List (Nat × FE)} {seen:List Nat} {t:Nat} {v:SV},C1 F seen=true→t ∉ seen→gq (vY F) t=some v→findF F t=some ⟨[],v⟩
 |[],_,t,v,_,_,h=>by cases h
 |(s,e)::r,seen,t,v,hu,hs,h=>by
  simp only[C1] at hu
  simp only[vY] at h
  cases hg:rM e.gp with
  |true =>
   rw[hg] at hu h
   simp only[gq] at h
   simp only[findF]
   split at h
   ·rename_i e1
    cases h
    rw[if_pos e1]
    obtain⟨gp,v⟩:=e
    rw[show gp=[] from yU hg]
   ·rename_i e1
    rw[if_neg e1]
    exact It (seen:=[]) hu (by
     intro hm
     rcases List.mem_cons.1 hm with rfl|hm
     ·simp at e1
     ·exact hs hm) h
  |false =>
   rw[hg] at hu h
   cases hm:pK seen s with
   |false=>rw[hm] at hu;cases hu
   |true =>
    rw[hm] at hu
    have aV:s≠t:=by rintro rfl;exact hs (wY.1 hm)
    rw[iB _ _ aV]
    exact It (seen:=[]) hu hs h
section
variable {X:Cx}{st:St}
def aap (X:Cx)(pd:Option Code)(st:St)(K:Ex→St→Prop):Prop :=
 match pd with
 |none=>K .normal st
 |some c=>exec X c st K
def qZ (X:Cx)(cu:Nat)(F:List (Nat × FE))(gs:List Nat)(D:List fE)(K:Ex→St→Prop)(H':List (Nat × HB))(aA:Nat):Prop :=
 match ab H' cu with
 |some (.loop _ _ _ _ _ _ _ s pd)=>(match s with
  |.busy=>False
  |_=>aap X pd ⟨F,gs,(cu,.dead)::H',aA,D⟩ K)
 |_=>False
theorem lK (hX:X.Ok)(hr:X.r=none){g:Operand}{ps:Array Tmp}{assign body:Code}{K:Ex→St→Prop}
  (hu:C1 st.F []=true) {n:Nat} {first ja:List SV} (hg:ev (findF st.F) [] g=some (.fn (.func n) first ja)) (sR:Body X.P n)
  (h:eQ st λF gs H nx D=>fa (nx+1) λn1=>fa (nx+2) λn2=>∀fn:Nat,bG X.P n (first++(.fy n1::ja)) ((n1,.loop (vY F) X.nt fn ps.toList assign body nx .ready none)::(nx,.eh)::H) n2
   (λv H' aA=>qZ X n1 F gs ((mD,[.sp nx 0])::D) K H' aA) (λch H' aA=>K (.panic ch) ⟨F,gs,H',aA,(mD,[.sp nx 0])::D⟩)):aX X (.rangeFunc g ps assign body) st K:=by
 intro ρ a w hm
 rw[eG] at h
 simp only[fw] at h
 have hs:bu a []:=λx hx=>by cases hx
 have hf:=aQ hm.fm hs hg
 simp only[den] at hf
 cases d1:ai ρ first with
 |none=>simp[d1] at hf
 |some x =>
  cases d2:ai ρ ja with
  |none=>simp[d1,d2] at hf
  |some y =>
   simp only[d1,d2,Option.some.injEq] at hf
   refine wpIn_rangeFunc λfn _=>?_
   let jJ:=(w.alloc (.deferred (some []))).alloc (.loop { state:=.ready,pending:=none,fn:=fn,tmps:=a.tmps,params:=ps,assign:=assign,body:=body,defers:=w.heap.size })
   let fo:=aq ρ st.nx (.bO w.heap.size)
   let ic:=aq fo (st.nx+1) (.bO (w.heap.size+1))
   have iR:ρ st.nx=none:=hm.nx _ (Nat.le_refl _)
   have wz:fo (st.nx+1)=none:=by
    show aq ρ st.nx _ _=none
    rw[bF _ _ (by omega)];exact hm.nx _ (by omega)
   have m1:=hm.new (d:=none) (s:=.sb true) (v:=undef) (hb:=.eh) (nm:=.bO w.heap.size) (o:=.deferred (some [])) rfl
   have ck:Mod X fo { st with H:=(st.nx,.eh)::st.H,nx:=st.nx+1 } a (w.alloc (.deferred (some []))):={
    fm:=hm.fm.ext (Ext.aq _ iR)
    gs:=hm.gs
    df:=hm.df.ext (Ext.aq _ iR)
    hm:=hm.hm.push iR _ (by exact heap_alloc_new w _) (by intro b hb;simpa [Nm.owner] using hb.symm) (by intro b hb;cases hb)
    kp:=hm.kp.push iR _ (by intro b hb;simpa [Nm.owner] using hb.symm)
    nx:=λj hj=>by
     have:st.nx+1≤j:=hj
     show aq ρ st.nx _ j=none
     rw[bF _ _ (by omega)];exact hm.nx j (by omega)
    sz:=hm.sz }
   have JS:(w.alloc (.deferred (some []))).heap.size=w.heap.size+1:=size_alloc _ _
   have cI:Mod X ic { st with H:=(st.nx+1,.loop (vY st.F) X.nt fn ps.toList assign body st.nx .ready none)::(st.nx,.eh)::st.H,nx:=st.nx+2 } a jJ:={
    fm:=ck.fm.ext (Ext.aq _ wz)
    gs:=hm.gs
    df:=ck.df.ext (Ext.aq _ wz)
    hm:=by
     refine ck.hm.push (id:=st.nx+1) wz _ ?_ (by intro b hb;rw[JS];simpa [Nm.owner] using hb.symm) (by intro b hb;cases hb)
     refine⟨a.tmps,w.heap.size,?_,?_,hm.sz,λt v hv=>?_⟩
     ·show aq fo _ _ st.nx=_
      rw[bF _ _ (by omega)];exact cj _ _ _
     ·have:=heap_alloc_new (w.alloc (.deferred (some []))) (.loop { state:=.ready,pending:=none,fn:=fn,tmps:=a.tmps,params:=ps,assign:=assign,body:=body,defers:=w.heap.size })
      rw[JS] at this
      exact this
     ·have Bl:=It (seen:=[]) hu (by simp) hv
      obtain⟨u,u1,u2⟩:=(hm.fm t _ Bl).1 hs
      exact⟨u,u1,uj (Ext.aq _ wz) _ _ (uj (Ext.aq _ iR) _ _ u2)⟩
    kp:=ck.kp.push wz _ (by intro b hb;rw[JS];simpa [Nm.owner] using hb.symm)
    nx:=λj hj=>by
     have:st.nx+2≤j:=hj
     show aq fo _ _ j=none
     rw[bF _ _ (by omega)]
     show aq ρ _ _ j=none
     rw[bF _ _ (by omega)];exact hm.nx j (by omega)
    sz:=hm.sz }
   have ju:ai ic (first++(.fy (st.nx+1)::ja))=some (x++(.func (.yield (w.heap.size+1)) #[] #[]::y)):=by
    refine sE (fT (Ext.aq _ wz) _ _ (fT (Ext.aq _ iR) _ _ d1)) (oW ?_ (fT (Ext.aq _ wz) _ _ (fT (Ext.aq _ iR) _ _ d2)))
    simp only[den,cj]
    show(match aq fo (st.nx+1) _ (st.nx+1) with|some (.bO nm)=>_|_=>none)=_
    rw[cj]
   have gr:=h fn ic jJ _ cI.hm cI.nx ju
   refine⟨w.heap.size+1,[{ target:=.collected w.heap.size,args:=#[] }],jJ,{ target:=.fn (.func n) y.toArray,args:=x.toArray++#[.func (.yield (w.heap.size+1)) #[] #[]] },jJ,n,
    (x++(.func (.yield (w.heap.size+1)) #[] #[]::y)).toArray,jJ,?_,?_,λ_ _=>trivial,?_,(λh=>by rw[Da] at h;cases h),M_ (gr.mono ?_)⟩
   ·rw[vk,hr]
    exact run_enterLoop_outer (P:=X.P) fn a.tmps ps assign body
   ·have YY:Array.map a.eval #[Operand.const (Value.func (Fn.yield (w.heap.size+1)) #[] #[])]=#[Value.func (Fn.yield (w.heap.size+1)) #[] #[]]:=by
     simp only[List.map_toArray,List.map_cons,List.map_nil];rfl
    simp only[resolve,←hf,rangeCall]
    rw[YY];rfl
   ·simp only[invoke]
    have he:(x.toArray++#[Value.func (.yield (w.heap.size+1)) #[] #[]]++y.toArray)=(x++(.func (.yield (w.heap.size+1)) #[] #[]::y)).toArray:=by
     apply Array.ext';simp
    rw[he]
    exact sR _ _
   ·have fU:∀ρ',Ext ic ρ'→nD ρ' ([{ target:=.collected w.heap.size,args:=#[] }]++a.defers) ((mD,[.sp st.nx 0])::st.D):=by
     intro ρ' hx
     refine⟨⟨[.pointer (some ⟨w.heap.size,0,none⟩)],?_,rfl⟩,cI.df.ext hx⟩
     have h0:ic st.nx=some (.bO w.heap.size):=by
      show aq fo _ _ st.nx=_
      rw[bF _ _ (by omega)];exact cj _ _ _
     simp[ai,den,hx _ _ h0]
    rintro e w' (⟨v,H',aA,ρ',u,rfl,h1,h2,h3,h4,h5⟩|⟨ch,H',aA,ρ',rfl,h2,h3,h4,h5⟩)
    ·have lz:=cI.call h2 h3 h4
     unfold qZ at h5
     split at h5
     ·rename_i Fl ntl WW psl al bl dbl s pd ry
      obtain⟨nml,k1,k2⟩:=h2.ok _ _ ry
      cases nml<;>simp only[ao] at k2
      rename_i lb
      have Jq:lb=w.heap.size+1:=by
       have:=h3.ext (st.nx+1) (.bO (w.heap.size+1)) (cj _ _ _)
       rw[this] at k1;cases k1;rfl
      subst Jq
      obtain⟨tmps,kQ,k3,k4,k5,k6⟩:=k2
      have Yo:s≠.busy:=by rintro rfl;exact h5
      refine⟨pd,_,run_endLoop (P:=X.P) k4 (by simpa using Yo),?_⟩
      have hk:=lz.kill ry
      have og:Mod X ρ' ⟨st.F,st.gs,(st.nx+1,.dead)::H',aA,(mD,[.sp st.nx 0])::st.D⟩ { a with defers:=[{ target:=.collected w.heap.size,args:=#[] }]++a.defers }
        (w'.putObj (w.heap.size+1) (.loop { state:=.exhausted,pending:=pd,fn:=WW,tmps:=tmps,params:=psl.toArray,assign:=al,body:=bl,defers:=kQ })):=by
       have fY:¬Own ρ' (ab ((st.nx+1,.dead)::H')) (w.heap.size+1):=by
        intro ho
        obtain⟨i',x',ak,q0,q1,q2,q3,q4⟩:=Own.kill ho
        exact q0 (h2.sep i' (st.nx+1) x' _ ak _ _ q1 ry q2 rfl q3 k1 q4 rfl)
       have mj:∀j size n get nm,ab ((st.nx+1,.dead)::H') j=some (.ro size n get)→0<n→ρ' j=some nm→eX nm≠some (w.heap.size+1):=by
        intro j size n get nm hj hn gW hb
        have gT:ab H' j=some (.ro size n get):=by
         rw[ba] at hj
         by_cases e:st.nx+1=j
         ·subst e;rw[cP] at hj;cases hj
         ·rw[aR _ _ e] at hj;exact hj
        exact h2.ro j size n get nm _ gT hn gW hb ⟨_,_,_,ry,rfl,k1,rfl⟩
       have Jy:¬Fz (ab ((st.nx+1,.dead)::H')) (w.heap.size+1):=λhz=>h2.ax _ (hz.aq λs C h=>by cases h) ⟨_,_,_,ry,rfl,k1,rfl⟩
       have hG:X.G.M (w.heap.size+1)∨X.G.w0.heap.size≤w.heap.size+1:=.inr (by have:=hm.kp.size;omega)
       exact{
        fm:=hk.fm
        gs:=hm.gs
        df:=fU ρ' h3.ext
        hm:={
         ok:=λj hb hj=>by
          obtain⟨ak,g1,g2⟩:=hk.hm.ok j hb hj
          refine⟨ak,g1,vm (by rw[World.putObj_size];exact Nat.le_refl _) ?_ ?_ ?_ g2⟩
          ·intro hl c hc
           exact World.putObj_heap_other (λe=>fY (e ▸ ⟨j,hb,ak,hj,hl,g1,hc⟩))
          ·intro size n get c ex fG iG
           subst ex
           exact World.putObj_heap_other (λe=>mj j size n get ak hj fG g1 (e ▸ iG))
          ·intro size C v n get c ex hc fG iG
           subst ex
           exact World.putObj_heap_other (λe=>Jy (e ▸ ⟨j,size,C,v,n,get,hj,hc,fG,iG⟩))
         sep:=hk.hm.sep
         ro:=hk.hm.ro
         ax:=hk.hm.ax }
        kp:={
         str:=hk.kp.str.trans ⟨rfl,rfl⟩
         size:=by rw[World.putObj_size];exact hk.kp.size
         same:=λb hb sZ=>by
          rw[World.putObj_heap_other (λe=>by subst e;have:=hm.kp.size;omega)]
          exact hk.kp.same b hb sZ
         own:=hk.kp.own
         ext:=hk.kp.ext
         fz:=hk.kp.fz }
        nx:=h4
        sz:=hm.sz }
      cases pd with
      |none =>
       have h6:K .normal ⟨st.F,st.gs,(st.nx+1,.dead)::H',aA,(mD,[.sp st.nx 0])::st.D⟩:=by cases s<;>first|exact h5|exact h5.elim
       exact⟨.normal,_,ρ',rfl,og,h6⟩
      |some c =>
       have h6:exec X c ⟨st.F,st.gs,(st.nx+1,.dead)::H',aA,(mD,[.sp st.nx 0])::st.D⟩ K:=by cases s<;>first|exact h5|exact h5.elim
       exact cW hX c _ _ h6 ρ' _ _ og
     ·exact h5.elim
    ·have lz:=cI.call h2 h3 h4
     refine⟨.panic ch,⟨st.F,st.gs,H',aA,(mD,[.sp st.nx 0])::st.D⟩,ρ',rfl,?_,h5⟩
     exact{
      fm:=lz.fm
      gs:=hm.gs
      df:=fU ρ' h3.ext
      hm:=lz.hm
      kp:=lz.kp
      nx:=h4
      sz:=hm.sz }
end
def lJ:List Nat→List SV→List (Nat × SV)→Option (List (Nat × SV))
 |[],[],l=>some l
 |p::ps,x::xs,l=>lJ ps xs ((p,x)::l)
 |_,_,_=>none
def tu (H:LH)(cu:Nat)(s:LoopState)(K:(nt fn:Nat)→List Nat→Code→Code→Nat→List (Nat × SV)→Option Code→Prop):Prop :=
 match H cu with
 |some (.loop F nt fn ps a b db s' pd)=>(match s,s' with
  |.ready,.ready=>K nt fn ps a b db F pd
  |.busy,.busy=>K nt fn ps a b db F pd
  |_,_=>False)
 |_=>False
def acn (cu:Nat)(F:List (Nat × FE))(gs:List Nat)(D:List fE)(d:Option Nat)(K:St→Prop):Ex→St→Prop
 |.normal,st=>tu (ab st.H) cu .busy λnt fn ps a b db Fl pd=>tA ⟨F,gs,st.H,st.nx,D⟩ d (.sb true) ((cu,.loop Fl nt fn ps a b db .ready none)::st.H) st.nx K
 |.ret,st=>tu (ab st.H) cu .busy λnt fn ps a b db Fl pd=>tA ⟨F,gs,st.H,st.nx,D⟩ d (.sb false) ((cu,.loop Fl nt fn ps a b db .done (some .ret))::st.H) st.nx K
 |.exit n,st=>tu (ab st.H) cu .busy λnt fn ps a b db Fl pd=>tA ⟨F,gs,st.H,st.nx,D⟩ d (.sb false) ((cu,.loop Fl nt fn ps a b db .done (some (.exit n)))::st.H) st.nx K
 |.panic _,_=>False
def MW (X:Cx)(cu:Nat)(body:Code)(K:Ex→St→Prop):Ex→St→Prop
 |.normal,st=>tu (ab st.H) cu .ready λnt fn ps a b db Fl pd=>exec X body ⟨st.F,st.gs,(cu,.loop Fl nt fn ps a b db .busy pd)::st.H,st.nx,st.D⟩ K
 |_,_=>False
def aco (X:Cx)(nt cu:Nat)(a b:Code)(l:List (Nat × SV))(H:List (Nat × HB))(nx n0:Nat)(K:Ex→St→Prop):Prop :=
 ∀(G:cp) (r:Option Nat),(∀j,n0≤j→G.ρ j=none)→exec ⟨X.P,X.T,X.C,G,r,nt⟩ a ⟨vU l,[],H,nx,[]⟩ (MW ⟨X.P,X.T,X.C,G,r,nt⟩ cu b K)
section
variable {X:Cx}{st:St}
theorem K0 {ρ:Env}:∀{ps:List Nat} {xs:List SV} {vs:List Value} {l l':List (Nat × SV)} {tmps:Array Value},lJ ps xs l=some l'→ai ρ xs=some vs→(∀p∈ps,p<tmps.size) →
  (∀t v,gq l t=some v→∃u,tmps[t]?=some u∧den ρ v=some u) →
  ((ps.zip vs).foldl (λ(t:Array Value) (x:Nat × Value)=>t.setIfInBounds x.1 x.2) tmps).size=tmps.size∧∀t v,gq l' t=some v→∃u,((ps.zip vs).foldl (λ(t:Array Value) (x:Nat × Value)=>t.setIfInBounds x.1 x.2) tmps)[t]?=some u∧den ρ v=some u
 |[],[],vs,l,l',tmps,h,hd,_,hl=>by
  simp only[lJ] at h;cases h
  simp only[ai] at hd;cases hd
  exact⟨rfl,hl⟩
 |p::ps,x::xs,vs,l,l',tmps,h,hd,hp,hl=>by
  obtain⟨v,us,d1,d2,rfl⟩:=jP hd
  simp only[lJ] at h
  have aG:=hp p List.mem_cons_self
  have:=K0 (tmps:=tmps.setIfInBounds p v) h d2 (λq hq=>by rw[Array.size_setIfInBounds];exact hp q (List.mem_cons_of_mem _ hq)) (λt u hu=>by
   simp only[gq] at hu
   split at hu
   ·rename_i e
    have:p=t:=by simpa using e
    subst this;cases hu
    exact⟨v,by simp[aG],d1⟩
   ·rename_i e
    have aV:p≠t:=by rintro rfl;simp at e
    obtain⟨u',h1,h2⟩:=hl t u hu
    exact⟨u',by rw[Array.getElem?_setIfInBounds_ne aV];exact h1,h2⟩)
  simp only[List.zip_cons_cons,List.foldl_cons]
  rw[Array.size_setIfInBounds] at this
  exact this
 |[],_::_,_,_,_,_,h,_,_,_=>by simp[lJ] at h
 |_::_,[],_,_,_,_,h,_,_,_=>by simp[lJ] at h
theorem uL {H:LH}{cu:Nat}{s:LoopState}{K:(nt fn:Nat)→List Nat→Code→Code→Nat→List (Nat × SV)→Option Code→Prop}(h:tu H cu s K) :
  ∃F nt fn ps a b db pd,H cu=some (.loop F nt fn ps a b db s pd)∧K nt fn ps a b db F pd:=by
 unfold tu at h
 split at h
 ·split at h
  ·exact⟨_,_,_,_,_,_,_,_,by assumption,h⟩
  ·exact⟨_,_,_,_,_,_,_,_,by assumption,h⟩
  ·exact h.elim
 ·exact h.elim
theorem Mod.Gb {ρ:Env}{a:Act}{w:World}(hm:Mod X ρ st a w){cu lb:Nat}(hl:ρ cu=some (.bO lb)){F:List (Nat × SV)}{nt fn db:Nat}{ps:List Nat}{nM bo:Code}{s:LoopState}{pd:Option Code}
  (hf:ab st.H cu=some (.loop F nt fn ps nM bo db s pd)):∃r:Loop,w.heap[lb]?=some (.loop r)∧r.state=s∧∀(s':LoopState) (xa:Option Code),
   Mod X ρ ⟨st.F,st.gs,(cu,.loop F nt fn ps nM bo db s' xa)::st.H,st.nx,st.D⟩ a (w.putObj lb (.loop { r with state:=s',pending:=xa })):=by
 obtain⟨nm,k1,k2⟩:=hm.hm.ok _ _ hf
 rw[hl] at k1;cases k1
 obtain⟨tmps,kQ,k3,k4,k5,k6⟩:=k2
 have aG:lb<w.heap.size:=by
  rcases Nat.lt_or_ge lb w.heap.size with h|h
  ·exact h
  ·rw[Array.getElem?_eq_none h] at k4;cases k4
 refine⟨_,k4,rfl,λs' xa=>?_⟩
 exact hm.xo (hb':=.loop F nt fn ps nM bo db s' xa) hf rfl hl rfl World.putObj_size (λk hk=>World.putObj_heap_other hk) ⟨tmps,kQ,k3,World.putObj_heap_same aG,k5,k6⟩ rfl (λ_ _ _ h=>by cases h)
theorem vT (cu:Nat){ops:List Oper}{i:Nat}{o:Oper}{r:List Oper}{Q:Exit→Act→World→Prop}{K:St→Prop}{Kp:List PanicEntry→St→Prop}{c:Call}{g:Operand}{args:List SV}{Fl l':List (Nat × SV)}{nt fn db:Nat}{ps:List Nat}{nM bo:Code}{pd:Option Code}
  (hX:∀G r nt,(⟨X.P,X.T,X.C,G,r,nt⟩:Cx).Ok) (A_:X.Ok)
  (hC:dm X Q K Kp) (hi:ops.drop i=o::r) (hc:o.op=.call c) (bi:c.callee=.value g) (hg:o.guard=none) (hp:eF st.gs X.nt o.dst=false)
  (h1:ev (findF st.F) [] g=some (.fy cu)) (h2:nJ (findF st.F) [] c.args.toList=some args) (h3:ab st.H cu=some (.loop Fl nt fn ps nM bo db .ready pd)) (h4:lJ ps args Fl=some l') (wK:∀p∈ps,p<nt)
  (h:eQ st λF gs H nx D=>aco X nt cu nM bo l' H nx nx (acn cu F gs D o.dst (c7 X ops Q K Kp (i+1) r))):eB X ops Q K Kp i o r st:=by
 refine⟨fun ρ a w hm=>?_⟩
 have hs:bu a []:=λx hx=>by cases hx
 have e1:=aQ hm.fm hs h1
 have e2:=q7 hm.fm hs h2
 obtain⟨nm,hn,ap⟩:=hm.hm.ok _ _ h3
 cases nm<;>simp only[ao] at ap
 rename_i lb
 obtain⟨tmps,kQ,k3,k4,k5,k6⟩:=ap
 simp only[den,hn,Option.some.injEq] at e1
 obtain⟨dr,Bl⟩:=K0 (ρ:=ρ) (tmps:=tmps) h4 e2 (λp ko=>by rw[k5];exact wK p ko) k6
 have hlen:(c.args.toList.map a.eval).length=ps.length:=by
  have:∀(ps:List Nat) (xs:List SV) (l l':List (Nat × SV)),lJ ps xs l=some l'→xs.length=ps.length:=by
   intro ps
   induction ps with
   |nil=>intro xs l l' h;cases xs with|nil=>rfl|cons _ _=>simp[lJ] at h
   |cons p ps ih=>intro xs l l' h;cases xs with|nil=>simp[lJ] at h|cons x xs=>simp only[lJ] at h;simp[ih _ _ _ h]
  rw[j8 e2,this _ _ _ _ h4]
 have cr:(execOp a.eval o).run X.P w=.ok (.round lb fn ((ps.zip (c.args.toList.map a.eval)).foldl (λ(t:Array Value) (x:Nat × Value)=>t.setIfInBounds x.1 x.2) tmps) nM bo) w:=by
  have fI:(resolve a.eval c o.type).run X.P w=.ok { target:=.fn (.yield lb) #[],args:=c.args.map a.eval } w:=by
   simp only[resolve,bi,←e1]
   simp[Deferred.ofValue]
  have hy:=run_yield (P:=X.P) (l:=lb) (args:=c.args.map a.eval) k4 (by simpa using hlen)
  simp only[execOp,hc,Sem.run_bind,fI,Result.andThen,invoke]
  rw[hy]
  congr 2
  simp only[]
  rw[←Array.foldl_toList]
  simp[Array.toList_zip]
 have ho:ops[i]?=some o:=by
  have:=congrArg (λl=>l[0]?) hi
  simpa using this
 have eu:ops.drop (i+1)=r:=by
  have:=congrArg List.tail hi
  simpa using this
 rw[List.range'_succ]
 refine wpOps_cons (by simpa using ho) (λ_=>?_) (λhw=>by rw[jS hg] at hw;cases hw)
 refine⟨(λf _=>mB X.r f),?_⟩
 have JP:(o.semAt (FW X.r).round a.eval).run X.P w=(execOp a.eval o).run X.P w:=by
  rw[vk]
  cases hr:X.r with
  |none=>rw[Oper.semAt_none]
  |some l0=>simp only[Oper.semAt,hc]
 rw[JP,cr,Oper.uponIn_round]
 refine⟨(λh=>by rw[Da] at h;cases h),?_⟩
 rw[eG] at h
 have hex:=h ⟨w,Own ρ (ab st.H),ρ,Fz (ab st.H)⟩ (some lb) hm.nx
 have Bv:Mod ⟨X.P,X.T,X.C,⟨w,Own ρ (ab st.H),ρ,Fz (ab st.H)⟩,some lb,nt⟩ ρ ⟨vU l',[],st.H,st.nx,[]⟩ { tmps:=(ps.zip (c.args.toList.map a.eval)).foldl (λ(t:Array Value) (x:Nat × Value)=>t.setIfInBounds x.1 x.2) tmps,defers:=[] } w:={
  fm:=λt e hf=>by
   obtain⟨g1,g2⟩:=AO hf
   refine⟨λ_=>Bl t _ g2,λJx=>absurd (show bu _ e.gp by rw[g1];intro x hx;cases hx) Jx⟩
  gs:=λt e hf x hx=>by rw[(AO hf).1] at hx;cases hx
  df:=trivial
  hm:=hm.hm
  kp:=⟨dF.refl _,Nat.le_refl _,λ_ _ _=>rfl,λb ho=>.inl ho,Ext.refl _,λb hz=>.inr (.inr hz)⟩
  nx:=hm.nx
  sz:=by rw[dr,k5] }
 have hw:=cW (hX _ _ _) nM _ _ hex ρ _ w Bv
 refine roundIn_of_wpIn (F:=FW X.r) (mB _ _) (wpIn_mono hw ?_)
 rintro e lh jJ ⟨x,st1,C_,rfl,ck,hk⟩
 cases x with
 |normal =>
  obtain⟨TG,nt1,WU,ps1,a1,b1,VQ,xb,Bi,Jc⟩:=uL hk
  have ly:C_ cu=some (.bO lb):=ck.kp.ext _ _ hn
  obtain⟨r1,BI,JQ,Ju⟩:=ck.Gb ly Bi
  refine⟨_,run_beginRound (P:=X.P) BI JQ,?_⟩
  have yE:r1.pending=xb:=by
   obtain⟨nm,j1,j2⟩:=ck.hm.ok _ _ Bi
   rw[ly] at j1;cases j1
   obtain⟨tm,dn,_,j4,_⟩:=j2
   rw[BI] at j4;cases j4;rfl
  have Bw:=Ju .busy xb
  have he:({ r1 with state:=LoopState.busy,pending:=xb }:Loop)={ r1 with state:=LoopState.busy }:=by rw[←yE]
  rw[he] at Bw
  refine wpIn_mono (cW (hX _ _ _) bo _ _ Jc C_ lh _ Bw) ?_
  rintro e xI jl ⟨x,oD,zy,rfl,cI,bA⟩
  have fin:∀(jump:Option Code) (mu kS:Nat) (mz:List Nat) (a2 b2:Code) (lY:Nat) (lP:List (Nat × SV)) (qH:Option Code),ab oD.H cu=some (.loop lP mu kS mz a2 b2 lY .busy qH) →
    tA ⟨st.F,st.gs,oD.H,oD.nx,st.D⟩ o.dst (.sb jump.isNone) ((cu,.loop lP mu kS mz a2 b2 lY (if jump.isNone then .ready else .done) jump)::oD.H) oD.nx (c7 X ops Q K Kp (i+1) r) →
    ∃v w',(Instr.endRound lb jump).run X.P jl=.ok v w'∧wpOpsIn (FW X.r) 0 X.P ops.toArray Q (List.range' (i+1) r.length) (a.put o.dst v) w':=by
   intro jump mu kS mz a2 b2 lY lP qH l_ aI
   have qv:zy cu=some (.bO lb):=cI.kp.ext _ _ hn
   obtain⟨r2,BJ,ZG,Jv⟩:=cI.Gb qv l_
   have lz:=Jv (if jump.isNone then .ready else .done) jump
   refine⟨_,_,run_endRound (P:=X.P) jump BJ,?_⟩
   have og:=(hm.call (H':=(cu,.loop lP mu kS mz a2 b2 lY (if jump.isNone then .ready else .done) jump)::oD.H) (aA:=oD.nx) lz.hm lz.kp lz.nx).put (d:=o.dst) (s:=.sb jump.isNone) hp rfl
   cases bz:o.dst with
   |none=>rw[bz] at og aI;exact kf A_ hC.k hC.p r (i+1) zy _ _ _ eu aI og
   |some d=>rw[bz] at og aI;exact kf A_ hC.k hC.p r (i+1) zy _ _ _ eu aI og
  cases x with
  |normal =>
   obtain⟨lP,mu,kS,mz,a2,b2,lY,qH,l_,aI⟩:=uL bA
   exact fin none _ _ _ _ _ _ _ _ l_ aI
  |ret =>
   obtain⟨lP,mu,kS,mz,a2,b2,lY,qH,l_,aI⟩:=uL bA
   exact fin (some .ret) _ _ _ _ _ _ _ _ l_ aI
  |exit n =>
   obtain⟨lP,mu,kS,mz,a2,b2,lY,qH,l_,aI⟩:=uL bA
   exact fin (some (.exit n)) _ _ _ _ _ _ _ _ l_ aI
  |panic ch=>exact bA.elim
 |ret=>exact hk.elim
 |exit n=>exact hk.elim
 |panic ch=>exact hk.elim
end
section
variable {X:Cx}{st:St}{ρ:Env}{a:Act}{w:World}
theorem Mod.Kq (hm:Mod X ρ st a w){id b:Nat}{hb:HB}{nm:Nm}(hf:ab st.H id=some hb)(hl:hb.live=true)(hn:ρ id=some nm)(ho:nm.owner=some b){w':World}
  (hs:w'.heap.size=w.heap.size) (hk:∀k,k≠b→w'.heap[k]?=w.heap[k]?) (bD:dF w w':=by exact⟨rfl,rfl⟩):Mod X ρ { st with H:=(id,.dead)::st.H } a w':=by
 have bW:=hm.kill hf
 have fY:¬Own ρ (ab ((id,.dead)::st.H)) b:=by
  intro hO
  obtain⟨i',x',ak,q0,q1,q2,q3,q4⟩:=Own.kill hO
  exact q0 (hm.hm.sep i' id x' _ ak _ _ q1 hf q2 hl q3 hn q4 ho)
 have mj:∀j size n get nm,ab ((id,.dead)::st.H) j=some (.ro size n get)→0<n→ρ j=some nm→eX nm≠some b:=by
  intro j size n get ak hj eN gW hb'
  have gT:ab st.H j=some (.ro size n get):=by
   rw[ba] at hj
   by_cases e:id=j
   ·subst e;rw[cP] at hj;cases hj
   ·rw[aR _ _ e] at hj;exact hj
  exact hm.hm.ro j size n get ak _ gT eN gW hb' ⟨_,_,_,hf,hl,hn,ho⟩
 have Jy:¬Fz (ab ((id,.dead)::st.H)) b:=λhz=>hm.hm.ax _ (hz.aq λs C h=>by cases h) ⟨_,_,_,hf,hl,hn,ho⟩
 exact{
  fm:=hm.fm
  gs:=hm.gs
  df:=hm.df
  hm:={
   ok:=λj hb' hj=>by
    obtain⟨ak,g1,g2⟩:=bW.hm.ok j hb' hj
    refine⟨ak,g1,vm (by omega) ?_ ?_ ?_ g2⟩
    ·intro iF c hc
     exact hk _ (λe=>fY (e ▸ ⟨j,hb',ak,hj,iF,g1,hc⟩))
    ·intro size n get c ex fG iG
     subst ex
     exact hk _ (λe=>mj j size n get ak hj fG g1 (e ▸ iG))
    ·intro size C v n get c ex hc fG iG
     subst ex
     exact hk _ (λe=>Jy (e ▸ ⟨j,size,C,v,n,get,hj,hc,fG,iG⟩))
   sep:=bW.hm.sep
   ro:=bW.hm.ro
   ax:=bW.hm.ax }
  kp:={
   str:=hm.kp.str.trans bD
   size:=by rw[hs];exact hm.kp.size
   same:=λc hc sZ=>by
    rw[hk c (λe=>by
     subst e
     rcases hm.kp.own c ⟨id,hb,nm,hf,hl,hn,ho⟩ with h|h
     ·exact sZ h
     ·omega)]
    exact hm.kp.same c hc sZ
   own:=bW.kp.own
   ext:=hm.kp.ext
   fz:=bW.kp.fz }
  nx:=hm.nx
  sz:=hm.sz }
def pH:List fE→List (Nat × HB)→Option (List (Nat × HB))
 |[],H=>some H
 |(f,[.sp id 0])::r,H=>match Nat.beq f 1000000,ab H id with
  |true,some .eh=>pH r ((id,.dead)::H)
  |_,_=>none
 |_::_,_=>none
def zB (X:Cx)(rs:List ResultVar)(Rv:SV→St→Prop)(Rp:List PanicEntry→St→Prop):Ex→St→Prop
 |.normal,st=>(match h_ X st rs,pH st.D st.H with
  |some l,some H'=>eT l λl'=>Rv (jW l') ⟨st.F,st.gs,H',st.nx,[]⟩
  |_,_=>False)
 |.ret,st=>(match h_ X st rs,pH st.D st.H with
  |some l,some H'=>eT l λl'=>Rv (jW l') ⟨st.F,st.gs,H',st.nx,[]⟩
  |_,_=>False)
 |.panic ch,st=>(match pH st.D st.H with
  |some H'=>Rp ch ⟨st.F,st.gs,H',st.nx,[]⟩
  |none=>False)
 |.exit _,_=>False
theorem QJ {f:Nat}{args:List SV}{r:List fE}{H H':List (Nat × HB)}(h:pH ((f,args)::r) H=some H') :
  ∃id,args=[.sp id 0]∧Nat.beq f 1000000=true∧ab H id=some .eh∧pH r ((id,.dead)::H)=some H':=by
 unfold pH at h
 split at h
 ·rename_i Jb;cases Jb
 ·rename_i Jb
  cases Jb
  split at h
  ·exact⟨_,rfl,by assumption,by assumption,h⟩
  ·cases h
 ·cases h
theorem Kv {P:Program}{fn:Func}{R:Ending→World→Prop}{u:FrameMode}(hu:u≠.run){F:List (Nat × FE)}{gs:List Nat}{nx:Nat}{H':List (Nat × HB)}:∀{D:List fE} {H:List (Nat × HB)} {a:Act} {w:World},
  pH D H=some H'→Mod X ρ ⟨F,gs,H,nx,D⟩ a w→(∀iJ,Mod X ρ ⟨F,gs,H',nx,[]⟩ { a with defers:=[] } iJ→LeavesIn Fence.wide 0 P fn a.tmps R [] u iJ) →
  LeavesInM Fence.wide 0 P fn a.tmps R a.defers u w
 |[],H,a,w,hk,hm,iq=>by
  simp only[pH] at hk;cases hk
  have hd:a.defers=[]:=pY hm.df
  rw[hd]
  refine iq w ?_
  have:({ a with defers:=[] }:Act)=a:=by cases a;simp only at hd;subst hd;rfl
  rw[this];exact hm
 |(f,args)::r,H,a,w,hk,hm,iq=>by
  have fU:=hm.df
  cases mW:a.defers with
  |nil=>rw[mW] at fU;exact fU.elim
  |cons d ds =>
   rw[mW] at fU
   obtain⟨⟨aM,h1,h2⟩,h3⟩:=fU
   obtain⟨id,rfl,e1,e2,hk⟩:=QJ hk
   obtain⟨v,vs,g1,g2,rfl⟩:=jP h1
   simp only[ai,Option.some.injEq] at g2
   subst g2
   obtain⟨b,hb,rfl⟩:=nX g1
   have hd:d={ target:=.collected b,args:=#[] }:=by rw[h2];simp only[uU,e1]
   obtain⟨nm,k1,k2⟩:=hm.hm.ok _ _ e2
   rw[hb] at k1;cases k1
   refine⟨hu,.inl ⟨b,_,by rw[hd],run_takeDeferred (P:=P) k2,?_⟩⟩
   have ck:=hm.Kq (w':=w.putObj b (.deferred none)) e2 rfl hb rfl World.putObj_size (λk hk=>World.putObj_heap_other hk)
   have cI:Mod X ρ ⟨F,gs,(id,.dead)::H,nx,r⟩ { a with defers:=ds } (w.putObj b (.deferred none)):={
    fm:=ck.fm,gs:=ck.gs,df:=h3,hm:=ck.hm,kp:=ck.kp,nx:=ck.nx,sz:=ck.sz }
   exact Kv hu (a:={ a with defers:=ds }) hk cI (λiJ q3=>iq iJ q3)
theorem QI:∀(D:List fE) (H H':List (Nat × HB)),pH D H=some H'→∀id T cs,ab H id=some (.cells T cs)→ab H' id=some (.cells T cs)
 |[],H,H',h,id,T,cs,hf=>by simp only[pH] at h;cases h;exact hf
 |(f,args)::r,H,H',h,id,T,cs,hf=>by
  obtain⟨bM,_,_,e4,h⟩:=QJ h
  refine QI r _ _ h id T cs ?_
  rw[ba,aR]
  ·exact hf
  ·rintro rfl;rw[hf] at e4;cases e4
theorem Nc (hX:X.Ok)(hr:X.r=none){f:Nat}{fn:Func}{c:Code}(hf:X.P.funcs[f]?=some fn)(hb:fn.body=some c)(qx:fn.ntmps=X.nt)
  {args:List SV} {aM:List Value} {H:List (Nat × HB)} {nx:Nat} (hd:ai ρ args=some aM) (hlen:args.length≤X.nt) (hH:HM ρ (ab H) w)
  (hG:X.G=⟨w,Own ρ (ab H),ρ,Fz (ab H)⟩) (aU:∀j,nx≤j→ρ j=none) {Rv:SV→St→Prop} {Rp:List PanicEntry→St→Prop}
  (aeQ:∀x∈fn.results.toList,∃t,x=.tmp t∨∃ty,x=.cell t ty)
  (h:exec X c (start args H nx) (zB X fn.results.toList Rv Rp)):Calls X.P f aM.toArray w (jL X Rv Rp):=by
 refine(callsIn_wide (n:=0)).1 ?_
 have hm:=zo (X:=X) hd hlen hH hG aU
 have hw:=cW hX c _ _ h ρ _ w hm
 rw[hr] at hw
 refine callsIn_of_wp_marks (F:=Fence.wide) hf hb trivial (wpIn_mono (by rw[qx];exact hw) ?_)
 rintro e a' w' ⟨x,af,ρ',rfl,an,hk⟩
 have mZ:(match h_ X af fn.results.toList,pH af.D af.H with
   |some l,some H'=>eT l λl'=>Rv (jW l') ⟨af.F,af.gs,H',af.nx,[]⟩
   |_,_=>False)→LeavesInM Fence.wide 0 X.P fn a'.tmps (jL X Rv Rp) a'.defers .returning w':=by
  intro hk
  split at hk
  ·rename_i l H' e1 e2
   rw[gn] at hk
   refine Kv (X:=X) (ρ:=ρ') (F:=af.F) (gs:=af.gs) (nx:=af.nx) (by intro h;cases h) (D:=af.D) (H:=af.H) e2 an (λiJ q3=>?_)
   have fI:h_ X ⟨af.F,af.gs,H',af.nx,[]⟩ fn.results.toList=some l:=by
    have:∀(rs:List ResultVar) (l:List SV),h_ X af rs=some l→h_ X ⟨af.F,af.gs,H',af.nx,[]⟩ rs=some l:=by
     intro rs
     induction rs with
     |nil=>intro l h;exact h
     |cons x r ih =>
      intro l h
      simp only[h_] at h ⊢
      split at h
      ·rename_i v l' h1 h2
       rw[ih _ h2]
       have:CI X ⟨af.F,af.gs,H',af.nx,[]⟩ x=some v:=by
        cases x with
        |tmp t=>exact h1
        |cell t ty =>
         simp only[CI] at h1 ⊢
         split at h1
         ·rename_i ti id off g1 g2
          split at h1
          ·rename_i T cs g3
           rw[QI _ _ _ e2 id T cs g3];exact h1
          ·cases h1
         ·cases h1
       rw[this];exact h
      ·cases h
    exact this _ _ e1
   obtain⟨u,h1,h2⟩:=qK hX q3 fI
   exact⟨u,h1,.inl ⟨_,_,ρ',u,rfl,h2,q3.mh,hk⟩⟩
  ·exact hk.elim
 cases x with
 |normal=>exact mZ hk
 |ret=>exact mZ hk
 |panic ch =>
  simp only[zB] at hk
  split at hk
  ·rename_i H' e2
   exact Kv (X:=X) (ρ:=ρ') (F:=af.F) (gs:=af.gs) (nx:=af.nx) (by intro h;cases h) (D:=af.D) (H:=af.H) e2 an (λiJ q3=>.inr ⟨ch,_,ρ',rfl,q3.mh,hk⟩)
  ·exact hk.elim
 |exit n=>exact hk.elim
def TU (P:Program)(T:cf)(C:Nat→Option Ct)(fn:Func)(c:Code)(H:LH)(args:List SV)(fr:Nat)(out:cJ):Prop :=
 ∃(ps:List (Nat × HB)) (dR:List SV) (dJ:List (Nat × HB)) (fh:Nat) (K:List Nat),args=cX (nz ps) dR∧eU ps.length [] dR=true∧dR.length≤fn.ntmps∧Hand H ps∧dJ=kA 0 ps∧fh=ps.length ∧
  ∀G:cp,(∀j,fh≤j→G.ρ j=none)→exec ⟨P,T,C,G,none,fn.ntmps⟩ c (start dR dJ fh) (zB ⟨P,T,C,G,none,fn.ntmps⟩ fn.results.toList
   (λv st=>(out.bL=none∨∃ch,out.bL=some (false,ch))∧pZ ps K fr out v st) (λch st=>out.bL=some (true,ch)∧qD st.H dJ))
theorem Aj {P:Program}{T:cf}{C:Nat→Option Ct}(hX:∀G r nt,(⟨P,T,C,G,r,nt⟩:Cx).Ok){f:Nat}{fn:Func}{c:Code}(hf:P.funcs[f]?=some fn)(hb:fn.body=some c){ct:Ct}
  (h:∀fr args H out,ct fr args H=some out→fc out.pre→TU P T C fn c H args fr out):aP P f ct :=
 x7 λfr args H out h1 h2=>by
  obtain⟨ps,dR,dJ,fh,K,h1,h2,h3,h4,h5,h6,hex⟩:=h fr args H out h1 h2
  refine⟨ps,dR,dJ,fh,K,h1,h2,h3,h4,h5,h6,fun ρ w aM hd hm aU=>?_⟩
  exact Nc (X:=⟨P,T,C,⟨w,Own ρ (ab dJ),ρ,Fz (ab dJ)⟩,none,fn.ntmps⟩) (hX _ _ _) rfl hf hb rfl hd h3 hm rfl aU (λx _=>by cases x with|tmp t=>exact⟨t,.inl rfl⟩|cell t ty=>exact⟨t,.inr ⟨ty,rfl⟩⟩) (hex _ aU)
end
def qW (P:Program)(t:TypeId)(name:String)(f:Nat):Prop:=∀v w,(method (P.types.size+Made.depth) t v name).run P w=.ok (f,v) w
theorem Ri {P:Program}{t:TypeId}{name:String}{f:Nat}{i:TypeInfo}{d:TypeDesc}(hi:P.info? t=some i)(hd:P.underlying t=some d)(hp:∀e,d≠.pointer e)
  (hm:∃m,i.methods.find? (·.name == name)=some m∧m.path=#[]∧m.func=some (f,false)):qW P t name f:=by
 intro v w
 obtain⟨m,h1,h2,h3⟩:=hm
 have cR:0<Made.depth:=by decide
 obtain⟨k,hk⟩:∃k,P.types.size+Made.depth=k+1:=⟨P.types.size+Made.depth-1,by omega⟩
 rw[hk]
 have hr : (receiverAt t (.val v) false (if m.path.isEmpty = true then some ((name.splitOn ".").getLastD name) else none)).run P w = .ok v w := by
  unfold receiverAt
  simp only[Sem.run_bind,run_underlying hd,Result.andThen]
  cases d<;>first|(exact absurd rfl (hp _))|rfl
 have ht:(typeInfo t).run P w=.ok i w:=by simp[typeInfo,hi]
 have I_:m.path.toList=[]:=by rw[h2]
 simp only[method,Sem.run_bind,ht,Result.andThen,h1,I_,follow,Sem.run_pure,h3,hr]
theorem FH {P:Program}{t:TypeId}{name:String}{f:Nat}(h:(match P.info? t,P.underlying t with
  |some i,some d=>(match d with
   |.pointer _=>false
   |_=>(match i.methods.find? (·.name == name) with
    |some m=>m.path.isEmpty&&(match m.func with
     |some (g,false)=>Nat.beq g f
     |_=>false)
    |none=>false))
  |_,_=>false)=true):qW P t name f:=by
 split at h
 ·rename_i i d e1 e2
  refine Ri (i:=i) (d:=d) e1 e2 ?_ ?_
  ·rintro e rfl;cases h
  ·split at h
   ·cases h
   ·split at h
    ·rename_i m e3
     simp only[Bool.and_eq_true] at h
     obtain⟨h1,h2⟩:=h
     refine⟨m,e3,by simpa using h1,?_⟩
     split at h2
     ·rename_i g e4
      rw[e4]
      have:g=f:=by simpa using h2
      rw[this]
     ·cases h2
    ·cases h
 ·cases h
section
variable {X:Cx}{st:St}
theorem qk (n:Nat){ops:List Oper}{i:Nat}{o:Oper}{r:List Oper}{Q:Exit→Act→World→Prop}{K:St→Prop}{Kp:List PanicEntry→St→Prop}{c:Call}{x:Operand}{name:String}{t:TypeId}{v:SV}{args:List SV}(hX:X.Ok)
  (hC:dm X Q K Kp) (hi:ops.drop i=o::r) (hc:o.op=.call c) (bi:c.callee=.invoke x name) (hg:o.guard=none) (hp:eF st.gs X.nt o.dst=false)
  (h1:ev (findF st.F) [] x=some (.cg t v)) (h2:nJ (findF st.F) [] c.args.toList=some args) (hm:qW X.P t name n) (sR:Body X.P n)
  (h:bG X.P n (v::args) st.H st.nx (λv H' aA=>tA st o.dst v H' aA (c7 X ops Q K Kp (i+1) r)) (λch H' aA=>Kp ch ⟨st.F,st.gs,H',aA,st.D⟩)):eB X ops Q K Kp i o r st:=by
 refine⟨fun ρ a w cL=>?_⟩
 have hs:bu a []:=λx hx=>by cases hx
 have e1:=aQ cL.fm hs h1
 have hl:=q7 cL.fm hs h2
 simp only[den] at e1
 split at e1
 ·rename_i u hu
  simp only[Option.some.injEq] at e1
  have hd:=oW hu hl
  have cr:(do let d ←resolve a.eval c o.type;invoke d.target d.args:Sem Next).run X.P w=.ok (.enter n (u::c.args.toList.map a.eval).toArray) w:=by
   have fI:(resolve a.eval c o.type).run X.P w=.ok { target:=.fn (.method name) #[],args:=#[a.eval x]++c.args.map a.eval } w:=by
    simp only[resolve,bi];rfl
   rw[Sem.run_bind,fI]
   have h0:(#[a.eval x]++c.args.map a.eval)[0]?=some (a.eval x):=by rw[Array.getElem?_append_left (Nat.zero_lt_one)];rfl
   have h3:((#[a.eval x]++c.args.map a.eval).extract 1 (#[a.eval x]++c.args.map a.eval).size)=c.args.map a.eval:=by
    apply Array.ext'
    rw[Array.toList_extract]
    simp only[List.extract,Array.toList_append,Array.toList_map]
    simp only[List.cons_append,List.nil_append,List.drop_succ_cons,List.drop_zero,Array.size_append]
    exact List.take_of_length_le (by simp)
   have wG:=hm u w
   have he:(#[u]++c.args.map a.eval)=(u::c.args.toList.map a.eval).toArray:=by apply Array.ext';simp
   have jT:=sR (u::c.args.toList.map a.eval).toArray w
   rw[←he] at jT ⊢
   have jw:(callMethod (.iface t u) name (c.args.map a.eval)).run X.P w=.ok (.enter n (#[u]++c.args.map a.eval)) w:=by
    have BG:(program).run X.P w=.ok X.P w:=rfl
    simp only[callMethod,Sem.run_bind,BG,Result.andThen,wG]
    exact jT
   simp only[Result.andThen,invoke,h0,h3]
   rw[←e1]
   exact jw
  have ho:ops[i]?=some o:=by
   have:=congrArg (λl=>l[0]?) hi
   simpa using this
  have eu:ops.drop (i+1)=r:=by
   have:=congrArg List.tail hi
   simpa using this
  rw[List.range'_succ]
  refine wpOps_cons (by simpa using ho) (λ_=>?_) (λhw=>by rw[jS hg] at hw;cases hw)
  refine vf (by rw[hc];intro c' im;cases im) (by simp only[execOp,hc];exact cr) (h ρ w _ cL.hm cL.nx hd) ?_
  rintro e w' (⟨v,H',aA,ρ',u,rfl,h1,h2,h3,h4,h5⟩|⟨ch,H',aA,ρ',rfl,h2,h3,h4,h5⟩)
  ·have an:=(cL.call h2 h3 h4).put (d:=o.dst) hp h1
   refine kf hX hC.k hC.p r (i+1) ρ' _ _ w' eu ?_ an
   cases bz:o.dst with
   |none=>rw[bz] at h5;cases st;exact h5
   |some d=>rw[bz] at h5;cases st;exact h5
  ·exact hC.p ch ρ' _ _ w' (cL.call h2 h3 h4) h5
 ·cases e1
theorem oU {P:Program}{n:Nat}{ct:Ct}(gG:aP P n ct){l:List SV}{H:List (Nat × HB)}{nx:Nat}{Rv:SV→List (Nat × HB)→Nat→Prop}{Rp:List PanicEntry→List (Nat × HB)→Nat→Prop}{out:cJ}
  (h:ct nx l (ab H)=some out) (hp:fc out.pre) (hv:(out.bL=none∨∃ch,out.bL=some (false,ch))→Rv out.v (out.news++H) (nx+4)) (pz:∀ch,out.bL=some (true,ch)→Rp ch H nx):bG P n l H nx Rv Rp:=by
 intro ρ w aM hm aU hd
 refine(gG ρ (ab H) w nx l aM out hm (λj h1 _=>aU j h1) hd h hp).mono ?_
 intro e w' uH
 have mZ:∀{v ρ'},pX ρ (ab H) nx w out v w' ρ'→(out.bL=none∨∃ch,out.bL=some (false,ch))→e=.returned v →
   (∃v H' aA ρ' u,e=.returned u∧den ρ' v=some u∧HM ρ' (ab H') w'∧gO ⟨w,Own ρ (ab H),ρ,Fz (ab H)⟩ ρ' (ab H') w'∧(∀j,aA≤j→ρ' j=none)∧Rv v H' aA):=by
  intro v ρ' hE tc he
  refine⟨out.v,out.news++H,nx+4,ρ',v,he,hE.den,by rw[w4];exact hE.hm,⟨hE.str,hE.size,λb hb _=>hE.same b hb,λb ho=>by rw[w4] at ho;exact hE.own b ho,hE.ext,λb hz=>by rw[w4] at hz;exact .inr (.inr (hE.fz b hz))⟩,λj hj=>?_,hv tc⟩
  rcases Classical.em (ρ' j=ρ j) with e|e
  ·rw[e];exact aU j (by omega)
  ·obtain⟨_,h2,_⟩:=hE.fresh j e
   omega
 unfold xw at uH
 split at uH
 ·rename_i tc
  obtain⟨ρ',v,rfl,hE⟩:=uH
  exact .inl (mZ hE (.inl tc) rfl)
 ·rename_i c ch tc
  rcases uH with⟨rfl,rfl,hs,hk,bD⟩|⟨rfl,ρ',v,rfl,hE⟩
  ·exact .inr ⟨ch,H,nx,ρ,rfl,hm.world hs hk,⟨bD,hs,λb hb _=>hk b hb,λb ho=>.inl ho,Ext.refl _,λb hz=>.inr (.inr hz)⟩,aU,pz ch tc⟩
  ·exact .inl (mZ hE (.inr ⟨ch,tc⟩) rfl)
end
structure oH (nx:Nat) (v:SV) (H:List (Nat × HB)) (KH:Nat) (v':SV) (H':List (Nat × HB)) (aA:Nat) (s:Nat→Nat):Prop where
 H:gN s aA H H'
 v:eY v (bX s v')
 vi:dM aA v'=true
 inj:tp s H'=true
 fix:yl s nx=true
 ge:Nat.ble nx aA=true
theorem DM {P:Program}{T:cf}{C:Nat→Option Ct}(hX:∀G r nt,(⟨P,T,C,G,r,nt⟩:Cx).Ok){n:Nat}{fn:Func}{c:Code}(hf:P.funcs[n]?=some fn)(hb:fn.body=some c){l:List SV}(hlen:l.length≤fn.ntmps)
  {H:List (Nat × HB)} {nx:Nat} {Rv:SV→List (Nat × HB)→Nat→Prop} {Rp:List PanicEntry→List (Nat × HB)→Nat→Prop} (v':SV) (H':List (Nat × HB)) (aA:Nat)
  (h:∀G:cp,(∀j,nx≤j→G.ρ j=none)→exec ⟨P,T,C,G,none,fn.ntmps⟩ c (start l H nx) (Fin ⟨P,T,C,G,none,fn.ntmps⟩ fn.results.toList (λv st=>∃s,oH nx v st.H st.nx v' H' aA s) (λ_ _=>False)))
  (hk:Rv v' H' aA):bG P n l H nx Rv Rp:=by
 intro ρ w aM hm aU hd
 refine(cT hX hf hb hlen (Rv:=λv jM jV=>∃s,oH nx v jM jV v' H' aA s) (Rp:=λ_ _ _=>False) h ρ w aM hm aU hd).mono ?_
 rintro e w' (⟨v,jM,jV,fo,u,rfl,h1,h2,h3,h4,s,hs⟩|⟨_,_,_,_,_,_,_,_,hF⟩)
 ·have ck:Mod ⟨P,T,C,⟨w,Own ρ (ab H),ρ,Fz (ab H)⟩,none,0⟩ fo ⟨[],[],jM,jV,[]⟩ { tmps:=#[],defers:=[] } w':={
   fm:=λt e hf=>by cases hf
   gs:=λt e hf=>by cases hf
   df:=trivial
   hm:=h2
   kp:=h3
   nx:=h4
   sz:=rfl }
  have cI:=ck.oz (n0:=nx) (s:=s) (af:=⟨[],[],H',aA,[]⟩) ⟨trivial,hs.H,hs.inj,hs.fix,hs.ge,rfl,trivial⟩ aU
  exact .inl ⟨v',H',aA,_,u,rfl,by rw[ui _ hs.vi,←tR _ _ hs.v];exact h1,cI.hm,cI.kp,cI.nx,hk⟩
 ·exact hF.elim
section
variable {X:Cx}{ρ:Env}{st:St}{a:Act}{w:World}
theorem Mod.FO (hm:Mod X ρ st a w)(T s:Nat)(get:Nat→List SV):Mod X (aq ρ st.nx (.sl none 0 0 s)) { st with H:=(st.nx,.vec T s 0 get)::st.H,nx:=st.nx+1 } a w:=by
 have hf:ρ st.nx=none:=hm.nx _ (Nat.le_refl _)
 exact{
  fm:=hm.fm.ext (Ext.aq _ hf)
  gs:=hm.gs
  df:=hm.df.ext (Ext.aq _ hf)
  hm:={
   ok:=λj hb hj=>by
    rw[ba] at hj
    by_cases e:st.nx=j
    ·subst e;rw[cP] at hj;cases hj
     exact⟨_,cj _ _ _,rfl,rfl,rfl,rfl,rfl⟩
    ·rw[aR _ _ e] at hj
     obtain⟨nm,h1,h2⟩:=hm.hm.ok j hb hj
     exact⟨nm,by rw[bF _ _ (Ne.symm e)];exact h1,kK (Ext.aq _ hf) h2⟩
   sep:=λi j x y c_ dE b h1 h2 l1 l2 r1 r2 o1 o2=>by
    rw[ba] at h1 h2
    by_cases e1:st.nx=i
    ·subst e1;rw[cj] at r1;cases r1;cases o1
    ·by_cases e2:st.nx=j
     ·subst e2;rw[cj] at r2;cases r2;cases o2
     ·rw[aR _ _ e1] at h1;rw[aR _ _ e2] at h2
      rw[bF _ _ (Ne.symm e1)] at r1;rw[bF _ _ (Ne.symm e2)] at r2
      exact hm.hm.sep i j x y c_ dE b h1 h2 l1 l2 r1 r2 o1 o2
   ro:=λj size n get' nm b hj hn hr hb ho=>by
    rw[ba] at hj
    by_cases e:st.nx=j
    ·subst e;rw[cP] at hj;cases hj
    ·rw[aR _ _ e] at hj
     rw[bF _ _ (Ne.symm e)] at hr
     rcases Own.cons hf ho with h|h
     ·cases h
     ·exact hm.hm.ro j size n get' nm b hj hn hr hb h
   ax:=λb hz ho=>by
    rw[ba] at hz
    rcases Own.cons hf ho with h|h
    ·cases h
    ·exact hm.hm.ax b (hz.aq λs C h=>by cases h) h }
  kp:={
   str:=hm.kp.str
   size:=hm.kp.size
   same:=hm.kp.same
   own:=λb ho=>by
    rcases Own.cons hf ho with h|h
    ·cases h
    ·exact hm.kp.own b h
   ext:=hm.kp.ext.trans (Ext.aq _ hf)
   fz:=λb hz=>hm.kp.fz b (by rw[ba] at hz;exact hz.aq λs C h=>by cases h) }
  nx:=λj hj=>by
   have:st.nx+1≤j:=hj
   rw[bF _ _ (by omega)];exact hm.nx j (by omega)
  sz:=hm.sz }
theorem abj {c:Code}{K:Ex→St→Prop}(id Tc T s:Nat)(get:Nat→List SV)(h1:ab st.H id=some (.cells Tc [.sv (.slice none 0 0)]))
  (h:eQ st λF gs H nx D=>fa (nx+1) λaA=>aX X c ⟨F,gs,(id,.cells Tc [.sl nx])::(nx,.vec T s 0 get)::H,aA,D⟩ K):aX X c st K:=by
 intro ρ a w hm
 rw[eG,fw] at h
 have dZ:id≠st.nx:=λe=>by
  obtain⟨nm,h2,_⟩:=hm.hm.ok _ _ h1
  rw[hm.nx id (by omega)] at h2;cases h2
 have h2:=hm.FO T s get
 obtain⟨nm,h3,h4⟩:=hm.hm.ok _ _ h1
 have h5:ab ((st.nx,.vec T s 0 get)::st.H) id=some (.cells Tc [.sv (.slice none 0 0)]):=by
  rw[ba,aR _ _ (Ne.symm dZ)];exact h1
 refine h _ a w (h2.swap (hb':=.cells Tc [.sl st.nx]) h5 rfl (nm:=nm) (by rw[bF _ _ dZ];exact h3) ?_ (λ_ _ _ h=>by cases h))
 cases nm<;>simp only[ao] at h4 ⊢
 obtain⟨vs,d1,d2,d3⟩:=h4
 simp[ai,den,Value.oneCell'] at d1
 subst d1
 exact⟨_,by simp[ai,den,cj],d2,d3⟩
theorem KF {c:Code}{K:Ex→St→Prop}(t T s:Nat)(get:Nat→List SV)(h1:findF st.F t=some ⟨[],.sv (.slice none 0 0)⟩)
  (h:eQ st λF gs H nx D=>fa (nx+1) λaA=>aX X c ⟨(t,⟨[],.sl nx⟩)::F,gs,(nx,.vec T s 0 get)::H,aA,D⟩ K):aX X c st K:=by
 intro ρ a w hm
 rw[eG,fw] at h
 have h2:=hm.FO T s get
 refine h _ a w {
  fm:=λt' e hf=>?_
  gs:=λt' e hf x hx=>?_
  df:=h2.df
  hm:=h2.hm
  kp:=h2.kp
  nx:=h2.nx
  sz:=h2.sz }
 ·by_cases e:t=t'
  ·subst e
   rw[je] at hf;cases hf
   have:=(h2.fm t _ h1).1 (λx hx=>by cases hx)
   obtain⟨v,uK,E8⟩:=this
   simp[den,Value.oneCell'] at E8
   subst E8
   exact⟨λ_=>⟨_,uK,by simp[den,cj]⟩,λhn=>absurd (show bu a [] from λx hx=>by cases hx) hn⟩
  ·rw[iB _ _ e] at hf;exact h2.fm t' _ hf
 ·by_cases e:t=t'
  ·subst e;rw[je] at hf;cases hf;cases hx
  ·rw[iB _ _ e] at hf;exact hm.gs t' _ hf x hx
end
def tC:Code→Option (List Nat × Code × Code)
 |.rangeFunc _ ps a b=>some (ps.toList,a,b)
 |.seq x y=>match tC x with
  |some r=>some r
  |none=>tC y
 |.cond _ x y=>match tC x with
  |some r=>some r
  |none=>tC y
 |.block _ x=>tC x
 |.loop x=>tC x
 |.scope x=>tC x
 |_=>none
def u9 (c:Code):Code:=match tC c with
 |some (_,a,_)=>a
 |none=>.skip
def u_ (c:Code):Code:=match tC c with
 |some (_,_,b)=>b
 |none=>.skip
section
variable {X:Cx}{st:St}{κ ν:Type} [DecidableEq κ]
end
end Go.X
namespace Go.X
open Go Go.ChangeShapes Go.WideShapes Go.ChangeAt Go.RowKit
def Dg (ρ:Env)(H:LH)(w:World):Prop:=∀id hb,H id=some hb→∃nm,ρ id=some nm∧ao ρ w hb nm∧nm.owner=none
theorem Dg.own {ρ:Env}{H:LH}{w:World}(h:Dg ρ H w){b:Nat}:¬Own ρ H b:=by
 rintro⟨id,hb,nm,h1,h2,h3,h4⟩
 obtain⟨ak,h5,_,h6⟩:=h id hb h1
 rw[h3] at h5;cases h5
 rw[h6] at h4;cases h4
theorem Dg.hm {ρ:Env}{H:LH}{w:World}(h:Dg ρ H w):HM ρ H w where
 ok id hb hf:=by
  obtain⟨nm,h1,h2,_⟩:=h id hb hf
  exact⟨nm,h1,h2⟩
 sep id bM hb hb' nm ak b h1 h2 l1 l2 r1 r2 o1 o2:=absurd ⟨id,hb,nm,h1,l1,r1,o1⟩ h.own
 ro id size n get nm b h1 hn r1 hb:=h.own
 ax b hz:=h.own
section
variable {H:Type}{enc:TypeId × Value→H}{P:Program}{w:World}{sp:Nat→Bool}
def Ce (P:Program)(g:TypeId→Option (List IntKind)):List Field→Nat→Option (List IntKind)
 |[],_=>some []
 |f::r,off=>(match g f.type,Ce P g r (off+P.cellsOf f.type) with
  |some ks,some l=>if f.offset=off∧P.cellsOf f.type=ks.length then some (ks++l) else none
  |_,_=>none)
def lay (P:Program):Nat→TypeId→Option (List IntKind)
 |0,_=>none
 |n+1,t=>match P.underlying t with
  |some (.int k)=>some [k]
  |some (.struct fs)=>(match Ce P (lay P n) fs.toList 0 with
   |some ks=>if P.cellsOf t=ks.length then some ks else none
   |none=>none)
  |_=>none
def jz (ks:List IntKind)(ns:List Int):List Value:=List.zipWith Value.int ks ns
def tt (ks:List IntKind)(ns:List Int):List SV:=List.zipWith SV.si ks ns
theorem aae {ks l:List IntKind}{ns m:List Int}(h:ns.length=ks.length):jz (ks++l) (ns++m)=jz ks ns++jz l m:=by
 unfold jz;rw[List.zipWith_append (by omega)]
theorem Qm {ks:List IntKind}{ns:List Int}(h:ns.length=ks.length):(jz ks ns).length=ks.length:=by simp[jz,h]
theorem Ql {ρ:Env}:∀(ks:List IntKind) (ns:List Int),ai ρ (tt ks ns)=some (jz ks ns)
 |[],ns=>by simp[tt,jz,ai]
 |k::ks,[]=>by simp[tt,jz,ai]
 |k::ks,n::ns=>by
  show ai ρ (.si k n::tt ks ns)=some (.int k n::jz ks ns)
  exact oW rfl (Ql ks ns)
theorem Qo:∀(ks:List IntKind) (ns:List Int),(jz ks ns).all (·.oneCell')=true
 |[],ns=>by simp[jz]
 |k::ks,[]=>by simp[jz]
 |k::ks,n::ns=>by
  show(Value.oneCell' (.int k n)&&(jz ks ns).all (·.oneCell'))=true
  rw[Qo ks ns];rfl
theorem zt:∀(n:Nat),(∀(t:TypeId) (ks:List IntKind) (fuel:Nat) (cs:List Value) (x:DataW H × List MemPlace),lay P n t=some ks→DataW.trod enc P w 0 sp true fuel t cs=some x →
   ∃ns:List Int,ns.length=ks.length∧cs=jz ks ns∧∀p∈List.zip ks ns,(Lit.int p.1 p.2).wf=true):=by
 intro n
 induction n with
 |zero=>intro t ks fuel cs x h;simp[lay] at h
 |succ n ih =>
  have hF:∀(fs:List Field) (off:Nat) (ks:List IntKind) (cs:List Value) (m:Nat),Ce P (lay P n) fs off=some ks →
    (∀f∈fs,∃y,DataW.trod enc P w 0 sp true m f.type ((cs.drop f.offset).take (P.cellsOf f.type))=some y) →
    ∃ns:List Int,ns.length=ks.length∧(cs.drop off).take ks.length=jz ks ns∧∀p∈List.zip ks ns,(Lit.int p.1 p.2).wf=true:=by
   intro fs
   induction fs with
   |nil =>
    intro off ks cs m h _
    simp only[Ce,Option.some.injEq] at h
    subst h
    exact⟨[],rfl,by simp[jz],by simp⟩
   |cons f r Z_ =>
    intro off ks cs m h hf
    simp only[Ce] at h
    split at h
    ·rename_i k1 k2 e1 e2
     split at h
     ·rename_i EV
      cases h
      obtain⟨y,hy⟩:=hf f List.mem_cons_self
      obtain⟨n1,q1,q2,q3⟩:=ih f.type k1 m _ y e1 hy
      obtain⟨n2,q4,q5,q6⟩:=Z_ _ k2 cs m e2 (λg hg=>hf g (List.mem_cons_of_mem _ hg))
      refine⟨n1++n2,by simp[q1,q4],?_,?_⟩
      ·rw[aae q1,←q2,←q5,EV.1,EV.2,List.length_append,List.take_add]
       rw[List.drop_drop]
      ·intro p hp
       rw[List.zip_append (by omega)] at hp
       rcases List.mem_append.1 hp with hp|hp
       ·exact q3 p hp
       ·exact q6 p hp
     ·cases h
    ·cases h
  intro t ks fuel cs x h ht
  simp only[lay] at h
  split at h
  ·rename_i k hu
   cases h
   obtain⟨z,rfl,_,hw⟩:=DataW.trod_int hu ht
   exact⟨[z],rfl,rfl,by simpa using hw⟩
  ·rename_i fs hu
   split at h
   ·rename_i ks' e1
    split at h
    ·rename_i hc
     cases h
     obtain⟨xs,m,_,_,hlen,hxs,hg⟩:=DataW.trod_struct hu ht
     obtain⟨ns,q1,q2,q3⟩:=hF fs.toList 0 ks cs m e1 (λf hf=>by
      obtain⟨i,hi⟩:=List.getElem?_of_mem hf
      have eC:fs[i]?=some f:=by simpa using hi
      have aG:i<xs.length:=by
       have:=(Array.getElem?_eq_some_iff.1 eC).1
       omega
      exact⟨_,(hg i f eC).trans (List.getElem?_eq_getElem aG)⟩)
     refine⟨ns,q1,?_,q3⟩
     rw[←q2]
     simp[←hc,←hlen]
    ·cases h
   ·cases h
  ·cases h
theorem F1 {t e:TypeId}{n fuel:Nat}{ks:List IntKind}{cs:List Value}{x:DataW H × List MemPlace}(ht:P.underlying t=some (.slice e))(hl:lay P n e=some ks)(hC:P.cellsOf e=ks.length)(hz:ks.length≠0)
  (h:DataW.trod enc P w 0 sp true fuel t cs=some x):∃(a:Option Addr) (len cap:Nat) (N:Nat→List Int),cs=[.slice a len cap]∧len≤maxLen∧(∀i,(N i).length=ks.length) ∧
   (∀i,i<len→∀p∈List.zip ks (N i),(Lit.int p.1 p.2).wf=true)∧∀ρ:Env,ao ρ w (.ro ks.length len λi=>tt ks (N i)) (.sl a len cap ks.length):=by
 rcases DataW.trod_slice ht h with⟨rfl,_⟩|⟨a,len,cap,Wf,rest,m,_,rfl,_,_,hle,hm,hlen,jx,_⟩
 ·exact⟨none,0,0,λ_=>List.replicate ks.length 0,rfl,Nat.zero_le _,λi=>by simp,λi hi=>by omega,fun ρ=>⟨rfl,rfl,Nat.le_refl _,λh=>by omega⟩⟩
 ·have key:∀i,i<len→∃ns:List Int,ns.length=ks.length∧(∀p∈List.zip ks ns,(Lit.int p.1 p.2).wf=true)∧∀j v,(jz ks ns)[j]?=some v→w.cell? (a.add (i*ks.length+j))=some v:=by
   intro i hi
   have h1:=jx i hi
   rw[List.getElem?_eq_getElem (by omega)] at h1
   simp only[Option.bind_eq_some_iff] at h1
   obtain⟨c1,h2,h3⟩:=h1
   obtain⟨ns,q1,q2,q3⟩:=zt n e ks m c1 _ hl h3
   obtain⟨_,h4,h5⟩:=World.cells?_some h2
   refine⟨ns,q1,q3,λj v hv=>?_⟩
   rw[←q2] at hv
   have hj:j<c1.length:=(List.getElem?_eq_some_iff.1 hv).1
   rw[←add_add,←hC,h5 j (by omega)]
   exact hv
  have hN:∃N:Nat→List Int,∀i,(N i).length=ks.length∧(i<len→(∀p∈List.zip ks (N i),(Lit.int p.1 p.2).wf=true)∧∀j v,(jz ks (N i))[j]?=some v→w.cell? (a.add (i*ks.length+j))=some v):=by
   refine⟨λi=>if hi:i<len then(key i hi).choose else List.replicate ks.length 0,λi=>?_⟩
   by_cases hi:i<len
   ·simp only[hi,dif_pos]
    have:=(key i hi).choose_spec
    exact⟨this.1,λ_=>this.2⟩
   ·simp[hi]
  obtain⟨N,hN⟩:=hN
  refine⟨some a,len,cap,N,rfl,by omega,λi=>(hN i).1,λi hi=>((hN i).2 hi).1,fun ρ=>⟨rfl,rfl,hle,λcR=>⟨a,rfl,?_,λi hi=>⟨_,Ql ks (N i),Qo _ _,Qm (hN i).1,((hN i).2 hi).2⟩⟩⟩⟩
  obtain⟨v,hv⟩:∃v,(jz ks (N 0))[0]?=some v:=⟨_,List.getElem?_eq_getElem (by rw[Qm (hN 0).1];omega)⟩
  have:=((hN 0).2 cR).2 0 v hv
  rw[Nat.zero_mul,Nat.zero_add,Mp] at this
  rcases Nat.lt_or_ge a.block w.heap.size with aG|kj
  ·exact aG
  ·simp[World.cell?,Array.getElem?_eq_none kj] at this
theorem S3 (hl:laidOutB P=true){W W':World}{SO:Nat→Bool}:∀{ts:List TypeId} {vs:List Value} {ds:List (DataW H)} {ps:List MemPlace},(∀t∈ts,P.readableRec t=true∧t<P.types.size) →
  DataW.TrodAll enc P W 0 (λ_=>true) true ts vs ds ps→(∀p∈ps,W.sameAt W' p)→(∀p∈ps,SO p.block=true)→DataW.TrodAll enc P W' 0 SO true ts vs ds ps
 |[],vs,ds,ps,hr,h,_,_=>by
  obtain⟨rfl,rfl,rfl⟩:=trodAll_nil h
  exact trodAll_mk0
 |t::ts,vs,ds,ps,hr,h,hs,hp=>by
  obtain⟨v,GH,d,NK,p,q,rfl,rfl,rfl,h1,h2⟩:=trodAll_cons h
  exact trodAll_cons_mk (WideElems.Trod_stays hl (hr t List.mem_cons_self).1 (hr t List.mem_cons_self).2 h1 (λx hx=>hs x (List.mem_append_left _ hx)) (λx hx=>hp x (List.mem_append_left _ hx)))
   (S3 hl (λt ht=>hr t (List.mem_cons_of_mem _ ht)) h2 (λx hx=>hs x (List.mem_append_right _ hx)) (λx hx=>hp x (List.mem_append_right _ hx)))
theorem LJ {W:World}{b:Nat}{sp:Nat→Bool}{held:Bool}:∀{ts:List TypeId} {vs:List Value} {ds:List (DataW H)} {ps:List MemPlace},DataW.TrodAll enc P W b sp held ts vs ds ps→∀p∈ps,p.block<W.heap.size
 |[],vs,ds,ps,h,x,hx=>by
  obtain⟨rfl,rfl,rfl⟩:=trodAll_nil h
  cases hx
 |t::ts,vs,ds,ps,h,x,hx=>by
  obtain⟨v,GH,d,NK,p,q,rfl,rfl,rfl,h1,h2⟩:=trodAll_cons h
  rcases List.mem_append.1 hx with hx|hx
  ·obtain⟨m,hm⟩:=h1
   exact DataW.trod_lt m _ _ _ hm x hx
  ·exact LJ h2 x hx
theorem S4 {W:World}{b:Nat}{sp:Nat→Bool}{held:Bool}:∀{ts:List TypeId} {vs:List Value} {ds:List (DataW H)} {ps:List MemPlace},DataW.TrodAll enc P W b sp held ts vs ds ps→ds.length=ts.length
 |[],vs,ds,ps,h=>by
  obtain⟨rfl,rfl,rfl⟩:=trodAll_nil h
  rfl
 |t::ts,vs,ds,ps,h=>by
  obtain⟨v,GH,d,NK,p,q,rfl,rfl,rfl,h1,h2⟩:=trodAll_cons h
  simp[S4 h2]
end
end Go.X
namespace Go.X
open Go
open Go.ChangeShapes Go.WideShapes Go.ChangeAt Go.RowKit
end Go.X
namespace Go.X
open Go
section
variable {X:Cx}{st:St}
theorem WI (id Tr s n:Nat)(xs:List SV)(get:Nat→List SV){ops:List Oper}{i:Nat}{o:Oper}{r:List Oper}{Q:Exit→Act→World→Prop}{K:St→Prop}{Kp:List PanicEntry→St→Prop}
  (h1:ab st.H id=some (.row Tr s n xs)) (hg:∀i,i<n→(xs.drop (i*s)).take s=get i)
  (h:eQ st λF gs H nx D=>eB X ops Q K Kp i o r ⟨F,gs,(id,.vec Tr s n get)::H,nx,D⟩):eB X ops Q K Kp i o r st:=by
 rw[eG] at h
 refine⟨fun ρ a w hm=>?_⟩
 obtain⟨nm,hn,ap⟩:=hm.hm.ok _ _ h1
 exact h.h ρ a w (hm.swap h1 rfl hn (Se ap hg) (λ_ _ _ h=>by cases h))
theorem VJ {i j s k off m:Nat}(h:i≠k)(hj:j<s)(hf:off+m≤s):i*s+j<k*s+off∨k*s+off+m≤i*s+j:=by
 rcases Nat.lt_or_gt_of_ne h with h1|h1
 ·left
  have:(i+1)*s≤k*s:=Nat.mul_le_mul_right _ h1
  rw[Nat.add_mul] at this;omega
 ·right
  have:(k+1)*s≤i*s:=Nat.mul_le_mul_right _ h1
  rw[Nat.add_mul] at this;omega
theorem oZ (id Tr s n:Nat)(k:Int)(off:Nat)(get get':Nat→List SV)(cs:List SV){v:SV}{ops:List Oper}{i:Nat}{o:Oper}{r:List Oper}{Q:Exit→Act→World→Prop}{Kn:St→Prop}{Kp:List PanicEntry→St→Prop}
  {t:TypeId} {ti:TI} {x y:Operand} (hX:X.Ok) (hC:dm X Q Kn Kp) (hi:ops.drop i=o::r) (hc:o.op=.store t x y) (hg:o.guard=none) (bz:o.dst=none) (ht:X.T t=some ti)
  (h1:ev (findF st.F) [] x=some (.se id k off)) (h2:ev (findF st.F) [] y=some v) (h3:ab st.H id=some (.vec Tr s n get)) (h4:jb v=some cs) (h5:cs.length=ti.size)
  (hk:0≤k∧k<(n:Int)) (dI:off+cs.length≤s) (jg:∀j,j<n→get' j=if j=k.toNat then iZ (get j) off cs else get j)
  (h:eQ st λF gs H nx D=>c7 X ops Q Kn Kp (i+1) r ⟨F,gs,(id,.vec Tr s n get')::H,nx,D⟩):eB X ops Q Kn Kp i o r st:=by
 rw[eG] at h
 refine kg hX hC hi (by rw[hc];intro c h;cases h) hg fun ρ a w hm=>?_
 have hs:bu a []:=λx hx=>by cases hx
 have e1:=aQ hm.fm hs h1
 have e2:=aQ hm.fm hs h2
 obtain⟨nm,hn,ap⟩:=hm.hm.ok _ _ h3
 obtain⟨us,u1,u2,u3⟩:=Ag h4 e2
 have JU:=j8 u1
 cases nm<;>simp only[ao] at ap
 ·obtain⟨rfl,rfl,rfl,rfl,rfl⟩:=ap
  omega
 rename_i b n' c s'
 obtain⟨rfl,rfl,EG,cells,c1,c2,c3⟩:=ap
 have kl:k.toNat<n':=by omega
 have vH:a.eval x=.pointer (some ⟨b,k.toNat*s'+off,none⟩):=by
  simp only[den,hn,if_pos kl,Option.some.injEq] at e1
  exact e1.symm
 have hle:k.toNat*s'+s'≤n'*s':=by
  have:(k.toNat+1)*s'≤n'*s':=Nat.mul_le_mul_right _ kl
  rw[Nat.add_mul] at this;omega
 have aeV:n'*s'≤c*s':=Nat.mul_le_mul_right _ EG.1
 have tl:=SU hX.dx ht (w:=w) (nm:=b) (off:=k.toNat*s'+off) u3 (by omega) u2 c1 (by omega)
 have cr:(execOp a.eval o).run X.P w=.ok .skip (w.setRow b (cells.take (k.toNat*s'+off)++us++cells.drop (k.toNat*s'+off+us.length)).toArray):=by
  simp only[execOp,hc,vH,Instr.storeAt,Instr.sureAddr,Sem.run_bind,Sem.run_pure,Result.andThen,tl]
 have YI:=setRow_heap w b cells.toArray (cells.take (k.toNat*s'+off)++us++cells.drop (k.toNat*s'+off+us.length)).toArray Tr (0,0) c1
 refine⟨undef,_,ρ,{ st with H:=(id,.vec Tr s' n' get')::st.H },.inr ⟨cr,rfl⟩,?_,h⟩
 have oo:a.put o.dst undef=a:=by rw[bz];rfl
 rw[oo]
 refine hm.xo (b:=b) h3 rfl hn rfl (size_setRow _ _ _) (λk' bW=>I9 _ _ _ _ bW) ?_ rfl (λ_ _ _ h=>by cases h)
 refine⟨rfl,rfl,EG,_,YI,?_,λj hj=>?_⟩
 ·simp only[List.length_append,List.length_take,List.length_drop];omega
 ·obtain⟨vs,d1,d2,d3,d4⟩:=c3 j hj
  have aeU:j*s'+s'≤n'*s':=by
   have:(j+1)*s'≤n'*s':=Nat.mul_le_mul_right _ hj
   rw[Nat.add_mul] at this;omega
  have hgl:=j8 d1
  rw[jg j hj]
  by_cases EO:j=k.toNat
  ·rw[if_pos EO]
   refine⟨_,Ao d1 u1 off (by omega),?_,?_,λq v' dU=>?_⟩
   ·rw[List.all_eq_true] at d2 u2 ⊢
    intro z hz
    simp only[List.mem_append] at hz
    rcases hz with(hz|hz)|hz
    ·exact d2 z (List.mem_of_mem_take hz)
    ·exact u2 z hz
    ·exact d2 z (List.mem_of_mem_drop hz)
   ·simp only[List.length_append,List.length_take,List.length_drop];omega
   ·have hql:q<s':=by
     have:=iI dU
     simp only[List.length_append,List.length_take,List.length_drop] at this;omega
    rw[←EO]
    rcases Nat.lt_or_ge q off with hq|hq
    ·rw[List.append_assoc,List.getElem?_append_left (by simp;omega),List.getElem?_take,if_pos hq] at dU
     rw[List.append_assoc,List.getElem?_append_left (by simp;omega),List.getElem?_take,if_pos (by omega)]
     exact d4 q v' dU
    ·rcases Nat.lt_or_ge q (off+us.length) with tg|tg
     ·rw[List.getElem?_append_left (by simp;omega),List.getElem?_append_right (by simp;omega)] at dU
      rw[List.getElem?_append_left (by simp;omega),List.getElem?_append_right (by simp;omega)]
      simp only[List.length_take] at dU ⊢
      rw[←dU]
      congr 1
      omega
     ·rw[List.getElem?_append_right (by simp;omega),List.getElem?_drop] at dU
      rw[List.getElem?_append_right (by simp;omega),List.getElem?_drop]
      simp only[List.length_append,List.length_take] at dU ⊢
      have:=d4 q v' (by rw[←dU];congr 1;omega)
      rw[←this]
      congr 1
      omega
  ·rw[if_neg EO]
   refine⟨vs,d1,d2,d3,λq v' dU=>?_⟩
   have hq:=iI dU
   have:=d4 q v' dU
   rcases VJ (i:=j) (j:=q) (s:=s') (k:=k.toNat) (off:=off) (m:=us.length) EO (by omega) (by omega) with h6|h6
   ·rw[List.append_assoc,List.getElem?_append_left (by simp;omega),List.getElem?_take,if_pos h6]
    exact this
   ·rw[List.getElem?_append_right (by simp;omega),List.getElem?_drop]
    simp only[List.length_append,List.length_take]
    rw[←this]
    congr 1
    omega
theorem vS (bI oE m:Nat)(aH:Nat→List SV){ops:List Oper}{i:Nat}{o:Oper}{r:List Oper}{Q:Exit→Act→World→Prop}{Kn:St→Prop}{Kp:List PanicEntry→St→Prop}
  {t e:TypeId} {ti te:TI} {s x:Operand} {c:Call} {d:Nat} (hX:X.Ok) (hC:dm X Q Kn Kp) (hi:ops.drop i=o::r)
  (hc:o.op=.call c) (bi:c.callee=.builtin .append) (lr:c.args=#[s,x]) (gG:c.argTypes=#[t,t]) (hg:o.guard=none) (bz:o.dst=some d) (hp:eF st.gs X.nt (some d)=false)
  (ht:X.T t=some ti) (hd:ti.desc=.slice e) (ff:X.T e=some te) (yI:te.zero.cells.size=te.size) (cR:0<te.size) (sS:te.bytes≤1000)
  (h1:ev (findF st.F) [] s=some (.sl bI)) (h2:ev (findF st.F) [] x=some (.sl oE)) (h3:ab st.H bI=some (.row e te.size 0 [])) (h4:cn te.size (ab st.H) oE=some (m,aH)) (aV:bI≠oE)
  (oh:m≤1000000)
  (h:eQ st λF gs H nx D=>fa (nx+1) λaA=>c7 X ops Q Kn Kp (i+1) r ⟨(d,⟨[],.sl nx⟩)::F,gs,(nx,.vec e te.size m aH)::(bI,.dead)::(bI,.vec e te.size 0 aH)::H,aA,D⟩):eB X ops Q Kn Kp i o r st:=by
 rw[eG] at h
 refine WI bI e te.size 0 [] aH h3 (λi hi=>absurd hi (by omega)) ?_
 rw[eG]
 refine mQ (Te:=0) bI oE 0 m aH aH aH hX hC hi hc bi lr gG hg bz hp ht hd ff yI cR sS h1 h2 (by simp[ab]) ?_ (by omega) (λi hi=>by simp) ?_
 ·have:ab ((bI,HB.vec e te.size 0 aH)::st.H) oE=ab st.H oE:=by rw[ba,aR _ _ aV]
  unfold cn at h4 ⊢
  rw[this];exact h4
 ·rw[eG,Nat.zero_add]
  exact h
end
def pS:GP→GP→Bool
 |[],_=>true
 |(s,w)::r,π=>(match rJ π s w with
  |true=>pS r π
  |false=>false)
where rJ:GP→Nat→Bool→Bool
 |[],_,_=>false
 |(t,v)::r,s,w=>match Nat.beq t s,v == w with
  |true,true=>true
  |_,_=>rJ r s w
theorem Rg:∀{π:GP} {s:Nat} {w:Bool},pS.rJ π s w=true→(s,w)∈π
 |(t,v)::r,s,w,h=>by
  simp only[pS.rJ] at h
  split at h
  ·rename_i h1 h2
   have h1:t=s:=by simpa using h1
   have h2:v=w:=by simpa using h2
   subst h1;subst h2
   exact List.mem_cons_self
  ·exact List.mem_cons_of_mem _ (Rg h)
theorem GA:∀{σ π:GP},pS σ π=true→∀x∈σ,x∈π
 |(s,w)::r,π,h,x,hx=>by
  simp only[pS] at h
  split at h
  ·rename_i h1
   rcases List.mem_cons.1 hx with rfl|hx
   ·exact Rg h1
   ·exact GA h x hx
  ·cases h
def Gj (F:LF):GP→Prop
 |[]=>True
 |(s,w)::r=>Gj F r∧match F s with
  |some ⟨gp,.sb q⟩=>pS gp r=true∧q=w
  |_=>False
theorem Gl {ρ:Env}{F:LF}{a:Act}(hF:FM ρ F a):∀{π:GP},Gj F π→bu a π
 |[],_=>λx hx=>by cases hx
 |(s,w)::r,h=>by
  obtain⟨h1,h2⟩:=h
  have hr:=Gl hF h1
  split at h2
  ·rename_i gp q e
   obtain⟨h3,rfl⟩:=h2
   obtain⟨v,h4,h5⟩:=(hF s _ e).1 (λx hx=>hr x (GA h3 x hx))
   simp only[den,Option.some.injEq] at h5
   subst h5
   intro x hx
   rcases List.mem_cons.1 hx with rfl|hx
   ·exact h4
   ·exact hr x hx
  ·exact h2.elim
section
variable {X:Cx}{st:St}{F:Fence}{n:Nat}{P:Program}{Q:Exit→Act→World→Prop}
theorem aeK {ops:List Oper}{i:Nat}{o o':Oper}(ho:ops[i]?=some o)(hd:o'.dst=o.dst)(tmps:Array Value):yielded (ops.set i o').toArray tmps=yielded ops.toArray tmps:=by
 funext j
 simp only[yielded,List.getElem?_toArray,List.getElem?_set]
 by_cases h:i=j
 ·subst h
  have aG:i<ops.length:=by
   rcases Nat.lt_or_ge i ops.length with h|h
   ·exact h
   ·rw[List.getElem?_eq_none h] at ho;cases ho
  simp only[if_true,aG,ho,Option.bind_some,hd]
 ·simp only[h,if_false]
theorem Tz {ops:List Oper}{i:Nat}{o o':Oper}(ho:ops[i]?=some o)(hd:o'.dst=o.dst):∀(l:List Nat) (a:Act) (w:World),(∀k∈l,k≠i) →
  wpOpsIn F n P (ops.set i o').toArray Q l a w→wpOpsIn F n P ops.toArray Q l a w
 |[],a,w,_,h=>h
 |k::l,a,w,hk,h=>by
  have aV:¬i=k:=λe=>hk k List.mem_cons_self e.symm
  have ih:=λa w=>Tz ho hd l a w (λk bW=>hk k (List.mem_cons_of_mem _ bW))
  have e1:(ops.set i o').toArray[k]?=ops.toArray[k]?:=by simp only[List.getElem?_toArray,List.getElem?_set,aV,if_false]
  simp only[wpOpsIn] at h ⊢
  rw[e1] at h
  split at h
  ·exact ih _ _ h
  ·rename_i ae8 e
   rw[aeK ho hd] at h
   split at h
   ·rename_i hw
    rw[if_pos hw]
    exact Oper.wpIn_mono (λa w h=>ih a w h) h
   ·rename_i hw
    rw[if_neg hw]
    exact⟨h.1,ih _ _ h.2⟩
theorem N9 {X:Cx}{st:St}(hX:X.Ok){ops:List Oper}{i:Nat}{o:Oper}{r:List Oper}{Q:Exit→Act→World→Prop}{K:St→Prop}{Kp:List PanicEntry→St→Prop}(hC:dm X Q K Kp)(hi:ops.drop i=o::r)
  (h:c7 X ops Q K Kp i (o::r) st):eB X ops Q K Kp i o r st:=by
 refine⟨fun ρ a w hm=>?_⟩
 exact kf hX hC.k hC.p (o::r) i ρ st a w hi h hm
def xl (π:GP):List (Nat × FE)→List (Nat × FE)
 |[]=>[]
 |(t,⟨gp,v⟩)::r=>match pS gp π with
  |true=>(t,⟨[],v⟩)::xl π r
  |false=>(t,⟨gp,v⟩)::xl π r
def AI (π:GP):List (Nat × FE)→(List (Nat × FE)→Prop)→Prop
 |[],K=>K []
 |(t,⟨gp,v⟩)::r,K=>match pS gp π with
  |true=>AI π r λr'=>K ((t,⟨[],v⟩)::r')
  |false=>AI π r λr'=>K ((t,⟨gp,v⟩)::r')
theorem N5 (π:GP):∀(F:List (Nat × FE)) (K:List (Nat × FE)→Prop),AI π F K=K (xl π F)
 |[],K=>rfl
 |(t,⟨gp,v⟩)::r,K=>by
  simp only[AI,xl]
  cases pS gp π<;>simp only[N5 π r]
theorem Gx {π:GP}:∀{F:List (Nat × FE)} {t:Nat} {e:FE},findF (xl π F) t=some e→∃gp,findF F t=some ⟨gp,e.v⟩∧(e.gp=gp∨e.gp=[]∧pS gp π=true)
 |(s,⟨gp,v⟩)::r,t,e,h=>by
  simp only[xl] at h
  cases hs:pS gp π with
  |true =>
   rw[hs] at h
   simp only[findF] at h ⊢
   split at h
   ·rename_i e1
    cases h
    rw[if_pos e1]
    exact⟨gp,rfl,.inr ⟨rfl,hs⟩⟩
   ·rename_i e1
    rw[if_neg e1]
    exact Gx h
  |false =>
   rw[hs] at h
   simp only[findF] at h ⊢
   split at h
   ·rename_i e1
    cases h
    rw[if_pos e1]
    exact⟨gp,rfl,.inl rfl⟩
   ·rename_i e1
    rw[if_neg e1]
    exact Gx h
theorem Mod.ady {X:Cx}{st:St}{ρ:Env}{a:Act}{w:World}{π:GP}(hm:Mod X ρ st a w)(hs:bu a π):Mod X ρ { st with F:=xl π st.F } a w where
 fm t e hf:=by
  obtain⟨gp,h1,h2⟩:=Gx hf
  have h3:=hm.fm t _ h1
  rcases h2 with h2|⟨h2,h4⟩
  ·rw[h2];exact h3
  ·rw[h2]
   exact⟨λ_=>h3.1 (λx hx=>hs x (GA h4 x hx)),λh=>absurd (λx hx=>by cases hx) h⟩
 gs t e hf x hx:=by
  obtain⟨gp,h1,h2⟩:=Gx hf
  rcases h2 with h2|⟨h2,h4⟩
  ·rw[h2] at hx;exact hm.gs t _ h1 x hx
  ·rw[h2] at hx;cases hx
 df:=hm.df
 hm:=hm.hm
 kp:=hm.kp
 nx:=hm.nx
 sz:=hm.sz
theorem AN {X:Cx}{st:St}{π:GP}{ops:List Oper}{i:Nat}{o:Oper}{r:List Oper}{Q:Exit→Act→World→Prop}{K:St→Prop}{Kp:List PanicEntry→St→Prop}(hi:ops.drop i=o::r)
  (hg:guardOf ops (findF st.F) o.guard=some π) (hs:Gj (findF st.F) π)
  (h:eQ st λF gs H nx D=>AI π F λF'=>eB X (ops.set i { o with guard:=none }) Q K Kp i { o with guard:=none } r ⟨F',gs,H,nx,D⟩):eB X ops Q K Kp i o r st:=by
 rw[eG,N5] at h
 refine⟨fun ρ a w hm=>?_⟩
 have ho:ops[i]?=some o:=by
  have:=congrArg (λl=>l[0]?) hi
  simpa using this
 have aG:i<ops.length:=by
  rcases Nat.lt_or_ge i ops.length with h|h
  ·exact h
  ·rw[List.getElem?_eq_none h] at ho;cases ho
 have h1:=h.h ρ a w (hm.ady (Gl hm.fm hs))
 have hw:=(Eu hm.fm hg).2 (Gl hm.fm hs)
 rw[List.range'_succ] at h1 ⊢
 have e1:(ops.set i { o with guard:=none }).toArray[i]?=some { o with guard:=none }:=by
  simp only[List.getElem?_toArray,List.getElem?_set,if_true,aG]
 simp only[wpOpsIn,e1] at h1
 rw[if_pos (jS rfl _)] at h1
 refine wpOps_cons (by simpa using ho) (λ_=>?_) (λhf=>by rw[hw] at hf;cases hf)
 have h2:Oper.wpIn (FW X.r) 0 X.P o a w (wpOpsIn (FW X.r) 0 X.P (ops.set i { o with guard:=none }).toArray Q (List.range' (i+1) r.length)) Q:=h1
 exact Oper.wpIn_mono (λa w h=>Tz (o':={ o with guard:=none }) ho rfl _ a w (λk hk=>by have:=(List.mem_range'_1.1 hk).1;omega) h) h2
theorem Ik (s:Nat)(w:Bool){X:Cx}{st:St}{π gp:GP}{q:Bool}{d:Nat}{ops:List Oper}{i:Nat}{o:Oper}{r:List Oper}{Q:Exit→Act→World→Prop}{K:St→Prop}{Kp:List PanicEntry→St→Prop}(hX:X.Ok)
  (hC:dm X Q K Kp) (hi:ops.drop i=o::r) (hg:guardOf ops (findF st.F) o.guard=some π) (bz:o.dst=some d) (hp:eF st.gs X.nt (some d)=false) (ki:findF st.F d=none)
  (hm:pS [(s,w)] π=true) (hf:findF st.F s=some ⟨gp,.sb q⟩) (hs:Gj (findF st.F) gp) (hq:q = !w)
  (h:eQ st λF gs H nx D=>vP π fun qT=>vQ (o_ π gs) λjt=>c7 X ops Q K Kp (i+1) r ⟨(d,⟨qT,.sb false⟩)::F,jt,H,nx,D⟩):eB X ops Q K Kp i o r st:=by
 refine⟨fun ρ a w' cL=>?_⟩
 have ho:ops[i]?=some o:=by
  have:=congrArg (λl=>l[0]?) hi
  simpa using this
 have eu:ops.drop (i+1)=r:=by
  have:=congrArg List.tail hi
  simpa using this
 have s8:¬bu a π:=by
  intro eE
  have h1:=eE (s,w) (GA hm _ List.mem_cons_self)
  obtain⟨v,h2,h3⟩:=(cL.fm s _ hf).1 (Gl cL.fm hs)
  simp only[den,Option.some.injEq] at h3
  subst h3
  rw[h2,hq] at h1
  cases w<;>cases h1
 have hw:Region.wanted o (yielded ops.toArray a.tmps)=false:=by
  cases e:Region.wanted o (yielded ops.toArray a.tmps) with
  |false=>rfl
  |true=>exact absurd ((Eu cL.fm hg).1 e) s8
 obtain⟨py,gV⟩:=za hp
 have aV:=IH hg cL.gs ki gV
 rw[eG,D7,D9] at h
 rw[List.range'_succ]
 refine wpOps_cons (by simpa using ho) (λhf=>by rw[hw] at hf;cases hf) (λ_=>?_)
 rw[bz]
 exact kf hX hC.k hC.p r (i+1) ρ _ _ w' eu h (cL.CE hp aV (λh=>absurd h s8) (λ_=>rfl))
end
section
variable {X:Cx}{st:St}{ρ:Env}{a:Act}{w:World}
def Cc:List fE→List (Nat × HB)→Option (List (Nat × HB) × List fE)
 |[],H=>some (H,[])
 |(f,args)::r,H=>match Nat.beq f 1000000 with
  |false=>some (H,(f,args)::r)
  |true=>(match args with
   |[.sp id 0]=>(match ab H id with
    |some .eh=>Cc r ((id,.dead)::H)
    |_=>none)
   |_=>none)
theorem QO {P:Program}{fn:Func}{R:Ending→World→Prop}{u:FrameMode}(hu:u≠.run){F:List (Nat × FE)}{gs:List Nat}{nx:Nat}{H':List (Nat × HB)}{D':List fE}:∀{D:List fE} {H:List (Nat × HB)} {a:Act} {w:World},
  Cc D H=some (H',D')→Mod X ρ ⟨F,gs,H,nx,D⟩ a w→(∀a' iJ,a'.tmps=a.tmps→Mod X ρ ⟨F,gs,H',nx,D'⟩ a' iJ→LeavesInM Fence.wide 0 P fn a.tmps R a'.defers u iJ) →
  LeavesInM Fence.wide 0 P fn a.tmps R a.defers u w
 |[],H,a,w,hk,hm,iq=>by
  simp only[Cc] at hk;cases hk
  exact iq a w rfl hm
 |(f,args)::r,H,a,w,hk,hm,iq=>by
  simp only[Cc] at hk
  split at hk
  ·cases hk
   exact iq a w rfl hm
  ·rename_i e1
   split at hk
   ·rename_i id
    split at hk
    ·rename_i e2
     have fU:=hm.df
     cases mW:a.defers with
     |nil=>rw[mW] at fU;exact fU.elim
     |cons d ds =>
      rw[mW] at fU
      obtain⟨⟨aM,h1,h2⟩,h3⟩:=fU
      obtain⟨v,vs,g1,g2,rfl⟩:=jP h1
      simp only[ai,Option.some.injEq] at g2
      subst g2
      obtain⟨b,hb,rfl⟩:=nX g1
      have hd:d={ target:=.collected b,args:=#[] }:=by rw[h2];simp only[uU,e1]
      obtain⟨nm,k1,k2⟩:=hm.hm.ok _ _ e2
      rw[hb] at k1;cases k1
      refine⟨hu,.inl ⟨b,_,by rw[hd],run_takeDeferred (P:=P) k2,?_⟩⟩
      have ck:=hm.Kq (w':=w.putObj b (.deferred none)) e2 rfl hb rfl World.putObj_size (λk hk=>World.putObj_heap_other hk)
      have cI:Mod X ρ ⟨F,gs,(id,.dead)::H,nx,r⟩ { a with defers:=ds } (w.putObj b (.deferred none)):={
       fm:=ck.fm,gs:=ck.gs,df:=h3,hm:=ck.hm,kp:=ck.kp,nx:=ck.nx,sz:=ck.sz }
      exact QO hu (a:={ a with defers:=ds }) hk cI (λa' iJ q1 q3=>iq a' iJ q1 q3)
    ·cases hk
   ·cases hk
def Db (X:Cx)(n cG aL:Nat)(rs:List ResultVar)(Rv:SV→St→Prop)(e:Ex)(st:St):Prop :=
 match Cc st.D st.H with
 |some (H',D')=>zA X n cG aL rs Rv e ⟨st.F,st.gs,H',st.nx,D'⟩
 |none=>False
theorem Vt (hX:X.Ok)(hr:X.r=none){n cG aL:Nat}(hA:r8 X.P n cG aL){f:Nat}{fn:Func}{c:Code}(hf:X.P.funcs[f]?=some fn)(hb:fn.body=some c)(qx:fn.ntmps=X.nt)
  {args:List SV} {aM:List Value} {H:List (Nat × HB)} {nx:Nat} (hd:ai ρ args=some aM) (hlen:args.length≤X.nt) (hH:HM ρ (ab H) w)
  (hG:X.G=⟨w,Own ρ (ab H),ρ,Fz (ab H)⟩) (aU:∀j,nx≤j→ρ j=none) {Rv:SV→St→Prop}
  (h:exec X c (start args H nx) (Db X n cG aL fn.results.toList Rv)):Calls X.P f aM.toArray w (jL X Rv λ_ _=>False):=by
 refine(callsIn_wide (n:=0)).1 ?_
 have hm:=zo (X:=X) hd hlen hH hG aU
 have hw:=cW hX c _ _ h ρ _ w hm
 rw[hr] at hw
 refine callsIn_of_wp_marks (F:=Fence.wide) hf hb trivial (wpIn_mono (by rw[qx];exact hw) ?_)
 rintro e nN C7 ⟨x,jk,ρ',rfl,wJ,qu⟩
 unfold Db at qu
 split at qu
 case h_2=>exact qu.elim
 rename_i H' D' Jn
 have fV:∀u,u≠FrameMode.run→(∀a' iJ,a'.tmps=nN.tmps→Mod X ρ' ⟨jk.F,jk.gs,H',jk.nx,D'⟩ a' iJ→LeavesInM Fence.wide 0 X.P fn nN.tmps (jL X Rv λ_ _=>False) a'.defers u iJ) →
   LeavesInM Fence.wide 0 X.P fn nN.tmps (jL X Rv λ_ _=>False) nN.defers u C7:=λu hu hf=>QO (X:=X) (F:=jk.F) (gs:=jk.gs) (nx:=jk.nx) hu Jn (by cases jk;exact wJ) hf
 obtain⟨af,wN⟩:∃af:St,(⟨jk.F,jk.gs,H',jk.nx,D'⟩:St)=af:=⟨_,rfl⟩
 rw[wN] at qu
 have hk:=qu
 have mZ:(vM n aL af λ_=>(match h_ X af fn.results.toList with
   |some l=>eT l λl'=>Rv (jW l') af
   |none=>False))→LeavesInM Fence.wide 0 X.P fn nN.tmps (jL X Rv λ_ _=>False) nN.defers .returning C7:=by
  intro hk
  refine fV _ (by intro h;cases h) λa' w' jv an=>?_
  rw[wN] at an
  rw[←jv]
  obtain⟨id,y,hD,kX,gu,hk⟩:=D4 hk
  obtain⟨b,u,g1,g2,g0,g3⟩:=DS an hD kX gu
  rw[g1]
  refine⟨(by intro h;cases h),.inr ⟨(by intro h;cases h),_,_,_,_,rfl,hA.body _ _,(λg _=>trivial),?_⟩⟩
  refine(hA.ret w' b u g0 g3).mono ?_
  rintro e u' jl ⟨⟨v,rfl⟩,rfl,hs,bA,bD⟩
  have fv:Mod X ρ' af a' jl:={ an with hm:=an.hm.world hs bA,kp:=an.kp.world hs bA bD }
  split at hk
  ·rename_i l e1
   rw[gn] at hk
   obtain⟨u,h1,h2⟩:=qK hX fv e1
   exact⟨u,h1,.inl ⟨_,af,ρ',u,rfl,h2,fv.mh,hk⟩⟩
  ·exact hk.elim
 cases x with
 |normal=>exact mZ hk
 |ret=>exact mZ hk
 |panic ch =>
  obtain⟨id,y,hD,kX,gu,hk⟩:=D4 hk
  obtain⟨k,m,rfl,eM⟩:=Qs hk
  refine fV _ (by intro h;cases h) λa' w' jv an=>?_
  rw[wN] at an
  rw[←jv]
  obtain⟨b,u,g1,g2,g0,g3⟩:=DS an hD kX gu
  rw[g1]
  refine⟨(by intro h;cases h),.inr ⟨(by intro h;cases h),_,_,_,_,rfl,hA.body _ _,(λg _=>trivial),?_⟩⟩
  refine(hA.bL w' b u k m g0 g3).mono ?_
  rintro e u' jl ⟨⟨v,rfl⟩,rfl,hs,bA,aI,bD⟩
  obtain⟨F,gs,H,nx,D⟩:=af
  have fv:Mod X ρ' ⟨F,gs,(id,.cells aL [.si k m])::H,nx,D⟩ a' jl:={
   fm:=an.fm
   gs:=an.gs
   df:=an.df
   hm:=an.hm.put kX rfl g2 rfl hs bA (by exact⟨[.int k m],by simp[ai,den],by simp[Value.oneCell'],aI⟩) rfl (λ_ _ _ h=>by cases h)
   kp:=an.kp.put kX rfl g2 rfl hs bA bD
   nx:=an.nx
   sz:=an.sz }
  simp only at eM
  split at eM
  ·rename_i l e1
   rw[gn] at eM
   obtain⟨u,h1,h2⟩:=qK hX fv e1
   exact⟨u,h1,.inl ⟨_,_,ρ',u,rfl,h2,fv.mh,eM⟩⟩
  ·exact eM.elim
 |exit n=>exact hk.elim
def Mk (P:Program)(T:cf)(C:Nat→Option Ct)(n cG aL:Nat)(fn:Func)(c:Code)(H:LH)(args:List SV)(fr:Nat)(out:cJ):Prop :=
 ∃(ps:List (Nat × HB)) (dR:List SV) (dJ:List (Nat × HB)) (fh:Nat) (K:List Nat),args=cX (nz ps) dR∧eU ps.length [] dR=true∧dR.length≤fn.ntmps∧Hand H ps∧dJ=kA 0 ps∧fh=ps.length ∧
  ∀G:cp,(∀j,fh≤j→G.ρ j=none)→exec ⟨P,T,C,G,none,fn.ntmps⟩ c (start dR dJ fh) (Db ⟨P,T,C,G,none,fn.ntmps⟩ n cG aL fn.results.toList
   (λv st=>(out.bL=none∨∃ch,out.bL=some (false,ch))∧pZ ps K fr out v st))
theorem VM {P:Program}{T:cf}{C:Nat→Option Ct}(hX:∀G r nt,(⟨P,T,C,G,r,nt⟩:Cx).Ok){n cG aL:Nat}(hA:r8 P n cG aL){f:Nat}{fn:Func}{c:Code}(hf:P.funcs[f]?=some fn)(hb:fn.body=some c){ct:Ct}
  (h:∀fr args H out,ct fr args H=some out→fc out.pre→Mk P T C n cG aL fn c H args fr out):aP P f ct :=
 x7 (nt:=fn.ntmps) λfr args H out h1 h2=>by
  obtain⟨ps,dR,dJ,fh,K,h1,h2,h3,h4,h5,h6,hex⟩:=h fr args H out h1 h2
  refine⟨ps,dR,dJ,fh,K,h1,h2,h3,h4,h5,h6,fun ρ w aM hd hm aU=>?_⟩
  exact(Vt (X:=⟨P,T,C,⟨w,Own ρ (ab dJ),ρ,Fz (ab dJ)⟩,none,fn.ntmps⟩) (hX _ _ _) rfl hA hf hb rfl hd h3 hm rfl aU (hex _ aU)).mono λe w' he=>he.mono (λ_ _ h=>h) (λ_ _ h=>h.elim)
end
theorem HA {P:Program}{T:cf}{C:Nat→Option Ct}(hX:∀G r nt,(⟨P,T,C,G,r,nt⟩:Cx).Ok){n:Nat}{fn:Func}{c:Code}(hf:P.funcs[n]?=some fn)(hb:fn.body=some c)
  {l:List SV} (hlen:l.length≤fn.ntmps) {H:List (Nat × HB)} {nx:Nat} {Rv:SV→List (Nat × HB)→Nat→Prop} {Rp:List PanicEntry→List (Nat × HB)→Nat→Prop}
  (h:∀G:cp,(∀j,nx≤j→G.ρ j=none)→exec ⟨P,T,C,G,none,fn.ntmps⟩ c (start l H nx) (zB ⟨P,T,C,G,none,fn.ntmps⟩ fn.results.toList (λv st=>Rv v st.H st.nx) (λch st=>Rp ch st.H st.nx))) :
  bG P n l H nx Rv Rp:=by
 intro ρ w aM hm aU hd
 have gr:=Nc (X:=⟨P,T,C,⟨w,Own ρ (ab H),ρ,Fz (ab H)⟩,none,fn.ntmps⟩) (hX _ _ _) rfl hf hb rfl hd hlen hm rfl aU (λx _=>by cases x with|tmp t=>exact⟨t,.inl rfl⟩|cell t ty=>exact⟨t,.inr ⟨ty,rfl⟩⟩) (h _ aU)
 refine gr.mono ?_
 rintro e w' (⟨v,st,ρ',u,rfl,hv,dc,hr⟩|⟨ch,st,ρ',rfl,dc,hr⟩)
 ·exact .inl ⟨v,st.H,st.nx,ρ',u,rfl,hv,dc.hm,dc.kp,dc.nx,hr⟩
 ·exact .inr ⟨ch,st.H,st.nx,ρ',rfl,dc.hm,dc.kp,dc.nx,hr⟩
def Mv (p:Nat→SV→Prop):List (Nat × SV)→Prop
 |[]=>True
 |(t,v)::r=>p t v∧Mv p r
theorem bh {p:Nat→SV→Prop}:∀{l:List (Nat × SV)},Mv p l→∀t v,gq l t=some v→p t v
 |[],_,t,v,h=>by cases h
 |(s,u)::r,ha,t,v,h=>by
  simp only[gq] at h
  split at h
  ·rename_i e
   have e:s=t:=by simpa using e
   subst e;cases h
   exact ha.1
  ·exact bh ha.2 t v h
def Dp (p:Nat→HB→Prop):List (Nat × HB)→Prop
 |[]=>True
 |(c,h)::r=>p c h∧Dp p r
theorem zJ {p:Nat→HB→Prop}:∀{l:List (Nat × HB)},Dp p l→∀(j c:Nat) (h:HB),l[j]?=some (c,h)→p c h
 |(c',h')::r,ha,0,c,h,hj=>by simp at hj;obtain⟨rfl,rfl⟩:=hj;exact ha.1
 |(c',h')::r,ha,j+1,c,h,hj=>zJ ha.2 j c h (by simpa using hj)
def uZ:HB→Option Nat
 |.cells T _=>some T
 |.map _ _=>some 1000000
 |_=>none
def yV (T:Nat):List (Nat × HB)→Bool
 |[]=>true
 |(_,h)::r=>(match uZ h with
  |some U=>(match Nat.beq T U with
   |true=>false
   |false=>yV T r)
  |none=>yV T r)
def yb:List (Nat × HB)→Bool
 |[]=>true
 |(_,h)::r=>(match uZ h with
  |some T=>(match yV T r with
   |true=>yb r
   |false=>false)
  |none=>yb r)
theorem Rw:∀{T:Nat} {l:List (Nat × HB)},yV T l=true→∀(j c:Nat) (h:HB),l[j]?=some (c,h)→uZ h≠some T
 |T,(c',h')::r,hn,j,c,h,hj=>by
  simp only[yV] at hn
  have key:yV T r=true∧uZ h'≠some T:=by
   split at hn
   ·rename_i U e
    split at hn
    ·cases hn
    ·rename_i e2
     refine⟨hn,λe3=>?_⟩
     rw[e] at e3;cases e3
     simp at e2
   ·rename_i e
    exact⟨hn,by rw[e];intro h;cases h⟩
  cases j with
  |zero=>simp at hj;obtain⟨rfl,rfl⟩:=hj;exact key.2
  |succ j=>exact Rw key.1 j c h (by simpa using hj)
theorem HR:∀{l:List (Nat × HB)},yb l=true→∀(i j c c':Nat) (h h':HB) (T:Nat),i<j→l[i]?=some (c,h)→l[j]?=some (c',h')→uZ h=some T→uZ h'≠some T
 |(c₀,Qf)::r,hd,i,j,c,c',h,h',T,Jm,hi,hj,ho=>by
  simp only[yb] at hd
  cases j with
  |zero=>omega
  |succ j =>
   have hj:r[j]?=some (c',h'):=by simpa using hj
   cases i with
   |zero =>
    simp at hi;obtain⟨rfl,rfl⟩:=hi
    rw[ho] at hd
    dsimp only at hd
    split at hd
    ·rename_i e;exact Rw e j c' h' hj
    ·cases hd
   |succ i =>
    have hi:r[i]?=some (c,h):=by simpa using hi
    have eu:yb r=true:=by
     split at hd
     ·split at hd
      ·exact hd
      ·cases hd
     ·exact hd
    exact HR eu i j c c' h h' T (by omega) hi hj ho
theorem abN {H:LH}{s:Nat→Nat}{c:Nat}{h h':HB}(k:qX H s c h)(k':qX H s c h')(o:qG h=true)(o':qG h'=true):∃T,uZ h=some T∧uZ h'=some T:=by
 cases h<;>cases o<;>cases h'<;>cases o'
 ·rename_i T cs T' cs'
  have k:H c=some (.cells T (cX s cs)):=k
  have k':H c=some (.cells T' (cX s cs')):=k'
  rw[k] at k'
  simp only[Option.some.injEq,HB.cells.injEq] at k'
  exact⟨T,rfl,by rw[k'.1];rfl⟩
 ·have k:H c=_:=k
  have k':H c=_:=k'
  rw[k] at k'
  cases k'
 ·have k:H c=_:=k
  have k':H c=_:=k'
  rw[k] at k'
  cases k'
 ·exact⟨_,rfl,rfl⟩
theorem uq {H:LH}{ps:List (Nat × HB)}(h1:Dp (λc h=>qX H (nz ps) c h) ps)(h2:Dp (λ_ h=>L6 (λi=>i<ps.length) h) ps)(h3:yb ps=true):Hand H ps where
 ok:=zJ h1
 ids:=zJ h2
 inj i j c hb hb' e1 e2 o1 o2:=by
  obtain⟨T,t1,t2⟩:=abN (zJ h1 i c hb e1) (zJ h1 j c hb' e2) o1 o2
  rcases Nat.lt_trichotomy i j with h|h|h
  ·exact absurd t2 (HR h3 i j c c hb hb' T h e1 e2 t1)
  ·exact h
  ·exact absurd t1 (HR h3 j i c c hb' hb T h e2 e1 t2)
theorem o6 {a:Nat}{x:HB}{l:List (Nat × HB)}{t:Nat}(h:a≠t):ab ((a,x)::l) t=ab l t:=by
 rw[ba,aR _ _ h]
theorem WO {A B:List (Nat × HB)}{t:Nat}:ab (A++B) t=match ab A t with
  |some x=>some x
  |none=>ab B t:=by
 induction A with
 |nil=>rfl
 |cons p r ih =>
  obtain⟨a,x⟩:=p
  rw[List.cons_append]
  by_cases h:a=t
  ·subst h;rw[ba,cP,ba,cP]
  ·rw[o6 h,o6 h];exact ih
section
variable {s s':Nat→Nat}{n n':Nat}
end
theorem MB {t:Nat}:∀(H:List (Nat × HB)),vr (λj=>j) t H=true
 |[]=>rfl
 |(j,_)::r=>by
  simp only[vr]
  cases Nat.beq t j<;>simp only[MB r]
theorem bJ:∀(H:List (Nat × HB)),tp (λj=>j) H=true
 |[]=>rfl
 |(t,_)::r=>by simp only[tp,MB,bJ r]
section
variable {X:Cx}{st:St}{ρ:Env}{a:Act}{w:World}
end
def vo (X:Cx)(K:Ex→St→Prop):Exit→Act→World→Prop:=λe a w=>match e with
 |.panic _=>False
 |e=>sf X K e a w
structure ie (X:Cx) (ops:Array Oper) (fuel:Nat) (listed:Array Bool) (st:St) (K:Ex→St→Prop):Prop where
 h:∀ρ a w,Mod X ρ st a w→wpAnyIn (FW X.r) 0 X.P .any ops (vo X K) fuel listed a w
theorem lT {X:Cx}{st:St}{K:Ex→St→Prop}{id:Nat}{ops:Array Oper}(hm:X.P.follows .mixedOrders=true)(h:ie X ops ops.size (Array.replicate ops.size false) st K):aX X (.region id ops true) st K:=by
 intro ρ a w cL
 have wI:Mod X ρ st a { w with drawn:=w.drawn+1 }:={
  fm:=cL.fm,gs:=cL.gs,df:=cL.df,hm:=cL.hm.world (Nat.le_refl _) (λ_ _=>rfl),kp:=cL.kp.world (Nat.le_refl _) (λ_ _=>rfl),nx:=cL.nx,sz:=cL.sz }
 refine wpIn_mono (Q:=vo X K) (wpIn_region_any hm (h.h ρ a _ wI)) ?_
 intro e a' w' hq
 cases e<;>first|exact hq|exact hq.elim
theorem j6 {X:Cx}{st:St}{K:Ex→St→Prop}{ops:Array Oper}{fuel:Nat}{listed:Array Bool}(hr:Region.ready .any ops listed=[])(h:K .normal st):ie X ops fuel listed st K :=
 ⟨fun ρ a w hm=>wpAnyIn_done hr ⟨.normal,st,ρ,rfl,hm,h⟩ fuel⟩
theorem ef {X:Cx}{st:St}{K:Ex→St→Prop}(i:Nat){d:Nat}{o:Oper}{pre:Option Prop}{v:SV}{ops:Array Oper}{fuel:Nat}{listed:Array Bool}(hX:X.Ok)(hr:X.r=none)(ho:ops[i]?=some o)(hd:o.dst=some d)(hg:o.guard=none)
  (hc:core X.T (findF st.F) [] (λ_=>none) st.nx o.op=some ⟨pre,v,.no⟩) (s7:rG o.op=none) (hp:eF st.gs X.nt (some d)=false) (hs:Region.noSelect ops=true) (hf:Region.free .any ops listed i=true)
  (BK:(Region.ready .any ops listed).contains i=true)
  (h:qU pre (eQ st λF gs H nx D=>fX v λv'=>ie X ops fuel (listed.setIfInBounds i true) ⟨(d,⟨[],v'⟩)::F,gs,H,nx,D⟩ K)):ie X ops (fuel+1) listed st K:=by
 refine⟨fun ρ a w hm=>?_⟩
 have eE:bu a []:=λx hx=>by cases hx
 have IM:∀w:World,HM ρ (λ_=>none) w:=λw=>{
  ok:=λ_ _ h=>by cases h
  sep:=λ_ _ _ _ _ _ _ h=>by cases h
  ro:=λ_ _ _ _ _ _ h=>by cases h
  ax:=λ_ ⟨_,_,_,_,_,_,h,_⟩=>by cases h }
 have hk:=vh h
 rw[eG,mP] at hk
 have cq:∀w:World,∃u,(execOp a.eval o).run X.P w=.ok (.value u) w∧den ρ v=some u:=λw=>by
  exact vE hX.dx hm.fm eE (IM w) (hm.nx _ (Nat.le_refl _)) hc (vj h)
 obtain⟨u,_,hu⟩:=cq w
 have hy:YieldsFenced X.P ops o u a:=by
  refine⟨.inl ⟨jS hg _,λw=>?_⟩,λw=>?_⟩
  ·obtain⟨u',h1,h2⟩:=cq w
   rw[hu] at h2;cases h2
   exact h1
  ·unfold Oper.about
   cases km:o.op<;>first|rfl|(rw[km] at s7;cases s7)
 refine wpAnyIn_take (by rw[vk,hr]) ho hs hf BK (λc a w h=>h) hy ?_
 rw[hd]
 exact hk.h ρ _ w (hm.put hp hu)
def De (X:Cx)(ops:Array Oper)(fuel:Nat)(listed:Array Bool)(K:Ex→St→Prop):Exit→Act→World→Prop:=λe a w=>match e with
 |.normal=>wpAnyIn (FW X.r) 0 X.P .any ops (vo X K) fuel listed a w
 |e=>vo X K e a w
theorem bm {X:Cx}{ops:Array Oper}{fuel:Nat}{listed:Array Bool}{K:Ex→St→Prop}:dm X (De X ops fuel listed K) (λst=>ie X ops fuel listed st K) (λ_ _=>False) where
 k ρ' af a' w' an hk:=hk.h ρ' a' w' an
 p ch ρ' af a' w' an hk:=hk.elim
def CU (X:Cx)(ops:Array Oper)(fuel:Nat)(listed:Array Bool)(st:St)(K:Ex→St→Prop):List Nat→Prop
 |[]=>True
 |i::r=>(match nth ops.toList i with
  |some o=>(match o.guard with
   |none=>c7 X [o] (De X ops fuel (listed.setIfInBounds i true) K) (λaf=>ie X ops fuel (listed.setIfInBounds i true) af K) (λ_ _=>False) 0 [o] st
   |some _=>False)
  |none=>False)∧CU X ops fuel listed st K r
theorem Lw {X:Cx}{ops:Array Oper}{fuel:Nat}{listed:Array Bool}{st:St}{K:Ex→St→Prop}(hX:X.Ok):∀{l:List Nat},CU X ops fuel listed st K l→∀i∈l,∀ρ a w,Mod X ρ st a w →
  wpOpIn (FW X.r) 0 X.P ops (vo X K) i (wpAnyIn (FW X.r) 0 X.P .any ops (vo X K) fuel (listed.setIfInBounds i true)) a w
 |j::r,h,i,hi,ρ,a,w,hm=>by
  rcases List.mem_cons.1 hi with rfl|hi
  ·have h1:=h.1
   split at h1
   ·rename_i o e
    rw[jA] at e
    have e:ops[i]?=some o:=by simpa [Array.getElem?_toList] using e
    split at h1
    ·rename_i hg
     have h2:=kf hX (bm (X:=X) (ops:=ops) (fuel:=fuel) (listed:=listed.setIfInBounds i true) (K:=K)).k bm.p [o] 0 ρ st a w rfl h1 hm
     have h2:wpOpsIn (FW X.r) 0 X.P #[o] (De X ops fuel (listed.setIfInBounds i true) K) [0] a w:=h2
     simp only[wpOpsIn] at h2
     have BU:∀y,Region.wanted o y=true:=λy=>jS hg y
     simp only[List.getElem?_toArray,List.getElem?_cons_zero,BU,if_true] at h2
     unfold wpOpIn
     simp only[e,BU,if_true]
     have h3:Oper.wpIn (FW X.r) 0 X.P o a w (wpAnyIn (FW X.r) 0 X.P .any ops (vo X K) fuel (listed.setIfInBounds i true)) (De X ops fuel (listed.setIfInBounds i true) K):=h2
     unfold Oper.wpIn at h3 ⊢
     refine⟨h3.1,?_⟩
     have h4:=h3.2
     generalize (o.semAt (FW X.r).round a.eval).run X.P w=nv at h4 ⊢
     cases nv with
     |ok x w'=>cases x<;>exact h4
     |halt x w'=>cases x<;>exact h4
    ·exact h1.elim
   ·exact h1.elim
  ·exact Lw hX h.2 i hi ρ a w hm
theorem aJ {X:Cx}{st:St}{K:Ex→St→Prop}{ops:Array Oper}{fuel:Nat}{listed:Array Bool}(rs:List Nat)(hX:X.Ok)(hr:Region.ready .any ops listed=rs)(aV:rs≠[])(h:CU X ops fuel listed st K rs):ie X ops (fuel+1) listed st K :=
 ⟨fun ρ a w hm=>wpAnyIn_all hr aV λi hi=>Lw hX h i hi ρ a w hm⟩
section
variable {X:Cx}{st:St}
end
theorem Wi {ρ:Env}{n:Nat}(h:∀j,n≤j→ρ j=none):ke ρ (λj=>j) n=ρ:=by
 funext j
 unfold ke
 split
 ·rfl
 ·rename_i hj
  exact(h j (by omega)).symm
theorem lW {P:Program}{n:Nat}{l:List SV}{H:List (Nat × HB)}{nx:Nat}{Rv:SV→List (Nat × HB)→Nat→Prop}{Rp:List PanicEntry→List (Nat × HB)→Nat→Prop}(A:List (Nat × HB))(hA:gN (λj=>j) nx H A)
  (h:bG P n l A nx Rv Rp):bG P n l H nx Rv Rp:=by
 intro ρ w aM hm aU hd
 have he:=Wi aU
 have Jt:HM ρ (ab A) w:={
  ok:=λid hb hf=>by
   obtain⟨h1,hc,h2,h3⟩:=lg hA id hb hf
   obtain⟨nm,h4,h5⟩:=hm.ok _ _ h2
   exact⟨nm,h4,by rw[←he];exact Kw h3 h5⟩
  sep:=λi j x y c_ dE b h1 h2 l1 l2 r1 r2 o1 o2=>by
   obtain⟨a1,c1,a2,a3⟩:=lg hA i x h1
   obtain⟨b1,c2,b2,b3⟩:=lg hA j y h2
   exact hm.sep _ _ c1 c2 c_ dE b a2 b2 (nh a3 l1) (nh b3 l2) r1 r2 o1 o2
  ro:=λj size m get nm b hf an hr hb ho=>by
   obtain⟨a1,c1,a2,a3⟩:=lg hA j _ hf
   obtain⟨g',rfl⟩:=Fw a3
   refine hm.ro _ size m g' nm b a2 an hr hb ?_
   obtain⟨id,x,ak,h1,h2,h3,h4⟩:=ho
   obtain⟨b1,c2,b2,b3⟩:=lg hA id x h1
   exact⟨_,c2,ak,b2,nh b3 h2,h3,h4⟩
  ax:=λb hz ho=>by
   refine hm.ax b (C5 hA hz) ?_
   obtain⟨id,x,ak,h1,h2,h3,h4⟩:=ho
   obtain⟨b1,c2,b2,b3⟩:=lg hA id x h1
   exact⟨_,c2,ak,b2,nh b3 h2,h3,h4⟩ }
 have cM:∀b,Own ρ (ab A) b→Own ρ (ab H) b:=λb ⟨id,x,ak,h1,h2,h3,h4⟩=>by
  obtain⟨b1,c2,b2,b3⟩:=lg hA id x h1
  exact⟨_,c2,ak,b2,nh b3 h2,h3,h4⟩
 have hk:∀{ρ':Env} {H':LH} {w':World},gO ⟨w,Own ρ (ab A),ρ,Fz (ab A)⟩ ρ' H' w'→gO ⟨w,Own ρ (ab H),ρ,Fz (ab H)⟩ ρ' H' w':=λk =>
  { str:=k.str,size:=k.size,same:=λb hb hn=>k.same b hb λho=>hn (cM b ho),own:=λb ho=>(k.own b ho).imp (cM b) id,ext:=k.ext,fz:=λb hz=>(k.fz b hz).imp (cM b) (Or.imp id (C5 hA)) }
 refine(h ρ w aM Jt aU hd).mono ?_
 rintro e w' (⟨v,H',aA,ρ',u,rfl,h1,h2,h3,h4,h5⟩|⟨ch,H',aA,ρ',rfl,h2,h3,h4,h5⟩)
 ·exact .inl ⟨v,H',aA,ρ',u,rfl,h1,h2,hk h3,h4,h5⟩
 ·exact .inr ⟨ch,H',aA,ρ',rfl,h2,hk h3,h4,h5⟩
theorem M' {P:Program}{n:Nat}{l l':List SV}{H:List (Nat × HB)}{nx:Nat}{Rv:SV→List (Nat × HB)→Nat→Prop}{Rp:List PanicEntry→List (Nat × HB)→Nat→Prop}(T s:Nat)(g:Nat→List SV)
  (hl:∀ρ:Env,ρ nx=some (.sl none 0 0 s)→∀aM,ai ρ l=some aM→ai ρ l'=some aM)
  (h:bG P n l' ((nx,.vec T s 0 g)::H) (nx+1) Rv Rp):bG P n l H nx Rv Rp:=by
 intro ρ w aM hm aU hd
 have hf:=aU nx (Nat.le_refl _)
 have sV:Ext ρ (aq ρ nx (.sl none 0 0 s)):=Ext.aq _ hf
 have cI:HM (aq ρ nx (.sl none 0 0 s)) (ab ((nx,.vec T s 0 g)::H)) w:=by
  rw[ba]
  refine hm.add (g:=w.heap.size) hf (Nat.le_refl _) (λk _ _=>rfl) (λho=>Nat.lt_irrefl _ (hm.lt ho)) ?_ ⟨rfl,rfl,rfl,rfl,rfl⟩ (λb hb=>by cases hb) rfl (λhz=>Nat.lt_irrefl _ (hm.sN hz))
  intro j size m get nm h1 h2 h3 h4
  obtain⟨ak,h5,h6⟩:=hm.ok _ _ h1
  rw[h3] at h5;cases h5
  cases nm<;>simp only[ao] at h6
  obtain⟨_,_,_,h7⟩:=h6
  obtain⟨ad,rfl,h8,_⟩:=h7 h2
  simp only[eX,Option.some.injEq] at h4
  omega
 have cM:∀b,Own (aq ρ nx (.sl none 0 0 s)) (ab ((nx,.vec T s 0 g)::H)) b→Own ρ (ab H) b:=λb ⟨id,x,ak,h1,h2,h3,h4⟩=>by
  rw[ba] at h1
  by_cases e:nx=id
  ·subst e
   have:aq ρ nx (.sl none 0 0 s) nx=some (.sl none 0 0 s):=by simp[aq]
   rw[this] at h3;cases h3
   cases h4
  ·rw[aR _ _ e] at h1
   exact⟨id,x,ak,h1,h2,by rw[←h3];simp[aq,Ne.symm e],h4⟩
 have hk:∀{ρ':Env} {H':LH} {w':World},gO ⟨w,Own (aq ρ nx (.sl none 0 0 s)) (ab ((nx,.vec T s 0 g)::H)),aq ρ nx (.sl none 0 0 s),Fz (ab ((nx,.vec T s 0 g)::H))⟩ ρ' H' w'→gO ⟨w,Own ρ (ab H),ρ,Fz (ab H)⟩ ρ' H' w':=λk =>
  { str:=k.str,size:=k.size,same:=λb hb hn=>k.same b hb λho=>hn (cM b ho),own:=λb ho=>(k.own b ho).imp (cM b) id,ext:=sV.trans k.ext,fz:=λb hz=>(k.fz b hz).imp (cM b) (Or.imp id λh=>by rw[ba] at h;exact h.aq λs C h=>by cases h) }
 refine(h _ w aM cI (λj hj=>by
  have:j≠nx:=by omega
  simp only[aq,if_neg this]
  exact aU j (by omega)) (hl _ (by simp[aq]) aM (fT sV _ _ hd))).mono ?_
 rintro e w' (⟨v,H',aA,ρ',u,rfl,h1,h2,h3,h4,h5⟩|⟨ch,H',aA,ρ',rfl,h2,h3,h4,h5⟩)
 ·exact .inl ⟨v,H',aA,ρ',u,rfl,h1,h2,hk h3,h4,h5⟩
 ·exact .inr ⟨ch,H',aA,ρ',rfl,h2,hk h3,h4,h5⟩
theorem ij {X:Cx}{st af:St}{K:Ex→St→Prop}{ops:Array Oper}{fuel:Nat}{listed:Array Bool}(n0:Nat)(s:Nat→Nat)(hn:∀j,n0≤j→X.G.ρ j=none)(h:tU n0 s st af)(hk:ie X ops fuel listed af K):ie X ops fuel listed st K :=
 ⟨fun ρ a w hm=>hk.h _ a w (hm.oz h hn)⟩
theorem Mz {X:Cx}{st:St}{K:Ex→St→Prop}{ops:Array Oper}{fuel:Nat}{listed:Array Bool}(rs:List Nat)(SQ:St)(OD:Nat)(QW:Array Bool)(hX:X.Ok)(hr:Region.ready .any ops listed=rs)(aV:rs≠[])
  (hb:∀K:Ex→St→Prop,ie X ops OD QW SQ K→CU X ops fuel listed st K rs) (h:ie X ops OD QW SQ K):ie X ops (fuel+1) listed st K :=
 aJ rs hX hr aV (hb K h)
theorem aey {F:Fence}{n:Nat}{P:Program}{Q:Exit→Act→List Frame→World→Prop}{a:Act}{cs cs':List Frame}{w:World}{id:Nat}{ops:Array Oper}{o1:Oper}{v:Value}(kq:F.round=none)
  (h0:ops[0]?=some o1) (hg:o1.guard=none) (yv:∀f,o1.about P w a.eval=some f→F.fn f) (cr:(execOp a.eval o1).run P w=.ok .recover w)
  (rC:(match recoverD cs with
   |some (v',VP)=>v'=v∧VP=cs'
   |none=>v=.nilIface∧cs'=cs))
  (h:wpOpsIn F n P ops (λe a' w'=>Q e a' cs' w') (List.range' 1 (ops.size-1)) (a.put o1.dst v) w):(Code.region id ops false).wpSIn F n P Q a cs w:=by
 intro b k hb hr hF uI
 have dr:0<ops.size:=(Array.getElem?_eq_some_iff.1 h0).1
 have Zv:List.range ops.size=0::List.range' 1 (ops.size-1):=by
  obtain⟨m,hm⟩:∃m,ops.size=m+1:=⟨ops.size-1,by omega⟩
  rw[hm,List.range_eq_range',List.range'_succ]
  simp
 have hlen:cs'.length=cs.length:=by
  split at rC
  ·rename_i e1
   obtain⟨_,rfl⟩:=rC
   exact recoverD_length e1
  ·rw[rC.2]
 obtain⟨e,a',w',hq,kV⟩:=wp_opsIn _ _ _ h b k cs' (hr.trans kq.symm) hF (hlen ▸ uI)
 refine⟨e,a',cs',w',hlen,hq,.of_steps (.one (fenced_calm hF uI rfl) stepR_region) ?_⟩
 rw[Zv]
 have YJ:(lone (b.atR a (.inRegion ops (0::List.range' 1 (ops.size-1))::k)) cs w).fenced P F:=fenced_oper hF uI h0 yv
 refine .of_steps (.one YJ (step_lone_go ?_)) kV
 have hw:Region.wanted o1 (yielded ops a.tmps)=true:=by simp[Region.wanted,hg]
 have fV:=stepGR_op (P:=P) (b:=b) (k:=k) (cs:=cs) (w:=w) (rest:=List.range' 1 (ops.size-1)) h0 hw
 rw[hr,Oper.semAt_none] at fV
 have iq:∀v,(b.atR a (.inRegion ops (0::List.range' 1 (ops.size-1))::k)).finish v=b.atR (a.put o1.dst v) (.inRegion ops (List.range' 1 (ops.size-1))::k):=by
  intro v;rw[Frame.finish_atR,h0];rfl
 have hk:(b.atR a (.inRegion ops (0::List.range' 1 (ops.size-1))::k)).kind=.deferred:=hb
 have E7:=tryRecover_deferred hk cs
 split at rC
 ·rename_i e1
  obtain⟨rfl,rfl⟩:=rC
  rw[fV,←iq]
  simp only[Frame.atR,hr] at E7 ⊢
  simp[stepG.apply,cr,E7,e1]
 ·rename_i e1
  obtain⟨rfl,rfl⟩:=rC
  rw[fV,←iq]
  simp only[Frame.atR,hr] at E7 ⊢
  simp[stepG.apply,cr,E7,e1]
structure oF (P:Program) (n:Nat) (V:IntKind→Int→Value) (aL:Nat):Prop where
 body:Body P n
 ret:∀(w:World) (b:Nat) (x:Value),x.oneCell'=true→w.heap[b]?=some (.cells #[x] aL (0,0))→CallsDIn Fence.wide 0 P n #[.pointer (some ⟨b,0,none⟩)] .returning w λe u' w' =>
  (∃v,e=.returned v)∧u'=.returning∧w.heap.size≤w'.heap.size∧(∀c,c<w.heap.size→w'.heap[c]?=w.heap[c]?)∧dF w w'
 bL:∀(w:World) (b:Nat) (x:Value) (k:IntKind) (m:Int),x.oneCell'=true→w.heap[b]?=some (.cells #[x] aL (0,0))→CallsDIn Fence.wide 0 P n #[.pointer (some ⟨b,0,none⟩)] (.panicking [{ v:=V k m,recovered:=false }]) w λe u' w' =>
  (∃v,e=.returned v)∧u'=.panicking [{ v:=V k m,recovered:=true }]∧w.heap.size≤w'.heap.size∧(∀c,c<w.heap.size→c≠b→w'.heap[c]?=w.heap[c]?)∧w'.heap[b]?=some (.cells #[.int k m] aL (0,0))∧dF w w'
def K5 (X:Cx)(ops:List Oper)(Q:Exit→Act→World→Prop)(rest:Code)(K:Ex→St→Prop)(st:St):Prop :=
 c7 X ops Q (λst=>mN st (λst=>exec X rest st K)) (λ_ _=>False) 1 (match ops with
  |[]=>[]
  |_::r=>r) st
section
variable {P:Program}{T:cf}{C:Nat→Option Ct}
theorem sh (hX:∀G r nt,(⟨P,T,C,G,r,nt⟩:Cx).Ok){n aL:Nat}{V:IntKind→Int→Value}{Vs:IntKind→Int→SV}(hV:∀ρ k m,den ρ (Vs k m)=some (V k m)){fn:Func}{id:Nat}{ops:Array Oper}{d1:Nat}
  (hf : P.funcs[n]? = some fn) (hb : fn.body = some (.region id ops false)) (hn : (fn.name == "runtime.NumGoroutine") = false) (fI : fn.results = #[]) {o1 : Oper} {c : Call} (h0 : ops[0]? = some o1) (h1 : o1.op = .call c) (hc : c.callee = .builtin .recover)
  (kY:o1.guard=none) (uu:o1.dst=some d1) (I4:d1≠0) (ly:d1<fn.ntmps)
  (I7:∀(x:Value) (G:cp) (Q:Exit→Act→World→Prop),(∀j,1≤j→G.ρ j=none)→dm ⟨P,T,C,G,none,fn.ntmps⟩ Q (λst=>mN st (λst=>exec ⟨P,T,C,G,none,fn.ntmps⟩ .skip st (Fin ⟨P,T,C,G,none,fn.ntmps⟩ [] (λ_ st=>ab st.H 0=some (.cells aL [.sv x])) (λ_ _=>False)))) (λ_ _=>False) →
   K5 ⟨P,T,C,G,none,fn.ntmps⟩ ops.toList Q .skip (Fin ⟨P,T,C,G,none,fn.ntmps⟩ [] (λ_ st=>ab st.H 0=some (.cells aL [.sv x])) (λ_ _=>False)) ⟨[(0,⟨[],.sp 0 0⟩),(d1,⟨[],.sv .nilIface⟩)],[],[(0,.cells aL [.sv x])],1,[]⟩)
  (I8:∀(x:Value) (k:IntKind) (m:Int) (G:cp) (Q:Exit→Act→World→Prop),(∀j,1≤j→G.ρ j=none)→dm ⟨P,T,C,G,none,fn.ntmps⟩ Q (λst=>mN st (λst=>exec ⟨P,T,C,G,none,fn.ntmps⟩ .skip st (Fin ⟨P,T,C,G,none,fn.ntmps⟩ [] (λ_ st=>ab st.H 0=some (.cells aL [.si k m])) (λ_ _=>False)))) (λ_ _=>False) →
   K5 ⟨P,T,C,G,none,fn.ntmps⟩ ops.toList Q .skip (Fin ⟨P,T,C,G,none,fn.ntmps⟩ [] (λ_ st=>ab st.H 0=some (.cells aL [.si k m])) (λ_ _=>False)) ⟨[(0,⟨[],.sp 0 0⟩),(d1,⟨[],Vs k m⟩)],[],[(0,.cells aL [.sv x])],1,[]⟩) :
  oF P n V aL:=by
 have JN:∀(a:Act) (w:World),(execOp a.eval o1).run P w=.ok .recover w:=by
  intro a w
  simp only[execOp,h1,resolve,hc]
  rfl
 have key:∀(w:World) (b:Nat) (x:Value) (u:FrameMode) (v:Value) (u':FrameMode) (y gE:SV),x.oneCell'=true→w.heap[b]?=some (.cells #[x] aL (0,0))→(∀ρ,den ρ y=some v) →
   (∀(c₀:Frame) (cs:List Frame),c₀.mode=u→(match recoverD (c₀::cs) with
    |some (v',cs')=>v'=v∧cs'={ c₀ with mode:=u' }::cs
    |none=>v=.nilIface∧u'=u)) →
   (∀(G:cp) (Q:Exit→Act→World→Prop),(∀j,1≤j→G.ρ j=none)→dm ⟨P,T,C,G,none,fn.ntmps⟩ Q (λst=>mN st (λst=>exec ⟨P,T,C,G,none,fn.ntmps⟩ .skip st (Fin ⟨P,T,C,G,none,fn.ntmps⟩ [] (λ_ st=>ab st.H 0=some (.cells aL [gE])) (λ_ _=>False)))) (λ_ _=>False) →
    K5 ⟨P,T,C,G,none,fn.ntmps⟩ ops.toList Q .skip (Fin ⟨P,T,C,G,none,fn.ntmps⟩ [] (λ_ st=>ab st.H 0=some (.cells aL [gE])) (λ_ _=>False)) ⟨[(0,⟨[],.sp 0 0⟩),(d1,⟨[],y⟩)],[],[(0,.cells aL [.sv x])],1,[]⟩) →
   CallsDIn Fence.wide 0 P n #[.pointer (some ⟨b,0,none⟩)] u w λe qP w'=>(∃v,e=.returned v)∧qP=u'∧w.heap.size≤w'.heap.size∧(∀c,c<w.heap.size→c≠b→w'.heap[c]?=w.heap[c]?)∧dF w w'∧∃ρ z,den ρ gE=some z∧w'.heap[b]?=some (.cells #[z] aL (0,0)):=by
  intro w b x u v u' y gE hx l8 hy rC he
  refine callsDIn_of_wpSIn hf hb trivial (λc₀ cs jw=>?_)
  let a0:Act:={ tmps:=#[.pointer (some ⟨b,0,none⟩)]++Array.replicate (fn.ntmps-1) undef,defers:=[] }
  have dr:a0.tmps.size=fn.ntmps:=by simp[a0];omega
  have II:a0.tmps[0]?=some (.pointer (some ⟨b,0,none⟩)):=by simp[a0,Array.getElem?_append]
  refine aey (cs':={ c₀ with mode:=u' }::cs) (v:=v) rfl h0 kY (λf _=>trivial) (JN _ _) ?_ ?_
  ·have:=rC c₀ cs jw
   revert this
   cases recoverD (c₀::cs) with
   |some p=>obtain⟨v',cs'⟩:=p;exact λh=>h
   |none=>exact λh=>⟨h.1,by rw[h.2,←jw]⟩
  rw[uu]
  let a1:Act:=a0.put (some d1) v
  let ρ:Env:=λj=>if j=0 then some (.bO b) else none
  let H:List (Nat × HB):=[(0,.cells aL [.sv x])]
  have IY:b<w.heap.size:=by
   rcases Nat.lt_or_ge b w.heap.size with h|h
   ·exact h
   ·rw[Array.getElem?_eq_none h] at l8;cases l8
  have Bq:∀{i:Nat} {xv:HB},ab H i=some xv→i=0:=by
   intro i xv hf
   by_cases dZ:i=0
   ·exact dZ
   ·have:ab H i=none:=by simp[H,ab,Ne.symm dZ]
    rw[this] at hf;cases hf
  have hH:HM ρ (ab H) w:={
   ok:=λid hb' hf=>by
    have dZ:=Bq hf
    subst dZ
    have hf:some (HB.cells aL [.sv x])=some hb':=hf
    cases hf
    exact⟨.bO b,rfl,[x],by simp[ai,den,hx],by simp[hx],l8⟩
   sep:=λi j xv aeL c_ dE zT f1 f2 _ _ _ _ _ _=>by rw[Bq f1,Bq f2]
   ro:=λid size n get nm zT hf=>by
    have dZ:=Bq hf
    subst dZ
    cases hf
   ax:=λzT ⟨id,size,C,v,n,get,hf,_⟩=>by
    have dZ:=Bq hf
    subst dZ
    cases hf }
  let X:Cx:=⟨P,T,C,⟨w,Own ρ (ab H),ρ,Fz (ab H)⟩,none,fn.ntmps⟩
  have hm:Mod X ρ ⟨[(0,⟨[],.sp 0 0⟩),(d1,⟨[],y⟩)],[],H,1,[]⟩ a1 w:={
   fm:=λs e hf=>by
    have hf:findF [(0,⟨[],.sp 0 0⟩),(d1,⟨[],y⟩)] s=some e:=hf
    by_cases h1:(0:Nat)=s
    ·subst h1
     rw[je] at hf;cases hf
     exact⟨λ_=>⟨_,(by simp[a1,Act.put,Array.getElem?_setIfInBounds,I4,II]),rfl⟩,λhn=>absurd (λx hx=>by cases hx) hn⟩
    ·rw[iB _ _ h1] at hf
     by_cases h2:d1=s
     ·subst h2
      rw[je] at hf;cases hf
      exact⟨λ_=>⟨_,(by simp[a1,Act.put,Array.getElem?_setIfInBounds,dr,ly]),hy ρ⟩,λhn=>absurd (λx hx=>by cases hx) hn⟩
     ·rw[iB _ _ h2] at hf;cases hf
   gs:=λs e hf x hx=>by
    have hf:findF [(0,⟨[],.sp 0 0⟩),(d1,⟨[],y⟩)] s=some e:=hf
    by_cases h1:(0:Nat)=s
    ·subst h1;rw[je] at hf;cases hf;cases hx
    ·rw[iB _ _ h1] at hf
     by_cases h2:d1=s
     ·subst h2;rw[je] at hf;cases hf;cases hx
     ·rw[iB _ _ h2] at hf;cases hf
   df:=trivial
   hm:=hH
   kp:={ str:=dF.refl _,size:=Nat.le_refl _,same:=λ_ _ _=>rfl,own:=λb h=>.inl h,ext:=Ext.refl ρ,fz:=λb h=>.inr (.inr h) }
   nx:=λj hj=>by
    have hj:1≤j:=hj
    show(if j=0 then some (Nm.bO b) else none)=none
    rw[if_neg (by omega)]
   sz:=by show(a0.put (some d1) v).tmps.size=fn.ntmps;simp[Act.put,dr] }
  have iq:∀(e:Ex) (a':Act) (w':World) (af:St) (ρ':Env),Mod X ρ' af a' w'→Fin X [] (λ_ st=>ab st.H 0=some (.cells aL [gE])) (λ_ _=>False) e af →
    bodyPostS P fn c₀ cs (λe qP w'=>(∃v,e=.returned v)∧qP=u'∧w.heap.size≤w'.heap.size∧(∀c,c<w.heap.size→c≠b→w'.heap[c]?=w.heap[c]?)∧dF w w'∧∃ρ z,den ρ gE=some z∧w'.heap[b]?=some (.cells #[z] aL (0,0))) e.to a' ({ c₀ with mode:=u' }::cs) w':=by
   intro e a' w' af ρ' an hk
   have fV:(match h_ X af [],af.D with
     |some l,[]=>eT l λl'=>ab af.H 0=some (.cells aL [gE])
     |_,_=>False)→a'.defers=[]∧∃Tb,{ c₀ with mode:=u' }::cs={ c₀ with mode:=Tb }::cs∧∃v,(results fn a'.tmps).run P w'=.ok v w'∧((∃v',Ending.returned v=.returned v')∧Tb=u'∧w.heap.size≤w'.heap.size∧(∀c,c<w.heap.size→c≠b→w'.heap[c]?=w.heap[c]?)∧dF w w'∧∃ρ z,den ρ gE=some z∧w'.heap[b]?=some (.cells #[z] aL (0,0))):=by
    intro hk
    split at hk
    ·rename_i l e1 e2
     rw[gn] at hk
     refine⟨pY (by rw[←e2];exact an.df),u',rfl,.tuple #[],?_,⟨_,rfl⟩,rfl,?_⟩
     ·rw[K6,fI]
      simp
     ·obtain⟨nm,k1,k2⟩:=an.hm.ok _ _ hk
      have lq:ρ' 0=some (.bO b):=an.kp.ext 0 _ rfl
      rw[lq] at k1;cases k1
      obtain⟨us,d1,_,d2⟩:=k2
      obtain⟨z,xr,q1,q2,rfl⟩:=jP d1
      simp only[ai,Option.some.injEq] at q2
      subst q2
      refine⟨an.kp.size,λc hc sT=>an.kp.same c hc ?_,an.kp.str,ρ',z,q1,d2⟩
      rintro⟨id,hb',ak,p1,_,p3,p4⟩
      have p3:(if id=0 then some (Nm.bO b) else none)=some ak:=p3
      split at p3
      ·cases p3
       simp only[Nm.owner,Option.some.injEq] at p4
       exact sT p4.symm
      ·cases p3
    ·exact hk.elim
   cases e with
   |normal=>exact fV hk
   |ret=>exact fV hk
   |panic ch =>
    simp only[Fin] at hk
    split at hk
    ·exact hk.elim
    ·exact hk.elim
   |exit n=>exact hk.elim
  have I3:dm X (λe a' w'=>bodyPostS P fn c₀ cs (λe qP w'=>(∃v,e=.returned v)∧qP=u'∧w.heap.size≤w'.heap.size∧(∀c,c<w.heap.size→c≠b→w'.heap[c]?=w.heap[c]?)∧dF w w'∧∃ρ z,den ρ gE=some z∧w'.heap[b]?=some (.cells #[z] aL (0,0))) e a' ({ c₀ with mode:=u' }::cs) w')
    (λst=>mN st (λst=>exec X .skip st (Fin X [] (λ_ st=>ab st.H 0=some (.cells aL [gE])) (λ_ _=>False)))) (λ_ _=>False):={
   k:=fun ρ' af a' w' an hk=>by
    unfold mN at hk
    split at hk<;>exact iq .normal a' w' _ ρ' an hk
   p:=λch ρ' af a' w' an hk=>hk.elim }
  have hx:=he ⟨w,Own ρ (ab H),ρ,Fz (ab H)⟩ _ (λj hj=>by
   show(if j=0 then some (Nm.bO b) else none)=none
   rw[if_neg (by omega)]) I3
  have hl:=kf (hX ⟨w,Own ρ (ab H),ρ,Fz (ab H)⟩ none fn.ntmps) I3.k I3.p _ 1 ρ _ a1 w ?_ hx hm
  ·have e1:(match ops.toList with
    |[]=>[]
    |_::r=>r).length=ops.size-1:=by
    obtain⟨l⟩:=ops
    cases l<;>simp
   rw[e1] at hl
   exact hl
  ·cases h:ops.toList<;>simp[h]
 exact{
  body:=aw hf hb hn
  ret:=λw b x hx l8=>by
   refine(key w b x .returning .nilIface .returning (.sv .nilIface) (.sv x) hx l8 (fun ρ=>rfl) (λc₀ cs jw=>by
    simp[recoverD,jw]) (I7 x)).mono ?_
   rintro e u' w' ⟨h1,h2,h3,h4,bD,ρ,z,h5,h6⟩
   refine⟨h1,h2,h3,λc hc=>?_,bD⟩
   by_cases sT:c=b
   ·subst sT
    rw[h6,l8]
    simp only[den,hx,if_true,Option.some.injEq] at h5
    rw[h5]
   ·exact h4 c hc sT
  bL:=λw b x k m hx l8=>by
   refine(key w b x _ (V k m) (.panicking [{ v:=V k m,recovered:=true }]) (Vs k m) (.si k m) hx l8 (fun ρ=>hV ρ k m) (λc₀ cs jw=>by
    simp[recoverD,jw]) (I8 x k m)).mono ?_
   rintro e u' w' ⟨h1,h2,h3,h4,bD,ρ,z,h5,h6⟩
   refine⟨h1,h2,h3,h4,?_,bD⟩
   simp only[den,Option.some.injEq] at h5
   rw[h6,h5] }
end
section
variable {X:Cx}{st:St}{ρ:Env}{a:Act}{w:World}
theorem sK (n id:Nat){ops:List Oper}{i:Nat}{o:Oper}{r:List Oper}{Q:Exit→Act→World→Prop}{K:St→Prop}{Kp:List PanicEntry→St→Prop}{c:Call}{x:Operand}(hX:X.Ok)(hr:X.r=none)
  (hC:dm X Q K Kp) (hi:ops.drop i=o::r) (hc:o.op=.defer c) (hg:o.guard=none) (hd:o.dst=none) (bi:c.callee=.value x) (lr:c.args=#[]) (h1:ev (findF st.F) [] x=some (.fn (.func n) [] [.sp id 0]))
  (h:eQ st λF gs H nx D=>c7 X ops Q K Kp (i+1) r ⟨F,gs,H,nx,(1000000,[.si .i64 n,.sp id 0])::D⟩):eB X ops Q K Kp i o r st:=by
 refine⟨fun ρ a w hm=>?_⟩
 rw[eG] at h
 have hs:bu a []:=λx hx=>by cases hx
 have e1:=aQ hm.fm hs h1
 have ho:ops[i]?=some o:=by
  have:=congrArg (λl=>l[0]?) hi
  simpa using this
 have eu:ops.drop (i+1)=r:=by
  have:=congrArg List.tail hi
  simpa using this
 simp only[den] at e1
 cases hl:ai ρ [.sp id 0] with
 |none=>rw[hl] at e1;simp[ai] at e1
 |some us =>
  rw[hl] at e1
  simp only[ai,Option.some.injEq] at e1
  obtain⟨v,vs,g1,g2,rfl⟩:=jP hl
  simp only[ai,Option.some.injEq] at g2
  subst g2
  rw[List.range'_succ]
  refine wpOps_cons (by simpa using ho) (λ_=>?_) (λhw=>by rw[jS hg] at hw;cases hw)
  refine⟨λf _=>mB X.r f,?_⟩
  have cr:(o.semAt (FW X.r).round a.eval).run X.P w=.ok (.defer { target:=.fn (.func n) #[v],args:=#[] }) w:=by
   rw[vk,hr,Oper.semAt_none]
   simp only[execOp,hc,resolve,bi,lr,←e1]
   simp[Deferred.ofValue,Result.andThen]
  rw[cr]
  show wpOpsIn _ _ _ _ _ _ (({ a with defers:=_::a.defers }:Act).put o.dst undef) w
  rw[hd]
  obtain⟨F,gs,H,nx,D⟩:=st
  refine kf hX hC.k hC.p r (i+1) ρ _ _ w eu h ?_
  exact{
   fm:=hm.fm
   gs:=hm.gs
   df:=⟨⟨[.int .i64 n,v],oW rfl (oW g1 rfl),by simp[uU]⟩,hm.df⟩
   hm:=hm.hm
   kp:=hm.kp
   nx:=hm.nx
   sz:=hm.sz }
def Cb:List fE→List (Nat × HB)→Option (List (Nat × HB) × List fE)
 |[],H=>some (H,[])
 |(f,args)::r,H=>match args with
  |[.sp id 0]=>(match Nat.beq f 1000000,ab H id with
   |true,some .eh=>Cb r ((id,.dead)::H)
   |_,_=>none)
  |_=>some (H,(f,args)::r)
theorem QN {P:Program}{fn:Func}{R:Ending→World→Prop}{u:FrameMode}(hu:u≠.run){F:List (Nat × FE)}{gs:List Nat}{nx:Nat}{H':List (Nat × HB)}{D':List fE}:∀{D:List fE} {H:List (Nat × HB)} {a:Act} {w:World},
  Cb D H=some (H',D')→Mod X ρ ⟨F,gs,H,nx,D⟩ a w→(∀a' iJ,a'.tmps=a.tmps→Mod X ρ ⟨F,gs,H',nx,D'⟩ a' iJ→LeavesInM Fence.wide 0 P fn a.tmps R a'.defers u iJ) →
  LeavesInM Fence.wide 0 P fn a.tmps R a.defers u w
 |[],H,a,w,hk,hm,iq=>by
  simp only[Cb] at hk;cases hk
  exact iq a w rfl hm
 |(f,args)::r,H,a,w,hk,hm,iq=>by
  simp only[Cb] at hk
  split at hk
  ·rename_i id
   split at hk
   ·rename_i e1 e2
    have fU:=hm.df
    cases mW:a.defers with
    |nil=>rw[mW] at fU;exact fU.elim
    |cons d ds =>
     rw[mW] at fU
     obtain⟨⟨aM,h1,h2⟩,h3⟩:=fU
     obtain⟨v,vs,g1,g2,rfl⟩:=jP h1
     simp only[ai,Option.some.injEq] at g2
     subst g2
     obtain⟨b,hb,rfl⟩:=nX g1
     have hd:d={ target:=.collected b,args:=#[] }:=by rw[h2];simp only[uU,e1]
     obtain⟨nm,k1,k2⟩:=hm.hm.ok _ _ e2
     rw[hb] at k1;cases k1
     refine⟨hu,.inl ⟨b,_,by rw[hd],run_takeDeferred (P:=P) k2,?_⟩⟩
     have ck:=hm.Kq (w':=w.putObj b (.deferred none)) e2 rfl hb rfl World.putObj_size (λk hk=>World.putObj_heap_other hk)
     have cI:Mod X ρ ⟨F,gs,(id,.dead)::H,nx,r⟩ { a with defers:=ds } (w.putObj b (.deferred none)):={
      fm:=ck.fm,gs:=ck.gs,df:=h3,hm:=ck.hm,kp:=ck.kp,nx:=ck.nx,sz:=ck.sz }
     exact QN hu (a:={ a with defers:=ds }) hk cI (λa' iJ q1 q3=>iq a' iJ q1 q3)
   ·cases hk
  ·cases hk
   exact iq a w rfl hm
def J' (cG:Nat)(ch:List PanicEntry)(K:IntKind→Int→Prop):Prop :=
 match ch with
 |[⟨.iface t (.agg ⟨[.int k m]⟩),false,false⟩]=>(match Nat.beq t cG with
  |true=>K k m
  |false=>False)
 |_=>False
def yd (n aL:Nat)(st:St)(K:Nat→Prop):Prop :=
 match st.D with
 |[(f,[.si .i64 m,.sp id 0])]=>(match Nat.beq m.toNat n,Nat.beq f 1000000,ab st.H id with
  |true,true,some (.cells t [_])=>(match Nat.beq t aL with
   |true=>K id
   |false=>False)
  |_,_,_=>False)
 |_=>False
def kE (cG:Nat)(k:IntKind)(m:Int):Value:=.iface cG (.agg #[.int k m])
def TF (X:Cx)(n cG aL:Nat)(rs:List ResultVar)(Rv:SV→St→Prop):Ex→St→Prop
 |.normal,st=>yd n aL st λ_=>(match h_ X st rs with
  |some l=>eT l λl'=>Rv (jW l') st
  |none=>False)
 |.ret,st=>yd n aL st λ_=>(match h_ X st rs with
  |some l=>eT l λl'=>Rv (jW l') st
  |none=>False)
 |.panic ch,st=>yd n aL st λid=>J' cG ch λk m=>(match st with
  |⟨F,gs,H,nx,D⟩=>(match h_ X ⟨F,gs,(id,.cells aL [.si k m])::H,nx,D⟩ rs with
   |some l=>eT l λl'=>Rv (jW l') ⟨F,gs,(id,.cells aL [.si k m])::H,nx,D⟩
   |none=>False))
 |.exit _,_=>False
def GO (X:Cx)(n cG aL:Nat)(rs:List ResultVar)(Rv:SV→St→Prop)(e:Ex)(st:St):Prop :=
 match Cb st.D st.H with
 |some (H',D')=>TF X n cG aL rs Rv e ⟨st.F,st.gs,H',st.nx,D'⟩
 |none=>False
theorem NW {n aL:Nat}{K:Nat→Prop}(h:yd n aL st K):∃id m x,m.toNat=n∧st.D=[(1000000,[.si .i64 m,.sp id 0])]∧ab st.H id=some (.cells aL [x])∧K id:=by
 unfold yd at h
 split at h
 ·rename_i f m id e1
  split at h
  ·rename_i t x e2 e0 e3
   split at h
   ·rename_i e4
    have h1:f=1000000:=by simpa using e0
    have h2:t=aL:=by simpa using e4
    subst h1;subst h2
    exact⟨id,m,x,by simpa using e2,e1,e3,h⟩
   ·exact h.elim
  ·exact h.elim
 ·exact h.elim
theorem aak {cG:Nat}{ch:List PanicEntry}{K:IntKind→Int→Prop}(h:J' cG ch K):∃k m,ch=[{ v:=kE cG k m,recovered:=false }]∧K k m:=by
 unfold J' at h
 split at h
 ·rename_i t k m
  split at h
  ·rename_i e
   have h1:t=cG:=by simpa using e
   subst h1
   exact⟨k,m,rfl,h⟩
  ·exact h.elim
 ·exact h.elim
theorem NC (hm:Mod X ρ st a w){n aL id:Nat}{m:Int}{x:SV}(rB:m.toNat=n)(hD:st.D=[(1000000,[.si .i64 m,.sp id 0])])(hf:ab st.H id=some (.cells aL [x])) :
  ∃(b:Nat) (u:Value),a.defers=[{ target:=.fn (.func n) #[.pointer (some ⟨b,0,none⟩)],args:=#[] }]∧ρ id=some (.bO b)∧u.oneCell'=true∧w.heap[b]?=some (.cells #[u] aL (0,0)):=by
 have fU:=hm.df
 rw[hD] at fU
 cases mW:a.defers with
 |nil=>rw[mW] at fU;exact fU.elim
 |cons d ds =>
  rw[mW] at fU
  obtain⟨⟨aM,h1,h2⟩,h3⟩:=fU
  have h3:=pY h3
  subst h3
  obtain⟨v,vs,g1,g2,rfl⟩:=jP h1
  simp only[den,Option.some.injEq] at g1
  subst g1
  obtain⟨v,vs,g1,g3,rfl⟩:=jP g2
  simp only[ai,Option.some.injEq] at g3
  subst g3
  obtain⟨b,hb,rfl⟩:=nX g1
  obtain⟨nm,k1,k2⟩:=hm.hm.ok _ _ hf
  rw[hb] at k1;cases k1
  obtain⟨us,d1,d0,d2⟩:=k2
  obtain⟨u,xr,q1,q2,rfl⟩:=jP d1
  simp only[ai,Option.some.injEq] at q2
  subst q2
  exact⟨b,u,by rw[h2];simp[uU,rB],hb,by simpa using d0,d2⟩
theorem Vr (hX:X.Ok)(hr:X.r=none){n cG aL:Nat}(hA:oF X.P n (kE cG) aL){f:Nat}{fn:Func}{c:Code}(hf:X.P.funcs[f]?=some fn)(hb:fn.body=some c)(qx:fn.ntmps=X.nt)
  {args:List SV} {aM:List Value} {H:List (Nat × HB)} {nx:Nat} (hd:ai ρ args=some aM) (hlen:args.length≤X.nt) (hH:HM ρ (ab H) w)
  (hG:X.G=⟨w,Own ρ (ab H),ρ,Fz (ab H)⟩) (aU:∀j,nx≤j→ρ j=none) {Rv:SV→St→Prop}
  (h:exec X c (start args H nx) (GO X n cG aL fn.results.toList Rv)):Calls X.P f aM.toArray w (jL X Rv λ_ _=>False):=by
 refine(callsIn_wide (n:=0)).1 ?_
 have hm:=zo (X:=X) hd hlen hH hG aU
 have hw:=cW hX c _ _ h ρ _ w hm
 rw[hr] at hw
 refine callsIn_of_wp_marks (F:=Fence.wide) hf hb trivial (wpIn_mono (by rw[qx];exact hw) ?_)
 rintro e nN C7 ⟨x,jk,ρ',rfl,wJ,qu⟩
 unfold GO at qu
 split at qu
 case h_2=>exact qu.elim
 rename_i H' D' Jn
 have fV:∀u,u≠FrameMode.run→(∀a' iJ,a'.tmps=nN.tmps→Mod X ρ' ⟨jk.F,jk.gs,H',jk.nx,D'⟩ a' iJ→LeavesInM Fence.wide 0 X.P fn nN.tmps (jL X Rv λ_ _=>False) a'.defers u iJ) →
   LeavesInM Fence.wide 0 X.P fn nN.tmps (jL X Rv λ_ _=>False) nN.defers u C7:=λu hu hf=>QN (X:=X) (F:=jk.F) (gs:=jk.gs) (nx:=jk.nx) hu Jn (by cases jk;exact wJ) hf
 obtain⟨af,wN⟩:∃af:St,(⟨jk.F,jk.gs,H',jk.nx,D'⟩:St)=af:=⟨_,rfl⟩
 rw[wN] at qu
 have hk:=qu
 have mZ:(yd n aL af λ_=>(match h_ X af fn.results.toList with
   |some l=>eT l λl'=>Rv (jW l') af
   |none=>False))→LeavesInM Fence.wide 0 X.P fn nN.tmps (jL X Rv λ_ _=>False) nN.defers .returning C7:=by
  intro hk
  refine fV _ (by intro h;cases h) λa' w' jv an=>?_
  rw[wN] at an
  rw[←jv]
  obtain⟨id,q,y,hq,hD,kX,hk⟩:=NW hk
  obtain⟨b,u,g1,g2,g0,g3⟩:=NC an hq hD kX
  rw[g1]
  refine⟨(by intro h;cases h),.inr ⟨(by intro h;cases h),_,_,_,_,rfl,hA.body _ _,(λg _=>trivial),?_⟩⟩
  refine(hA.ret w' b u g0 g3).mono ?_
  rintro e u' jl ⟨⟨v,rfl⟩,rfl,hs,bA,bD⟩
  have fv:Mod X ρ' af a' jl:={ an with hm:=an.hm.world hs bA,kp:=an.kp.world hs bA bD }
  split at hk
  ·rename_i l e1
   rw[gn] at hk
   obtain⟨u,h1,h2⟩:=qK hX fv e1
   exact⟨u,h1,.inl ⟨_,af,ρ',u,rfl,h2,fv.mh,hk⟩⟩
  ·exact hk.elim
 cases x with
 |normal=>exact mZ hk
 |ret=>exact mZ hk
 |panic ch =>
  obtain⟨id,q,y,hq,hD,kX,hk⟩:=NW hk
  obtain⟨k,m,rfl,eM⟩:=aak hk
  refine fV _ (by intro h;cases h) λa' w' jv an=>?_
  rw[wN] at an
  rw[←jv]
  obtain⟨b,u,g1,g2,g0,g3⟩:=NC an hq hD kX
  rw[g1]
  refine⟨(by intro h;cases h),.inr ⟨(by intro h;cases h),_,_,_,_,rfl,hA.body _ _,(λg _=>trivial),?_⟩⟩
  refine(hA.bL w' b u k m g0 g3).mono ?_
  rintro e u' jl ⟨⟨v,rfl⟩,rfl,hs,bA,aI,bD⟩
  obtain⟨F,gs,H,nx,D⟩:=af
  have fv:Mod X ρ' ⟨F,gs,(id,.cells aL [.si k m])::H,nx,D⟩ a' jl:={
   fm:=an.fm
   gs:=an.gs
   df:=an.df
   hm:=an.hm.put kX rfl g2 rfl hs bA (by exact⟨[.int k m],by simp[ai,den],by simp[Value.oneCell'],aI⟩) rfl (λ_ _ _ h=>by cases h)
   kp:=an.kp.put kX rfl g2 rfl hs bA bD
   nx:=an.nx
   sz:=an.sz }
  simp only at eM
  split at eM
  ·rename_i l e1
   rw[gn] at eM
   obtain⟨u,h1,h2⟩:=qK hX fv e1
   exact⟨u,h1,.inl ⟨_,_,ρ',u,rfl,h2,fv.mh,eM⟩⟩
  ·exact eM.elim
 |exit n=>exact hk.elim
def TS (P:Program)(T:cf)(C:Nat→Option Ct)(n cG aL:Nat)(fn:Func)(c:Code)(H:LH)(args:List SV)(fr:Nat)(out:cJ):Prop :=
 ∃(ps:List (Nat × HB)) (dR:List SV) (dJ:List (Nat × HB)) (fh:Nat) (K:List Nat),args=cX (nz ps) dR∧eU ps.length [] dR=true∧dR.length≤fn.ntmps∧Hand H ps∧dJ=kA 0 ps∧fh=ps.length ∧
  ∀G:cp,(∀j,fh≤j→G.ρ j=none)→exec ⟨P,T,C,G,none,fn.ntmps⟩ c (start dR dJ fh) (GO ⟨P,T,C,G,none,fn.ntmps⟩ n cG aL fn.results.toList
   (λv st=>(out.bL=none∨∃ch,out.bL=some (false,ch))∧pZ ps K fr out v st))
theorem sD {P:Program}{T:cf}{C:Nat→Option Ct}(hX:∀G r nt,(⟨P,T,C,G,r,nt⟩:Cx).Ok){n cG aL:Nat}(hA:oF P n (kE cG) aL){f:Nat}{fn:Func}{c:Code}(hf:P.funcs[f]?=some fn)(hb:fn.body=some c){ct:Ct}
  (h:∀fr args H out,ct fr args H=some out→fc out.pre→TS P T C n cG aL fn c H args fr out):aP P f ct :=
 x7 (nt:=fn.ntmps) λfr args H out h1 h2=>by
  obtain⟨ps,dR,dJ,fh,K,h1,h2,h3,h4,h5,h6,hex⟩:=h fr args H out h1 h2
  refine⟨ps,dR,dJ,fh,K,h1,h2,h3,h4,h5,h6,fun ρ w aM hd hm aU=>?_⟩
  exact(Vr (X:=⟨P,T,C,⟨w,Own ρ (ab dJ),ρ,Fz (ab dJ)⟩,none,fn.ntmps⟩) (hX _ _ _) rfl hA hf hb rfl hd h3 hm rfl aU (hex _ aU)).mono λe w' he=>he.mono (λ_ _ h=>h) (λ_ _ h=>h.elim)
end
section
variable {X:Cx}{st:St}
end
def acm (cu n0:Nat)(v':Bool)(H':List (Nat × HB))(aA:Nat):Ex→St→Prop
 |.normal,st=>tu (ab st.H) cu .busy λnt fn ps a b db Fl pd=>∃s,oH n0 (.sb true) ((cu,.loop Fl nt fn ps a b db .ready none)::st.H) st.nx (.sb v') H' aA s
 |.ret,st=>tu (ab st.H) cu .busy λnt fn ps a b db Fl pd=>∃s,oH n0 (.sb false) ((cu,.loop Fl nt fn ps a b db .done (some .ret))::st.H) st.nx (.sb v') H' aA s
 |.exit n,st=>tu (ab st.H) cu .busy λnt fn ps a b db Fl pd=>∃s,oH n0 (.sb false) ((cu,.loop Fl nt fn ps a b db .done (some (.exit n)))::st.H) st.nx (.sb v') H' aA s
 |.panic _,_=>False
def oL (P:Program)(T:cf)(C:Nat→Option Ct)(cu:Nat)(args:List SV)(H:List (Nat × HB))(nx:Nat)(v:Bool)(H':List (Nat × HB))(aA:Nat):Prop :=
 ∀(G:cp) (rr:Option Nat) (nt:Nat) (ops:List Oper) (i:Nat) (o:Oper) (r:List Oper) (Q:Exit→Act→World→Prop) (K:St→Prop) (Kp:List PanicEntry→St→Prop) (c:Call) (g:Operand) (F:List (Nat × FE)) (gs:List Nat) (D:List fE),
  dm ⟨P,T,C,G,rr,nt⟩ Q K Kp→ops.drop i=o::r→o.op=.call c→c.callee=.value g→o.guard=none→eF gs nt o.dst=false→ev (findF F) [] g=some (.fy cu)→nJ (findF F) [] c.args.toList=some args →
  tA ⟨F,gs,H,nx,D⟩ o.dst (.sb v) H' aA (c7 ⟨P,T,C,G,rr,nt⟩ ops Q K Kp (i+1) r)→eB ⟨P,T,C,G,rr,nt⟩ ops Q K Kp i o r ⟨F,gs,H,nx,D⟩
theorem tQ {P:Program}{T:cf}{C:Nat→Option Ct}(cu:Nat){args:List SV}{H:List (Nat × HB)}{nx:Nat}{v':Bool}{H':List (Nat × HB)}{aA:Nat}{Fl l':List (Nat × SV)}{nt fn db:Nat}{ps:List Nat}{nM bo:Code}{pd:Option Code}
  (hX:∀G r nt,(⟨P,T,C,G,r,nt⟩:Cx).Ok) (h3:ab H cu=some (.loop Fl nt fn ps nM bo db .ready pd)) (h4:lJ ps args Fl=some l') (wK:∀p∈ps,p<nt)
  (YB:∀(G:cp) (r:Option Nat),(∀j,nx≤j→G.ρ j=none)→exec ⟨P,T,C,G,r,nt⟩ nM ⟨vU l',[],H,nx,[]⟩ (MW ⟨P,T,C,G,r,nt⟩ cu bo (acm cu nx v' H' aA))):oL P T C cu args H nx v' H' aA:=by
 intro G0 rr0 Rz ops i o r Q K Kp c g F gs D hC hi hc bi hg hp h1 h2 uD
 obtain⟨X,yu⟩:∃X:Cx,(⟨P,T,C,G0,rr0,Rz⟩:Cx)=X:=⟨_,rfl⟩
 obtain⟨st,bD⟩:∃st:St,(⟨F,gs,H,nx,D⟩:St)=st:=⟨_,rfl⟩
 have A_:X.Ok:=yu ▸ hX _ _ _
 have Yd:X.P=P:=by rw[←yu]
 have Ye:X.T=T:=by rw[←yu]
 have Yc:X.C=C:=by rw[←yu]
 have Y_:X.nt=Rz:=by rw[←yu]
 have ZA:st.F=F:=by rw[←bD]
 have ZB:st.H=H:=by rw[←bD]
 have ZE:st.nx=nx:=by rw[←bD]
 have ZD:st.gs=gs:=by rw[←bD]
 have Zz:st.D=D:=by rw[←bD]
 rw[yu] at hC uD ⊢
 rw[bD] at uD ⊢
 subst Yd Ye Yc
 rw[←Y_] at hp
 subst ZA ZB ZE ZD Zz
 refine⟨fun ρ a w hm=>?_⟩
 have hs:bu a []:=λx hx=>by cases hx
 have e1:=aQ hm.fm hs h1
 have e2:=q7 hm.fm hs h2
 obtain⟨nm,hn,ap⟩:=hm.hm.ok _ _ h3
 cases nm<;>simp only[ao] at ap
 rename_i lb
 obtain⟨tmps,kQ,k3,k4,k5,k6⟩:=ap
 simp only[den,hn,Option.some.injEq] at e1
 obtain⟨dr,Bl⟩:=K0 (ρ:=ρ) (tmps:=tmps) h4 e2 (λp ko=>by rw[k5];exact wK p ko) k6
 have hlen:(c.args.toList.map a.eval).length=ps.length:=by
  have:∀(ps:List Nat) (xs:List SV) (l l':List (Nat × SV)),lJ ps xs l=some l'→xs.length=ps.length:=by
   intro ps
   induction ps with
   |nil=>intro xs l l' h;cases xs with|nil=>rfl|cons _ _=>simp[lJ] at h
   |cons p ps ih=>intro xs l l' h;cases xs with|nil=>simp[lJ] at h|cons x xs=>simp only[lJ] at h;simp[ih _ _ _ h]
  rw[j8 e2,this _ _ _ _ h4]
 have cr:(execOp a.eval o).run X.P w=.ok (.round lb fn ((ps.zip (c.args.toList.map a.eval)).foldl (λ(t:Array Value) (x:Nat × Value)=>t.setIfInBounds x.1 x.2) tmps) nM bo) w:=by
  have fI:(resolve a.eval c o.type).run X.P w=.ok { target:=.fn (.yield lb) #[],args:=c.args.map a.eval } w:=by
   simp only[resolve,bi,←e1]
   simp[Deferred.ofValue]
  have hy:=run_yield (P:=X.P) (l:=lb) (args:=c.args.map a.eval) k4 (by simpa using hlen)
  simp only[execOp,hc,Sem.run_bind,fI,Result.andThen,invoke]
  rw[hy]
  congr 2
  simp only[]
  rw[←Array.foldl_toList]
  simp[Array.toList_zip]
 have ho:ops[i]?=some o:=by
  have:=congrArg (λl=>l[0]?) hi
  simpa using this
 have eu:ops.drop (i+1)=r:=by
  have:=congrArg List.tail hi
  simpa using this
 rw[List.range'_succ]
 refine wpOps_cons (by simpa using ho) (λ_=>?_) (λhw=>by rw[jS hg] at hw;cases hw)
 refine⟨(λf _=>mB X.r f),?_⟩
 have JP:(o.semAt (FW X.r).round a.eval).run X.P w=(execOp a.eval o).run X.P w:=by
  rw[vk]
  cases hr:X.r with
  |none=>rw[Oper.semAt_none]
  |some l0=>simp only[Oper.semAt,hc]
 rw[JP,cr,Oper.uponIn_round]
 refine⟨(λh=>by rw[Da] at h;cases h),?_⟩
 have hex:=YB ⟨w,Own ρ (ab st.H),ρ,Fz (ab st.H)⟩ (some lb) hm.nx
 have Bv:Mod ⟨X.P,X.T,X.C,⟨w,Own ρ (ab st.H),ρ,Fz (ab st.H)⟩,some lb,nt⟩ ρ ⟨vU l',[],st.H,st.nx,[]⟩ { tmps:=(ps.zip (c.args.toList.map a.eval)).foldl (λ(t:Array Value) (x:Nat × Value)=>t.setIfInBounds x.1 x.2) tmps,defers:=[] } w:={
  fm:=λt e hf=>by
   obtain⟨g1,g2⟩:=AO hf
   refine⟨λ_=>Bl t _ g2,λJx=>absurd (show bu _ e.gp by rw[g1];intro x hx;cases hx) Jx⟩
  gs:=λt e hf x hx=>by rw[(AO hf).1] at hx;cases hx
  df:=trivial
  hm:=hm.hm
  kp:=⟨dF.refl _,Nat.le_refl _,λ_ _ _=>rfl,λb ho=>.inl ho,Ext.refl _,λb hz=>.inr (.inr hz)⟩
  nx:=hm.nx
  sz:=by rw[dr,k5] }
 have hw:=cW (hX _ _ _) nM _ _ hex ρ _ w Bv
 refine roundIn_of_wpIn (F:=FW X.r) (mB _ _) (wpIn_mono hw ?_)
 rintro e lh jJ ⟨x,st1,C_,rfl,ck,hk⟩
 cases x with
 |normal =>
  obtain⟨TG,nt1,WU,ps1,a1,b1,VQ,xb,Bi,Jc⟩:=uL hk
  have ly:C_ cu=some (.bO lb):=ck.kp.ext _ _ hn
  obtain⟨r1,BI,JQ,Ju⟩:=ck.Gb ly Bi
  refine⟨_,run_beginRound (P:=X.P) BI JQ,?_⟩
  have yE:r1.pending=xb:=by
   obtain⟨nm,j1,j2⟩:=ck.hm.ok _ _ Bi
   rw[ly] at j1;cases j1
   obtain⟨tm,dn,_,j4,_⟩:=j2
   rw[BI] at j4;cases j4;rfl
  have Bw:=Ju .busy xb
  have he:({ r1 with state:=LoopState.busy,pending:=xb }:Loop)={ r1 with state:=LoopState.busy }:=by rw[←yE]
  rw[he] at Bw
  refine wpIn_mono (cW (hX _ _ _) bo _ _ Jc C_ lh _ Bw) ?_
  rintro e xI jl ⟨x,oD,zy,rfl,cI,bA⟩
  have fin:∀(jump:Option Code) (mu kS:Nat) (mz:List Nat) (a2 b2:Code) (lY:Nat) (lP:List (Nat × SV)) (qH:Option Code),ab oD.H cu=some (.loop lP mu kS mz a2 b2 lY .busy qH) →
    (∃s,oH st.nx (.sb jump.isNone) ((cu,.loop lP mu kS mz a2 b2 lY (if jump.isNone then .ready else .done) jump)::oD.H) oD.nx (.sb v') H' aA s) →
    ∃v w',(Instr.endRound lb jump).run X.P jl=.ok v w'∧wpOpsIn (FW X.r) 0 X.P ops.toArray Q (List.range' (i+1) r.length) (a.put o.dst v) w':=by
   intro jump mu kS mz a2 b2 lY lP qH l_ aI
   obtain⟨s,BM⟩:=aI
   have qv:zy cu=some (.bO lb):=cI.kp.ext _ _ hn
   obtain⟨r2,BJ,ZG,Jv⟩:=cI.Gb qv l_
   have lz:=Jv (if jump.isNone then .ready else .done) jump
   refine⟨_,_,run_endRound (P:=X.P) jump BJ,?_⟩
   have YP:jump.isNone=v':=by
    have:=BM.v
    simpa [eY,bX] using this
   have YX:Mod ⟨X.P,X.T,X.C,⟨w,Own ρ (ab st.H),ρ,Fz (ab st.H)⟩,some lb,0⟩ zy ⟨[],[],(cu,.loop lP mu kS mz a2 b2 lY (if jump.isNone then .ready else .done) jump)::oD.H,oD.nx,[]⟩ { tmps:=#[],defers:=[] } (jl.putObj lb (.loop { r2 with state:=(if jump.isNone then .ready else .done),pending:=jump })):={
    fm:=λt e hf=>by cases hf
    gs:=λt e hf=>by cases hf
    df:=trivial
    hm:=lz.hm
    kp:=lz.kp
    nx:=lz.nx
    sz:=rfl }
   have Js:=YX.oz (n0:=st.nx) (s:=s) (af:=⟨[],[],H',aA,[]⟩) ⟨trivial,BM.H,BM.inj,BM.fix,BM.ge,rfl,trivial⟩ hm.nx
   have og:=(hm.call (H':=H') (aA:=aA) Js.hm Js.kp Js.nx).put (d:=o.dst) (s:=.sb jump.isNone) hp rfl
   rw[YP] at og ⊢
   cases bz:o.dst with
   |none=>rw[bz] at og uD;exact kf A_ hC.k hC.p r (i+1) _ _ _ _ eu uD og
   |some d=>rw[bz] at og uD;exact kf A_ hC.k hC.p r (i+1) _ _ _ _ eu uD og
  cases x with
  |normal =>
   obtain⟨lP,mu,kS,mz,a2,b2,lY,qH,l_,aI⟩:=uL bA
   exact fin none _ _ _ _ _ _ _ _ l_ aI
  |ret =>
   obtain⟨lP,mu,kS,mz,a2,b2,lY,qH,l_,aI⟩:=uL bA
   exact fin (some .ret) _ _ _ _ _ _ _ _ l_ aI
  |exit n =>
   obtain⟨lP,mu,kS,mz,a2,b2,lY,qH,l_,aI⟩:=uL bA
   exact fin (some (.exit n)) _ _ _ _ _ _ _ _ l_ aI
  |panic ch=>exact bA.elim
 |ret=>exact hk.elim
 |exit n=>exact hk.elim
 |panic ch=>exact hk.elim
theorem eI {ι:Type}{P:Program}{T:cf}{C:Nat→Option Ct}(hX:∀G r nt,(⟨P,T,C,G,r,nt⟩:Cx).Ok){n:Nat}{fn:Func}{c:Code}(hf:P.funcs[n]?=some fn)(hb:fn.body=some c){l:List SV}(hlen:l.length≤fn.ntmps)
  {H:List (Nat × HB)} {nx:Nat} {Rv:SV→List (Nat × HB)→Nat→Prop} {Rp:List PanicEntry→List (Nat × HB)→Nat→Prop} (v':ι→SV) (H':ι→List (Nat × HB)) (aA:Nat)
  (h:∀G:cp,(∀j,nx≤j→G.ρ j=none)→exec ⟨P,T,C,G,none,fn.ntmps⟩ c (start l H nx) (Fin ⟨P,T,C,G,none,fn.ntmps⟩ fn.results.toList (λv st=>∃x s,oH nx v st.H st.nx (v' x) (H' x) aA s) (λ_ _=>False)))
  (hk:∀x,Rv (v' x) (H' x) aA):bG P n l H nx Rv Rp:=by
 intro ρ w aM hm aU hd
 refine(cT hX hf hb hlen (Rv:=λv jM jV=>∃x s,oH nx v jM jV (v' x) (H' x) aA s) (Rp:=λ_ _ _=>False) h ρ w aM hm aU hd).mono ?_
 rintro e w' (⟨v,jM,jV,fo,u,rfl,h1,h2,h3,h4,x,s,hs⟩|⟨_,_,_,_,_,_,_,_,hF⟩)
 ·have ck:Mod ⟨P,T,C,⟨w,Own ρ (ab H),ρ,Fz (ab H)⟩,none,0⟩ fo ⟨[],[],jM,jV,[]⟩ { tmps:=#[],defers:=[] } w':={
   fm:=λt e hf=>by cases hf
   gs:=λt e hf=>by cases hf
   df:=trivial
   hm:=h2
   kp:=h3
   nx:=h4
   sz:=rfl }
  have cI:=ck.oz (n0:=nx) (s:=s) (af:=⟨[],[],H' x,aA,[]⟩) ⟨trivial,hs.H,hs.inj,hs.fix,hs.ge,rfl,trivial⟩ aU
  exact .inl ⟨v' x,H' x,aA,_,u,rfl,by rw[ui _ hs.vi,←tR _ _ hs.v];exact h1,cI.hm,cI.kp,cI.nx,hk x⟩
 ·exact hF.elim
end Go.X
namespace Go.X.Gr
open Go Go.Proofs Go.X
noncomputable abbrev P:Program:=Tryz.prog
def pl:List Nat:=[36,120,157,171]
theorem pO:xA P pl:=by
 intro t ht
 simp only[pl,List.mem_cons,List.not_mem_nil,or_false] at ht
 rcases ht with rfl|rfl|rfl|rfl
 ·exact⟨by kernel_rfl,by kernel_rfl,by decide⟩
 ·exact⟨by kernel_rfl,by kernel_rfl,by decide⟩
 ·exact⟨by kernel_rfl,by kernel_rfl,by decide⟩
 ·exact⟨by kernel_rfl,by kernel_rfl,by decide⟩
noncomputable abbrev T:cf:=xn P pl
theorem bP:P.follows .mixedOrders=true:=by kernel_rfl
theorem ah:Good P T []:=⟨ve pO,λp h=>by cases h⟩
def code (f:Func):Code:=match f.body with
 |some c=>c
 |none=>.skip
theorem bZ {F:Nat→Option FE}{p:Prop}(h:p):∀{π:GP},xp F π p
 |[]=>h
 |(a,b)::r=>by
  simp only[xp]
  split
  ·exact λ_=>bZ h
  ·exact bZ h
def aE (n lo hi:Int):Bool:=decide (lo≤n)&&decide (n≤hi)
def fq:Ct:=bd fun
 |[.si .i64 a,.si .i64 b,.si .i64 c]=>some ⟨none,none,.sb (aE a b c),[]⟩
 |_=>none
theorem k91 {l:List (Nat × Ct)}(g:Good P T l):aP P 84 fq:=bq (C:=aC l) g.ok Tryz.func84 (c:=code Tryz.f84) rfl λfr args H out h hp=>by
 simp only[fq,bd] at h
 split at h
 ·cases h
  refine dt rfl (Nat.le_of_ble_eq_true rfl) λG hG=>?_
  refine⟨.inl rfl,cz rfl rfl rfl⟩
 ·cases h
theorem IB {l:List (Nat × Ct)}(g:Good P T l):Good P T ((84,fq)::l):=g.add (k91 g) (cZ _) (aw Tryz.func84 (c:=code Tryz.f84) rfl (by decide))
theorem k90 {l:List (Nat × Ct)}(g:Good P T l):aP P 59 fq:=bq (C:=aC l) g.ok Tryz.func59 (c:=code Tryz.f59) rfl λfr args H out h hp=>by
 simp only[fq,bd] at h
 split at h
 ·cases h
  refine dt rfl (Nat.le_of_ble_eq_true rfl) λG hG=>?_
  refine⟨.inl rfl,cz rfl rfl rfl⟩
 ·cases h
theorem OT {l:List (Nat × Ct)}(g:Good P T l):Good P T ((59,fq)::l):=g.add (k90 g) (cZ _) (aw Tryz.func59 (c:=code Tryz.f59) rfl (by decide))
def iX (e:Int):List PanicEntry:=[{ v:=kE 152 .i64 e,recovered:=false }]
def nT:Ct:=bd fun
 |[.sb b,.si .i64 e]=>some ⟨none,some (!b,iX e),.bn [],[]⟩
 |_=>none
theorem B8 {l:List (Nat × Ct)}(g:Good P T l):aP P 83 nT:=by
 refine bq (C:=aC _) g.ok Tryz.func83 (c:=code Tryz.f83) rfl λfr args H out h hp=>?_
 simp only[nT,bd] at h
 split at h
 ·rename_i b e
  cases h
  refine dt rfl (Nat.le_of_ble_eq_true rfl) λG hG=>?_
  refine Br.mk (λh=>?_) (λh=>?_)
  ·refine AM aj rfl rfl rfl ?_
   exact⟨by rw[h];rfl,trivial⟩
  ·exact⟨.inr ⟨_,by rw[h]⟩,cz trivial rfl rfl⟩
 ·cases h
theorem v7 {l:List (Nat × Ct)}(g:Good P T l):Good P T ((83,nT)::l):=g.add (B8 g) (cZ _) (aw Tryz.func83 (c:=code Tryz.f83) rfl (by decide))
theorem sn:Body P 49:=aw Tryz.func49 (c:=code Tryz.f49) rfl (by decide)
theorem hV (ρ:Env)(k:IntKind)(m:Int):den ρ (.cg 152 (.agg [.si k m]))=some (kE 152 k m):=by
 simp[den,ai,kE,Value.oneCell']
theorem G6:oF P 105 (kE 152) 47:=by
 refine sh (C:=aC []) (Vs:=λk m=>.cg 152 (.agg [.si k m])) ah.ok hV Tryz.func105 (c:=_) rfl (by decide) rfl rfl rfl rfl rfl rfl (by decide) (by decide) ?_ ?_
 ·intro x G Q hG hC
  refine av (ah.ok _ _ _) hC rfl rfl rfl rfl ?_
  refine⟨sn,?_⟩
  refine cT ah.ok Tryz.func49 (c:=code Tryz.f49) rfl (Nat.le_of_ble_eq_true rfl) λG2 b_=>?_
  refine Br.mk (λh=>?_) (λh=>by cases h)
  exact rfl
 ·intro x k m G Q hG hC
  refine av (ah.ok _ _ _) hC rfl rfl rfl rfl ?_
  refine⟨sn,?_⟩
  refine cT ah.ok Tryz.func49 (c:=code Tryz.f49) rfl (Nat.le_of_ble_eq_true rfl) λG2 b_=>?_
  refine Br.mk (λh=>by cases h) (λ_=>?_)
  refine Br.mk (λh=>by cases h) (λ_=>?_)
  exact rfl
theorem Ub:oF P 109 (kE 152) 47:=by
 refine sh (C:=aC []) (Vs:=λk m=>.cg 152 (.agg [.si k m])) ah.ok hV Tryz.func109 (c:=_) rfl (by decide) rfl rfl rfl rfl rfl rfl (by decide) (by decide) ?_ ?_
 ·intro x G Q hG hC
  refine av (ah.ok _ _ _) hC rfl rfl rfl rfl ?_
  refine⟨sn,?_⟩
  refine cT ah.ok Tryz.func49 (c:=code Tryz.f49) rfl (Nat.le_of_ble_eq_true rfl) λG2 b_=>?_
  refine Br.mk (λh=>?_) (λh=>by cases h)
  exact rfl
 ·intro x k m G Q hG hC
  refine av (ah.ok _ _ _) hC rfl rfl rfl rfl ?_
  refine⟨sn,?_⟩
  refine cT ah.ok Tryz.func49 (c:=code Tryz.f49) rfl (Nat.le_of_ble_eq_true rfl) λG2 b_=>?_
  refine Br.mk (λh=>by cases h) (λ_=>?_)
  refine Br.mk (λh=>by cases h) (λ_=>?_)
  exact rfl
theorem Uc:oF P 48 (kE 152) 47:=by
 refine sh (C:=aC []) (Vs:=λk m=>.cg 152 (.agg [.si k m])) ah.ok hV Tryz.func48 (c:=_) rfl (by decide) rfl rfl rfl rfl rfl rfl (by decide) (by decide) ?_ ?_
 ·intro x G Q hG hC
  refine av (ah.ok _ _ _) hC rfl rfl rfl rfl ?_
  refine⟨sn,?_⟩
  refine cT ah.ok Tryz.func49 (c:=code Tryz.f49) rfl (Nat.le_of_ble_eq_true rfl) λG2 b_=>?_
  refine Br.mk (λh=>?_) (λh=>by cases h)
  exact rfl
 ·intro x k m G Q hG hC
  refine av (ah.ok _ _ _) hC rfl rfl rfl rfl ?_
  refine⟨sn,?_⟩
  refine cT ah.ok Tryz.func49 (c:=code Tryz.f49) rfl (Nat.le_of_ble_eq_true rfl) λG2 b_=>?_
  refine Br.mk (λh=>by cases h) (λ_=>?_)
  refine Br.mk (λh=>by cases h) (λ_=>?_)
  exact rfl
def eZ (a b:Int):Int:=if a=b then 0 else if(a=0∨b=0)∨(a+b).tmod 2=1 then 1 else 2
def i_:Ct:=bd fun
 |[.si .i64 a,.si .i64 b]=>some ⟨some (ae .i64 (a+b)),none,.si .i64 (eZ a b),[]⟩
 |_=>none
theorem Kk {l:List (Nat × Ct)}(g:Good P T l):aP P 112 i_:=by
 refine bq (C:=aC _) g.ok Tryz.func112 (c:=code Tryz.f112) rfl λfr args H out h hp=>?_
 simp only[i_,bd] at h
 split at h
 ·rename_i a b
  cases h
  have hp:ae .i64 (a+b):=hp
  refine dt rfl (Nat.le_of_ble_eq_true rfl) λG hG=>?_
  refine Br.mk (λh=>?_) (λh=>?_)
  ·have h:a=b:=of_decide_eq_true h
   exact⟨.inl rfl,cz (by rw[eZ,if_pos h];exact⟨rfl,rfl⟩) rfl rfl⟩
  ·have h:¬a=b:=of_decide_eq_false h
   refine aa.mk (λ_=>hp) (aa.mk (bZ (show(2:Int)≠0 from by decide)) ?_)
   refine Br.mk (λh2=>?_) (λh2=>?_)
   ·have h2:(decide (a=0)||decide (b=0)||decide ((a+b).tmod 2=1))=true:=h2
    simp only[Bool.or_eq_true,decide_eq_true_eq] at h2
    exact⟨.inl rfl,cz (by rw[eZ,if_neg h,if_pos h2];exact⟨rfl,rfl⟩) rfl rfl⟩
   ·have h2:(decide (a=0)||decide (b=0)||decide ((a+b).tmod 2=1))=false:=h2
    have h2:¬((a=0∨b=0)∨(a+b).tmod 2=1):=λe=>by
     have:(decide (a=0)||decide (b=0)||decide ((a+b).tmod 2=1))=true:=by simpa only[Bool.or_eq_true,decide_eq_true_eq] using e
     rw[h2] at this;cases this
    exact⟨.inl rfl,cz (by rw[eZ,if_neg h,if_neg h2];exact⟨rfl,rfl⟩) rfl rfl⟩
 ·cases h
theorem IA {l:List (Nat × Ct)}(g:Good P T l):Good P T ((112,i_)::l):=g.add (Kk g) (cZ _) (aw Tryz.func112 (c:=code Tryz.f112) rfl (by decide))
def wT (f v lo lv:Int):Bool:=decide (f≤lo)&&decide (v≤lv)
def Hu:Ct:=bd fun
 |[.agg [.si .i64 a,.si .i64 b],.agg [.si .i64 c,.si .i64 d]]=>some ⟨none,none,.sb (wT a b c d),[]⟩
 |_=>none
theorem k73 {l:List (Nat × Ct)}(g:Good P T l):aP P 114 Hu:=by
 refine bq (C:=aC _) g.ok Tryz.func114 (c:=code Tryz.f114) rfl λfr args H out h hp=>?_
 simp only[Hu,bd] at h
 split at h
 ·rename_i a b c d
  cases h
  refine dt rfl (Nat.le_of_ble_eq_true rfl) λG hG=>?_
  exact⟨.inl rfl,cz rfl rfl rfl⟩
 ·cases h
theorem XA {l:List (Nat × Ct)}(g:Good P T l):Good P T ((114,Hu)::l):=g.add (k73 g) (cZ _) (aw Tryz.func114 (c:=code Tryz.f114) rfl (by decide))
end Go.X.Gr
