/- The executor is sound: operations, regions, code; Ids renamed; contracts out of walks. -/
import Derived.Test.YtfhkkhgbjbnenaaGreatDoorTSA
import Derived.Test.YtfhkkhgbjbnenaaGreatDoorProg
import Derived.OrdersIn

set_option linter.unusedVariables false
set_option linter.unusedSimpArgs false
set_option linter.unusedSectionVars false
set_option maxRecDepth 100000
set_option maxHeartbeats 4000000

namespace Go.X
open Go
section
variable {X:Cx}{ρ:Env}{st:St}{a:Act}{w:World}
theorem Da (r:Option Nat):(FW r).depth=none:=rfl
theorem mB (r:Option Nat)(f:Nat):(FW r).fn f:=trivial
theorem vk (r:Option Nat):(FW r).round=r:=rfl
theorem M_ {r:Option Nat}{P:Program}{f:Nat}{args:Array Value}{w:World}{R:Ending→World→Prop}(h:Calls P f args w R):CallsIn (FW r) (0-1) P f args w R :=
 (callsIn_wide (n:=0)).2 h
theorem xu {r:Option Nat}{P:Program}{o:Oper}{next:Act→World→Prop}{Q:Exit→Act→World→Prop}{v:Value}{w':World}(hd:∀c,o.op≠.defer c)
  (h:(execOp a.eval o).run P w=.ok (.value v) w') (hn:next (a.put o.dst v) w'):o.wpIn (FW r) 0 P a w next Q:=by
 refine⟨λf _=>mB r f,?_⟩
 rw[Oper.semAt_eq _ _ _ hd,h]
 exact hn
theorem LY {r:Option Nat}{P:Program}{o:Oper}{next:Act→World→Prop}{Q:Exit→Act→World→Prop}{w':World}(hd:∀c,o.op≠.defer c)
  (h:(execOp a.eval o).run P w=.ok .skip w') (hn:next (a.put o.dst undef) w'):o.wpIn (FW r) 0 P a w next Q:=by
 refine⟨λf _=>mB r f,?_⟩
 rw[Oper.semAt_eq _ _ _ hd,h]
 exact hn
theorem vf {r:Option Nat}{P:Program}{o:Oper}{next:Act→World→Prop}{Q:Exit→Act→World→Prop}{n:Nat}{args:Array Value}{R:Ending→World→Prop}(hd:∀c,o.op≠.defer c)
  (h:(execOp a.eval o).run P w=.ok (.enter n args) w) (hc:Calls P n args w R)
  (hn:∀e w',R e w'→match e with
   |.returned v=>next (a.put o.dst v) w'
   |.panicked ch=>Q (.panic ch) a w'
   |.outgrown=>False):o.wpIn (FW r) 0 P a w next Q:=by
 refine⟨λf _=>mB r f,?_⟩
 rw[Oper.semAt_eq _ _ _ hd,h]
 refine⟨λhd=>(by rw[Da] at hd;cases hd),M_ (hc.mono λe w' hr=>?_)⟩
 have:=hn e w' hr
 cases e with
 |returned v=>exact this
 |panicked ch=>exact this
 |outgrown=>exact this.elim
theorem wpOps_cons {r:Option Nat}{P:Program}{ops:Array Oper}{Q:Exit→Act→World→Prop}{i:Nat}{rest:List Nat}{o:Oper}(ho:ops[i]?=some o)
  (h1:Region.wanted o (yielded ops a.tmps)=true→o.wpIn (FW r) 0 P a w (wpOpsIn (FW r) 0 P ops Q rest) Q)
  (h2:Region.wanted o (yielded ops a.tmps)=false→wpOpsIn (FW r) 0 P ops Q rest (a.put o.dst undef) w):wpOpsIn (FW r) 0 P ops Q (i::rest) a w:=by
 simp only[wpOpsIn,ho]
 split
 ·rename_i h;exact h1 h
 ·rename_i h
  exact⟨λf _=>mB r f,h2 (by simpa using h)⟩
theorem jS {o:Oper}(h:o.guard=none)(y:Nat→Option Bool):Region.wanted o y=true:=by simp[Region.wanted,h]
theorem Eu {F:LF}(hF:FM ρ F a){ops:List Oper}{o:Oper}{π:GP}(h:guardOf ops F o.guard=some π) :
  (Region.wanted o (yielded ops.toArray a.tmps)=true↔bu a π):=by
 cases hg:o.guard with
 |none =>
  rw[hg] at h
  simp only[guardOf,Option.some.injEq] at h
  subst h
  exact Iff.intro (λ_=>λx hx=>by cases hx) (λ_=>jS hg _)
 |some p =>
  obtain⟨j,want⟩:=p
  rw[hg] at h
  simp only[guardOf] at h
  split at h
  ·rename_i oj e1
   split at h
   ·rename_i d e2
    split at h
    ·rename_i e e3
     cases h
     rw[jA] at e1
     have hw:Region.wanted o (yielded ops.toArray a.tmps)=true↔a.tmps[d]?=some (.bool want):=by
      simp only[Region.wanted,hg,yielded,List.getElem?_toArray,e1,Option.bind_some,e2]
      cases hv:a.tmps[d]? with
      |none=>simp
      |some v=>cases v<;>simp
     rw[hw]
     constructor
     ·intro hd x hx
      rcases List.mem_cons.1 hx with rfl|hx
      ·exact hd
      ·rcases Classical.em (bu a e.gp) with hs|hs
       ·exact hs x hx
       ·have:=(hF d e e3).2 hs
        rw[hd] at this;cases this
     ·intro hs;exact hs (d,want) List.mem_cons_self
    ·cases h
   ·cases h
  ·cases h
theorem yU {π:GP}(h:rM π=true):π=[]:=by cases π<;>first|rfl|cases h
theorem adV {F:LF}(hF:FM ρ F a){π:GP}{p:Prop}(hs:bu a π)(h:xp F π p)(cq:∀σ,(∃τ,π=τ++σ)→bu a σ):p:=by
 induction π with
 |nil=>exact h
 |cons x r ih =>
  obtain⟨s,want⟩:=x
  have uJ:bu a r:=λy hy=>hs y (List.mem_cons_of_mem _ hy)
  have Pe:∀σ,(∃τ,r=τ++σ)→bu a σ:=fun σ ⟨τ,e⟩=>cq σ ⟨(s,want)::τ,by rw[e];rfl⟩
  simp only[xp] at h
  split at h
  ·rename_i gp q e
   refine ih uJ (h ?_) Pe
   have hv:=hs (s,want) List.mem_cons_self
   rcases Classical.em (bu a gp) with hg|hg
   ·obtain⟨v,h1,h2⟩:=(hF s _ e).1 hg
    rw[hv] at h1;cases h1
    simp only[den,Option.some.injEq,Value.bool.injEq] at h2
    exact h2
   ·have:=(hF s _ e).2 hg
    simp only at hv
    rw[hv] at this;cases this
  ·exact ih uJ h Pe
theorem GG {F:LF}(hF:FM ρ F a){π:GP}{p:Option Prop}(hs:bu a π)(h:fc (CZ F π p)):fc p:=by
 cases p with
 |none=>trivial
 |some p=>exact adV hF hs h (fun σ ⟨τ,e⟩ y hy=>hs y (by rw[e];exact List.mem_append_right _ hy))
theorem IH {F:LF}{ops:List Oper}{g:Option (Nat × Bool)}{π:GP}(h:guardOf ops F g=some π){gs:List Nat}(yB:∀t e,F t=some e→∀x∈e.gp,x.1∈gs)
  {d:Nat} (hd:F d=none) (hm:d ∉ gs):∀x∈π,x.1≠d:=by
 cases g with
 |none=>simp only[guardOf,Option.some.injEq] at h;subst h;intro x hx;cases hx
 |some p =>
  obtain⟨j,want⟩:=p
  simp only[guardOf] at h
  split at h
  ·split at h
   ·rename_i d' e2
    split at h
    ·rename_i e e3
     cases h
     intro x hx
     rcases List.mem_cons.1 hx with rfl|hx
     ·rintro rfl;rw[e3] at hd;cases hd
     ·rintro rfl;exact hm (yB _ _ e3 x hx)
    ·cases h
   ·cases h
  ·cases h
theorem abR (hm:Mod X ρ st a w){bL:Option (Bool × List PanicEntry)}{v:SV}{news:List (Nat × HB)}{pre:Option Prop}{Kp:List PanicEntry→St→Prop}{k:Prop}(h:RU bL st Kp k){e:Ending}{w':World}
  (hc:xw ρ (ab st.H) st.nx w ⟨pre,bL,v,news⟩ e w') :
  (∃ch,e=.panicked ch∧∃af,Mod X ρ af a w'∧Kp ch af)∨(k∧∃ρ' u,e=.returned u∧pX ρ (ab st.H) st.nx w ⟨pre,bL,v,news⟩ u w' ρ'):=by
 cases bL with
 |none =>
  obtain⟨ρ',u,h1,h2⟩:=hc
  exact .inr ⟨h,ρ',u,h1,h2⟩
 |some p =>
  obtain⟨c,ch⟩:=p
  rcases hc with⟨gG,he,hs,hk,bD⟩|⟨pi,ρ',u,h1,h2⟩
  ·refine .inl ⟨ch,he,_,?_,h.t gG⟩
   exact{
    fm:=hm.fm
    gs:=hm.gs
    df:=hm.df
    hm:=hm.hm.world hs hk
    kp:=hm.kp.world hs hk bD
    nx:=hm.nx
    sz:=hm.sz }
  ·exact .inr ⟨h.f pi,ρ',u,h1,h2⟩
theorem Uh (hm:Mod X ρ st a w){d:Option Nat}{v:SV}{news:List (Nat × HB)}{K:St→Prop}(hp:eF st.gs X.nt d=false)(h:Dr v news st d K){pre:Option Prop}{bL:Option (Bool × List PanicEntry)}
  {u:Value} {w':World} {ρ':Env} (hc:pX ρ (ab st.H) st.nx w ⟨pre,bL,v,news⟩ u w' ρ'):∃ρ' af,Mod X ρ' af (a.put d u) w'∧K af:=by
 cases news with
 |nil =>
  obtain⟨h1,h2⟩:=hc.Rl hm rfl
  simp only[Dr,mP,Gv] at h
  refine⟨ρ,_,h1.put hp h2,?_⟩
  cases d<;>exact h
 |cons n r =>
  have h1:=hc.mod hm
  simp only[Dr,mP,fw,Wq,Lr,Gv] at h
  refine⟨ρ',_,h1.put hp hc.den,?_⟩
  cases d<;>exact h
theorem abB (hX:X.Ok)(hm:Mod X ρ st a w){ops:List Oper}{i:Nat}{rest:List Nat}{o:Oper}(ho:ops[i]?=some o){Q:Exit→Act→World→Prop}{Fb:Prop}{K:St→Prop}{Kp:List PanicEntry→St→Prop}
  (h:Cy X ops o st Fb K Kp) (wj:Fb→wpOpsIn (FW X.r) 0 X.P ops.toArray Q (i::rest) a w)
  (hK:∀ρ' af a' w',Mod X ρ' af a' w'→K af→wpOpsIn (FW X.r) 0 X.P ops.toArray Q rest a' w')
  (IN:∀ch ρ' af a' w',Mod X ρ' af a' w'→Kp ch af→Q (.panic ch) a' w'):wpOpsIn (FW X.r) 0 X.P ops.toArray Q (i::rest) a w:=by
 have uF:ops.toArray[i]?=some o:=by simpa using ho
 unfold Cy at h
 split at h
 ·rename_i π hg oo
  have k_:=Eu hm.fm hg
  split at h
  ·
   rename_i lB
   have Y8:=yU lB
   subst Y8
   have eE:bu a []:=λx hx=>by cases hx
   have hw:=k_.2 eE
   have PK:∀{Z:Prop},Region.wanted o (yielded ops.toArray a.tmps)=false→Z:=λhf=>by rw[hw] at hf;cases hf
   split at h
   ·rename_i pre v bT hc
    refine wpOps_cons uF (λ_=>?_) PK
    have ap:=vE hX.dx hm.fm eE hm.hm (hm.nx _ (Nat.le_refl _)) hc (vj h)
    rcases Ug hm oo (vh h) ap with⟨u,w',h1,ρ',af,h2,h3⟩|⟨w',h1,ρ',af,h2,h3⟩
    ·exact xu (uh hc) h1 (hK _ _ _ _ h2 h3)
    ·exact LY (uh hc) h1 (hK _ _ _ _ h2 h3)
   ·split at h
    ·rename_i c gr
     split at h
     ·rename_i pre bL v news ph
      refine wpOps_cons uF (λ_=>?_) PK
      obtain⟨n,args,h1,h2⟩:=Ac hX hm.fm eE hm.hm (λj hj _=>hm.nx j hj) (ty:=o.type) ph (vj h)
      have km:o.op=.call c:=by cases yD:o.op<;>rw[yD] at gr<;>simp[rG] at gr;rw[gr]
      refine vf (by rw[km];intro c' im;cases im) (by simp only[execOp,km];exact h1) h2 (λe w' hr=>?_)
      rcases abR hm (vh h) hr with⟨ch,he,af,h3,h4⟩|⟨hk,ρ',u,he,cK⟩
      ·subst he;exact IN ch ρ af a w' h3 h4
      ·subst he
       obtain⟨ic,af,h5,h6⟩:=Uh hm oo hk cK
       exact hK _ _ _ _ h5 h6
     ·exact wj h
    ·exact wj h
  ·
   rename_i lB
   split at h
   ·rename_i d hd
    split at h
    ·rename_i pre v ki hc
     have lx:findF st.F d=none:=by
      cases e:findF st.F d with
      |none=>rfl
      |some x=>rw[e] at ki;cases ki
     obtain⟨py,gV⟩:=za (hd ▸ oo)
     have aV:=IH hg hm.gs lx gV
     have rn:=vh h
     rw[mP,D7,D9,SR] at rn
     refine wpOps_cons uF (λhw=>?_) (λhw=>?_)
     ·have hs:=k_.1 hw
      obtain⟨u,h1,h2⟩:=vE hX.dx hm.fm hs hm.hm (hm.nx _ (Nat.le_refl _)) hc (GG hm.fm hs (vj h))
      refine xu (uh hc) h1 (hK ρ _ _ _ ?_ rn)
      rw[hd]
      exact hm.CE (hd ▸ oo) aV (λ_=>h2) (λhn=>absurd hs hn)
     ·have hs:¬bu a π:=λhs=>by rw[k_.2 hs] at hw;cases hw
      refine hK ρ _ _ _ ?_ rn
      rw[hd]
      exact hm.CE (hd ▸ oo) aV (λh=>absurd h hs) (λ_=>rfl)
    ·rename_i ki hc
     split at h
     ·rename_i c gr
      split at h
      ·rename_i pre v ph
       have lx:findF st.F d=none:=by
        cases e:findF st.F d with
        |none=>rfl
        |some x=>rw[e] at ki;cases ki
       obtain⟨py,gV⟩:=za (hd ▸ oo)
       have aV:=IH hg hm.gs lx gV
       have rn:=vh h
       rw[mP,D7,D9,SR] at rn
       refine wpOps_cons uF (λhw=>?_) (λhw=>?_)
       ·have hs:=k_.1 hw
        obtain⟨n,args,h1,h2⟩:=Ac hX hm.fm hs hm.hm (λj hj _=>hm.nx j hj) (ty:=o.type) ph (GG hm.fm hs (vj h))
        have km:o.op=.call c:=by cases yD:o.op<;>rw[yD] at gr<;>simp[rG] at gr;rw[gr]
        refine vf (by rw[km];intro c' im;cases im) (by simp only[execOp,km];exact h1) h2 (λe w' hr=>?_)
        obtain⟨ρ',u,he,cK⟩:=hr
        subst he
        obtain⟨h3,h4⟩:=cK.Rl hm rfl
        refine hK ρ _ _ _ ?_ rn
        rw[hd]
        exact h3.CE (hd ▸ oo) aV (λ_=>h4) (λhn=>absurd hs hn)
       ·have hs:¬bu a π:=λhs=>by rw[k_.2 hs] at hw;cases hw
        refine hK ρ _ _ _ ?_ rn
        rw[hd]
        exact hm.CE (hd ▸ oo) aV (λh=>absurd h hs) (λ_=>rfl)
      ·exact wj h
     ·exact wj h
    ·exact wj h
   ·exact wj h
 ·exact wj h
theorem kf (hX:X.Ok){ops:List Oper}{Q:Exit→Act→World→Prop}{K:St→Prop}{Kp:List PanicEntry→St→Prop}
  (hK:∀ρ' af a' w',Mod X ρ' af a' w'→K af→Q .normal a' w') (IN:∀ch ρ' af a' w',Mod X ρ' af a' w'→Kp ch af→Q (.panic ch) a' w') :
  ∀(l:List Oper) (i:Nat) (ρ:Env) (st:St) (a:Act) (w:World),ops.drop i=l→c7 X ops Q K Kp i l st→Mod X ρ st a w →
   wpOpsIn (FW X.r) 0 X.P ops.toArray Q (List.range' i l.length) a w:=by
 intro l
 induction l with
 |nil=>intro i ρ st a w _ h hm;exact hK ρ st a w hm h
 |cons o r ih =>
  intro i ρ st a w hd h hm
  have ho:ops[i]?=some o:=by
   have:=congrArg (λl=>l[0]?) hd
   simpa using this
  have eu:ops.drop (i+1)=r:=by
   have:=congrArg List.tail hd
   simpa using this
  simp only[c7] at h
  rw[show(o::r).length=r.length+1 from rfl,List.range'_succ]
  refine abB hX hm ho h (λhf=>?_) (fun ρ' af a' w' an hk=>ih (i+1) ρ' af a' w' eu hk an) IN
  have:=hf.h ρ a w hm
  rwa [List.range'_succ] at this
theorem zp {P:Program}{b:Frame}{a:Act}{k:List Item}{cs:List Frame}{w:World}{c:Code}:step P (lone (b.atR a (.code (.scope c)::k)) cs w)=.next (lone (b.atR a (.code c::.inScope c::k)) cs w) :=
 step_lone_go (by simp[stepG,stepG.exec,Frame.atR])
theorem adw {P:Program}{b:Frame}{a:Act}{k:List Item}{cs:List Frame}{w:World}{c:Code}:step P (lone (b.atR a (.inScope c::k)) cs w)=.next (lone (b.atR a k) cs w) :=
 step_lone_go (by simp[stepG,stepG.exec,Frame.atR])
theorem aew {F:Fence}{n:Nat}{P:Program}{Q:Exit→Act→World→Prop}{a:Act}{w:World}{c:Code}(h:c.wpIn F n P (Exit.noGoto Q) a w):(Code.scope c).wpIn F n P Q a w:=by
 intro b k cs kq hb hr
 have h0:(lone (b.atR a (.code (.scope c)::k)) cs w).fenced P F:=fenced_calm hb hr rfl
 obtain⟨e,lh,jJ,hq,kV⟩:=h b (.inScope c::k) cs kq hb hr
 cases e with
 |normal=>exact⟨.normal,lh,jJ,hq,.head h0 zp (StepsIn.trans kV (.one (fenced_calm hb hr rfl) adw))⟩
 |exit id =>
  have hx:exitTo id (.inScope c::k)=exitTo id k:=by simp[exitTo]
  exact⟨.exit id,lh,jJ,hq,λk' hk=>.head h0 zp (kV.1 k' (by rw[hx];exact hk)),
   λgW hk=>let ⟨aaB,h1,h2⟩:=kV.2 gW (by rw[hx];exact hk);⟨aaB,h1,.head h0 zp h2⟩⟩
 |goto l=>exact hq.elim
 |ret=>exact⟨_,lh,jJ,hq,.of_steps (.one h0 zp) kV⟩
 |panic ch=>exact⟨_,lh,jJ,hq,.of_steps (.one h0 zp) kV⟩
 |outgrown=>exact⟨_,lh,jJ,hq,.of_steps (.one h0 zp) kV⟩
theorem cW (hX:X.Ok):∀(c:Code) (st:St) (K:Ex→St→Prop),exec X c st K→aX X c st K:=by
 intro c
 induction c with
 |skip=>intro st K h ρ a w hm;exact wpIn_skip ⟨.normal,st,ρ,rfl,hm,h⟩
 |region id ops draw =>
  intro st K h ρ a w hm
  cases draw with
  |true=>exact h ρ a w hm
  |false =>
   refine wpIn_region ?_
   have hr:List.range ops.size=List.range' 0 ops.toList.length:=by simp[List.range_eq_range']
   have:=kf hX (ops:=ops.toList) (Q:=sf X K) (K:=λst=>mN st (K .normal)) (Kp:=λch st=>K (.panic ch) st)
    (fun ρ' af a' w' an hk=>⟨.normal,af,ρ',rfl,an,by unfold mN at hk;split at hk<;>exact hk⟩)
    (λch ρ' af a' w' an hk=>⟨.panic ch,af,ρ',rfl,an,hk⟩) ops.toList 0 ρ st a w rfl h hm
   rw[hr]
   simpa using this
 |label l=>intro st K h ρ a w hm;exact wpIn_label ⟨.normal,st,ρ,rfl,hm,h⟩
 |scope c ih =>
  intro st K h ρ a w hm
  refine aew (wpIn_mono (ih st _ h ρ a w hm) ?_)
  rintro e a' w' ⟨x',af,ρ',rfl,an,hk⟩
  cases x' with
  |normal=>exact⟨.normal,af,ρ',rfl,an,hk⟩
  |ret=>exact⟨.ret,af,ρ',rfl,an,hk⟩
  |exit n=>exact⟨.exit n,af,ρ',rfl,an,hk⟩
  |panic ch=>exact⟨.panic ch,af,ρ',rfl,an,hk⟩
 |seq x y B0 J2 =>
  intro st K h ρ a w hm
  refine wpIn_seq (wpIn_mono (B0 st _ h ρ a w hm) ?_)
  rintro e a' w' ⟨x',af,ρ',rfl,an,hk⟩
  cases x' with
  |normal=>exact J2 af K hk ρ' a' w' an
  |ret=>exact⟨.ret,af,ρ',rfl,an,hk⟩
  |exit n=>exact⟨.exit n,af,ρ',rfl,an,hk⟩
  |panic ch=>exact⟨.panic ch,af,ρ',rfl,an,hk⟩
 |cond c x y B0 J2 =>
  intro st K h ρ a w hm
  simp only[exec] at h
  split at h
  ·rename_i p e
   have hv:=aQ hm.fm (π:=[]) (λx hx=>by cases hx) e
   simp only[den,Option.some.injEq] at hv
   exact wpIn_cond_split hv.symm (λht=>B0 st K (h.t ht) ρ a w hm) (λhf=>J2 st K (h.f hf) ρ a w hm)
  ·exact h ρ a w hm
 |block n x B0 =>
  intro st K h ρ a w hm
  refine wpIn_block (wpIn_mono (B0 st _ h ρ a w hm) ?_)
  rintro e a' w' ⟨x',af,ρ',rfl,an,hk⟩
  cases x' with
  |normal=>exact⟨.normal,af,ρ',rfl,an,hk⟩
  |ret=>exact⟨.ret,af,ρ',rfl,an,hk⟩
  |panic ch=>exact⟨.panic ch,af,ρ',rfl,an,hk⟩
  |exit m =>
   simp only[Ex.to,Exit.inBlock]
   by_cases rB:m=n
   ·subst rB
    simp only[Nat.beq_refl] at hk
    rw[if_pos rfl]
    exact⟨.normal,af,ρ',rfl,an,hk⟩
   ·have hb:Nat.beq m n=false:=by
     cases ur:Nat.beq m n with
     |false=>rfl
     |true=>exact absurd (Nat.eq_of_beq_eq_true ur) rB
    simp only[hb] at hk
    rw[if_neg rB]
    exact⟨.exit m,af,ρ',rfl,an,hk⟩
 |ret=>intro st K h ρ a w hm;exact wpIn_ret ⟨.ret,st,ρ,rfl,hm,h⟩
 |exit n=>intro st K h ρ a w hm;exact wpIn_exit ⟨.exit n,st,ρ,rfl,hm,h⟩
 |loop b ih=>intro st K h ρ a w hm;exact h ρ a w hm
 |rangeFunc f p x y Fa BZ=>intro st K h ρ a w hm;exact h ρ a w hm
 |goto l=>intro st K h ρ a w hm;exact h ρ a w hm
 |refuse s=>intro st K h ρ a w hm;exact h ρ a w hm
end
def CI (X:Cx)(st:St):ResultVar→Option SV
 |.tmp t=>ev (findF st.F) [] (.tmp t)
 |.cell t ty=>match X.T ty,ev (findF st.F) [] (.tmp t) with
  |some ti,some (.sp id off)=>(match ab st.H id with
   |some (.cells _ cs)=>hU (ig ti.desc) ti.size off cs
   |_=>none)
  |_,_=>none
def h_ (X:Cx)(st:St):List ResultVar→Option (List SV)
 |[]=>some []
 |x::r=>match CI X st x,h_ X st r with
  |some v,some l=>some (v::l)
  |_,_=>none
def jW:List SV→SV
 |[v]=>v
 |l=>.bn l
def Fin (X:Cx)(rs:List ResultVar)(Rv:SV→St→Prop)(Rp:List PanicEntry→St→Prop):Ex→St→Prop
 |.normal,st=>(match h_ X st rs,st.D with
  |some l,[]=>eT l λl'=>Rv (jW l') st
  |_,_=>False)
 |.ret,st=>(match h_ X st rs,st.D with
  |some l,[]=>eT l λl'=>Rv (jW l') st
  |_,_=>False)
 |.panic ch,st=>(match st.D with
  |[]=>Rp ch st
  |_=>False)
 |.exit _,_=>False
structure MH (X:Cx) (ρ:Env) (st:St) (w:World):Prop where
 hm:HM ρ (ab st.H) w
 kp:gO X.G ρ (ab st.H) w
 nx:∀j,st.nx≤j→ρ j=none
section
variable {X:Cx}{ρ:Env}{st:St}{a:Act}{w:World}
theorem Mod.mh (h:Mod X ρ st a w):MH X ρ st w:=⟨h.hm,h.kp,h.nx⟩
def Gi (tmps:Array Value):ResultVar→Sem Value
 |.tmp t=>pure (tmps.getD t undef)
 |.cell a t=>do loadVar t (←asAddr (tmps.getD a undef))
theorem K6 (fn:Func)(tmps:Array Value):results fn tmps=(do
  let vs ←fn.results.mapM (Gi tmps)
  pure (if h:vs.size=1 then vs[0] else .tuple vs)):=by
 unfold results
 congr 1
theorem ach (hX:X.Ok)(hm:Mod X ρ st a w){x:ResultVar}{v:SV}(h:CI X st x=some v) :
  ∃u,(Gi a.tmps x).run X.P w=.ok u w∧den ρ v=some u:=by
 have hs:bu a []:=λx hx=>by cases hx
 cases x with
 |tmp t=>exact⟨_,rfl,aQ (x:=.tmp t) hm.fm hs h⟩
 |cell t ty =>
  simp only[CI] at h
  split at h
  ·rename_i ti id off e1 e2
   split at h
   ·rename_i TT cs e3
    have hv:=aQ hm.fm hs e2
    obtain⟨u,h1,h2⟩:=yR hX.dx hm.hm e1 hv (s:=v) (by simp only[e3];exact h)
    obtain⟨nm,hn,dU⟩:=nX hv
    refine⟨u,?_,h2⟩
    have ZT:a.tmps.getD t undef=.pointer (some ⟨nm,off,none⟩):=dU
    simp only[Gi,ZT]
    rw[dU] at h1
    simpa [Instr.loadAt,Instr.sureAddr,asAddr,Result.andThen] using h1
   ·cases h
  ·cases h
theorem acf (hX:X.Ok)(hm:Mod X ρ st a w):∀{rs:List ResultVar} {l:List SV},h_ X st rs=some l →
  ∃us,(rs.mapM (Gi a.tmps)).run X.P w=.ok us w∧ai ρ l=some us:=by
 intro rs
 induction rs with
 |nil=>intro l h;simp only[h_,Option.some.injEq] at h;subst h;exact⟨[],by simp,rfl⟩
 |cons x r ih =>
  intro l h
  simp only[h_] at h
  split at h
  ·rename_i v l' e1 e2
   cases h
   obtain⟨u,h1,h2⟩:=ach hX hm e1
   obtain⟨us,h3,h4⟩:=ih e2
   refine⟨u::us,?_,oW h2 h4⟩
   rw[List.mapM_cons,Sem.run_bind,h1]
   simp only[Result.andThen]
   rw[Sem.run_bind,h3]
   rfl
  ·cases h
theorem acj {l:List SV}{us:List Value}(h:ai ρ l=some us):den ρ (jW l)=some (if h:us.toArray.size=1 then us.toArray[0] else .tuple us.toArray):=by
 match l,us,h with
 |[],us,h=>simp[ai] at h;subst h;simp[jW,den,ai]
 |[v],us,h =>
  obtain⟨u,xr,h1,h2,rfl⟩:=jP h
  simp[ai] at h2;subst h2
  simpa [jW] using h1
 |v::v'::r,us,h =>
  obtain⟨u,xr,h1,h2,rfl⟩:=jP h
  obtain⟨u',ae9,h3,h4,rfl⟩:=jP h2
  simp[jW,den,h]
theorem qK (hX:X.Ok)(hm:Mod X ρ st a w){fn:Func}{l:List SV}(h:h_ X st fn.results.toList=some l) :
  ∃u,(results fn a.tmps).run X.P w=.ok u w∧den ρ (jW l)=some u:=by
 obtain⟨us,h1,h2⟩:=acf hX hm h
 refine⟨_,?_,acj h2⟩
 rw[K6]
 simp only[Array.mapM_eq_mapM_toList,Sem.run_bind,Sem.run_map,h1,Result.andThen]
 rfl
def jL (X:Cx)(Rv:SV→St→Prop)(Rp:List PanicEntry→St→Prop):Ending→World→Prop:=λe w' =>
 (∃v st ρ u,e=.returned u∧den ρ v=some u∧MH X ρ st w'∧Rv v st)∨(∃ch st ρ,e=.panicked ch∧MH X ρ st w'∧Rp ch st)
def C9:Nat→List SV→List (Nat × FE)
 |_,[]=>[]
 |i,x::r=>(i,⟨[],x⟩)::C9 (i+1) r
theorem L0:∀(l:List SV) (i t:Nat) (e:FE),findF (C9 i l) t=some e→i≤t∧e.gp=[]∧l[t-i]?=some e.v
 |[],i,t,e,h=>by cases h
 |x::r,i,t,e,h=>by
  by_cases ht:i=t
  ·subst ht
   rw[C9,je] at h;cases h
   exact⟨Nat.le_refl _,rfl,by simp⟩
  ·rw[C9,iB _ _ ht] at h
   obtain⟨h1,h2,h3⟩:=L0 r (i+1) t e h
   refine⟨by omega,h2,?_⟩
   rw[show t-i=(t-(i+1))+1 by omega]
   simpa using h3
def start (args:List SV)(H:List (Nat × HB))(nx:Nat):St:=⟨C9 0 args,[],H,nx,[]⟩
theorem zo {args:List SV}{aM:List Value}{H:List (Nat × HB)}{nx:Nat}(hd:ai ρ args=some aM)(hlen:args.length≤X.nt)(hH:HM ρ (ab H) w)
  (hG:X.G=⟨w,Own ρ (ab H),ρ,Fz (ab H)⟩) (aU:∀j,nx≤j→ρ j=none) :
  Mod X ρ (start args H nx) { tmps:=aM.toArray++Array.replicate (X.nt-aM.toArray.size) undef,defers:=[] } w where
 fm t e hf:=by
  obtain⟨h1,h2,h3⟩:=L0 args 0 t e hf
  have hs:bu { tmps:=aM.toArray++Array.replicate (X.nt-aM.toArray.size) undef,defers:=[] } e.gp:=λx hx=>by rw[h2] at hx;cases hx
  refine⟨λ_=>?_,λhn=>absurd hs hn⟩
  simp only[Nat.sub_zero] at h3
  obtain⟨v,h4,h5⟩:=HL hd h3
  refine⟨v,?_,h5⟩
  have aG:t<aM.length:=by
   rcases Nat.lt_or_ge t aM.length with h|h
   ·exact h
   ·rw[List.getElem?_eq_none h] at h4;cases h4
  simp only[Array.getElem?_append,List.size_toArray,aG,if_true,List.getElem?_toArray]
  exact h4
 gs t e hf x hx:=by
  obtain⟨_,h2,_⟩:=L0 args 0 t e hf
  rw[h2] at hx;cases hx
 df:=trivial
 hm:=hH
 kp:=by
  rw[hG]
  exact{ str:=dF.refl _,size:=Nat.le_refl _,same:=λb _ _=>rfl,own:=λb h=>.inl h,ext:=Ext.refl ρ,fz:=λb h=>.inr (.inr h) }
 nx:=aU
 sz:=by
  have:=j8 hd
  simp;omega
theorem Na (hX:X.Ok)(hr:X.r=none){f:Nat}{fn:Func}{c:Code}(hf:X.P.funcs[f]?=some fn)(hb:fn.body=some c)(qx:fn.ntmps=X.nt)
  {args:List SV} {aM:List Value} {H:List (Nat × HB)} {nx:Nat} (hd:ai ρ args=some aM) (hlen:args.length≤X.nt) (hH:HM ρ (ab H) w)
  (hG:X.G=⟨w,Own ρ (ab H),ρ,Fz (ab H)⟩) (aU:∀j,nx≤j→ρ j=none) {Rv:SV→St→Prop} {Rp:List PanicEntry→St→Prop}
  (h:exec X c (start args H nx) (Fin X fn.results.toList Rv Rp)):Calls X.P f aM.toArray w (jL X Rv Rp):=by
 refine(callsIn_wide (n:=0)).1 ?_
 have hm:=zo (X:=X) hd hlen hH hG aU
 have hw:=cW hX c _ _ h ρ _ w hm
 rw[hr] at hw
 refine callsIn_of_wp (F:=Fence.wide) hf hb trivial (wpIn_mono (by rw[qx];exact hw) ?_)
 rintro e a' w' ⟨x,af,ρ',rfl,an,hk⟩
 cases x with
 |normal =>
  simp only[Fin] at hk
  split at hk
  ·rename_i l e1 e2
   rw[gn] at hk
   obtain⟨u,h1,h2⟩:=qK hX an e1
   exact⟨pY (by rw[←e2];exact an.df),u,h1,.inl ⟨_,af,ρ',u,rfl,h2,an.mh,hk⟩⟩
  ·exact hk.elim
 |ret =>
  simp only[Fin] at hk
  split at hk
  ·rename_i l e1 e2
   rw[gn] at hk
   obtain⟨u,h1,h2⟩:=qK hX an e1
   exact⟨pY (by rw[←e2];exact an.df),u,h1,.inl ⟨_,af,ρ',u,rfl,h2,an.mh,hk⟩⟩
  ·exact hk.elim
 |panic ch =>
  simp only[Fin] at hk
  split at hk
  ·rename_i e2
   exact⟨pY (by rw[←e2];exact an.df),.inr ⟨ch,af,ρ',rfl,an.mh,hk⟩⟩
  ·exact hk.elim
 |exit n=>exact hk.elim
end
def pJ (a b:Nat):Bool:=Nat.ble (a+1) b
theorem lH {a b:Nat}:pJ a b=true↔a<b:=by
 simp only[pJ,Nat.ble_eq];omega
mutual
def dM (n:Nat):SV→Bool
 |.sp id _=>pJ id n
 |.se id _ _=>pJ id n
 |.sl id=>pJ id n
 |.sm id=>pJ id n
 |.fy id=>pJ id n
 |.ss id _ _ _=>pJ id n
 |.agg l=>fM n l
 |.bn l=>fM n l
 |.fn _ a b=>match fM n a with
  |true=>fM n b
  |false=>false
 |.cg _ x=>dM n x
 |_=>true
def fM (n:Nat):List SV→Bool
 |[]=>true
 |x::r=>match dM n x with
  |true=>fM n r
  |false=>false
end
def cut (ρ:Env)(n:Nat):Env:=λj=>if j<n then ρ j else none
theorem rf {ρ:Env}{n j:Nat}(h:j<n):cut ρ n j=ρ j:=by simp[cut,h]
theorem x9 {ρ:Env}{n j:Nat}{nm:Nm}(h:cut ρ n j=some nm):j<n∧ρ j=some nm:=by
 unfold cut at h;split at h
 ·exact⟨by assumption,h⟩
 ·cases h
mutual
theorem DT {ρ:Env}{n:Nat}:∀(s:SV),dM n s=true→den (cut ρ n) s=den ρ s
 |.sv x,_=>by simp[den]
 |.si k n,_=>by simp[den]
 |.sb p,_=>by simp[den]
 |.sp id off,h=>by simp only[dM,lH] at h;simp[den,rf h]
 |.se id i off,h=>by simp only[dM,lH] at h;simp[den,rf h]
 |.sl id,h=>by simp only[dM,lH] at h;simp[den,rf h]
 |.sm id,h=>by simp only[dM,lH] at h;simp[den,rf h]
 |.fy id,h=>by simp only[dM,lH] at h;simp[den,rf h]
 |.ss id _ _ _,h=>by simp only[dM,lH] at h;simp[den,rf h]
 |.agg l,h=>by simp only[dM] at h;simp[den,qh l h]
 |.bn l,h=>by simp only[dM] at h;simp[den,qh l h]
 |.fn f a b,h=>by
  simp only[dM] at h
  split at h
  ·rename_i e;simp[den,qh a e,qh b h]
  ·cases h
 |.cg t x,h=>by simp only[dM] at h;simp[den,DT x h]
theorem qh {ρ:Env}{n:Nat}:∀(s:List SV),fM n s=true→ai (cut ρ n) s=ai ρ s
 |[],_=>by simp[ai]
 |x::r,h=>by
  simp only[fM] at h
  split at h
  ·rename_i e;simp[ai,DT x e,qh r h]
  ·cases h
end
def E' (n:Nat):List fE→Bool
 |[]=>true
 |(_,l)::r=>match fM n l with
  |true=>E' n r
  |false=>false
theorem L4 {ρ:Env}{n:Nat}:∀{ds:List Deferred} {D:List fE},E' n D=true→nD ρ ds D→nD (cut ρ n) ds D
 |[],[],_,_=>trivial
 |d::ds,(f,args)::r,hi,⟨⟨aM,h1,h2⟩,h3⟩=>by
  simp only[E'] at hi
  split at hi
  ·rename_i e
   exact⟨⟨aM,by rw[qh args e];exact h1,h2⟩,L4 hi h3⟩
  ·cases hi
def E_ (n:Nat):HB→Prop
 |.dead=>True
 |.cells _ cs=>fM n cs=true
 |.ro _ m get=>∀i,i<m→fM n (get i)=true
 |.row _ _ _ xs=>fM n xs=true
 |.map _ _=>True
 |.vec _ _ m get=>∀i,i<m→fM n (get i)=true
 |.mp _=>True
 |.it mid _ _ _=>mid<n
 |.loop F _ _ _ _ _ db _ _=>db<n∧∀t v,gq F t=some v→dM n v=true
 |.eh=>True
 |.ax _ _=>True
theorem TM {ρ:Env}{n:Nat}{w:World}{hb:HB}{nm:Nm}(hi:E_ n hb)(h:ao ρ w hb nm):ao (cut ρ n) w hb nm:=by
 cases hb with
 |dead=>trivial
 |cells T cs =>
  cases nm<;>simp only[ao] at h ⊢
  obtain⟨vs,h1,h2⟩:=h
  exact⟨vs,by rw[qh cs hi];exact h1,h2⟩
 |ro size m get =>
  cases nm<;>simp only[ao] at h ⊢
  obtain⟨h1,h2,h0,h3⟩:=h
  refine⟨h1,h2,h0,λhm=>?_⟩
  obtain⟨ad,e,aG,hc⟩:=h3 hm
  refine⟨ad,e,aG,λi ir=>?_⟩
  obtain⟨vs,d1,d2⟩:=hc i ir
  exact⟨vs,by rw[qh _ (hi i ir)];exact d1,d2⟩
 |row T size m xs =>
  cases nm<;>simp only[ao] at h ⊢
  obtain⟨h1,h2,h3,vs,rest,h4,h5⟩:=h
  exact⟨h1,h2,h3,vs,rest,by rw[qh xs hi];exact h4,h5⟩
 |vec T size m get =>
  cases nm<;>simp only[ao] at h ⊢
  ·exact h
  obtain⟨h1,h2,h3,cells,h4,h5,h6⟩:=h
  refine⟨h1,h2,h3,cells,h4,h5,λi eC=>?_⟩
  obtain⟨vs,d1,d2⟩:=h6 i eC
  exact⟨vs,by rw[qh _ (hi i eC)];exact d1,d2⟩
 |map es c=>cases nm<;>exact h
 |mp es=>cases nm<;>exact h
 |eh=>cases nm<;>exact h
 |ax _ _=>cases nm<;>exact h
 |it mid since seen last =>
  cases nm<;>simp only[ao] at h ⊢
  obtain⟨mb,h1,h2⟩:=h
  exact⟨mb,by rw[rf hi];exact h1,h2⟩
 |loop F nt fn ps assign body db s pd =>
  cases nm<;>simp only[ao] at h ⊢
  obtain⟨tmps,kQ,h1,h2,h3,h4⟩:=h
  refine⟨tmps,kQ,by rw[rf hi.1];exact h1,h2,h3,λt v hv=>?_⟩
  obtain⟨u,e1,e2⟩:=h4 t v hv
  exact⟨u,e1,by rw[DT _ (hi.2 t v hv)];exact e2⟩
theorem HM.cut {ρ:Env}{H H':LH}{w:World}{n:Nat}(h:HM ρ H w)(hs:∀id hb,H' id=some hb→H id=some hb∧id<n∧E_ n hb):HM (cut ρ n) H' w where
 ok id hb hf:=by
  obtain⟨h1,h2,h3⟩:=hs id hb hf
  obtain⟨nm,h4,h5⟩:=h.ok id hb h1
  exact⟨nm,by rw[rf h2];exact h4,TM h3 h5⟩
 sep i j x y c_ dE b h1 h2 l1 l2 r1 r2 o1 o2 :=
  h.sep i j x y c_ dE b (hs _ _ h1).1 (hs _ _ h2).1 l1 l2 (x9 r1).2 (x9 r2).2 o1 o2
 ro j size m get nm b hf hm hr hb ho:=by
  refine h.ro j size m get nm b (hs _ _ hf).1 hm (x9 hr).2 hb ?_
  obtain⟨id,x,ak,h1,h2,h3,h4⟩:=ho
  exact⟨id,x,ak,(hs _ _ h1).1,h2,(x9 h3).2,h4⟩
 ax b hz ho:=by
  refine h.ax b (hz.sub λid size C hf=>(hs _ _ hf).1) ?_
  obtain⟨id,x,ak,h1,h2,h3,h4⟩:=ho
  exact⟨id,x,ak,(hs _ _ h1).1,h2,(x9 h3).2,h4⟩
mutual
def eY:SV→SV→Prop
 |.si k n,.si k' m=>k=k'∧n=m
 |.sb p,.sb q=>p=q
 |.agg l,.agg m=>p8 l m
 |.bn l,.bn m=>p8 l m
 |.sp i o,.sp j q=>i=j∧o=q
 |.sl i,.sl j=>i=j
 |.sm i,.sm j=>i=j
 |.fy i,.fy j=>i=j
 |x,y=>x=y
def p8:List SV→List SV→Prop
 |[],[]=>True
 |x::r,y::s=>eY x y∧p8 r s
 |_,_=>False
end
mutual
theorem tR:∀(x y:SV),eY x y→x=y
 |.si k n,y,h=>by cases y<;>simp[eY] at h ⊢<;>exact h
 |.sb p,y,h=>by cases y<;>simp[eY] at h ⊢<;>exact h
 |.agg l,y,h=>by cases y<;>simp only[eY] at h<;>first|(rw[qY _ _ h])|cases h
 |.bn l,y,h=>by cases y<;>simp only[eY] at h<;>first|(rw[qY _ _ h])|cases h
 |.sp i o,y,h=>by cases y<;>simp[eY] at h ⊢<;>exact h
 |.sl i,y,h=>by cases y<;>simp[eY] at h ⊢<;>exact h
 |.sm i,y,h=>by cases y<;>simp[eY] at h ⊢<;>exact h
 |.fy i,y,h=>by cases y<;>simp[eY] at h ⊢<;>exact h
 |.sv x,y,h=>by cases y<;>simp[eY] at h ⊢<;>exact h
 |.se i n o,y,h=>by cases y<;>simp[eY] at h ⊢<;>exact h
 |.fn f a b,y,h=>by cases y<;>simp[eY] at h ⊢<;>exact h
 |.cg t x,y,h=>by cases y<;>simp[eY] at h ⊢<;>exact h
 |.ss i o l t,y,h=>by cases y<;>simp[eY] at h ⊢<;>exact h
theorem qY:∀(x y:List SV),p8 x y→x=y
 |[],[],_=>rfl
 |x::r,y::s,h=>by rw[tR x y h.1,qY r s h.2]
 |[],y::s,h=>h.elim
 |x::r,[],h=>h.elim
end
def xz:HB→HB→Prop
 |.cells T cs,.cells U ds=>T=U∧p8 cs ds
 |.row T s n xs,.row U t m ys=>T=U∧s=t∧n=m∧xs=ys
 |x,y=>x=y
theorem zE {x y:HB}(h:xz x y):x=y:=by
 cases x<;>cases y<;>simp only[xz] at h
 case cells.cells=>obtain⟨rfl,h⟩:=h;rw[qY _ _ h]
 case row.row=>obtain⟨rfl,rfl,rfl,rfl⟩:=h;rfl
 all_goals first|rfl|exact h|cases h
def C4 (n:Nat)(F:List (Nat × FE)):List (Nat × FE)→Prop
 |[]=>True
 |(t,⟨[],v⟩)::r=>(match findF F t with
  |some ⟨[],u⟩=>eY u v∧dM n v=true
  |_=>False)∧C4 n F r
 |_::_=>False
def GJ (n:Nat)(H:List (Nat × HB)):List (Nat × HB)→Prop
 |[]=>True
 |(t,hb)::r=>(match ab H t with
  |some hc=>xz hc hb∧E_ n hb∧pJ t n=true
  |_=>False)∧GJ n H r
theorem LU {n:Nat}{F:List (Nat × FE)}:∀{F':List (Nat × FE)},C4 n F F'→∀t e,findF F' t=some e→findF F t=some e∧e.gp=[]∧dM n e.v=true
 |[],_,t,e,h=>by cases h
 |(s,⟨[],v⟩)::r,hw,t,e,h=>by
  simp only[C4] at hw
  by_cases bD:s=t
  ·subst bD
   rw[je] at h;cases h
   have h1:=hw.1
   split at h1
   ·rename_i u e1
    rw[e1,tR _ _ h1.1]
    exact⟨rfl,rfl,h1.2⟩
   ·exact h1.elim
  ·rw[iB _ _ bD] at h
   exact LU hw.2 t e h
 |(s,⟨x::y,v⟩)::r,hw,t,e,h=>by simp only[C4] at hw
theorem GK {n:Nat}{H:List (Nat × HB)}:∀{H':List (Nat × HB)},GJ n H H'→∀id hb,ab H' id=some hb→ab H id=some hb∧id<n∧E_ n hb
 |[],_,t,e,h=>by cases h
 |(s,x)::r,hw,t,e,h=>by
  simp only[GJ] at hw
  by_cases bD:s=t
  ·subst bD
   rw[ba,cP] at h;cases h
   have h1:=hw.1
   split at h1
   ·rename_i hc e1
    rw[e1,zE h1.1]
    exact⟨rfl,lH.1 h1.2.2,h1.2.1⟩
   ·exact h1.elim
  ·rw[ba,aR _ _ bD] at h
   exact GK hw.2 t e h
structure GY (st af:St):Prop where
 F:C4 af.nx st.F af.F
 H:GJ af.nx st.H af.H
 gs:af.gs=[]
 D:af.D=st.D
 Di:E' af.nx af.D=true
theorem Mod.Tq {X:Cx}{ρ:Env}{st af:St}{a:Act}{w:World}(hm:Mod X ρ st a w)(h:GY st af)(hn:∀j,af.nx≤j→X.G.ρ j=none):Mod X (cut ρ af.nx) af a w where
 fm t e hf:=by
  obtain⟨h1,h2,h3⟩:=LU h.F t e hf
  rw[DT _ h3]
  exact hm.fm t e h1
 gs t e hf x hx:=by
  obtain⟨_,h2,_⟩:=LU h.F t e hf
  rw[h2] at hx;cases hx
 df:=L4 h.Di (by rw[h.D];exact hm.df)
 hm:=hm.hm.cut (GK h.H)
 kp:={
  str:=hm.kp.str
  size:=hm.kp.size
  same:=hm.kp.same
  own:=λb ho=>by
   obtain⟨id,x,ak,h1,h2,h3,h4⟩:=ho
   exact hm.kp.own b ⟨id,x,ak,(GK h.H _ _ h1).1,h2,(x9 h3).2,h4⟩
  ext:=λj nm hj=>by
   have aG:j<af.nx:=by
    rcases Nat.lt_or_ge j af.nx with h|h
    ·exact h
    ·rw[hn j h] at hj;cases hj
   rw[rf aG];exact hm.kp.ext j nm hj
  fz:=λb hz=>hm.kp.fz b (hz.sub λid size C hf=>(GK h.H _ _ hf).1) }
 nx:=λj hj=>by unfold Go.X.cut;rw[if_neg (by omega)]
 sz:=hm.sz
theorem LX {F:Fence}{n:Nat}{P:Program}{Q:Exit→Act→World→Prop}{a:Act}{w:World}{c:Code}(I:Nat→Act→World→Prop){aaq:Nat}(Qf:I aaq a w)
  (round:∀j a w,I j a w→c.wpIn F n P (Exit.then (λa' w'=>∃j',j'<j∧I j' a' w') Q) a w):(Code.loop c).wpIn F n P Q a w:=by
 intro b k cs kq hb hr
 have key:∀j a w,I j a w →
   ∃e a' w',Q e a' w'∧ArrivesIn (Machine.fenced P F) P (lone (b.atR a (.code c::.inLoop c::k)) cs w) b k cs e a' w':=by
  intro j
  induction j using Nat.strongRecOn with
  |_ j ih =>
   intro a w hI
   obtain⟨e,lh,jJ,hq,kV⟩:=round j a w hI b (.inLoop c::k) cs kq hb hr
   cases e with
   |normal =>
    obtain⟨j',aG,X4⟩:=hq
    obtain⟨Wp,xI,jl,Zs,Yk⟩:=ih j' aG lh jJ X4
    exact⟨Wp,xI,jl,Zs,.of_steps (StepsIn.trans kV (.one (fenced_calm hb hr rfl) stepR_inLoop)) Yk⟩
   |exit id=>exact⟨_,lh,jJ,hq,.pass (x:=.inLoop c) rfl (λ_ _=>.inl (by simp)) kV⟩
   |goto l=>exact⟨_,lh,jJ,hq,.pass (x:=.inLoop c) rfl (λ_ _=>.inl (by simp)) kV⟩
   |ret=>exact⟨_,lh,jJ,hq,.pass (x:=.inLoop c) rfl (λ_ _=>.inl (by simp)) kV⟩
   |panic ch=>exact⟨_,lh,jJ,hq,.pass (x:=.inLoop c) rfl (λ_ _=>.inl (by simp)) kV⟩
   |outgrown=>exact⟨_,lh,jJ,hq,.pass (x:=.inLoop c) rfl (λ_ _=>.inl (by simp)) kV⟩
 obtain⟨e,a',w',hq,kV⟩:=key _ a w Qf
 exact⟨e,a',w',hq,.of_steps (.one (fenced_calm hb hr rfl) stepR_loop) kV⟩
def Round {α:Type}(I:α→St)(μ:α→Nat)(x:α)(K:Ex→St→Prop):Ex→St→Prop
 |.normal,st=>∃x',GY st (I x')∧μ x'<μ x
 |e,st=>K e st
theorem rI {X:Cx}(hX:X.Ok){body:Code}{st:St}{K:Ex→St→Prop}{α:Type}(I:α→St)(μ:α→Nat)(hn:∀x j,(I x).nx≤j→X.G.ρ j=none)(x0:α)
  (h0:GY st (I x0)) (hr:∀x,exec X body (I x) (Round I μ x K)):aX X (.loop body) st K:=by
 intro ρ a w hm
 refine LX (λj a w=>∃x ρ,μ x=j∧Mod X ρ (I x) a w) ⟨x0,_,rfl,hm.Tq h0 (hn x0)⟩ ?_
 rintro j a' w' ⟨x,ρ',rfl,an⟩
 refine wpIn_mono (cW hX body _ _ (hr x) ρ' a' w' an) ?_
 rintro e xI jl ⟨y,qO,ic,rfl,fv,hk⟩
 cases y with
 |normal =>
  obtain⟨x',h1,h2⟩:=hk
  exact⟨_,h2,x',_,rfl,fv.Tq h1 (hn x')⟩
 |ret=>exact⟨.ret,qO,ic,rfl,fv,hk⟩
 |exit n=>exact⟨.exit n,qO,ic,rfl,fv,hk⟩
 |panic ch=>exact⟨.panic ch,qO,ic,rfl,fv,hk⟩
def FD:List Nat→Nat→Bool
 |[],_=>false
 |x::r,t=>if Nat.beq x t then true else FD r t
theorem FF:∀{l:List Nat} {t:Nat},FD l t=true→t∈l
 |x::r,t,h=>by
  simp only[FD] at h
  split at h
  ·rename_i e
   have:x=t:=by simpa using e
   subst this;exact List.mem_cons_self
  ·exact List.mem_cons_of_mem _ (FF h)
def xA (P : Program) (l : List Nat) : Prop := ∀ t ∈ l, P.stoodInHeld t = false ∧ P.eqGuardType P.depth t = false ∧ ∀ f ∈ (P.fieldsOf t).toList, f.name ≠ "_"
def KA (i:TypeInfo)(d:TypeDesc)(name:String):Bool :=
 match d with
 |.pointer _=>false
 |_=>(match i.methods.find? (·.name == name) with
  |some m=>m.path.isEmpty&&(match m.func with
   |some _=>true
   |none=>false)
  |none=>false)
theorem aa' {P:Program}{t:TypeId}{i:TypeInfo}{d:TypeDesc}(hd:P.underlying t=some d)(hi:P.info? t=some i){name:String}(h:KA i d name=true)(v:Value)(w:World) :
  (Go.nilAhead (P.types.size+Made.depth) t v name).run P w=.ok (some false) w:=by
 have cR:0<Made.depth:=by decide
 obtain⟨k,hk⟩:∃k,P.types.size+Made.depth=k+1:=⟨P.types.size+Made.depth-1,by omega⟩
 rw[hk]
 have ht:(typeInfo t).run P w=.ok i w:=by simp[typeInfo,hi]
 unfold KA at h
 split at h
 ·cases h
 ·rename_i hp
  split at h
  ·rename_i m e3
   simp only[Bool.and_eq_true] at h
   obtain⟨h1,h2⟩:=h
   have I_:m.path.toList=[]:=by
    have:m.path=#[]:=by simpa using h1
    rw[this]
   split at h2
   ·rename_i f e4
    obtain⟨f,b⟩:=f
    simp only[Go.nilAhead,Sem.run_bind,ht,Result.andThen_ok,e3,I_,Go.followBlind,Sem.run_pure,e4]
    cases b with
    |true=>rfl
    |false =>
     simp only[Sem.run_bind,run_underlying hd,Result.andThen_ok]
     cases d<;>first|(exact absurd rfl (hp _))|rfl
   ·cases h2
  ·cases h
def xn (P:Program)(pl:List Nat):cf:=λt =>
 match P.underlying t,P.info? t with
 |some d,some i=>(match i.zero with
  |some z=>some ⟨d,z,i.size,i.bytes,FD pl t,KA i d⟩
  |none=>none)
 |_,_=>none
theorem ve {P:Program}{pl:List Nat}(ta:xA P pl):dy P (xn P pl):=by
 intro t ti h
 simp only[xn] at h
 split at h
 ·rename_i d i e1 e2
  split at h
  ·rename_i z e3
   cases h
   exact⟨e1,⟨i,e2,e3,rfl,rfl⟩,λh=>⟨(ta t (FF h)).1,(ta t (FF h)).2.1,(ta t (FF h)).2.2⟩,λname h=>aa' e1 e2 h⟩
  ·cases h
 ·cases h
def gh (e:Edge):Bool :=
 match e.ground with
 |.textOnly _=>false
 |.gcOnly _=>false
 |_=>true
theorem DB (e:Edge):Region.binds .any e=gh e:=by
 unfold Region.binds gh;cases e.ground<;>rfl
def dK (n k:Nat):Bool:=Nat.beq (Nat.land 1 (Nat.shiftRight n k)) 1
theorem yy (n k:Nat):dK n k=n.testBit k:=by
 have h1:Nat.land 1 (Nat.shiftRight n k)=1 &&& (n >>> k):=rfl
 have h2:n.testBit k=((1 &&& (n >>> k)) != 0):=rfl
 unfold dK
 rw[h1,h2]
 have h3:1 &&& (n >>> k)=(n >>> k) % 2:=by rw[Nat.and_comm,Nat.and_one_is_mod]
 rw[h3]
 rcases Nat.mod_two_eq_zero_or_one (n >>> k) with h|h<;>rw[h]<;>rfl
def dh (A:List Nat)(i:Nat):Nat :=
 match nth A i with
 |some n=>n
 |none=>0
def p9 (A:List Nat):List Edge→Nat→Nat
 |[],s=>s
 |e::r,s=>match gh e with
  |true=>p9 A r (Nat.lor (Nat.lor s (Nat.shiftLeft 1 e.on)) (dh A e.on))
  |false=>p9 A r s
def mE:List Oper→List Nat→List Nat
 |[],A=>A
 |o::r,A=>mE r (A++[p9 A o.after.toList 0])
def j9:List Oper→Nat→Nat→Option Nat
 |[],_,_=>none
 |o::r,i,t=>match o.dst with
  |some d=>if Nat.beq d t then some i else j9 r (i+1) t
  |none=>j9 r (i+1) t
inductive GM where
 |no
 |st (id off:Nat) (cs:List SV)
 |new (l:List (Nat × HB))
 |bL (ch:List PanicEntry)
 |skip
structure DE where
 π:GP
 v:SV
 bT:GM
def nA (A:List Nat)(ops:List Oper)(F0:LF)(acc:List DE)(i:Nat):LF:=λt =>
 match j9 ops 0 t with
 |none=>F0 t
 |some k=>if dK (dh A i) k then(match nth acc k with
   |some e=>some ⟨e.π,e.v⟩
   |none=>none) else if dK (dh A k) i then F0 t else none
def w5 (bf:Nat):List DE→Nat→Nat→Option HB
 |[],_,_=>none
 |e::r,k,id=>match e.bT with
  |.new l=>(match dK bf k with
   |true=>(match ab l id with
    |some hb=>some hb
    |none=>w5 bf r (k+1) id)
   |false=>w5 bf r (k+1) id)
  |_=>w5 bf r (k+1) id
def ya (S:List (Nat × Nat))(A:List Nat)(i id:Nat):Bool :=
 match S with
 |[]=>false
 |(j,bM)::r=>if Nat.beq id bM then(if dK (dh A j) i then ya r A i id else true) else ya r A i id
def pV (S:List (Nat × Nat))(A:List Nat)(H0:LH)(acc:List DE)(i:Nat):LH:=λid =>
 match ya S A i id with
 |true=>none
 |false=>(match w5 (dh A i) acc 0 id with
  |some hb=>some hb
  |none=>H0 id)
def Fh:Op→Bool
 |.store _ _ _=>true
 |_=>false
def vF (bf:Nat):List DE→Nat→Bool
 |[],_=>false
 |e::r,k=>match e.bT with
  |.bL _=>if dK bf k then true else vF bf r (k+1)
  |.skip=>if dK bf k then true else vF bf r (k+1)
  |_=>vF bf r (k+1)
def wa (ops:List Oper)(bf:Nat):GP→Bool
 |[]=>true
 |(s,_)::r=>match j9 ops 0 s with
  |some k=>if dK bf k then wa ops bf r else false
  |none=>wa ops bf r
def HW (e:zz)(fr:Nat):GM :=
 match e with
 |.no=>.no
 |.new hb=>.new [(fr,hb)]
 |.st id off cs=>.st id off cs
def E9 (fr:Nat):List (Nat × HB)→Bool
 |[]=>true
 |(id,_)::r=>if Nat.ble fr id then(if Nat.ble (id+1) (fr+4) then E9 fr r else false) else false
def abo:zz→Bool
 |.st _ _ _=>false
 |_=>true
def GF (F:LF):GP→Bool
 |[]=>true
 |(s,w)::r=>(match F s with
  |some ⟨[],.sb q⟩=>(match D3 q w with
   |true=>GF F r
   |false=>false)
  |_=>false)
def yi (F:LF):GP→Bool
 |[]=>false
 |(s,w)::r=>(match F s with
  |some ⟨[],.sb q⟩=>(match D3 q w with
   |true=>yi F r
   |false=>true)
  |_=>yi F r)
def yX (F:LF)(π:GP):Option (Option Prop × DE × Option (Bool × List PanicEntry)) :=
 match yi F π with
 |true=>some (none,⟨π,.sb false,.no⟩,none)
 |false=>none
def xk (X:Cx)(ops:List Oper)(A:List Nat)(S:List (Nat × Nat))(F0:LF)(H0:LH)(nx:Nat)(i:Nat)(o:Oper)(acc:List DE):Option (Option Prop × DE × Option (Bool × List PanicEntry)) :=
 match vF (dh A i) acc 0 with
 |true=>some (none,⟨[],.bn [],.skip⟩,none)
 |false=>(match guardOf ops (nA A ops F0 acc i) o.guard with
  |some π=>(match wa ops (dh A i) π with
   |true=>(match Fh o.op with
    |true=>(match rM π,o.dst,core X.T (nA A ops F0 acc i) π (pV [] A H0 acc i) (nx+4*i) o.op with
     |true,none,some ⟨none,v,.st id off cs⟩=>some (none,⟨π,v,.st id off cs⟩,none)
     |_,_,_=>none)
    |false=>(match core X.T (nA A ops F0 acc i) π (pV S A H0 acc i) (nx+4*i) o.op with
     |some ⟨pre,v,bT⟩=>(match rM π,abo bT with
      |true,true=>some (pre,⟨π,v,HW bT (nx+4*i)⟩,none)
      |false,true=>(match bT with
       |.no=>some (CZ (nA A ops F0 acc i) π pre,⟨π,v,.no⟩,none)
       |.new hb=>(match GF (nA A ops F0 acc i) π with
        |true=>some (pre,⟨[],v,.new [(nx+4*i,hb)]⟩,none)
        |false=>yX (nA A ops F0 acc i) π)
       |_=>none)
      |_,_=>none)
     |none=>(match rG o.op with
      |some c=>(match uf X (nA A ops F0 acc i) π (pV S A H0 acc i) (nx+4*i) c with
       |some ⟨pre,bL,v,[]⟩=>(match bL,rM π with
        |none,_=>some (CZ (nA A ops F0 acc i) π pre,⟨π,v,.no⟩,none)
        |some (c,ch),true=>some (pre,⟨π,v,.no⟩,some (c,ch))
        |_,_=>none)
       |some ⟨pre,bL,v,n::l⟩=>(match rM π with
        |true=>some (pre,⟨π,v,.new (n::l)⟩,bL)
        |false=>none)
       |none=>yX (nA A ops F0 acc i) π)
      |none=>yX (nA A ops F0 acc i) π)))
   |false=>none)
  |none=>none)
def y_ (po:Option (Bool × List PanicEntry))(e:DE):DE :=
 match po with
 |some (true,ch)=>⟨e.π,e.v,.bL ch⟩
 |_=>e
def tP (X:Cx)(ops:List Oper)(A:List Nat)(S:List (Nat × Nat))(F0:LF)(H0:LH)(nx:Nat)(i:Nat)(o:Oper)(acc:List DE):Option (Option Prop × DE) :=
 match xk X ops A S F0 H0 nx i o acc with
 |some (pre,e,po)=>some (pre,y_ po e)
 |none=>none
theorem Lv {X:Cx}{ops:List Oper}{A:List Nat}{S:List (Nat × Nat)}{F0:LF}{H0:LH}{nx i:Nat}{o:Oper}{acc:List DE}{pre:Option Prop}{e:DE}(h:tP X ops A S F0 H0 nx i o acc=some (pre,e)) :
  ∃sJ po,xk X ops A S F0 H0 nx i o acc=some (pre,sJ,po)∧e=y_ po sJ:=by
 unfold tP at h
 split at h
 ·rename_i p sJ po hs
  cases h
  exact⟨sJ,po,hs,rfl⟩
 ·cases h
def D8:List (Nat × HB)→(List (Nat × HB)→Prop)→Prop
 |[],K=>K []
 |(id,hb)::r,K=>fa id λbM=>AG hb λhb'=>D8 r λr'=>K ((bM,hb')::r')
theorem Wu (l:List (Nat × HB))(K:List (Nat × HB)→Prop):D8 l K=K l:=by
 induction l generalizing K with
 |nil=>rfl
 |cons x r ih=>obtain⟨id,hb⟩:=x;simp[D8,fw,Ib,ih]
def Ia (e:DE)(K:DE→Prop):Prop :=
 match e with
 |⟨π,v,bT⟩=>vP π fun qT=>fX v λv'=>(match bT with
  |.no=>K ⟨qT,v',.no⟩
  |.st id off cs=>eT cs λcs'=>K ⟨qT,v',.st id off cs'⟩
  |.new l=>D8 l λl'=>K ⟨qT,v',.new l'⟩
  |.bL ch=>K ⟨qT,v',.bL ch⟩
  |.skip=>K ⟨qT,v',.skip⟩)
theorem Ws (e:DE)(K:DE→Prop):Ia e K=K e:=by
 obtain⟨π,v,bT⟩:=e
 cases bT<;>simp[Ia,D7,mP,gn,Wu]
def yh:List DE→DE→(List DE→Prop)→Prop
 |[],e,K=>K [e]
 |x::r,e,K=>yh r e λl=>K (x::l)
theorem Ig (l:List DE)(e:DE)(K:List DE→Prop):yh l e K=K (l++[e]):=by
 induction l generalizing K with
 |nil=>rfl
 |cons x r ih=>simp[yh,ih]
def vO (X:Cx)(ops:List Oper)(A:List Nat)(S:List (Nat × Nat))(F0:LF)(H0:LH)(nx:Nat):Nat→List Oper→List DE→(List DE→Prop)→Prop
 |_,[],acc,K=>K acc
 |i,o::r,acc,K=>match xk X ops A S F0 H0 nx i o acc with
  |some (pre,e,po)=>qU pre (Ia e λe'=>(match po with
   |none=>yh acc e' λlQ=>vO X ops A S F0 H0 nx (i+1) r lQ K
   |some (c,ch)=>Br c (match e' with
    |⟨π,v,_⟩=>yh acc ⟨π,v,.bL ch⟩ λlQ=>vO X ops A S F0 H0 nx (i+1) r lQ K)
    (yh acc e' λlQ=>vO X ops A S F0 H0 nx (i+1) r lQ K)))
  |none=>False
theorem Wo {X:Cx}{ops:List Oper}{A:List Nat}{S:List (Nat × Nat)}{F0:LF}{H0:LH}{nx:Nat}{K:List DE→Prop} :
  ∀(l:List Oper) (i:Nat) (acc:List DE),ops.drop i=l→i+l.length=ops.length→acc.length=i→vO X ops A S F0 H0 nx i l acc K →
   (∀j o,j<i→ops[j]?=some o→∃pre e,tP X ops A S F0 H0 nx j o (acc.take j)=some (pre,e)∧fc pre∧acc[j]?=some e) →
   ∃lQ,lQ.length=ops.length∧K lQ∧∀j o,ops[j]?=some o→∃pre e,tP X ops A S F0 H0 nx j o (lQ.take j)=some (pre,e)∧fc pre∧lQ[j]?=some e:=by
 intro l
 induction l with
 |nil =>
  intro i acc hd hlen hl h cq
  simp only[List.length_nil,Nat.add_zero] at hlen
  refine⟨acc,by omega,h,λj o ho=>?_⟩
  ·have hj:j<ops.length:=by
    rcases Nat.lt_or_ge j ops.length with h|h
    ·exact h
    ·rw[List.getElem?_eq_none h] at ho;cases ho
   exact cq j o (by omega) ho
 |cons o r ih =>
  intro i acc hd hlen hl h cq
  have ho:ops[i]?=some o:=by
   have:=congrArg (λl=>l[0]?) hd
   simpa using this
  have eu:ops.drop (i+1)=r:=by
   have:=congrArg List.tail hd
   simpa using this
  simp only[vO] at h
  split at h
  ·rename_i pre e po hs
   have iS:=vj h
   have hk:=vh h
   rw[Ws] at hk
   have key:∀e',e'=y_ po e→vO X ops A S F0 H0 nx (i+1) r (acc++[e']) K →
     ∃lQ,lQ.length=ops.length∧K lQ∧∀j o,ops[j]?=some o→∃pre e,tP X ops A S F0 H0 nx j o (lQ.take j)=some (pre,e)∧fc pre∧lQ[j]?=some e:=by
    intro e' rp hk
    refine ih (i+1) (acc++[e']) eu (by simp at hlen;omega) (by simp[hl]) hk (λj oj hj JA=>?_)
    by_cases kZ:j=i
    ·subst kZ
     rw[ho] at JA;cases JA
     refine⟨pre,e',?_,iS,by simp[←hl]⟩
     rw[List.take_append_of_le_length (by omega),List.take_of_length_le (by omega)]
     simp only[tP,hs,rp]
    ·obtain⟨p',e',h1,h2,h3⟩:=cq j oj (by omega) JA
     refine⟨p',e',?_,h2,?_⟩
     ·rw[List.take_append_of_le_length (by omega)];exact h1
     ·rw[List.getElem?_append_left (by omega)];exact h3
   split at hk
   ·rw[Ig] at hk
    exact key e rfl hk
   ·rename_i c ch
    cases c with
    |true =>
     have hk:=hk.t rfl
     rw[Ig] at hk
     exact key _ rfl hk
    |false =>
     have hk:=hk.f rfl
     rw[Ig] at hk
     exact key _ rfl hk
  ·exact h.elim
def zu (ops:List Oper):List Oper→Nat→Bool
 |[],_=>true
 |o::r,i=>match o.dst with
  |some d=>(match j9 ops 0 d with
   |some k=>if Nat.beq k i then zu ops r (i+1) else false
   |none=>false)
  |none=>zu ops r (i+1)
def Aw:List Edge→Nat→Bool
 |[],_=>true
 |e::r,i=>match gh e with
  |true=>if Nat.ble (e.on+1) i then Aw r i else false
  |false=>Aw r i
def DW:List Oper→Nat→Bool
 |[],_=>true
 |o::r,i=>if Aw o.after.toList i then DW r (i+1) else false
def F_ (gs:List Nat)(nt:Nat):List Oper→Bool
 |[]=>true
 |o::r=>match eF gs nt o.dst with
  |true=>false
  |false=>F_ gs nt r
def jX:List DE→Nat→List (Nat × Nat)
 |[],_=>[]
 |e::r,k=>match e.bT with
  |.st id _ _=>(k,id)::jX r (k+1)
  |_=>jX r (k+1)
def zh:List (Nat × Nat)→List (Nat × Nat)→Bool
 |[],[]=>true
 |(a,b)::r,(c,d)::s=>if Nat.beq a c then(if Nat.beq b d then zh r s else false) else false
 |_,_=>false
def Dn (n:Nat):List (Nat × Nat)→Bool
 |[]=>true
 |(j,_)::r=>if dK n j then Dn n r else false
def xY (A:List Nat):List (Nat × Nat)→List (Nat × Nat)→Bool
 |_,[]=>true
 |done,(j,id)::r=>if Dn (dh A j) done then xY A ((j,id)::done) r else false
def yJ (nx:Nat):List DE→Nat→Bool
 |[],_=>true
 |e::r,k=>match e.bT with
  |.new l=>if E9 (nx+4*k) l then yJ nx r (k+1) else false
  |_=>yJ nx r (k+1)
def rP:List DE→Option (List PanicEntry)
 |[]=>none
 |e::r=>match e.bT with
  |.bL ch=>some ch
  |_=>rP r
def ql:List Oper→List DE→List (Nat × FE)→List (Nat × FE)
 |o::r,e::s,F=>ql r s (match o.dst with
  |some d=>(d,⟨e.π,e.v⟩)::F
  |none=>F)
 |_,_,F=>F
def vV:List DE→List Nat→List Nat
 |[],gs=>gs
 |e::r,gs=>vV r (o_ e.π gs)
def mT:List DE→List (Nat × HB)→List (Nat × HB)
 |[],H=>H
 |e::r,H=>match e.bT with
  |.new l=>mT r (l++H)
  |.st id off cs=>(match ab H id with
   |some (.cells T cw)=>mT r ((id,.cells T (iZ cw off cs))::H)
   |_=>mT r H)
  |_=>mT r H
def uP:List DE→Nat
 |[]=>0
 |_::r=>uP r+1
def B_ (ops:List Oper):List (Nat × FE)→List (Nat × FE)
 |[]=>[]
 |(t,e)::r=>match j9 ops 0 t with
  |none=>(t,e)::B_ ops r
  |some _=>B_ ops r
theorem Fu {ops:List Oper}:∀{F:List (Nat × FE)} {t:Nat} {e:FE},findF (B_ ops F) t=some e→findF F t=some e∧j9 ops 0 t=none
 |[],t,e,h=>by cases h
 |(s,x)::r,t,e,h=>by
  simp only[B_] at h
  split at h
  ·rename_i hn
   by_cases bD:s=t
   ·subst bD
    rw[je] at h ⊢
    exact⟨h,hn⟩
   ·rw[iB _ _ bD] at h ⊢
    exact Fu h
  ·rename_i k hk
   obtain⟨h1,h2⟩:=Fu h
   by_cases bD:s=t
   ·subst bD;rw[hk] at h2;cases h2
   ·rw[iB _ _ bD];exact⟨h1,h2⟩
def Qr:List (Nat × Nat)→Bool
 |[]=>true
 |_::_=>false
def AF:List (Nat × FE)→(List (Nat × FE)→Prop)→Prop
 |[],K=>K []
 |(d,⟨π,v⟩)::r,K=>AF r λr'=>K ((d,⟨π,v⟩)::r')
theorem N1 (l:List (Nat × FE))(K:List (Nat × FE)→Prop):AF l K=K l:=by
 induction l generalizing K with
 |nil=>rfl
 |cons x r ih=>obtain⟨d,π,v⟩:=x;simp[AF,ih]
def FZ:List DE→Bool
 |[]=>true
 |e::r=>match e.bT with
  |.bL _=>(match rP r with
   |none=>true
   |some _=>false)
  |_=>FZ r
def AQ:List DE→List Nat→(List Nat→Prop)→Prop
 |[],gs,K=>K gs
 |e::r,gs,K=>match rM e.π with
  |true=>AQ r gs K
  |false=>vQ (o_ e.π gs) λjt=>AQ r jt K
def F9:List (Nat × HB)→List (Nat × HB)→(List (Nat × HB)→Prop)→Prop
 |[],H,K=>K H
 |(id,hb)::r,H,K=>fa id λbM=>AG hb λhb'=>F9 r H λH'=>K ((bM,hb')::H')
theorem abW (l H:List (Nat × HB))(K:List (Nat × HB)→Prop):F9 l H K=K (l++H):=by
 induction l generalizing K with
 |nil=>rfl
 |cons x r ih=>obtain⟨id,hb⟩:=x;simp[F9,fw,Ib,ih]
def qm:List DE→List (Nat × HB)→(List (Nat × HB)→Prop)→Prop
 |[],H,K=>K H
 |e::r,H,K=>match e.bT with
  |.new l=>F9 l H λH'=>qm r H' K
  |.st id off cs=>(match ab H id with
   |some (.cells T cw)=>eT (iZ cw off cs) λcs'=>qm r ((id,.cells T cs')::H) K
   |_=>qm r H K)
  |_=>qm r H K
theorem vW:∀(l:List DE) (H:List (Nat × HB)) (K:List (Nat × HB)→Prop),qm l H K=K (mT l H)
 |[],H,K=>rfl
 |e::r,H,K=>by
  obtain⟨π,v,bT⟩:=e
  cases bT with
  |no=>simp only[qm,mT];exact vW r H K
  |skip=>simp only[qm,mT];exact vW r H K
  |bL ch=>simp only[qm,mT];exact vW r H K
  |new l=>simp only[qm,mT,abW];exact vW r _ K
  |st id off cs =>
   simp only[qm,mT]
   split
   ·rw[gn];exact vW r _ K
   ·exact vW r H K
def NQ (X:Cx)(ops:List Oper)(A:List Nat)(S:List (Nat × Nat))(st:St)(K:Ex→St→Prop)(acc:List DE):Prop :=
 match (match rP acc with|none=>zh (jX acc 0) S|some _=>Qr (jX acc 0)),xY A [] S,yJ st.nx acc 0 with
 |true,true,true=>(match rP acc with
  |none=>AF (ql ops acc st.F) λF'=>AQ acc st.gs λjt=>qm acc st.H λH'=>fa (st.nx+4*uP acc) λaA=>K .normal ⟨F',jt,H',aA,st.D⟩
  |some ch=>(match Qr (jX acc 0),FZ acc with
   |true,true=>AF (B_ ops st.F) λF'=>fa (st.nx+4*uP acc) λaA=>K (.panic ch) ⟨F',st.gs,st.H,aA,st.D⟩
   |_,_=>False))
 |_,_,_=>False
def CS:Nat→List Oper→(List Oper→List Oper→Prop)→Prop
 |0,l,K=>K [] l
 |n+1,x::l,K=>CS n l λa b=>K (x::a) b
 |_+1,[],K=>K [] []
theorem ac5 (n:Nat)(l:List Oper)(K:List Oper→List Oper→Prop):CS n l K=K (l.take n) (l.drop n):=by
 induction n generalizing l K with
 |zero=>simp[CS]
 |succ n ih=>cases l<;>simp[CS,ih]
def Ku:Nat→List Oper→Bool
 |0,_=>true
 |n+1,_::l=>Ku n l
 |_+1,[]=>false
theorem QM:∀{n:Nat} {l:List Oper},Ku n l=true→n≤l.length
 |0,_,_=>Nat.zero_le _
 |n+1,_::l,h=>by have:=QM (n:=n) h;simp;omega
 |n+1,[],h=>by cases h
def wh (m:Nat):List Oper→Bool
 |[]=>true
 |o::r=>match o.guard with
  |none=>wh m r
  |some (j,_)=>if Nat.ble (j+1) m then wh m r else false
def Ej:List Nat→Nat→Bool
 |[],_=>true
 |x::r,j=>if Nat.beq (x+1) (Nat.shiftLeft 1 j) then Ej r (j+1) else false
def drawn (X:Cx)(ops:List Oper)(A:List Nat)(S:List (Nat × Nat))(m:Nat)(st:St)(K:Ex→St→Prop):Prop :=
 CS m ops λbt dN=>match zu bt bt 0,DW ops 0,F_ st.gs X.nt bt,wh m bt,Ej (nY m A) m,Ku m ops with
 |true,true,true,true,true,true=>vO X bt A S (findF st.F) (ab st.H) st.nx 0 bt [] (NQ X bt A S st (λe af=>match e with
  |.normal=>c7 X ops (sf X K) (λst=>mN st (K .normal)) (λch st=>K (.panic ch) st) m dN af
  |e=>K e af))
 |_,_,_,_,_,_=>False
theorem adW {ops:List Oper}:∀(l:List Oper) (i:Nat),zu ops l i=true→∀j o d,l[j]?=some o→o.dst=some d→j9 ops 0 d=some (i+j):=by
 intro l
 induction l with
 |nil=>intro i _ j o d h;simp at h
 |cons x r ih =>
  intro i h j o d hj hd
  simp only[zu] at h
  cases j with
  |zero =>
   simp at hj;subst hj
   rw[hd] at h
   simp only at h
   split at h
   ·rename_i k e
    split at h
    ·rename_i hk
     have:k=i:=by simpa using hk
     rw[e,this];simp
    ·cases h
   ·cases h
  |succ j =>
   simp at hj
   have hr:zu ops r (i+1)=true:=by
    split at h
    ·split at h
     ·split at h
      ·exact h
      ·cases h
     ·cases h
    ·exact h
   have:=ih (i+1) hr j o d hj hd
   rw[this];congr 1;omega
theorem DV:∀{ops:List Oper} {i t k:Nat},j9 ops i t=some k→i≤k∧∃o,ops[k-i]?=some o∧o.dst=some t
 |[],i,t,k,h=>by cases h
 |o::r,i,t,k,h=>by
  simp only[j9] at h
  split at h
  ·rename_i d hd
   split at h
   ·rename_i e
    cases h
    have:d=t:=by simpa using e
    exact⟨Nat.le_refl _,o,by simp,by rw[hd,this]⟩
   ·obtain⟨h1,o',h2,h3⟩:=DV h
    exact⟨by omega,o',by rw[show k-i=(k-(i+1))+1 by omega];simpa using h2,h3⟩
  ·obtain⟨h1,o',h2,h3⟩:=DV h
   exact⟨by omega,o',by rw[show k-i=(k-(i+1))+1 by omega];simpa using h2,h3⟩
theorem HT:∀{l:List Edge} {i:Nat},Aw l i=true→∀e∈l,gh e=true→e.on<i
 |[],i,_,e,h,_=>by cases h
 |x::r,i,h,e,he,hb=>by
  simp only[Aw] at h
  rcases List.mem_cons.1 he with rfl|he
  ·rw[hb] at h
   simp only at h
   split at h
   ·rename_i h1
    have:=Nat.le_of_ble_eq_true h1;omega
   ·cases h
  ·split at h
   ·split at h
    ·exact HT h e he hb
    ·cases h
   ·exact HT h e he hb
theorem NN:∀{l:List Oper} {i:Nat},DW l i=true→∀j o,l[j]?=some o→∀e∈o.after.toList,gh e=true→e.on<i+j
 |[],i,_,j,o,h=>by simp at h
 |x::r,i,h,j,o,hj=>by
  simp only[DW] at h
  split at h
  ·rename_i h1
   cases j with
   |zero=>simp at hj;subst hj;exact HT h1
   |succ j =>
    simp at hj
    intro e he hb
    have:=NN h j o hj e he hb
    omega
  ·cases h
theorem R4 {gs:List Nat}{nt:Nat}:∀{l:List Oper},F_ gs nt l=true→∀(j:Nat) (o:Oper),l[j]?=some o→eF gs nt o.dst=false
 |[],_,j,o,h=>by simp at h
 |x::r,h,j,o,hj=>by
  simp only[F_] at h
  split at h
  ·cases h
  ·rename_i h1
   cases j with
   |zero=>simp at hj;subst hj;exact h1
   |succ j=>simp at hj;exact R4 h j o hj
theorem CV:∀{acc:List DE} {k j:Nat} {e:DE} {id off:Nat} {cs:List SV},acc[j]?=some e→e.bT=.st id off cs→(k+j,id)∈jX acc k
 |[],k,j,e,id,off,cs,h,_=>by simp at h
 |x::r,k,j,e,id,off,cs,h,he=>by
  simp only[jX]
  cases j with
  |zero=>simp at h;subst h;rw[he];simp
  |succ j =>
   simp at h
   have:=CV (k:=k+1) h he
   rw[show k+1+j=k+(j+1) by omega] at this
   split
   ·exact List.mem_cons_of_mem _ this
   ·exact this
theorem Su:∀{a b:List (Nat × Nat)},zh a b=true→a=b
 |[],[],_=>rfl
 |(a,b)::r,(c,d)::s,h=>by
  simp only[zh] at h
  split at h
  ·rename_i h1
   split at h
   ·rename_i h2
    have e1:a=c:=by simpa using h1
    have e2:b=d:=by simpa using h2
    rw[e1,e2,Su h]
   ·cases h
  ·cases h
 |[],_::_,h=>by simp[zh] at h
 |_::_,[],h=>by simp[zh] at h
theorem Mr {n:Nat}:∀{l:List (Nat × Nat)},Dn n l=true→∀x∈l,dK n x.1=true
 |[],_,x,h=>by cases h
 |(j,id)::r,h,x,hx=>by
  simp only[Dn] at h
  split at h
  ·rename_i h1
   rcases List.mem_cons.1 hx with rfl|hx
   ·exact h1
   ·exact Mr h x hx
  ·cases h
theorem Nh {A:List Nat}:∀{l done:List (Nat × Nat)},xY A done l=true→∀x∈done,∀y∈l,dK (dh A y.1) x.1=true
 |[],done,_,x,_,y,h=>by cases h
 |(j,id)::r,done,h,x,hx,y,hy=>by
  simp only[xY] at h
  split at h
  ·rename_i h1
   rcases List.mem_cons.1 hy with rfl|hy
   ·exact Mr h1 x hx
   ·exact Nh h x (List.mem_cons_of_mem _ hx) y hy
  ·cases h
theorem Ni {A:List Nat}:∀{l done:List (Nat × Nat)},xY A done l=true→∀(a b:Nat) (x y:Nat × Nat),l[a]?=some x→l[b]?=some y→a<b→dK (dh A y.1) x.1=true
 |[],done,_,a,b,x,y,h,_,_=>by simp at h
 |(j,id)::r,done,h,a,b,x,y,ha,hb,yv=>by
  simp only[xY] at h
  split at h
  ·cases b with
   |zero=>omega
   |succ b =>
    simp at hb
    cases a with
    |zero =>
     simp at ha;subst ha
     exact Nh h _ List.mem_cons_self y (List.mem_of_getElem? hb)
    |succ a=>simp at ha;exact Ni h a b x y ha hb (by omega)
  ·cases h
theorem Ly:∀{acc:List DE} {k:Nat} {x:Nat × Nat},x∈jX acc k→k≤x.1
 |[],k,x,h=>by cases h
 |e::r,k,x,h=>by
  simp only[jX] at h
  split at h
  ·rcases List.mem_cons.1 h with rfl|h
   ·exact Nat.le_refl _
   ·have:=Ly h;omega
  ·have:=Ly h;omega
theorem Lz:∀{acc:List DE} {k a b:Nat} {x y:Nat × Nat},(jX acc k)[a]?=some x→(jX acc k)[b]?=some y→x.1<y.1→a<b
 |[],k,a,b,x,y,h,_,_=>by simp[jX] at h
 |e::r,k,a,b,x,y,ha,hb,aG=>by
  simp only[jX] at ha hb
  split at ha
  ·rename_i id off cs he
   rw[he] at hb
   simp only at hb
   cases b with
   |zero =>
    simp at hb
    subst hb
    cases a with
    |zero=>simp at ha;subst ha;omega
    |succ a =>
     simp at ha
     have:=Ly (List.mem_of_getElem? ha)
     simp at aG;omega
   |succ b =>
    cases a with
    |zero=>omega
    |succ a =>
     simp at ha hb
     have:=Lz ha hb aG
     omega
  ·rename_i aV
   have hb':(jX r (k+1))[b]?=some y:=by
    split at hb
    ·rename_i id off cs he;exact absurd he (aV id off cs)
    ·exact hb
   exact Lz ha hb' aG
theorem Qg {fr:Nat}:∀{l:List (Nat × HB)},E9 fr l=true→∀id hb,ab l id=some hb→fr≤id∧id<fr+4
 |[],_,id,hb,h=>by cases h
 |(i,x)::r,h,id,hb,hf=>by
  simp only[E9] at h
  split at h
  ·rename_i h1
   split at h
   ·rename_i h2
    simp only[ab] at hf
    split at hf
    ·rename_i e
     have:i=id:=by simpa using e
     subst this
     exact⟨Nat.le_of_ble_eq_true h1,Nat.le_of_ble_eq_true h2⟩
    ·exact Qg h id hb hf
   ·cases h
  ·cases h
theorem Qh {nx:Nat}:∀{acc:List DE} {k:Nat},yJ nx acc k=true→∀j e l,acc[j]?=some e→e.bT=.new l→∀id hb,ab l id=some hb→nx+4*(k+j)≤id∧id<nx+4*(k+j)+4
 |[],k,_,j,e,l,h,_=>by simp at h
 |x::r,k,h,j,e,l,hj,he=>by
  simp only[yJ] at h
  cases j with
  |zero =>
   simp at hj;subst hj
   rw[he] at h
   simp only at h
   split at h
   ·rename_i h1;exact Qg h1
   ·cases h
  |succ j =>
   simp at hj
   have hr:yJ nx r (k+1)=true:=by
    split at h
    ·split at h
     ·exact h
     ·cases h
    ·exact h
   intro id hb hf
   have:=Qh hr j e l hj he id hb hf
   rw[show k+(j+1)=k+1+j by omega]
   exact this
theorem G7 {A:List Nat}{k:Nat}:∀{l:List Edge} {s:Nat},dK (p9 A l s) k=true→dK s k=true∨∃e∈l,gh e=true∧(e.on=k∨dK (dh A e.on) k=true)
 |[],s,h=>.inl h
 |e::r,s,h=>by
  simp only[p9] at h
  split at h
  ·rename_i hb
   rcases G7 h with h1|⟨e',h1,h2⟩
   ·have rm:((s ||| (1 <<< e.on)) ||| dh A e.on).testBit k=true:=by rw[←yy];exact h1
    rw[Nat.testBit_or,Nat.testBit_or,Bool.or_eq_true,Bool.or_eq_true] at rm
    rcases rm with(h2|h2)|h2
    ·exact .inl (by rw[yy];exact h2)
    ·refine .inr ⟨e,List.mem_cons_self,hb,.inl ?_⟩
     rw[Nat.one_shiftLeft,Nat.testBit_two_pow] at h2
     simpa using h2
    ·exact .inr ⟨e,List.mem_cons_self,hb,.inr (by rw[yy];exact h2)⟩
   ·exact .inr ⟨e',List.mem_cons_of_mem _ h1,h2⟩
  ·rcases G7 h with h1|⟨e',h1,h2⟩
   ·exact .inl h1
   ·exact .inr ⟨e',List.mem_cons_of_mem _ h1,h2⟩
theorem My:∀(l:List Oper) (A:List Nat),∃B,mE l A=A++B
 |[],A=>⟨[],by simp[mE]⟩
 |o::r,A=>by
  obtain⟨B,hB⟩:=My r (A++[p9 A o.after.toList 0])
  exact⟨[p9 A o.after.toList 0]++B,by rw[mE,hB,List.append_assoc]⟩
theorem XH {A B:List Nat}{i:Nat}(h:i<A.length):dh (A++B) i=dh A i:=by
 simp only[dh,jA,List.getElem?_append_left h]
theorem XI {A:List Nat}{i:Nat}(h:A.length≤i):dh A i=0:=by
 simp[dh,jA,List.getElem?_eq_none h]
theorem Mx:∀(l:List Oper) (A:List Nat) (j:Nat) (o:Oper) (k:Nat),l[j]?=some o→dK (dh (mE l A) (A.length+j)) k=true →
  ∃e∈o.after.toList,gh e=true∧(e.on=k∨dK (dh (mE l A) e.on) k=true)
 |[],A,j,o,k,h,_=>by simp at h
 |x::r,A,j,o,k,hj,hb=>by
  cases j with
  |zero =>
   simp at hj;subst hj
   obtain⟨B,hB⟩:=My r (A++[p9 A x.after.toList 0])
   have e1:mE (x::r) A=A++([p9 A x.after.toList 0]++B):=by rw[mE,hB,List.append_assoc]
   have e2:dh (mE (x::r) A) (A.length+0)=p9 A x.after.toList 0:=by
    rw[e1];simp[dh,jA]
   rw[e2] at hb
   rcases G7 hb with h1|⟨e,h1,h2,h3⟩
   ·rw[yy] at h1;simp at h1
   ·refine⟨e,h1,h2,?_⟩
    rcases h3 with h3|h3
    ·exact .inl h3
    ·right
     rcases Nat.lt_or_ge e.on A.length with aG|kj
     ·rw[e1,XH aG];exact h3
     ·rw[XI kj,yy] at h3;simp at h3
  |succ j =>
   simp at hj
   rw[mE] at hb ⊢
   have:=Mx r (A++[p9 A x.after.toList 0]) j o k hj (by simpa [Nat.add_assoc,Nat.add_comm 1] using hb)
   exact this
def lS (e:DE)(id:Nat):Bool :=
 match e.bT with
 |.new l=>(ab l id).isSome
 |.st bM _ _=>Nat.beq bM id
 |_=>false
def iP (e:DE)(id:Nat)(x:Option HB):Option HB :=
 match e.bT with
 |.new l=>(match ab l id with
  |some hb=>some hb
  |none=>x)
 |.st bM off cs=>if Nat.beq bM id then(match x with
  |some (.cells T cw)=>some (.cells T (iZ cw off cs))
  |y=>y) else x
 |_=>x
theorem DX {e:DE}{id:Nat}{x:Option HB}(h:lS e id=false):iP e id x=x:=by
 unfold lS at h;unfold iP
 split at h
 ·rename_i l he;cases hf:ab l id<;>simp_all
 ·simp[h]
 ·rfl
def pD (L:Nat→Bool):List DE→Nat→Nat→Option HB→Option HB
 |[],_,_,x=>x
 |e::r,k,id,x=>pD L r (k+1) id (if L k then iP e id x else x)
theorem w_ {L:Nat→Bool}:∀{acc:List DE} {k id:Nat} {x:Option HB},(∀j e,acc[j]?=some e→L (k+j)=true→lS e id=false)→pD L acc k id x=x
 |[],k,id,x,_=>rfl
 |e::r,k,id,x,h=>by
  simp only[pD]
  rw[w_ (acc:=r) (λj e' hj hl=>h (j+1) e' (by simpa using hj) (by rw[show k+(j+1)=k+1+j by omega];exact hl))]
  split
  ·rename_i hl;exact DX (h 0 e (by simp) (by simpa using hl))
  ·rfl
theorem CB {L:Nat→Bool}:∀{a b:List DE} {k id:Nat} {x:Option HB},pD L (a++b) k id x=pD L b (k+a.length) id (pD L a k id x)
 |[],b,k,id,x=>rfl
 |e::r,b,k,id,x=>by
  simp only[List.cons_append,pD,List.length_cons]
  rw[CB,show k+1+r.length=k+(r.length+1) by omega]
theorem KQ {L L':Nat→Bool}:∀{acc:List DE} {k id:Nat} {x:Option HB},(∀j,j<acc.length→L (k+j)=L' (k+j))→pD L acc k id x=pD L' acc k id x
 |[],k,id,x,_=>rfl
 |e::r,k,id,x,h=>by
  simp only[pD]
  have h0:=h 0 (by simp)
  simp only[Nat.add_zero] at h0
  rw[h0]
  exact KQ λj hj=>by
   have:=h (j+1) (by simp;omega)
   rwa [show k+(j+1)=k+1+j by omega] at this
structure iL (X:Cx) (ops:List Oper) (A:List Nat) (S:List (Nat × Nat)) (st:St) (acc:List DE):Prop where
 len:acc.length=ops.length
 step:∀j o,ops[j]?=some o→∃pre e,tP X ops A S (findF st.F) (ab st.H) st.nx j o (acc.take j)=some (pre,e)∧fc pre∧acc[j]?=some e
 bf:∀(j:Nat) (o:Oper) (k:Nat),ops[j]?=some o→dK (dh A j) k=true→∃e∈o.after.toList,gh e=true∧(e.on=k∨dK (dh A e.on) k=true)
 C0:∀(j:Nat) (o:Oper) (d:Nat),ops[j]?=some o→o.dst=some d→j9 ops 0 d=some j
 NM:∀(j:Nat) (o:Oper),ops[j]?=some o→∀e∈o.after.toList,gh e=true→e.on<j
 put:∀(j:Nat) (o:Oper),ops[j]?=some o→eF st.gs X.nt o.dst=false
 SX:∀(j:Nat) (e:DE) (id off:Nat) (cs:List SV),acc[j]?=some e→e.bT=.st id off cs→(j,id)∈S
 chain:∀(j j':Nat) (e e':DE) (id off:Nat) (cs:List SV) (bM FX:Nat) (cs':List SV),acc[j]?=some e→e.bT=.st id off cs→acc[j']?=some e'→e'.bT=.st bM FX cs'→j<j'→dK (dh A j') j=true
 ids:∀(j:Nat) (e:DE) (l:List (Nat × HB)),acc[j]?=some e→e.bT=.new l→∀id hb,ab l id=some hb→st.nx+4*j≤id∧id<st.nx+4*j+4
def fD (ops:List Oper)(acc:List DE)(F0:LF)(L:Nat→Bool):LF:=λt =>
 match j9 ops 0 t with
 |none=>F0 t
 |some k=>if L k then(match nth acc k with
  |some e=>some ⟨e.π,e.v⟩
  |none=>none) else F0 t
def hD (acc:List DE)(H0:LH)(L:Nat→Bool):LH:=λid=>pD L acc 0 id (H0 id)
structure j5 (X:Cx) (ops:List Oper) (A:List Nat) (st:St) (acc:List DE) (L:Nat→Bool) (ρ:Env) (a:Act) (w:World):Prop where
 cl:∀j k,L j=true→dK (dh A j) k=true→L k=true
 lt:∀j,L j=true→j<ops.length
 fm:FM ρ (fD ops acc (findF st.F) L) a
 hm:HM ρ (hD acc (ab st.H) L) w
 kp:gO X.G ρ (hD acc (ab st.H) L) w
 df:nD ρ a.defers st.D
 sz:a.tmps.size=X.nt
 um:∀t e,findF st.F t=some e→∀x∈e.gp,x.1∈st.gs
 nx:∀j,st.nx≤j→ρ j≠none→∃k e l hb,L k=true∧acc[k]?=some e∧e.bT=.new l∧ab l j=some hb
 np:∀k e,L k=true→acc[k]?=some e→e.bT≠.skip∧∀ch,e.bT≠.bL ch
 ext:∀id hb,ab st.H id=some hb→id<st.nx
section
variable {X:Cx}{ops:List Oper}{A:List Nat}{S:List (Nat × Nat)}{st:St}{acc:List DE}{L:Nat→Bool}{ρ:Env}{a:Act}{w:World}
theorem CG (hd:iL X ops A S st acc)(bi:∀j k,L j=true→dK (dh A j) k=true→L k=true){i:Nat}{o:Oper}(ho:ops[i]?=some o)
  (hr:∀e∈o.after.toList,gh e=true→L e.on=true) {k:Nat} (hk:dK (dh A i) k=true):L k=true:=by
 obtain⟨e,he,hb,h⟩:=hd.bf i o k ho hk
 have hl:=hr e he hb
 rcases h with h|h
 ·rw[←h];exact hl
 ·exact bi e.on k hl h
theorem G8 (hd:iL X ops A S st acc):∀(i:Nat) (o:Oper) (k:Nat),ops[i]?=some o→dK (dh A i) k=true→k<i:=by
 intro i
 induction i using Nat.strongRecOn with
 |_ i ih =>
  intro o k ho hk
  obtain⟨e,he,hb,h⟩:=hd.bf i o k ho hk
  have aG:=hd.NM i o ho e he hb
  rcases h with h|h
  ·omega
  ·rcases yD:ops[e.on]? with _|o'
   ·have:ops.length≤e.on:=by simpa using yD
    have hi:i<ops.length:=by
     rcases Nat.lt_or_ge i ops.length with h|h
     ·exact h
     ·rw[List.getElem?_eq_none h] at ho;cases ho
    omega
   ·have:=ih e.on aG o' k yD h
    omega
theorem ad5 (hd:iL X ops A S st acc)(hi:j5 X ops A st acc L ρ a w){i:Nat}{o:Oper}(ho:ops[i]?=some o)(cO:L i=false)
  (hr:∀e∈o.after.toList,gh e=true→L e.on=true):FM ρ (nA A ops (findF st.F) (acc.take i) i) a:=by
 intro t e hf
 refine hi.fm t e ?_
 unfold nA at hf
 unfold fD
 cases n_:j9 ops 0 t with
 |none=>rw[n_] at hf;exact hf
 |some k =>
  rw[n_] at hf
  simp only at hf ⊢
  split at hf
  ·rename_i hk
   have Bt:=CG hd hi.cl ho hr hk
   rw[Bt]
   simp only[if_true]
   rw[jA] at hf ⊢
   have Jo:=G8 hd i o k ho hk
   rw[List.getElem?_take,if_pos Jo] at hf
   exact hf
  ·split at hf
   ·rename_i hk
    have:L k=false:=by
     cases hl:L k with
     |false=>rfl
     |true=>rw[hi.cl k i hl hk] at cO;cases cO
    rw[this]
    simpa using hf
   ·cases hf
theorem HI:∀{S:List (Nat × Nat)} {i id:Nat},ya S A i id=false→∀j,(j,id)∈S→dK (dh A j) i=true
 |[],i,id,_,j,h=>by cases h
 |(j',bM)::r,i,id,h,j,hj=>by
  simp only[ya] at h
  rcases List.mem_cons.1 hj with e|hj
  ·cases e
   simp only[Nat.beq_refl,if_true] at h
   split at h
   ·assumption
   ·cases h
  ·split at h
   ·split at h
    ·exact HI h j hj
    ·cases h
   ·exact HI h j hj
theorem KD {bf:Nat}:∀{acc:List DE} {k id:Nat} {hb:HB},w5 bf acc k id=some hb→∃j e l,acc[j]?=some e∧e.bT=.new l∧dK bf (k+j)=true∧ab l id=some hb
 |[],k,id,hb,h=>by cases h
 |x::r,k,id,hb,h=>by
  have xc:w5 bf r (k+1) id=some hb→∃j e l,(x::r)[j]?=some e∧e.bT=.new l∧dK bf (k+j)=true∧ab l id=some hb:=λh=>by
   obtain⟨j,e,l,h1,h2,h3,h4⟩:=KD h
   exact⟨j+1,e,l,by simpa using h1,h2,by rw[show k+(j+1)=k+1+j by omega];exact h3,h4⟩
  simp only[w5] at h
  split at h
  ·rename_i l he
   split at h
   ·rename_i hb'
    split at h
    ·rename_i aeP hf
     cases h
     exact⟨0,x,l,by simp,he,by simpa using hb',hf⟩
    ·exact xc h
   ·exact xc h
  ·exact xc h
theorem yT (hd:iL X ops A S st acc){j j':Nat}{e e':DE}{l l':List (Nat × HB)}{id:Nat}{hb hb':HB}(h1:acc[j]?=some e)(h2:e.bT=.new l)(h3:ab l id=some hb)
  (h4:acc[j']?=some e') (h5:e'.bT=.new l') (h6:ab l' id=some hb'):j=j':=by
 have a1:=hd.ids j e l h1 h2 id hb h3
 have a2:=hd.ids j' e' l' h4 h5 id hb' h6
 omega
theorem O_ (hd:iL X ops A S st acc){id:Nat}(aG:id<st.nx)(hs:∀j e off cs,L j=true→acc[j]?=some e→e.bT≠.st id off cs):hD acc (ab st.H) L id=ab st.H id:=by
 refine w_ λj e hj hl=>?_
 simp only[Nat.zero_add] at hl
 unfold lS
 split
 ·rename_i l he
  cases hf:ab l id with
  |none=>rfl
  |some hb=>have:=hd.ids j e l hj he id hb hf;omega
 ·rename_i bM off cs he
  cases hb:Nat.beq bM id with
  |false=>rfl
  |true =>
   have:bM=id:=by simpa using hb
   subst this
   exact absurd he (hs j e off cs hl hj)
 ·rfl
theorem XZ (hd:iL X ops A S st acc){id j:Nat}{e:DE}{l:List (Nat × HB)}{hb:HB}(hj:acc[j]?=some e)(he:e.bT=.new l)(hl:L j=true)(hf:ab l id=some hb)
  (hs:∀j e off cs,L j=true→acc[j]?=some e→e.bT≠.st id off cs):hD acc (ab st.H) L id=some hb:=by
 have pv:j<acc.length:=by
  rcases Nat.lt_or_ge j acc.length with h|h
  ·exact h
  ·rw[List.getElem?_eq_none h] at hj;cases hj
 have yF:acc=acc.take j++e::acc.drop (j+1):=by
  have h1:=List.take_append_drop j acc
  have h2:acc.drop j=e::acc.drop (j+1):=by
   rw[List.drop_eq_getElem_cons pv]
   congr 1
   rw[List.getElem?_eq_getElem pv] at hj;exact Option.some.inj hj
  rw[←h2];exact h1.symm
 have hlen:(acc.take j).length=j:=by simp;omega
 have other:∀j' e',acc[j']?=some e'→L j'=true→j'≠j→lS e' id=false:=by
  intro j' e' gT iF aV
  unfold lS
  split
  ·rename_i l' rp
   cases fu:ab l' id with
   |none=>rfl
   |some hb'=>exact absurd (yT hd gT rp fu hj he hf) aV
  ·rename_i bM off cs rp
   cases hb:Nat.beq bM id with
   |false=>rfl
   |true =>
    have:bM=id:=by simpa using hb
    subst this
    exact absurd rp (hs j' e' off cs iF gT)
  ·rfl
 show pD L acc 0 id (ab st.H id)=some hb
 rw[yF,CB,w_ (acc:=acc.take j) (λj' e' gT iF=>by
  rw[List.getElem?_take] at gT
  split at gT
  ·exact other j' e' gT (by simpa using iF) (by omega)
  ·cases gT)]
 simp only[pD,hlen,Nat.zero_add,hl,if_true]
 rw[w_ (acc:=acc.drop (j+1)) (λj' e' gT iF=>by
  rw[List.getElem?_drop] at gT
  exact other _ e' gT iF (by omega))]
 simp[iP,he,hf]
theorem ad6 (hd:iL X ops A S st acc)(hi:j5 X ops A st acc L ρ a w){i:Nat}{o:Oper}(ho:ops[i]?=some o)(cO:L i=false)
  (hr:∀e∈o.after.toList,gh e=true→L e.on=true) {id:Nat} {hb:HB} (hv:pV S A (ab st.H) (acc.take i) i id=some hb):hD acc (ab st.H) L id=some hb:=by
 unfold pV at hv
 split at hv
 ·cases hv
 ·rename_i I5
  have fY:=HI I5
  have hs:∀j e off cs,L j=true→acc[j]?=some e→e.bT≠.st id off cs:=by
   intro j e off cs hl hj he
   have:=hi.cl j i hl (fY j (hd.SX j e id off cs hj he))
   rw[this] at cO;cases cO
  split at hv
  ·rename_i hb' hn
   cases hv
   obtain⟨j,e,l,h1,h2,h3,h4⟩:=KD hn
   rw[List.getElem?_take] at h1
   split at h1
   ·simp only[Nat.zero_add] at h3
    exact XZ hd h1 h2 (CG hd hi.cl ho hr h3) h4 hs
   ·cases h1
  ·rw[O_ hd (hi.ext _ _ hv) hs];exact hv
end
theorem HM.sub {ρ:Env}{H H':LH}{w:World}(h:HM ρ H w)(hs:∀id hb,H' id=some hb→H id=some hb):HM ρ H' w where
 ok id hb hf:=h.ok id hb (hs _ _ hf)
 sep i j x y c_ dE b h1 h2 l1 l2 r1 r2 o1 o2:=h.sep i j x y c_ dE b (hs _ _ h1) (hs _ _ h2) l1 l2 r1 r2 o1 o2
 ro j size m get nm b hf hm hr hb ho:=by
  refine h.ro j size m get nm b (hs _ _ hf) hm hr hb ?_
  obtain⟨id,x,ak,h1,h2,h3,h4⟩:=ho
  exact⟨id,x,ak,hs _ _ h1,h2,h3,h4⟩
 ax b hz ho:=by
  refine h.ax b (hz.sub λid size C hf=>hs _ _ hf) ?_
  obtain⟨id,x,ak,h1,h2,h3,h4⟩:=ho
  exact⟨id,x,ak,hs _ _ h1,h2,h3,h4⟩
theorem Own.sub {ρ:Env}{H H':LH}{b:Nat}(hs:∀id hb,H' id=some hb→H id=some hb)(h:Own ρ H' b):Own ρ H b:=by
 obtain⟨id,x,ak,h1,h2,h3,h4⟩:=h
 exact⟨id,x,ak,hs _ _ h1,h2,h3,h4⟩
theorem IE {ops:List Oper}{n:Nat}:∀{π:GP},wa ops n π=true→∀x∈π,∀m,j9 ops 0 x.1=some m→dK n m=true
 |[],_,x,h=>by cases h
 |(s,p)::r,h,x,hx=>by
  intro m hm
  simp only[wa] at h
  rcases List.mem_cons.1 hx with rfl|hx
  ·simp only at hm
   rw[hm] at h
   simp only at h
   split at h
   ·assumption
   ·cases h
  ·split at h
   ·split at h
    ·exact IE h x hx m hm
    ·cases h
   ·exact IE h x hx m hm
section
variable {X:Cx}{ops:List Oper}{A:List Nat}{S:List (Nat × Nat)}{st:St}{acc:List DE}{L L':Nat→Bool}{ρ ρ':Env}{a:Act}{w w':World}
theorem S5 {ρ:Env}{F:LF}{a:Act}(hF:FM ρ F a):∀{π:GP},GF F π=true→bu a π
 |[],_=>λx hx=>by cases hx
 |(s,w)::r,h=>by
  simp only[GF] at h
  split at h
  ·rename_i q e
   split at h
   ·rename_i hq
    have hr:=S5 hF h
    obtain⟨v,h4,h5⟩:=(hF s _ e).1 (λx hx=>by cases hx)
    simp only[den,Option.some.injEq] at h5
    subst h5
    have Zr:q=w:=by cases q<;>cases w<;>first|rfl|cases hq
    subst Zr
    intro x hx
    rcases List.mem_cons.1 hx with rfl|hx
    ·exact h4
    ·exact hr x hx
   ·cases h
  ·cases h
theorem Ii {ρ:Env}{F:LF}{a:Act}(hF:FM ρ F a):∀{π:GP},yi F π=true→¬bu a π
 |[],h=>by cases h
 |(s,w)::r,h=>by
  simp only[yi] at h
  intro hs
  have hr:bu a r:=λx hx=>hs x (List.mem_cons_of_mem _ hx)
  split at h
  ·rename_i q e
   split at h
   ·exact Ii hF h hr
   ·rename_i hq
    obtain⟨v,h4,h5⟩:=(hF s _ e).1 (λx hx=>by cases hx)
    simp only[den,Option.some.injEq] at h5
    subst h5
    have h6:=hs (s,w) List.mem_cons_self
    rw[h4] at h6
    simp only[Option.some.injEq,Value.bool.injEq] at h6
    subst h6
    cases q<;>cases hq
  ·exact Ii hF h hr
theorem w7 {F:LF}{π:GP}{pre:Option Prop}{e:DE}{po:Option (Bool × List PanicEntry)}(h:yX F π=some (pre,e,po)):pre=none∧e=⟨π,.sb false,.no⟩∧po=none∧yi F π=true:=by
 unfold yX at h
 split at h
 ·rename_i hf
  cases h
  exact⟨rfl,rfl,rfl,hf⟩
 ·cases h
theorem adv {F0:LF}{H0:LH}{nx i:Nat}{o:Oper}{pre:Option Prop}{e:DE}{po:Option (Bool × List PanicEntry)}(h:xk X ops A S F0 H0 nx i o acc=some (pre,e,po)):wa ops (dh A i) e.π=true:=by
 unfold xk at h
 split at h
 ·cases h;rfl
 ·split at h
  ·rename_i π hg
   split at h
   ·rename_i oa
    split at h
    ·split at h
     ·cases h;exact oa
     ·cases h
    ·split at h
     ·split at h
      ·cases h;exact oa
      ·split at h
       ·cases h;exact oa
       ·split at h
        ·cases h;rfl
        ·obtain⟨rfl,rfl,rfl,_⟩:=w7 h;exact oa
       ·cases h
      ·cases h
     ·split at h
      ·split at h
       ·split at h
        ·cases h;exact oa
        ·cases h;exact oa
        ·cases h
       ·split at h
        ·cases h;exact oa
        ·cases h
       ·obtain⟨rfl,rfl,rfl,_⟩:=w7 h;exact oa
      ·obtain⟨rfl,rfl,rfl,_⟩:=w7 h;exact oa
   ·cases h
  ·cases h
theorem RY (po:Option (Bool × List PanicEntry))(e:DE):(y_ po e).π=e.π:=by
 unfold y_;split<;>rfl
theorem adt {F0:LF}{H0:LH}{nx i:Nat}{o:Oper}{pre:Option Prop}{e:DE}(h:tP X ops A S F0 H0 nx i o acc=some (pre,e)):wa ops (dh A i) e.π=true:=by
 obtain⟨sJ,po,h1,rfl⟩:=Lv h
 rw[RY];exact adv h1
theorem O3 (hd:iL X ops A S st acc){k:Nat}{e:DE}(hk:acc[k]?=some e):∀x∈e.π,∀m,j9 ops 0 x.1=some m→dK (dh A k) m=true:=by
 have aG:k<ops.length:=by
  rw[←hd.len]
  rcases Nat.lt_or_ge k acc.length with h|h
  ·exact h
  ·rw[List.getElem?_eq_none h] at hk;cases hk
 obtain⟨pre,e',h1,h2,h3⟩:=hd.step k _ (List.getElem?_eq_getElem aG)
 rw[hk] at h3;cases h3
 exact IE (adt h1)
theorem Wt (hd:iL X ops A S st acc){i:Nat}{o:Oper}(ho:ops[i]?=some o){e:DE}(he:acc[i]?=some e)(cO:L i=false)(hL:∀j,L' j=if j=i then true else L j){F0:LF}(t:Nat) :
  (o.dst=some t→fD ops acc F0 L' t=some ⟨e.π,e.v⟩)∧(o.dst≠some t→fD ops acc F0 L' t=fD ops acc F0 L t):=by
 constructor
 ·intro h
  simp only[fD,hd.C0 i o t ho h,hL,if_true,jA,he]
 ·intro h
  simp only[fD]
  cases n_:j9 ops 0 t with
  |none=>rfl
  |some k =>
   have aV:k≠i:=by
    rintro rfl
    obtain⟨_,o',h1,h2⟩:=DV n_
    simp only[Nat.sub_zero] at h1
    rw[ho] at h1;cases h1
    exact h h2
   simp only[hL,if_neg aV]
theorem j5.add (hd:iL X ops A S st acc)(hi:j5 X ops A st acc L ρ a w){i:Nat}{o:Oper}(ho:ops[i]?=some o)(cO:L i=false)
  (hr:∀e∈o.after.toList,gh e=true→L e.on=true) (hL:∀j,L' j=if j=i then true else L j) {e:DE} (he:acc[i]?=some e) (s8:e.bT≠.skip) (Y':∀ch,e.bT≠.bL ch) {v:Value}
  (hx:Ext ρ ρ') (hm:HM ρ' (hD acc (ab st.H) L') w') (kp:gO X.G ρ' (hD acc (ab st.H) L') w')
  (aU:∀j,ρ' j≠ρ j→∃l hb,e.bT=.new l∧ab l j=some hb) (hv:o.dst.isSome=true→bu a e.π→den ρ' e.v=some v) (hu:o.dst.isSome=true→¬bu a e.π→v=undef) :
  j5 X ops A st acc L' ρ' (a.put o.dst v) w':=by
 have mg:i<ops.length:=by
  rcases Nat.lt_or_ge i ops.length with h|h
  ·exact h
  ·rw[List.getElem?_eq_none h] at ho;cases ho
 have IP:L' i=true:=by rw[hL];simp
 have IQ:∀j,L j=true→L' j=true:=λj h=>by rw[hL];split<;>first|rfl|exact h
 refine{ cl:=?_,lt:=?_,fm:=?_,hm:=hm,kp:=kp,df:=?_,sz:=?_,um:=hi.um,nx:=?_,np:=?_,ext:=hi.ext }
 ·intro j k hj hb
  rw[hL] at hj
  split at hj
  ·rename_i e1;subst e1
   exact IQ k (CG hd hi.cl ho hr hb)
  ·exact IQ k (hi.cl j k hj hb)
 ·intro j hj
  rw[hL] at hj
  split at hj
  ·rename_i e1;subst e1;exact mg
  ·exact hi.lt j hj
 ·intro t x hf
  obtain⟨h1,h2⟩:=Wt hd ho he cO hL (F0:=findF st.F) t
  cases bz:o.dst with
  |none =>
   rw[h2 (by rw[bz];simp)] at hf
   exact(hi.fm.ext hx) t x hf
  |some d =>
   have oo:=hd.put i o ho
   rw[bz] at oo
   obtain⟨Yy,Po⟩:=za oo
   have P5:=hd.C0 i o d ho bz
   by_cases mm:d=t
   ·subst mm
    rw[h1 bz] at hf;cases hf
    have aV:∀x∈e.π,x.1≠d:=by
     rintro x qA rfl
     have:=O3 hd he x qA i P5
     have:=G8 hd i o i ho this
     omega
    have jv:(a.put (some d) v).tmps[d]?=some v:=by simp[Act.put,Array.getElem?_setIfInBounds,hi.sz,Yy]
    rw[Dc aV,jv]
    exact⟨λhs=>⟨v,rfl,hv (by rw[bz];rfl) hs⟩,λhs=>by rw[hu (by rw[bz];rfl) hs]⟩
   ·rw[h2 (by rw[bz];simpa using mm)] at hf
    have aV:∀y∈x.gp,y.1≠d:=by
     intro y hy JY
     unfold fD at hf
     cases n_:j9 ops 0 t with
     |none=>rw[n_] at hf;exact Po (JY ▸ hi.um t x hf y hy)
     |some k =>
      rw[n_] at hf
      simp only at hf
      split at hf
      ·rename_i Bt
       rw[jA] at hf
       cases hk:acc[k]? with
       |none=>rw[hk] at hf;cases hf
       |some ek =>
        rw[hk] at hf
        cases hf
        have:=O3 hd hk y hy i (by rw[JY];exact P5)
        have:=hi.cl k i Bt this
        rw[cO] at this;cases this
      ·exact Po (JY ▸ hi.um t x hf y hy)
    have jv:(a.put (some d) v).tmps[t]?=a.tmps[t]?:=by simp[Act.put,Array.getElem?_setIfInBounds,mm]
    rw[Dc aV,jv]
    exact(hi.fm.ext hx) t x hf
 ·rw[HJ];exact hi.df.ext hx
 ·rw[size_put];exact hi.sz
 ·intro j hj aV
  rcases Classical.em (ρ' j=ρ j) with e1|e1
  ·rw[e1] at aV
   obtain⟨k,ek,l,hb,h1,h2,h3,h4⟩:=hi.nx j hj aV
   exact⟨k,ek,l,hb,IQ k h1,h2,h3,h4⟩
  ·obtain⟨l,hb,h1,h2⟩:=aU j e1
   exact⟨i,e,l,hb,IP,he,h1,h2⟩
 ·intro k ek hk I'
  rw[hL] at hk
  split at hk
  ·rename_i e1;subst e1
   rw[he] at I';cases I'
   exact⟨s8,Y'⟩
  ·exact hi.np k ek hk I'
theorem IK (hd:iL X ops A S st acc)(bi:∀j k,L j=true→dK (dh A j) k=true→L k=true){i:Nat}{e:DE}(he:acc[i]?=some e)(cO:L i=false)
  (hL:∀j,L' j=if j=i then true else L j) {id:Nat}
  (Bs:∀j e',i<j→L j=true→acc[j]?=some e'→lS e' id=true→lS e id=false) :
  hD acc (ab st.H) L' id=iP e id (hD acc (ab st.H) L id):=by
 have mg:i<acc.length:=by
  rcases Nat.lt_or_ge i acc.length with h|h
  ·exact h
  ·rw[List.getElem?_eq_none h] at he;cases he
 have yF:acc=acc.take i++e::acc.drop (i+1):=by
  have h1:=List.take_append_drop i acc
  have h2:acc.drop i=e::acc.drop (i+1):=by
   rw[List.drop_eq_getElem_cons mg]
   congr 1
   rw[List.getElem?_eq_getElem mg] at he;exact Option.some.inj he
  rw[←h2];exact h1.symm
 have hlen:(acc.take i).length=i:=by simp;omega
 have iS:∀x,pD L' (acc.take i) 0 id x=pD L (acc.take i) 0 id x:=λx=>KQ λj hj=>by
  rw[hL,if_neg (by simp;omega)]
 have uH:∀x,pD L' (acc.drop (i+1)) (i+1) id x=pD L (acc.drop (i+1)) (i+1) id x:=λx=>KQ λj hj=>by
  rw[hL,if_neg (by omega)]
 have IP:L' i=true:=by rw[hL];simp
 show pD L' acc 0 id (ab st.H id)=iP e id (pD L acc 0 id (ab st.H id))
 conv=>lhs;rw[yF]
 conv=>rhs;rw[yF]
 rw[CB,CB,iS]
 simp only[pD,hlen,Nat.zero_add,IP,cO,if_true,Bool.false_eq_true,if_false,uH]
 generalize pD L (acc.take i) 0 id (ab st.H id)=x
 cases ED:lS e id with
 |false=>rw[DX ED,DX ED]
 |true =>
  have E5:∀y,pD L (acc.drop (i+1)) (i+1) id y=y:=λy=>w_ λj e' hj hl=>by
   rw[List.getElem?_drop] at hj
   cases h:lS e' id with
   |false=>rfl
   |true=>rw[Bs (i+1+j) e' (by omega) hl hj h] at ED;cases ED
  rw[E5,E5]
end
section
variable {X:Cx}{ops:List Oper}{A:List Nat}{S:List (Nat × Nat)}{st:St}{acc:List DE}{L L':Nat→Bool}{ρ ρ':Env}{a:Act}{w w':World}
theorem Nx {T:cf}{F:LF}{π:GP}{H:LH}{fr:Nat}{op:Op}{p:Option Prop}{s:SV}{id off:Nat}{cs:List SV}(h:core T F π H fr op=some ⟨p,s,.st id off cs⟩)(ho:Fh op=true) :
  ∃t x y ti v T' cw,op=.store t x y∧T t=some ti∧ev F π x=some (.sp id off)∧ev F π y=some v∧H id=some (.cells T' cw)∧jb v=some cs∧cs.length=ti.size∧off+cs.length≤cw.length∧p=none:=by
 cases op<;>simp only[Fh] at ho<;>first|cases ho|skip
 rename_i t x y
 simp only[core] at h
 split at h
 ·rename_i ti bM FX v e1 e2 e3
  split at h
  ·rename_i T' cw cs' e4 e5
   split at h
   ·rename_i e6 e7
    cases h
    have Au:gv cs=ti.size:=by simpa using e6
    have qi:off+gv cs≤gv cw:=by simpa using e7
    rw[ng] at Au
    rw[ng,ng] at qi
    exact⟨t,x,y,ti,v,T',cw,rfl,e1,e2,e3,e4,e5,Au,qi,rfl⟩
   ·cases h
  ·cases h
 ·cases h
theorem Wc {e:zz}{fr id off:Nat}{cs:List SV}(h:HW e fr=.st id off cs):e=.st id off cs:=by
 cases e<;>simp[HW] at h
 obtain⟨h1,h2,h3⟩:=h
 rw[h1,h2,h3]
theorem adu {F0:LF}{H0:LH}{nx i:Nat}{o:Oper}{pre:Option Prop}{e:DE}{id off:Nat}{cs:List SV}(h:tP X ops A S F0 H0 nx i o acc=some (pre,e))(he:e.bT=.st id off cs) :
  ∃v,core X.T (nA A ops F0 acc i) e.π (pV [] A H0 acc i) (nx+4*i) o.op=some ⟨none,v,.st id off cs⟩∧Fh o.op=true:=by
 obtain⟨sJ,po,h',rfl⟩:=Lv h
 clear h
 have h:=h'
 clear h'
 have pn:sJ.bT=.st id off cs:=by
  unfold y_ at he
  split at he
  ·cases he
  ·exact he
 rw[RY]
 unfold xk at h
 split at h
 ·cases h;cases pn
 ·split at h
  ·rename_i π hg
   split at h
   ·rename_i oa
    split at h
    ·rename_i bD
     split at h
     ·rename_i v bM FX cs' hn bz hc
      cases h
      simp only[GM.st.injEq] at pn
      obtain⟨h1,h2,h3⟩:=pn
      subst h1;subst h2;subst h3
      exact⟨v,hc,bD⟩
     ·cases h
    ·split at h
     ·split at h
      ·rename_i s8
       cases h
       have:=Wc pn
       subst this
       cases s8
      ·split at h
       ·cases h;cases pn
       ·split at h
        ·cases h;cases pn
        ·obtain⟨rfl,rfl,rfl,_⟩:=w7 h;cases pn
       ·cases h
      ·cases h
     ·split at h
      ·split at h
       ·split at h
        ·cases h;cases pn
        ·cases h;cases pn
        ·cases h
       ·split at h
        ·cases h;cases pn
        ·cases h
       ·obtain⟨rfl,rfl,rfl,_⟩:=w7 h;cases pn
      ·obtain⟨rfl,rfl,rfl,_⟩:=w7 h;cases pn
   ·cases h
  ·cases h
theorem iI {α:Type}{l:List α}{i:Nat}{x:α}(h:l[i]?=some x):i<l.length:=by
 rcases Nat.lt_or_ge i l.length with h'|h'
 ·exact h'
 ·rw[List.getElem?_eq_none h'] at h;cases h
theorem Ls (hd:iL X ops A S st acc){j:Nat}{e:DE}{id off:Nat}{cs:List SV}(hj:acc[j]?=some e)(he:e.bT=.st id off cs) :
  ∃T cw,off+cs.length≤cw.length∧pV [] A (ab st.H) (acc.take j) j id=some (.cells T cw):=by
 have aG:j<ops.length:=by rw[←hd.len];exact iI hj
 obtain⟨pre,e',h1,h2,h3⟩:=hd.step j _ (List.getElem?_eq_getElem aG)
 rw[hj] at h3;cases h3
 obtain⟨v,hc,bD⟩:=adu h1 he
 obtain⟨t,x,y,ti,v',T',cw,_,_,_,_,h4,_,_,h5,_⟩:=Nx hc bD
 exact⟨T',cw,h5,h4⟩
theorem C2 {j id:Nat}{hb:HB}(h:pV [] A (ab st.H) (acc.take j) j id=some hb) :
  (∃k e l,acc[k]?=some e∧e.bT=.new l∧dK (dh A j) k=true∧ab l id=some hb)∨ab st.H id=some hb:=by
 unfold pV at h
 simp only[ya] at h
 split at h
 ·rename_i hb' hn
  cases h
  obtain⟨k,e,l,h1,h2,h3,h4⟩:=KD hn
  rw[List.getElem?_take] at h1
  split at h1
  ·exact .inl ⟨k,e,l,h1,h2,by simpa using h3,h4⟩
  ·cases h1
 ·exact .inr h
theorem Bs (hd:iL X ops A S st acc)(hi:j5 X ops A st acc L ρ a w){i:Nat}{e:DE}(he:acc[i]?=some e)(cO:L i=false){id:Nat} :
  ∀j e',i<j→L j=true→acc[j]?=some e'→lS e' id=true→lS e id=false:=by
 intro j e' Jm hl hj ha
 cases yw:lS e id with
 |false=>rfl
 |true =>
  exfalso
  unfold lS at yw ha
  split at yw
  ·rename_i l jx
   cases hf:ab l id with
   |none=>rw[hf] at yw;cases yw
   |some hb =>
    split at ha
    ·rename_i l' rv
     cases fu:ab l' id with
     |none=>rw[fu] at ha;cases ha
     |some hb'=>have:=yT hd he jx hf hj rv fu;omega
    ·rename_i bM off cs rv
     have e1:bM=id:=by simpa using ha
     subst e1
     obtain⟨T,cw,_,hv⟩:=Ls hd hj rv
     rcases C2 hv with⟨k,ek,lk,h1,h2,h3,h4⟩|h1
     ·have e2:=yT hd he jx hf h1 h2 h4
      subst e2
      have:=hi.cl j i hl h3
      rw[cO] at this;cases this
     ·have:=hi.ext _ _ h1
      have:=hd.ids i e l he jx _ _ hf
      omega
    ·cases ha
  ·rename_i bM off cs jx
   have e1:bM=id:=by simpa using yw
   subst e1
   split at ha
   ·rename_i l' rv
    cases fu:ab l' bM with
    |none=>rw[fu] at ha;cases ha
    |some hb' =>
     obtain⟨T,cw,_,hv⟩:=Ls hd he jx
     have h5:=hd.ids j e' l' hj rv _ _ fu
     rcases C2 hv with⟨k,ek,lk,h1,h2,h3,h4⟩|h1
     ·have e2:=yT hd hj rv fu h1 h2 h4
      have Zg:ops[i]?=some (ops[i]'(by rw[←hd.len];exact iI he)):=List.getElem?_eq_getElem _
      have:=G8 hd i _ k Zg h3
      omega
     ·have:=hi.ext _ _ h1
      omega
   ·rename_i ae3 ae6 aeM rv
    have:=hd.chain i j e e' _ _ _ _ _ _ he jx hj rv Jm
    have:=hi.cl j i hl this
    rw[cO] at this;cases this
   ·cases ha
  ·cases yw
theorem adr (hd:iL X ops A S st acc)(hi:j5 X ops A st acc L ρ a w){i:Nat}{o:Oper}(ho:ops[i]?=some o)(cO:L i=false)
  (hr:∀e∈o.after.toList,gh e=true→L e.on=true) {id:Nat} {T:Nat} {cw:List SV} (hv:pV [] A (ab st.H) (acc.take i) i id=some (.cells T cw)) :
  ∃qF,hD acc (ab st.H) L id=some (.cells T qF)∧qF.length=cw.length:=by
 have key:∀(l:List DE) (k:Nat) (x:Option HB) (pN:List SV),x=some (.cells T pN)→pN.length=cw.length →
   (∀(j:Nat) (e:DE),l[j]?=some e→L (k+j)=true→∀lk,e.bT=.new lk→ab lk id=none) →
   (∀(j:Nat) (e:DE) (off:Nat) (cs:List SV),l[j]?=some e→e.bT=.st id off cs→off+cs.length≤cw.length) →
   ∃qF,pD L l k id x=some (.cells T qF)∧qF.length=cw.length:=by
  intro l
  induction l with
  |nil=>intro k x pN hx hlen _ _;exact⟨pN,hx,hlen⟩
  |cons e r ih =>
   intro k x pN hx hlen h1 h2
   simp only[pD]
   have rm:∀(j:Nat) (e:DE),r[j]?=some e→L (k+1+j)=true→∀lk,e.bT=.new lk→ab lk id=none:=λj e hj hl=>h1 (j+1) e (by simpa using hj) (by rw[show k+(j+1)=k+1+j by omega];exact hl)
   have qp:∀(j:Nat) (e:DE) (off:Nat) (cs:List SV),r[j]?=some e→e.bT=.st id off cs→off+cs.length≤cw.length:=λj e off cs hj=>h2 (j+1) e off cs (by simpa using hj)
   split
   ·rename_i hl
    cases uy:e.bT with
    |new lk=>exact ih (k+1) _ pN (by simp[iP,uy,h1 0 e (by simp) (by simpa using hl) lk uy,hx]) hlen rm qp
    |st bM off cs =>
     by_cases dZ:bM=id
     ·subst dZ
      refine ih (k+1) _ (iZ pN off cs) (by simp[iP,uy,hx]) ?_ rm qp
      have:=h2 0 e off cs (by simp) uy
      rw[SD _ _ _ (by omega)]
      simp;omega
     ·exact ih (k+1) _ pN (by simp[iP,uy,hx,dZ]) hlen rm qp
    |no=>exact ih (k+1) _ pN (by simp[iP,uy,hx]) hlen rm qp
    |bL ch=>exact ih (k+1) _ pN (by simp[iP,uy,hx]) hlen rm qp
    |skip=>exact ih (k+1) _ pN (by simp[iP,uy,hx]) hlen rm qp
   ·exact ih (k+1) x pN hx hlen rm qp
 have fits:∀(j:Nat) (e:DE) (off:Nat) (cs:List SV),acc[j]?=some e→e.bT=.st id off cs→off+cs.length≤cw.length:=by
  intro j e off cs hj he
  obtain⟨T',qF,h1,h2⟩:=Ls hd hj he
  rcases C2 h2 with⟨k,ek,lk,a1,a2,a3,a4⟩|a1<;>rcases C2 hv with⟨k',We,lk',b1,b2,b3,b4⟩|b1
  ·have e1:=yT hd a1 a2 a4 b1 b2 b4
   subst e1
   rw[a1] at b1;cases b1
   rw[a2] at b2;cases b2
   rw[a4] at b4;cases b4
   exact h1
  ·have:=hd.ids k ek lk a1 a2 _ _ a4
   have:=hi.ext _ _ b1
   omega
  ·have:=hd.ids k' We lk' b1 b2 _ _ b4
   have:=hi.ext _ _ a1
   omega
  ·rw[a1] at b1;cases b1
   exact h1
 rcases C2 hv with⟨k,ek,lk,b1,b2,b3,b4⟩|b1
 ·have Bt:=CG hd hi.cl ho hr b3
  have hk:=iI b1
  have yF:acc=acc.take k++ek::acc.drop (k+1):=by
   have h1:=List.take_append_drop k acc
   have h2:acc.drop k=ek::acc.drop (k+1):=by
    rw[List.drop_eq_getElem_cons hk]
    congr 1
    rw[List.getElem?_eq_getElem hk] at b1;exact Option.some.inj b1
   rw[←h2];exact h1.symm
  have hlen:(acc.take k).length=k:=by simp;omega
  show ∃qF,pD L acc 0 id (ab st.H id)=some (.cells T qF)∧qF.length=cw.length
  rw[yF,CB]
  simp only[pD,hlen,Nat.zero_add,Bt,if_true]
  refine key _ _ _ cw (by simp[iP,b2,b4]) rfl ?_ ?_
  ·intro j e hj hl l' jx
   rw[List.getElem?_drop] at hj
   cases hf:ab l' id with
   |none=>rfl
   |some hb =>
    have:=yT hd hj jx hf b1 b2 b4
    omega
  ·intro j e off cs hj he
   rw[List.getElem?_drop] at hj
   exact fits _ e off cs hj he
 ·refine key _ _ _ cw b1 rfl ?_ fits
  intro j e hj hl l' jx
  cases hf:ab l' id with
  |none=>rfl
  |some hb =>
   have:=hd.ids j e l' hj jx _ _ hf
   have:=hi.ext _ _ b1
   omega
end
section
variable {X:Cx}{ops:List Oper}{A:List Nat}{S:List (Nat × Nat)}{st:St}{acc:List DE}{L L':Nat→Bool}{ρ ρ':Env}{a:Act}{w w':World}
theorem A9 (hd:iL X ops A S st acc)(hi:j5 X ops A st acc L ρ a w){i:Nat}{e:DE}(he:acc[i]?=some e)(cO:L i=false)(hL:∀j,L' j=if j=i then true else L j)
  (fY:∀id,lS e id=false):hD acc (ab st.H) L'=hD acc (ab st.H) L:=by
 funext id
 rw[IK hd hi.cl he cO hL (Bs hd hi he cO),DX (fY id)]
theorem rL (l:List (Nat × HB))(H:LH)(id:Nat):rK l H id=match ab l id with
  |some hb=>some hb
  |none=>H id:=by
 induction l with
 |nil=>rfl
 |cons x r ih =>
  obtain⟨j,hb⟩:=x
  simp only[rK,ab]
  by_cases h:j=id
  ·subst h;simp[jI]
  ·have hb:Nat.beq j id=false:=by
    cases ur:Nat.beq j id with
    |false=>rfl
    |true=>exact absurd (Nat.eq_of_beq_eq_true ur) h
   rw[aR _ _ h,hb]
   exact ih
theorem IL (hd:iL X ops A S st acc)(hi:j5 X ops A st acc L ρ a w){i:Nat}{e:DE}(he:acc[i]?=some e)(cO:L i=false)(hL:∀j,L' j=if j=i then true else L j)
  {l:List (Nat × HB)} (hl:e.bT=.new l):hD acc (ab st.H) L'=rK l (hD acc (ab st.H) L):=by
 funext id
 rw[IK hd hi.cl he cO hL (Bs hd hi he cO),rL]
 simp only[iP,hl]
 all_goals cases ab l id<;>rfl
theorem X0 (hd:iL X ops A S st acc)(hi:j5 X ops A st acc L ρ a w){i:Nat}{e:DE}(he:acc[i]?=some e)(cO:L i=false)(hL:∀j,L' j=if j=i then true else L j)
  {id off:Nat} {cs:List SV} (hl:e.bT=.st id off cs) {T:Nat} {cw:List SV} (hn:hD acc (ab st.H) L id=some (.cells T cw)) :
  hD acc (ab st.H) L'=jI (hD acc (ab st.H) L) id (.cells T (iZ cw off cs)):=by
 funext bM
 rw[IK hd hi.cl he cO hL (Bs hd hi he cO)]
 by_cases h:id=bM
 ·subst h
  rw[cP,hn]
  simp[iP,hl]
 ·rw[aR _ _ h]
  simp[iP,hl,h]
theorem Oe:∀{l:List (Nat × HB)} {j:Nat} {hb:HB},(j,hb)∈l→∃hb',ab l j=some hb'
 |(i,x)::r,j,hb,h=>by
  simp only[ab]
  split
  ·exact⟨_,rfl⟩
  ·rename_i aV
   rcases List.mem_cons.1 h with e|h
   ·cases e;simp at aV
   ·exact Oe h
theorem W3 (hd:iL X ops A S st acc)(hi:j5 X ops A st acc L ρ a w){i:Nat}(cO:L i=false):∀j,st.nx+4*i≤j→j<st.nx+4*i+4→ρ j=none:=by
 intro j h1 h2
 cases h:ρ j with
 |none=>rfl
 |some nm =>
  obtain⟨k,e,l,hb,h3,h4,h5,h6⟩:=hi.nx j (by omega) (by rw[h];simp)
  have:=hd.ids k e l h4 h5 _ _ h6
  have:k=i:=by omega
  subst this
  rw[cO] at h3;cases h3
theorem NA:∀{acc:List DE} {n k:Nat},vF n acc k=true→∃j e,acc[j]?=some e∧dK n (k+j)=true∧(e.bT=.skip∨∃ch,e.bT=.bL ch)
 |[],n,k,h=>by cases h
 |x::r,n,k,h=>by
  have xc:vF n r (k+1)=true→∃j e,(x::r)[j]?=some e∧dK n (k+j)=true∧(e.bT=.skip∨∃ch,e.bT=.bL ch):=λh=>by
   obtain⟨j,e,h1,h2,h3⟩:=NA h
   exact⟨j+1,e,by simpa using h1,by rw[show k+(j+1)=k+1+j by omega];exact h2,h3⟩
  simp only[vF] at h
  split at h
  ·rename_i ch he
   split at h
   ·rename_i hb;exact⟨0,x,by simp,by simpa using hb,.inr ⟨ch,he⟩⟩
   ·exact xc h
  ·rename_i he
   split at h
   ·rename_i hb;exact⟨0,x,by simp,by simpa using hb,.inl he⟩
   ·exact xc h
  ·exact xc h
theorem aah {op:Op}{c:Call}(h:rG op=some c):op=.call c:=by
 cases op<;>simp[rG] at h;rw[h]
theorem M7 (hX:X.Ok){F:LF}{π:GP}{H H':LH}{fr:Nat}{c:Call}{out:cJ}(hH:∀id hb,H id=some hb→H' id=some hb)(h:uf X F π H fr c=some out):uf X F π H' fr c=some out:=by
 unfold uf at h ⊢
 split at h
 ·rename_i f hc
  split at h
  ·rename_i n first ja l e1 e2
   split at h
   ·rename_i ct e3
    exact hX.mono n ct e3 _ _ _ _ _ hH h
   ·cases h
  ·cases h
 ·cases h
theorem V7 (hX:X.Ok)(hd:iL X ops A S st acc)(hi:j5 X ops A st acc L ρ a w){i:Nat}{o:Oper}(ho:ops[i]?=some o)(cO:L i=false)
  (hr:∀e∈o.after.toList,gh e=true→L e.on=true) (hL:∀j,L' j=if j=i then true else L j) {Q:Exit→Act→World→Prop} {next:Act→World→Prop}
  (hK:∀ρ' a' w',j5 X ops A st acc L' ρ' a' w'→next a' w')
  (hP:∀ch e w',acc[i]?=some e→e.bT=.bL ch→w.heap.size≤w'.heap.size→(∀b,b<w.heap.size→w'.heap[b]?=w.heap[b]?)→dF w w'→Q (.panic ch) a w') :
  wpOpIn (FW X.r) 0 X.P ops.toArray Q i next a w:=by
 have uF:ops.toArray[i]?=some o:=by simpa using ho
 obtain⟨pre,e,hs,iS,he⟩:=hd.step i o ho
 have hF:=ad5 hd hi ho cO hr
 have IS:∀id hb,pV S A (ab st.H) (acc.take i) i id=some hb→hD acc (ab st.H) L id=some hb:=λid hb=>ad6 hd hi ho cO hr
 have hH:HM ρ (pV S A (ab st.H) (acc.take i) i) w:=hi.hm.sub IS
 have mc:=W3 hd hi cO
 have sW:ρ (st.nx+4*i)=none:=mc _ (Nat.le_refl _) (by omega)
 unfold wpOpIn
 simp only[uF]
 obtain⟨sJ,po,hs,ml⟩:=Lv hs
 unfold xk at hs
 split at hs
 ·rename_i I5
  obtain⟨j,ej,h1,h2,h3⟩:=NA I5
  rw[List.getElem?_take] at h1
  split at h1
  ·have:=hi.np j ej (CG hd hi.cl ho hr (by simpa using h2)) h1
   rcases h3 with h3|⟨ch,h3⟩
   ·exact absurd h3 this.1
   ·exact absurd h3 (this.2 ch)
  ·cases h1
 ·split at hs
  ·rename_i π hg
   have k_:=Eu hF hg
   have JH:yX (nA A ops (findF st.F) (acc.take i) i) π=some (pre,sJ,po)→(if Region.wanted o (yielded ops.toArray a.tmps)=true then Oper.wpIn (FW X.r) 0 X.P o a w next Q else(∀f,o.about X.P w a.eval=some f→(FW X.r).fn f)∧next (a.put o.dst undef) w):=by
    intro h
    obtain⟨rfl,rfl,rfl,YC⟩:=w7 h
    subst ml
    have fY:=Ii hF YC
    have hh:=A9 hd hi he cO hL (λid=>rfl)
    split
    ·rename_i hw
     exact absurd (k_.1 hw) fY
    ·rename_i hw
     refine⟨λf _=>mB _ f,hK ρ _ _ ?_⟩
     exact hi.add hd ho cO hr hL he (by intro h;cases h) (by intro ch h;cases h) (Ext.refl ρ) (by rw[hh];exact hi.hm) (by rw[hh];exact hi.kp)
      (λj hj=>absurd rfl hj) (λ_ hs=>absurd (k_.2 hs) hw) (λ_ _=>rfl)
   split at hs
   ·rename_i oa
    split at hs
    ·rename_i bD
     split at hs
     ·
      rename_i v id off cs lB bz hc
      cases hs
      subst ml
      have aW:=yU lB
      subst aW
      have eE:bu a []:=λx hx=>by cases hx
      rw[if_pos (k_.2 eE)]
      obtain⟨t,x,y,ti,u,T',cw,km,e1,e2,e3,e4,e5,e6,e7,_⟩:=Nx hc bD
      obtain⟨qF,h1,h2⟩:=adr hd hi ho cO hr e4
      have ap:=SW (fr:=0) (P:=X.P) hX.dx hi.hm e1 (aQ hF eE e2) (aQ hF eE e3) h1 e5 e6 (by omega)
      obtain⟨TT,ae7,b,w',us,b1,b2,b3,b4,b5,b6,b7,b8,b9,zL⟩:=ap
      rw[h1] at b1;cases b1
      refine LY (w':=w') (uh hc) (by simp only[execOp,km];exact b6) (hK ρ _ _ ?_)
      have hh:=X0 hd hi he cO hL rfl h1
      obtain⟨ak,eN,BF⟩:=hi.hm.ok _ _ h1
      rw[b2] at eN;cases eN
      obtain⟨vs,v1,v2,v3⟩:=BF
      have s9:ao ρ w' (.cells T' (iZ qF off cs)) (.bO b):=by
       refine⟨_,Ao v1 b3 off b5,?_,b9 vs v1⟩
       rw[List.all_eq_true] at v2 b4 ⊢
       intro y hy
       simp only[List.mem_append] at hy
       rcases hy with(hy|hy)|hy
       ·exact v2 y (List.mem_of_mem_take hy)
       ·exact b4 y hy
       ·exact v2 y (List.mem_of_mem_drop hy)
      exact hi.add hd ho cO hr hL he (by intro h;cases h) (by intro ch h;cases h) (Ext.refl ρ)
       (by rw[hh];exact hi.hm.put h1 rfl b2 rfl (by omega) (λk _ mi=>b8 k mi) s9 rfl (λ_ _ _ h=>by cases h))
       (by rw[hh];exact hi.kp.put h1 rfl b2 rfl (by omega) (λk _ mi=>b8 k mi) zL)
       (λj hj=>absurd rfl hj) (λeu=>by rw[bz] at eu;cases eu) (λeu=>by rw[bz] at eu;cases eu)
     ·cases hs
    ·split at hs
     ·
      rename_i p v bT hc
      split at hs
      ·rename_i lB s8
       cases hs
       subst ml
       have aW:=yU lB
       subst aW
       have eE:bu a []:=λx hx=>by cases hx
       rw[if_pos (k_.2 eE)]
       have ap:=vE hX.dx hF eE hH sW hc iS
       cases bT with
       |st id off cs=>cases s8
       |no =>
        obtain⟨u,h1,h2⟩:=ap
        refine xu (uh hc) h1 (hK ρ _ _ ?_)
        have hh:=A9 hd hi he cO hL (λid=>rfl)
        exact hi.add hd ho cO hr hL he (by intro h;cases h) (by intro ch h;cases h) (Ext.refl ρ) (by rw[hh];exact hi.hm) (by rw[hh];exact hi.kp)
         (λj hj=>absurd rfl hj) (λ_ _=>h2) (λ_ hn=>absurd eE hn)
       |new hb =>
        obtain⟨u,nm,ob,h1,h2,h3,h4,h5⟩:=ap
        refine xu (uh hc) h1 (hK (aq ρ (st.nx+4*i) nm) _ _ ?_)
        have hh:=IL hd hi he cO hL (l:=[(st.nx+4*i,hb)]) rfl
        exact hi.add hd ho cO hr hL he (by intro h;cases h) (by intro ch h;cases h) (Ext.aq nm sW)
         (by rw[hh];exact hi.hm.push sW ob h3 h4 h5.1 h5.2) (by rw[hh];exact hi.kp.push sW ob h4 h5.2)
         (λj hj=>⟨_,hb,rfl,by
          have:j=st.nx+4*i:=by
           rcases Classical.em (j=st.nx+4*i) with h|h
           ·exact h
           ·rw[bF _ _ h] at hj;exact absurd rfl hj
          rw[this];simp[ab]⟩) (λ_ _=>h2) (λ_ hn=>absurd eE hn)
      ·rename_i lB s8
       split at hs
       ·rename_i im
        cases hs
        subst ml
        have hh:=A9 hd hi he cO hL (λid=>rfl)
        split
        ·rename_i hw
         have eE:=k_.1 hw
         obtain⟨u,h1,h2⟩:=vE hX.dx hF eE hH sW hc (GG hF eE iS)
         refine xu (uh hc) h1 (hK ρ _ _ ?_)
         exact hi.add hd ho cO hr hL he (by intro h;cases h) (by intro ch h;cases h) (Ext.refl ρ) (by rw[hh];exact hi.hm) (by rw[hh];exact hi.kp)
          (λj hj=>absurd rfl hj) (λ_ _=>h2) (λ_ hn=>absurd eE hn)
        ·rename_i hw
         refine⟨λf _=>mB _ f,hK ρ _ _ ?_⟩
         exact hi.add hd ho cO hr hL he (by intro h;cases h) (by intro ch h;cases h) (Ext.refl ρ) (by rw[hh];exact hi.hm) (by rw[hh];exact hi.kp)
          (λj hj=>absurd rfl hj) (λ_ hs=>absurd (k_.2 hs) hw) (λ_ _=>rfl)
       ·rename_i hb
        split at hs
        ·rename_i ZO
         cases hs
         subst ml
         have eE:bu a π:=S5 hF ZO
         rw[if_pos (k_.2 eE)]
         obtain⟨u,nm,ob,h1,h2,h3,h4,h5⟩:=vE hX.dx hF eE hH sW hc iS
         refine xu (uh hc) h1 (hK (aq ρ (st.nx+4*i) nm) _ _ ?_)
         have hh:=IL hd hi he cO hL (l:=[(st.nx+4*i,hb)]) rfl
         exact hi.add hd ho cO hr hL he (by intro h;cases h) (by intro ch h;cases h) (Ext.aq nm sW)
          (by rw[hh];exact hi.hm.push sW ob h3 h4 h5.1 h5.2) (by rw[hh];exact hi.kp.push sW ob h4 h5.2)
          (λj hj=>⟨_,hb,rfl,by
           have:j=st.nx+4*i:=by
            rcases Classical.em (j=st.nx+4*i) with h|h
            ·exact h
            ·rw[bF _ _ h] at hj;exact absurd rfl hj
           rw[this];simp[ab]⟩) (λ_ _=>h2) (λ_ hn=>absurd (λx hx=>by cases hx) hn)
        ·exact JH hs
       ·cases hs
      ·cases hs
     ·split at hs
      ·rename_i c gr
       have km:=aah gr
       have lA:∀c,o.op≠.defer c:=by rw[km];intro c' im;cases im
       split at hs
       ·
        rename_i p bL v ph
        have EH:=M7 hX IS ph
        split at hs
        ·cases hs
         subst ml
         have hh:=A9 hd hi he cO hL (λid=>rfl)
         split
         ·rename_i hw
          have eE:=k_.1 hw
          obtain⟨n,args,h1,h2⟩:=Ac hX hF eE hi.hm mc (ty:=o.type) EH (GG hF eE iS)
          refine vf lA (by simp only[execOp,km];exact h1) h2 (λen w' gW=>?_)
          obtain⟨ρ',u,rfl,cK⟩:=gW
          have BW:ρ'=ρ:=funext λj=>by
           rcases Classical.em (ρ' j=ρ j) with h|h
           ·exact h
           ·obtain⟨_,_,hb,hm⟩:=cK.fresh j h
            cases hm
          subst BW
          refine hK ρ' _ _ ?_
          exact hi.add hd ho cO hr hL he (by intro h;cases h) (by intro ch h;cases h) (Ext.refl _) (by rw[hh];exact hi.hm.world cK.size cK.same) (by rw[hh];exact hi.kp.world cK.size cK.same cK.str)
           (λj hj=>absurd rfl hj) (λ_ _=>cK.den) (λ_ hn=>absurd eE hn)
         ·rename_i hw
          refine⟨λf _=>mB _ f,hK ρ _ _ ?_⟩
          exact hi.add hd ho cO hr hL he (by intro h;cases h) (by intro ch h;cases h) (Ext.refl ρ) (by rw[hh];exact hi.hm) (by rw[hh];exact hi.kp)
           (λj hj=>absurd rfl hj) (λ_ hs=>absurd (k_.2 hs) hw) (λ_ _=>rfl)
        ·rename_i c ch lB
         cases hs
         have aW:=yU lB
         subst aW
         have eE:bu a []:=λx hx=>by cases hx
         rw[if_pos (k_.2 eE)]
         obtain⟨n,args,h1,h2⟩:=Ac hX hF eE hi.hm mc (ty:=o.type) EH iS
         refine vf lA (by simp only[execOp,km];exact h1) h2 (λen w' gW=>?_)
         rcases gW with⟨gG,rfl,h3,h4,h5⟩|⟨pi,ρ',u,rfl,cK⟩
         ·have gG:c=true:=gG
          subst gG
          subst ml
          exact hP ch _ w' he rfl h3 h4 h5
         ·have pi:c=false:=pi
          subst pi
          have ml:e=⟨[],v,.no⟩:=ml
          subst ml
          have hh:=A9 hd hi he cO hL (λid=>rfl)
          have BW:ρ'=ρ:=funext λj=>by
           rcases Classical.em (ρ' j=ρ j) with h|h
           ·exact h
           ·obtain⟨_,_,hb,hm⟩:=cK.fresh j h
            cases hm
          subst BW
          refine hK ρ' _ _ ?_
          exact hi.add hd ho cO hr hL he (by intro h;cases h) (by intro ch h;cases h) (Ext.refl _) (by rw[hh];exact hi.hm.world cK.size cK.same) (by rw[hh];exact hi.kp.world cK.size cK.same cK.str)
           (λj hj=>absurd rfl hj) (λ_ _=>cK.den) (λ_ hn=>absurd eE hn)
        ·cases hs
       ·
        rename_i p bL v n l ph
        have EH:=M7 hX IS ph
        split at hs
        ·rename_i lB
         simp only[Option.some.injEq,Prod.mk.injEq] at hs
         obtain⟨rfl,rfl,rfl⟩:=hs
         have aW:=yU lB
         subst aW
         have eE:bu a []:=λx hx=>by cases hx
         rw[if_pos (k_.2 eE)]
         obtain⟨f,args,h1,h2⟩:=Ac hX hF eE hi.hm mc (ty:=o.type) EH iS
         refine vf lA (by simp only[execOp,km];exact h1) h2 (λen w' gW=>?_)
         have key:∀(ρ':Env) (u:Value),e=⟨[],v,.new (n::l)⟩→pX ρ (hD acc (ab st.H) L) (st.nx+4*i) w ⟨p,bL,v,n::l⟩ u w' ρ'→next (a.put o.dst u) w':=by
          intro ρ' u ml cK
          subst ml
          refine hK ρ' _ _ ?_
          have hh:=IL hd hi he cO hL (l:=n::l) rfl
          exact hi.add hd ho cO hr hL he (by intro h;cases h) (by intro ch h;cases h) cK.ext (by rw[hh];exact cK.hm)
           (by rw[hh];exact{
            str:=hi.kp.str.trans cK.str
            size:=Nat.le_trans hi.kp.size cK.size
            same:=λb hb hM=>(cK.same b (by have:=hi.kp.size;omega)).trans (hi.kp.same b hb hM)
            own:=λb ho=>by
             rcases cK.own b ho with h1|h1
             ·exact hi.kp.own b h1
             ·have:=hi.kp.size;exact .inr (by omega)
            ext:=hi.kp.ext.trans cK.ext
            fz:=λb hz=>hi.kp.fz b (cK.fz b hz) })
           (λj hj=>by
            obtain⟨_,_,hb,hm⟩:=cK.fresh j hj
            obtain⟨hb',hf⟩:=Oe hm
            exact⟨_,hb',rfl,hf⟩) (λ_ _=>cK.den) (λ_ hn=>absurd eE hn)
         cases bL with
         |none =>
          obtain⟨ρ',u,rfl,cK⟩:=gW
          exact key ρ' u ml cK
         |some cc =>
          obtain⟨c,ch⟩:=cc
          rcases gW with⟨gG,rfl,h3,h4,h5⟩|⟨pi,ρ',u,rfl,cK⟩
          ·have gG:c=true:=gG
           subst gG
           subst ml
           exact hP ch _ w' he rfl h3 h4 h5
          ·have pi:c=false:=pi
           subst pi
           exact key ρ' u ml cK
        ·cases hs
       ·exact JH hs
      ·exact JH hs
   ·cases hs
  ·cases hs
end
def cQ (L:Nat→Bool):Nat→Nat
 |0=>0
 |n+1=>cQ L n+if L n then 0 else 1
theorem Nt {L L':Nat→Bool}{i:Nat}(hL:∀j,L' j=if j=i then true else L j):∀n,n≤i→cQ L' n=cQ L n
 |0,_=>rfl
 |n+1,h=>by
  simp only[cQ,Nt hL n (by omega),hL n,if_neg (show n≠i by omega)]
theorem Nu {L L':Nat→Bool}{i:Nat}(hL:∀j,L' j=if j=i then true else L j)(hi:L i=false):∀n,i<n→cQ L' n+1=cQ L n
 |0,h=>by omega
 |n+1,h=>by
  simp only[cQ]
  by_cases hn:n=i
  ·subst hn
   rw[Nt hL n (Nat.le_refl _),hL n]
   simp[hi]
  ·have:=Nu hL hi n (by omega)
   rw[hL n,if_neg hn];omega
theorem Nv {L:Nat→Bool}:∀{n},cQ L n=0→∀j,j<n→L j=true
 |0,_,j,h=>by omega
 |n+1,h,j,hj=>by
  simp only[cQ] at h
  by_cases hn:j=n
  ·subst hn
   cases hl:L j with
   |true=>rfl
   |false=>rw[hl] at h;simp at h
  ·exact Nv (n:=n) (by omega) j (by omega)
theorem VK (n:Nat):cQ (λ_=>false) n=n:=by
 induction n with
 |zero=>rfl
 |succ n ih=>simp[cQ,ih]
section
variable {X:Cx}{ops:List Oper}{A:List Nat}{S:List (Nat × Nat)}{st:St}{acc:List DE}{L:Nat→Bool}{ρ:Env}{a:Act}{w:World}
theorem zc {ops:List Oper}{listed:Array Bool}{i:Nat}(dr:listed.size=ops.length)(hl:∀j,j<ops.length→listed[j]?=some (L j)) :
  i∈Region.ready .any ops.toArray listed↔i<ops.length∧L i=false∧∃o,ops[i]?=some o∧∀e∈o.after.toList,gh e=true→listed.getD e.on false=true:=by
 unfold Region.ready
 simp only[List.mem_filter,List.mem_range,List.size_toArray,Bool.and_eq_true,Bool.not_eq_true']
 constructor
 ·rintro⟨h1,h2,h3⟩
  have hg:listed.getD i true=L i:=by rw[Array.getD_eq_getD_getElem?,hl i h1];rfl
  refine⟨h1,by rw[←hg];exact h2,ops[i],List.getElem?_eq_getElem h1,?_⟩
  rw[List.getElem?_toArray,List.getElem?_eq_getElem h1] at h3
  simp only[Option.map_some,Option.getD_some,Array.all_eq_true_iff_forall_mem] at h3
  intro e he hb
  have:=h3 e (by simpa using he)
  rw[DB,hb] at this
  simpa using this
 ·rintro⟨h1,h2,o,ho,h3⟩
  have hg:listed.getD i true=L i:=by rw[Array.getD_eq_getD_getElem?,hl i h1];rfl
  refine⟨h1,by rw[hg];exact h2,?_⟩
  rw[List.getElem?_toArray,ho]
  simp only[Option.map_some,Option.getD_some,Array.all_eq_true_iff_forall_mem]
  intro e he
  rw[DB]
  cases hb:gh e with
  |false=>rfl
  |true=>rw[h3 e (by simpa using he) hb];rfl
theorem O7 {m:Nat}:∀{l:List Oper},wh m l=true→∀(i:Nat) (o:Oper),l[i]?=some o→∀(j:Nat) (p:Bool),o.guard=some (j,p)→j<m
 |[],_,i,o,h=>by simp at h
 |x::r,h,i,o,hi=>by
  simp only[wh] at h
  intro j p hg
  cases i with
  |zero =>
   simp at hi;subst hi
   rw[hg] at h
   simp only at h
   split at h
   ·rename_i h1;exact Nat.le_of_ble_eq_true h1
   ·cases h
  |succ i =>
   simp at hi
   have hr:wh m r=true:=by
    split at h
    ·exact h
    ·split at h
     ·exact h
     ·cases h
   exact O7 hr i o hi j p hg
theorem aex {bt dN:List Oper}{Q:Exit→Act→World→Prop}{i:Nat}{o:Oper}(ho:bt[i]?=some o)(hg:∀(j:Nat)(p:Bool),o.guard=some (j,p)→j<bt.length){r:Option Nat}{P:Program}{K:Act→World→Prop}
  (h:wpOpIn (FW r) 0 P bt.toArray Q i K a w):wpOpIn (FW r) 0 P (bt++dN).toArray Q i K a w:=by
 have hi:=iI ho
 have e1:(bt++dN).toArray[i]?=some o:=by rw[List.getElem?_toArray,List.getElem?_append_left hi];exact ho
 have e2:bt.toArray[i]?=some o:=by rw[List.getElem?_toArray];exact ho
 have e3:Region.wanted o (yielded (bt++dN).toArray a.tmps)=Region.wanted o (yielded bt.toArray a.tmps):=by
  unfold Region.wanted
  cases fV:o.guard with
  |none=>rfl
  |some p =>
   obtain⟨j,want⟩:=p
   have hj:=hg j want fV
   simp only[yielded,List.getElem?_toArray,List.getElem?_append_left hj]
 unfold wpOpIn at h ⊢
 rw[e2] at h
 rw[e1]
 simp only at h ⊢
 rw[e3]
 exact h
theorem OE:∀{l:List Nat} {j i n:Nat},Ej l j=true→l[i]?=some n→∀k,k<j+i→dK n k=true
 |[],j,i,n,_,h=>by simp at h
 |x::r,j,i,n,h,hi=>by
  simp only[Ej] at h
  split at h
  ·rename_i hx
   cases i with
   |zero =>
    simp at hi;subst hi
    intro k hk
    have qA:x+1=Nat.shiftLeft 1 j:=by simpa using hx
    have e:Nat.shiftLeft 1 j=2 ^ j:=by rw[←Nat.one_shiftLeft];rfl
    rw[e] at qA
    have ZZ:x=2 ^ j-1:=by omega
    rw[yy,ZZ,Nat.testBit_two_pow_sub_one]
    simpa using hk
   |succ i =>
    simp at hi
    intro k hk
    exact OE h hi k (by omega)
  ·cases h
theorem Mw:∀(l:List Oper) (A:List Nat),(mE l A).length=A.length+l.length
 |[],A=>by simp[mE]
 |o::r,A=>by rw[mE,Mw];simp;omega
theorem aev {A:List Nat}{ops:List Oper}{m:Nat}{r:Option Nat}{P:Program}{Q:Exit→Act→World→Prop}(ru:∀(j:Nat)(o:Oper),ops[j]?=some o→∀e∈o.after.toList,gh e=true→e.on<j)
  (sX:∀(i:Nat) (o:Oper),ops[i]?=some o→m≤i→∀k,k<i→∃e∈o.after.toList,gh e=true∧(e.on=k∨dK (dh A e.on) k=true))
  (Bc:∀(j:Nat) (o:Oper) (k:Nat),ops[j]?=some o→dK (dh A j) k=true→k<j) :
  ∀(fuel d k:Nat) (listed:Array Bool) (a:Act) (w:World),k+d=ops.length→m≤k→d≤fuel→listed.size=ops.length→(∀j,j<ops.length→listed[j]?=some (decide (j<k))) →
   wpOpsIn (FW r) 0 P ops.toArray Q (List.range' k d) a w→wpAnyIn (FW r) 0 P .any ops.toArray Q fuel listed a w:=by
 have JL:∀(k:Nat) (listed:Array Bool),m≤k→listed.size=ops.length→(∀j,j<ops.length→listed[j]?=some (decide (j<k)))→∀i,i∈Region.ready .any ops.toArray listed→i=k:=by
  intro k listed gu dr hl i hi
  rw[zc dr hl] at hi
  obtain⟨h1,h2,o,ho,h3⟩:=hi
  have PA:k≤i:=by simpa using h2
  rcases Nat.lt_or_ge k i with aG|kj
  ·obtain⟨e,he,hb,h4⟩:=sX i o ho (by omega) k aG
   have hon:=ru i o ho e he hb
   have h5:=h3 e he hb
   rw[Array.getD_eq_getD_getElem?,hl e.on (by omega)] at h5
   have h6:e.on<k:=by simpa using h5
   rcases h4 with h4|h4
   ·omega
   ·have:=Bc e.on _ k (List.getElem?_eq_getElem (by omega)) h4
    omega
  ·omega
 intro fuel
 induction fuel with
 |zero =>
  intro d k listed a w YQ gu hd dr hl h
  have Bf:d=0:=by omega
  subst Bf
  refine⟨?_,h⟩
  cases hr:Region.ready .any ops.toArray listed with
  |nil=>rfl
  |cons i r =>
   have hm:i∈Region.ready .any ops.toArray listed:=by rw[hr];exact List.mem_cons_self
   have:=JL k listed gu dr hl i hm
   rw[zc dr hl] at hm
   omega
 |succ fuel ih =>
  intro d k listed a w YQ gu hd dr hl h
  cases d with
  |zero =>
   refine⟨λ_=>h,λi hi=>?_⟩
   have:=JL k listed gu dr hl i hi
   rw[zc dr hl] at hi
   omega
  |succ d =>
   have Jp:k<ops.length:=by omega
   have YR:k∈Region.ready .any ops.toArray listed:=by
    rw[zc dr hl]
    refine⟨Jp,by simp,ops[k],List.getElem?_eq_getElem Jp,λe he hb=>?_⟩
    have:=ru k _ (List.getElem?_eq_getElem Jp) e he hb
    rw[Array.getD_eq_getD_getElem?,hl e.on (by omega)]
    simpa using this
   refine⟨λhr=>absurd YR (by rw[hr];exact List.not_mem_nil),λi hi=>?_⟩
   have PA:=JL k listed gu dr hl i hi
   subst PA
   rw[List.range'_succ,wpOpsIn_cons] at h
   refine wpOpIn_mono (λa' w' h'=>ih d (i+1) _ a' w' (by omega) (by omega) (by omega) (by simp[dr]) (λj hj=>?_) h') h
   rw[Array.getElem?_setIfInBounds]
   by_cases kZ:i=j
   ·subst kZ;simp[dr,hj]
   ·rw[if_neg kZ,hl j hj]
    congr 1
    simp only[decide_eq_decide]
    omega
theorem V0 (hX:X.Ok){bt dN:List Oper}(hd:iL X bt A S st acc)(Jh:wh bt.length bt=true){Q:Exit→Act→World→Prop}
  (ru:∀(j:Nat) (o:Oper),(bt++dN)[j]?=some o→∀e∈o.after.toList,gh e=true→e.on<j)
  (sX:∀(i:Nat) (o:Oper),(bt++dN)[i]?=some o→bt.length≤i→∀k,k<i→∃e∈o.after.toList,gh e=true∧(e.on=k∨dK (dh A e.on) k=true))
  (Bc:∀(j:Nat) (o:Oper) (k:Nat),(bt++dN)[j]?=some o→dK (dh A j) k=true→k<j)
  (hN:∀L ρ a w,j5 X bt A st acc L ρ a w→(∀j,j<bt.length→L j=true)→wpOpsIn (FW X.r) 0 X.P (bt++dN).toArray Q (List.range' bt.length dN.length) a w)
  (hP:∀(L:Nat→Bool) (ρ:Env) (a:Act) (w:World) (ch:List PanicEntry) (e:DE) (i:Nat) (w':World),j5 X bt A st acc L ρ a w→acc[i]?=some e→e.bT=.bL ch→w.heap.size≤w'.heap.size→(∀b,b<w.heap.size→w'.heap[b]?=w.heap[b]?)→dF w w'→Q (.panic ch) a w') :
  ∀(fuel:Nat) (listed:Array Bool) (L:Nat→Bool) (ρ:Env) (a:Act) (w:World),listed.size=(bt++dN).length→(∀j,j<(bt++dN).length→listed[j]?=some (L j))→cQ L (bt++dN).length≤fuel →
   j5 X bt A st acc L ρ a w→wpAnyIn (FW X.r) 0 X.P .any (bt++dN).toArray Q fuel listed a w:=by
 have hlen:(bt++dN).length=bt.length+dN.length:=by simp
 have PN:∀(fuel:Nat) (listed:Array Bool) (L:Nat→Bool) (ρ:Env) (a:Act) (w:World),listed.size=(bt++dN).length→(∀j,j<(bt++dN).length→listed[j]?=some (L j))→cQ L (bt++dN).length≤fuel →
   j5 X bt A st acc L ρ a w→(∀j,j<bt.length→L j=true)→wpAnyIn (FW X.r) 0 X.P .any (bt++dN).toArray Q fuel listed a w:=by
  intro fuel listed L ρ a w dr hl hc hi hz
  have Pc:∀j,j<(bt++dN).length→L j=decide (j<bt.length):=by
   intro j hj
   by_cases EP:j<bt.length
   ·rw[hz j EP];simp[EP]
   ·cases iF:L j with
    |false=>simp[EP]
    |true=>exact absurd (hi.lt j iF) EP
  have Ys:∀n,bt.length≤n→n≤(bt++dN).length→n-bt.length≤cQ L n:=by
   intro n h1 h2
   induction n with
   |zero=>omega
   |succ n ih =>
    simp only[cQ]
    rcases Nat.lt_or_ge n bt.length with h|h
    ·omega
    ·have:=ih h (by omega)
     have e:L n=false:=by rw[Pc n (by omega)];simp;omega
     rw[e];simp;omega
  have:=Ys (bt++dN).length (by omega) (Nat.le_refl _)
  refine aev (A:=A) (m:=bt.length) ru sX Bc fuel dN.length bt.length listed a w (by omega) (Nat.le_refl _) (by omega) dr (λj hj=>?_) (hN L ρ a w hi hz)
  rw[hl j hj,Pc j hj]
 intro fuel
 induction fuel with
 |zero =>
  intro listed L ρ a w dr hl hc hi
  have hz:=Nv (L:=L) (n:=(bt++dN).length) (by omega)
  exact PN 0 listed L ρ a w dr hl hc hi (λj hj=>hz j (by omega))
 |succ fuel ih =>
  intro listed L ρ a w dr hl hc hi
  rcases Classical.em (∀j,j<bt.length→L j=true) with hz|hz
  ·exact PN _ listed L ρ a w dr hl hc hi hz
  refine⟨λhr=>?_,λi PE=>?_⟩
  ·exfalso
   apply hz
   intro j
   induction j using Nat.strongRecOn with
   |_ j Z' =>
    intro hj
    cases h:L j with
    |true=>rfl
    |false =>
     have hm:j∈Region.ready .any (bt++dN).toArray listed:=by
      rw[zc dr hl]
      refine⟨by omega,h,(bt++dN)[j]'(by omega),List.getElem?_eq_getElem _,λe he hb=>?_⟩
      have aG:=ru j _ (List.getElem?_eq_getElem (by omega)) e he hb
      rw[Array.getD_eq_getD_getElem?,hl e.on (by omega),Z' e.on aG (by omega)]
      rfl
     rw[hr] at hm;cases hm
  ·rw[zc dr hl] at PE
   obtain⟨YM,cO,o,ho,hr⟩:=PE
   have gW:∀e∈o.after.toList,gh e=true→L e.on=true:=by
    intro e he hb
    have h1:=hr e he hb
    have h2:=ru i o ho e he hb
    rw[Array.getD_eq_getD_getElem?,hl e.on (by omega)] at h1
    exact h1
   have ir:i<bt.length:=by
    rcases Nat.lt_or_ge i bt.length with h|h
    ·exact h
    ·exfalso
     apply hz
     intro j hj
     obtain⟨e,he,hb,h4⟩:=sX i o ho h j (by omega)
     have h5:=gW e he hb
     rcases h4 with h4|h4
     ·rw[←h4];exact h5
     ·exact hi.cl e.on j h5 h4
   have JF:bt[i]?=some o:=by rw[List.getElem?_append_left ir] at ho;exact ho
   refine aex JF (λj p hg=>O7 Jh i o JF j p hg) ?_
   refine V7 hX hd hi JF cO gW (L':=λj=>if j=i then true else L j) (λj=>rfl) (fun ρ' a' w' eC=>?_) (λch e w' he yz hs hk bD=>hP L ρ a w ch e i w' hi he yz hs hk bD)
   refine ih _ (λj=>if j=i then true else L j) ρ' a' w' (by simp[dr]) (λj hj=>?_) ?_ eC
   ·rw[Array.getElem?_setIfInBounds]
    by_cases kZ:i=j
    ·subst kZ
     rw[if_pos rfl,if_pos rfl,if_pos (by rw[dr];exact hj)]
    ·rw[if_neg kZ,if_neg (Ne.symm kZ)];exact hl j hj
   ·have:=Nu (L:=L) (L':=λj=>if j=i then true else L j) (i:=i) (λj=>rfl) cO (bt++dN).length YM
    omega
theorem Im:∀{l:List Oper} {s:List DE} {F:List (Nat × FE)} {t:Nat},(∀(j:Nat) (o:Oper),l[j]?=some o→o.dst≠some t)→findF (ql l s F) t=findF F t
 |[],_,F,t,_=>by simp[ql]
 |_::_,[],F,t,_=>by simp[ql]
 |o::r,e::s,F,t,h=>by
  simp only[ql]
  rw[Im (λj o' hj=>h (j+1) o' (by simpa using hj))]
  have h0:=h 0 o (by simp)
  split
  ·rename_i d hd
   rw[iB]
   rintro rfl
   exact h0 hd
  ·rfl
theorem Oa:∀{l:List Oper} {s:List DE} {F:List (Nat × FE)} {t j:Nat} {o:Oper} {e:DE},l[j]?=some o→o.dst=some t→s[j]?=some e →
  (∀(j':Nat) (o':Oper),j<j'→l[j']?=some o'→o'.dst≠some t)→findF (ql l s F) t=some ⟨e.π,e.v⟩
 |[],_,F,t,j,o,e,h,_,_,_=>by simp at h
 |_::_,[],F,t,j,o,e,_,_,h,_=>by simp at h
 |o'::r,e'::s,F,t,j,o,e,h1,h2,h3,h4=>by
  simp only[ql]
  cases j with
  |zero =>
   simp at h1 h3
   subst h1;subst h3
   rw[Im (λj KI hj=>h4 (j+1) KI (by omega) (by simpa using hj)),h2]
   exact je _ _ _
  |succ j =>
   simp at h1 h3
   exact Oa h1 h2 h3 (λj' KI hj h=>h4 (j'+1) KI (by omega) (by simpa using h))
theorem WN (hd:iL X ops A S st acc)(cq:∀j,j<ops.length→L j=true):findF (ql ops acc st.F)=fD ops acc (findF st.F) L:=by
 funext t
 unfold fD
 cases n_:j9 ops 0 t with
 |none =>
  simp only
  refine Im λj o hj bz=>?_
  have:=hd.C0 j o t hj bz
  rw[n_] at this;cases this
 |some k =>
  obtain⟨_,o,h1,h2⟩:=DV n_
  simp only[Nat.sub_zero] at h1
  have hk:=iI h1
  have Pd:acc[k]?=some (acc[k]'(by rw[hd.len];exact hk)):=List.getElem?_eq_getElem _
  simp only[cq k hk,if_true,jA,Pd]
  refine Oa h1 h2 Pd (λj' o' hj uF bz=>?_)
  have:=hd.C0 j' o' t uF bz
  rw[n_] at this
  cases this
  omega
theorem vX {L:Nat→Bool}:∀{l:List DE} {k:Nat} {H:List (Nat × HB)} {id:Nat},(∀j,j<l.length→L (k+j)=true)→ab (mT l H) id=pD L l k id (ab H id)
 |[],k,H,id,_=>rfl
 |e::r,k,H,id,hL=>by
  have h0:L k=true:=by simpa using hL 0 (by simp)
  have pe:∀j,j<r.length→L (k+1+j)=true:=λj hj=>by
   have:=hL (j+1) (by simp;omega)
   rwa [show k+(j+1)=k+1+j by omega] at this
  simp only[mT,pD,h0,if_true]
  split
  ·rename_i l he
   rw[vX (k:=k+1) pe]
   congr 1
   rw[w4,rL]
   simp only[iP,he]
   all_goals cases ab l id<;>rfl
  ·rename_i bM off cs he
   by_cases dZ:bM=id
   ·subst dZ
    split
    ·rename_i T cw hf
     rw[vX (k:=k+1) pe]
     congr 1
     simp[ab,iP,he,hf]
    ·rename_i aV
     rw[vX (k:=k+1) pe]
     congr 1
     simp only[iP,he,Nat.beq_refl,if_true]
   ·have hb:Nat.beq bM id=false:=by
     cases ur:Nat.beq bM id with
     |false=>rfl
     |true=>exact absurd (Nat.eq_of_beq_eq_true ur) dZ
    have hx:iP e id (ab H id)=ab H id:=by simp[iP,he,hb]
    rw[hx]
    split
    ·rw[vX (k:=k+1) pe]
     congr 1
     simp[ab,hb]
    ·exact vX (k:=k+1) pe
  ·rename_i h1 h2
   rw[vX (k:=k+1) pe]
   congr 1
   unfold iP
   split
   ·rename_i l he;exact absurd he (h1 l)
   ·rename_i bM off cs he;exact absurd he (h2 _ _ _)
   ·rfl
theorem Ee:∀{l:List DE} {gs:List Nat},(∀x∈gs,x∈vV l gs)∧∀(j:Nat) (e:DE),l[j]?=some e→∀x∈e.π,x.1∈vV l gs
 |[],gs=>⟨λx hx=>hx,λj e h=>by simp at h⟩
 |e::r,gs=>by
  simp only[vV]
  have ih:=Ee (l:=r) (gs:=o_ e.π gs)
  have hg:=IF (π:=e.π) (l:=gs)
  refine⟨λx hx=>ih.1 x (hg.1 x hx),λj e' hj x hx=>?_⟩
  cases j with
  |zero=>simp at hj;subst hj;exact ih.1 _ (hg.2 x hx)
  |succ j=>simp at hj;exact ih.2 j e' hj x hx
theorem Ip:∀(l:List DE) (gs:List Nat) (K:List Nat→Prop),AQ l gs K=K (vV l gs)
 |[],gs,K=>rfl
 |e::r,gs,K=>by
  simp only[AQ,vV]
  split
  ·rename_i h
   cases hp:e.π with
   |nil=>rw[Ip];rfl
   |cons x y=>rw[hp] at h;cases h
  ·rw[D9,Ip]
theorem QP (l:List DE):uP l=l.length:=by
 induction l with
 |nil=>rfl
 |cons x r ih=>simp[uP,ih]
theorem KS:∀{l:List DE} {j:Nat} {e:DE} {ch:List PanicEntry},rP l=none→l[j]?=some e→e.bT≠.bL ch
 |[],j,e,ch,_,h=>by simp at h
 |x::r,j,e,ch,h,hj=>by
  simp only[rP] at h
  split at h
  ·cases h
  ·rename_i aV
   cases j with
   |zero=>simp at hj;subst hj;exact aV ch
   |succ j=>simp at hj;exact KS h hj
end
theorem RP:∀{l:List DE} {j:Nat} {e:DE} {ch qf:List PanicEntry},FZ l=true→rP l=some ch→l[j]?=some e→e.bT=.bL qf→qf=ch
 |[],j,e,ch,qf,_,h,_,_=>by cases h
 |x::r,j,e,ch,qf,h1,h2,h3,h4=>by
  simp only[FZ] at h1
  simp only[rP] at h2
  split at h1
  ·rename_i Nn he
   rw[he] at h2
   cases h2
   cases j with
   |zero=>simp at h3;subst h3;rw[he] at h4;cases h4;rfl
   |succ j =>
    simp at h3
    split at h1
    ·rename_i hn;exact absurd h4 (KS hn h3)
    ·cases h1
  ·rename_i aV
   split at h2
   ·rename_i Nn he;exact absurd he (aV Nn)
   ·cases j with
    |zero=>simp at h3;subst h3;exact absurd h4 (aV qf)
    |succ j=>simp at h3;exact RP h1 h2 h3 h4
section
variable {X:Cx}{st:St}
theorem cU (hX:X.Ok)(hm:X.P.follows .mixedOrders=true)(A:List Nat)(S:List (Nat × Nat))(m:Nat){id:Nat}{ops:Array Oper}(hA:mE ops.toList []=A){K:Ex→St→Prop}(h:drawn X ops.toList A S m st K):aX X (.region id ops true) st K:=by
 intro ρ a w cL
 unfold drawn at h
 rw[ac5] at h
 generalize PL:ops.toList.take m=bt at h
 generalize Zj:ops.toList.drop m=dN at h
 have JD:ops.toList=bt++dN:=by rw[←PL,←Zj,List.take_append_drop]
 have Zi:ops=(bt++dN).toArray:=by rw[←JD]
 split at h
 ·rename_i hu he hp Jh sX hle
  have ck:bt.length=m:=by rw[←PL,List.length_take];have:=QM hle;omega
  obtain⟨acc,hlen,cK,tj⟩:=Wo bt 0 [] rfl (by simp) rfl h (λj o hj=>by omega)
  unfold NQ at cK
  split at cK
  ·rename_i qz Yp YL
   have mV:jX acc 0=S∨jX acc 0=[]:=by
    split at qz
    ·exact .inl (Su qz)
    ·refine .inr ?_
     cases hs:jX acc 0 with
     |nil=>rfl
     |cons x r=>rw[hs] at qz;cases qz
   have sV:∀id hb,ab st.H id=some hb→id<st.nx:=λid hb hf=>by
    obtain⟨nm,h1,_⟩:=cL.hm.ok id hb hf
    rcases Nat.lt_or_ge id st.nx with h2|h2
    ·exact h2
    ·rw[cL.nx id h2] at h1;cases h1
   rw[JD] at hA he
   have IV:∀(j:Nat) (o:Oper) (k:Nat),(bt++dN)[j]?=some o→dK (dh A j) k=true→∃e∈o.after.toList,gh e=true∧(e.on=k∨dK (dh A e.on) k=true):=by
    intro j o k hj hb
    have:=Mx (bt++dN) [] j o k hj (by rw[hA];simpa using hb)
    rw[hA] at this
    exact this
   have ru:∀(j:Nat) (o:Oper),(bt++dN)[j]?=some o→∀e∈o.after.toList,gh e=true→e.on<j:=by
    intro j o hj e hE hb
    have:=NN he j o hj e hE hb
    omega
   have iS:∀(j:Nat) (o:Oper),bt[j]?=some o→(bt++dN)[j]?=some o:=λj o hj=>by rw[List.getElem?_append_left (iI hj)];exact hj
   have hd:iL X bt A S st acc:={
    len:=hlen
    step:=tj
    bf:=λj o k hj hb=>IV j o k (iS j o hj) hb
    C0:=λj o d hj bz=>by
     have:=adW bt 0 hu j o d hj bz
     simpa using this
    NM:=λj o hj=>ru j o (iS j o hj)
    put:=λj o hj=>R4 hp j o hj
    SX:=λj e id off cs hj hE=>by
     have:=CV (k:=0) hj hE
     rcases mV with mV|mV
     ·rw[mV] at this
      simpa using this
     ·rw[mV] at this;cases this
    chain:=λj j' e e' id off cs bM FX cs' h1 h2 h3 h4 h5=>by
     have a1:=CV (k:=0) h1 h2
     have a2:=CV (k:=0) h3 h4
     rw[Nat.zero_add] at a1 a2
     rcases mV with mV|mV
     case inr=>rw[mV] at a1;cases a1
     obtain⟨x,hx⟩:=List.getElem?_of_mem a1
     obtain⟨y,hy⟩:=List.getElem?_of_mem a2
     have Z0:=Lz hx hy h5
     rw[mV] at hx hy
     exact Ni Yp x y _ _ hx hy Z0
    ids:=λj e l hj hE id hb hf=>by
     have:=Qh YL j e l hj hE id hb hf
     simpa using this }
   have YF:∀(i:Nat) (o:Oper),(bt++dN)[i]?=some o→bt.length≤i→∀k,k<i→∃e∈o.after.toList,gh e=true∧(e.on=k∨dK (dh A e.on) k=true):=by
    intro i o ho hmi k hk
    refine IV i o k ho ?_
    rw[As] at sX
    unfold dh
    rw[jA]
    cases O':A[i]? with
    |none =>
     exfalso
     have h1:A.length=(bt++dN).length:=by rw[←hA,Mw];simp
     have h2:=iI ho
     rw[List.getElem?_eq_none_iff] at O'
     omega
    |some n =>
     refine OE sX (i:=i-m) ?_ k (by omega)
     rw[List.getElem?_drop,show m+(i-m)=i by omega]
     exact O'
   have Yh:∀(j:Nat) (o:Oper) (k:Nat),(bt++dN)[j]?=some o→dK (dh A j) k=true→k<j:=by
    intro j
    induction j using Nat.strongRecOn with
    |_ j ih =>
     intro o k ho hk
     obtain⟨e,rp,hb,h'⟩:=IV j o k ho hk
     have aG:=ru j o ho e rp hb
     rcases h' with h'|h'
     ·omega
     ·have:=ih e.on aG _ k (List.getElem?_eq_getElem (by have:=iI ho;omega)) h'
      omega
   have hi:j5 X bt A st acc (λ_=>false) ρ a { w with drawn:=w.drawn+1 }:={
    cl:=λj k h=>by cases h
    lt:=λj h=>by cases h
    fm:=by
     intro t e hf
     refine cL.fm t e ?_
     unfold fD at hf
     split at hf
     ·exact hf
     ·simpa using hf
    hm:=by
     have e:hD acc (ab st.H) (λ_=>false)=ab st.H:=by funext id;exact w_ λj e _ h=>by cases h
     rw[e]
     exact cL.hm.world (Nat.le_refl _) (λ_ _=>rfl)
    kp:=by
     have e:hD acc (ab st.H) (λ_=>false)=ab st.H:=by funext id;exact w_ λj e _ h=>by cases h
     rw[e]
     exact cL.kp.world (Nat.le_refl _) (λ_ _=>rfl)
    df:=cL.df
    sz:=cL.sz
    um:=cL.gs
    nx:=λj hj aV=>absurd (cL.nx j hj) aV
    np:=λk e h=>by cases h
    ext:=sV }
   have Zx:∀n j,j<n→(Array.replicate n false)[j]?=some false:=λn j hj=>by simp[hj]
   rw[Zi]
   refine wpIn_region_any hm (V0 hX hd (by rw[ck];exact Jh) ru YF Yh ?_ ?_ _ _ (λ_=>false) ρ a _ (by simp) (λj hj=>Zx _ j (by simpa using hj)) (by rw[VK];simp) hi)
   ·intro L ρ' a' w' eC cq
    split at cK
    ·rename_i pz
     rw[N1,Ip,vW,fw] at cK
     have e1:=WN hd cq
     have e2:ab (mT acc st.H)=hD acc (ab st.H) L:=by
      funext id
      exact vX (k:=0) (λj hj=>by rw[Nat.zero_add];exact cq j (by rw[←hlen];exact hj))
     have wI:Mod X ρ' ⟨ql bt acc st.F,vV acc st.gs,mT acc st.H,st.nx+4*uP acc,st.D⟩ a' w':={
      fm:=by rw[e1];exact eC.fm
      gs:=λt e hf x hx=>by
       have hf:findF (ql bt acc st.F) t=some e:=hf
       rw[e1] at hf
       unfold fD at hf
       split at hf
       ·exact Ee.1 _ (eC.um t e hf x hx)
       ·rename_i k _
        split at hf
        ·rw[jA] at hf
         cases hk:acc[k]? with
         |none=>rw[hk] at hf;cases hf
         |some ek =>
          rw[hk] at hf;cases hf
          exact Ee.2 k ek hk x hx
        ·exact Ee.1 _ (eC.um t e hf x hx)
      df:=eC.df
      hm:=by rw[e2];exact eC.hm
      kp:=by rw[e2];exact eC.kp
      nx:=λj hj=>by
       have hj:st.nx+4*uP acc≤j:=hj
       cases hr:ρ' j with
       |none=>rfl
       |some nm =>
        obtain⟨k,e,l,hb,h1,h2,h3,h4⟩:=eC.nx j (by omega) (by rw[hr];simp)
        have:=hd.ids k e l h2 h3 _ _ h4
        have:=iI h2
        rw[QP] at hj
        omega
      sz:=eC.sz }
     rw[ck]
     have EI:(bt++dN).drop m=dN:=by rw[←ck];simp
     have:=kf hX (ops:=bt++dN) (Q:=sf X K) (K:=λst=>mN st (K .normal)) (Kp:=λch st=>K (.panic ch) st)
      (fun ρ' af a' w' an hk=>⟨.normal,af,ρ',rfl,an,by unfold mN at hk;split at hk<;>exact hk⟩)
      (λch ρ' af a' w' an hk=>⟨.panic ch,af,ρ',rfl,an,hk⟩) dN m ρ' _ a' w' EI (by rw[←JD];exact cK) wI
     exact this
    ·rename_i ch pz
     exfalso
     have:∀{l:List DE},rP l=some ch→∃(j:Nat) (e:DE),l[j]?=some e∧e.bT=.bL ch:=by
      intro l
      induction l with
      |nil=>intro h;cases h
      |cons x r ih =>
       intro h
       simp only[rP] at h
       split at h
       ·rename_i qf hx;cases h;exact⟨0,x,by simp,hx⟩
       ·obtain⟨j,e,h1,h2⟩:=ih h;exact⟨j+1,e,by simpa using h1,h2⟩
     obtain⟨j,e,h1,h2⟩:=this pz
     exact(eC.np j e (cq j (by rw[←hlen];exact iI h1)) h1).2 ch h2
   ·intro L ρ' a' w' ch e i iJ eC Pt yz dr pw JR
    split at cK
    ·rename_i pz
     exact absurd yz (KS pz Pt)
    ·rename_i qf pz
     split at cK
     ·rename_i lB EX
      have ph:=RP EX pz Pt yz
      subst ph
      rw[N1,fw] at cK
      refine⟨.panic ch,_,ρ',rfl,?_,cK⟩
      have X':jX acc 0=[]:=by
       cases hs:jX acc 0 with
       |nil=>rfl
       |cons x r=>rw[hs] at lB;cases lB
      have hle:∀id hb,ab st.H id=some hb→hD acc (ab st.H) L id=some hb:=by
       intro id hb hf
       rw[O_ hd (sV _ _ hf) (λj e off cs _ hj rp=>?_)]
       ·exact hf
       ·have:=CV (k:=0) hj rp
        rw[X'] at this;cases this
      have an:HM ρ' (ab st.H) w':=eC.hm.sub hle
      exact{
       fm:=λt e hf=>by
        obtain⟨h1,h2⟩:=Fu hf
        refine eC.fm t e ?_
        unfold fD
        rw[h2]
        exact h1
       gs:=λt e hf x hx=>eC.um t e (Fu hf).1 x hx
       df:=eC.df
       hm:=an.world dr pw
       kp:={
        str:=eC.kp.str.trans JR
        size:=Nat.le_trans eC.kp.size dr
        same:=λb hb hM=>(pw b (by have:=eC.kp.size;omega)).trans (eC.kp.same b hb hM)
        own:=λb ho=>eC.kp.own b (Own.sub hle ho)
        ext:=eC.kp.ext
        fz:=λb hz=>eC.kp.fz b (hz.sub λid size C hf=>hle _ _ hf) }
       nx:=λj hj=>by
        have hj:st.nx+4*uP acc≤j:=hj
        cases hr:ρ' j with
        |none=>rfl
        |some nm =>
         obtain⟨k,e,l,hb,h1,h2,h3,h4⟩:=eC.nx j (by omega) (by rw[hr];simp)
         have:=hd.ids k e l h2 h3 _ _ h4
         have:=iI h2
         rw[QP] at hj
         omega
       sz:=eC.sz }
     ·exact cK.elim
  ·exact cK.elim
 ·exact h.elim
end
mutual
def bX (s:Nat→Nat):SV→SV
 |.sp i o=>.sp (s i) o
 |.se i n o=>.se (s i) n o
 |.sl i=>.sl (s i)
 |.sm i=>.sm (s i)
 |.fy i=>.fy (s i)
 |.ss i o l t=>.ss (s i) o l t
 |.agg l=>.agg (cX s l)
 |.bn l=>.bn (cX s l)
 |.fn f a b=>.fn f (cX s a) (cX s b)
 |.cg t x=>.cg t (bX s x)
 |.sv x=>.sv x
 |.si k n=>.si k n
 |.sb p=>.sb p
def cX (s:Nat→Nat):List SV→List SV
 |[]=>[]
 |x::r=>bX s x::cX s r
end
def TP (nm ak:Nm):Prop:=ak=nm∨(∃k n c z,ak=.row k n c z∧nm=.sl (some ⟨k,0,none⟩) n c z)∨∃k n c z,nm=.row k n c z∧ak=.sl (some ⟨k,0,none⟩) n c z
def zG (dQ ρ:Env)(s:Nat→Nat)(x:Nat→Prop):Prop:=∀j,x j→∃nm ak,dQ j=some nm∧ρ (s j)=some ak∧TP nm ak
theorem lR (k o:Nat):(⟨k,0,none⟩:Addr).add o=⟨k,o,none⟩:=by rw[oM];simp
mutual
def sa (p:Nat→Prop):SV→Prop
 |.sp i _=>p i
 |.se i _ _=>p i
 |.sl i=>p i
 |.sm i=>p i
 |.fy i=>p i
 |.ss i _ _ _=>p i
 |.agg l=>iM p l
 |.bn l=>iM p l
 |.fn _ a b=>iM p a∧iM p b
 |.cg _ x=>sa p x
 |.sv _=>True
 |.si _ _=>True
 |.sb _=>True
def iM (p:Nat→Prop):List SV→Prop
 |[]=>True
 |x::r=>sa p x∧iM p r
end
section
variable {dQ ρ:Env}{s:Nat→Nat}{p:Nat→Prop}
mutual
theorem HP (h:zG dQ ρ s p):∀(x:SV),sa p x→den ρ (bX s x)=den dQ x
 |.sv x,_=>by simp[bX,den]
 |.si k n,_=>by simp[bX,den]
 |.sb q,_=>by simp[bX,den]
 |.sp i o,hi=>by
  obtain⟨nm,ak,h1,h2,h3⟩:=h i hi
  simp only[bX,den,h1,h2]
  rcases h3 with rfl|⟨k,n,c,z,rfl,rfl⟩|⟨k,n,c,z,rfl,rfl⟩<;>rfl
 |.se i n o,hi=>by
  obtain⟨nm,ak,h1,h2,h3⟩:=h i hi
  simp only[bX,den,h1,h2]
  rcases h3 with rfl|⟨k,n,c,z,rfl,rfl⟩|⟨k,n,c,z,rfl,rfl⟩
  ·rfl
  ·simp only[lR]
  ·simp only[lR]
 |.sl i,hi=>by
  obtain⟨nm,ak,h1,h2,h3⟩:=h i hi
  simp only[bX,den,h1,h2]
  rcases h3 with rfl|⟨k,n,c,z,rfl,rfl⟩|⟨k,n,c,z,rfl,rfl⟩<;>rfl
 |.sm i,hi=>by
  obtain⟨nm,ak,h1,h2,h3⟩:=h i hi
  simp only[bX,den,h1,h2]
  rcases h3 with rfl|⟨k,n,c,z,rfl,rfl⟩|⟨k,n,c,z,rfl,rfl⟩<;>rfl
 |.fy i,hi=>by
  obtain⟨nm,ak,h1,h2,h3⟩:=h i hi
  simp only[bX,den,h1,h2]
  rcases h3 with rfl|⟨k,n,c,z,rfl,rfl⟩|⟨k,n,c,z,rfl,rfl⟩<;>rfl
 |.ss i o l t,hi=>by
  obtain⟨nm,ak,h1,h2,h3⟩:=h i hi
  simp only[bX,den,h1,h2]
  rcases h3 with rfl|⟨k,n,c,z,rfl,rfl⟩|⟨k,n,c,z,rfl,rfl⟩
  ·rfl
  ·simp only[partOf,lR]
  ·simp only[partOf,lR]
 |.agg l,hi=>by simp only[bX,den,lZ h l hi]
 |.bn l,hi=>by simp only[bX,den,lZ h l hi]
 |.fn f a b,hi=>by simp only[bX,den,lZ h a hi.1,lZ h b hi.2]
 |.cg t x,hi=>by simp only[bX,den,HP h x hi]
theorem lZ (h:zG dQ ρ s p):∀(l:List SV),iM p l→ai ρ (cX s l)=ai dQ l
 |[],_=>by simp[cX,ai]
 |x::r,hi=>by simp only[cX,ai,HP h x hi.1,lZ h r hi.2]
end
mutual
theorem sa.mono {q:Nat→Prop}(h:∀j,p j→q j):∀(x:SV),sa p x→sa q x
 |.sv x,_=>trivial
 |.si k n,_=>trivial
 |.sb q,_=>trivial
 |.sp i o,hi=>h i hi
 |.se i n o,hi=>h i hi
 |.sl i,hi=>h i hi
 |.sm i,hi=>h i hi
 |.fy i,hi=>h i hi
 |.ss i _ _ _,hi=>h i hi
 |.agg l,hi=>iM.mono h l hi
 |.bn l,hi=>iM.mono h l hi
 |.fn f a b,hi=>⟨iM.mono h a hi.1,iM.mono h b hi.2⟩
 |.cg t x,hi=>sa.mono h x hi
theorem iM.mono {q:Nat→Prop}(h:∀j,p j→q j):∀(l:List SV),iM p l→iM q l
 |[],_=>trivial
 |x::r,hi=>⟨sa.mono h x hi.1,iM.mono h r hi.2⟩
end
end
def kA:Nat→List (Nat × HB)→List (Nat × HB)
 |_,[]=>[]
 |i,(_,hb)::r=>(i,hb)::kA (i+1) r
def nz (ps:List (Nat × HB))(j:Nat):Nat:=match nth ps j with
 |some (c,_)=>c
 |none=>0
theorem rN:∀(ps:List (Nat × HB)) (i j:Nat) (hb:HB),ab (kA i ps) j=some hb→i≤j∧∃c,ps[j-i]?=some (c,hb)
 |[],i,j,hb,h=>by cases h
 |(c,x)::r,i,j,hb,h=>by
  simp only[kA,ab] at h
  split at h
  ·rename_i e
   have:i=j:=by simpa using e
   subst this;cases h
   exact⟨Nat.le_refl _,c,by simp⟩
  ·rename_i e
   have aV:¬i=j:=by simpa using e
   obtain⟨h1,c',h2⟩:=rN r (i+1) j hb h
   exact⟨by omega,c',by rw[show j-i=(j-(i+1))+1 by omega];simpa using h2⟩
def qX (H:LH)(s:Nat→Nat)(c:Nat):HB→Prop
 |.cells T cs=>H c=some (.cells T (cX s cs))
 |.map es k=>H c=some (.map es k)
 |.ro size n get=>(∃get',H c=some (.ro size n get')∧∀i,i<n→cX s (get i)=get' i)∨(∃T xs,H c=some (.row T size n xs)∧∀i,i<n→cX s (get i)=(xs.drop (i*size)).take size) ∨
   ∃T get',H c=some (.vec T size n get')∧∀i,i<n→cX s (get i)=get' i
 |.ax size C=>H c=some (.ax size C)
 |_=>False
def L6 (p:Nat→Prop):HB→Prop
 |.cells _ cs=>iM p cs
 |.ro _ n get=>∀i,i<n→iM p (get i)
 |.row _ _ _ xs=>iM p xs
 |_=>True
def qG:HB→Bool
 |.cells _ _=>true
 |.map _ _=>true
 |_=>false
def ib:Nm→Nm
 |.row k n c z=>.sl (some ⟨k,0,none⟩) n c z
 |x=>x
def iH:HB→Bool
 |.ro _ _ _=>true
 |_=>false
structure Hand (H:LH) (ps:List (Nat × HB)):Prop where
 ok:∀(j c:Nat) (hb:HB),ps[j]?=some (c,hb)→qX H (nz ps) c hb
 ids:∀(j c:Nat) (hb:HB),ps[j]?=some (c,hb)→L6 (λi=>i<ps.length) hb
 inj:∀(i j c:Nat) (hb hb':HB),ps[i]?=some (c,hb)→ps[j]?=some (c,hb')→qG hb=true→qG hb'=true→i=j
def iQ (ρ:Env)(ps:List (Nat × HB)):Env:=λj=>match ps[j]? with
 |some (c,hb)=>if iH hb then(ρ c).map ib else ρ c
 |none=>none
theorem An {ρ:Env}{l:List SV}{vs:List Value}(h:ai ρ l=some vs)(off size:Nat):ai ρ ((l.drop off).take size)=some ((vs.drop off).take size) :=
 Ap (Am h off) size
theorem KY {ρ:Env}{H:LH}{w:World}(hm:HM ρ H w){s:Nat→Nat}{c:Nat}{hb:HB}(h:qX H s c hb):∃nm hb',ρ c=some nm∧H c=some hb'∧ao ρ w hb' nm:=by
 have key:∀hb',H c=some hb'→∃nm hb',ρ c=some nm∧H c=some hb'∧ao ρ w hb' nm:=λhb' hf=>by
  obtain⟨nm,h1,h2⟩:=hm.ok c hb' hf
  exact⟨nm,hb',h1,hf,h2⟩
 cases hb with
 |cells T cs=>exact key _ h
 |map es k=>exact key _ h
 |ro size n get =>
  rcases h with⟨get',h,_⟩|⟨T,xs,h,_⟩|⟨T,g,h,_⟩
  ·exact key _ h
  ·exact key _ h
  ·exact key _ h
 |dead=>exact h.elim
 |row _ _ _ _=>exact h.elim
 |vec _ _ _ _=>exact h.elim
 |mp _=>exact h.elim
 |it _ _ _ _=>exact h.elim
 |loop _ _ _ _ _ _ _ _ _=>exact h.elim
 |eh=>exact h.elim
 |ax _ _=>exact key _ h
section
variable {ρ:Env}{H:LH}{w:World}{ps:List (Nat × HB)}
theorem Ph (hm:HM ρ H w)(hh:Hand H ps):zG (iQ ρ ps) ρ (nz ps) (λi=>i<ps.length):=by
 intro j hj
 have gT:ps[j]?=some (ps[j].1,ps[j].2):=List.getElem?_eq_getElem hj
 obtain⟨nm,hb',h1,h2,h3⟩:=KY hm (hh.ok j _ _ gT)
 have hs:nz ps j=ps[j].1:=by simp only[nz,jA,gT]
 refine⟨if iH ps[j].2 then ib nm else nm,nm,?_,by rw[hs];exact h1,?_⟩
 ·simp only[iQ,gT,h1]
  split<;>rfl
 ·split
  ·cases nm with
   |row k n c z=>exact .inr (.inl ⟨k,n,c,z,rfl,rfl⟩)
   |bO n=>exact .inl rfl
   |sl a n c z=>exact .inl rfl
  ·exact .inl rfl
theorem EE (hm:HM ρ H w)(hh:Hand H ps){b:Nat}(ho:Own (iQ ρ ps) (ab (kA 0 ps)) b) :
  ∃(j c:Nat) (hb hb':HB) (nm:Nm),ps[j]?=some (c,hb)∧qG hb=true∧H c=some hb'∧hb'.live=true∧ρ c=some nm∧nm.owner=some b∧qG hb'=true:=by
 obtain⟨id,hb,nm,h1,h2,h3,h4⟩:=ho
 obtain⟨_,c,h5⟩:=rN ps 0 id hb h1
 simp only[Nat.sub_zero] at h5
 have hp:=hh.ok id c hb h5
 simp only[iQ,h5] at h3
 cases hb with
 |cells T cs =>
  simp only[iH] at h3
  exact⟨id,c,_,_,nm,h5,rfl,hp,rfl,h3,h4,rfl⟩
 |map es k =>
  simp only[iH] at h3
  exact⟨id,c,_,_,nm,h5,rfl,hp,rfl,h3,h4,rfl⟩
 |ro size n get =>
  simp only[iH,if_true] at h3
  cases hr:ρ c with
  |none=>rw[hr] at h3;cases h3
  |some ak =>
   rw[hr] at h3
   simp only[Option.map_some,Option.some.injEq] at h3
   obtain⟨fg,jT,e1,e2,e3⟩:=KY hm hp
   rw[hr] at e1;cases e1
   rcases hp with⟨get',hp,_⟩|⟨T,xs,hp,_⟩|⟨T,xs,hp,_⟩
   ·rw[hp] at e2;cases e2
    cases ak with
    |sl a n' c' z=>subst h3;simp[ib,Nm.owner] at h4
    |bO k=>exact e3.elim
    |row _ _ _ _=>exact e3.elim
   ·rw[hp] at e2;cases e2
    cases ak with
    |sl a n' c' z=>exact e3.elim
    |bO k=>exact e3.elim
    |row k n' c' z=>subst h3;simp[ib,Nm.owner] at h4
   ·rw[hp] at e2;cases e2
    cases ak with
    |sl a n' c' z=>subst h3;simp[ib,Nm.owner] at h4
    |bO k=>exact e3.elim
    |row k n' c' z=>subst h3;simp[ib,Nm.owner] at h4
 |dead=>exact hp.elim
 |row _ _ _ _=>exact hp.elim
 |vec _ _ _ _=>exact hp.elim
 |mp _=>exact hp.elim
 |it _ _ _ _=>exact hp.elim
 |loop _ _ _ _ _ _ _ _ _=>exact hp.elim
 |eh=>exact hp.elim
 |ax size C =>
  simp only[iH] at h3
  obtain⟨fg,e1,e2⟩:=hm.ok _ _ hp
  simp only[Bool.false_eq_true,if_false] at h3
  rw[h3] at e1;cases e1
  cases nm<;>simp only[ao] at e2
  simp[Nm.owner] at h4
theorem Yj (hm:HM ρ H w)(hh:Hand H ps):HM (iQ ρ ps) (ab (kA 0 ps)) w where
 ok id hb hf:=by
  obtain⟨_,c,h5⟩:=rN ps 0 id hb hf
  simp only[Nat.sub_zero] at h5
  have hp:=hh.ok id c hb h5
  have hi:=hh.ids id c hb h5
  have wM:=Ph hm hh
  cases hb with
  |cells T cs =>
   obtain⟨nm,h1,h2⟩:=hm.ok _ _ hp
   refine⟨nm,by simp only[iQ,h5,iH];exact h1,?_⟩
   cases nm<;>simp only[ao] at h2 ⊢
   obtain⟨vs,d1,d2⟩:=h2
   exact⟨vs,by rw[←lZ wM cs hi];exact d1,d2⟩
  |map es k =>
   obtain⟨nm,h1,h2⟩:=hm.ok _ _ hp
   exact⟨nm,by simp only[iQ,h5,iH];exact h1,by cases nm<;>exact h2⟩
  |ro size n get =>
   rcases hp with⟨get',hp,hg⟩|⟨T,xs,hp,hx⟩|⟨T,get',hp,hg⟩
   ·obtain⟨nm,h1,h2⟩:=hm.ok _ _ hp
    refine⟨ib nm,by simp only[iQ,h5,iH,if_true,h1,Option.map_some],?_⟩
    cases nm<;>simp only[ao] at h2
    obtain⟨e1,e2,e0,e3⟩:=h2
    refine⟨e1,e2,e0,λhn=>?_⟩
    obtain⟨ad,a1,a2,a3⟩:=e3 hn
    refine⟨ad,a1,a2,λi dD=>?_⟩
    obtain⟨vs,d1,d2⟩:=a3 i dD
    exact⟨vs,by rw[←lZ wM _ (hi i dD),hg i dD];exact d1,d2⟩
   ·obtain⟨nm,h1,h2⟩:=hm.ok _ _ hp
    refine⟨ib nm,by simp only[iQ,h5,iH,if_true,h1,Option.map_some],?_⟩
    cases nm<;>simp only[ao] at h2
    rename_i nb n' cc z
    obtain⟨e1,e2,e3,vs,rest,d1,d2,d3,d4,d5⟩:=h2
    refine⟨e1,e2,e3.1,λhn=>?_⟩
    have aG:nb<w.heap.size:=by
     rcases Nat.lt_or_ge nb w.heap.size with h|h
     ·exact h
     ·rw[Array.getElem?_eq_none h] at d5;cases d5
    refine⟨⟨nb,0,none⟩,rfl,aG,λi dD=>?_⟩
    have hd:=An d1 (i*size) size
    rw[←hx i dD,lZ wM _ (hi i dD)] at hd
    have hle:i*size+size≤n*size:=by
     have:(i+1)*size≤n*size:=Nat.mul_le_mul_right _ dD
     rw[Nat.add_mul] at this;omega
    refine⟨_,hd,?_,by simp;omega,λj v hv=>?_⟩
    ·rw[List.all_eq_true] at d2 ⊢
     intro x qA
     exact d2 x (List.mem_of_mem_drop (List.mem_of_mem_take qA))
    ·rw[List.getElem?_take] at hv
     split at hv
     ·rename_i hj
      rw[List.getElem?_drop] at hv
      rw[lR]
      simp only[World.cell?,d5]
      simp only[List.getElem?_toArray]
      rw[List.getElem?_append_left (by have:=iI hv;omega)]
      exact hv
     ·cases hv
   ·obtain⟨nm,h1,h2⟩:=hm.ok _ _ hp
    refine⟨ib nm,by simp only[iQ,h5,iH,if_true,h1,Option.map_some],?_⟩
    cases nm<;>simp only[ao] at h2
    ·obtain⟨rfl,rfl,rfl,rfl,rfl⟩:=h2
     exact⟨rfl,rfl,Nat.le_refl _,λh=>by omega⟩
    rename_i nb n' cc z
    obtain⟨e1,e2,e3,cells,d5,d6,d7⟩:=h2
    refine⟨e1,e2,e3.1,λhn=>?_⟩
    have aG:nb<w.heap.size:=by
     rcases Nat.lt_or_ge nb w.heap.size with h|h
     ·exact h
     ·rw[Array.getElem?_eq_none h] at d5;cases d5
    refine⟨⟨nb,0,none⟩,rfl,aG,λi dD=>?_⟩
    obtain⟨vs,c1,c2,c3,c4⟩:=d7 i dD
    refine⟨vs,by rw[←lZ wM _ (hi i dD),hg i dD];exact c1,c2,c3,λj v hv=>?_⟩
    rw[lR]
    simp only[World.cell?,d5]
    simp only[List.getElem?_toArray]
    exact c4 j v hv
  |dead=>exact hp.elim
  |row _ _ _ _=>exact hp.elim
  |vec _ _ _ _=>exact hp.elim
  |mp _=>exact hp.elim
  |it _ _ _ _=>exact hp.elim
  |loop _ _ _ _ _ _ _ _ _=>exact hp.elim
  |eh=>exact hp.elim
  |ax size C =>
   obtain⟨nm,h1,h2⟩:=hm.ok _ _ hp
   exact⟨nm,by simp only[iQ,h5,iH];exact h1,by cases nm<;>exact h2⟩
 sep i j x y c_ dE b h1 h2 l1 l2 r1 r2 o1 o2:=by
  have hi:Own (iQ ρ ps) (ab (kA 0 ps)) b:=⟨i,x,c_,h1,l1,r1,o1⟩
  obtain⟨_,c1,p1⟩:=rN ps 0 i x h1
  obtain⟨_,c2,p2⟩:=rN ps 0 j y h2
  simp only[Nat.sub_zero] at p1 p2
  have key:∀{j c:Nat} {y:HB} {n:Nm},ps[j]?=some (c,y)→iQ ρ ps j=some n→n.owner=some b→qG y=true∧∃hb',H c=some hb'∧hb'.live=true∧∃nm,ρ c=some nm∧nm.owner=some b:=by
   intro j c y n hp hr ho
   have ap:=hh.ok j c y hp
   simp only[iQ,hp] at hr
   cases y with
   |cells T cs=>exact⟨rfl,_,ap,rfl,n,by simpa [iH] using hr,ho⟩
   |map es k=>exact⟨rfl,_,ap,rfl,n,by simpa [iH] using hr,ho⟩
   |ro size m get =>
    simp only[iH,if_true] at hr
    cases JK:ρ c with
    |none=>rw[JK] at hr;cases hr
    |some ak =>
     rw[JK] at hr
     simp only[Option.map_some,Option.some.injEq] at hr
     obtain⟨fg,jT,e1,e2,e3⟩:=KY hm ap
     rw[JK] at e1;cases e1
     rcases ap with⟨get',ap,_⟩|⟨T,xs,ap,_⟩|⟨T,xs,ap,_⟩
     ·rw[ap] at e2;cases e2
      cases ak with
      |sl a n' c' z=>subst hr;simp[ib,Nm.owner] at ho
      |bO k=>exact e3.elim
      |row _ _ _ _=>exact e3.elim
     ·rw[ap] at e2;cases e2
      cases ak with
      |sl a n' c' z=>exact e3.elim
      |bO k=>exact e3.elim
      |row k n' c' z=>subst hr;simp[ib,Nm.owner] at ho
     ·rw[ap] at e2;cases e2
      cases ak with
      |sl a n' c' z=>subst hr;simp[ib,Nm.owner] at ho
      |bO k=>exact e3.elim
      |row k n' c' z=>subst hr;simp[ib,Nm.owner] at ho
   |dead=>exact ap.elim
   |row _ _ _ _=>exact ap.elim
   |vec _ _ _ _=>exact ap.elim
   |mp _=>exact ap.elim
   |it _ _ _ _=>exact ap.elim
   |loop _ _ _ _ _ _ _ _ _=>exact ap.elim
   |eh=>exact ap.elim
   |ax size C =>
    simp only[iH,Bool.false_eq_true,if_false] at hr
    obtain⟨fg,e1,e2⟩:=hm.ok _ _ ap
    rw[hr] at e1;cases e1
    cases n<;>simp only[ao] at e2
    simp[Nm.owner] at ho
  obtain⟨q1,kW,f1,g1,m1,s1,t1⟩:=key p1 r1 o1
  obtain⟨q2,jT,f2,g2,m2,s2,t2⟩:=key p2 r2 o2
  have hc:=hm.sep c1 c2 kW jT m1 m2 b f1 f2 g1 g2 s1 s2 t1 t2
  subst hc
  exact hh.inj i j c1 x y p1 p2 q1 q2
 ro id size n get nm b hf hn hr hb ho:=by
  obtain⟨_,c,h5⟩:=rN ps 0 id _ hf
  simp only[Nat.sub_zero] at h5
  have hp:=hh.ok id c _ h5
  obtain⟨j,c',x,hb',ak,p1,p2,p3,p4,p5,p6,p7⟩:=EE hm hh ho
  simp only[iQ,h5,iH,if_true] at hr
  rcases hp with⟨get',hp,_⟩|⟨T,xs,hp,_⟩|⟨T,xs,hp,_⟩
  ·obtain⟨fg,e1,e2⟩:=hm.ok _ _ hp
   rw[e1] at hr
   simp only[Option.map_some,Option.some.injEq] at hr
   cases fg<;>simp only[ao] at e2
   simp only[ib] at hr
   subst hr
   exact hm.ro c size n get' _ b hp hn e1 hb ⟨c',hb',ak,p3,p4,p5,p6⟩
  ·obtain⟨fg,e1,e2⟩:=hm.ok _ _ hp
   rw[e1] at hr
   simp only[Option.map_some,Option.some.injEq] at hr
   cases fg<;>simp only[ao] at e2
   simp only[ib] at hr
   subst hr
   simp only[eX,Option.some.injEq] at hb
   subst hb
   have:=hm.sep c c' _ hb' _ ak _ hp p3 rfl p4 e1 p5 rfl p6
   subst this
   rw[hp] at p3;cases p3
   cases p7
  ·obtain⟨fg,e1,e2⟩:=hm.ok _ _ hp
   rw[e1] at hr
   simp only[Option.map_some,Option.some.injEq] at hr
   cases fg<;>simp only[ao] at e2
   ·obtain⟨rfl,rfl,rfl,rfl,rfl⟩:=e2
    omega
   simp only[ib] at hr
   subst hr
   simp only[eX,Option.some.injEq] at hb
   subst hb
   have:=hm.sep c c' _ hb' _ ak _ hp p3 rfl p4 e1 p5 rfl p6
   subst this
   rw[hp] at p3;cases p3
   cases p7
 ax b hz ho:=by
  obtain⟨j,c',x,hb',ak,p1,p2,p3,p4,p5,p6,p7⟩:=EE hm hh ho
  refine hm.ax b (hz.mono λid size C hf=>?_) ⟨c',hb',ak,p3,p4,p5,p6⟩
  obtain⟨_,c,h5⟩:=rN ps 0 id _ hf
  simp only[Nat.sub_zero] at h5
  exact⟨c,C,hh.ok id c _ h5,λ_ _ _ h=>h⟩
end
end Go.X
