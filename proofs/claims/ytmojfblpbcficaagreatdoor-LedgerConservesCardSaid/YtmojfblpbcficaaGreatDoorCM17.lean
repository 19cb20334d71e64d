import Derived.Test.YtmojfblpbcficaaGreatDoorCM16
import Derived.LoopNIn
import Derived.Test.YtmojfblpbcficaaGreatDoorCM14
set_option linter.all false
namespace Go.TM
section
open Go.RowKit
variable [cn]
theorem uC:∀(env:Env),look env=aB (fun _=>.any) env
 |[]=>rfl
 |(i,b)::K=>by
  funext t
  simp only[look,aB,iW,uC K]
  by_cases h:t=i
  ·subst h;simp
  ·rw[if_neg h];simp[beq_false h]
def LI(P:Program)(go:jd):Prop:=∀(r:Bool) (n:Nat) (c:Code) (s:XS) (e:AX) (s':XS),go r n c s=.ok (e,s')->∀(F:Fence),iD F->(r=true->F=Fence.wide)->∀(g:dW) (a:Act) (w:World) (R:Exit->Act->World->Prop),
 Sx g n s a w->(∀a w,Sx g n s' a w->R (tZ e) a w)->c.wpIn F 0 P R a w
section
variable {P:Program} {T:List TI} {go:jd}
theorem yj(hT:fh P T)(D2:LI P go)(eP:∀(g:Nat) (fn:Func),P.funcs[g]?=some fn->(fn.name== "runtime.NumGoroutine")=false)(f g:Nat):Ss (bU P g) (E2 P T go f g):=by
 intro args m K r hx
 unfold E2 at hx
 obtain⟨fn,hf,hx⟩:=ad hx
 obtain⟨c,hb,hx⟩:=ad hx
 have hf:=aP hf
 have hb:=aP hb
 unfold UI at hx
 obtain⟨cI,hx⟩:=aA hx
 have hx:((go true fn.ntmps c (nS m (de 0 args) K)).bind fun q=>HY T f m fn q)=.ok r:=by
  unfold Y8 at hx
  split at hx
  ·rename_i q hq;rw[hq];exact hx
  ·cases hx
 obtain⟨⟨e,s'⟩,bE,hx⟩:=ad hx
 refine⟨⟨fn,hf,eP g fn hf,by rw[hb];rfl⟩,fun w G vs nt cP hr=>?_⟩
 refine(gY.calls (n:=0)).1 (callsIn_of_wp_marks hf hb trivial ?_)
 simp only[acU,cK.wf]at cI
 obtain⟨hlen,hwB,hwE⟩:=cI
 have hlen:vs.length<=fn.ntmps:=by rw[<-hr.1];exact Nat.le_of_ble_eq_true hlen
 let g0:dW:=⟨fun b=>∃i,cA G i (aa K i) b,w,G.M,m,G.β,fun i p=>G.H i 0 0 p⟩
 have ak:cx g0 fn.ntmps (look (de 0 args)) (aa K) { tmps:=vs.toArray++Array.replicate (fn.ntmps-vs.toArray.size) undef,defers:=[] } w G:=by
  refine { fit:=cP,env:=fun t=>?_,size:=by simp;omega,zK:=fun _ _ _=>rfl,os:=rfl,tape:=rfl,output:=rfl,grow:=acN _,mem:=.refl G.M,nD:=fun _ _ _=>rfl,gD:=fun i b ho=>.inr ⟨i,ho⟩,eY:=fun _ _=>rfl,wh:=fun _ _ _ _ hx=>hx,oU:=nt,tK:=⟨[],rfl,List.nodup_nil,by simp⟩ }
  rw[ph]
  simp only[acy,if_true,Nat.sub_zero]
  split
  ·rename_i d hd
   have ht:t<vs.length:=by rw[<-hr.1];exact(aci.1 hd).1
   have hv:vs[t]?=some (vs[t]'ht):=aaS ht
   have:(vs.toArray++Array.replicate (fn.ntmps-vs.toArray.size) undef).getD t undef=vs[t]'ht:=by
    rw[acu,Array.getElem?_append_left (by simpa using ht)]
    simp[hv]
   rw[this]
   exact hr.2 t d _ hd hv
  ·exact .any _
 have D0:Sx g0 fn.ntmps (nS m (de 0 args) K) { tmps:=vs.toArray++Array.replicate (fn.ntmps-vs.toArray.size) undef,defers:=[] } w:=by
  refine⟨⟨G,?_⟩,acN _,?_⟩
  ·simp only[nS,iL,<-uC,<-gR];exact ak
  ·simp only[nS,iL,<-gR];exact fun i hi=>mK hwB hi
 refine D2 true fn.ntmps c _ e s' bE Fence.wide gY (fun _=>rfl) g0 _ w _ D0 fun a w' hs=>?_
 obtain⟨⟨G1,ji⟩,_⟩:=hs
 have fin:((EV T s'.ρ s'.κ fn.results.toList).bind fun jJ=>OB f m s'.κ jJ)=.ok r->LeavesInM Fence.wide 0 P fn a.tmps (fun e w'=>∃v rs K' G',e=.returned v/\(rs=r.1/\K'=r.2.1)/\Lj m r.2.2 (aa K) w G rs (aa K') w' G' v) a.defers .returning w':=by
  intro jh
  obtain⟨jJ,h1,h2⟩:=ad jh
  obtain⟨D,hD,_⟩:=ji.tK
  rw[hD]
  refine cx.leave (g:=g0) (n:=fn.ntmps) (ρ:=s'.ρ) (κ:=s'.κ) (G:=G1) a.tmps (fun w2 rz=>?_) D w' (by have:=ji;rw[<-hD];exact this)
  obtain⟨ab5,us,hq,Ul,hrel⟩:=wN hT rz (CK (q:=fun l=>l=jJ) h1 rfl)
  subst hq
  refine⟨_,pj Ul,?_⟩
  obtain⟨rs,K',G',e1,e2⟩:=cx.out (g:=g0) (m:=m) (K:=K) (w0:=w) (G0:=G) rfl rz h2 hrel (v:=if h:us.toArray.size=1 then us.toArray[0]else .tuple us.toArray) (fun d u _ hu=>by subst hu;rfl) (fun cC=>by rw[dif_neg (by simpa using cC)])
  exact⟨_,rs,K',G',rfl,e1,e2⟩
 unfold HY at hx
 cases e with
 |normal=>exact fin hx
 |ret=>exact fin hx
 |exit i=>cases hx
theorem LJ(D2:LI P go)(f:Nat):Ss (dN P) (HZ go f):=by
 intro args m K r hx
 unfold HZ at hx
 split at hx
 ·rename_i rc l h0
  unfold OL at hx
  have hh:=aA hx;clear hx;obtain⟨fo,hx⟩:=hh
  have hh:=ad hx;clear hx;obtain⟨⟨e1,s1⟩,Zf,hx⟩:=hh
  intro w G vs nt cP hr
  simp only[acU]at fo
  obtain⟨⟨⟨VS,ko⟩,DZ⟩,N9⟩:=fo
  have VS:=acm VS
  have DZ:0<m:=by simpa using DZ
  have hb:=cP.box 0
  rw[h0]at hb
  obtain⟨b,fn,tmps,D,mj,hw,jF⟩:=hb
  have bz:tmps.size=l.length:=by have:=jF.1;simp at this;exact this.symm
  have YY:vs.toArray.size=rc.ps.size:=by rw[List.size_toArray,<-hr.1];exact VS
  refine⟨b,mj,fn,_,rc.as,rc.bd,w,run_yield hw YY,roundIn_of_wpIn trivial ?_⟩
  have Oj:(rc.ps.zip vs.toArray).foldl (fun tm (pv:Nat×Value)=>tm.setIfInBounds pv.1 pv.2) tmps=(rc.ps.toList.zip vs).foldl (fun tm (pv:Nat×Value)=>tm.setIfInBounds pv.1 pv.2) tmps:=by
   rw[<-Array.foldl_toList,Array.toList_zip]
  have HO:(rc.ps.zip vs.toArray).foldl (fun tmps (t,a)=>tmps.setIfInBounds t a) tmps=(rc.ps.toList.zip vs).foldl (fun tm (pv:Nat×Value)=>tm.setIfInBounds pv.1 pv.2) tmps:=Oj
  let g:dW:=⟨fun b=>∃i,cA G i (aa K i) b,w,G.M,m,G.β,fun i p=>G.H i 0 0 p⟩
  have Hy:∀t,aG G (look (rC 0 l) t) (tmps.getD t undef):=fun t=>by
   have:=ug l 0 t
   rw[Nat.zero_add]at this
   rw[this]
   split
   ·rename_i v hv
    have ht:t<tmps.size:=by rw[bz];exact(aci.1 hv).1
    refine jF.2 t v _ hv ?_
    rw[acu,Array.getElem?_toList,acT ht];rfl
   ·exact .any _
  have ak:cx g l.length (look (z7 rc.ps.toList args (rC 0 l))) (aa K) { tmps:=(rc.ps.toList.zip vs).foldl (fun tm (pv:Nat×Value)=>tm.setIfInBounds pv.1 pv.2) tmps,defers:=[] } w G:=
   {fit:=cP,env:=Cs (fun p hp=>by rw[bz];exact uh ko p hp) hr Hy,size:=by rw[<-bz];exact AT _ _,zK:=fun _ _ _=>rfl,os:=rfl,tape:=rfl,output:=rfl,grow:=acN _,mem:=.refl G.M,nD:=fun _ _ _=>rfl,gD:=fun i b ho=>.inr ⟨i,ho⟩,eY:=fun _ _=>rfl,wh:=fun _ _ _ _ hx=>hx,oU:=nt,tK:=⟨[],rfl,List.nodup_nil,by simp⟩ }
  rw[HO]
  have dR:∀i,m<=i->aa K i=.none:=fun i hi=>by
   rcases fZ (K:=K) (i:=i)with h'|h'
   ·exact h'
   ·have:=cZ N9 i (acL.2 ⟨_,h',rfl⟩);omega
  have D0:Sx g l.length (nS m (z7 rc.ps.toList args (rC 0 l)) K) { tmps:=(rc.ps.toList.zip vs).foldl (fun tm (pv:Nat×Value)=>tm.setIfInBounds pv.1 pv.2) tmps,defers:=[] } w:=by
   refine⟨⟨G,?_⟩,acN _,?_⟩
   ·simp only[nS,iL,<-uC,<-gR];exact ak
   ·simp only[nS,iL,<-gR];exact dR
  refine D2 false l.length rc.as _ e1 s1 Zf _ (wide_round b) (fun h=>by cases h) g _ w _ D0 fun a1 w1 hs=>?_
  cases e1 with
  |ret=>cases hx
  |exit i=>cases hx
  |normal=>
   simp only at hx
   unfold J1 at hx
   split at hx
   ·rename_i rc1 l1 qk
    have hh:=ad hx;clear hx;obtain⟨⟨e2,s2⟩,Zg,hx⟩:=hh
    obtain⟨⟨G1,st1⟩,eE,RD⟩:=hs
    have VT:G1.β 0=some b:=by rw[st1.eY 0 DZ];exact mj
    obtain⟨rr,Rz,RE,Lq,kY,_⟩:=st1.uf qk VT
    have VU:=run_beginRound (P:=P) Rz RE
    have ER:=kY .busy
    have Ol:({ rr with state:=zJ.busy.st,pending:=zJ.busy.zU }:Loop)={ rr with state:=.busy }:=by
     have:rr.pending=none:=Lq
     simp only[zJ.st,zJ.zU,<-this]
    rw[Ol]at ER
    refine⟨_,VU,?_⟩
    refine D2 false l.length rc.bd _ e2 s2 Zg _ (wide_round b) (fun h=>by cases h) g _ _ _ ⟨⟨G1,by simp only[rK];exact ER⟩,eE,fun i hi=>by
     have h1:m<=s1.nx:=eE
     have h2:s1.nx<=i:=hi
     simp only[rK]
     rw[ah _ _ (by omega)];exact RD i hi⟩ fun a2 w2 lV=>?_
    unfold J0 at hx
    split at hx
    ·rename_i rc2 l2 JR
     obtain⟨⟨G2,st2⟩,_,_⟩:=lV
     have wP:G2.β 0=some b:=by rw[st2.eY 0 DZ];exact mj
     obtain⟨r2,Ur,_,_,Om,_⟩:=st2.uf JR wP
     have EJ:=Om (qR e2)
     rw[rK]at hx
     obtain⟨rs,K',G',q1,q2⟩:=cx.out (g:=g) (m:=m) (K:=K) (w0:=w) (G0:=G) rfl EJ hx (us:=[.bool (Sg e2)]) ⟨rfl,fun j d v hd hv=>by
      cases j with
      |zero=>simp at hd hv;subst hd;subst hv;exact .dv (.bool _)
      |succ j=>simp at hd⟩ (v:=.bool (Sg e2)) (fun d u _ hu=>by injection hu) (fun cC=>absurd rfl cC)
     have iG:=run_endRound (P:=P) (nC e2) Ur
     cases e2 with
     |normal=>exact⟨_,_,iG,_,rs,K',G',rfl,q1,q2⟩
     |ret=>exact⟨_,_,iG,_,rs,K',G',rfl,q1,q2⟩
     |exit i=>exact⟨_,_,iG,_,rs,K',G',rfl,q1,q2⟩
    ·cases hx
   ·cases hx
 ·cases hx
end
end
section
open Go.RowKit
variable [cn]
section
variable {P:Program} {T:List TI} {go:jd}
theorem yk(hT:fh P T)(D2:LI P go)(eP:∀(g:Nat) (fn:Func),P.funcs[g]?=some fn->(fn.name== "runtime.NumGoroutine")=false){fuel n nx:Nat}{ρ:Nat->AV}{κ:Nat->au}{x:Operand}{ps:Array Tmp}{as bd:Code}{f:Nat}{bO:List AV}{e:AX}{s':XS}
 (h:wQ P T go fuel nx ρ (RF κ nx (.c8 ⟨ps,as,bd⟩ .ready (bV ρ 0 n))) f bO=.ok (e,s')) {g:dW} {a:Act} {w:World} {R:Exit->Act->World->Prop} {G:Gh} (ak:cx g n ρ κ a w G) (dF:g.m<=nx) (hn:∀i,nx<=i->κ i=.none)
 {vs:List Value} (hx:a.eval x=.func (.func f) #[] vs.toArray) (jF:cd G bO vs) (hR:∀a w,Sx g n s' a w->R (tZ e) a w):(Code.rangeFunc x ps as bd).wpIn Fence.wide 0 P R a w:=by
 rw[rK]at h
 generalize hκ1:iW κ nx (.c8 ⟨ps,as,bd⟩ .ready (bV ρ 0 n))=κ1 at h
 unfold wQ at h
 obtain⟨q,hq,h⟩:=ad h
 unfold sM HW HV at hq
 generalize EU κ1 fuel (hdL none++AV.ur (.eC nx::bO)) []=σ at hq
 obtain⟨fo,hq⟩:=aA hq
 obtain⟨r,jG,hq⟩:=ad hq
 unfold HU at hq
 obtain⟨X9,hq⟩:=aA hq
 injection hq with hq;subst hq
 have jN:=yj hT D2 eP fuel f _ _ _ r jG
 simp only[acU]at fo
 refine wpIn_rangeFunc fun fn _=>?_
 obtain⟨st1,hle⟩:=ak.enterLoop (hn nx (acN _)) dF ⟨ps,as,bd⟩ fn
 rw[hκ1]at st1
 have st2:=st1.upto (nx+1)
 have BU:∀i,i<g.m->iW G.β nx (some (w.heap.size+1)) i=g.β i:=fun i hi=>by rw[ah _ _ (by omega)];exact ak.eY i hi
 have RD:∀i,nx+1<=i->κ1 i=.none:=fun i hi=>by rw[<-hκ1,ah _ _ (by omega)];exact hn i (by omega)
 have hrel:cd { G with β:=iW G.β nx (some (w.heap.size+1)) } (.eC nx::bO) (.func (.yield (w.heap.size+1)) #[] #[]::vs):=by
  have h1:cd { G with β:=iW G.β nx (some (w.heap.size+1)) } [.eC nx] [.func (.yield (w.heap.size+1)) #[] #[]]:=
   ⟨rfl,fun j d v hd hv=>by
    cases j with
    |zero=>simp at hd hv;subst hd;subst hv;exact .eC nx _ (bD _ _ _)
    |succ j=>simp at hd⟩
  exact h1.append (jF.mono hle)
 obtain⟨β,_,bE⟩:=nO (hd:=none) (nx:=nx+1) (κ:=κ1) (lh P f) jN.2 RD (by simp only[acU];exact⟨fo.1.1,rfl⟩) (qn _) (yc σ [] rfl) (fun rs K1 hr=>by obtain⟨rfl,rfl⟩:=hr;exact X9) (sK fo.2) (acN _) st2 hrel (fun _ _=>rfl)
 refine⟨w.heap.size+1,[mark w.heap.size],((w.alloc (.deferred (some []))).alloc (.loop { state:=.ready,pending:=none,fn:=fn,tmps:=a.tmps,params:=ps,assign:=as,body:=bd,defers:=w.heap.size })),⟨.fn (.func f) vs.toArray,#[.func (.yield (w.heap.size+1)) #[] #[]]⟩,((w.alloc (.deferred (some []))).alloc (.loop { state:=.ready,pending:=none,fn:=fn,tmps:=a.tmps,params:=ps,assign:=as,body:=bd,defers:=w.heap.size })),f,(Value.func (.yield (w.heap.size+1)) #[] #[]::vs).toArray,((w.alloc (.deferred (some []))).alloc (.loop { state:=.ready,pending:=none,fn:=fn,tmps:=a.tmps,params:=ps,assign:=as,body:=bd,defers:=w.heap.size })),run_enterLoop_outer fn a.tmps ps as bd,?_,fun _ _=>trivial,?_,(fun h=>by cases h),?_⟩
 ·have h0:(#[]++Array.map a.eval #[Operand.const (Value.func (Fn.yield (w.heap.size+1)) #[] #[])])=#[Value.func (Fn.yield (w.heap.size+1)) #[] #[]]:=by simp[Act.eval]
  simp only[resolve,rangeCall,hx,Deferred.ofValue,Sem.run_pure]
  rw[h0]
 ·have:(#[Value.func (.yield (w.heap.size+1)) #[] #[]]++vs.toArray)=(Value.func (.yield (w.heap.size+1)) #[] #[]::vs).toArray:=by simp
  simp only[invoke]
  rw[this]
  exact iC jN.1 _ _
 ·refine(gY.calls).2 (Calls.mono bE ?_)
  rintro e2 w2 ⟨v,rs,K2,G3,rfl,⟨rfl,rfl⟩,EJ,_⟩
  have Ax:∀i,nx+1+r.2.2<=i->aB κ1 (bW (sg σ (nx+1)) (j7 κ1 σ) r.2.1++kV κ1 (dt κ1 (dz (sg σ (nx+1)) dp (Ls κ1 σ (.eC nx::bO))) (.eC nx::bO)++dP κ1 (bW (sg σ (nx+1)) dp (V1 κ1 σ 0 σ)))) i=.none:=by
   refine pC RD (Nat.le_add_right _ _) fun p hp=>?_
   have HI:mo (σ.length+r.2.2) r.2.1=true:=by
    have:=X9
    simp only[ga,acU]at this
    exact this.1.1.2
   have hσ1:∀i,i∈σ->i<nx+1:=by
    have:=fo.1.1
    simp only[gM,acU]at this
    exact(jo this.1.1.1.1.1.1).1
   rcases acr.1 hp with hp|hp
   ·obtain⟨j,h1,h2⟩:=mM (i:=p.1) (b:=p.2) hp
    have hj:=cZ HI j h1
    rw[h2]
    rcases acD j σ.length with aw|gE
    ·have:=hσ1 _ (by rw[kg aw];exact acQ aw:sg σ (nx+1) j∈σ);omega
    ·rw[jL gE];omega
   ·have:=tR RD hp;omega
  unfold J4 at h
  simp only[iL]at h
  generalize hκ3:aB κ1 (bW (sg σ (nx+1)) (j7 κ1 σ) r.2.1++kV κ1 (dt κ1 (dz (sg σ (nx+1)) dp (Ls κ1 σ (.eC nx::bO))) (.eC nx::bO)++dP κ1 (bW (sg σ (nx+1)) dp (V1 κ1 σ 0 σ))))=κ3 at*
  have wH:G3.β nx=some (w.heap.size+1):=(EJ.eY nx (Nat.lt_succ_self nx)).trans (bD _ _ _)
  have fin:∀(G4:RC) (st:zJ) (l:List AV),κ3 nx=.c8 G4 st l->st.st≠.busy->st.zU=nC e->s'=⟨nx+1+r.2.2,ρ,RF κ3 nx .dead⟩->rangePost Fence.wide 0 P (w.heap.size+1) R { a with defers:=[mark w.heap.size]++a.defers } (.returned v) w2:=by
   intro G4 st l hk hb hp fH
   obtain⟨rr,h1,h2,h3,_,Og⟩:=EJ.uf hk wH
   have st4:=(Og (.loop { rr with state:=.exhausted })).Of (Nat.le_succ_of_le dF) BU
   have hs4:Sx g n s' { a with defers:=[mark w.heap.size]++a.defers } (w2.putObj (w.heap.size+1) (.loop { rr with state:=.exhausted })):=by
    subst fH
    exact⟨⟨G3,by simp only[rK];exact st4⟩,by show g.m<=nx+1+r.2.2;omega,fun i hi=>by
     have Hc:nx+1+r.2.2<=i:=hi
     simp only[rK];rw[ah _ _ (by omega)];exact Ax i Hc⟩
   have oO:=hR _ _ hs4
   refine⟨rr.pending,_,run_endLoop h1 (by rw[h2];exact hb),?_⟩
   have AS:rr.pending=nC e:=h3.trans hp
   rw[AS]at oO
   rw[AS]
   cases e with
   |normal=>exact oO
   |ret=>exact wpIn_ret oO
   |exit i=>exact wpIn_exit oO
  unfold AZ at h
  split at h
  ·rename_i G4 st l hk
   split at h
   ·injection h with h
    injection h with h1 h2
    exact fin G4 .ready l hk (by simp[zJ.st]) (by rw[<-h1];rfl) h2.symm
   ·rename_i e'
    injection h with h
    injection h with h1 h2
    exact fin G4 (.done e') l hk (by simp[zJ.st]) (by rw[<-h1];rfl) h2.symm
   ·cases h
  ·cases h
theorem LK(hT:fh P T)(hm:P.follows .mixedOrders=true)(eP:∀(g:Nat) (fn:Func),P.funcs[g]?=some fn->(fn.name== "runtime.NumGoroutine")=false)(pol:Nat->Bool)(f:Nat)(D2:LI P go):LI P (gT P T pol f go):=by
 intro r n c s e s' h F hF hr g a w R hs hR
 have JH:∀(ops:List Oper) (d:Bool),fQ P (fun _=>True) ops n (E0 T pol (OM P T go f d) ops n):=fun ops d=>OZ hT (fun g=>yj hT D2 eP f g) (LJ D2 f) (eS P)
 cases c with
 |skip=>
  simp only[gT]at h
  injection h with h;injection h with h1 h2;subst h1;subst h2
  exact wpIn_skip (hR a w hs)
 |region id ops draw=>
  simp only[gT]at h
  cases draw with
  |false=>
   simp only[cond_false,J2]at h
   obtain⟨s1,h1,h⟩:=ad h
   injection h with h;injection h with e1 e2;subst e1;subst e2
   refine wpIn_region_list ?_
   have:=yh (P:=P) (ops:=ops.toList) (g:=g) (Q:=R) (JH ops.toList false) trivial hF hR ops.toList s a w h1 hs
   simpa using this
  |true=>
   simp only[cond_true,E3]at h
   obtain⟨⟨s1,rs⟩,h1,h⟩:=ad h
   obtain⟨Cb,h⟩:=aA h
   injection h with h;injection h with e1 e2;subst e1;subst e2
   refine wpIn_region_any hm ?_
   obtain⟨hlen,oq,hn,he,hk,bN⟩:=vB (P:=P) (n:=n) (JH ops.toList true) (ρ0:=s.ρ) (κ0:=s.κ) (lo:=s.nx) ops.toList [] s [] rfl rfl (acN _) hs.2.2 rfl rfl (by simp) h1
   have xO:(fun i=>(Array.replicate ops.size false).getD i false)=fun _=>false:=by
    funext i
    simp only[acu,Array.getElem?_replicate]
    split<;>rfl
   have HA:St g n s.ρ s.κ a { w with drawn:=w.drawn+1 }:=by
    obtain⟨G,h1⟩:=hs.1
    exact⟨G,h1.drawn _⟩
   have:=AH (P:=P) (C:=fun _=>True) (ops:=ops.toList) (n:=n) (g:=g) (Q:=R) trivial hF hs.2.1 Cb hlen bN (fun a w ak=>hR a w ⟨by rw[he,hk];exact ak,Nat.le_trans hs.2.1 oq,hn⟩) ops.size (Array.replicate ops.size false) a { w with drawn:=w.drawn+1 } (by simp)
    (by have:=Ck (fun i=>(Array.replicate ops.size false).getD i false) ops.toList.length;simpa using this)
    (fun i o _ hi=>by rw[congrFun xO i]at hi;cases hi)
    (by rw[xO,pb,pb];exact HA)
   simpa using this
 |seq x y=>
  simp only[gT]at h
  obtain⟨⟨e1,s1⟩,h1,h⟩:=ad h
  refine wpIn_seq (D2 r n x s e1 s1 h1 F hF hr g a w _ hs fun a1 w1 j5=>?_)
  unfold Y9 at h
  cases e1 with
  |normal=>exact D2 r n y s1 e s' h F hF hr g a1 w1 _ j5 hR
  |ret=>simp only at h;injection h with h;injection h with q1 q2;subst q1;subst q2;exact hR a1 w1 j5
  |exit i=>simp only at h;injection h with h;injection h with q1 q2;subst q1;subst q2;exact hR a1 w1 j5
 |cond x y z=>
  simp only[gT]at h
  obtain⟨t,h1,h⟩:=ad h
  have ht:=jr (aP h1)
  obtain⟨G,ak⟩:=hs.1
  have hv:=Az (ρ:=s.ρ) (κ:=s.κ) (x:=x) s.ρ s.κ ⟨fun _ _=>rfl,fun _ _=>rfl⟩ g n a w G ak
  rw[ht]at hv
  generalize hx:a.eval x=v at hv
  cases hv with|dv hv=>cases hv with|bool=>
  refine wpIn_cond_split hx (fun et=>?_) (fun et=>?_)
  ·subst et;exact D2 r n y s e s' h F hF hr g a w _ hs hR
  ·subst et;exact D2 r n z s e s' h F hF hr g a w _ hs hR
 |block id c=>
  simp only[gT]at h
  obtain⟨⟨e1,s1⟩,h1,h⟩:=ad h
  refine wpIn_block (D2 r n c s e1 s1 h1 F hF hr g a w _ hs fun a1 w1 j5=>?_)
  unfold ON at h
  cases e1 with
  |normal=>simp only at h;injection h with h;injection h with q1 q2;subst q1;subst q2;exact hR a1 w1 j5
  |ret=>simp only at h;injection h with h;injection h with q1 q2;subst q1;subst q2;exact hR a1 w1 j5
  |exit i=>
   simp only at h
   simp only[tZ,Exit.inBlock]
   cases hb:Nat.beq i id with
   |true=>
    rw[hb]at h
    simp only[cond_true]at h
    injection h with h;injection h with q1 q2;subst q1;subst q2
    rw[if_pos (acm hb)];exact hR a1 w1 j5
   |false=>
    rw[hb]at h
    simp only[cond_false]at h
    injection h with h;injection h with q1 q2;subst q1;subst q2
    rw[if_neg (fun e=>by rw[e,Nat.beq_refl]at hb;cases hb)]
    exact hR a1 w1 j5
 |exit id=>
  simp only[gT]at h
  injection h with h;injection h with h1 h2;subst h1;subst h2
  exact wpIn_exit (hR a w hs)
 |ret=>
  simp only[gT]at h
  injection h with h;injection h with h1 h2;subst h1;subst h2
  exact wpIn_ret (hR a w hs)
 |scope c=>
  simp only[gT]at h
  refine xL (D2 r n c s e s' h F hF hr g a w _ hs fun a1 w1 j5=>?_)
  cases e with
  |normal=>exact hR a1 w1 j5
  |ret=>exact hR a1 w1 j5
  |exit i=>exact hR a1 w1 j5
 |label l=>
  simp only[gT]at h
  injection h with h;injection h with h1 h2;subst h1;subst h2
  exact wpIn_label (hR a w hs)
 |loop c=>
  simp only[gT]at h
  have key:∀(k:Nat) (s:XS) (a:Act) (w:World),J3 go r n c k s=.ok (e,s')->Sx g n s a w->Code.roundsIn F 0 P c R k a w:=by
   intro k
   induction k with
   |zero=>intro s a w h;cases h
   |succ k ih=>
    intro s a w h hs
    simp only[J3]at h
    obtain⟨⟨e1,s1⟩,h1,h⟩:=ad h
    refine D2 r n c s e1 s1 h1 F hF hr g a w _ hs fun a1 w1 j5=>?_
    cases e1 with
    |normal=>exact ih s1 a1 w1 h j5
    |ret=>simp only at h;injection h with h;injection h with q1 q2;subst q1;subst q2;exact hR a1 w1 j5
    |exit i=>simp only at h;injection h with h;injection h with q1 q2;subst q1;subst q2;exact hR a1 w1 j5
  exact wpIn_loop_rounds f (key f s a w h hs)
 |rangeFunc x ps as bd=>
  simp only[gT]at h
  have hh:=aA h;clear h;obtain⟨hrt,h⟩:=hh
  have hFw:=hr hrt
  subst hFw
  obtain⟨⟨G,ak⟩,dF,hn⟩:=hs
  have hv:=Az (ρ:=s.ρ) (κ:=s.κ) (x:=x) s.ρ s.κ ⟨fun _ _=>rfl,fun _ _=>rfl⟩ g n a w G ak
  unfold OO J5 at h
  generalize ev s.ρ s.κ x=vx at h hv
  generalize hx:a.eval x=y at hv
  split at h
  ·cases hv with|fn _ _ vs hl VC=>exact yk hT D2 eP h ak dF hn hx ⟨hl,VC⟩ hR
  ·split at h
   ·cases hv with|dv hd=>cases hd with|fn _ _ vs hl VC=>exact yk hT D2 eP h ak dF hn hx (jg ⟨hl,VC⟩) hR
   ·cases h
  ·cases h
 |goto l=>simp[gT]at h
 |refuse w=>simp[gT]at h
theorem Fb(hT:fh P T)(hm:P.follows .mixedOrders=true)(eP:∀(g:Nat) (fn:Func),P.funcs[g]?=some fn->(fn.name== "runtime.NumGoroutine")=false)(pol:Nat->Bool):∀f,LI P (OP P T pol f)
 |0=>by intro r n c s e s' h;cases h
 |f+1=>LK hT hm eP pol f (Fb hT hm eP pol f)
theorem LL(hT:fh P T)(hm:P.follows .mixedOrders=true)(eP:∀(g:Nat) (fn:Func),P.funcs[g]?=some fn->(fn.name== "runtime.NumGoroutine")=false){pol:Nat->Bool}{f g:Nat}{args:List AV}{m:Nat}{K:ae}{rs:List AV}{K':ae}{ex:Nat}(h:V6 P T pol f g args m K=.ok (rs,K',ex)):ao P g args m K ex rs K':=
 yj hT (Fb hT hm eP pol f) eP f g args m K (rs,K',ex) h
end
end
section
open Go.RowKit
variable [cn]
def xfz(r:XR (List AV×ae×Nat)):Option (List DV):=match r with
 |.ok q=>match uD (aa q.2.1) q.1 with
  |some p=>some p.1
  |none=>none
 |.no _=>none
section
variable {P:Program} {T:List TI}
theorem Fc{G:Gh}{ds:List DV}{vs:List Value}(h:fG G.M ds vs):cd G (yl ds) vs:=by
 refine⟨by rw[wT];simpa using h.1,fun j d v hd hv=>?_⟩
 rw[wT,acj]at hd
 cases hj:ds[j]? with
 |none=>rw[hj]at hd;cases hd
 |some x=>
  rw[hj]at hd
  simp only[Option.map_some,Option.some.injEq]at hd
  subst hd
  exact qi (h.2 j x v hj hv)
theorem qo(hT:fh P T)(hm:P.follows .mixedOrders=true)(eP:∀(g:Nat) (fn:Func),P.funcs[g]?=some fn->(fn.name== "runtime.NumGoroutine")=false){pol:Nat->Bool}{fuel f:Nat}{args rs:List DV}(h:xfz (V6 P T pol fuel f (yl args) 0 [])=some rs):aQ P f args rs:=by
 cases hx:V6 P T pol fuel f (yl args) 0 []with
 |no y=>rw[hx]at h;simp[xfz]at h
 |ok r=>
  obtain⟨rs0,K',ex⟩:=r
  rw[hx]at h
  simp only[xfz]at h
  split at h
  ·rename_i p hp
   obtain⟨ds,ids⟩:=p
   injection h with h
   subst h
   have hc:=LL hT hm eP hx
   obtain⟨jG,jN⟩:=hc
   refine⟨jG,fun w M vs dh nt hr=>?_⟩
   let G0:Gh:=⟨M,fun _=>none,fun _ _ _ _=>none,fun _ _=>False⟩
   have hc:=jN w G0 vs nt ⟨dh,fun i=>⟨rfl,fun _ _ _=>rfl⟩,fun i b ho=>ho.elim,fun i j b ho=>ho.elim⟩ (Fc (G:=G0) hr)
   refine hc.mono ?_
   rintro e w' ⟨v,rs1,K1,G',rfl,⟨rfl,rfl⟩,out⟩
   have dR:∀i b,cA G' i (aa K1 i) b->w.heap.size<=b:=fun i b ho=>by
    rcases out.EI i b ho with h|⟨j,h⟩
    ·exact h
    ·exact h.elim
   let g:dW:=⟨fun b=>∃i,cA G' i (aa K1 i) b,w',G'.M,0,fun _=>none,fun _ _=>none⟩
   have ak:cx g 0 (fun _=>.any) (aa K1) { tmps:=#[],defers:=[] } w' G':=by
    refine { fit:=out.fit,env:=fun t=>.any _,size:=rfl,zK:=fun _ _ _=>rfl,os:=rfl,tape:=rfl,output:=rfl,grow:=acN _,mem:=.refl _,nD:=fun _ _ _=>rfl,gD:=fun i b ho=>.inr ⟨i,ho⟩,eY:=fun i hi=>absurd hi (Nat.not_lt_zero _),wh:=fun i hi=>absurd hi (Nat.not_lt_zero _),oU:=nt.mono out.le,tK:=⟨[],rfl,List.nodup_nil,by simp⟩ }
   obtain⟨G2,hle,_,_,_,lL⟩:=ak.qd (κ:=aa K1) ids (fun _ _=>rfl)
   refine⟨v,G2.M,rfl,⟨out.os,out.tape,out.output,out.size,fun b hb=>(out.frame b hb (fun i h=>h.elim)).1⟩,out.le.trans hle.mem,lL.fit.sub,fun b hb=>?_,?_⟩
   ·have ck:b<w'.heap.size:=Nat.lt_of_lt_of_le hb out.size
    have e1:G2.M b=G'.M b:=lL.nD b ck fun⟨i,ho⟩=>by have:=dR i b ho;omega
    rw[e1]
    exact(out.frame b hb (fun i h=>h.elim)).2
   ·have key:∀us,cd G' rs1 us->fG G2.M ds us:=fun us hu=>km (κ:=aa K1) (κ':=aa K1) (all:=ids) (fun _ _=>rfl) hle lL.fit hp (fun _ h=>h) hu
    have hv:=out.res
    match rs1,hv,key with
    |[],hv,key=>
     cases hv with|fY _ us hl hr=>
     have hd:=key us ⟨hl,hr⟩
     have:us=[]:=by simpa using hl.symm
     subst this
     have:ds=[]:=by have:=hd.1;simpa using this
     subst this
     exact⟨[],rfl,hd⟩
    |[x],hv,key=>
     have hd:=key [v] ⟨rfl,fun j d u h1 h2=>by
      cases j with
      |zero=>simp at h1 h2;subst h1;subst h2;exact hv
      |succ j=>simp at h1⟩
     match ds,hd with
     |[],hd=>have:=hd.1;simp at this
     |[d],hd=>exact hd.2 0 d v rfl rfl
     |_::_::_,hd=>have:=hd.1;simp at this
    |x::y::r,hv,key=>
     cases hv with|fY _ us hl hr=>
     have hd:=key us ⟨hl,hr⟩
     have h2:ds.length=us.length:=hd.1
     match ds,hd,h2 with
     |[],hd,h2=>exfalso;rw[<-h2]at hl;simp at hl
     |[d],hd,h2=>exfalso;rw[<-h2]at hl;simp at hl
     |a::b::c,hd,h2=>exact⟨us,rfl,hd⟩
  ·cases h
end
end
section
open Go.RowKit
variable [cn]
end
section
open Go.RowKit
variable [cn]
inductive Fe:au->au->Prop
 |refl (b:au):Fe b b
 |omap (v e:Nat) (ks:KS) {m m':List DV} (h:m.Perm m'):Fe (.tree v e (.omap ks m)) (.tree v e (.omap ks m'))
def A7(k k':ae):Prop:=∀i,Fe (aa k i) (aa k' i)
theorem A7.refl(k:ae):A7 k k:=fun _=>.refl _
theorem A7.cons{i:Nat}{b b':au}{k k':ae}(h:Fe b b')(t:A7 k k'):A7 ((i,b)::k) ((i,b')::k'):=fun j=>by
 simp only[aa]
 cases Nat.beq i j with
 |true=>exact h
 |false=>exact t j
theorem A8{ks:KS}{m m':List DV}(hu:UK m)(hp:m.Perm m')(s:PS)(r:List PS):get (.omap ks m) (s::r)=get (.omap ks m') (s::r):=by
 have hs:step (.omap ks m) s=step (.omap ks m') s:=by
  cases s with
  |el i j=>rfl
  |key k j=>simp only[step,hu.mD hp k]
 simp only[get,hs]
theorem uE{ks:KS}{m m':List DV}(hu:UK m)(hp:m.Perm m'){p:List PS}{n:DV}(h:get (.omap ks m) p=some n)(hn:n.ar=true):∃n',get (.omap ks m') p=some n'/\n'.ar=true:=by
 cases p with
 |nil=>exact⟨_,rfl,rfl⟩
 |cons s r=>exact⟨n,by rw[<-A8 hu hp];exact h,hn⟩
theorem bB.Ka{M:Mem}{w:World}{H:List PS->Option Value}{ks:KS}{m m':List DV}(h:bB M w H (.omap ks m))(hp:m.Perm m'):UK m/\bB M w H (.omap ks m'):=by
 obtain⟨v,h1,h2,h3⟩:=h.2 [] _ rfl rfl
 have hu:=cG.uk h3
 refine⟨hu,rfl,fun p n hg hn=>?_⟩
 cases p with
 |nil=>
  have hg:DV.omap ks m'=n:=by simpa[get]using hg
  subst hg
  obtain⟨m0,q,rest⟩:=h3
  exact⟨v,h1,h2,m0,q.trans hp,rest⟩
 |cons s r=>
  rw[<-A8 hu hp]at hg
  exact h.2 _ n hg hn
theorem bK.Ka{H:List PS->Option Value}{ks:KS}{m m':List DV}(hu:UK m)(hp:m.Perm m'){b:Nat}(h:bK H (.omap ks m) b):bK H (.omap ks m') b:=by
 obtain⟨p,n,v,h1,h2,h3,h4⟩:=h
 obtain⟨n',e1,e2⟩:=uE hu hp h1 h2
 exact⟨p,n',v,e1,e2,h3,h4⟩
theorem fK.Zh{G:Gh}{w:World}{i:Nat}{b c:au}(h:fK G w i b)(p:Fe b c):fK G w i c/\∀x,cA G i c x↔cA G i b x:=by
 cases p with
 |refl=>exact⟨h,fun _=>Iff.rfl⟩
 |omap v e ks hp=>
  obtain⟨h1,h2,h3,h4⟩:=h
  obtain⟨hu,ht⟩:=h1.Ka hp
  have Yv:=hu.perm hp
  refine⟨⟨ht,fun p q n m u v b e1 e2 e3 e4 e5 e6 e7 e8=>?_,h3,h4⟩,fun x=>⟨fun o=>bK.Ka Yv hp.symm o,fun o=>bK.Ka hu hp o⟩⟩
  obtain⟨n',a1,a2⟩:=uE Yv hp.symm e1 e2
  obtain⟨m',b1,b2⟩:=uE Yv hp.symm e5 e6
  exact h2 p q n' m' u v b a1 a2 e3 e4 b1 b2 e7 e8
theorem rN{P:Program}{f:Nat}{args:List AV}{m:Nat}{K:ae}{ex:Nat}{rs:List AV}{K0:ae}(h:bU P f args m K ex fun r k=>r=rs/\A7 k K0):ao P f args m K ex rs K0:=by
 refine⟨h.1,fun w G vs nt cP hr=>?_⟩
 refine Calls.mono (h.2 w G vs nt cP hr) ?_
 rintro e w' ⟨v,r,k,G',rfl,⟨rfl,hp⟩,hc⟩
 have hb:=fun i=>(hc.fit.box i).Zh (hp i)
 refine⟨v,r,K0,G',rfl,⟨rfl,rfl⟩,{ hc with fit:=⟨hc.fit.sub,fun i=>(hb i).1,fun i b o=>hc.fit.own i b (((hb i).2 b).1 o),fun i j b o o'=>hc.fit.inj i j b (((hb i).2 b).1 o) (((hb j).2 b).1 o')⟩,no:=fun i hi=>?_,EI:=fun i b o=>hc.EI i b (((hb i).2 b).1 o) }⟩
 have h1:=hc.no i hi
 have h2:=hp i
 rw[h1]at h2
 generalize aa K0 i=c at h2
 cases h2
 rfl
end
section
open Go.RowKit
theorem oA.gG{a p:Prop}(h:p):(a->a)/\p:=⟨id,h⟩
theorem oB.gG{b:Bool}{a p:Prop}(h:p):(a->b=false->bw b false=true)/\p:=⟨fun _ e=>by subst e;rfl,h⟩
theorem oC.gG{b:Bool}{a p:Prop}(h:p):(a->b=true->bw b true=true)/\p:=⟨fun _ e=>by subst e;rfl,h⟩
theorem oD.gG{a b:Bool}{p:Prop}(h:p):(a=true->a=true/\(b=true->(a&&bw b true)=true))/\p:=⟨fun c=>⟨c,fun e=>by subst c;subst e;rfl⟩,h⟩
theorem oE.gG{a b:Bool}{p:Prop}(h:p):(a=true->a=true/\(b=false->(a&&bw b false)=true))/\p:=⟨fun c=>⟨c,fun e=>by subst c;subst e;rfl⟩,h⟩
variable [cn]
mutual
theorem Kb{m:Nat}{κ κ':Nat->au}:∀(v w:AV),j6 m κ v=w->fC m κ κ' w v
 |.any,_,rfl=>trivial
 |.dv d,_,rfl=>DV.Le.refl d
 |.ptr i o,_,rfl=>rfl
 |.own i v e p,w,h=>by
  simp only[j6]at h
  split at h
  ·rename_i v' e' d hk
   cases hb:Nat.beq v v'&&(emp p||Nat.beq e e')with
   |true=>rw[hb]at h;subst h;show j6 m κ (.own i v e p)=_;simp only[j6,hk,hb];rfl
   |false=>rw[hb]at h;subst h;exact trivial
  ·rename_i hk
   cases hb:Nat.beq v 0&&(emp p||Nat.beq e 0)with
   |true=>rw[hb]at h;subst h;show j6 m κ (.own i v e p)=_;simp only[j6,hk,hb];rfl
   |false=>rw[hb]at h;subst h;exact trivial
  ·subst h;exact trivial
 |.loc i v e p a b c,w,h=>by
  have h2:=h
  simp only[j6]at h
  split at h
  ·rename_i v' e' d hk
   cases hb:Nat.beq v v'&&(emp p||Nat.beq e e')with
   |true=>rw[hb]at h;subst h;exact h2
   |false=>rw[hb]at h;subst h;exact trivial
  ·subst h;exact trivial
 |.pre i v e p a b c,w,h=>by
  have h2:=h
  simp only[j6]at h
  split at h
  ·rename_i v' e' d hk
   cases hb:Nat.beq v v'&&(emp p||Nat.beq e e')with
   |true=>rw[hb]at h;subst h;exact h2
   |false=>rw[hb]at h;subst h;exact trivial
  ·subst h;exact trivial
 |.fn f l,_,rfl=>⟨rfl,gI l _ rfl⟩
 |.kj f l,_,rfl=>⟨rfl,gI l _ rfl⟩
 |.agg l,_,rfl=>gI l _ rfl
 |.fY l,_,rfl=>gI l _ rfl
 |.opt _ _,_,rfl=>trivial
 |.eC _,_,rfl=>rfl
 |.sle _ _,_,rfl=>rfl
 |.ct i v,w,h=>by
  have h2:=h
  simp only[j6]at h
  split at h
  ·rename_i v' e' d hk
   cases hb:Nat.beq v v' with
   |true=>rw[hb]at h;subst h;exact h2
   |false=>rw[hb]at h;subst h;exact trivial
  ·subst h;exact trivial
theorem gI{m:Nat}{κ κ':Nat->au}:∀(l r:List AV),ln m κ l=r->dX m κ κ' r l
 |[],_,rfl=>trivial
 |v::l,_,rfl=>⟨Kb v _ rfl,gI l _ rfl⟩
end
def Wg(m:Nat)(κ:Nat->au)(ρ:Nat->AV):Env->Env
 |[]=>[]
 |p::r=>(p.1,j6 m κ (ρ p.1))::Wg m κ ρ r
def Zi(m i:Nat)(κ:Nat->au):au->au
 |.cells l=>.cells (ln m κ l)
 |.tree V E d=>.tree (jm m i V E).1 (jm m i V E).2 d
 |.fz V d=>.fz (jm m i V 0).1 d
 |.c8 rc st l=>.c8 rc st (ln m κ l)
 |.dead=>.dead
 |.held=>.held
 |_=>.none
def LM(m:Nat)(κ:Nat->au):ae->ae
 |[]=>[]
 |p::r=>(p.1,Zi m p.1 κ (κ p.1))::LM m κ r
theorem Kc{m:Nat}{κ κ':Nat->au}{ρ:Nat->AV}:∀{e e':Env},Wg m κ ρ e=e'->NM m ρ κ κ' e'
 |[],_,rfl=>trivial
 |(t,v)::r,_,rfl=>⟨Kb _ _ rfl,Kc (e:=r) rfl⟩
theorem nX{m i:Nat}{κ κ':Nat->au}{b b':au}(h:Zi m i κ b=b'):oK m κ κ' i b b':=by
 subst h
 cases b with
 |cells l=>exact gI l _ rfl
 |tree V E d=>exact⟨rfl,rfl⟩
 |fz V d=>exact⟨rfl,DV.Le.refl d⟩
 |c8 rc st l=>exact⟨rfl,rfl,gI l _ rfl⟩
 |_=>exact trivial
theorem aX{m:Nat}{κ κ':Nat->au}:∀{k k':ae},LM m κ k=k'->oL m κ κ' k'
 |[],_,rfl=>trivial
 |(i,b)::r,_,rfl=>⟨nX rfl,aX (k:=r) rfl⟩
theorem jn{m:Nat}{env:Env}{K:ae}{s:cK}(h1:Wg m (aa K) (look env) s.env=s.env)(h2:LM m (aa K) s.K=s.K)(h3:zY (aa s.K) (AK (look env) (aa K) s.env++dP (aa K) s.K)=true)(h4:vo (aa K) (aa s.K) m=true):cK.sub m env K s:=
 ⟨Kc h1,aX h2,h3,h4⟩
theorem ext{m ex:Nat}{κ:Nat->au}{jJ rs:List AV}{K':ae}(h0:pe m ex κ jJ rs K'=true)(h1:ln m κ jJ=rs)(h2:LM m κ K'=K'):∃vl Zj,(vl=rs/\Zj=K')/\pe m ex κ jJ vl Zj=true/\dX m κ (aa Zj) vl jJ/\oL m κ (aa Zj) Zj:=
 ⟨rs,K',⟨rfl,rfl⟩,h0,gI _ _ h1,aX h2⟩
theorem cl{P:Program}{f:Nat}{n nx:Nat}{o:Oper}{g:Bool}{κ:Nat->au}{k:lN->Nat->Prop}{args bQ:List AV}{K0:ae}{ex:Nat}{rs:List AV}{K1:ae}(σ:List Nat)(hs:ao P f bQ σ.length K0 ex rs K1)
 (h0:(gM κ σ nx args bQ K0&&ga σ ex K0 K1 rs)=true) (h1:ln 0 κ args=dz (sg σ nx) dp bQ) (h2:LM 0 κ (bW (sg σ nx) dp K0)=bW (sg σ nx) dp K0)
 (h:o9 (mC (sg σ nx) (j7 κ σ) (qI rs)) fun v=>qQ v fun v=>o8 (bW (sg σ nx) (j7 κ σ) K1++kV κ (dt κ (dz (sg σ nx) dp bQ) args++dP κ (bW (sg σ nx) dp K0))) fun bx=>xK bx fun bx=>
  yd n o g (nx+ex) k v bx (σ++(dt κ (dz (sg σ nx) dp bQ) args++dP κ (bW (sg σ nx) dp K0))++k8 nx ex)):jZ none (bU P f) n o g nx κ k args:=by
 simp only[acU]at h0
 exact⟨σ,bQ,K0,ex,rs,K1,hs,by rw[h0.1];rfl,h0.2,gI _ _ h1,aX h2,h⟩
end
section
open Go.RowKit
variable [cn]
end
section
open Go.RowKit
variable [cn]
section
variable {g:dW} {n:Nat} {ρ:Nat->AV} {κ κ':Nat->au} {a:Act} {w w':World} {G:Gh}
end
end
section
open Go.RowKit
variable [cn]
end
section
open Go.RowKit
variable [cn]
inductive iZ(i v e:Nat):List AV->List AV->Prop
 |nil:iZ i v e [] []
 |same (x:AV) {l l':List AV} (h:iZ i v e l l'):iZ i v e (x::l) (x::l')
 |si {l l':List AV} (h:iZ i v e l l'):iZ i v e (.own i 0 0 []::l) (.own i v e []::l')
inductive Sz(i v e:Nat):au->au->Prop
 |refl (b:au):Sz i v e b b
 |cells {l l':List AV} (h:iZ i v e l l'):Sz i v e (.cells l) (.cells l')
def aa8(i v e:Nat)(k k':ae):Prop:=∃d,aa k i=.tree 0 0 d/\aa k' i=.tree v e d/\∀j,j≠i->Sz i v e (aa k j) (aa k' j)
theorem iZ.refl(i v e:Nat):∀l,iZ i v e l l
 |[]=>.nil
 |x::l=>.same x (iZ.refl i v e l)
theorem iZ.len{i v e:Nat}{l l':List AV}(h:iZ i v e l l'):l.length=l'.length:=by
 induction h with
 |nil=>rfl
 |same x _ ih=>simp[ih]
 |si _ ih=>simp[ih]
theorem iZ.aj{i v e:Nat}{l l':List AV}(h:iZ i v e l l')(hc:∀v,v∈l->v.aj=true):∀v,v∈l'->v.aj=true:=by
 induction h with
 |nil=>exact hc
 |same x _ ih=>
  intro y hy
  rcases acp.1 hy with rfl|hy
  ·exact hc _ acv
  ·exact ih (fun z hz=>hc z (acq _ hz)) y hy
 |si _ ih=>
  intro y hy
  rcases acp.1 hy with rfl|hy
  ·rfl
  ·exact ih (fun z hz=>hc z (acq _ hz)) y hy
theorem iZ.at{i v e:Nat}{l l':List AV}(h:iZ i v e l l'):∀(j:Nat) (d:AV),l'[j]?=some d->l[j]?=some d\/(l[j]?=some (.own i 0 0 [])/\d=.own i v e []):=by
 induction h with
 |nil=>intro j d hd;simp at hd
 |same x _ ih=>
  intro j d hd
  cases j with
  |zero=>exact .inl hd
  |succ j=>simp only[List.getElem?_cons_succ]at hd⊢;exact ih j d hd
 |si _ ih=>
  intro j d hd
  cases j with
  |zero=>simp at hd;exact .inr ⟨rfl,hd.symm⟩
  |succ j=>simp only[List.getElem?_cons_succ]at hd⊢;exact ih j d hd
def Ff(H:Nat->Nat->Nat->List PS->Option Value)(i v e:Nat):Nat->Nat->Nat->List PS->Option Value:=
 fun j v' e' p=>if j=i/\v'=v/\e'=e then H i 0 0 p else H j v' e' p
def jO(G:Gh)(i v e:Nat):Gh:={ G with H:=Ff G.H i v e }
theorem H6(H:Nat->Nat->Nat->List PS->Option Value)(i v e j v' e':Nat)(hn:j≠i):aJ (Ff H i v e) j v' e'=aJ H j v' e':=by
 funext p
 cases p with
 |nil=>show(if _ then _ else _)=_;rw[if_neg (fun h=>hn h.1)];rfl
 |cons s p=>show(if _ then _ else _)=_;rw[if_neg (fun h=>hn h.1)];rfl
theorem LN(H:Nat->Nat->Nat->List PS->Option Value)(i v e j:Nat)(O1:(v=0/\e=1)\/(v=1/\e=0)):aJ (Ff H i v e) j 0 0=aJ H j 0 0:=by
 funext p
 cases p with
 |nil=>show(if _ then _ else _)=_;rw[if_neg (fun h=>by omega)];rfl
 |cons s p=>show(if _ then _ else _)=_;rw[if_neg (fun h=>by omega)];rfl
theorem A9(H:Nat->Nat->Nat->List PS->Option Value)(i v e:Nat)(O1:(v=0/\e=1)\/(v=1/\e=0)):aJ (Ff H i v e) i v e=aJ H i 0 0:=by
 funext p
 cases p with
 |nil=>
  show(if i=i/\v=v/\0=e then H i 0 0 []else H i v 0 [])=H i 0 0 []
  rcases O1 with⟨rfl,rfl⟩|⟨rfl,rfl⟩
  ·rw[if_neg (by omega)]
  ·rw[if_pos ⟨rfl,rfl,rfl⟩]
 |cons s p=>show(if i=i/\v=v/\e=e then _ else _)=_;rw[if_pos ⟨rfl,rfl,rfl⟩];rfl
theorem SA{G:Gh}{i v e:Nat}(O1:(v=0/\e=1)\/(v=1/\e=0))(h1:∀v,0<v->∀e p,G.H i v e p=none)(h2:∀e,0<e->∀p,G.H i 0 e p=none):Gh.Le G (jO G i v e):=by
 refine⟨Mem.Le.refl _,fun _ _ h=>h,fun j v' e' p x hx=>?_⟩
 show(if j=i/\v'=v/\e'=e then _ else _)=_
 rw[if_neg]
 ·exact hx
 ·rintro⟨rfl,rfl,rfl⟩
  rcases O1 with⟨rfl,rfl⟩|⟨rfl,rfl⟩
  ·rw[h2 1 (by omega)]at hx;cases hx
  ·rw[h1 1 (by omega)]at hx;cases hx
theorem O2{G:Gh}{w:World}{i v e j:Nat}{b b':au}(O1:(v=0/\e=1)\/(v=1/\e=0))(hle:Gh.Le G (jO G i v e))(hj:j≠i)(hb:fK G w j b)(hr:Sz i v e b b'):
 fK (jO G i v e) w j b'/\∀x,cA (jO G i v e) j b' x↔cA G j b x:=by
 have dR:∀v' e' p,(jO G i v e).H j v' e' p=G.H j v' e' p:=fun v' e' p=>by
  show(if _ then _ else _)=_;rw[if_neg (fun h=>hj h.1)]
 have hh:∀v' e',aJ (jO G i v e).H j v' e'=aJ G.H j v' e':=fun v' e'=>H6 G.H i v e j v' e' hj
 cases hr with
 |cells h=>
  obtain⟨b,c,t,h1,h2,h3,h4,h5⟩:=hb
  refine⟨⟨b,c,t,h1,h2,by rw[h3];exact h.len,h.aj h4,fun q d u hd hu=>?_⟩,fun x=>Iff.rfl⟩
  rcases h.at q d hd with h6|⟨h6,rfl⟩
  ·exact(h5 q d u h6 hu).mono hle
  ·have h7:=h5 q _ u h6 hu
   cases h7 with
   |own _ _ _ _ _ h8 h9=>
    refine .own _ _ _ _ _ ?_ h9
    show aJ (Ff G.H i v e) i v e []=_
    rw[A9 _ _ _ _ O1];exact h8
 |refl=>
  cases b with
  |none=>exact⟨⟨hb.1,fun v' e' p=>by rw[dR];exact hb.2 v' e' p⟩,fun x=>Iff.rfl⟩
  |dead=>exact⟨tv,fun x=>Iff.rfl⟩
  |cells l=>
   obtain⟨b,c,t,h1,h2,h3,h4,h5⟩:=hb
   exact⟨⟨b,c,t,h1,h2,h3,h4,fun q d u hd hu=>(h5 q d u hd hu).mono hle⟩,fun x=>Iff.rfl⟩
  |tree ver ep d=>
   obtain⟨h1,h2,h3,h4⟩:=hb
   refine⟨⟨by rw[hh];exact h1,by rw[hh];exact h2,fun v' hv e' p=>by rw[dR];exact h3 v' hv e' p,fun e' he p=>by rw[dR];exact h4 e' he p⟩,fun x=>?_⟩
   show bK (aJ (jO G i v e).H j ver ep) d x↔bK (aJ G.H j ver ep) d x
   rw[hh]
  |fz ver d=>
   obtain⟨u,h1,h2,h3⟩:=hb
   exact⟨⟨u,by rw[dR];exact h1,h2,h3⟩,fun x=>Iff.rfl⟩
  |c8 rc st l=>
   obtain⟨b,fn,tmps,D,h1,h2,h3⟩:=hb
   exact⟨⟨b,fn,tmps,D,h1,h2,h3.mono hle⟩,fun x=>Iff.rfl⟩
  |held=>exact⟨⟨fun v' hv e' p=>by rw[dR];exact hb.1 v' hv e' p,fun e' he p=>by rw[dR];exact hb.2 e' he p⟩,fun x=>Iff.rfl⟩
  |kR k p d left cur=>
   have h0:aJ (jO G i v e).H k 0 0=aJ G.H k 0 0:=LN G.H i v e k O1
   obtain⟨r,mb,es,clock,seen,ks,m,hi⟩:=hb
   refine⟨⟨r,mb,es,clock,seen,ks,m,⟨hi.eY,hi.it,by rw[h0];exact hi.tree,by rw[h0];exact hi.inj,hi.node,by rw[h0];exact hi.head,hi.map,hi.left,hi.cur⟩⟩,fun x=>?_⟩
   show(bK (aJ (jO G i v e).H k 0 0) d x\/_)↔_
   rw[h0];exact Iff.rfl
end
section
open Go.RowKit
variable [cn]
end
section
open Go.RowKit
variable [cn]
def CL:List AV->Bool
 |[]=>true
 |.dv _::r=>CL r
 |_=>false
theorem Ba:∀{l:List AV},CL l=true->∀(j:Nat) (d:AV),l[j]?=some d->∃x,d=.dv x
 |.dv x::r,h,0,d,hd=>by simp at hd;exact⟨x,hd.symm⟩
 |.dv x::r,h,j+1,d,hd=>Ba (l:=r) h j d (by simpa using hd)
def ym:List AV->Bool
 |[]=>true
 |.dv _::r=>ym r
 |.ptr _ _::r=>ym r
 |_::_=>false
theorem uF:∀{l:List AV},ym l=true->∀(j:Nat) (d:AV),l[j]?=some d->(∃x,d=.dv x)\/∃i o,d=.ptr i o
 |.dv x::r,h,0,d,hd=>by simp at hd;exact .inl ⟨x,hd.symm⟩
 |.dv x::r,h,j+1,d,hd=>uF (l:=r) h j d (by simpa using hd)
 |.ptr i o::r,h,0,d,hd=>by simp at hd;exact .inr ⟨i,o,hd.symm⟩
 |.ptr i o::r,h,j+1,d,hd=>uF (l:=r) h j d (by simpa using hd)
def Bb(i:Nat):AV->Bool
 |.any=>true
 |.dv _=>true
 |.agg l=>CL l
 |.ptr _ _=>true
 |.eC _=>true
 |.fn _ l=>ym l
 |.own j _ _ _=>!Nat.beq j i
 |_=>false
def yn(i:Nat):List AV->Bool
 |[]=>true
 |v::r=>Bb i v&&yn i r
def Wh(i:Nat):au->Bool
 |.none=>true
 |.dead=>true
 |.cells l=>yn i l
 |.tree _ _ _=>true
 |.c8 _ _ l=>yn i l
 |_=>false
theorem rO{i:Nat}:∀{l:List AV},yn i l=true->∀v,v∈l->Bb i v=true
 |x::r,h,v,hv=>by
  simp only[yn,acU]at h
  rcases acp.1 hv with rfl|hv
  ·exact h.1
  ·exact rO h.2 v hv
abbrev vC:=Nat->Nat->List PS->Option Value
def gJ(G:Gh)(i:Nat)(Hi:vC):Gh:={ G with H:=fun j=>if j=i then Hi else G.H j }
theorem hZ{G:Gh}{i j:Nat}{Hi:vC}(h:j≠i):(gJ G i Hi).H j=G.H j:=by
 show(if j=i then Hi else G.H j)=_;rw[if_neg h]
theorem js{G:Gh}{i:Nat}{Hi:vC}:(gJ G i Hi).H i=Hi:=by
 show(if i=i then Hi else G.H i)=_;rw[if_pos rfl]
theorem qp{G:Gh}{i j:Nat}{Hi:vC}(h:j≠i)(v e:Nat):aJ (gJ G i Hi).H j v e=aJ G.H j v e:=by
 funext p
 cases p with
 |nil=>show(gJ G i Hi).H j v 0 []=_;rw[hZ h];rfl
 |cons s p=>show(gJ G i Hi).H j v e (s::p)=_;rw[hZ h];rfl
theorem yp{G:Gh}{i:Nat}{Hi:vC}{a:AV}{x:Value}(ha:Bb i a=true)(h:aG G a x):aG (gJ G i Hi) a x:=by
 cases h with
 |dv hd=>exact .dv hd
 |agg l vs hl hr=>
  refine .agg l vs hl fun j d v hd hv=>?_
  obtain⟨x,rfl⟩:=Ba (show CL l=true from ha) j d hd
  cases hr j _ v hd hv with|dv h=>exact .dv h
 |any=>exact .any _
 |eC j l h=>exact .eC j l h
 |fn f l vs hl hr=>
  refine .fn f l vs hl fun j d v hd hv=>?_
  rcases uF (show ym l=true from ha) j d hd with⟨x,rfl⟩|⟨q,o,rfl⟩
  ·cases hr j _ v hd hv with|dv h=>exact .dv h
  ·cases hr j _ v hd hv with|ptr _ _ b hb=>exact .ptr _ _ b hb
 |ptr j off b hb=>exact .ptr j off b hb
 |own j ver ep p _ hv hc=>
  have hj:j≠i:=by
   rintro rfl
   simp only[Bb,acW]at ha
   have:Nat.beq j j=true:=Nat.beq_refl j
   rw[this]at ha;cases ha
  exact .own j ver ep p _ (by rw[qp hj];exact hv) hc
 |_=>cases ha
theorem SB{G:Gh}{w:World}{i j:Nat}{Hi:vC}{b:au}(hj:j≠i)(hb:Wh i b=true)(h:fK G w j b):fK (gJ G i Hi) w j b:=by
 cases b with
 |none=>exact⟨h.1,fun v e p=>by rw[hZ hj];exact h.2 v e p⟩
 |dead=>trivial
 |cells l=>
  obtain⟨b,c,t,h1,h2,h3,h4,h5⟩:=h
  exact⟨b,c,t,h1,h2,h3,h4,fun q d u hd hu=>yp (rO hb d (ack hd)) (h5 q d u hd hu)⟩
 |tree ver ep d=>
  obtain⟨h1,h2,h3,h4⟩:=h
  exact⟨by rw[qp hj];exact h1,by rw[qp hj];exact h2,fun v hv e p=>by rw[hZ hj];exact h3 v hv e p,fun e he p=>by rw[hZ hj];exact h4 e he p⟩
 |c8 rc st l=>
  obtain⟨b,fn,tmps,D,h1,h2,h3⟩:=h
  exact⟨b,fn,tmps,D,h1,h2,h3.1,fun q d u hd hu=>yp (rO hb d (ack hd)) (h3.2 q d u hd hu)⟩
 |_=>cases hb
theorem SC{G:Gh}{i j:Nat}{Hi:vC}{b:au}(hj:j≠i)(hb:Wh i b=true)(x:Nat):cA (gJ G i Hi) j b x↔cA G j b x:=by
 cases b with
 |none=>exact Iff.rfl
 |dead=>exact Iff.rfl
 |cells l=>exact Iff.rfl
 |tree ver ep d=>show bK (aJ (gJ G i Hi).H j ver ep) d x↔bK (aJ G.H j ver ep) d x;rw[qp hj]
 |c8 rc st l=>exact Iff.rfl
 |_=>cases hb
end
section
open Go.RowKit
variable [cn]
inductive oz(m:Nat):List AV->List AV->Prop
 |nil:oz m [] []
 |same (x:AV) (hx:Bb m x=true) {l l':List AV} (h:oz m l l'):oz m (x::l) (x::l')
 |born {l l':List AV} (h:oz m l l'):oz m (.own m 0 0 []::l) (.dv .ay::l')
theorem oz.len{m:Nat}{l l':List AV}(h:oz m l l'):l.length=l'.length:=by
 induction h with
 |nil=>rfl
 |same x _ _ ih=>simp[ih]
 |born _ ih=>simp[ih]
theorem oz.at{m:Nat}{l l':List AV}(h:oz m l l'):∀(j:Nat) (d:AV),l[j]?=some d->(l'[j]?=some d/\Bb m d=true)\/(l'[j]?=some (.dv .ay)/\d=.own m 0 0 []):=by
 induction h with
 |nil=>intro j d hd;simp at hd
 |same x hx _ ih=>
  intro j d hd
  cases j with
  |zero=>simp at hd;subst hd;exact .inl ⟨rfl,hx⟩
  |succ j=>simp only[List.getElem?_cons_succ]at hd⊢;exact ih j d hd
 |born _ ih=>
  intro j d hd
  cases j with
  |zero=>simp at hd;exact .inr ⟨rfl,hd.symm⟩
  |succ j=>simp only[List.getElem?_cons_succ]at hd⊢;exact ih j d hd
def Zk(m:Nat)(b b':au):Prop:=(b'=b/\Wh m b=true)\/∃l l',b=.cells l/\b'=.cells l'/\oz m l l'
def iM:vC:=fun ve ep p=>if ve=0/\ep=0/\p=[]then some (.slice none 0 0)else none
theorem Fg{G:Gh}{m:Nat}{l l':List AV}{vs:List Value}(h:oz m l l')(hl:l'.length=vs.length)(hr:∀(j:Nat) (d:AV) (u:Value),l'[j]?=some d->vs[j]?=some u->aG G d u):
 ∀(j:Nat) (d:AV) (u:Value),l[j]?=some d->vs[j]?=some u->aG (gJ G m iM) d u:=by
 intro j d u hd hu
 rcases h.at j d hd with⟨h4,h5⟩|⟨h4,rfl⟩
 ·exact yp h5 (hr j d u h4 hu)
 ·have h6:=hr j _ u h4 hu
  cases h6 with
  |dv h7=>
   cases h7
   exact .own m 0 0 [] _ (by show(gJ G m iM).H m 0 0 []=_;rw[js];rfl) rfl
theorem jt{P:Program}{f m ex:Nat}{args args2:List AV}{K K2 K':ae}{rs:List AV}{sz:Nat}(h:ao P f args (m+1) K ex rs K')(h1:aa K m=.tree 0 0 (.aC sz []))(h2:aa K2 m=.none)
 (h3:∀j,j≠m->Zk m (aa K j) (aa K2 j)) (cI:oz m args args2):ao P f args2 m K2 (ex+1) rs K':=by
 refine⟨h.1,fun w G2 vs nt cP hr=>?_⟩
 have dR:G2.β m=none/\∀v e p,G2.H m v e p=none:=by have:=cP.box m;rw[h2]at this;exact this
 have hH0:aJ (gJ G2 m iM).H m 0 0 []=some (.slice none 0 0):=by show(gJ G2 m iM).H m 0 0 []=_;rw[js];rfl
 have hTO:∀x,¬bK (aJ (gJ G2 m iM).H m 0 0) (.aC sz []) x:=by
  rintro x ⟨p,n,u,g1,g2,g3,g4⟩
  cases p with
  |nil=>rw[hH0]at g3;injection g3 with g3;subst g3;simp[cS]at g4
  |cons s r=>
   have g3:(gJ G2 m iM).H m 0 0 (s::r)=some u:=g3
   rw[js]at g3
   simp[iM]at g3
 have gS:∀j x,cA (gJ G2 m iM) j (aa K j) x↔cA G2 j (aa K2 j) x:=by
  intro j x
  by_cases hj:j=m
  ·subst hj
   rw[h1,h2]
   exact⟨fun o=>absurd o (hTO x),fun o=>o.elim⟩
  ·rcases h3 j hj with⟨e,hb⟩|⟨l,l',e1,e2,_⟩
   ·rw[e];exact SC hj hb x
   ·rw[e1,e2];exact Iff.rfl
 have Zl:Fit (gJ G2 m iM) w (aa K):=by
  refine⟨cP.sub,fun j=>?_,fun j x o=>cP.own j x ((gS j x).1 o),fun j j' x o o'=>cP.inj j j' x ((gS j x).1 o) ((gS j' x).1 o')⟩
  by_cases hj:j=m
  ·subst hj
   rw[h1]
   refine⟨⟨rfl,fun p n hg hn=>?_⟩,?_,fun v hv e p=>?_,fun e he p=>?_⟩
   ·cases p with
    |nil=>
     simp only[get,Option.some.injEq]at hg
     subst hg
     exact⟨_,hH0,rfl,.inl ⟨rfl,rfl⟩⟩
    |cons s r=>
     simp only[get]at hg
     cases s<;>simp[step]at hg
   ·intro p q n m' u v' x _ _ h3 _ _ _ h7 _
    have key:∀{p:List PS} {u:Value},aJ (gJ G2 j iM).H j 0 0 p=some u->p=[]:=by
     intro p u hp
     cases p with
     |nil=>rfl
     |cons s r=>
      have hp:(gJ G2 j iM).H j 0 0 (s::r)=some u:=hp
      rw[js]at hp
      simp[iM]at hp
    rw[key h3,key h7]
   ·rw[js];show(if v=0/\e=0/\p=[]then _ else none)=none;rw[if_neg (by omega)]
   ·rw[js];show(if(0:Nat)=0/\e=0/\p=[]then _ else none)=none;rw[if_neg (by omega)]
  ·have hb:=cP.box j
   rcases h3 j hj with⟨e,ho⟩|⟨l,l',e1,e2,ck⟩
   ·rw[e]at hb;exact SB hj ho hb
   ·rw[e2]at hb
    rw[e1]
    obtain⟨b,c,t,q1,q2,q3,q4,q5⟩:=hb
    refine⟨b,c,t,q1,q2,by rw[q3,ck.len],fun v hv=>?_,fun q d u hd hu=>Fg (vs:=c.toList) ck (by rw[<-q3];simp) (fun j d u hd hu=>q5 j d u hd (by simpa using hu)) q d u hd (by simpa using hu)⟩
    obtain⟨q,hq⟩:=acF hv
    rcases ck.at q v hq with⟨h4,_⟩|⟨_,rfl⟩
    ·exact q4 v (ack h4)
    ·rfl
 have Lq:cd (gJ G2 m iM) args vs:=⟨by rw[cI.len];exact hr.1,Fg cI hr.1 hr.2⟩
 refine Calls.mono (h.2 w (gJ G2 m iM) vs nt Zl Lq) ?_
 rintro en w' ⟨u,r,k,G',rfl,⟨rfl,rfl⟩,hc⟩
 refine⟨u,_,_,G',rfl,⟨rfl,rfl⟩,⟨hc.fit,fun j hj=>hc.no j (by omega),hc.res,hc.le,fun j hj=>hc.eY j (by omega),fun j hj p x hx=>hc.wh j (by omega) p x (by rw[hZ (by omega)];exact hx),fun x hx VJ=>hc.frame x hx fun j o=>VJ j ((gS j x).1 o),fun j x o=>?_,hc.os,hc.tape,hc.output,hc.size⟩⟩
 rcases hc.EI j x o with h9|⟨j',h9⟩
 ·exact .inl h9
 ·exact .inr ⟨j',(gS j' x).1 h9⟩
end
end Go.TM
