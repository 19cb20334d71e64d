import Derived.Test.YtknnpcfhekkjjaaGreatDoorFM18
import Derived.LoopNIn
import Derived.Test.YtknnpcfhekkjjaaGreatDoorFM16
set_option linter.all false
namespace Go.TM
section
open Go.RowKit
variable [cn]
theorem rF{γ:Type}(f:Nat->γ)(i:Nat)(x:γ):Q8 f i x=iS f i x:=by
 funext j
 simp only[Q8,iS]
 by_cases e:j=i
 ·subst e;simp
 ·have hb:Nat.beq j i=false:=by cases hb:Nat.beq j i with|false=>rfl|true=>exact absurd (abL hb) e
  rw[hb,if_neg e]
theorem iJ{γ:Type}(f:Nat->γ):∀l:List (Nat×γ),Cv f l=ay f l
 |[]=>rfl
 |(i,x)::r=>by simp only[Cv,ay];rw[rF,iJ f r]
def RX(g:dP)(n:Nat)(s:XS)(a:Act)(w:World):Prop:=St g n s.ρ s.κ a w/\g.m<=s.nx/\∀i,s.nx<=i->s.κ i=.none
theorem pz{nx ec:Nat}{κ:Nat->aq}{bx:List (Nat×aq)}(hn:∀i,nx<=i->κ i=.none)(hle:nx<=ec)(hb:∀p,p∈bx->p.1<ec):∀i,ec<=i->ay κ bx i=.none:=by
 intro i hi
 rw[rE _ (fun p hp e=>by have:=hb p hp;omega)]
 exact hn i (by omega)
section
variable {P:Program} {C:dP->Prop} {T:List TI} {ops:List Oper} {n:Nat} {g:dP}
theorem yp{S:sS}(hS:pw P C ops n S)(Cf:C g){F:Fence}(hF:iq F){Q:Exit->Act->World->Prop}{s':XS}(hQ:∀a w,RX g n s' a w->Q .normal a w):
 ∀(rest:List Oper) (s:XS) (a:Act) (w:World),Oh S rest s=.ok s'->RX g n s a w->wpListIn F 0 P ops.toArray Q rest a w
 |[],s,a,w,h,hs=>by simp only[Oh]at h;injection h with h;subst h;exact hQ a w hs
 |o::rest,s,a,w,h,⟨hs,dz,hn⟩=>by
  simp only[Oh]at h
  obtain⟨e,h1,h⟩:=ad h
  obtain⟨bn,ec,⟨rfl,rfl⟩,hle,hb,um⟩:=hS o s.nx s.ρ s.κ e hn h1
  refine p6 hF (um F hF s.ρ s.κ ⟨fun _ _=>rfl,fun _ _=>rfl,fun _ _=>rfl,fun _ _ _=>rfl⟩ g a w ⟨dz,Cf⟩ hs) fun a' w' eE=>?_
  refine yp hS Cf hF hQ rest (CG s e) a' w' h ⟨?_,Nat.le_trans dz hle,?_⟩
  ·simp only[CG,iJ];exact eE
  ·simp only[CG,iJ];exact pz hn hle hb
theorem vR{S:sS}(hS:pw P C ops n S){ρ0:Nat->AV}{κ0:Nat->aq}{lo:Nat}{s':XS}{vF:List Rec}:
 ∀(rest done:List Oper) (s:XS) (rs:List Rec),ops=done++rest->rs.length=done.length->lo<=s.nx->
  (∀i,s.nx<=i->s.κ i=.none)->
  s.ρ=acc ρ0 (fun i=>(rs[i]?.map (·.bn.dst)).getD []) (fun _=>true) done.length->s.κ=acc κ0 (fun i=>(rs[i]?.map (·.bn.box)).getD []) (fun _=>true) done.length->
  (∀i r o,rs[i]?=some r->ops[i]?=some o->r.rows=gM (acc ρ0 (fun i=>(rs[i]?.map (·.bn.dst)).getD []) (fun _=>true) i) (acc κ0 (fun i=>(rs[i]?.map (·.bn.box)).getD []) (fun _=>true) i) o/\ME P C ops n lo o (acc ρ0 (fun i=>(rs[i]?.map (·.bn.dst)).getD []) (fun _=>true) i) (acc κ0 (fun i=>(rs[i]?.map (·.bn.box)).getD []) (fun _=>true) i) r.bn)->
  EW S rest s rs=.ok (s',vF)->
  vF.length=ops.length/\lo<=s'.nx/\(∀i,s'.nx<=i->s'.κ i=.none)/\
   s'.ρ=acc ρ0 (fun i=>(vF[i]?.map (·.bn.dst)).getD []) (fun _=>true) ops.length/\s'.κ=acc κ0 (fun i=>(vF[i]?.map (·.bn.box)).getD []) (fun _=>true) ops.length/\
   ∀i r o,vF[i]?=some r->ops[i]?=some o->r.rows=gM (acc ρ0 (fun i=>(vF[i]?.map (·.bn.dst)).getD []) (fun _=>true) i) (acc κ0 (fun i=>(vF[i]?.map (·.bn.box)).getD []) (fun _=>true) i) o/\ME P C ops n lo o (acc ρ0 (fun i=>(vF[i]?.map (·.bn.dst)).getD []) (fun _=>true) i) (acc κ0 (fun i=>(vF[i]?.map (·.bn.box)).getD []) (fun _=>true) i) r.bn
 |[],done,s,rs,Cg,hlen,mj,hn,he,hk,bq,h=>by
  have:done.length=ops.length:=by rw[Cg];simp
  simp only[EW]at h
  injection h with h
  injection h with h1 h2
  subst h1;subst h2
  exact⟨by omega,mj,hn,by rw[<-this];exact he,by rw[<-this];exact hk,bq⟩
 |o::rest,done,s,rs,Cg,hlen,mj,hn,he,hk,bq,h=>by
  simp only[EW]at h
  obtain⟨e,h1,h⟩:=ad h
  obtain⟨bn,ec,⟨rfl,rfl⟩,hle,hb,um⟩:=hS o s.nx s.ρ s.κ e hn h1
  have oT:∀i,i<rs.length->(rs++[⟨gM s.ρ s.κ o,e.1⟩])[i]?=rs[i]?:=fun i hi=>List.getElem?_append_left hi
  have xH:(rs++[(⟨gM s.ρ s.κ o,e.1⟩:Rec)])[done.length]?=some ⟨gM s.ρ s.κ o,e.1⟩:=by rw[<-hlen];simp
  have iY:∀m,m<=done.length->acc ρ0 (fun i=>((rs++[(⟨gM s.ρ s.κ o,e.1⟩:Rec)])[i]?.map (·.bn.dst)).getD []) (fun _=>true) m=acc ρ0 (fun i=>(rs[i]?.map (·.bn.dst)).getD []) (fun _=>true) m:=
   fun m hm=>sC _ _ _ m fun i hi=>by rw[oT i (by omega)]
  have lJ:∀m,m<=done.length->acc κ0 (fun i=>((rs++[(⟨gM s.ρ s.κ o,e.1⟩:Rec)])[i]?.map (·.bn.box)).getD []) (fun _=>true) m=acc κ0 (fun i=>(rs[i]?.map (·.bn.box)).getD []) (fun _=>true) m:=
   fun m hm=>sC _ _ _ m fun i hi=>by rw[oT i (by omega)]
  refine vR hS rest (done++[o]) (CG s e) (rs++[⟨gM s.ρ s.κ o,e.1⟩]) (by rw[Cg];simp) (by simp[hlen]) (Nat.le_trans mj hle) (by simp only[CG,iJ];exact pz hn hle hb) ?_ ?_ ?_ h
  ·simp only[CG,iJ]
   rw[abU]
   simp only[List.length_cons,List.length_nil,Nat.zero_add,acc,if_true]
   rw[iY _ (acb _),xH,<-he];rfl
  ·simp only[CG,iJ]
   rw[abU]
   simp only[List.length_cons,List.length_nil,Nat.zero_add,acc,if_true]
   rw[lJ _ (acb _),xH,<-hk];rfl
  ·intro i r o' hr jz
   rcases ab1 i rs.length with au|gH
   ·rw[oT i au]at hr
    rw[iY i (by omega),lJ i (by omega)]
    exact bq i r o' hr jz
   ·have hi:i=done.length:=by
     have:=(abI.1 hr).1
     simp at this;omega
    subst hi
    rw[xH]at hr
    injection hr with hr
    subst hr
    rw[Cg]at jz
    simp at jz
    subst jz
    rw[iY _ (acb _),lJ _ (acb _),<-he,<-hk]
    exact⟨rfl,um.lo mj⟩
end
section
variable {κ κ':Nat->aq} {m:Nat}
theorem OB:∀N:Nat,(∀v:AV,SizeOf.sizeOf v<N->fG m κ κ' (j4 m κ v) v)/\(∀l:List AV,SizeOf.sizeOf l<N->dT m κ κ' (k8 m κ l) l):=by
 intro N
 induction N with
 |zero=>exact⟨fun _ h=>by omega,fun _ h=>by omega⟩
 |succ N ih=>
  refine⟨fun v aV=>?_,fun l aV=>?_⟩
  ·cases v with
   |any=>exact trivial
   |dv d=>exact DV.Le.refl d
   |ptr i off=>exact rfl
   |eN i=>exact rfl
   |sle i k=>exact rfl
   |own i ver ep p=>
    cases hn:j4 m κ (.own i ver ep p)with
    |own j a b q=>
     simp only[fG,Cm,dn];exact hn
    |any=>exact trivial
    |_=>
     simp only[j4]at hn
     split at hn
     ·rename_i v' e' d hk
      cases hb:Nat.beq ver v'&&(emp p||Nat.beq ep e')<;>rw[hb]at hn<;>cases hn
     ·cases hb:Nat.beq ver 0&&(emp p||Nat.beq ep 0)<;>rw[hb]at hn<;>cases hn
     ·cases hn
   |cq i ver=>
    cases hn:j4 m κ (.cq i ver)with
    |cq j a=>simp only[fG];exact hn
    |any=>exact trivial
    |_=>
     simp only[j4]at hn
     split at hn
     ·rename_i v' e' d hk
      cases hb:Nat.beq ver v'<;>rw[hb]at hn<;>cases hn
     ·cases hn
   |loc i ver ep p a b c=>
    cases hn:j4 m κ (.loc i ver ep p a b c)with
    |loc j a b q x y z=>simp only[fG];exact hn
    |any=>exact trivial
    |_=>
     simp only[j4]at hn
     split at hn
     ·rename_i v' e' d hk
      cases hb:Nat.beq ver v'&&(emp p||Nat.beq ep e')<;>rw[hb]at hn<;>cases hn
     ·cases hn
   |pre i ver ep p a b c=>
    cases hn:j4 m κ (.pre i ver ep p a b c)with
    |pre j a b q x y z=>simp only[fG];exact hn
    |any=>exact trivial
    |_=>
     simp only[j4]at hn
     split at hn
     ·rename_i v' e' d hk
      cases hb:Nat.beq ver v'&&(emp p||Nat.beq ep e')<;>rw[hb]at hn<;>cases hn
     ·cases hn
   |fn f l=>exact⟨rfl,ih.2 l (by simp at aV;omega)⟩
   |jV f l=>exact⟨rfl,ih.2 l (by simp at aV;omega)⟩
   |agg l=>exact ih.2 l (by simp at aV;omega)
   |fL l=>exact ih.2 l (by simp at aV;omega)
   |opt g v=>exact trivial
  ·cases l with
   |nil=>exact trivial
   |cons v l=>exact⟨ih.1 v (by simp at aV;omega),ih.2 l (by simp at aV;omega)⟩
theorem rG(l:List AV):dT m κ κ' (k8 m κ l) l:=(OB (SizeOf.sizeOf l+1)).2 l (by omega)
theorem RY{i:Nat}:oA m κ κ' i (κ i) (nB m κ i (κ i)):=by
 cases h:κ i with
 |none=>exact trivial
 |dead=>exact trivial
 |cells l=>exact rG l
 |tree v e d=>exact⟨rfl,rfl⟩
 |fz v d=>exact⟨rfl,DV.Le.refl d⟩
 |c8 rc st l=>exact⟨rfl,rfl,rG l⟩
 |held=>exact trivial
 |kz _ _ _ _ _=>exact trivial
theorem JV:∀(l:List Nat),oB m κ κ' (nK m κ l)
 |[]=>trivial
 |i::r=>⟨RY,JV r⟩
end
section
variable {P:Program} {T:List TI} {n:Nat} {g:dP} {ρ:Nat->AV} {κ:Nat->aq} {a:Act} {w:World} {G:Gh}
theorem CL:∀{Nv:List ResultVar} {jt:List AV} {q:List AV->Prop},EP T ρ κ Nv=.ok jt->q jt->Cr T ρ κ Nv q
 |[],jt,q,h,hq=>by simp only[EP]at h;injection h with h;subst h;exact hq
 |.tmp t::r,jt,q,h,hq=>by
  simp only[EP]at h
  obtain⟨l,h1,h⟩:=ad h
  injection h with h;subst h
  simp only[Cr,force_eq]
  exact CL h1 hq
 |.cell t ty::r,jt,q,h,hq=>by
  simp only[EP]at h
  have hh:=aA h;clear h;obtain⟨hb,h⟩:=hh
  simp only[Cr,hb,cond_true]
  split at h
  ·rename_i i off hr
   split at h
   ·rename_i l hk
    obtain⟨v,h1,h⟩:=ad h
    obtain⟨vs,h2,h⟩:=ad h
    injection h with h;subst h
    simp only[hr,hk]
    exact sV h1 (CL h2 hq)
   ·cases h
  ·cases h
theorem cy.out{m:Nat}{K:ae}{w0:World}{G0:Gh}(hg:g=⟨fun b=>∃i,cx G0 i (aa K i) b,w0,G0.M,m,G0.β,fun i p=>G0.H i 0 0 p⟩)(ai:cy g n ρ κ a w G){fuel:Nat}{jt:List AV}{us:List Value}{r:uI}(hx:N8 fuel m κ jt=.ok r)(hrel:cj G jt us)
 {v:Value} (wF:∀d u,r.1=[d]->us=[u]->v=u) (Yw:us.length≠1->v=.tuple us.toArray):∃rs K' G',(rs=r.1/\K'=r.2.1)/\KU m r.2.2 (aa K) w0 G0 rs (aa K') w G' v:=by
 unfold N8 TY at hx
 obtain⟨fo,hx⟩:=aA hx
 injection hx with hx;subst hx
 generalize hK:nK m κ (EO κ fuel (kX 0 m++AV.uH (k8 m κ jt)) [])=K2 at*
 simp only[o9,acj]at fo
 obtain⟨⟨⟨EA,Nx⟩,dQ⟩,oj⟩:=fo
 have Jx:oB m κ (aa K2) K2:=by
  have:=JV (m:=m) (κ:=κ) (κ':=aa K2) (EO κ fuel (kX 0 m++AV.uH (k8 m κ jt)) [])
  rwa[hK]at this
 have dz:g.m<=m:=by rw[hg];exact acb _
 obtain⟨G2,_,KB,Nt⟩:=ai.sub (m:=m) dz (F:=dh κ (k8 m κ jt) jt++dG κ K2) EA (fun i hi=>abQ.2 (.inr hi)) dQ oj Jx
 have aH:=KB (k8 m κ jt) jt us (rG jt) Nx (fun i hi=>abQ.2 (.inl hi)) hrel
 have j6:=Nt (fun _=>.any) (fun _=>.any _)
 subst hg
 refine⟨_,_,G2,⟨rfl,rfl⟩,⟨j6.fit,fun i hi=>mD EA hi,?_,j6.mem,j6.fe,j6.wz,fun b hb hO=>⟨j6.zL b hb (fun⟨i,h⟩=>hO i h),j6.nu b hb (fun⟨i,h⟩=>hO i h)⟩,j6.gB,j6.os,j6.tape,j6.output,j6.grow⟩⟩
 have rp:us.length=(k8 m κ jt).length:=aH.1.symm
 generalize wA:k8 m κ jt=rs at*
 have many:us.length≠1->aG G2 (.fL rs) v:=by
  intro b7
  rw[Yw b7]
  exact .fL rs us aH.1 aH.2
 match rs,aH,rp,many,wF with
 |[],aH,rp,many,_=>exact many (by simp at rp;simp[rp])
 |[d],aH,rp,_,wF=>
  match us,rp,aH with
  |[u],_,aH=>rw[wF d u rfl rfl];exact aH.2 0 d u rfl rfl
 |_::_::_,aH,rp,many,_=>exact many (by simp at rp;omega)
end
end
section
open Go.RowKit
variable [cn]
theorem uP:∀(env:Env),look env=ay (fun _=>.any) env
 |[]=>rfl
 |(i,b)::K=>by
  funext t
  simp only[look,ay,iS,uP K]
  by_cases h:t=i
  ·subst h;simp
  ·rw[if_neg h];simp[beq_false h]
def Lk(P:Program)(go:jb):Prop:=∀(r:Bool) (n:Nat) (c:Code) (s:XS) (e:AX) (s':XS),go r n c s=.ok (e,s')->∀(F:Fence),iq F->(r=true->F=Fence.wide)->∀(g:dP) (a:Act) (w:World) (R:Exit->Act->World->Prop),
 RX g n s a w->(∀a w,RX g n s' a w->R (uw e) a w)->c.wpIn F 0 P R a w
section
variable {P:Program} {T:List TI} {go:jb}
theorem yq(hT:fb P T)(DW:Lk P go)(eV:∀(g:Nat) (fn:Func),P.funcs[g]?=some fn->(fn.name== "runtime.NumGoroutine")=false)(f g:Nat):RU (bV P g) (EX P T go f g):=by
 intro args m K r hx
 unfold EX at hx
 obtain⟨fn,hf,hx⟩:=ad hx
 obtain⟨c,hb,hx⟩:=ad hx
 have hf:=aM hf
 have hb:=aM hb
 unfold T2 at hx
 obtain⟨bN,hx⟩:=aA hx
 have hx:((go true fn.ntmps c (nL m (di 0 args) K)).bind fun q=>HI T f m fn q)=.ok r:=by
  unfold Yr at hx
  split at hx
  ·rename_i q hq;rw[hq];exact hx
  ·cases hx
 obtain⟨⟨e,s'⟩,aX,hx⟩:=ad hx
 refine⟨⟨fn,hf,eV g fn hf,by rw[hb];rfl⟩,fun w G vs nF cP hr=>?_⟩
 refine(gX.calls (n:=0)).1 (callsIn_of_wp_marks hf hb trivial ?_)
 simp only[acj,cG.wf]at bN
 obtain⟨hlen,hwB,hwE⟩:=bN
 have hlen:vs.length<=fn.ntmps:=by rw[<-hr.1];exact Nat.le_of_ble_eq_true hlen
 let g0:dP:=⟨fun b=>∃i,cx G i (aa K i) b,w,G.M,m,G.β,fun i p=>G.H i 0 0 p⟩
 have ai:cy g0 fn.ntmps (look (di 0 args)) (aa K) { tmps:=vs.toArray++Array.replicate (fn.ntmps-vs.toArray.size) undef,defers:=[] } w G:=by
  refine { fit:=cP,env:=fun t=>?_,size:=by simp;omega,zL:=fun _ _ _=>rfl,os:=rfl,tape:=rfl,output:=rfl,grow:=acb _,mem:=.refl G.M,nu:=fun _ _ _=>rfl,gB:=fun i b ho=>.inr ⟨i,ho⟩,fe:=fun _ _=>rfl,wz:=fun _ _ _ _ hx=>hx,oK:=nF,tR:=⟨[],rfl,List.nodup_nil,by simp⟩ }
  rw[pd]
  simp only[abW,if_true,Nat.sub_zero]
  split
  ·rename_i d hd
   have ht:t<vs.length:=by rw[<-hr.1];exact(abI.1 hd).1
   have hv:vs[t]?=some (vs[t]'ht):=aaj ht
   have:(vs.toArray++Array.replicate (fn.ntmps-vs.toArray.size) undef).getD t undef=vs[t]'ht:=by
    rw[abS,Array.getElem?_append_left (by simpa using ht)]
    simp[hv]
   rw[this]
   exact hr.2 t d _ hd hv
  ·exact .any _
 have DR:RX g0 fn.ntmps (nL m (di 0 args) K) { tmps:=vs.toArray++Array.replicate (fn.ntmps-vs.toArray.size) undef,defers:=[] } w:=by
  refine⟨⟨G,?_⟩,acb _,?_⟩
  ·simp only[nL,iJ,<-uP,<-gP];exact ai
  ·simp only[nL,iJ,<-gP];exact fun i hi=>mD hwB hi
 refine DW true fn.ntmps c _ e s' aX Fence.wide gX (fun _=>rfl) g0 _ w _ DR fun a w' hs=>?_
 obtain⟨⟨G1,gr⟩,_⟩:=hs
 have fin:((EP T s'.ρ s'.κ fn.results.toList).bind fun jt=>N8 f m s'.κ jt)=.ok r->LeavesInM Fence.wide 0 P fn a.tmps (fun e w'=>∃v rs K' G',e=.returned v/\(rs=r.1/\K'=r.2.1)/\KU m r.2.2 (aa K) w G rs (aa K') w' G' v) a.defers .returning w':=by
  intro je
  obtain⟨jt,h1,h2⟩:=ad je
  obtain⟨D,hD,_⟩:=gr.tR
  rw[hD]
  refine cy.leave (g:=g0) (n:=fn.ntmps) (ρ:=s'.ρ) (κ:=s'.κ) (G:=G1) a.tmps (fun w2 rj=>?_) D w' (by have:=gr;rw[<-hD];exact this)
  obtain⟨abu,us,hq,Nw,hrel⟩:=wW hT rj (CL (q:=fun l=>l=jt) h1 rfl)
  subst hq
  refine⟨_,pe Nw,?_⟩
  obtain⟨rs,K',G',e1,e2⟩:=cy.out (g:=g0) (m:=m) (K:=K) (w0:=w) (G0:=G) rfl rj h2 hrel (v:=if h:us.toArray.size=1 then us.toArray[0]else .tuple us.toArray) (fun d u _ hu=>by subst hu;rfl) (fun b7=>by rw[dif_neg (by simpa using b7)])
  exact⟨_,rs,K',G',rfl,e1,e2⟩
 unfold HI at hx
 cases e with
 |normal=>exact fin hx
 |ret=>exact fin hx
 |exit i=>cases hx
theorem Ll(DW:Lk P go)(f:Nat):RU (eC P) (HJ go f):=by
 intro args m K r hx
 unfold HJ at hx
 split at hx
 ·rename_i rc l h0
  unfold Oi at hx
  have hh:=aA hx;clear hx;obtain⟨fo,hx⟩:=hh
  have hh:=ad hx;clear hx;obtain⟨⟨e1,s1⟩,Yx,hx⟩:=hh
  intro w G vs nF cP hr
  simp only[acj]at fo
  obtain⟨⟨⟨TJ,lP⟩,DU⟩,KT⟩:=fo
  have TJ:=abL TJ
  have DU:0<m:=by simpa using DU
  have hb:=cP.box 0
  rw[h0]at hb
  obtain⟨b,fn,tmps,D,lC,hw,jB⟩:=hb
  have aV:tmps.size=l.length:=by have:=jB.1;simp at this;exact this.symm
  have Yh:vs.toArray.size=rc.ps.size:=by rw[List.size_toArray,<-hr.1];exact TJ
  refine⟨b,lC,fn,_,rc.as,rc.bd,w,run_yield hw Yh,roundIn_of_wpIn trivial ?_⟩
  have NR:(rc.ps.zip vs.toArray).foldl (fun tm (pv:Nat×Value)=>tm.setIfInBounds pv.1 pv.2) tmps=(rc.ps.toList.zip vs).foldl (fun tm (pv:Nat×Value)=>tm.setIfInBounds pv.1 pv.2) tmps:=by
   rw[<-Array.foldl_toList,Array.toList_zip]
  have Hz:(rc.ps.zip vs.toArray).foldl (fun tmps (t,a)=>tmps.setIfInBounds t a) tmps=(rc.ps.toList.zip vs).foldl (fun tm (pv:Nat×Value)=>tm.setIfInBounds pv.1 pv.2) tmps:=NR
  let g:dP:=⟨fun b=>∃i,cx G i (aa K i) b,w,G.M,m,G.β,fun i p=>G.H i 0 0 p⟩
  have Hn:∀t,aG G (look (ru 0 l) t) (tmps.getD t undef):=fun t=>by
   have:=uC l 0 t
   rw[Nat.zero_add]at this
   rw[this]
   split
   ·rename_i v hv
    have ht:t<tmps.size:=by rw[aV];exact(abI.1 hv).1
    refine jB.2 t v _ hv ?_
    rw[abS,Array.getElem?_toList,aci ht];rfl
   ·exact .any _
  have ai:cy g l.length (look (Ad rc.ps.toList args (ru 0 l))) (aa K) { tmps:=(rc.ps.toList.zip vs).foldl (fun tm (pv:Nat×Value)=>tm.setIfInBounds pv.1 pv.2) tmps,defers:=[] } w G:=
   {fit:=cP,env:=Cu (fun p hp=>by rw[aV];exact uD lP p hp) hr Hn,size:=by rw[<-aV];exact AT _ _,zL:=fun _ _ _=>rfl,os:=rfl,tape:=rfl,output:=rfl,grow:=acb _,mem:=.refl G.M,nu:=fun _ _ _=>rfl,gB:=fun i b ho=>.inr ⟨i,ho⟩,fe:=fun _ _=>rfl,wz:=fun _ _ _ _ hx=>hx,oK:=nF,tR:=⟨[],rfl,List.nodup_nil,by simp⟩ }
  rw[Hz]
  have cW:∀i,m<=i->aa K i=.none:=fun i hi=>by
   rcases fY (K:=K) (i:=i)with h'|h'
   ·exact h'
   ·have:=c5 KT i (ab9.2 ⟨_,h',rfl⟩);omega
  have DR:RX g l.length (nL m (Ad rc.ps.toList args (ru 0 l)) K) { tmps:=(rc.ps.toList.zip vs).foldl (fun tm (pv:Nat×Value)=>tm.setIfInBounds pv.1 pv.2) tmps,defers:=[] } w:=by
   refine⟨⟨G,?_⟩,acb _,?_⟩
   ·simp only[nL,iJ,<-uP,<-gP];exact ai
   ·simp only[nL,iJ,<-gP];exact cW
  refine DW false l.length rc.as _ e1 s1 Yx _ (wide_round b) (fun h=>by cases h) g _ w _ DR fun a1 w1 hs=>?_
  cases e1 with
  |ret=>cases hx
  |exit i=>cases hx
  |normal=>
   simp only at hx
   unfold JN at hx
   split at hx
   ·rename_i rc1 l1 ph
    have hh:=ad hx;clear hx;obtain⟨⟨e2,s2⟩,Yy,hx⟩:=hh
    obtain⟨⟨G1,st1⟩,dZ,KM⟩:=hs
    have Vn:G1.β 0=some b:=by rw[st1.fe 0 DU];exact lC
    obtain⟨rr,Q7,uE,NT,j3,_⟩:=st1.uB ph Vn
    have Vo:=run_beginRound (P:=P) Q7 uE
    have EK:=j3 .busy
    have NU:({ rr with state:=zK.busy.st,pending:=zK.busy.zV }:Loop)={ rr with state:=.busy }:=by
     have:rr.pending=none:=NT
     simp only[zK.st,zK.zV,<-this]
    rw[NU]at EK
    refine⟨_,Vo,?_⟩
    refine DW false l.length rc.bd _ e2 s2 Yy _ (wide_round b) (fun h=>by cases h) g _ _ _ ⟨⟨G1,by simp only[rF];exact EK⟩,dZ,fun i hi=>by
     have h1:m<=s1.nx:=dZ
     have h2:s1.nx<=i:=hi
     simp only[rF]
     rw[ah _ _ (by omega)];exact KM i hi⟩ fun a2 w2 lJ=>?_
    unfold JM at hx
    split at hx
    ·rename_i rc2 l2 K4
     obtain⟨⟨G2,st2⟩,_,_⟩:=lJ
     have wY:G2.β 0=some b:=by rw[st2.fe 0 DU];exact lC
     obtain⟨r2,TK,_,_,NV,_⟩:=st2.uB K4 wY
     have ED:=NV (qG e2)
     rw[rF]at hx
     obtain⟨rs,K',G',q1,q2⟩:=cy.out (g:=g) (m:=m) (K:=K) (w0:=w) (G0:=G) rfl ED hx (us:=[.bool (RH e2)]) ⟨rfl,fun j d v hd hv=>by
      cases j with
      |zero=>simp at hd hv;subst hd;subst hv;exact .dv (.bool _)
      |succ j=>simp at hd⟩ (v:=.bool (RH e2)) (fun d u _ hu=>by injection hu) (fun b7=>absurd rfl b7)
     have gu:=run_endRound (P:=P) (nt e2) TK
     cases e2 with
     |normal=>exact⟨_,_,gu,_,rs,K',G',rfl,q1,q2⟩
     |ret=>exact⟨_,_,gu,_,rs,K',G',rfl,q1,q2⟩
     |exit i=>exact⟨_,_,gu,_,rs,K',G',rfl,q1,q2⟩
    ·cases hx
   ·cases hx
 ·cases hx
end
end
section
open Go.RowKit
variable [cn]
section
variable {P:Program} {T:List TI} {go:jb}
theorem yt(hT:fb P T)(DW:Lk P go)(eV:∀(g:Nat) (fn:Func),P.funcs[g]?=some fn->(fn.name== "runtime.NumGoroutine")=false){fuel n nx:Nat}{ρ:Nat->AV}{κ:Nat->aq}{x:Operand}{ps:Array Tmp}{as bd:Code}{f:Nat}{bK:List AV}{e:AX}{s':XS}
 (h:wZ P T go fuel nx ρ (Q8 κ nx (.c8 ⟨ps,as,bd⟩ .ready (bQ ρ 0 n))) f bK=.ok (e,s')) {g:dP} {a:Act} {w:World} {R:Exit->Act->World->Prop} {G:Gh} (ai:cy g n ρ κ a w G) (dz:g.m<=nx) (hn:∀i,nx<=i->κ i=.none)
 {vs:List Value} (hx:a.eval x=.func (.func f) #[] vs.toArray) (jB:cj G bK vs) (hR:∀a w,RX g n s' a w->R (uw e) a w):(Code.rangeFunc x ps as bd).wpIn Fence.wide 0 P R a w:=by
 rw[rF]at h
 generalize hκ1:iS κ nx (.c8 ⟨ps,as,bd⟩ .ready (bQ ρ 0 n))=κ1 at h
 unfold wZ at h
 obtain⟨q,hq,h⟩:=ad h
 unfold sO HF HE at hq
 generalize EO κ1 fuel (hdL none++AV.uH (.eN nx::bK)) []=σ at hq
 obtain⟨fo,hq⟩:=aA hq
 obtain⟨r,jD,hq⟩:=ad hq
 unfold HD at hq
 obtain⟨Xe,hq⟩:=aA hq
 injection hq with hq;subst hq
 have jJ:=yq hT DW eV fuel f _ _ _ r jD
 simp only[acj]at fo
 refine wpIn_rangeFunc fun fn _=>?_
 obtain⟨st1,hle⟩:=ai.enterLoop (hn nx (acb _)) dz ⟨ps,as,bd⟩ fn
 rw[hκ1]at st1
 have st2:=st1.upto (nx+1)
 have BX:∀i,i<g.m->iS G.β nx (some (w.heap.size+1)) i=g.β i:=fun i hi=>by rw[ah _ _ (by omega)];exact ai.fe i hi
 have KM:∀i,nx+1<=i->κ1 i=.none:=fun i hi=>by rw[<-hκ1,ah _ _ (by omega)];exact hn i (by omega)
 have hrel:cj { G with β:=iS G.β nx (some (w.heap.size+1)) } (.eN nx::bK) (.func (.yield (w.heap.size+1)) #[] #[]::vs):=by
  have h1:cj { G with β:=iS G.β nx (some (w.heap.size+1)) } [.eN nx] [.func (.yield (w.heap.size+1)) #[] #[]]:=
   ⟨rfl,fun j d v hd hv=>by
    cases j with
    |zero=>simp at hd hv;subst hd;subst hv;exact .eN nx _ (bl _ _ _)
    |succ j=>simp at hd⟩
  exact h1.append (jB.mono hle)
 obtain⟨β,_,aX⟩:=nG (hd:=none) (nx:=nx+1) (κ:=κ1) (kY P f) jJ.2 KM (by simp only[acj];exact⟨fo.1.1,rfl⟩) (qd _) (yj σ [] rfl) (fun rs K1 hr=>by obtain⟨rfl,rfl⟩:=hr;exact Xe) (sM fo.2) (acb _) st2 hrel (fun _ _=>rfl)
 refine⟨w.heap.size+1,[mark w.heap.size],((w.alloc (.deferred (some []))).alloc (.loop { state:=.ready,pending:=none,fn:=fn,tmps:=a.tmps,params:=ps,assign:=as,body:=bd,defers:=w.heap.size })),⟨.fn (.func f) vs.toArray,#[.func (.yield (w.heap.size+1)) #[] #[]]⟩,((w.alloc (.deferred (some []))).alloc (.loop { state:=.ready,pending:=none,fn:=fn,tmps:=a.tmps,params:=ps,assign:=as,body:=bd,defers:=w.heap.size })),f,(Value.func (.yield (w.heap.size+1)) #[] #[]::vs).toArray,((w.alloc (.deferred (some []))).alloc (.loop { state:=.ready,pending:=none,fn:=fn,tmps:=a.tmps,params:=ps,assign:=as,body:=bd,defers:=w.heap.size })),run_enterLoop_outer fn a.tmps ps as bd,?_,fun _ _=>trivial,?_,(fun h=>by cases h),?_⟩
 ·have h0:(#[]++Array.map a.eval #[Operand.const (Value.func (Fn.yield (w.heap.size+1)) #[] #[])])=#[Value.func (Fn.yield (w.heap.size+1)) #[] #[]]:=by simp[Act.eval]
  simp only[resolve,rangeCall,hx,Deferred.ofValue,Sem.run_pure]
  rw[h0]
 ·have:(#[Value.func (.yield (w.heap.size+1)) #[] #[]]++vs.toArray)=(Value.func (.yield (w.heap.size+1)) #[] #[]::vs).toArray:=by simp
  simp only[invoke]
  rw[this]
  exact iB jJ.1 _ _
 ·refine(gX.calls).2 (Calls.mono aX ?_)
  rintro e2 w2 ⟨v,rs,K2,G3,rfl,⟨rfl,rfl⟩,ED,_⟩
  have AA:∀i,nx+1+r.2.2<=i->ay κ1 (bW (sg σ (nx+1)) (j5 κ1 σ) r.2.1++kB κ1 (dh κ1 (dA (sg σ (nx+1)) dp (K6 κ1 σ (.eN nx::bK))) (.eN nx::bK)++dG κ1 (bW (sg σ (nx+1)) dp (Vv κ1 σ 0 σ)))) i=.none:=by
   refine pz KM (Nat.le_add_right _ _) fun p hp=>?_
   have Hu:l9 (σ.length+r.2.2) r.2.1=true:=by
    have:=Xe
    simp only[fZ,acj]at this
    exact this.1.1.2
   have hσ1:∀i,i∈σ->i<nx+1:=by
    have:=fo.1.1
    simp only[gI,acj]at this
    exact(ji this.1.1.1.1.1.1).1
   rcases abQ.1 hp with hp|hp
   ·obtain⟨j,h1,h2⟩:=mG (i:=p.1) (b:=p.2) hp
    have hj:=c5 Hu j h1
    rw[h2]
    rcases ab1 j σ.length with au|gH
    ·have:=hσ1 _ (by rw[kf au];exact acf au:sg σ (nx+1) j∈σ);omega
    ·rw[jH gH];omega
   ·have:=uc KM hp;omega
  unfold JQ at h
  simp only[iJ]at h
  generalize hκ3:ay κ1 (bW (sg σ (nx+1)) (j5 κ1 σ) r.2.1++kB κ1 (dh κ1 (dA (sg σ (nx+1)) dp (K6 κ1 σ (.eN nx::bK))) (.eN nx::bK)++dG κ1 (bW (sg σ (nx+1)) dp (Vv κ1 σ 0 σ))))=κ3 at*
  have vz:G3.β nx=some (w.heap.size+1):=(ED.fe nx (Nat.lt_succ_self nx)).trans (bl _ _ _)
  have fin:∀(GJ:RC) (st:zK) (l:List AV),κ3 nx=.c8 GJ st l->st.st≠.busy->st.zV=nt e->s'=⟨nx+1+r.2.2,ρ,Q8 κ3 nx .dead⟩->rangePost Fence.wide 0 P (w.heap.size+1) R { a with defers:=[mark w.heap.size]++a.defers } (.returned v) w2:=by
   intro GJ st l hk hb hp eE
   obtain⟨rr,h1,h2,h3,_,NO⟩:=ED.uB hk vz
   have st4:=(NO (.loop { rr with state:=.exhausted })).NN (Nat.le_succ_of_le dz) BX
   have hs4:RX g n s' { a with defers:=[mark w.heap.size]++a.defers } (w2.putObj (w.heap.size+1) (.loop { rr with state:=.exhausted })):=by
    subst eE
    exact⟨⟨G3,by simp only[rF];exact st4⟩,by show g.m<=nx+1+r.2.2;omega,fun i hi=>by
     have vu:nx+1+r.2.2<=i:=hi
     simp only[rF];rw[ah _ _ (by omega)];exact AA i vu⟩
   have oC:=hR _ _ hs4
   refine⟨rr.pending,_,run_endLoop h1 (by rw[h2];exact hb),?_⟩
   have EI:rr.pending=nt e:=h3.trans hp
   rw[EI]at oC
   rw[EI]
   cases e with
   |normal=>exact oC
   |ret=>exact wpIn_ret oC
   |exit i=>exact wpIn_exit oC
  unfold A0 at h
  split at h
  ·rename_i GJ st l hk
   split at h
   ·injection h with h
    injection h with h1 h2
    exact fin GJ .ready l hk (by simp[zK.st]) (by rw[<-h1];rfl) h2.symm
   ·rename_i e'
    injection h with h
    injection h with h1 h2
    exact fin GJ (.done e') l hk (by simp[zK.st]) (by rw[<-h1];rfl) h2.symm
   ·cases h
  ·cases h
theorem Lm(hT:fb P T)(hm:P.follows .mixedOrders=true)(eV:∀(g:Nat) (fn:Func),P.funcs[g]?=some fn->(fn.name== "runtime.NumGoroutine")=false)(pol:Nat->Bool)(f:Nat)(DW:Lk P go):Lk P (gQ P T pol f go):=by
 intro r n c s e s' h F hF hr g a w R hs hR
 have Ju:∀(ops:List Oper) (d:Bool),pw P (fun _=>True) ops n (EV T pol (Oj P T go f d) ops n):=fun ops d=>OA hT (fun g=>yq hT DW eV f g) (Ll DW f) (eW P)
 cases c with
 |skip=>
  simp only[gQ]at h
  injection h with h;injection h with h1 h2;subst h1;subst h2
  exact wpIn_skip (hR a w hs)
 |region id ops draw=>
  simp only[gQ]at h
  cases draw with
  |false=>
   simp only[cond_false,JO]at h
   obtain⟨s1,h1,h⟩:=ad h
   injection h with h;injection h with e1 e2;subst e1;subst e2
   refine wpIn_region_list ?_
   have:=yp (P:=P) (ops:=ops.toList) (g:=g) (Q:=R) (Ju ops.toList false) trivial hF hR ops.toList s a w h1 hs
   simpa using this
  |true=>
   simp only[cond_true,EY]at h
   obtain⟨⟨s1,rs⟩,h1,h⟩:=ad h
   obtain⟨nE,h⟩:=aA h
   injection h with h;injection h with e1 e2;subst e1;subst e2
   refine wpIn_region_any hm ?_
   obtain⟨hlen,mj,hn,he,hk,bq⟩:=vR (P:=P) (n:=n) (Ju ops.toList true) (ρ0:=s.ρ) (κ0:=s.κ) (lo:=s.nx) ops.toList [] s [] rfl rfl (acb _) hs.2.2 rfl rfl (by simp) h1
   have rl:(fun i=>(Array.replicate ops.size false).getD i false)=fun _=>false:=by
    funext i
    simp only[abS,Array.getElem?_replicate]
    split<;>rfl
   have Cq:St g n s.ρ s.κ a { w with drawn:=w.drawn+1 }:=by
    obtain⟨G,h1⟩:=hs.1
    exact⟨G,h1.drawn _⟩
   have:=AK (P:=P) (C:=fun _=>True) (ops:=ops.toList) (n:=n) (g:=g) (Q:=R) trivial hF hs.2.1 nE hlen bq (fun a w ai=>hR a w ⟨by rw[he,hk];exact ai,Nat.le_trans hs.2.1 mj,hn⟩) ops.size (Array.replicate ops.size false) a { w with drawn:=w.drawn+1 } (by simp)
    (by have:=wT (fun i=>(Array.replicate ops.size false).getD i false) ops.toList.length;simpa using this)
    (fun i o _ hi=>by rw[congrFun rl i]at hi;cases hi)
    (by rw[rl,kV,kV];exact Cq)
   simpa using this
 |seq x y=>
  simp only[gQ]at h
  obtain⟨⟨e1,s1⟩,h1,h⟩:=ad h
  refine wpIn_seq (DW r n x s e1 s1 h1 F hF hr g a w _ hs fun a1 w1 iY=>?_)
  unfold Ys at h
  cases e1 with
  |normal=>exact DW r n y s1 e s' h F hF hr g a1 w1 _ iY hR
  |ret=>simp only at h;injection h with h;injection h with q1 q2;subst q1;subst q2;exact hR a1 w1 iY
  |exit i=>simp only at h;injection h with h;injection h with q1 q2;subst q1;subst q2;exact hR a1 w1 iY
 |cond x y z=>
  simp only[gQ]at h
  obtain⟨t,h1,h⟩:=ad h
  have ht:=jl (aM h1)
  obtain⟨G,ai⟩:=hs.1
  have hv:=AG (ρ:=s.ρ) (κ:=s.κ) (x:=x) s.ρ s.κ ⟨fun _ _=>rfl,fun _ _=>rfl⟩ g n a w G ai
  rw[ht]at hv
  generalize hx:a.eval x=v at hv
  cases hv with|dv hv=>cases hv with|bool=>
  refine wpIn_cond_split hx (fun et=>?_) (fun et=>?_)
  ·subst et;exact DW r n y s e s' h F hF hr g a w _ hs hR
  ·subst et;exact DW r n z s e s' h F hF hr g a w _ hs hR
 |block id c=>
  simp only[gQ]at h
  obtain⟨⟨e1,s1⟩,h1,h⟩:=ad h
  refine wpIn_block (DW r n c s e1 s1 h1 F hF hr g a w _ hs fun a1 w1 iY=>?_)
  unfold Ol at h
  cases e1 with
  |normal=>simp only at h;injection h with h;injection h with q1 q2;subst q1;subst q2;exact hR a1 w1 iY
  |ret=>simp only at h;injection h with h;injection h with q1 q2;subst q1;subst q2;exact hR a1 w1 iY
  |exit i=>
   simp only at h
   simp only[uw,Exit.inBlock]
   cases hb:Nat.beq i id with
   |true=>
    rw[hb]at h
    simp only[cond_true]at h
    injection h with h;injection h with q1 q2;subst q1;subst q2
    rw[if_pos (abL hb)];exact hR a1 w1 iY
   |false=>
    rw[hb]at h
    simp only[cond_false]at h
    injection h with h;injection h with q1 q2;subst q1;subst q2
    rw[if_neg (fun e=>by rw[e,Nat.beq_refl]at hb;cases hb)]
    exact hR a1 w1 iY
 |exit id=>
  simp only[gQ]at h
  injection h with h;injection h with h1 h2;subst h1;subst h2
  exact wpIn_exit (hR a w hs)
 |ret=>
  simp only[gQ]at h
  injection h with h;injection h with h1 h2;subst h1;subst h2
  exact wpIn_ret (hR a w hs)
 |scope c=>
  simp only[gQ]at h
  refine xV (DW r n c s e s' h F hF hr g a w _ hs fun a1 w1 iY=>?_)
  cases e with
  |normal=>exact hR a1 w1 iY
  |ret=>exact hR a1 w1 iY
  |exit i=>exact hR a1 w1 iY
 |label l=>
  simp only[gQ]at h
  injection h with h;injection h with h1 h2;subst h1;subst h2
  exact wpIn_label (hR a w hs)
 |loop c=>
  simp only[gQ]at h
  have key:∀(k:Nat) (s:XS) (a:Act) (w:World),JP go r n c k s=.ok (e,s')->RX g n s a w->Code.roundsIn F 0 P c R k a w:=by
   intro k
   induction k with
   |zero=>intro s a w h;cases h
   |succ k ih=>
    intro s a w h hs
    simp only[JP]at h
    obtain⟨⟨e1,s1⟩,h1,h⟩:=ad h
    refine DW r n c s e1 s1 h1 F hF hr g a w _ hs fun a1 w1 iY=>?_
    cases e1 with
    |normal=>exact ih s1 a1 w1 h iY
    |ret=>simp only at h;injection h with h;injection h with q1 q2;subst q1;subst q2;exact hR a1 w1 iY
    |exit i=>simp only at h;injection h with h;injection h with q1 q2;subst q1;subst q2;exact hR a1 w1 iY
  exact wpIn_loop_rounds f (key f s a w h hs)
 |rangeFunc x ps as bd=>
  simp only[gQ]at h
  have hh:=aA h;clear h;obtain⟨hrt,h⟩:=hh
  have hFw:=hr hrt
  subst hFw
  obtain⟨⟨G,ai⟩,dz,hn⟩:=hs
  have hv:=AG (ρ:=s.ρ) (κ:=s.κ) (x:=x) s.ρ s.κ ⟨fun _ _=>rfl,fun _ _=>rfl⟩ g n a w G ai
  unfold Om JR at h
  generalize ev s.ρ s.κ x=vx at h hv
  generalize hx:a.eval x=y at hv
  split at h
  ·cases hv with|fn _ _ vs hl U7=>exact yt hT DW eV h ai dz hn hx ⟨hl,U7⟩ hR
  ·split at h
   ·cases hv with|dv hd=>cases hd with|fn _ _ vs hl U7=>exact yt hT DW eV h ai dz hn hx (jd ⟨hl,U7⟩) hR
   ·cases h
  ·cases h
 |goto l=>simp[gQ]at h
 |refuse w=>simp[gQ]at h
theorem E6(hT:fb P T)(hm:P.follows .mixedOrders=true)(eV:∀(g:Nat) (fn:Func),P.funcs[g]?=some fn->(fn.name== "runtime.NumGoroutine")=false)(pol:Nat->Bool):∀f,Lk P (On P T pol f)
 |0=>by intro r n c s e s' h;cases h
 |f+1=>Lm hT hm eV pol f (E6 hT hm eV pol f)
theorem Ln(hT:fb P T)(hm:P.follows .mixedOrders=true)(eV:∀(g:Nat) (fn:Func),P.funcs[g]?=some fn->(fn.name== "runtime.NumGoroutine")=false){pol:Nat->Bool}{f g:Nat}{args:List AV}{m:Nat}{K:ae}{rs:List AV}{K':ae}{ex:Nat}(h:VA P T pol f g args m K=.ok (rs,K',ex)):ar P g args m K ex rs K':=
 yq hT (E6 hT hm eV pol f) eV f g args m K (rs,K',ex) h
end
end
section
open Go.RowKit
variable [cn]
def xfz(r:XR (List AV×ae×Nat)):Option (List DV):=match r with
 |.ok q=>match uQ (aa q.2.1) q.1 with
  |some p=>some p.1
  |none=>none
 |.no _=>none
section
variable {P:Program} {T:List TI}
theorem E7{G:Gh}{ds:List DV}{vs:List Value}(h:fI G.M ds vs):cj G (yu ds) vs:=by
 refine⟨by rw[w5];simpa using h.1,fun j d v hd hv=>?_⟩
 rw[w5,abJ]at hd
 cases hj:ds[j]? with
 |none=>rw[hj]at hd;cases hd
 |some x=>
  rw[hj]at hd
  simp only[Option.map_some,Option.some.injEq]at hd
  subst hd
  exact p9 (h.2 j x v hj hv)
theorem qe(hT:fb P T)(hm:P.follows .mixedOrders=true)(eV:∀(g:Nat) (fn:Func),P.funcs[g]?=some fn->(fn.name== "runtime.NumGoroutine")=false){pol:Nat->Bool}{fuel f:Nat}{args rs:List DV}(h:xfz (VA P T pol fuel f (yu args) 0 [])=some rs):aI P f args rs:=by
 cases hx:VA P T pol fuel f (yu args) 0 []with
 |no y=>rw[hx]at h;simp[xfz]at h
 |ok r=>
  obtain⟨rs0,K',ex⟩:=r
  rw[hx]at h
  simp only[xfz]at h
  split at h
  ·rename_i p hp
   obtain⟨ds,ids⟩:=p
   injection h with h
   subst h
   have hc:=Ln hT hm eV hx
   obtain⟨jD,jJ⟩:=hc
   refine⟨jD,fun w M vs dX nF hr=>?_⟩
   let G0:Gh:=⟨M,fun _=>none,fun _ _ _ _=>none,fun _ _=>False⟩
   have hc:=jJ w G0 vs nF ⟨dX,fun i=>⟨rfl,fun _ _ _=>rfl⟩,fun i b ho=>ho.elim,fun i j b ho=>ho.elim⟩ (E7 (G:=G0) hr)
   refine hc.mono ?_
   rintro e w' ⟨v,rs1,K1,G',rfl,⟨rfl,rfl⟩,out⟩
   have cW:∀i b,cx G' i (aa K1 i) b->w.heap.size<=b:=fun i b ho=>by
    rcases out.EC i b ho with h|⟨j,h⟩
    ·exact h
    ·exact h.elim
   let g:dP:=⟨fun b=>∃i,cx G' i (aa K1 i) b,w',G'.M,0,fun _=>none,fun _ _=>none⟩
   have ai:cy g 0 (fun _=>.any) (aa K1) { tmps:=#[],defers:=[] } w' G':=by
    refine { fit:=out.fit,env:=fun t=>.any _,size:=rfl,zL:=fun _ _ _=>rfl,os:=rfl,tape:=rfl,output:=rfl,grow:=acb _,mem:=.refl _,nu:=fun _ _ _=>rfl,gB:=fun i b ho=>.inr ⟨i,ho⟩,fe:=fun i hi=>absurd hi (Nat.not_lt_zero _),wz:=fun i hi=>absurd hi (Nat.not_lt_zero _),oK:=nF.mono out.le,tR:=⟨[],rfl,List.nodup_nil,by simp⟩ }
   obtain⟨G2,hle,_,_,_,lD⟩:=ai.pX (κ:=aa K1) ids (fun _ _=>rfl)
   refine⟨v,G2.M,rfl,⟨out.os,out.tape,out.output,out.size,fun b hb=>(out.frame b hb (fun i h=>h.elim)).1⟩,out.le.trans hle.mem,lD.fit.sub,fun b hb=>?_,?_⟩
   ·have ca:b<w'.heap.size:=Nat.lt_of_lt_of_le hb out.size
    have e1:G2.M b=G'.M b:=lD.nu b ca fun⟨i,ho⟩=>by have:=cW i b ho;omega
    rw[e1]
    exact(out.frame b hb (fun i h=>h.elim)).2
   ·have key:∀us,cj G' rs1 us->fI G2.M ds us:=fun us hu=>km (κ:=aa K1) (κ':=aa K1) (all:=ids) (fun _ _=>rfl) hle lD.fit hp (fun _ h=>h) hu
    have hv:=out.res
    match rs1,hv,key with
    |[],hv,key=>
     cases hv with|fL _ us hl hr=>
     have hd:=key us ⟨hl,hr⟩
     have:us=[]:=by simpa using hl.symm
     subst this
     have:ds=[]:=by have:=hd.1;simpa using this
     subst this
     exact⟨[],rfl,hd⟩
    |[x],hv,key=>
     have hd:=key [v] ⟨rfl,fun j d u h1 h2=>by
      cases j with
      |zero=>simp at h1 h2;subst h1;subst h2;exact hv
      |succ j=>simp at h1⟩
     match ds,hd with
     |[],hd=>have:=hd.1;simp at this
     |[d],hd=>exact hd.2 0 d v rfl rfl
     |_::_::_,hd=>have:=hd.1;simp at this
    |x::y::r,hv,key=>
     cases hv with|fL _ us hl hr=>
     have hd:=key us ⟨hl,hr⟩
     have h2:ds.length=us.length:=hd.1
     match ds,hd,h2 with
     |[],hd,h2=>exfalso;rw[<-h2]at hl;simp at hl
     |[d],hd,h2=>exfalso;rw[<-h2]at hl;simp at hl
     |a::b::c,hd,h2=>exact⟨us,rfl,hd⟩
  ·cases h
end
end
section
open Go.RowKit
variable [cn]
end
section
open Go.RowKit
variable [cn]
inductive E8:aq->aq->Prop
 |refl (b:aq):E8 b b
 |omap (v e:Nat) (ks:KS) {m m':List DV} (h:m.Perm m'):E8 (.tree v e (.omap ks m)) (.tree v e (.omap ks m'))
def A9(k k':ae):Prop:=∀i,E8 (aa k i) (aa k' i)
theorem A9.refl(k:ae):A9 k k:=fun _=>.refl _
theorem A9.cons{i:Nat}{b b':aq}{k k':ae}(h:E8 b b')(t:A9 k k'):A9 ((i,b)::k) ((i,b')::k'):=fun j=>by
 simp only[aa]
 cases Nat.beq i j with
 |true=>exact h
 |false=>exact t j
theorem Ba{ks:KS}{m m':List DV}(hu:UK m)(hp:m.Perm m')(s:PS)(r:List PS):get (.omap ks m) (s::r)=get (.omap ks m') (s::r):=by
 have hs:step (.omap ks m) s=step (.omap ks m') s:=by
  cases s with
  |el i j=>rfl
  |key k j=>simp only[step,hu.mr hp k]
 simp only[get,hs]
theorem uR{ks:KS}{m m':List DV}(hu:UK m)(hp:m.Perm m'){p:List PS}{n:DV}(h:get (.omap ks m) p=some n)(hn:n.ao=true):∃n',get (.omap ks m') p=some n'/\n'.ao=true:=by
 cases p with
 |nil=>exact⟨_,rfl,rfl⟩
 |cons s r=>exact⟨n,by rw[<-Ba hu hp];exact h,hn⟩
theorem br.JW{M:Mem}{w:World}{H:List PS->Option Value}{ks:KS}{m m':List DV}(h:br M w H (.omap ks m))(hp:m.Perm m'):UK m/\br M w H (.omap ks m'):=by
 obtain⟨v,h1,h2,h3⟩:=h.2 [] _ rfl rfl
 have hu:=cD.uk h3
 refine⟨hu,rfl,fun p n hg hn=>?_⟩
 cases p with
 |nil=>
  have hg:DV.omap ks m'=n:=by simpa[get]using hg
  subst hg
  obtain⟨m0,q,rest⟩:=h3
  exact⟨v,h1,h2,m0,q.trans hp,rest⟩
 |cons s r=>
  rw[<-Ba hu hp]at hg
  exact h.2 _ n hg hn
theorem bA.JW{H:List PS->Option Value}{ks:KS}{m m':List DV}(hu:UK m)(hp:m.Perm m'){b:Nat}(h:bA H (.omap ks m) b):bA H (.omap ks m') b:=by
 obtain⟨p,n,v,h1,h2,h3,h4⟩:=h
 obtain⟨n',e1,e2⟩:=uR hu hp h1 h2
 exact⟨p,n',v,e1,e2,h3,h4⟩
theorem fM.Yz{G:Gh}{w:World}{i:Nat}{b c:aq}(h:fM G w i b)(p:E8 b c):fM G w i c/\∀x,cx G i c x↔cx G i b x:=by
 cases p with
 |refl=>exact⟨h,fun _=>Iff.rfl⟩
 |omap v e ks hp=>
  obtain⟨h1,h2,h3,h4⟩:=h
  obtain⟨hu,ht⟩:=h1.JW hp
  have XB:=hu.perm hp
  refine⟨⟨ht,fun p q n m u v b e1 e2 e3 e4 e5 e6 e7 e8=>?_,h3,h4⟩,fun x=>⟨fun o=>bA.JW XB hp.symm o,fun o=>bA.JW hu hp o⟩⟩
  obtain⟨n',a1,a2⟩:=uR XB hp.symm e1 e2
  obtain⟨m',b1,b2⟩:=uR XB hp.symm e5 e6
  exact h2 p q n' m' u v b a1 a2 e3 e4 b1 b2 e7 e8
theorem rH{P:Program}{f:Nat}{args:List AV}{m:Nat}{K:ae}{ex:Nat}{rs:List AV}{K0:ae}(h:bV P f args m K ex fun r k=>r=rs/\A9 k K0):ar P f args m K ex rs K0:=by
 refine⟨h.1,fun w G vs nF cP hr=>?_⟩
 refine Calls.mono (h.2 w G vs nF cP hr) ?_
 rintro e w' ⟨v,r,k,G',rfl,⟨rfl,hp⟩,hc⟩
 have hb:=fun i=>(hc.fit.box i).Yz (hp i)
 refine⟨v,r,K0,G',rfl,⟨rfl,rfl⟩,{ hc with fit:=⟨hc.fit.sub,fun i=>(hb i).1,fun i b o=>hc.fit.own i b (((hb i).2 b).1 o),fun i j b o o'=>hc.fit.inj i j b (((hb i).2 b).1 o) (((hb j).2 b).1 o')⟩,no:=fun i hi=>?_,EC:=fun i b o=>hc.EC i b (((hb i).2 b).1 o) }⟩
 have h1:=hc.no i hi
 have h2:=hp i
 rw[h1]at h2
 generalize aa K0 i=c at h2
 cases h2
 rfl
end
section
open Go.RowKit
variable [cn]
mutual
theorem JX{m:Nat}{κ κ':Nat->aq}:∀(v w:AV),j4 m κ v=w->fG m κ κ' w v
 |.any,_,rfl=>trivial
 |.dv d,_,rfl=>DV.Le.refl d
 |.ptr i o,_,rfl=>rfl
 |.own i v e p,w,h=>by
  simp only[j4]at h
  split at h
  ·rename_i v' e' d hk
   cases hb:Nat.beq v v'&&(emp p||Nat.beq e e')with
   |true=>rw[hb]at h;subst h;show j4 m κ (.own i v e p)=_;simp only[j4,hk,hb];rfl
   |false=>rw[hb]at h;subst h;exact trivial
  ·rename_i hk
   cases hb:Nat.beq v 0&&(emp p||Nat.beq e 0)with
   |true=>rw[hb]at h;subst h;show j4 m κ (.own i v e p)=_;simp only[j4,hk,hb];rfl
   |false=>rw[hb]at h;subst h;exact trivial
  ·subst h;exact trivial
 |.loc i v e p a b c,w,h=>by
  have h2:=h
  simp only[j4]at h
  split at h
  ·rename_i v' e' d hk
   cases hb:Nat.beq v v'&&(emp p||Nat.beq e e')with
   |true=>rw[hb]at h;subst h;exact h2
   |false=>rw[hb]at h;subst h;exact trivial
  ·subst h;exact trivial
 |.pre i v e p a b c,w,h=>by
  have h2:=h
  simp only[j4]at h
  split at h
  ·rename_i v' e' d hk
   cases hb:Nat.beq v v'&&(emp p||Nat.beq e e')with
   |true=>rw[hb]at h;subst h;exact h2
   |false=>rw[hb]at h;subst h;exact trivial
  ·subst h;exact trivial
 |.fn f l,_,rfl=>⟨rfl,gC l _ rfl⟩
 |.jV f l,_,rfl=>⟨rfl,gC l _ rfl⟩
 |.agg l,_,rfl=>gC l _ rfl
 |.fL l,_,rfl=>gC l _ rfl
 |.opt _ _,_,rfl=>trivial
 |.eN _,_,rfl=>rfl
 |.sle _ _,_,rfl=>rfl
 |.cq i v,w,h=>by
  have h2:=h
  simp only[j4]at h
  split at h
  ·rename_i v' e' d hk
   cases hb:Nat.beq v v' with
   |true=>rw[hb]at h;subst h;exact h2
   |false=>rw[hb]at h;subst h;exact trivial
  ·subst h;exact trivial
theorem gC{m:Nat}{κ κ':Nat->aq}:∀(l r:List AV),k8 m κ l=r->dT m κ κ' r l
 |[],_,rfl=>trivial
 |v::l,_,rfl=>⟨JX v _ rfl,gC l _ rfl⟩
end
def VI(m:Nat)(κ:Nat->aq)(ρ:Nat->AV):Env->Env
 |[]=>[]
 |p::r=>(p.1,j4 m κ (ρ p.1))::VI m κ ρ r
def YA(m i:Nat)(κ:Nat->aq):aq->aq
 |.cells l=>.cells (k8 m κ l)
 |.tree V E d=>.tree (jh m i V E).1 (jh m i V E).2 d
 |.fz V d=>.fz (jh m i V 0).1 d
 |.c8 rc st l=>.c8 rc st (k8 m κ l)
 |.dead=>.dead
 |.held=>.held
 |_=>.none
def Lo(m:Nat)(κ:Nat->aq):ae->ae
 |[]=>[]
 |p::r=>(p.1,YA m p.1 κ (κ p.1))::Lo m κ r
theorem JY{m:Nat}{κ κ':Nat->aq}{ρ:Nat->AV}:∀{e e':Env},VI m κ ρ e=e'->Nn m ρ κ κ' e'
 |[],_,rfl=>trivial
 |(t,v)::r,_,rfl=>⟨JX _ _ rfl,JY (e:=r) rfl⟩
theorem nR{m i:Nat}{κ κ':Nat->aq}{b b':aq}(h:YA m i κ b=b'):oA m κ κ' i b b':=by
 subst h
 cases b with
 |cells l=>exact gC l _ rfl
 |tree V E d=>exact⟨rfl,rfl⟩
 |fz V d=>exact⟨rfl,DV.Le.refl d⟩
 |c8 rc st l=>exact⟨rfl,rfl,gC l _ rfl⟩
 |_=>exact trivial
theorem bp{m:Nat}{κ κ':Nat->aq}:∀{k k':ae},Lo m κ k=k'->oB m κ κ' k'
 |[],_,rfl=>trivial
 |(i,b)::r,_,rfl=>⟨nR rfl,bp (k:=r) rfl⟩
theorem jn{m:Nat}{env:Env}{K:ae}{s:cG}(h1:VI m (aa K) (look env) s.env=s.env)(h2:Lo m (aa K) s.K=s.K)(h3:Aa (aa s.K) (AL (look env) (aa K) s.env++dG (aa K) s.K)=true)(h4:vK (aa K) (aa s.K) m=true):cG.sub m env K s:=
 ⟨JY h1,bp h2,h3,h4⟩
theorem ext{m ex:Nat}{κ:Nat->aq}{jt rs:List AV}{K':ae}(h0:o9 m ex κ jt rs K'=true)(h1:k8 m κ jt=rs)(h2:Lo m κ K'=K'):∃vF YB,(vF=rs/\YB=K')/\o9 m ex κ jt vF YB=true/\dT m κ (aa YB) vF jt/\oB m κ (aa YB) YB:=
 ⟨rs,K',⟨rfl,rfl⟩,h0,gC _ _ h1,bp h2⟩
theorem cl{P:Program}{f:Nat}{n nx:Nat}{o:Oper}{g:Bool}{κ:Nat->aq}{k:kN->Nat->Prop}{args bP:List AV}{K0:ae}{ex:Nat}{rs:List AV}{K1:ae}(σ:List Nat)(hs:ar P f bP σ.length K0 ex rs K1)
 (h0:(gI κ σ nx args bP K0&&fZ σ ex K0 K1 rs)=true) (h1:k8 0 κ args=dA (sg σ nx) dp bP) (h2:Lo 0 κ (bW (sg σ nx) dp K0)=bW (sg σ nx) dp K0)
 (h:o6 (mn (sg σ nx) (j5 κ σ) (qv rs)) fun v=>qF v fun v=>o5 (bW (sg σ nx) (j5 κ σ) K1++kB κ (dh κ (dA (sg σ nx) dp bP) args++dG κ (bW (sg σ nx) dp K0))) fun bx=>xU bx fun bx=>
  yk n o g (nx+ex) k v bx (σ++(dh κ (dA (sg σ nx) dp bP) args++dG κ (bW (sg σ nx) dp K0))++kX nx ex)):jX none (bV P f) n o g nx κ k args:=by
 simp only[acj]at h0
 exact⟨σ,bP,K0,ex,rs,K1,hs,by rw[h0.1];rfl,h0.2,gC _ _ h1,bp h2,h⟩
end
section
open Go.RowKit
variable [cn]
end
section
open Go.RowKit
variable [cn]
section
variable {g:dP} {n:Nat} {ρ:Nat->AV} {κ κ':Nat->aq} {a:Act} {w w':World} {G:Gh}
end
end
section
open Go.RowKit
variable [cn]
end
section
open Go.RowKit
variable [cn]
inductive iV(i v e:Nat):List AV->List AV->Prop
 |nil:iV i v e [] []
 |same (x:AV) {l l':List AV} (h:iV i v e l l'):iV i v e (x::l) (x::l')
 |sb {l l':List AV} (h:iV i v e l l'):iV i v e (.own i 0 0 []::l) (.own i v e []::l')
inductive RZ(i v e:Nat):aq->aq->Prop
 |refl (b:aq):RZ i v e b b
 |cells {l l':List AV} (h:iV i v e l l'):RZ i v e (.cells l) (.cells l')
def aaC(i v e:Nat)(k k':ae):Prop:=∃d,aa k i=.tree 0 0 d/\aa k' i=.tree v e d/\∀j,j≠i->RZ i v e (aa k j) (aa k' j)
theorem iV.refl(i v e:Nat):∀l,iV i v e l l
 |[]=>.nil
 |x::l=>.same x (iV.refl i v e l)
theorem iV.len{i v e:Nat}{l l':List AV}(h:iV i v e l l'):l.length=l'.length:=by
 induction h with
 |nil=>rfl
 |same x _ ih=>simp[ih]
 |sb _ ih=>simp[ih]
theorem iV.aj{i v e:Nat}{l l':List AV}(h:iV i v e l l')(hc:∀v,v∈l->v.aj=true):∀v,v∈l'->v.aj=true:=by
 induction h with
 |nil=>exact hc
 |same x _ ih=>
  intro y hy
  rcases abO.1 hy with rfl|hy
  ·exact hc _ abT
  ·exact ih (fun z hz=>hc z (abP _ hz)) y hy
 |sb _ ih=>
  intro y hy
  rcases abO.1 hy with rfl|hy
  ·rfl
  ·exact ih (fun z hz=>hc z (abP _ hz)) y hy
theorem iV.at{i v e:Nat}{l l':List AV}(h:iV i v e l l'):∀(j:Nat) (d:AV),l'[j]?=some d->l[j]?=some d\/(l[j]?=some (.own i 0 0 [])/\d=.own i v e []):=by
 induction h with
 |nil=>intro j d hd;simp at hd
 |same x _ ih=>
  intro j d hd
  cases j with
  |zero=>exact .inl hd
  |succ j=>simp only[List.getElem?_cons_succ]at hd⊢;exact ih j d hd
 |sb _ ih=>
  intro j d hd
  cases j with
  |zero=>simp at hd;exact .inr ⟨rfl,hd.symm⟩
  |succ j=>simp only[List.getElem?_cons_succ]at hd⊢;exact ih j d hd
def E9(H:Nat->Nat->Nat->List PS->Option Value)(i v e:Nat):Nat->Nat->Nat->List PS->Option Value:=
 fun j v' e' p=>if j=i/\v'=v/\e'=e then H i 0 0 p else H j v' e' p
def jK(G:Gh)(i v e:Nat):Gh:={ G with H:=E9 G.H i v e }
theorem HO(H:Nat->Nat->Nat->List PS->Option Value)(i v e j v' e':Nat)(hn:j≠i):aH (E9 H i v e) j v' e'=aH H j v' e':=by
 funext p
 cases p with
 |nil=>show(if _ then _ else _)=_;rw[if_neg (fun h=>hn h.1)];rfl
 |cons s p=>show(if _ then _ else _)=_;rw[if_neg (fun h=>hn h.1)];rfl
theorem Lp(H:Nat->Nat->Nat->List PS->Option Value)(i v e j:Nat)(OC:(v=0/\e=1)\/(v=1/\e=0)):aH (E9 H i v e) j 0 0=aH H j 0 0:=by
 funext p
 cases p with
 |nil=>show(if _ then _ else _)=_;rw[if_neg (fun h=>by omega)];rfl
 |cons s p=>show(if _ then _ else _)=_;rw[if_neg (fun h=>by omega)];rfl
theorem Bb(H:Nat->Nat->Nat->List PS->Option Value)(i v e:Nat)(OC:(v=0/\e=1)\/(v=1/\e=0)):aH (E9 H i v e) i v e=aH H i 0 0:=by
 funext p
 cases p with
 |nil=>
  show(if i=i/\v=v/\0=e then H i 0 0 []else H i v 0 [])=H i 0 0 []
  rcases OC with⟨rfl,rfl⟩|⟨rfl,rfl⟩
  ·rw[if_neg (by omega)]
  ·rw[if_pos ⟨rfl,rfl,rfl⟩]
 |cons s p=>show(if i=i/\v=v/\e=e then _ else _)=_;rw[if_pos ⟨rfl,rfl,rfl⟩];rfl
theorem R3{G:Gh}{i v e:Nat}(OC:(v=0/\e=1)\/(v=1/\e=0))(h1:∀v,0<v->∀e p,G.H i v e p=none)(h2:∀e,0<e->∀p,G.H i 0 e p=none):Gh.Le G (jK G i v e):=by
 refine⟨Mem.Le.refl _,fun _ _ h=>h,fun j v' e' p x hx=>?_⟩
 show(if j=i/\v'=v/\e'=e then _ else _)=_
 rw[if_neg]
 ·exact hx
 ·rintro⟨rfl,rfl,rfl⟩
  rcases OC with⟨rfl,rfl⟩|⟨rfl,rfl⟩
  ·rw[h2 1 (by omega)]at hx;cases hx
  ·rw[h1 1 (by omega)]at hx;cases hx
theorem OD{G:Gh}{w:World}{i v e j:Nat}{b b':aq}(OC:(v=0/\e=1)\/(v=1/\e=0))(hle:Gh.Le G (jK G i v e))(hj:j≠i)(hb:fM G w j b)(hr:RZ i v e b b'):
 fM (jK G i v e) w j b'/\∀x,cx (jK G i v e) j b' x↔cx G j b x:=by
 have cW:∀v' e' p,(jK G i v e).H j v' e' p=G.H j v' e' p:=fun v' e' p=>by
  show(if _ then _ else _)=_;rw[if_neg (fun h=>hj h.1)]
 have hh:∀v' e',aH (jK G i v e).H j v' e'=aH G.H j v' e':=fun v' e'=>HO G.H i v e j v' e' hj
 cases hr with
 |cells h=>
  obtain⟨b,c,t,h1,h2,h3,h4,h5⟩:=hb
  refine⟨⟨b,c,t,h1,h2,by rw[h3];exact h.len,h.aj h4,fun q d u hd hu=>?_⟩,fun x=>Iff.rfl⟩
  rcases h.at q d hd with h6|⟨h6,rfl⟩
  ·exact(h5 q d u h6 hu).mono hle
  ·have h7:=h5 q _ u h6 hu
   cases h7 with
   |own _ _ _ _ _ h8 h9=>
    refine .own _ _ _ _ _ ?_ h9
    show aH (E9 G.H i v e) i v e []=_
    rw[Bb _ _ _ _ OC];exact h8
 |refl=>
  cases b with
  |none=>exact⟨⟨hb.1,fun v' e' p=>by rw[cW];exact hb.2 v' e' p⟩,fun x=>Iff.rfl⟩
  |dead=>exact⟨tv,fun x=>Iff.rfl⟩
  |cells l=>
   obtain⟨b,c,t,h1,h2,h3,h4,h5⟩:=hb
   exact⟨⟨b,c,t,h1,h2,h3,h4,fun q d u hd hu=>(h5 q d u hd hu).mono hle⟩,fun x=>Iff.rfl⟩
  |tree ver ep d=>
   obtain⟨h1,h2,h3,h4⟩:=hb
   refine⟨⟨by rw[hh];exact h1,by rw[hh];exact h2,fun v' hv e' p=>by rw[cW];exact h3 v' hv e' p,fun e' he p=>by rw[cW];exact h4 e' he p⟩,fun x=>?_⟩
   show bA (aH (jK G i v e).H j ver ep) d x↔bA (aH G.H j ver ep) d x
   rw[hh]
  |fz ver d=>
   obtain⟨u,h1,h2,h3⟩:=hb
   exact⟨⟨u,by rw[cW];exact h1,h2,h3⟩,fun x=>Iff.rfl⟩
  |c8 rc st l=>
   obtain⟨b,fn,tmps,D,h1,h2,h3⟩:=hb
   exact⟨⟨b,fn,tmps,D,h1,h2,h3.mono hle⟩,fun x=>Iff.rfl⟩
  |held=>exact⟨⟨fun v' hv e' p=>by rw[cW];exact hb.1 v' hv e' p,fun e' he p=>by rw[cW];exact hb.2 e' he p⟩,fun x=>Iff.rfl⟩
  |kz k p d left cur=>
   have h0:aH (jK G i v e).H k 0 0=aH G.H k 0 0:=Lp G.H i v e k OC
   obtain⟨r,mb,es,clock,seen,ks,m,hi⟩:=hb
   refine⟨⟨r,mb,es,clock,seen,ks,m,⟨hi.fe,hi.it,by rw[h0];exact hi.tree,by rw[h0];exact hi.inj,hi.node,by rw[h0];exact hi.head,hi.map,hi.left,hi.cur⟩⟩,fun x=>?_⟩
   show(bA (aH (jK G i v e).H k 0 0) d x\/_)↔_
   rw[h0];exact Iff.rfl
end
section
open Go.RowKit
variable [cn]
end
section
open Go.RowKit
variable [cn]
def CM:List AV->Bool
 |[]=>true
 |.dv _::r=>CM r
 |_=>false
theorem Bc:∀{l:List AV},CM l=true->∀(j:Nat) (d:AV),l[j]?=some d->∃x,d=.dv x
 |.dv x::r,h,0,d,hd=>by simp at hd;exact⟨x,hd.symm⟩
 |.dv x::r,h,j+1,d,hd=>Bc (l:=r) h j d (by simpa using hd)
def yv:List AV->Bool
 |[]=>true
 |.dv _::r=>yv r
 |.ptr _ _::r=>yv r
 |_::_=>false
theorem uS:∀{l:List AV},yv l=true->∀(j:Nat) (d:AV),l[j]?=some d->(∃x,d=.dv x)\/∃i o,d=.ptr i o
 |.dv x::r,h,0,d,hd=>by simp at hd;exact .inl ⟨x,hd.symm⟩
 |.dv x::r,h,j+1,d,hd=>uS (l:=r) h j d (by simpa using hd)
 |.ptr i o::r,h,0,d,hd=>by simp at hd;exact .inr ⟨i,o,hd.symm⟩
 |.ptr i o::r,h,j+1,d,hd=>uS (l:=r) h j d (by simpa using hd)
def Bd(i:Nat):AV->Bool
 |.any=>true
 |.dv _=>true
 |.agg l=>CM l
 |.ptr _ _=>true
 |.eN _=>true
 |.fn _ l=>yv l
 |.own j _ _ _=>!Nat.beq j i
 |_=>false
def yw(i:Nat):List AV->Bool
 |[]=>true
 |v::r=>Bd i v&&yw i r
def VJ(i:Nat):aq->Bool
 |.none=>true
 |.dead=>true
 |.cells l=>yw i l
 |.tree _ _ _=>true
 |.c8 _ _ l=>yw i l
 |_=>false
theorem rI{i:Nat}:∀{l:List AV},yw i l=true->∀v,v∈l->Bd i v=true
 |x::r,h,v,hv=>by
  simp only[yw,acj]at h
  rcases abO.1 hv with rfl|hv
  ·exact h.1
  ·exact rI h.2 v hv
abbrev vS:=Nat->Nat->List PS->Option Value
def gD(G:Gh)(i:Nat)(Hi:vS):Gh:={ G with H:=fun j=>if j=i then Hi else G.H j }
theorem hJ{G:Gh}{i j:Nat}{Hi:vS}(h:j≠i):(gD G i Hi).H j=G.H j:=by
 show(if j=i then Hi else G.H j)=_;rw[if_neg h]
theorem jm{G:Gh}{i:Nat}{Hi:vS}:(gD G i Hi).H i=Hi:=by
 show(if i=i then Hi else G.H i)=_;rw[if_pos rfl]
theorem qf{G:Gh}{i j:Nat}{Hi:vS}(h:j≠i)(v e:Nat):aH (gD G i Hi).H j v e=aH G.H j v e:=by
 funext p
 cases p with
 |nil=>show(gD G i Hi).H j v 0 []=_;rw[hJ h];rfl
 |cons s p=>show(gD G i Hi).H j v e (s::p)=_;rw[hJ h];rfl
theorem yx{G:Gh}{i:Nat}{Hi:vS}{a:AV}{x:Value}(ha:Bd i a=true)(h:aG G a x):aG (gD G i Hi) a x:=by
 cases h with
 |dv hd=>exact .dv hd
 |agg l vs hl hr=>
  refine .agg l vs hl fun j d v hd hv=>?_
  obtain⟨x,rfl⟩:=Bc (show CM l=true from ha) j d hd
  cases hr j _ v hd hv with|dv h=>exact .dv h
 |any=>exact .any _
 |eN j l h=>exact .eN j l h
 |fn f l vs hl hr=>
  refine .fn f l vs hl fun j d v hd hv=>?_
  rcases uS (show yv l=true from ha) j d hd with⟨x,rfl⟩|⟨q,o,rfl⟩
  ·cases hr j _ v hd hv with|dv h=>exact .dv h
  ·cases hr j _ v hd hv with|ptr _ _ b hb=>exact .ptr _ _ b hb
 |ptr j off b hb=>exact .ptr j off b hb
 |own j ver ep p _ hv hc=>
  have hj:j≠i:=by
   rintro rfl
   simp only[Bd,acm]at ha
   have:Nat.beq j j=true:=Nat.beq_refl j
   rw[this]at ha;cases ha
  exact .own j ver ep p _ (by rw[qf hj];exact hv) hc
 |_=>cases ha
theorem R4{G:Gh}{w:World}{i j:Nat}{Hi:vS}{b:aq}(hj:j≠i)(hb:VJ i b=true)(h:fM G w j b):fM (gD G i Hi) w j b:=by
 cases b with
 |none=>exact⟨h.1,fun v e p=>by rw[hJ hj];exact h.2 v e p⟩
 |dead=>trivial
 |cells l=>
  obtain⟨b,c,t,h1,h2,h3,h4,h5⟩:=h
  exact⟨b,c,t,h1,h2,h3,h4,fun q d u hd hu=>yx (rI hb d (abK hd)) (h5 q d u hd hu)⟩
 |tree ver ep d=>
  obtain⟨h1,h2,h3,h4⟩:=h
  exact⟨by rw[qf hj];exact h1,by rw[qf hj];exact h2,fun v hv e p=>by rw[hJ hj];exact h3 v hv e p,fun e he p=>by rw[hJ hj];exact h4 e he p⟩
 |c8 rc st l=>
  obtain⟨b,fn,tmps,D,h1,h2,h3⟩:=h
  exact⟨b,fn,tmps,D,h1,h2,h3.1,fun q d u hd hu=>yx (rI hb d (abK hd)) (h3.2 q d u hd hu)⟩
 |_=>cases hb
theorem R5{G:Gh}{i j:Nat}{Hi:vS}{b:aq}(hj:j≠i)(hb:VJ i b=true)(x:Nat):cx (gD G i Hi) j b x↔cx G j b x:=by
 cases b with
 |none=>exact Iff.rfl
 |dead=>exact Iff.rfl
 |cells l=>exact Iff.rfl
 |tree ver ep d=>show bA (aH (gD G i Hi).H j ver ep) d x↔bA (aH G.H j ver ep) d x;rw[qf hj]
 |c8 rc st l=>exact Iff.rfl
 |_=>cases hb
end
end Go.TM
