import Derived.Test.YtknnpcfhekkjjaaGreatDoorFM14
import Derived.RangeFuncRecord
set_option linter.all false
namespace Go.TM
section
open Go.RowKit
variable [cn]
def rn:Nat->List DV->Env
 |_,[]=>[]
 |i,d::r=>(i,cY d)::rn (i+1) r
def Rz(T:List TI)(ρ:Nat->AV)(κ:Nat->aq):ResultVar->(DV->Prop)->Prop
 |.tmp t,k=>match toArg κ (ρ t)with
  |some (d,_)=>k d
  |none=>False
 |.cell t ty,k=>bif (nth T ty).ok then match res κ (ρ t)with
  |.ptr i off=>match κ i with
   |.cells l=>ct (nth T ty).agg l off (nth T ty).size fun v=>match toArg κ v with
    |some (d,_)=>k d
    |none=>False
   |_=>False
  |_=>False
  else False
def Ex(T:List TI)(ρ:Nat->AV)(κ:Nat->aq):List ResultVar->List DV->Prop
 |[],[]=>True
 |v::r,d::ds=>Rz T ρ κ v (fun d'=>d'.Le d)/\Ex T ρ κ r ds
 |_,_=>False
def di:Nat->List AV->Env
 |_,[]=>[]
 |i,v::r=>(i,v)::di (i+1) r
def Cr(T:List TI)(ρ:Nat->AV)(κ:Nat->aq):List ResultVar->(List AV->Prop)->Prop
 |[],k=>k []
 |.tmp t::r,k=>force (res κ (ρ t)) fun v=>Cr T ρ κ r fun l=>k (v::l)
 |.cell t ty::r,k=>bif (nth T ty).ok then match res κ (ρ t)with
  |.ptr i off=>match κ i with
   |.cells l=>ct (nth T ty).agg l off (nth T ty).size fun v=>Cr T ρ κ r fun l=>k (v::l)
   |_=>False
  |_=>False
  else False
def o9(m ex:Nat)(κ:Nat->aq)(jt rs:List AV)(K':ae):Bool:=
 Tz (m+ex) (aa K') K'&&AV.Jp (aa K') rs&&Aa (aa K') (dh κ rs jt++dG κ K')&&vK κ (aa K') m
def Nu(T:List TI)(fn:Func)(m ex:Nat)(R:List AV->ae->Prop)(env:Env)(K:ae):Prop:=
 Cr T (look env) (aa K) fn.results.toList fun jt=>∃rs K',R rs K'/\o9 m ex (aa K) jt rs K'=true/\dT m (aa K) (aa K') rs jt/\oB m (aa K) (aa K') K'
def pb(T:List TI)(fn:Func)(m ex:Nat)(R:List AV->ae->Prop)(e:AX)(_nx:Nat)(env:Env)(K:ae):Prop:=
 match e with
 |.normal=>Nu T fn m ex R env K
 |.ret=>Nu T fn m ex R env K
 |.exit _=>False
def TD(T:List TI)(fn:Func)(rs:List DV)(e:AX)(_nx:Nat)(env:Env)(K:ae):Prop:=
 match e with
 |.normal=>Ex T (look env) (aa K) fn.results.toList rs
 |.ret=>Ex T (look env) (aa K) fn.results.toList rs
 |.exit _=>False
section
variable {P:Program} {C:dP->Prop} {T:List TI} {n:Nat} {g:dP}
theorem putObj_size(w:World)(b:Nat)(o:Obj):(w.putObj b o).heap.size=w.heap.size:=by simp[World.putObj]
theorem ga(w:World){b k:Nat}(o:Obj)(h:k≠b):(w.putObj b o).heap[k]?=w.heap[k]?:=by
 simp only[World.putObj]
 rw[Array.getElem?_setIfInBounds_ne (fun e=>h e.symm)]
theorem cy.shut{ρ:Nat->AV}{κ:Nat->aq}{a:Act}{w:World}{G:Gh}(h:cy g n ρ κ a w G){D:List Nat}{r:Nat}(hD:a.defers=(r::D).map mark):
 w.heap[r]?=some (.deferred (some []))/\cy g n ρ κ { a with defers:=D.map mark } (w.putObj r (.deferred none)) G:=by
 obtain⟨D',h1,h2,h3⟩:=h.tR
 have hDD:D'=r::D:=by
  rw[h1]at hD
  have inj:∀x y:Nat,mark x=mark y->x=y:=fun x y e=>by simp only[mark,Deferred.mk.injEq,Target.collected.injEq]at e;exact e.1
  have:∀(l l':List Nat),l.map mark=l'.map mark->l=l':=by
   intro l
   induction l with
   |nil=>intro l' e;cases l' with
    |nil=>rfl
    |cons=>simp at e
   |cons x l ih=>intro l' e;cases l' with
    |nil=>simp at e
    |cons y l'=>simp only[List.map_cons,List.cons.injEq]at e;rw[inj x y e.1,ih l' e.2]
  exact this _ _ hD
 subst hDD
 obtain⟨a1,a2,a3,a4⟩:=h3 r (by simp)
 have b7:∀i b,cx G i (κ i) b->b≠r:=fun i b ho e=>a2 i (e▸ho)
 have dX:G.M.In (w.putObj r (.deferred none)):=fun b o hb=>by
  rw[ga _ _ (fun e=>by rw[e,a3]at hb;cases hb)];exact h.fit.sub b o hb
 refine⟨a1,{ h with fit:=⟨dX,fun i=>(h.fit.box i).jW (.refl G) rfl (fun _=>⟨fun _ h=>h,fun _ _ _ _ h=>h⟩) (fun b hb=>ga _ _ (b7 i b hb)) dX (h.fit.own i) (by rw[putObj_size];exact acb _),h.fit.own,h.fit.inj⟩,zL:=fun b hb hO=>by rw[ga _ _ (by omega)];exact h.zL b hb hO,os:=h.os,tape:=h.tape,output:=h.output,grow:=by rw[putObj_size];exact h.grow,tR:=?_ }⟩
 refine⟨D,rfl,(List.nodup_cons.1 h2).2,fun q hq=>?_⟩
 obtain⟨b1,b2,b3,b4⟩:=h3 q (by simp[hq])
 have hqr:q≠r:=fun e=>(List.nodup_cons.1 h2).1 (by rw[<-e];exact hq)
 exact⟨by rw[ga _ _ hqr];exact b1,b2,b3,b4⟩
theorem cy.leave{ρ:Nat->AV}{κ:Nat->aq}{G:Gh}{F:Fence}{fn:Func}{R:Ending->World->Prop}(tmps:Array Value)(oC:∀w',cy g n ρ κ { tmps:=tmps,defers:=[] } w' G->∃v,(results fn tmps).run P w'=.ok v w'/\R (.returned v) w'):
 ∀(D:List Nat) (w:World),cy g n ρ κ { tmps:=tmps,defers:=D.map mark } w G->LeavesInM F 0 P fn tmps R (D.map mark) .returning w
 |[],w,h=>oC w h
 |r::D,w,h=>by
  obtain⟨h1,h2⟩:=h.shut (D:=D) (r:=r) rfl
  exact⟨by simp,.inl ⟨r,_,rfl,run_takeDeferred h1,cy.leave tmps oC D _ h2⟩⟩
theorem xY:∀(ds:List DV) (s t:Nat),look (rn s ds) t=if s<=t then(match ds[t-s]? with|some d=>cY d|none=>.any)else .any
 |[],s,t=>by simp[rn,look]
 |d::r,s,t=>by
  simp only[rn,look]
  rw[xY r (s+1) t]
  by_cases h1:s=t
  ·subst h1;simp
  ·have hb:Nat.beq s t=false:=by cases hb:Nat.beq s t with|false=>rfl|true=>exact absurd (abL hb) h1
   rw[hb]
   by_cases h2:s<=t
   ·have e:t-s=t-(s+1)+1:=by omega
    rw[if_pos h2,if_pos (by omega),e];simp
   ·rw[if_neg h2,if_neg (by omega)];simp
theorem Ey(hT:fb P T){ρ:Nat->AV}{κ:Nat->aq}{a:Act}{w:World}{G:Gh}(ai:cy g n ρ κ a w G){rv:ResultVar}{q:DV->Prop}(h:Rz T ρ κ rv q):
 ∃(d:DV) (ids:List Nat),q d/\∃v,(match rv with| .tmp t=>pure (a.tmps.getD t undef)| .cell t ty=>do loadVar ty (<-asAddr (a.tmps.getD t undef)):Sem Value).run P w=.ok v w/\
  ∀(all:List Nat) (G':Gh),(∀i,i∈ids->i∈all)->Gh.Le G G'->Fit G' w (ay κ (kB κ all))->bu G'.M d v:=by
 cases rv with
 |tmp t=>
  simp only[Rz]at h
  split at h
  ·rename_i d ids hd
   refine⟨d,ids,h,_,rfl,fun all G' hs hle lD=>pc (κ:=κ) (κ':=κ) (fun _ _=>rfl) hle lD hd hs (ai.env t)⟩
  ·exact h.elim
 |cell t ty=>
  simp only[Rz]at h
  have hh:=aJ h;clear h;obtain⟨cr,h⟩:=hh
  split at h
  ·rename_i i off hr
   split at h
   ·rename_i l hk
    obtain⟨av,h,hp⟩:=dY h
    split at h
    ·rename_i d ids hd
     have hv:=xZ ai.fit (ai.env t)
     rw[hr]at hv
     have ux:=ai.fit.box i
     rw[hk]at ux
     obtain⟨b,c,tt,lC,hw,aV,mq,uy⟩:=ux
     generalize hx:a.tmps.getD t undef=x at hv
     cases hv with|ptr _ _ b' dV=>
     rw[lC]at dV;injection dV with dV;subst dV
     have hA:(⟨b,off,none⟩:Addr)=(⟨b,0,none⟩:Addr).add off:=by rw[eO];simp
     obtain⟨v,h1,h2⟩:=kW (P:=P) (av:=av) (w:=w) (G:=G) (l:=l) (off:=off) hT cr ⟨b,0,none⟩ (fun j=>c.getD j undef) (fun j hj=>by
      rw[eO]
      simp[World.cell?,hw,aV,hj]) (fun j d hd=>by
      have hj:j<l.length:=(abI.1 hd).1
      exact uy j d _ hd (by simp[aV,hj])) hp
     rw[<-hA]at h1
     refine⟨d,ids,h,v,?_,fun all G' hs hle lD=>pc (κ:=κ) (κ':=κ) (fun _ _=>rfl) hle lD hd hs h2⟩
     simp only[Instr.loadAt,Instr.sureAddr,Sem.run_bind,Sem.run_pure,Result.andThen_ok]at h1
     simp only[hx,asAddr,Sem.run_bind,Sem.run_pure,Result.andThen_ok]
     exact h1
    ·exact h.elim
   ·exact h.elim
  ·exact h.elim
theorem x3(hT:fb P T){ρ:Nat->AV}{κ:Nat->aq}{a:Act}{w:World}{G:Gh}(ai:cy g n ρ κ a w G):∀{Nv:List ResultVar} {rs:List DV},Ex T ρ κ Nv rs->
 ∃(ids:List Nat) (us:List Value),((Nv.mapM fun| .tmp t=>pure (a.tmps.getD t undef)| .cell t ty=>do loadVar ty (<-asAddr (a.tmps.getD t undef))):Sem (List Value)).run P w=.ok us w/\
  ∀(all:List Nat) (G':Gh),(∀i,i∈ids->i∈all)->Gh.Le G G'->Fit G' w (ay κ (kB κ all))->fI G'.M rs us
 |[],[],_=>⟨[],[],rfl,fun _ G' _ _ _=>.nil G'.M⟩
 |[],_::_,h=>h.elim
 |_::_,[],h=>h.elim
 |rv::Nv,r::rs,⟨h1,h2⟩=>by
  obtain⟨d,ids,hle,v,aX,hd⟩:=Ey hT ai h1
  obtain⟨aas,us,Nw,zM⟩:=x3 hT ai h2
  refine⟨ids++aas,v::us,?_,fun all G' hs hm lD=>.cons (hle G'.M v (hd all G' (fun i hi=>hs i (by simp[hi])) hm lD)) (zM all G' (fun i hi=>hs i (by simp[hi])) hm lD)⟩
  rw[List.mapM_cons]
  simp only[Sem.run_bind]
  rw[aX]
  simp only[Result.andThen_ok,Sem.run_bind,Nw,Sem.run_pure]
theorem pd:∀(ds:List AV) (s t:Nat),look (di s ds) t=if s<=t then(match ds[t-s]? with|some d=>d|none=>.any)else .any
 |[],s,t=>by simp[di,look]
 |d::r,s,t=>by
  simp only[di,look]
  rw[pd r (s+1) t]
  by_cases h1:s=t
  ·subst h1;simp
  ·have hb:Nat.beq s t=false:=by cases hb:Nat.beq s t with|false=>rfl|true=>exact absurd (abL hb) h1
   rw[hb]
   by_cases h2:s<=t
   ·have e:t-s=t-(s+1)+1:=by omega
    rw[if_pos h2,if_pos (by omega),e];simp
   ·rw[if_neg h2,if_neg (by omega)];simp
theorem wW(hT:fb P T){ρ:Nat->AV}{κ:Nat->aq}{a:Act}{w:World}{G:Gh}(ai:cy g n ρ κ a w G):∀{Nv:List ResultVar} {q:List AV->Prop},Cr T ρ κ Nv q->
 ∃(jt:List AV) (us:List Value),q jt/\((Nv.mapM fun| .tmp t=>pure (a.tmps.getD t undef)| .cell t ty=>do loadVar ty (<-asAddr (a.tmps.getD t undef))):Sem (List Value)).run P w=.ok us w/\cj G jt us
 |[],q,h=>⟨[],[],h,rfl,rfl,by simp⟩
 |.tmp t::Nv,q,h=>by
  simp only[Cr,force_eq]at h
  obtain⟨jt,us,hq,aX,hc⟩:=wW hT ai h
  have hv:=xZ ai.fit (ai.env t)
  refine⟨_,a.tmps.getD t undef::us,hq,?_,by simpa using hc.1,fun j d u hd hu=>?_⟩
  ·rw[List.mapM_cons]
   simp only[Sem.run_bind,Sem.run_pure,Result.andThen_ok,aX]
  ·cases j with
   |zero=>
    rw[List.getElem?_cons_zero]at hd hu
    injection hd with hd;injection hu with hu;subst hd;subst hu;exact hv
   |succ j=>exact hc.2 j d u (by simpa using hd) (by simpa using hu)
 |.cell t ty::Nv,q,h=>by
  simp only[Cr]at h
  have hh:=aJ h;clear h;obtain⟨cr,h⟩:=hh
  split at h
  ·rename_i i off hr
   split at h
   ·rename_i l hk
    obtain⟨av,h,hp⟩:=dY h
    obtain⟨jt,us,hq,aX,hc⟩:=wW hT ai h
    have hv:=xZ ai.fit (ai.env t)
    rw[hr]at hv
    have ux:=ai.fit.box i
    rw[hk]at ux
    obtain⟨b,c,tt,lC,hw,aV,mq,uy⟩:=ux
    generalize hx:a.tmps.getD t undef=x at hv
    cases hv with|ptr _ _ b' dV=>
    rw[lC]at dV;injection dV with dV;subst dV
    have hA:(⟨b,off,none⟩:Addr)=(⟨b,0,none⟩:Addr).add off:=by rw[eO];simp
    obtain⟨v,h1,h2⟩:=kW (P:=P) (av:=av) (w:=w) (G:=G) (l:=l) (off:=off) hT cr ⟨b,0,none⟩ (fun j=>c.getD j undef) (fun j hj=>by
     rw[eO]
     simp[World.cell?,hw,aV,hj]) (fun j d hd=>by
     have hj:j<l.length:=(abI.1 hd).1
     exact uy j d _ hd (by simp[aV,hj])) hp
    rw[<-hA]at h1
    refine⟨_,v::us,hq,?_,by simpa using hc.1,fun j d u hd hu=>?_⟩
    ·simp only[Instr.loadAt,Instr.sureAddr,Sem.run_bind,Sem.run_pure,Result.andThen_ok]at h1
     rw[List.mapM_cons]
     have X3:((do loadVar ty (<-asAddr (a.tmps.getD t undef))):Sem Value).run P w=.ok v w:=by
      simp only[hx,asAddr,Sem.run_bind,Sem.run_pure,Result.andThen_ok];exact h1
     rw[Sem.run_bind]
     simp only
     rw[X3]
     simp only[Result.andThen_ok,Sem.run_bind,aX,Sem.run_pure]
    ·cases j with
     |zero=>simp at hd hu;subst hd;subst hu;exact h2
     |succ j=>exact hc.2 j d u (by simpa using hd) (by simpa using hu)
   ·exact h.elim
  ·exact h.elim
theorem pe{fn:Func}{tmps:Array Value}{w:World}{us:List Value}(aX:((fn.results.toList.mapM fun| .tmp t=>pure (tmps.getD t undef)| .cell t ty=>do loadVar ty (<-asAddr (tmps.getD t undef))):Sem (List Value)).run P w=.ok us w):
 (results fn tmps).run P w=.ok (if h:us.toArray.size=1 then us.toArray[0]else .tuple us.toArray) w:=by
 have mE:((fn.results.mapM fun| .tmp t=>pure (tmps.getD t undef)| .cell t ty=>do loadVar ty (<-asAddr (tmps.getD t undef))):Sem (Array Value)).run P w=.ok us.toArray w:=by
  rw[Array.mapM_eq_mapM_toList,Sem.run_map,aX]
  rfl
 unfold results
 rw[Sem.run_bind]
 exact congrArg (fun r=>Result.andThen r (fun(vs:Array Value) w=>(pure (if h:vs.size=1 then vs[0]else .tuple vs):Sem Value).run P w)) mE
theorem Ez(hT:fb P T)(hm:P.follows .mixedOrders=true)(hC:dc P (fun _=>True))(Jw:jF P){f:Nat}{fn:Func}{c:Code}{args rs:List DV}(hf:P.funcs[f]?=some fn)(hb:fn.body=some c)(eV:(fn.name== "runtime.NumGoroutine")=false)
 (bN:Nat.ble args.length fn.ntmps=true) (h:fm P T .fn fn.ntmps 0 c (TD T fn rs) 0 (rn 0 args) []):aI P f args rs:=by
 refine⟨⟨fn,hf,eV,by rw[hb];rfl⟩,fun w M vs dX nF hr=>?_⟩
 refine(gX.calls (n:=0)).1 (callsIn_of_wp_marks hf hb trivial ?_)
 have hlen:vs.length<=fn.ntmps:=by rw[<-hr.1];exact Nat.le_of_ble_eq_true bN
 let g:dP:=⟨fun _=>False,w,M,0,fun _=>none,fun _ _=>none⟩
 let G0:Gh:=⟨M,fun _=>none,fun _ _ _ _=>none,fun _ _=>False⟩
 have ai:cy g fn.ntmps (look (rn 0 args)) (aa []) { tmps:=vs.toArray++Array.replicate (fn.ntmps-vs.toArray.size) undef,defers:=[] } w G0:=by
  refine { fit:=⟨dX,fun i=>⟨rfl,fun _ _ _=>rfl⟩,fun i b ho=>ho.elim,fun i j b ho=>ho.elim⟩,env:=fun t=>?_,size:=by simp;omega,zL:=fun _ _ _=>rfl,os:=rfl,tape:=rfl,output:=rfl,grow:=acb _,mem:=.refl M,nu:=fun _ _ _=>rfl,gB:=fun i b ho=>ho.elim,fe:=fun i hi=>absurd hi (Nat.not_lt_zero _),wz:=fun i hi=>absurd hi (Nat.not_lt_zero _),oK:=nF,tR:=⟨[],rfl,List.nodup_nil,by simp⟩ }
  rw[xY]
  simp only[abW,if_true,Nat.sub_zero]
  split
  ·rename_i d hd
   have ht:t<vs.length:=by rw[<-hr.1];exact(abI.1 hd).1
   have hv:vs[t]?=some (vs[t]'ht):=aaj ht
   have:(vs.toArray++Array.replicate (fn.ntmps-vs.toArray.size) undef).getD t undef=vs[t]'ht:=by
    rw[abS,Array.getElem?_append_left (by simpa using ht)]
    simp[hv]
   rw[this]
   exact p9 (hr.2 t d _ hd hv)
  ·exact .any _
 refine lO (g:=g) hT hm hC Jw trivial gX (fun _=>rfl) (acb _) c h ⟨⟨G0,ai⟩,acb _,fun _ _=>rfl⟩ fun e nx env K a w' hq hs=>?_
 obtain⟨⟨G1,gr⟩,_⟩:=hs
 have fin:Ex T (look env) (aa K) fn.results.toList rs->LeavesInM Fence.wide 0 P fn a.tmps (fun e w'=>∃v M',e=.returned v/\Below w.heap.size w w'/\Mem.Le M M'/\M'.In w'/\(∀b,b<w.heap.size->M' b=M b)/\x4 M' rs v) a.defers .returning w':=by
  intro je
  obtain⟨D,hD,_⟩:=gr.tR
  rw[hD]
  refine cy.leave (g:=g) (n:=fn.ntmps) (ρ:=look env) (κ:=aa K) (G:=G1) a.tmps (fun w2 rj=>?_) D w' (by have:=gr;rw[<-hD];exact this)
  obtain⟨ids,us,aX,zM⟩:=x3 hT rj je
  obtain⟨G2,hle,_,_,_,lD⟩:=rj.pX (κ:=aa K) ids (fun _ _=>rfl)
  have aH:=zM ids G2 (fun i hi=>hi) hle lD.fit
  have Vc:Below w.heap.size w w2:=⟨lD.os,lD.tape,lD.output,lD.grow,fun b hb=>lD.zL b hb (fun h=>h)⟩
  refine⟨_,pe aX,_,G2.M,rfl,Vc,lD.mem,lD.fit.sub,fun b hb=>lD.nu b hb (fun h=>h),?_⟩
  have rp:us.length=rs.length:=aH.1.symm
  have many:us.length≠1->∃us':List Value,(if h:us.toArray.size=1 then us.toArray[0]else Value.tuple us.toArray)=.tuple us'.toArray/\fI G2.M rs us':=by
   intro b7
   refine⟨us,?_,aH⟩
   rw[dif_neg (by simpa using b7)]
  match rs,aH,rp,many with
  |[],aH,rp,many=>exact many (by simp at rp;simp[rp])
  |[d],aH,rp,_=>
   match us,rp,aH with
   |[u],_,aH=>exact aH.2 0 d u rfl rfl
  |_::_::_,aH,rp,many=>exact many (by simp at rp;omega)
 cases e with
 |normal=>exact fin hq
 |ret=>exact fin hq
 |exit i=>exact hq.elim
theorem AO{rm:RM}(hrm:rm.U5=true)(hT:fb P T)(hm:P.follows .mixedOrders=true)(hC:dc P (fun _=>True))(Jw:jF P){f:Nat}{fn:Func}{c:Code}{args:List AV}{m ex:Nat}{K:ae}{R:List AV->ae->Prop}(hf:P.funcs[f]?=some fn)(hb:fn.body=some c)(eV:(fn.name== "runtime.NumGoroutine")=false)
 (bN:(Nat.ble args.length fn.ntmps&&cG.wf ⟨m,di 0 args,K⟩)=true) (h:fm P T rm fn.ntmps m c (pb T fn m ex R) m (di 0 args) K):bV P f args m K ex R:=by
 refine⟨⟨fn,hf,eV,by rw[hb];rfl⟩,fun w G vs nF cP hr=>?_⟩
 refine(gX.calls (n:=0)).1 (callsIn_of_wp_marks hf hb trivial ?_)
 simp only[acj,cG.wf]at bN
 obtain⟨hlen,hwB,hwE⟩:=bN
 have hlen:vs.length<=fn.ntmps:=by rw[<-hr.1];exact Nat.le_of_ble_eq_true hlen
 let g:dP:=⟨fun b=>∃i,cx G i (aa K i) b,w,G.M,m,G.β,fun i p=>G.H i 0 0 p⟩
 have ai:cy g fn.ntmps (look (di 0 args)) (aa K) { tmps:=vs.toArray++Array.replicate (fn.ntmps-vs.toArray.size) undef,defers:=[] } w G:=by
  refine { fit:=cP,env:=fun t=>?_,size:=by simp;omega,zL:=fun _ _ _=>rfl,os:=rfl,tape:=rfl,output:=rfl,grow:=acb _,mem:=.refl G.M,nu:=fun _ _ _=>rfl,gB:=fun i b ho=>.inr ⟨i,ho⟩,fe:=fun _ _=>rfl,wz:=fun _ _ _ _ hx=>hx,oK:=nF,tR:=⟨[],rfl,List.nodup_nil,by simp⟩ }
  rw[pd]
  simp only[abW,if_true,Nat.sub_zero]
  split
  ·rename_i d hd
   have ht:t<vs.length:=by rw[<-hr.1];exact(abI.1 hd).1
   have hv:vs[t]?=some (vs[t]'ht):=aaj ht
   have:(vs.toArray++Array.replicate (fn.ntmps-vs.toArray.size) undef).getD t undef=vs[t]'ht:=by
    rw[abS,Array.getElem?_append_left (by simpa using ht)]
    simp[hv]
   rw[this]
   exact hr.2 t d _ hd hv
  ·exact .any _
 refine lO (g:=g) hT hm hC Jw trivial gX (fun _=>rfl) (r:=rm) (acb _) c h ⟨⟨G,ai⟩,acb _,fun i hi=>mD hwB hi⟩ fun e nx env K1 a w' hq hs=>?_
 obtain⟨⟨G1,gr⟩,_⟩:=hs
 have fin:Nu T fn m ex R env K1->LeavesInM Fence.wide 0 P fn a.tmps (fun e w'=>∃v rs K' G',e=.returned v/\R rs K'/\KU m ex (aa K) w G rs (aa K') w' G' v) a.defers .returning w':=by
  intro je
  obtain⟨D,hD,_⟩:=gr.tR
  rw[hD]
  refine cy.leave (g:=g) (n:=fn.ntmps) (ρ:=look env) (κ:=aa K1) (G:=G1) a.tmps (fun w2 rj=>?_) D w' (by have:=gr;rw[<-hD];exact this)
  obtain⟨jt,us,⟨rs,K2,hR,fo,hsV,Jx⟩,aX,hrel⟩:=wW hT rj je
  simp only[o9,acj]at fo
  obtain⟨⟨⟨EA,Nx⟩,dQ⟩,oj⟩:=fo
  obtain⟨G2,_,KB,Nt⟩:=rj.sub (m:=m) (acb _) (F:=dh (aa K1) rs jt++dG (aa K1) K2) EA (fun i hi=>abQ.2 (.inr hi)) dQ oj Jx
  have aH:=KB rs jt us hsV Nx (fun i hi=>abQ.2 (.inl hi)) hrel
  have j6:=Nt (fun _=>.any) (fun _=>.any _)
  refine⟨_,pe aX,_,rs,K2,G2,rfl,hR,⟨j6.fit,fun i hi=>mD EA hi,?_,j6.mem,j6.fe,j6.wz,fun b hb hO=>⟨j6.zL b hb (fun⟨i,h⟩=>hO i h),j6.nu b hb (fun⟨i,h⟩=>hO i h)⟩,j6.gB,j6.os,j6.tape,j6.output,j6.grow⟩⟩
  have rp:us.length=rs.length:=aH.1.symm
  have many:us.length≠1->aG G2 (.fL rs) (if h:us.toArray.size=1 then us.toArray[0]else Value.tuple us.toArray):=by
   intro b7
   rw[dif_neg (by simpa using b7)]
   exact .fL rs us aH.1 aH.2
  match rs,aH,rp,many with
  |[],aH,rp,many=>exact many (by simp at rp;simp[rp])
  |[d],aH,rp,_=>
   match us,rp,aH with
   |[u],_,aH=>exact aH.2 0 d u rfl rfl
  |_::_::_,aH,rp,many=>exact many (by simp at rp;omega)
 cases e with
 |normal=>exact fin hq
 |ret=>exact fin hq
 |exit i=>exact hq.elim
theorem mF(hT:fb P T)(hm:P.follows .mixedOrders=true)(hC:dc P (fun _=>True))(Jw:jF P){f:Nat}{fn:Func}{c:Code}{args:List AV}{m ex:Nat}{K:ae}{R:List AV->ae->Prop}(hf:P.funcs[f]?=some fn)(hb:fn.body=some c)(eV:(fn.name== "runtime.NumGoroutine")=false)
 (bN:(Nat.ble args.length fn.ntmps&&cG.wf ⟨m,di 0 args,K⟩)=true) (h:fm P T .fn fn.ntmps m c (pb T fn m ex R) m (di 0 args) K):bV P f args m K ex R:=
 AO (rm:=.fn) rfl hT hm hC Jw hf hb eV bN h
theorem Ho(hT:fb P T)(hm:P.follows .mixedOrders=true)(hC:dc P (fun _=>True))(Jw:jF P){f:Nat}{fn:Func}{c:Code}{args:List AV}{m ex:Nat}{K:ae}{R:List AV->ae->Prop}(hf:P.funcs[f]?=some fn)(hb:fn.body=some c)(eV:(fn.name== "runtime.NumGoroutine")=false)
 (bN:(Nat.ble args.length fn.ntmps&&cG.wf ⟨m,di 0 args,K⟩)=true) (h:fm P T .rel fn.ntmps m c (pb T fn m ex R) m (di 0 args) K):bV P f args m K ex R:=
 AO (rm:=.rel) rfl hT hm hC Jw hf hb eV bN h
theorem Ny(hT:fb P T)(hm:P.follows .mixedOrders=true)(hC:dc P (fun _=>True))(Jw:jF P){f:Nat}{fn:Func}{c:Code}{args:List AV}{m ex:Nat}{K:ae}{rs:List AV}{K':ae}(hf:P.funcs[f]?=some fn)(hb:fn.body=some c)(eV:(fn.name== "runtime.NumGoroutine")=false)
 (bN:(Nat.ble args.length fn.ntmps&&cG.wf ⟨m,di 0 args,K⟩)=true) (h:fm P T .fn fn.ntmps m c (pb T fn m ex fun r k=>r=rs/\k=K') m (di 0 args) K):ar P f args m K ex rs K':=
 mF hT hm hC Jw hf hb eV bN h
theorem Hp(hT:fb P T)(hm:P.follows .mixedOrders=true)(hC:dc P (fun _=>True))(Jw:jF P){f:Nat}{fn:Func}{c:Code}{args:List AV}{m ex:Nat}{K:ae}{rs:List AV}{K':ae}(hf:P.funcs[f]?=some fn)(hb:fn.body=some c)(eV:(fn.name== "runtime.NumGoroutine")=false)
 (bN:(Nat.ble args.length fn.ntmps&&cG.wf ⟨m,di 0 args,K⟩)=true) (h:fm P T .rel fn.ntmps m c (pb T fn m ex fun r k=>r=rs/\k=K') m (di 0 args) K):ar P f args m K ex rs K':=
 Ho hT hm hC Jw hf hb eV bN h
end
end
section
open Go.RowKit
variable [cn]
theorem jG(v e:Nat):oD (0,0) v e=(v,e):=by cases v<;>simp[oD]
theorem gP:∀(K:ae),aa K=ay (fun _=>.none) K
 |[]=>rfl
 |(i,b)::K=>by
  funext t
  simp only[aa,ay,iS,gP K]
  by_cases h:t=i
  ·subst h;simp
  ·rw[if_neg h];simp[beq_false h]
theorem qa{r:Nat->Nat}{sh:Nat->Nat×Nat}(gn:∀i j,r i=r j->i=j)(f:Nat->aq):∀(K:ae) (j:Nat),ay f (bW r sh K) (r j)=if j∈keys K then sI r sh j (aa K j)else f (r j)
 |[],j=>by simp[bW,ay,keys]
 |(i,b)::K,j=>by
  simp only[bW,ay]
  by_cases e:j=i
  ·subst e;simp[keys,aa]
  ·have:r j≠r i:=fun h=>e (gn _ _ h)
   rw[ah _ _ this,qa gn f K j]
   simp only[aa,beq_false e,cond_false]
   by_cases hj:j∈keys K
   ·rw[if_pos hj,if_pos (by simp only[keys,List.map_cons,abO];exact .inr hj)]
   ·rw[if_neg hj,if_neg (by simp only[keys,List.map_cons,abO,not_or];exact⟨e,hj⟩)]
theorem om{r:Nat->Nat}{sh:Nat->Nat×Nat}(f:Nat->aq):∀(K:ae) (i:Nat),(∀j,j∈keys K->r j≠i)->ay f (bW r sh K) i=f i
 |[],i,_=>rfl
 |(j,b)::K,i,h=>by
  simp only[bW,ay]
  rw[ah _ _ (fun e=>h j (by simp[keys]) e.symm)]
  exact om f K i fun q hq=>h q (by simp only[keys,List.map_cons,abO];exact .inr hq)
theorem c5{m:Nat}:∀{K:ae},l9 m K=true->∀j,j∈keys K->j<m
 |[],_,j,h=>by simp[keys]at h
 |(i,b)::K,hk,j,h=>by
  simp only[l9,acj,Nat.blt_eq]at hk
  simp only[keys,List.map_cons,abO]at h
  rcases h with rfl|h
  ·exact hk.1
  ·exact c5 hk.2 j h
theorem gY:∀{K:ae} {j:Nat},j∉keys K->aa K j=.none
 |[],_,_=>rfl
 |(i,b)::K,j,h=>by
  simp only[keys,List.map_cons,abO,not_or]at h
  simp only[aa]
  rw[beq_false h.1]
  exact gY h.2
theorem mG{r:Nat->Nat}{sh:Nat->Nat×Nat}:∀{K:ae} {i:Nat} {b:aq},(i,b)∈bW r sh K->∃j,j∈keys K/\i=r j
 |[],i,b,h=>by simp[bW]at h
 |(j,c)::K,i,b,h=>by
  simp only[bW,abO]at h
  rcases h with h|h
  ·injection h with e1 e2;exact⟨j,by simp[keys],e1⟩
  ·obtain⟨q,h1,h2⟩:=mG h;exact⟨q,by simp only[keys,List.map_cons,abO];exact .inr h1,h2⟩
theorem vM{γ:Type _}(f:Nat->γ):∀(l l':List (Nat×γ)),ay f (l++l')=ay (ay f l') l
 |[],_=>rfl
 |(i,x)::l,l'=>by simp only[List.cons_append,ay,vM f l l']
theorem kf:∀{σ:List Nat} {nx j:Nat} (h:j<σ.length),sg σ nx j=σ[j]
 |[],_,j,h=>by simp at h
 |i::σ,nx,0,_=>rfl
 |i::σ,nx,j+1,h=>by simp only[sg,List.getElem_cons_succ];exact kf (by simpa using h)
theorem jH:∀{σ:List Nat} {nx j:Nat},σ.length<=j->sg σ nx j=nx+(j-σ.length)
 |[],_,j,_=>by simp[sg]
 |i::σ,nx,0,h=>by simp at h
 |i::σ,nx,j+1,h=>by
  simp only[sg,List.length_cons]
  rw[jH (by simpa using h)]
  simp
theorem ji{κ:Nat->aq}:∀{σ:List Nat} {nx:Nat},Jy κ σ nx=true->(∀i,i∈σ->i<nx)/\σ.Nodup
 |[],_,_=>⟨by simp,List.nodup_nil⟩
 |i::σ,nx,h=>by
  simp only[Jy,acj,Nat.blt_eq,acm]at h
  obtain⟨h1,h2⟩:=ji h.2
  exact⟨fun j hj=>by rcases abO.1 hj with rfl|hj;exact h.1.1;exact h1 j hj,List.nodup_cons.2 ⟨fj h.1.2,h2⟩⟩
theorem Nz{κ:Nat->aq}:∀{σ:List Nat} {j:Nat} (h:j<σ.length),j5 κ σ j=NA (κ σ[j])
 |[],j,h=>by simp at h
 |i::σ,0,_=>rfl
 |i::σ,j+1,h=>by simp only[j5,List.getElem_cons_succ];exact Nz (by simpa using h)
theorem Jz{κ:Nat->aq}:∀{σ:List Nat} {j:Nat},σ.length<=j->j5 κ σ j=(0,0)
 |[],_,_=>rfl
 |i::σ,0,h=>by simp at h
 |i::σ,j+1,h=>by simp only[j5];exact Jz (by simpa using h)
def pos:List Nat->Nat->Option Nat
 |[],_=>none
 |x::l,i=>if x=i then some 0 else(pos l i).map (·+1)
def kg(σ:List Nat)(nx ex i:Nat):Option Nat:=match pos σ i with
 |some j=>some j
 |none=>if nx<=i/\i<nx+ex then some (σ.length+(i-nx))else none
theorem x5:∀{σ:List Nat} {i j:Nat},pos σ i=some j->∃h:j<σ.length,σ[j]=i
 |[],i,j,h=>by simp[pos]at h
 |x::l,i,j,h=>by
  simp only[pos]at h
  split at h
  ·rename_i e;injection h with h;subst h;exact⟨by simp,e⟩
  ·cases hp:pos l i with
   |none=>rw[hp]at h;simp at h
   |some q=>rw[hp]at h;simp at h;subst h;obtain⟨h1,h2⟩:=x5 hp;exact⟨by simpa using h1,by simpa using h2⟩
theorem pos_at:∀{σ:List Nat} (hn:σ.Nodup) {j:Nat} (h:j<σ.length),pos σ σ[j]=some j
 |[],_,j,h=>by simp at h
 |x::l,hn,0,h=>by simp[pos]
 |x::l,hn,j+1,h=>by
  have GP:=List.nodup_cons.1 hn
  have hj:j<l.length:=by simpa using h
  simp only[List.getElem_cons_succ,pos]
  rw[if_neg (fun e=>GP.1 (by rw[e];exact acf hj)),pos_at GP.2 hj]
  rfl
theorem NB{σ:List Nat}{i:Nat}(h:i∉σ):pos σ i=none:=by
 cases hp:pos σ i with
 |none=>rfl
 |some j=>obtain⟨h1,h2⟩:=x5 hp;exact absurd (h2▸acf h1) h
theorem NC{σ:List Nat}{nx:Nat}(h1:∀i,i∈σ->i<nx)(h2:σ.Nodup)(i j:Nat)(h:sg σ nx i=sg σ nx j):i=j:=by
 rcases ab1 i σ.length with hi|hi
 ·rcases ab1 j σ.length with hj|hj
  ·rw[kf hi,kf hj]at h
   have e1:=pos_at h2 hi;have e2:=pos_at h2 hj;rw[h,e2]at e1;injection e1 with e1;exact e1.symm
  ·rw[kf hi,jH hj]at h
   have:=h1 _ (acf hi);omega
 ·rcases ab1 j σ.length with hj|hj
  ·rw[jH hi,kf hj]at h
   have:=h1 _ (acf hj);omega
  ·rw[jH hi,jH hj]at h;omega
theorem RA{σ:List Nat}{nx ex:Nat}(h1:∀i,i∈σ->i<nx)(h2:σ.Nodup){j:Nat}(hj:j<σ.length+ex):kg σ nx ex (sg σ nx j)=some j:=by
 unfold kg
 rcases ab1 j σ.length with au|gH
 ·rw[kf au,pos_at h2 au]
 ·rw[jH gH,NB (fun hm=>by have:=h1 _ hm;omega)]
  simp only
  rw[if_pos (by omega)]
  congr 1
  omega
theorem jk{σ:List Nat}{nx ex i j:Nat}(h:kg σ nx ex i=some j):j<σ.length+ex/\sg σ nx j=i:=by
 unfold kg at h
 split at h
 ·rename_i q hq
  injection h with h;subst h
  obtain⟨h1,h2⟩:=x5 hq
  exact⟨by omega,by rw[kf h1];exact h2⟩
 ·split at h
  ·rename_i hr
   injection h with h;subst h
   refine⟨by omega,?_⟩
   rw[jH (by omega)];omega
  ·cases h
def pull(r:Nat->Nat)(G:Gh):Gh:=⟨G.M,fun j=>G.β (r j),fun j=>G.H (r j),fun j=>G.X (r j)⟩
theorem mI(r:Nat->Nat)(G:Gh)(j v e:Nat):aH (pull r G).H j v e=aH G.H (r j) v e:=by
 funext p;cases p<;>rfl
theorem ND{r:Nat->Nat}{G:Gh}:∀N:Nat,(∀(u:AV) (x:Value),SizeOf.sizeOf u<N->aG G (mn r dp u) x->aG (pull r G) u x)/\
 (∀(us:List AV) (xs:List Value),SizeOf.sizeOf us<N->cj G (dA r dp us) xs->cj (pull r G) us xs):=by
 intro N
 induction N with
 |zero=>exact⟨fun _ _ h=>by omega,fun _ _ h=>by omega⟩
 |succ N ih=>
  refine⟨fun u x aV hv=>?_,fun us xs aV hr=>?_⟩
  ·cases u with
   |any=>exact .any _
   |dv d=>simp only[mn]at hv;cases hv with|dv h=>exact .dv h
   |ptr i off=>simp only[mn]at hv;cases hv with|ptr _ _ b h=>exact .ptr i off b h
   |eN i=>simp only[mn]at hv;cases hv with|eN _ b h=>exact .eN i b h
   |sle i n=>simp only[mn]at hv;cases hv with|sle _ _ b h=>exact .sle i n b h
   |cq i v=>simp only[mn,dp,jG]at hv;cases hv with|cq _ _ a n h=>exact .cq i v a n h
   |own i v e p=>
    simp only[mn,dp,jG]at hv
    cases hv with|own _ _ _ _ _ h hc=>exact .own i v e p x (by rw[mI];exact h) hc
   |loc i v e p a b c=>
    simp only[mn,dp,jG]at hv
    cases hv with
    |loc _ _ _ _ _ _ _ A q q' h=>exact .loc i v e p a b c A q q' (by rw[mI];exact h)
    |qo _ _ _ _ _ _ _ A h=>exact .qo i v e p a b c A (by rw[mI];exact h)
   |pre i v e p a b c=>
    simp only[mn,dp,jG]at hv
    cases hv with
    |pre _ _ _ _ _ _ _ q q' h=>exact .pre i v e p a b c q q' fun hn=>by obtain⟨A,N,c',e1,e2⟩:=h hn;exact⟨A,N,c',by rw[mI];exact e1,e2⟩
   |fn f l=>simp only[mn]at hv;cases hv with|fn _ _ vs hl hr=>have:=ih.2 l vs (by simp at aV;omega) ⟨hl,hr⟩;exact .fn f l vs this.1 this.2
   |jV f l=>simp only[mn]at hv;cases hv with|jV _ _ vs hl hr=>have:=ih.2 l vs (by simp at aV;omega) ⟨hl,hr⟩;exact .jV f l vs this.1 this.2
   |agg l=>simp only[mn]at hv;cases hv with|agg _ vs hl hr=>have:=ih.2 l vs (by simp at aV;omega) ⟨hl,hr⟩;exact .agg l vs this.1 this.2
   |fL l=>simp only[mn]at hv;cases hv with|fL _ vs hl hr=>have:=ih.2 l vs (by simp at aV;omega) ⟨hl,hr⟩;exact .fL l vs this.1 this.2
   |opt g v=>simp only[mn]at hv;cases hv with|opt _ _ _ h hu=>exact .opt g v x (fun hg=>ih.1 v x (by simp at aV;omega) (h hg)) hu
  ·cases us with
   |nil=>exact⟨hr.1,by simp⟩
   |cons u us=>
    simp only[dA]at hr
    match xs,hr with
    |[],hr=>have:=hr.1;simp at this
    |x::xs,hr=>
     have h1:=ih.1 u x (by simp at aV;omega) (hr.2 0 _ x rfl rfl)
     have h2:=ih.2 us xs (by simp at aV;omega) ⟨by simpa using hr.1,fun q e y he hy=>hr.2 (q+1) e y (by simpa using he) (by simpa using hy)⟩
     refine⟨by simp[h2.1],fun j d y hd hy=>?_⟩
     cases j with
     |zero=>simp at hd hy;subst hd;subst hy;exact h1
     |succ j=>exact h2.2 j d y (by simpa using hd) (by simpa using hy)
theorem pf(r:Nat->Nat)(sh:Nat->Nat×Nat):∀l,(dA r sh l).length=l.length
 |[]=>rfl
 |v::l=>by simp[dA,pf r sh l]
theorem x6(r:Nat->Nat)(sh:Nat->Nat×Nat):∀(l:List AV) (j:Nat),(dA r sh l)[j]?=(l[j]?).map (mn r sh)
 |[],j=>by simp[dA]
 |v::l,0=>by simp[dA]
 |v::l,j+1=>by simp[dA,x6 r sh l j]
theorem Hq(r:Nat->Nat)(sh:Nat->Nat×Nat)(v:AV):(mn r sh v).aj=v.aj:=by cases v<;>simp[mn,AV.aj]
theorem RD{r:Nat->Nat}(gn:∀i j,r i=r j->i=j){G:Gh}{w:World}{K:ae}(hf:Fit G w (aa (bW r dp K)))(hk:∀j,j∈keys K->aa K j≠.none)(eb:∀j,j∈keys K->∀a b c d e,aa K j≠.kz a b c d e)(hkh:∀j,j∈keys K->aa K j≠.held)(hc:∀(j:Nat) (l:List AV),aa K j=.cells l->b8 l=true):
 Fit (pull r G) w (aa K)/\∀j b,cx (pull r G) j (aa K j) b->j∈keys K/\cx G (r j) (aa (bW r dp K) (r j)) b:=by
 have dw:∀j,aa (bW r dp K) (r j)=if j∈keys K then sI r dp j (aa K j)else .none:=fun j=>by
  rw[gP];exact qa gn _ K j
 have gw:∀j b,cx (pull r G) j (aa K j) b->j∈keys K/\cx G (r j) (aa (bW r dp K) (r j)) b:=by
  intro j b ho
  by_cases hj:j∈keys K
  ·refine⟨hj,?_⟩
   rw[dw,if_pos hj]
   cases hl:aa K j with
   |cells l=>rw[hl]at ho;exact ho
   |tree v e d=>
    rw[hl]at ho
    simp only[sI,dp,jG,cx]at ho⊢
    rw[mI]at ho;exact ho
   |c8 rc st l=>rw[hl]at ho;exact ho
   |kz a b c d e=>exact absurd hl (eb j hj a b c d e)
   |_=>rw[hl]at ho;exact ho.elim
  ·rw[gY hj]at ho;exact ho.elim
 refine⟨⟨hf.sub,fun j=>?_,fun j b ho=>hf.own _ b (gw j b ho).2,fun i j b hi hj=>gn i j (hf.inj _ _ b (gw i b hi).2 (gw j b hj).2)⟩,gw⟩
 have hb:=hf.box (r j)
 rw[dw]at hb
 by_cases hj:j∈keys K
 ·rw[if_pos hj]at hb
  cases hl:aa K j with
  |none=>exact absurd hl (hk j hj)
  |dead=>trivial
  |cells l=>
   rw[hl]at hb
   obtain⟨b,c,t,h1,h2,h3,h4,h5⟩:=hb
   refine⟨b,c,t,h1,h2,by rw[h3,pf],fS (hc j l hl),fun q d v hd hv=>?_⟩
   exact(ND (r:=r) (SizeOf.sizeOf d+1)).1 d v (by omega) (h5 q _ v (by rw[x6,hd];rfl) hv)
  |tree v e d=>
   rw[hl]at hb
   simp only[sI,dp,jG]at hb
   simp only[fM]at hb⊢
   rw[mI]
   exact hb
  |fz v d=>
   rw[hl]at hb
   simp only[sI,dp,jG]at hb
   exact hb
  |c8 rc st l=>
   rw[hl]at hb
   obtain⟨b,fn,tmps,D,h1,h2,h3⟩:=hb
   exact⟨b,fn,tmps,D,h1,h2,(ND (r:=r) (SizeOf.sizeOf l+1)).2 l tmps.toList (by omega) h3⟩
  |kz a b c d e=>exact absurd hl (eb j hj a b c d e)
  |held=>exact absurd hl (hkh j hj)
 ·rw[if_neg hj]at hb
  rw[gY hj]
  exact hb
theorem NF{G2 G3:Gh}{r:Nat->Nat}{sh:Nat->Nat×Nat}{ok:Nat->Bool}(hM:Mem.Le G2.M G3.M)(hβ:∀j b,G2.β j=some b->G3.β (r j)=some b)
 (hH:∀j v e p x,ok j=true->aH G2.H j v e p=some x->aH G3.H (r j) (oD (sh j) v e).1 (oD (sh j) v e).2 p=some x):∀N:Nat,
 (∀(u:AV) (x:Value),SizeOf.sizeOf u<N->AV.nm ok u=true->aG G2 u x->aG G3 (mn r sh u) x)/\
 (∀(us:List AV) (xs:List Value),SizeOf.sizeOf us<N->AV.KV ok us=true->cj G2 us xs->cj G3 (dA r sh us) xs):=by
 intro N
 induction N with
 |zero=>exact⟨fun _ _ h=>by omega,fun _ _ h=>by omega⟩
 |succ N ih=>
  refine⟨fun u x aV hn hv=>?_,fun us xs aV hn hr=>?_⟩
  ·cases u with
   |any=>exact .any _
   |dv d=>cases hv with|dv h=>exact .dv (h.mono hM)
   |ptr i off=>cases hv with|ptr _ _ b h=>exact .ptr _ off b (hβ _ _ h)
   |eN i=>cases hv with|eN _ b h=>exact .eN _ b (hβ _ _ h)
   |sle i n=>cases hv with|sle _ _ b h=>exact .sle _ n b (hβ _ _ h)
   |cq i v=>
    simp only[AV.nm]at hn
    cases hv with|cq _ _ a n h=>exact .cq _ _ a n (hH i v 0 [] _ hn h)
   |own i v e p=>
    simp only[AV.nm]at hn
    cases hv with|own _ _ _ _ _ h hc=>exact .own _ _ _ p x (hH _ _ _ _ _ hn h) hc
   |loc i v e p a b c=>
    simp only[AV.nm]at hn
    cases hv with
    |loc _ _ _ _ _ _ _ A q q' h=>exact .loc _ _ _ p a b c A q q' (hH _ _ _ _ _ hn h)
    |qo _ _ _ _ _ _ _ A h=>exact .qo _ _ _ p a b c A (hH _ _ _ _ _ hn h)
   |pre i v e p a b c=>
    simp only[AV.nm]at hn
    cases hv with
    |pre _ _ _ _ _ _ _ q q' h=>exact .pre _ _ _ p a b c q q' fun hz=>by obtain⟨A,N,c',e1,e2⟩:=h hz;exact⟨A,N,c',hH _ _ _ _ _ hn e1,e2⟩
   |fn f l=>simp only[AV.nm]at hn;cases hv with|fn _ _ vs hl hr=>have:=ih.2 l vs (by simp at aV;omega) hn ⟨hl,hr⟩;exact .fn f _ vs this.1 this.2
   |jV f l=>simp only[AV.nm]at hn;cases hv with|jV _ _ vs hl hr=>have:=ih.2 l vs (by simp at aV;omega) hn ⟨hl,hr⟩;exact .jV f _ vs this.1 this.2
   |agg l=>simp only[AV.nm]at hn;cases hv with|agg _ vs hl hr=>have:=ih.2 l vs (by simp at aV;omega) hn ⟨hl,hr⟩;exact .agg _ vs this.1 this.2
   |fL l=>simp only[AV.nm]at hn;cases hv with|fL _ vs hl hr=>have:=ih.2 l vs (by simp at aV;omega) hn ⟨hl,hr⟩;exact .fL _ vs this.1 this.2
   |opt g v=>simp only[AV.nm]at hn;cases hv with|opt _ _ _ h hu=>exact .opt g _ x (fun hg=>ih.1 v x (by simp at aV;omega) hn (h hg)) hu
  ·cases us with
   |nil=>exact⟨hr.1,by simp[dA]⟩
   |cons u us=>
    simp only[AV.KV,acj]at hn
    match xs,hr with
    |[],hr=>have:=hr.1;simp at this
    |x::xs,hr=>
     have h1:=ih.1 u x (by simp at aV;omega) hn.1 (hr.2 0 _ x rfl rfl)
     have h2:=ih.2 us xs (by simp at aV;omega) hn.2 ⟨by simpa using hr.1,fun q e y he hy=>hr.2 (q+1) e y (by simpa using he) (by simpa using hy)⟩
     refine⟨by simp only[dA,List.length_cons];rw[h2.1],fun j d y hd hy=>?_⟩
     cases j with
     |zero=>simp[dA]at hd hy;subst hd;subst hy;exact h1
     |succ j=>exact h2.2 j d y (by simpa[dA]using hd) (by simpa using hy)
def mH(V E:Nat)(H1 H2:Nat->Nat->List PS->Option Value)(v e:Nat)(p:List PS):Option Value:=
 if v<V then H1 v e p else if V<v then H2 (v-V) e p else match p with
  |[]=>if e=0 then H2 0 0 []else H1 v e []
  |s::q=>if e<E then H1 v e (s::q)else H2 0 (e-E) (s::q)
theorem NG{V E:Nat}{H1 H2:Nat->Nat->List PS->Option Value}(v e:Nat):mH V E H1 H2 (oD (V,E) v e).1 0 []=H2 v 0 []/\∀s q,mH V E H1 H2 (oD (V,E) v e).1 (oD (V,E) v e).2 (s::q)=H2 v e (s::q):=by
 cases v with
 |zero=>
  refine⟨by simp[oD,mH],fun s q=>?_⟩
  show mH V E H1 H2 V (E+e) (s::q)=_
  simp only[mH,Nat.lt_irrefl,if_false]
  rw[if_neg (by omega),Nat.add_sub_cancel_left]
 |succ v=>
  have h1:¬(V+(v+1)<V):=by omega
  have h2:V<V+(v+1):=by omega
  have h3:V+(v+1)-V=v+1:=by omega
  refine⟨?_,fun s q=>?_⟩
  ·show mH V E H1 H2 (V+(v+1)) 0 []=_
   unfold mH;rw[if_neg h1,if_pos h2,h3]
  ·show mH V E H1 H2 (V+(v+1)) e (s::q)=_
   unfold mH;rw[if_neg h1,if_pos h2,h3]
theorem Vd{V E:Nat}{H1 H2:Nat->Nat->List PS->Option Value}(h1:∀v,V<v->∀e p,H1 v e p=none)(h2:∀e,E<e->∀p,H1 V e p=none)(h3:∀x,H1 V 0 []=some x->H2 0 0 []=some x)(h4:∀s q x,H1 V E (s::q)=some x->H2 0 0 (s::q)=some x)
 {v e:Nat} {p:List PS} {x:Value} (h:H1 v e p=some x):mH V E H1 H2 v e p=some x:=by
 unfold mH
 split
 ·exact h
 ·split
  ·rename_i au;rw[h1 v au]at h;cases h
  ·have:v=V:=by omega
   subst this
   cases p with
   |nil=>
    simp only
    split
    ·rename_i he;subst he;exact h3 x h
    ·exact h
   |cons s q=>
    simp only
    split
    ·exact h
    ·rename_i gH
     rcases ab1 E e with au|hle
     ·rw[h2 e au]at h;cases h
     ·have:e=E:=by omega
      subst this
      rw[Nat.sub_self];exact h4 s q x h
theorem X4{V E:Nat}{H1 H2:Nat->Nat->List PS->Option Value}{v e:Nat}(h:∀v',v<v'->∀e p,H2 v' e p=none){v':Nat}(hv:(oD (V,E) v e).1<v')(e':Nat)(p:List PS):mH V E H1 H2 v' e' p=none:=by
 have hle:V+v<=(oD (V,E) v e).1:=by cases v<;>simp[oD]
 unfold mH
 rw[if_neg (by omega),if_pos (by omega)]
 exact h _ (by omega) e' p
theorem X5{V E:Nat}{H1 H2:Nat->Nat->List PS->Option Value}(h2:∀e,E<e->∀p,H1 V e p=none){v e:Nat}(h:∀e',e<e'->∀p,H2 v e' p=none){e':Nat}(he:(oD (V,E) v e).2<e')(p:List PS):mH V E H1 H2 (oD (V,E) v e).1 e' p=none:=by
 cases v with
 |zero=>
  show mH V E H1 H2 V e' p=none
  have he:E+e<e':=he
  simp only[mH,Nat.lt_irrefl,if_false]
  cases p with
  |nil=>simp only;rw[if_neg (by omega)];exact h2 e' (by omega) []
  |cons s q=>simp only;rw[if_neg (by omega)];exact h _ (by omega) _
 |succ v=>
  show mH V E H1 H2 (V+(v+1)) e' p=none
  have he:e<e':=he
  unfold mH
  rw[if_neg (by omega),if_pos (by omega)]
  have h3:V+(v+1)-V=v+1:=by omega
  rw[h3];exact h e' he p
end
section
open Go.RowKit
variable [cn]
def vN(m:Nat)(b:aq)(H1 H2:Nat->Nat->List PS->Option Value)(j:Nat):Nat->Nat->List PS->Option Value:=
 if j<m then(match b with
  |.tree V E _=>mH V E H1 H2
  |.none=>H2
  |_=>H1)else H2
def cS(σ:List Nat)(nx ex:Nat)(κ:Nat->aq)(G1 G2:Gh):Gh where
 M:=G2.M
 β i:=match kg σ nx ex i with
  |some j=>G2.β j
  |none=>G1.β i
 H i:=match kg σ nx ex i with
  |some j=>vN σ.length (κ i) (G1.H i) (G2.H j) j
  |none=>G1.H i
 X i:=match kg σ nx ex i with
  |some j=>G2.X j
  |none=>G1.X i
theorem jI{κ κ':Nat->aq}:∀{m:Nat},Cs κ κ' m=true->∀j,j<m->
 (∃l l',κ j=.cells l/\κ' j=.cells l')\/(∃rc st l GJ TE l',κ j=.c8 rc st l/\κ' j=.c8 GJ TE l')\/(∃v e d,κ j=.tree v e d/\(κ' j=.dead\/(∃v' e' d',κ' j=.tree v' e' d')\/∃v' d',κ' j=.fz v' d'))\/(∃v d d',κ j=.fz v d/\κ' j=.fz 0 d')
 |0,_,j,h=>by omega
 |m+1,hk,j,hj=>by
  simp only[Cs,acj]at hk
  rcases ab1 j m with au|gH
  ·exact jI hk.2 j au
  ·have:j=m:=by omega
   subst this
   have h1:=hk.1
   split at h1
   ·rename_i l l' e1 e2;exact .inl ⟨_,_,e1,e2⟩
   ·rename_i e1 e2;exact .inr (.inl ⟨_,_,_,_,_,_,e1,e2⟩)
   ·rename_i e1 e2;exact .inr (.inr (.inl ⟨_,_,_,e1,.inr (.inl ⟨_,_,_,e2⟩)⟩))
   ·rename_i e1 e2;exact .inr (.inr (.inl ⟨_,_,_,e1,.inr (.inr ⟨_,_,e2⟩)⟩))
   ·rename_i e1 e2;exact .inr (.inr (.inl ⟨_,_,_,e1,.inl e2⟩))
   ·rename_i e1 e2;exact .inr (.inr (.inr ⟨_,_,_,e1,e2⟩))
   ·cases h1
theorem Ct{ok:Nat->Bool}:∀{K:ae},nmB ok K=true->∀i b,(i,b)∈K->b.nmc ok=true
 |[],_,i,b,h=>by simp at h
 |(j,c)::K,hn,i,b,h=>by
  simp only[nmB,acj]at hn
  rcases abO.1 h with h|h
  ·injection h with e1 e2;subst e2;exact hn.1
  ·exact Ct hn.2 i b h
theorem KW{σ:List Nat}{nx ex:Nat}{κ κ1:Nat->aq}{G0 G1 G2:Gh}{w w2:World}{K0 K1:ae}{rs:List AV}{v:Value}
 (hσ1:∀i,i∈σ->i<nx) (hσ2:σ.Nodup) (ki:∀i,nx<=i->i<nx+ex->κ1 i=.none) (I9:Fit G1 w κ1)
 (hup:∀i,i∈σ->∀V E d,κ i=.tree V E d->(∀v,V<v->∀e p,G1.H i v e p=none)/\∀e,E<e->∀p,G1.H i V e p=none)
 (AA:∀i,i∈σ->κ i=.none->∀v e p,G1.H i v e p=none)
 (h00:∀j,j<σ.length->∀V E d,κ (sg σ nx j)=.tree V E d->(∀x,G1.H (sg σ nx j) V 0 []=some x->G0.H j 0 0 []=some x)/\∀s q x,G1.H (sg σ nx j) V E (s::q)=some x->G0.H j 0 0 (s::q)=some x)
 (lD:∀j,j<σ.length->∀V d,κ (sg σ nx j)=.fz V d->∃x,G1.H (sg σ nx j) V 0 []=some x/\G0.H j 0 0 []=some x)
 (hβ0:∀j,j<σ.length->G0.β j=G1.β (sg σ nx j)) (hM0:G0.M=G1.M)
 (JA:∀j b,cx G0 j (aa K0 j) b->j<σ.length/\cx G1 (sg σ nx j) (κ1 (sg σ nx j)) b)
 (pg:∀j,j<σ.length->(∀v e d,aa K0 j=.tree v e d->(∃V E d,κ (sg σ nx j)=.tree V E d)\/κ (sg σ nx j)=.none)/\(∀v d,aa K0 j=.fz v d->(∃V E d,κ (sg σ nx j)=.tree V E d)\/∃V d,κ (sg σ nx j)=.fz V d))
 (fo:fZ σ ex K0 K1 rs=true) (hC:KU σ.length ex (aa K0) w G0 rs (aa K1) w2 G2 v):
 MS (fun i=>∃j,kg σ nx ex i=some j) κ1 (ay κ1 (bW (sg σ nx) (j5 κ σ) K1)) G1 (cS σ nx ex κ G1 G2) w w2/\(∀i,i<nx->(cS σ nx ex κ G1 G2).β i=G1.β i)/\aG (cS σ nx ex κ G1 G2) (mn (sg σ nx) (j5 κ σ) (qv rs)) v:=by
 simp only[fZ,acj]at fo
 obtain⟨⟨⟨fO,KT⟩,hnr⟩,NH⟩:=fo
 have gn:=NC hσ1 hσ2
 have Xd:∀j,j<σ.length+ex->kg σ nx ex (sg σ nx j)=some j:=fun j hj=>RA hσ1 hσ2 hj
 have wD:∀j (h:j<σ.length),sg σ nx j∈σ:=fun j h=>by rw[kf h];exact acf h
 have fT:∀j,σ.length+ex<=j->G2.β j=none/\∀v e p,G2.H j v e p=none:=fun j hj=>by
  have:=hC.fit.box j;rw[hC.no j hj]at this;exact this
 have TFβ:∀j,j<σ.length+ex->(cS σ nx ex κ G1 G2).β (sg σ nx j)=G2.β j:=fun j hj=>by simp only[cS,Xd j hj]
 have abp:∀j,j<σ.length+ex->(cS σ nx ex κ G1 G2).X (sg σ nx j)=G2.X j:=fun j hj=>by simp only[cS,Xd j hj]
 have KX:∀j,j<σ.length+ex->(cS σ nx ex κ G1 G2).H (sg σ nx j)=vN σ.length (κ (sg σ nx j)) (G1.H (sg σ nx j)) (G2.H j) j:=fun j hj=>by simp only[cS,Xd j hj]
 have sa:∀j (h:j<σ.length),j5 κ σ j=NA (κ (sg σ nx j)):=fun j h=>by rw[Nz h,kf h]
 have HT:∀j,j<σ.length+ex->(j<σ.length->(∃V E d,κ (sg σ nx j)=.tree V E d)\/κ (sg σ nx j)=.none)->
  (∀v e,aH (cS σ nx ex κ G1 G2).H (sg σ nx j) (oD (j5 κ σ j) v e).1 (oD (j5 κ σ j) v e).2=aH G2.H j v e)/\
  (∀v e,(∀v',v<v'->∀e p,G2.H j v' e p=none)->∀v',(oD (j5 κ σ j) v e).1<v'->∀e p,(cS σ nx ex κ G1 G2).H (sg σ nx j) v' e p=none)/\
  (∀v e,(∀e',e<e'->∀p,G2.H j v e' p=none)->∀e',(oD (j5 κ σ j) v e).2<e'->∀p,(cS σ nx ex κ G1 G2).H (sg σ nx j) (oD (j5 κ σ j) v e).1 e' p=none):=by
  intro j hj hc
  have plain:(cS σ nx ex κ G1 G2).H (sg σ nx j)=G2.H j->j5 κ σ j=(0,0)->_:=fun h1 h2=>
   (show(∀v e,aH (cS σ nx ex κ G1 G2).H (sg σ nx j) (oD (j5 κ σ j) v e).1 (oD (j5 κ σ j) v e).2=aH G2.H j v e)/\
   (∀v e,(∀v',v<v'->∀e p,G2.H j v' e p=none)->∀v',(oD (j5 κ σ j) v e).1<v'->∀e p,(cS σ nx ex κ G1 G2).H (sg σ nx j) v' e p=none)/\
   (∀v e,(∀e',e<e'->∀p,G2.H j v e' p=none)->∀e',(oD (j5 κ σ j) v e).2<e'->∀p,(cS σ nx ex κ G1 G2).H (sg σ nx j) (oD (j5 κ σ j) v e).1 e' p=none)by
    rw[h2]
    simp only[jG]
    refine⟨fun v e=>funext fun p=>by cases p<;>simp only[aH,h1],fun v e h v' hv e p=>by rw[h1];exact h v' hv e p,fun v e h e' he p=>by rw[h1];exact h e' he p⟩)
  rcases ab1 j σ.length with au|gH
  ·rcases hc au with⟨V,E,d,hk⟩|hk
   ·have h1:(cS σ nx ex κ G1 G2).H (sg σ nx j)=mH V E (G1.H (sg σ nx j)) (G2.H j):=by rw[KX j hj];simp only[vN,if_pos au,hk]
    have h2:j5 κ σ j=(V,E):=by rw[sa j au,hk];rfl
    obtain⟨u1,u2⟩:=hup _ (wD j au) V E d hk
    rw[h2]
    refine⟨fun v e=>funext fun p=>?_,fun v e h v' hv e' p=>by rw[h1];exact X4 h hv e' p,fun v e h e' he p=>by rw[h1];exact X5 u2 h he p⟩
    cases p with
    |nil=>simp only[aH,h1];exact(NG v e).1
    |cons s q=>simp only[aH,h1];exact(NG v e).2 s q
   ·exact plain (by rw[KX j hj];simp only[vN,if_pos au,hk]) (by rw[sa j au,hk];rfl)
  ·exact plain (by rw[KX j hj];simp only[vN,if_neg (Nat.not_lt.2 gH)]) (Jz gH)
 have hpβ:∀j b,G2.β j=some b->(cS σ nx ex κ G1 G2).β (sg σ nx j)=some b:=by
  intro j b hb
  rcases ab1 j (σ.length+ex)with au|gH
  ·rw[TFβ j au];exact hb
  ·rw[(fT j gH).1]at hb;cases hb
 have hpH:∀j v e p x,Hr σ.length (aa K0) j=true->aH G2.H j v e p=some x->aH (cS σ nx ex κ G1 G2).H (sg σ nx j) (oD (j5 κ σ j) v e).1 (oD (j5 κ σ j) v e).2 p=some x:=by
  intro j v e p x cr hx
  rcases ab1 j (σ.length+ex)with au|gH
  ·rw[(HT j au fun hj=>?_).1]
   ·exact hx
   ·simp only[Hr]at cr
    rw[show Nat.blt j σ.length=true by rw[Nat.blt_eq];exact hj]at cr
    simp only[cond_true]at cr
    split at cr
    ·rename_i d hd;exact(pg j hj).1 _ _ _ hd
    ·cases cr
  ·cases p with
   |nil=>simp only[aH]at hx;rw[(fT j gH).2]at hx;cases hx
   |cons s q=>simp only[aH]at hx;rw[(fT j gH).2]at hx;cases hx
 have NI:=NF (G2:=G2) (G3:=cS σ nx ex κ G1 G2) (r:=sg σ nx) (sh:=j5 κ σ) (ok:=Hr σ.length (aa K0)) (Mem.Le.refl _) hpβ hpH
 have hκ3:∀j,ay κ1 (bW (sg σ nx) (j5 κ σ) K1) (sg σ nx j)=if j∈keys K1 then sI (sg σ nx) (j5 κ σ) j (aa K1 j)else κ1 (sg σ nx j):=fun j=>qa gn _ K1 j
 have KQ:∀j,j<σ.length->j∈keys K1:=fun j hj=>by
  refine Classical.byContradiction fun hn=>?_
  have h0:=gY hn
  rcases jI fO j hj with⟨_,_,_,h⟩|⟨_,_,_,_,_,_,_,h⟩|⟨_,_,_,_,h|⟨_,_,_,h⟩|⟨_,_,h⟩⟩|⟨_,_,_,_,h⟩<;>rw[h0]at h<;>cases h
 have cW:∀j,j<σ.length+ex->j∉keys K1->κ1 (sg σ nx j)=.none:=fun j hj hn=>by
  rcases ab1 j σ.length with au|gH
  ·exact absurd (KQ j au) hn
  ·rw[jH gH];exact ki _ (by omega) (by omega)
 have EB:∀j,j<σ.length+ex->∀v e d,aa K1 j=.tree v e d->(j<σ.length->(∃V E d,κ (sg σ nx j)=.tree V E d)\/κ (sg σ nx j)=.none):=by
  intro j hj v e d hd au
  rcases jI fO j au with⟨_,_,_,h⟩|⟨_,_,_,_,_,_,_,h⟩|⟨_,_,_,h0,_⟩|⟨_,_,_,_,h⟩
  ·rw[hd]at h;cases h
  ·rw[hd]at h;cases h
  ·exact(pg j au).1 _ _ _ h0
  ·rw[hd]at h;cases h
 have jy:∀j,j<σ.length+ex->∀b,cx (cS σ nx ex κ G1 G2) (sg σ nx j) (ay κ1 (bW (sg σ nx) (j5 κ σ) K1) (sg σ nx j)) b->cx G2 j (aa K1 j) b:=by
  intro j hj b ho
  rw[hκ3]at ho
  by_cases hk:j∈keys K1
  ·rw[if_pos hk]at ho
   cases hl:aa K1 j with
   |cells l=>rw[hl]at ho;simp only[sI,cx]at ho⊢;rw[TFβ j hj]at ho;exact ho
   |tree v e d=>rw[hl]at ho;simp only[sI,cx]at ho⊢;rw[(HT j hj (EB j hj v e d hl)).1]at ho;exact ho
   |c8 rc st l=>rw[hl]at ho;simp only[sI,cx]at ho⊢;rw[TFβ j hj]at ho;exact ho
   |_=>rw[hl]at ho;exact ho.elim
  ·rw[if_neg hk,cW j hj hk]at ho;exact ho.elim
 have hLe:Gh.Le G1 (cS σ nx ex κ G1 G2):=by
  refine⟨by have:=hC.le;rw[hM0]at this;exact this,fun i b hb=>?_,fun i v e p x hx=>?_⟩
  ·cases ng:kg σ nx ex i with
   |none=>simp only[cS,ng];exact hb
   |some j=>
    obtain⟨hj,rfl⟩:=jk ng
    rw[TFβ j hj]
    rcases ab1 j σ.length with au|gH
    ·rw[hC.fe j au,hβ0 j au];exact hb
    ·have ez:=I9.box (sg σ nx j)
     rw[jH gH,ki _ (by omega) (by omega)]at ez
     rw[jH gH,ez.1]at hb;cases hb
  ·cases ng:kg σ nx ex i with
   |none=>simp only[cS,ng];exact hx
   |some j=>
    obtain⟨hj,rfl⟩:=jk ng
    rw[KX j hj]
    rcases ab1 j σ.length with au|gH
    ·simp only[vN,if_pos au]
     cases hk:κ (sg σ nx j)with
     |tree V E d=>
      obtain⟨u1,u2⟩:=hup _ (wD j au) V E d hk
      obtain⟨q1,q2⟩:=h00 j au V E d hk
      exact Vd u1 u2 (fun x h=>hC.wz j au [] x (q1 x h)) (fun s q x h=>hC.wz j au (s::q) x (q2 s q x h)) hx
     |none=>rw[AA _ (wD j au) hk]at hx;cases hx
     |_=>exact hx
    ·have ez:=I9.box (sg σ nx j)
     rw[jH gH,ki _ (by omega) (by omega)]at ez
     rw[jH gH,ez.2]at hx;cases hx
 refine⟨⟨hLe,fun i hi=>?_,fun i hi=>?_,fun i hi=>?_,fun b hb Ve=>?_,hC.fit.sub,?_,?_,?_,hC.size,hC.os,hC.tape,hC.output⟩,fun i hi=>?_,?_⟩
 ·have:kg σ nx ex i=none:=by cases h:kg σ nx ex i with|none=>rfl|some j=>exact absurd ⟨j,h⟩ hi
  simp only[cS,this]
 ·refine om _ K1 i fun j hj e=>hi ⟨j,?_⟩
  rw[<-e];exact Xd j (c5 KT j hj)
 ·have:kg σ nx ex i=none:=by cases h:kg σ nx ex i with|none=>rfl|some j=>exact absurd ⟨j,h⟩ hi
  simp only[cS,this]
  exact⟨fun _ h=>h,fun _ _ _ _ h=>h⟩
 ·have:=hC.frame b hb fun j ho=>by
   obtain⟨hj,jz⟩:=JA j b ho
   exact Ve _ ⟨j,Xd j (by omega)⟩ jz
  rw[hM0]at this
  exact this
 ·rintro i ⟨j,ng⟩
  obtain⟨hj,rfl⟩:=jk ng
  have ca:=hC.fit.box j
  rw[hκ3]
  by_cases hk:j∈keys K1
  ·rw[if_pos hk]
   have X6:(j,aa K1 j)∈K1\/aa K1 j=.none:=(fY (K:=K1) (i:=j)).symm
   cases hl:aa K1 j with
   |none=>trivial
   |dead=>trivial
   |held=>trivial
   |kz _ _ _ _ _=>trivial
   |cells l=>
    rw[hl]at ca
    obtain⟨b,c,t,h1,h2,h3,h4,h5⟩:=ca
    have hnm:AV.KV (Hr σ.length (aa K0)) l=true:=by
     rcases X6 with h|h
     ·have:=Ct NH j _ h;rw[hl]at this;exact this
     ·rw[hl]at h;cases h
    refine⟨b,c,t,by rw[TFβ j hj];exact h1,h2,by rw[h3,pf],fun u hu=>?_,fun q d y hd hy=>?_⟩
    ·obtain⟨q,hq⟩:=ab3 hu
     rw[x6]at hq
     cases hlq:l[q]? with
     |none=>rw[hlq]at hq;simp at hq
     |some u0=>rw[hlq]at hq;simp at hq;subst hq;rw[Hq];exact h4 u0 (abK hlq)
    ·have:=(NI (SizeOf.sizeOf l+1)).2 l c.toList (by omega) hnm ⟨by simp[h3],fun q d y hd hy=>h5 q d y hd (by simpa using hy)⟩
     exact this.2 q d y hd (by simpa using hy)
   |tree v e d=>
    rw[hl]at ca
    obtain⟨q1,q2,q3⟩:=HT j hj (EB j hj v e d hl)
    refine⟨?_,?_,q2 v e ca.2.2.1,q3 v e ca.2.2.2⟩
    ·rw[q1];exact ca.1
    ·rw[q1];exact ca.2.1
   |fz v d=>
    rw[hl]at ca
    obtain⟨u,h1,h2,h3⟩:=ca
    refine⟨u,?_,h2,h3⟩
    have Vf:(j<σ.length->(∃V E d,κ (sg σ nx j)=.tree V E d)\/κ (sg σ nx j)=.none)->(cS σ nx ex κ G1 G2).H (sg σ nx j) (oD (j5 κ σ j) v 0).1 0 []=some u:=fun hh=>by
     have:=congrFun ((HT j hj hh).1 v 0) []
     simp only[aH]at this
     rw[this];exact h1
    rcases ab1 j σ.length with au|gH
    ·rcases jI fO j au with⟨_,_,_,h⟩|⟨_,_,_,_,_,_,_,h⟩|⟨_,_,_,h0,_⟩|⟨_,_,_,h0,h⟩
     ·rw[hl]at h;cases h
     ·rw[hl]at h;cases h
     ·exact Vf fun _=>(pg j au).1 _ _ _ h0
     ·rw[hl]at h;injection h with e1 e2
      subst e1
      rcases(pg j au).2 _ _ h0 with hT|⟨V,d',hF⟩
      ·exact Vf fun _=>.inl hT
      ·obtain⟨x,p1,p2⟩:=lD j au V d' hF
       have p3:=hC.wz j au [] x p2
       rw[h1]at p3;injection p3 with p3;subst p3
       rw[KX j hj]
       simp only[vN,if_pos au,hF]
       rw[sa j au,hF]
       exact p1
    ·exact Vf fun h=>absurd h (by omega)
   |c8 rc st l=>
    rw[hl]at ca
    obtain⟨b,fn,tmps,D,h1,h2,h3⟩:=ca
    have hnm:AV.KV (Hr σ.length (aa K0)) l=true:=by
     rcases X6 with h|h
     ·have:=Ct NH j _ h;rw[hl]at this;exact this
     ·rw[hl]at h;cases h
    exact⟨b,fn,tmps,D,by rw[TFβ j hj];exact h1,h2,(NI (SizeOf.sizeOf l+1)).2 l tmps.toList (by omega) hnm h3⟩
  ·rw[if_neg hk,cW j hj hk]
   rw[gY hk]at ca
   refine⟨by rw[TFβ j hj];exact ca.1,fun v e p=>?_⟩
   rw[KX j hj]
   rcases ab1 j σ.length with au|gH
   ·exact absurd (KQ j au) hk
   ·simp only[vN,if_neg (Nat.not_lt.2 gH)];exact ca.2 v e p
 ·rintro i b ⟨j,ng⟩ ho
  obtain⟨hj,rfl⟩:=jk ng
  have MD:=jy j hj b ho
  refine⟨?_,hC.fit.own j b MD⟩
  rcases hC.EC j b MD with h|⟨q,hq⟩
  ·exact .inl h
  ·obtain⟨h1,h2⟩:=JA q b hq
   exact .inr ⟨_,⟨q,Xd q (by omega)⟩,h2⟩
 ·rintro i i' b ⟨j,ng⟩ ⟨j',aat⟩ ho jz
  obtain⟨hj,rfl⟩:=jk ng
  obtain⟨pV,rfl⟩:=jk aat
  rw[hC.fit.inj j j' b (jy j hj b ho) (jy j' pV b jz)]
 ·cases ng:kg σ nx ex i with
  |none=>simp only[cS,ng]
  |some j=>
   obtain⟨hj,rfl⟩:=jk ng
   rw[TFβ j hj]
   rcases ab1 j σ.length with au|gH
   ·rw[hC.fe j au,hβ0 j au]
   ·rw[jH gH]at hi;omega
 ·refine(NI (SizeOf.sizeOf (qv rs)+1)).1 (qv rs) v (by omega) ?_ hC.res
  match rs,hnr with
  |[],_=>rfl
  |[d],h=>simp only[AV.KV,acj]at h;exact h.1
  |_::_::_,h=>exact h
end
end Go.TM
