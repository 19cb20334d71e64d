import Derived.Test.YtpbiiigpphehbaaGreatDoorFM19
import Derived.RangeFuncRecord
set_option linter.all false
namespace Go.TM
section
open Go.RowKit
variable [cj]
def rp:Nat->List DV->Env
 |_,[]=>[]
 |i,d::r=>(i,cJ d)::rp (i+1) r
def RE(T:List TI)(ρ:Nat->AV)(κ:Nat->ar):ResultVar->(DV->Prop)->Prop
 |.tmp t,k=>match toArg κ (ρ t)with
  |some (d,_)=>k d
  |none=>False
 |.cell t ty,k=>bif (nth T ty).ok then match res κ (ρ t)with
  |.ptr i off=>match κ i with
   |.cells l=>cn (nth T ty).agg l off (nth T ty).size fun v=>match toArg κ v with
    |some (d,_)=>k d
    |none=>False
   |_=>False
  |_=>False
  else False
def EU(T:List TI)(ρ:Nat->AV)(κ:Nat->ar):List ResultVar->List DV->Prop
 |[],[]=>True
 |v::r,d::ds=>RE T ρ κ v (fun d'=>d'.Le d)/\EU T ρ κ r ds
 |_,_=>False
def de:Nat->List AV->Env
 |_,[]=>[]
 |i,v::r=>(i,v)::de (i+1) r
def CE(T:List TI)(ρ:Nat->AV)(κ:Nat->ar):List ResultVar->(List AV->Prop)->Prop
 |[],k=>k []
 |.tmp t::r,k=>force (res κ (ρ t)) fun v=>CE T ρ κ r fun l=>k (v::l)
 |.cell t ty::r,k=>bif (nth T ty).ok then match res κ (ρ t)with
  |.ptr i off=>match κ i with
   |.cells l=>cn (nth T ty).agg l off (nth T ty).size fun v=>CE T ρ κ r fun l=>k (v::l)
   |_=>False
  |_=>False
  else False
def pc(m ex:Nat)(κ:Nat->ar)(jk rs:List AV)(K':ae):Bool:=
 Tt (m+ex) (aa K') K'&&AV.Jz (aa K') rs&&Ac (aa K') (dc κ rs jk++dD κ K')&&vB κ (aa K') m
def NR(T:List TI)(fn:Func)(m ex:Nat)(R:List AV->ae->Prop)(env:Env)(K:ae):Prop:=
 CE T (look env) (aa K) fn.results.toList fun jk=>∃rs K',R rs K'/\pc m ex (aa K) jk rs K'=true/\dU m (aa K) (aa K') rs jk/\ou m (aa K) (aa K') K'
def pd(T:List TI)(fn:Func)(m ex:Nat)(R:List AV->ae->Prop)(e:AX)(_nx:Nat)(env:Env)(K:ae):Prop:=
 match e with
 |.normal=>NR T fn m ex R env K
 |.ret=>NR T fn m ex R env K
 |.exit _=>False
def Ty(T:List TI)(fn:Func)(rs:List DV)(e:AX)(_nx:Nat)(env:Env)(K:ae):Prop:=
 match e with
 |.normal=>EU T (look env) (aa K) fn.results.toList rs
 |.ret=>EU T (look env) (aa K) fn.results.toList rs
 |.exit _=>False
section
variable {P:Program} {C:dO->Prop} {T:List TI} {n:Nat} {g:dO}
theorem putObj_size(w:World)(b:Nat)(o:Obj):(w.putObj b o).heap.size=w.heap.size:=by simp[World.putObj]
theorem ga(w:World){b k:Nat}(o:Obj)(h:k≠b):(w.putObj b o).heap[k]?=w.heap[k]?:=by
 simp only[World.putObj]
 rw[Array.getElem?_setIfInBounds_ne (fun e=>h e.symm)]
theorem cu.shut{ρ:Nat->AV}{κ:Nat->ar}{a:Act}{w:World}{G:Gh}(h:cu g n ρ κ a w G){D:List Nat}{r:Nat}(hD:a.defers=(r::D).map mark):
 w.heap[r]?=some (.deferred (some []))/\cu g n ρ κ { a with defers:=D.map mark } (w.putObj r (.deferred none)) G:=by
 obtain⟨D',h1,h2,h3⟩:=h.tL
 have hDD:D'=r::D:=by
  rw[h1]at hD
  have inj:∀x y:Nat,mark x=mark y->x=y:=fun x y e=>by simp only[mark,Deferred.mk.injEq,Target.collected.injEq]at e;exact e.1
  have:∀(l l':List Nat),l.map mark=l'.map mark->l=l':=by
   intro l
   induction l with
   |nil=>intro l' e;cases l' with
    |nil=>rfl
    |cons=>simp at e
   |cons x l ih=>intro l' e;cases l' with
    |nil=>simp at e
    |cons y l'=>simp only[List.map_cons,List.cons.injEq]at e;rw[inj x y e.1,ih l' e.2]
  exact this _ _ hD
 subst hDD
 obtain⟨a1,a2,a3,a4⟩:=h3 r (by simp)
 have ck:∀i b,cx G i (κ i) b->b≠r:=fun i b ho e=>a2 i (e▸ho)
 have dP:G.M.In (w.putObj r (.deferred none)):=fun b o hb=>by
  rw[ga _ _ (fun e=>by rw[e,a3]at hb;cases hb)];exact h.fit.sub b o hb
 refine⟨a1,{ h with fit:=⟨dP,fun i=>(h.fit.box i).iC (.refl G) rfl (fun _=>⟨fun _ h=>h,fun _ _ _ _ h=>h⟩) (fun b hb=>ga _ _ (ck i b hb)) dP (h.fit.own i) (by rw[putObj_size];exact ab3 _),h.fit.own,h.fit.inj⟩,zQ:=fun b hb hO=>by rw[ga _ _ (by omega)];exact h.zQ b hb hO,os:=h.os,tape:=h.tape,output:=h.output,grow:=by rw[putObj_size];exact h.grow,tL:=?_ }⟩
 refine⟨D,rfl,(List.nodup_cons.1 h2).2,fun q hq=>?_⟩
 obtain⟨b1,b2,b3,b4⟩:=h3 q (by simp[hq])
 have hqr:q≠r:=fun e=>(List.nodup_cons.1 h2).1 (by rw[<-e];exact hq)
 exact⟨by rw[ga _ _ hqr];exact b1,b2,b3,b4⟩
theorem cu.leave{ρ:Nat->AV}{κ:Nat->ar}{G:Gh}{F:Fence}{fn:Func}{R:Ending->World->Prop}(tmps:Array Value)(ow:∀w',cu g n ρ κ { tmps:=tmps,defers:=[] } w' G->∃v,(results fn tmps).run P w'=.ok v w'/\R (.returned v) w'):
 ∀(D:List Nat) (w:World),cu g n ρ κ { tmps:=tmps,defers:=D.map mark } w G->LeavesInM F 0 P fn tmps R (D.map mark) .returning w
 |[],w,h=>ow w h
 |r::D,w,h=>by
  obtain⟨h1,h2⟩:=h.shut (D:=D) (r:=r) rfl
  exact⟨by simp,.inl ⟨r,_,rfl,run_takeDeferred h1,cu.leave tmps ow D _ h2⟩⟩
theorem yd:∀(ds:List DV) (s t:Nat),look (rp s ds) t=if s<=t then(match ds[t-s]? with|some d=>cJ d|none=>.any)else .any
 |[],s,t=>by simp[rp,look]
 |d::r,s,t=>by
  simp only[rp,look]
  rw[yd r (s+1) t]
  by_cases h1:s=t
  ·subst h1;simp
  ·have hb:Nat.beq s t=false:=by cases hb:Nat.beq s t with|false=>rfl|true=>exact absurd (abD hb) h1
   rw[hb]
   by_cases h2:s<=t
   ·have e:t-s=t-(s+1)+1:=by omega
    rw[if_pos h2,if_pos (by omega),e];simp
   ·rw[if_neg h2,if_neg (by omega)];simp
theorem EV(hT:eV P T){ρ:Nat->AV}{κ:Nat->ar}{a:Act}{w:World}{G:Gh}(aj:cu g n ρ κ a w G){rv:ResultVar}{q:DV->Prop}(h:RE T ρ κ rv q):
 ∃(d:DV) (ids:List Nat),q d/\∃v,(match rv with| .tmp t=>pure (a.tmps.getD t undef)| .cell t ty=>do loadVar ty (<-asAddr (a.tmps.getD t undef)):Sem Value).run P w=.ok v w/\
  ∀(all:List Nat) (G':Gh),(∀i,i∈ids->i∈all)->Gh.Le G G'->Fit G' w (ay κ (kl κ all))->bz G'.M d v:=by
 cases rv with
 |tmp t=>
  simp only[RE]at h
  split at h
  ·rename_i d ids hd
   refine⟨d,ids,h,_,rfl,fun all G' hs hle ln=>oL (κ:=κ) (κ':=κ) (fun _ _=>rfl) hle ln hd hs (aj.env t)⟩
  ·exact h.elim
 |cell t ty=>
  simp only[RE]at h
  have hh:=aK h;clear h;obtain⟨cB,h⟩:=hh
  split at h
  ·rename_i i off hr
   split at h
   ·rename_i l hk
    obtain⟨av,h,hp⟩:=dY h
    split at h
    ·rename_i d ids hd
     have hv:=ye aj.fit (aj.env t)
     rw[hr]at hv
     have tO:=aj.fit.box i
     rw[hk]at tO
     obtain⟨b,c,tt,lk,hw,aW,mX,uw⟩:=tO
     generalize hx:a.tmps.getD t undef=x at hv
     cases hv with|ptr _ _ b' dI=>
     rw[lk]at dI;injection dI with dI;subst dI
     have hA:(⟨b,off,none⟩:Addr)=(⟨b,0,none⟩:Addr).add off:=by rw[eL];simp
     obtain⟨v,h1,h2⟩:=kO (P:=P) (av:=av) (w:=w) (G:=G) (l:=l) (off:=off) hT cB ⟨b,0,none⟩ (fun j=>c.getD j undef) (fun j hj=>by
      rw[eL]
      simp[World.cell?,hw,aW,hj]) (fun j d hd=>by
      have hj:j<l.length:=(abA.1 hd).1
      exact uw j d _ hd (by simp[aW,hj])) hp
     rw[<-hA]at h1
     refine⟨d,ids,h,v,?_,fun all G' hs hle ln=>oL (κ:=κ) (κ':=κ) (fun _ _=>rfl) hle ln hd hs h2⟩
     simp only[Instr.loadAt,Instr.sureAddr,Sem.run_bind,Sem.run_pure,Result.andThen_ok]at h1
     simp only[hx,asAddr,Sem.run_bind,Sem.run_pure,Result.andThen_ok]
     exact h1
    ·exact h.elim
   ·exact h.elim
  ·exact h.elim
theorem yf(hT:eV P T){ρ:Nat->AV}{κ:Nat->ar}{a:Act}{w:World}{G:Gh}(aj:cu g n ρ κ a w G):∀{NT:List ResultVar} {rs:List DV},EU T ρ κ NT rs->
 ∃(ids:List Nat) (us:List Value),((NT.mapM fun| .tmp t=>pure (a.tmps.getD t undef)| .cell t ty=>do loadVar ty (<-asAddr (a.tmps.getD t undef))):Sem (List Value)).run P w=.ok us w/\
  ∀(all:List Nat) (G':Gh),(∀i,i∈ids->i∈all)->Gh.Le G G'->Fit G' w (ay κ (kl κ all))->fD G'.M rs us
 |[],[],_=>⟨[],[],rfl,fun _ G' _ _ _=>.nil G'.M⟩
 |[],_::_,h=>h.elim
 |_::_,[],h=>h.elim
 |rv::NT,r::rs,⟨h1,h2⟩=>by
  obtain⟨d,ids,hle,v,aZ,hd⟩:=EV hT aj h1
  obtain⟨aat,us,NU,zM⟩:=yf hT aj h2
  refine⟨ids++aat,v::us,?_,fun all G' hs hm ln=>.cons (hle G'.M v (hd all G' (fun i hi=>hs i (by simp[hi])) hm ln)) (zM all G' (fun i hi=>hs i (by simp[hi])) hm ln)⟩
  rw[List.mapM_cons]
  simp only[Sem.run_bind]
  rw[aZ]
  simp only[Result.andThen_ok,Sem.run_bind,NU,Sem.run_pure]
theorem pe:∀(ds:List AV) (s t:Nat),look (de s ds) t=if s<=t then(match ds[t-s]? with|some d=>d|none=>.any)else .any
 |[],s,t=>by simp[de,look]
 |d::r,s,t=>by
  simp only[de,look]
  rw[pe r (s+1) t]
  by_cases h1:s=t
  ·subst h1;simp
  ·have hb:Nat.beq s t=false:=by cases hb:Nat.beq s t with|false=>rfl|true=>exact absurd (abD hb) h1
   rw[hb]
   by_cases h2:s<=t
   ·have e:t-s=t-(s+1)+1:=by omega
    rw[if_pos h2,if_pos (by omega),e];simp
   ·rw[if_neg h2,if_neg (by omega)];simp
theorem wU(hT:eV P T){ρ:Nat->AV}{κ:Nat->ar}{a:Act}{w:World}{G:Gh}(aj:cu g n ρ κ a w G):∀{NT:List ResultVar} {q:List AV->Prop},CE T ρ κ NT q->
 ∃(jk:List AV) (us:List Value),q jk/\((NT.mapM fun| .tmp t=>pure (a.tmps.getD t undef)| .cell t ty=>do loadVar ty (<-asAddr (a.tmps.getD t undef))):Sem (List Value)).run P w=.ok us w/\cb G jk us
 |[],q,h=>⟨[],[],h,rfl,rfl,by simp⟩
 |.tmp t::NT,q,h=>by
  simp only[CE,force_eq]at h
  obtain⟨jk,us,hq,aZ,hc⟩:=wU hT aj h
  have hv:=ye aj.fit (aj.env t)
  refine⟨_,a.tmps.getD t undef::us,hq,?_,by simpa using hc.1,fun j d u hd hu=>?_⟩
  ·rw[List.mapM_cons]
   simp only[Sem.run_bind,Sem.run_pure,Result.andThen_ok,aZ]
  ·cases j with
   |zero=>
    rw[List.getElem?_cons_zero]at hd hu
    injection hd with hd;injection hu with hu;subst hd;subst hu;exact hv
   |succ j=>exact hc.2 j d u (by simpa using hd) (by simpa using hu)
 |.cell t ty::NT,q,h=>by
  simp only[CE]at h
  have hh:=aK h;clear h;obtain⟨cB,h⟩:=hh
  split at h
  ·rename_i i off hr
   split at h
   ·rename_i l hk
    obtain⟨av,h,hp⟩:=dY h
    obtain⟨jk,us,hq,aZ,hc⟩:=wU hT aj h
    have hv:=ye aj.fit (aj.env t)
    rw[hr]at hv
    have tO:=aj.fit.box i
    rw[hk]at tO
    obtain⟨b,c,tt,lk,hw,aW,mX,uw⟩:=tO
    generalize hx:a.tmps.getD t undef=x at hv
    cases hv with|ptr _ _ b' dI=>
    rw[lk]at dI;injection dI with dI;subst dI
    have hA:(⟨b,off,none⟩:Addr)=(⟨b,0,none⟩:Addr).add off:=by rw[eL];simp
    obtain⟨v,h1,h2⟩:=kO (P:=P) (av:=av) (w:=w) (G:=G) (l:=l) (off:=off) hT cB ⟨b,0,none⟩ (fun j=>c.getD j undef) (fun j hj=>by
     rw[eL]
     simp[World.cell?,hw,aW,hj]) (fun j d hd=>by
     have hj:j<l.length:=(abA.1 hd).1
     exact uw j d _ hd (by simp[aW,hj])) hp
    rw[<-hA]at h1
    refine⟨_,v::us,hq,?_,by simpa using hc.1,fun j d u hd hu=>?_⟩
    ·simp only[Instr.loadAt,Instr.sureAddr,Sem.run_bind,Sem.run_pure,Result.andThen_ok]at h1
     rw[List.mapM_cons]
     have Yb:((do loadVar ty (<-asAddr (a.tmps.getD t undef))):Sem Value).run P w=.ok v w:=by
      simp only[hx,asAddr,Sem.run_bind,Sem.run_pure,Result.andThen_ok];exact h1
     rw[Sem.run_bind]
     simp only
     rw[Yb]
     simp only[Result.andThen_ok,Sem.run_bind,aZ,Sem.run_pure]
    ·cases j with
     |zero=>simp at hd hu;subst hd;subst hu;exact h2
     |succ j=>exact hc.2 j d u (by simpa using hd) (by simpa using hu)
   ·exact h.elim
  ·exact h.elim
theorem pf{fn:Func}{tmps:Array Value}{w:World}{us:List Value}(aZ:((fn.results.toList.mapM fun| .tmp t=>pure (tmps.getD t undef)| .cell t ty=>do loadVar ty (<-asAddr (tmps.getD t undef))):Sem (List Value)).run P w=.ok us w):
 (results fn tmps).run P w=.ok (if h:us.toArray.size=1 then us.toArray[0]else .tuple us.toArray) w:=by
 have mz:((fn.results.mapM fun| .tmp t=>pure (tmps.getD t undef)| .cell t ty=>do loadVar ty (<-asAddr (tmps.getD t undef))):Sem (Array Value)).run P w=.ok us.toArray w:=by
  rw[Array.mapM_eq_mapM_toList,Sem.run_map,aZ]
  rfl
 unfold results
 rw[Sem.run_bind]
 exact congrArg (fun r=>Result.andThen r (fun(vs:Array Value) w=>(pure (if h:vs.size=1 then vs[0]else .tuple vs):Sem Value).run P w)) mz
theorem EW(hT:eV P T)(hm:P.follows .mixedOrders=true)(hC:c7 P (fun _=>True))(JF:jA P){f:Nat}{fn:Func}{c:Code}{args rs:List DV}(hf:P.funcs[f]?=some fn)(hb:fn.body=some c)(eT:(fn.name== "runtime.NumGoroutine")=false)
 (bW:Nat.ble args.length fn.ntmps=true) (h:fg P T .fn fn.ntmps 0 c (Ty T fn rs) 0 (rp 0 args) []):aO P f args rs:=by
 refine⟨⟨fn,hf,eT,by rw[hb];rfl⟩,fun w M vs dP na hr=>?_⟩
 refine(gY.calls (n:=0)).1 (callsIn_of_wp_marks hf hb trivial ?_)
 have hlen:vs.length<=fn.ntmps:=by rw[<-hr.1];exact Nat.le_of_ble_eq_true bW
 let g:dO:=⟨fun _=>False,w,M,0,fun _=>none,fun _ _=>none⟩
 let G0:Gh:=⟨M,fun _=>none,fun _ _ _ _=>none,fun _ _=>False⟩
 have aj:cu g fn.ntmps (look (rp 0 args)) (aa []) { tmps:=vs.toArray++Array.replicate (fn.ntmps-vs.toArray.size) undef,defers:=[] } w G0:=by
  refine { fit:=⟨dP,fun i=>⟨rfl,fun _ _ _=>rfl⟩,fun i b ho=>ho.elim,fun i j b ho=>ho.elim⟩,env:=fun t=>?_,size:=by simp;omega,zQ:=fun _ _ _=>rfl,os:=rfl,tape:=rfl,output:=rfl,grow:=ab3 _,mem:=.refl M,nL:=fun _ _ _=>rfl,gB:=fun i b ho=>ho.elim,eX:=fun i hi=>absurd hi (Nat.not_lt_zero _),wv:=fun i hi=>absurd hi (Nat.not_lt_zero _),oT:=na,tL:=⟨[],rfl,List.nodup_nil,by simp⟩ }
  rw[yd]
  simp only[abO,if_true,Nat.sub_zero]
  split
  ·rename_i d hd
   have ht:t<vs.length:=by rw[<-hr.1];exact(abA.1 hd).1
   have hv:vs[t]?=some (vs[t]'ht):=aaa ht
   have:(vs.toArray++Array.replicate (fn.ntmps-vs.toArray.size) undef).getD t undef=vs[t]'ht:=by
    rw[abK,Array.getElem?_append_left (by simpa using ht)]
    simp[hv]
   rw[this]
   exact pX (hr.2 t d _ hd hv)
  ·exact .any _
 refine lO (g:=g) hT hm hC JF trivial gY (fun _=>rfl) (ab3 _) c h ⟨⟨G0,aj⟩,ab3 _,fun _ _=>rfl⟩ fun e nx env K a w' hq hs=>?_
 obtain⟨⟨G1,iu⟩,_⟩:=hs
 have fin:EU T (look env) (aa K) fn.results.toList rs->LeavesInM Fence.wide 0 P fn a.tmps (fun e w'=>∃v M',e=.returned v/\Below w.heap.size w w'/\Mem.Le M M'/\M'.In w'/\(∀b,b<w.heap.size->M' b=M b)/\xx M' rs v) a.defers .returning w':=by
  intro iZ
  obtain⟨D,hD,_⟩:=iu.tL
  rw[hD]
  refine cu.leave (g:=g) (n:=fn.ntmps) (ρ:=look env) (κ:=aa K) (G:=G1) a.tmps (fun w2 qY=>?_) D w' (by have:=iu;rw[<-hD];exact this)
  obtain⟨ids,us,aZ,zM⟩:=yf hT qY iZ
  obtain⟨G2,hle,_,_,_,ln⟩:=qY.pW (κ:=aa K) ids (fun _ _=>rfl)
  have aJ:=zM ids G2 (fun i hi=>hi) hle ln.fit
  have Va:Below w.heap.size w w2:=⟨ln.os,ln.tape,ln.output,ln.grow,fun b hb=>ln.zQ b hb (fun h=>h)⟩
  refine⟨_,pf aZ,_,G2.M,rfl,Va,ln.mem,ln.fit.sub,fun b hb=>ln.nL b hb (fun h=>h),?_⟩
  have qR:us.length=rs.length:=aJ.1.symm
  have many:us.length≠1->∃us':List Value,(if h:us.toArray.size=1 then us.toArray[0]else Value.tuple us.toArray)=.tuple us'.toArray/\fD G2.M rs us':=by
   intro ck
   refine⟨us,?_,aJ⟩
   rw[dif_neg (by simpa using ck)]
  match rs,aJ,qR,many with
  |[],aJ,qR,many=>exact many (by simp at qR;simp[qR])
  |[d],aJ,qR,_=>
   match us,qR,aJ with
   |[u],_,aJ=>exact aJ.2 0 d u rfl rfl
  |_::_::_,aJ,qR,many=>exact many (by simp at qR;omega)
 cases e with
 |normal=>exact fin hq
 |ret=>exact fin hq
 |exit i=>exact hq.elim
theorem A0{rm:RM}(hrm:rm.U2=true)(hT:eV P T)(hm:P.follows .mixedOrders=true)(hC:c7 P (fun _=>True))(JF:jA P){f:Nat}{fn:Func}{c:Code}{args:List AV}{m ex:Nat}{K:ae}{R:List AV->ae->Prop}(hf:P.funcs[f]?=some fn)(hb:fn.body=some c)(eT:(fn.name== "runtime.NumGoroutine")=false)
 (bW:(Nat.ble args.length fn.ntmps&&cI.wf ⟨m,de 0 args,K⟩)=true) (h:fg P T rm fn.ntmps m c (pd T fn m ex R) m (de 0 args) K):bV P f args m K ex R:=by
 refine⟨⟨fn,hf,eT,by rw[hb];rfl⟩,fun w G vs na cL hr=>?_⟩
 refine(gY.calls (n:=0)).1 (callsIn_of_wp_marks hf hb trivial ?_)
 simp only[aca,cI.wf]at bW
 obtain⟨hlen,hwB,hwE⟩:=bW
 have hlen:vs.length<=fn.ntmps:=by rw[<-hr.1];exact Nat.le_of_ble_eq_true hlen
 let g:dO:=⟨fun b=>∃i,cx G i (aa K i) b,w,G.M,m,G.β,fun i p=>G.H i 0 0 p⟩
 have aj:cu g fn.ntmps (look (de 0 args)) (aa K) { tmps:=vs.toArray++Array.replicate (fn.ntmps-vs.toArray.size) undef,defers:=[] } w G:=by
  refine { fit:=cL,env:=fun t=>?_,size:=by simp;omega,zQ:=fun _ _ _=>rfl,os:=rfl,tape:=rfl,output:=rfl,grow:=ab3 _,mem:=.refl G.M,nL:=fun _ _ _=>rfl,gB:=fun i b ho=>.inr ⟨i,ho⟩,eX:=fun _ _=>rfl,wv:=fun _ _ _ _ hx=>hx,oT:=na,tL:=⟨[],rfl,List.nodup_nil,by simp⟩ }
  rw[pe]
  simp only[abO,if_true,Nat.sub_zero]
  split
  ·rename_i d hd
   have ht:t<vs.length:=by rw[<-hr.1];exact(abA.1 hd).1
   have hv:vs[t]?=some (vs[t]'ht):=aaa ht
   have:(vs.toArray++Array.replicate (fn.ntmps-vs.toArray.size) undef).getD t undef=vs[t]'ht:=by
    rw[abK,Array.getElem?_append_left (by simpa using ht)]
    simp[hv]
   rw[this]
   exact hr.2 t d _ hd hv
  ·exact .any _
 refine lO (g:=g) hT hm hC JF trivial gY (fun _=>rfl) (r:=rm) (ab3 _) c h ⟨⟨G,aj⟩,ab3 _,fun i hi=>mF hwB hi⟩ fun e nx env K1 a w' hq hs=>?_
 obtain⟨⟨G1,iu⟩,_⟩:=hs
 have fin:NR T fn m ex R env K1->LeavesInM Fence.wide 0 P fn a.tmps (fun e w'=>∃v rs K' G',e=.returned v/\R rs K'/\Lf m ex (aa K) w G rs (aa K') w' G' v) a.defers .returning w':=by
  intro iZ
  obtain⟨D,hD,_⟩:=iu.tL
  rw[hD]
  refine cu.leave (g:=g) (n:=fn.ntmps) (ρ:=look env) (κ:=aa K1) (G:=G1) a.tmps (fun w2 qY=>?_) D w' (by have:=iu;rw[<-hD];exact this)
  obtain⟨jk,us,⟨rs,K2,hR,fh,hsV,JG⟩,aZ,hrel⟩:=wU hT qY iZ
  simp only[pc,aca]at fh
  obtain⟨⟨⟨EX,NV⟩,ec⟩,og⟩:=fh
  obtain⟨G2,_,KJ,NO⟩:=qY.sub (m:=m) (ab3 _) (F:=dc (aa K1) rs jk++dD (aa K1) K2) EX (fun i hi=>abI.2 (.inr hi)) ec og JG
  have aJ:=KJ rs jk us hsV NV (fun i hi=>abI.2 (.inl hi)) hrel
  have jW:=NO (fun _=>.any) (fun _=>.any _)
  refine⟨_,pf aZ,_,rs,K2,G2,rfl,hR,⟨jW.fit,fun i hi=>mF EX hi,?_,jW.mem,jW.eX,jW.wv,fun b hb hO=>⟨jW.zQ b hb (fun⟨i,h⟩=>hO i h),jW.nL b hb (fun⟨i,h⟩=>hO i h)⟩,jW.gB,jW.os,jW.tape,jW.output,jW.grow⟩⟩
  have qR:us.length=rs.length:=aJ.1.symm
  have many:us.length≠1->aH G2 (.fO rs) (if h:us.toArray.size=1 then us.toArray[0]else Value.tuple us.toArray):=by
   intro ck
   rw[dif_neg (by simpa using ck)]
   exact .fO rs us aJ.1 aJ.2
  match rs,aJ,qR,many with
  |[],aJ,qR,many=>exact many (by simp at qR;simp[qR])
  |[d],aJ,qR,_=>
   match us,qR,aJ with
   |[u],_,aJ=>exact aJ.2 0 d u rfl rfl
  |_::_::_,aJ,qR,many=>exact many (by simp at qR;omega)
 cases e with
 |normal=>exact fin hq
 |ret=>exact fin hq
 |exit i=>exact hq.elim
theorem mJ(hT:eV P T)(hm:P.follows .mixedOrders=true)(hC:c7 P (fun _=>True))(JF:jA P){f:Nat}{fn:Func}{c:Code}{args:List AV}{m ex:Nat}{K:ae}{R:List AV->ae->Prop}(hf:P.funcs[f]?=some fn)(hb:fn.body=some c)(eT:(fn.name== "runtime.NumGoroutine")=false)
 (bW:(Nat.ble args.length fn.ntmps&&cI.wf ⟨m,de 0 args,K⟩)=true) (h:fg P T .fn fn.ntmps m c (pd T fn m ex R) m (de 0 args) K):bV P f args m K ex R:=
 A0 (rm:=.fn) rfl hT hm hC JF hf hb eT bW h
theorem HA(hT:eV P T)(hm:P.follows .mixedOrders=true)(hC:c7 P (fun _=>True))(JF:jA P){f:Nat}{fn:Func}{c:Code}{args:List AV}{m ex:Nat}{K:ae}{R:List AV->ae->Prop}(hf:P.funcs[f]?=some fn)(hb:fn.body=some c)(eT:(fn.name== "runtime.NumGoroutine")=false)
 (bW:(Nat.ble args.length fn.ntmps&&cI.wf ⟨m,de 0 args,K⟩)=true) (h:fg P T .rel fn.ntmps m c (pd T fn m ex R) m (de 0 args) K):bV P f args m K ex R:=
 A0 (rm:=.rel) rfl hT hm hC JF hf hb eT bW h
theorem NW(hT:eV P T)(hm:P.follows .mixedOrders=true)(hC:c7 P (fun _=>True))(JF:jA P){f:Nat}{fn:Func}{c:Code}{args:List AV}{m ex:Nat}{K:ae}{rs:List AV}{K':ae}(hf:P.funcs[f]?=some fn)(hb:fn.body=some c)(eT:(fn.name== "runtime.NumGoroutine")=false)
 (bW:(Nat.ble args.length fn.ntmps&&cI.wf ⟨m,de 0 args,K⟩)=true) (h:fg P T .fn fn.ntmps m c (pd T fn m ex fun r k=>r=rs/\k=K') m (de 0 args) K):aq P f args m K ex rs K':=
 mJ hT hm hC JF hf hb eT bW h
theorem HB(hT:eV P T)(hm:P.follows .mixedOrders=true)(hC:c7 P (fun _=>True))(JF:jA P){f:Nat}{fn:Func}{c:Code}{args:List AV}{m ex:Nat}{K:ae}{rs:List AV}{K':ae}(hf:P.funcs[f]?=some fn)(hb:fn.body=some c)(eT:(fn.name== "runtime.NumGoroutine")=false)
 (bW:(Nat.ble args.length fn.ntmps&&cI.wf ⟨m,de 0 args,K⟩)=true) (h:fg P T .rel fn.ntmps m c (pd T fn m ex fun r k=>r=rs/\k=K') m (de 0 args) K):aq P f args m K ex rs K':=
 HA hT hm hC JF hf hb eT bW h
end
end
section
open Go.RowKit
variable [cj]
theorem jB(v e:Nat):oz (0,0) v e=(v,e):=by cases v<;>simp[oz]
theorem gQ:∀(K:ae),aa K=ay (fun _=>.none) K
 |[]=>rfl
 |(i,b)::K=>by
  funext t
  simp only[aa,ay,gM,gQ K]
  by_cases h:t=i
  ·subst h;simp
  ·rw[if_neg h];simp[beq_false h]
theorem qa{r:Nat->Nat}{sh:Nat->Nat×Nat}(gA:∀i j,r i=r j->i=j)(f:Nat->ar):∀(K:ae) (j:Nat),ay f (bX r sh K) (r j)=if j∈keys K then sH r sh j (aa K j)else f (r j)
 |[],j=>by simp[bX,ay,keys]
 |(i,b)::K,j=>by
  simp only[bX,ay]
  by_cases e:j=i
  ·subst e;simp[keys,aa]
  ·have:r j≠r i:=fun h=>e (gA _ _ h)
   rw[ah _ _ this,qa gA f K j]
   simp only[aa,beq_false e,cond_false]
   by_cases hj:j∈keys K
   ·rw[if_pos hj,if_pos (by simp only[keys,List.map_cons,abG];exact .inr hj)]
   ·rw[if_neg hj,if_neg (by simp only[keys,List.map_cons,abG,not_or];exact⟨e,hj⟩)]
theorem oh{r:Nat->Nat}{sh:Nat->Nat×Nat}(f:Nat->ar):∀(K:ae) (i:Nat),(∀j,j∈keys K->r j≠i)->ay f (bX r sh K) i=f i
 |[],i,_=>rfl
 |(j,b)::K,i,h=>by
  simp only[bX,ay]
  rw[ah _ _ (fun e=>h j (by simp[keys]) e.symm)]
  exact oh f K i fun q hq=>h q (by simp only[keys,List.map_cons,abG];exact .inr hq)
theorem cU{m:Nat}:∀{K:ae},l9 m K=true->∀j,j∈keys K->j<m
 |[],_,j,h=>by simp[keys]at h
 |(i,b)::K,hk,j,h=>by
  simp only[l9,aca,Nat.blt_eq]at hk
  simp only[keys,List.map_cons,abG]at h
  rcases h with rfl|h
  ·exact hk.1
  ·exact cU hk.2 j h
theorem gZ:∀{K:ae} {j:Nat},j∉keys K->aa K j=.none
 |[],_,_=>rfl
 |(i,b)::K,j,h=>by
  simp only[keys,List.map_cons,abG,not_or]at h
  simp only[aa]
  rw[beq_false h.1]
  exact gZ h.2
theorem mK{r:Nat->Nat}{sh:Nat->Nat×Nat}:∀{K:ae} {i:Nat} {b:ar},(i,b)∈bX r sh K->∃j,j∈keys K/\i=r j
 |[],i,b,h=>by simp[bX]at h
 |(j,c)::K,i,b,h=>by
  simp only[bX,abG]at h
  rcases h with h|h
  ·injection h with e1 e2;exact⟨j,by simp[keys],e1⟩
  ·obtain⟨q,h1,h2⟩:=mK h;exact⟨q,by simp only[keys,List.map_cons,abG];exact .inr h1,h2⟩
theorem vD{γ:Type _}(f:Nat->γ):∀(l l':List (Nat×γ)),ay f (l++l')=ay (ay f l') l
 |[],_=>rfl
 |(i,x)::l,l'=>by simp only[List.cons_append,ay,vD f l l']
theorem jZ:∀{σ:List Nat} {nx j:Nat} (h:j<σ.length),sg σ nx j=σ[j]
 |[],_,j,h=>by simp at h
 |i::σ,nx,0,_=>rfl
 |i::σ,nx,j+1,h=>by simp only[sg,List.getElem_cons_succ];exact jZ (by simpa using h)
theorem jC:∀{σ:List Nat} {nx j:Nat},σ.length<=j->sg σ nx j=nx+(j-σ.length)
 |[],_,j,_=>by simp[sg]
 |i::σ,nx,0,h=>by simp at h
 |i::σ,nx,j+1,h=>by
  simp only[sg,List.length_cons]
  rw[jC (by simpa using h)]
  simp
theorem jc{κ:Nat->ar}:∀{σ:List Nat} {nx:Nat},JH κ σ nx=true->(∀i,i∈σ->i<nx)/\σ.Nodup
 |[],_,_=>⟨by simp,List.nodup_nil⟩
 |i::σ,nx,h=>by
  simp only[JH,aca,Nat.blt_eq,acd]at h
  obtain⟨h1,h2⟩:=jc h.2
  exact⟨fun j hj=>by rcases abG.1 hj with rfl|hj;exact h.1.1;exact h1 j hj,List.nodup_cons.2 ⟨fa h.1.2,h2⟩⟩
theorem NY{κ:Nat->ar}:∀{σ:List Nat} {j:Nat} (h:j<σ.length),jV κ σ j=NZ (κ σ[j])
 |[],j,h=>by simp at h
 |i::σ,0,_=>rfl
 |i::σ,j+1,h=>by simp only[jV,List.getElem_cons_succ];exact NY (by simpa using h)
theorem JI{κ:Nat->ar}:∀{σ:List Nat} {j:Nat},σ.length<=j->jV κ σ j=(0,0)
 |[],_,_=>rfl
 |i::σ,0,h=>by simp at h
 |i::σ,j+1,h=>by simp only[jV];exact JI (by simpa using h)
def pos:List Nat->Nat->Option Nat
 |[],_=>none
 |x::l,i=>if x=i then some 0 else(pos l i).map (·+1)
def j3(σ:List Nat)(nx ex i:Nat):Option Nat:=match pos σ i with
 |some j=>some j
 |none=>if nx<=i/\i<nx+ex then some (σ.length+(i-nx))else none
theorem yg:∀{σ:List Nat} {i j:Nat},pos σ i=some j->∃h:j<σ.length,σ[j]=i
 |[],i,j,h=>by simp[pos]at h
 |x::l,i,j,h=>by
  simp only[pos]at h
  split at h
  ·rename_i e;injection h with h;subst h;exact⟨by simp,e⟩
  ·cases hp:pos l i with
   |none=>rw[hp]at h;simp at h
   |some q=>rw[hp]at h;simp at h;subst h;obtain⟨h1,h2⟩:=yg hp;exact⟨by simpa using h1,by simpa using h2⟩
theorem pos_at:∀{σ:List Nat} (hn:σ.Nodup) {j:Nat} (h:j<σ.length),pos σ σ[j]=some j
 |[],_,j,h=>by simp at h
 |x::l,hn,0,h=>by simp[pos]
 |x::l,hn,j+1,h=>by
  have Hc:=List.nodup_cons.1 hn
  have hj:j<l.length:=by simpa using h
  simp only[List.getElem_cons_succ,pos]
  rw[if_neg (fun e=>Hc.1 (by rw[e];exact ab6 hj)),pos_at Hc.2 hj]
  rfl
theorem N0{σ:List Nat}{i:Nat}(h:i∉σ):pos σ i=none:=by
 cases hp:pos σ i with
 |none=>rfl
 |some j=>obtain⟨h1,h2⟩:=yg hp;exact absurd (h2▸ab6 h1) h
theorem N1{σ:List Nat}{nx:Nat}(h1:∀i,i∈σ->i<nx)(h2:σ.Nodup)(i j:Nat)(h:sg σ nx i=sg σ nx j):i=j:=by
 rcases abT i σ.length with hi|hi
 ·rcases abT j σ.length with hj|hj
  ·rw[jZ hi,jZ hj]at h
   have e1:=pos_at h2 hi;have e2:=pos_at h2 hj;rw[h,e2]at e1;injection e1 with e1;exact e1.symm
  ·rw[jZ hi,jC hj]at h
   have:=h1 _ (ab6 hi);omega
 ·rcases abT j σ.length with hj|hj
  ·rw[jC hi,jZ hj]at h
   have:=h1 _ (ab6 hj);omega
  ·rw[jC hi,jC hj]at h;omega
theorem RF{σ:List Nat}{nx ex:Nat}(h1:∀i,i∈σ->i<nx)(h2:σ.Nodup){j:Nat}(hj:j<σ.length+ex):j3 σ nx ex (sg σ nx j)=some j:=by
 unfold j3
 rcases abT j σ.length with au|gG
 ·rw[jZ au,pos_at h2 au]
 ·rw[jC gG,N0 (fun hm=>by have:=h1 _ hm;omega)]
  simp only
  rw[if_pos (by omega)]
  congr 1
  omega
theorem jd{σ:List Nat}{nx ex i j:Nat}(h:j3 σ nx ex i=some j):j<σ.length+ex/\sg σ nx j=i:=by
 unfold j3 at h
 split at h
 ·rename_i q hq
  injection h with h;subst h
  obtain⟨h1,h2⟩:=yg hq
  exact⟨by omega,by rw[jZ h1];exact h2⟩
 ·split at h
  ·rename_i hr
   injection h with h;subst h
   refine⟨by omega,?_⟩
   rw[jC (by omega)];omega
  ·cases h
def pull(r:Nat->Nat)(G:Gh):Gh:=⟨G.M,fun j=>G.β (r j),fun j=>G.H (r j),fun j=>G.X (r j)⟩
theorem mL(r:Nat->Nat)(G:Gh)(j v e:Nat):aJ (pull r G).H j v e=aJ G.H (r j) v e:=by
 funext p;cases p<;>rfl
theorem N2{r:Nat->Nat}{G:Gh}:∀N:Nat,(∀(u:AV) (x:Value),SizeOf.sizeOf u<N->aH G (mn r di u) x->aH (pull r G) u x)/\
 (∀(us:List AV) (xs:List Value),SizeOf.sizeOf us<N->cb G (dw r di us) xs->cb (pull r G) us xs):=by
 intro N
 induction N with
 |zero=>exact⟨fun _ _ h=>by omega,fun _ _ h=>by omega⟩
 |succ N ih=>
  refine⟨fun u x aW hv=>?_,fun us xs aW hr=>?_⟩
  ·cases u with
   |any=>exact .any _
   |dv d=>simp only[mn]at hv;cases hv with|dv h=>exact .dv h
   |ptr i off=>simp only[mn]at hv;cases hv with|ptr _ _ b h=>exact .ptr i off b h
   |eP i=>simp only[mn]at hv;cases hv with|eP _ b h=>exact .eP i b h
   |sle i n=>simp only[mn]at hv;cases hv with|sle _ _ b h=>exact .sle i n b h
   |cq i v=>simp only[mn,di,jB]at hv;cases hv with|cq _ _ a n h=>exact .cq i v a n h
   |own i v e p=>
    simp only[mn,di,jB]at hv
    cases hv with|own _ _ _ _ _ h hc=>exact .own i v e p x (by rw[mL];exact h) hc
   |loc i v e p a b c=>
    simp only[mn,di,jB]at hv
    cases hv with
    |loc _ _ _ _ _ _ _ A q q' h=>exact .loc i v e p a b c A q q' (by rw[mL];exact h)
    |qm _ _ _ _ _ _ _ A h=>exact .qm i v e p a b c A (by rw[mL];exact h)
   |pre i v e p a b c=>
    simp only[mn,di,jB]at hv
    cases hv with
    |pre _ _ _ _ _ _ _ q q' h=>exact .pre i v e p a b c q q' fun hn=>by obtain⟨A,N,c',e1,e2⟩:=h hn;exact⟨A,N,c',by rw[mL];exact e1,e2⟩
   |fn f l=>simp only[mn]at hv;cases hv with|fn _ _ vs hl hr=>have:=ih.2 l vs (by simp at aW;omega) ⟨hl,hr⟩;exact .fn f l vs this.1 this.2
   |jQ f l=>simp only[mn]at hv;cases hv with|jQ _ _ vs hl hr=>have:=ih.2 l vs (by simp at aW;omega) ⟨hl,hr⟩;exact .jQ f l vs this.1 this.2
   |agg l=>simp only[mn]at hv;cases hv with|agg _ vs hl hr=>have:=ih.2 l vs (by simp at aW;omega) ⟨hl,hr⟩;exact .agg l vs this.1 this.2
   |fO l=>simp only[mn]at hv;cases hv with|fO _ vs hl hr=>have:=ih.2 l vs (by simp at aW;omega) ⟨hl,hr⟩;exact .fO l vs this.1 this.2
   |opt g v=>simp only[mn]at hv;cases hv with|opt _ _ _ h hu=>exact .opt g v x (fun hg=>ih.1 v x (by simp at aW;omega) (h hg)) hu
  ·cases us with
   |nil=>exact⟨hr.1,by simp⟩
   |cons u us=>
    simp only[dw]at hr
    match xs,hr with
    |[],hr=>have:=hr.1;simp at this
    |x::xs,hr=>
     have h1:=ih.1 u x (by simp at aW;omega) (hr.2 0 _ x rfl rfl)
     have h2:=ih.2 us xs (by simp at aW;omega) ⟨by simpa using hr.1,fun q e y he hy=>hr.2 (q+1) e y (by simpa using he) (by simpa using hy)⟩
     refine⟨by simp[h2.1],fun j d y hd hy=>?_⟩
     cases j with
     |zero=>simp at hd hy;subst hd;subst hy;exact h1
     |succ j=>exact h2.2 j d y (by simpa using hd) (by simpa using hy)
theorem pg(r:Nat->Nat)(sh:Nat->Nat×Nat):∀l,(dw r sh l).length=l.length
 |[]=>rfl
 |v::l=>by simp[dw,pg r sh l]
theorem yh(r:Nat->Nat)(sh:Nat->Nat×Nat):∀(l:List AV) (j:Nat),(dw r sh l)[j]?=(l[j]?).map (mn r sh)
 |[],j=>by simp[dw]
 |v::l,0=>by simp[dw]
 |v::l,j+1=>by simp[dw,yh r sh l j]
theorem HC(r:Nat->Nat)(sh:Nat->Nat×Nat)(v:AV):(mn r sh v).ai=v.ai:=by cases v<;>simp[mn,AV.ai]
theorem RH{r:Nat->Nat}(gA:∀i j,r i=r j->i=j){G:Gh}{w:World}{K:ae}(hf:Fit G w (aa (bX r di K)))(hk:∀j,j∈keys K->aa K j≠.none)(eu:∀j,j∈keys K->∀a b c d e,aa K j≠.ka a b c d e)(hkh:∀j,j∈keys K->aa K j≠.held)(hc:∀(j:Nat) (l:List AV),aa K j=.cells l->b9 l=true):
 Fit (pull r G) w (aa K)/\∀j b,cx (pull r G) j (aa K j) b->j∈keys K/\cx G (r j) (aa (bX r di K) (r j)) b:=by
 have jN:∀j,aa (bX r di K) (r j)=if j∈keys K then sH r di j (aa K j)else .none:=fun j=>by
  rw[gQ];exact qa gA _ K j
 have gn:∀j b,cx (pull r G) j (aa K j) b->j∈keys K/\cx G (r j) (aa (bX r di K) (r j)) b:=by
  intro j b ho
  by_cases hj:j∈keys K
  ·refine⟨hj,?_⟩
   rw[jN,if_pos hj]
   cases hl:aa K j with
   |cells l=>rw[hl]at ho;exact ho
   |tree v e d=>
    rw[hl]at ho
    simp only[sH,di,jB,cx]at ho⊢
    rw[mL]at ho;exact ho
   |c5 rc st l=>rw[hl]at ho;exact ho
   |ka a b c d e=>exact absurd hl (eu j hj a b c d e)
   |_=>rw[hl]at ho;exact ho.elim
  ·rw[gZ hj]at ho;exact ho.elim
 refine⟨⟨hf.sub,fun j=>?_,fun j b ho=>hf.own _ b (gn j b ho).2,fun i j b hi hj=>gA i j (hf.inj _ _ b (gn i b hi).2 (gn j b hj).2)⟩,gn⟩
 have hb:=hf.box (r j)
 rw[jN]at hb
 by_cases hj:j∈keys K
 ·rw[if_pos hj]at hb
  cases hl:aa K j with
  |none=>exact absurd hl (hk j hj)
  |dead=>trivial
  |cells l=>
   rw[hl]at hb
   obtain⟨b,c,t,h1,h2,h3,h4,h5⟩:=hb
   refine⟨b,c,t,h1,h2,by rw[h3,pg],fK (hc j l hl),fun q d v hd hv=>?_⟩
   exact(N2 (r:=r) (SizeOf.sizeOf d+1)).1 d v (by omega) (h5 q _ v (by rw[yh,hd];rfl) hv)
  |tree v e d=>
   rw[hl]at hb
   simp only[sH,di,jB]at hb
   simp only[fN]at hb⊢
   rw[mL]
   exact hb
  |fz v d=>
   rw[hl]at hb
   simp only[sH,di,jB]at hb
   exact hb
  |c5 rc st l=>
   rw[hl]at hb
   obtain⟨b,fn,tmps,D,h1,h2,h3⟩:=hb
   exact⟨b,fn,tmps,D,h1,h2,(N2 (r:=r) (SizeOf.sizeOf l+1)).2 l tmps.toList (by omega) h3⟩
  |ka a b c d e=>exact absurd hl (eu j hj a b c d e)
  |held=>exact absurd hl (hkh j hj)
 ·rw[if_neg hj]at hb
  rw[gZ hj]
  exact hb
theorem N3{G2 G3:Gh}{r:Nat->Nat}{sh:Nat->Nat×Nat}{ok:Nat->Bool}(hM:Mem.Le G2.M G3.M)(hβ:∀j b,G2.β j=some b->G3.β (r j)=some b)
 (hH:∀j v e p x,ok j=true->aJ G2.H j v e p=some x->aJ G3.H (r j) (oz (sh j) v e).1 (oz (sh j) v e).2 p=some x):∀N:Nat,
 (∀(u:AV) (x:Value),SizeOf.sizeOf u<N->AV.nm ok u=true->aH G2 u x->aH G3 (mn r sh u) x)/\
 (∀(us:List AV) (xs:List Value),SizeOf.sizeOf us<N->AV.Lg ok us=true->cb G2 us xs->cb G3 (dw r sh us) xs):=by
 intro N
 induction N with
 |zero=>exact⟨fun _ _ h=>by omega,fun _ _ h=>by omega⟩
 |succ N ih=>
  refine⟨fun u x aW hn hv=>?_,fun us xs aW hn hr=>?_⟩
  ·cases u with
   |any=>exact .any _
   |dv d=>cases hv with|dv h=>exact .dv (h.mono hM)
   |ptr i off=>cases hv with|ptr _ _ b h=>exact .ptr _ off b (hβ _ _ h)
   |eP i=>cases hv with|eP _ b h=>exact .eP _ b (hβ _ _ h)
   |sle i n=>cases hv with|sle _ _ b h=>exact .sle _ n b (hβ _ _ h)
   |cq i v=>
    simp only[AV.nm]at hn
    cases hv with|cq _ _ a n h=>exact .cq _ _ a n (hH i v 0 [] _ hn h)
   |own i v e p=>
    simp only[AV.nm]at hn
    cases hv with|own _ _ _ _ _ h hc=>exact .own _ _ _ p x (hH _ _ _ _ _ hn h) hc
   |loc i v e p a b c=>
    simp only[AV.nm]at hn
    cases hv with
    |loc _ _ _ _ _ _ _ A q q' h=>exact .loc _ _ _ p a b c A q q' (hH _ _ _ _ _ hn h)
    |qm _ _ _ _ _ _ _ A h=>exact .qm _ _ _ p a b c A (hH _ _ _ _ _ hn h)
   |pre i v e p a b c=>
    simp only[AV.nm]at hn
    cases hv with
    |pre _ _ _ _ _ _ _ q q' h=>exact .pre _ _ _ p a b c q q' fun hz=>by obtain⟨A,N,c',e1,e2⟩:=h hz;exact⟨A,N,c',hH _ _ _ _ _ hn e1,e2⟩
   |fn f l=>simp only[AV.nm]at hn;cases hv with|fn _ _ vs hl hr=>have:=ih.2 l vs (by simp at aW;omega) hn ⟨hl,hr⟩;exact .fn f _ vs this.1 this.2
   |jQ f l=>simp only[AV.nm]at hn;cases hv with|jQ _ _ vs hl hr=>have:=ih.2 l vs (by simp at aW;omega) hn ⟨hl,hr⟩;exact .jQ f _ vs this.1 this.2
   |agg l=>simp only[AV.nm]at hn;cases hv with|agg _ vs hl hr=>have:=ih.2 l vs (by simp at aW;omega) hn ⟨hl,hr⟩;exact .agg _ vs this.1 this.2
   |fO l=>simp only[AV.nm]at hn;cases hv with|fO _ vs hl hr=>have:=ih.2 l vs (by simp at aW;omega) hn ⟨hl,hr⟩;exact .fO _ vs this.1 this.2
   |opt g v=>simp only[AV.nm]at hn;cases hv with|opt _ _ _ h hu=>exact .opt g _ x (fun hg=>ih.1 v x (by simp at aW;omega) hn (h hg)) hu
  ·cases us with
   |nil=>exact⟨hr.1,by simp[dw]⟩
   |cons u us=>
    simp only[AV.Lg,aca]at hn
    match xs,hr with
    |[],hr=>have:=hr.1;simp at this
    |x::xs,hr=>
     have h1:=ih.1 u x (by simp at aW;omega) hn.1 (hr.2 0 _ x rfl rfl)
     have h2:=ih.2 us xs (by simp at aW;omega) hn.2 ⟨by simpa using hr.1,fun q e y he hy=>hr.2 (q+1) e y (by simpa using he) (by simpa using hy)⟩
     refine⟨by simp only[dw,List.length_cons];rw[h2.1],fun j d y hd hy=>?_⟩
     cases j with
     |zero=>simp[dw]at hd hy;subst hd;subst hy;exact h1
     |succ j=>exact h2.2 j d y (by simpa[dw]using hd) (by simpa using hy)
def mH(V E:Nat)(H1 H2:Nat->Nat->List PS->Option Value)(v e:Nat)(p:List PS):Option Value:=
 if v<V then H1 v e p else if V<v then H2 (v-V) e p else match p with
  |[]=>if e=0 then H2 0 0 []else H1 v e []
  |s::q=>if e<E then H1 v e (s::q)else H2 0 (e-E) (s::q)
theorem N4{V E:Nat}{H1 H2:Nat->Nat->List PS->Option Value}(v e:Nat):mH V E H1 H2 (oz (V,E) v e).1 0 []=H2 v 0 []/\∀s q,mH V E H1 H2 (oz (V,E) v e).1 (oz (V,E) v e).2 (s::q)=H2 v e (s::q):=by
 cases v with
 |zero=>
  refine⟨by simp[oz,mH],fun s q=>?_⟩
  show mH V E H1 H2 V (E+e) (s::q)=_
  simp only[mH,Nat.lt_irrefl,if_false]
  rw[if_neg (by omega),Nat.add_sub_cancel_left]
 |succ v=>
  have h1:¬(V+(v+1)<V):=by omega
  have h2:V<V+(v+1):=by omega
  have h3:V+(v+1)-V=v+1:=by omega
  refine⟨?_,fun s q=>?_⟩
  ·show mH V E H1 H2 (V+(v+1)) 0 []=_
   unfold mH;rw[if_neg h1,if_pos h2,h3]
  ·show mH V E H1 H2 (V+(v+1)) e (s::q)=_
   unfold mH;rw[if_neg h1,if_pos h2,h3]
theorem Vb{V E:Nat}{H1 H2:Nat->Nat->List PS->Option Value}(h1:∀v,V<v->∀e p,H1 v e p=none)(h2:∀e,E<e->∀p,H1 V e p=none)(h3:∀x,H1 V 0 []=some x->H2 0 0 []=some x)(h4:∀s q x,H1 V E (s::q)=some x->H2 0 0 (s::q)=some x)
 {v e:Nat} {p:List PS} {x:Value} (h:H1 v e p=some x):mH V E H1 H2 v e p=some x:=by
 unfold mH
 split
 ·exact h
 ·split
  ·rename_i au;rw[h1 v au]at h;cases h
  ·have:v=V:=by omega
   subst this
   cases p with
   |nil=>
    simp only
    split
    ·rename_i he;subst he;exact h3 x h
    ·exact h
   |cons s q=>
    simp only
    split
    ·exact h
    ·rename_i gG
     rcases abT E e with au|hle
     ·rw[h2 e au]at h;cases h
     ·have:e=E:=by omega
      subst this
      rw[Nat.sub_self];exact h4 s q x h
theorem Yc{V E:Nat}{H1 H2:Nat->Nat->List PS->Option Value}{v e:Nat}(h:∀v',v<v'->∀e p,H2 v' e p=none){v':Nat}(hv:(oz (V,E) v e).1<v')(e':Nat)(p:List PS):mH V E H1 H2 v' e' p=none:=by
 have hle:V+v<=(oz (V,E) v e).1:=by cases v<;>simp[oz]
 unfold mH
 rw[if_neg (by omega),if_pos (by omega)]
 exact h _ (by omega) e' p
theorem Yd{V E:Nat}{H1 H2:Nat->Nat->List PS->Option Value}(h2:∀e,E<e->∀p,H1 V e p=none){v e:Nat}(h:∀e',e<e'->∀p,H2 v e' p=none){e':Nat}(he:(oz (V,E) v e).2<e')(p:List PS):mH V E H1 H2 (oz (V,E) v e).1 e' p=none:=by
 cases v with
 |zero=>
  show mH V E H1 H2 V e' p=none
  have he:E+e<e':=he
  simp only[mH,Nat.lt_irrefl,if_false]
  cases p with
  |nil=>simp only;rw[if_neg (by omega)];exact h2 e' (by omega) []
  |cons s q=>simp only;rw[if_neg (by omega)];exact h _ (by omega) _
 |succ v=>
  show mH V E H1 H2 (V+(v+1)) e' p=none
  have he:e<e':=he
  unfold mH
  rw[if_neg (by omega),if_pos (by omega)]
  have h3:V+(v+1)-V=v+1:=by omega
  rw[h3];exact h e' he p
end
end Go.TM
