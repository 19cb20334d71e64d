import Derived.Test.YtmojfblpbcficaaGreatDoorCM9
import Derived.Orders
set_option linter.all false
namespace Go.TM
section
open Go.RowKit
variable [cn]
section
variable {P:Program} {C:dW->Prop} {T:List TI} {ops:List Oper} {n:Nat} {o:Oper} {nx:Nat} {ρ:Nat->AV} {κ:Nat->au} {k:lN->Nat->Prop} {gd:Bool}
theorem iC{f:Nat}(hf:fM P f)(args:Array Value)(w:World):(callFunc f args).run P w=.ok (.enter f args) w:=by
 obtain⟨fn,h1,h2,h3⟩:=hf
 have Jt:¬fn.name="runtime.NumGoroutine":=by simpa using h2
 have h3':¬fn.body=none:=by rintro hb;rw[hb]at h3;cases h3
 simp[callFunc,program,Sem.run,h1,Jt,h3']
def tP(P:Program)(ops:List Oper)(o:Oper)(ρ:Nat->AV)(κ:Nat->au)(gd:Bool)(f:Nat)(l:List AV):Prop:=
 (∀c,o.op≠.defer c)/\∀ρ' κ' rd bx,DX ops o ρ ρ' κ κ' rd bx->∀(g:dW) (n:Nat) (a:Act) (w:World) (G:Gh),cx g n ρ' κ' a w G->gd=true->fM P f->
  ∃vs:List Value,(execOp a.eval o).run P w=.ok (.enter f vs.toArray) w/\cd G l vs
theorem vf{c:Call}{f:Nat}{l:List AV}(ho:o.op=.call c)(hc:c.callee=.value (.func f))(bR:lR ρ κ gd c.args.toList l):tP P ops o ρ κ gd f l:=by
 refine⟨fun c=>by rw[ho];simp,?_⟩
 intro ρ' κ' rd bx ax g n a w G ak aV hf
 have hrel:=lR.rel ak aV bR (fun x hx=>ax.op (by rw[ho];simp only[Op.operands,Call.operands,hc];exact Array.mem_append.2 (.inr (by simpa using hx))))
 have cI:(List.map a.eval c.args.toList).toArray=c.args.map a.eval:=by rw[<-Array.toList_map,Array.toArray_toList]
 refine⟨_,?_,hrel⟩
 rw[cI]
 simp[execOp,ho,resolve,hc,Act.eval,Deferred.ofValue,invoke,iC hf]
theorem cd.append{G:Gh}{l l':List AV}{vs M4:List Value}(h:cd G l vs)(h':cd G l' M4):cd G (l++l') (vs++M4):=by
 refine⟨by simp[h.1,h'.1],fun j d v hd hv=>?_⟩
 rcases acD j l.length with aw|gE
 ·rw[List.getElem?_append_left aw]at hd
  rw[List.getElem?_append_left (by rw[<-h.1];exact aw)]at hv
  exact h.2 j d v hd hv
 ·rw[List.getElem?_append_right gE]at hd
  rw[List.getElem?_append_right (by rw[<-h.1];exact gE),<-h.1]at hv
  exact h'.2 _ d v hd hv
theorem ri{c:Call}{f t:Nat}{l:List AV}{av:AV}(ho:o.op=.call c)(hc:c.callee=.value (.tmp t))(hv:bJ ρ κ gd (.tmp t) av)(bR:lR ρ κ gd c.args.toList l){L:List AV}
 (hav:(∃bO,av=.fn f bO/\L=l++bO)\/(∃first,av=.kj f first/\L=first++l)\/(∃bO,av=.dv (.fn f bO)/\L=l++eV bO)):tP P ops o ρ κ gd f L:=by
 refine⟨fun c=>by rw[ho];simp,?_⟩
 intro ρ' κ' rd bx ax g n a w G ak aV hf
 have hrel:=lR.rel ak aV bR (fun x hx=>ax.op (by rw[ho];simp only[Op.operands,Call.operands,hc];exact Array.mem_append.2 (.inr (by simpa using hx))))
 have qF:=hv ρ' κ' (ax.op (by rw[ho];simp only[Op.operands,Call.operands,hc];exact Array.mem_append.2 (.inl (by simp)))) g n a w G ak aV
 have cI:(List.map a.eval c.args.toList).toArray=c.args.map a.eval:=by rw[<-Array.toList_map,Array.toArray_toList]
 generalize hx:a.eval (.tmp t)=x at qF
 have Yx:∀(vs:List Value),x=.func (.func f) #[] vs.toArray->∀bO,cd G bO vs->∃us:List Value,(execOp a.eval o).run P w=.ok (.enter f us.toArray) w/\cd G (l++bO) us:=by
  rintro vs rfl bO jF
  refine⟨c.args.toList.map a.eval++vs,?_,hrel.append jF⟩
  have:(List.map a.eval c.args.toList++vs).toArray=c.args.map a.eval++vs.toArray:=by rw[<-cI];simp
  rw[this]
  simp[execOp,ho,resolve,hc,hx,Deferred.ofValue,invoke,iC hf]
 rcases hav with⟨bO,rfl,rfl⟩|⟨first,rfl,rfl⟩|⟨bO,rfl,rfl⟩
 ·cases qF with|fn _ _ vs hl hr=>exact Yx vs rfl bO ⟨hl,hr⟩
 ·cases qF with
  |kj _ _ vs hl hr=>
   refine⟨vs++c.args.toList.map a.eval,?_,cd.append ⟨hl,hr⟩ hrel⟩
   have:(vs++List.map a.eval c.args.toList).toArray=vs.toArray++c.args.map a.eval:=by rw[<-cI];simp
   rw[this]
   simp[execOp,ho,resolve,hc,hx,Deferred.ofValue,invoke,iC hf]
 ·cases qF with|dv hd=>cases hd with|fn _ _ vs hl hr=>exact Yx vs rfl _ (jg ⟨hl,hr⟩)
theorem tQ{F:Fence}(hF:iD F){f:Nat}{a:Act}{w:World}{args:Array Value}{K:Act->World->Prop}(hd:∀c,o.op≠.defer c)(bE:(execOp a.eval o).run P w=.ok (.enter f args) w)
 (hc:Calls P f args w fun e w'=>∃v,e=.returned v/\K (a.put o.dst v) w'):o.wpIn F 0 P a w K (fun _ _ _=>False):=by
 refine⟨fun f _=>hF.fn f,?_⟩
 rw[Oper.semAt_plain F _ _ hd,bE,Oper.uponIn_enter]
 refine⟨fun h=>(by rw[hF.depth]at h;cases h),hF.calls.2 (hc.mono ?_)⟩
 rintro e w' ⟨v,rfl,hk⟩
 exact hk
def BOk(κ:Nat->au)(gd:Bool)(v:AV)(d:DV)(ids:List Nat):Prop:=
 gd=true->∀κ' G w x,(∀i,i∈ids->κ' i=κ i)->Fit G w κ'->aG G v x->∀M',Mem.Le G.M M'->(∀i,i∈ids->∀b,cA G i (κ' i) b->M' b=w.heap[b]?)->bq M' d x
def Hd(κ:Nat->au)(gd:Bool)(l:List AV)(ds:List DV)(ids:List Nat):Prop:=
 gd=true->∀κ' G w xs,(∀i,i∈ids->κ' i=κ i)->Fit G w κ'->cd G l xs->∀M',Mem.Le G.M M'->(∀i,i∈ids->∀b,cA G i (κ' i) b->M' b=w.heap[b]?)->fG M' ds xs
theorem BV{v:AV}{q:DV->List Nat->Prop}(h:He κ gd v q):∃d ids,q d ids/\BOk κ gd v d ids:=by
 unfold He at h
 split at h
 ·rename_i d
  refine⟨d,[],h,fun _ κ' G w x _ _ hv M' hle _=>?_⟩
  cases hv with|dv hv=>exact hv.mono hle
 ·rename_i i ver ep p
  split at h
  ·rename_i bo cb d hk
   cases hb:Nat.beq ver bo&&(emp p||Nat.beq ep cb)with
   |false=>rw[hb]at h;exact h.elim
   |true=>
    rw[hb]at h
    simp only[cond_true]at h
    obtain⟨rfl,eW⟩:=dB hb
    obtain⟨nd,h,dS⟩:=bX h
    cases ho:nd.ar with
    |false=>rw[ho]at h;exact h.elim
    |true=>
     rw[ho]at h
     refine⟨qc nd,[i],h,fun aV κ' G w x ax hf hv M' hle hM=>?_⟩
     have he:=ax i (by simp)
     have fk:=hf.box i
     rw[he,hk]at fk
     cases hv with|own _ _ _ _ _ hh hc=>
     rw[cW eW]at hh
     exact fk.1.frozen hle (fun b hb=>hM i (by simp) b (by rw[he,hk];exact hb)) (SizeOf.sizeOf nd+1) p nd x (by omega) (dS aV) ho hh
  ·exact h.elim
 ·refine⟨_,[],h,fun _ κ' G w x _ _ hv M' hle _=>?_⟩
  cases hv with|fn _ _ vs hl hr=>
  have:vs=[]:=by simpa using hl.symm
  subst this
  exact .fn _ [] [] rfl (by simp)
 ·exact⟨_,[],h.2,fun aV=>by rw[h.1]at aV;cases aV⟩
theorem Hd.cons{v:AV}{l:List AV}{d:DV}{ds:List DV}{i j:List Nat}(h:BOk κ gd v d i)(h':Hd κ gd l ds j):Hd κ gd (v::l) (d::ds) (i++j):=by
 intro aV κ' G w xs ax hf hr M' hle hM
 match xs,hr with
 |[],hr=>have:=hr.1;simp at this
 |x::xs,hr=>
  refine .cons (h aV κ' G w x (fun q hq=>ax q (by simp[hq])) hf (hr.2 0 v x rfl rfl) M' hle fun q hq=>hM q (by simp[hq])) ?_
  exact h' aV κ' G w xs (fun q hq=>ax q (by simp[hq])) hf ⟨by simpa using hr.1,fun q e y he hy=>hr.2 (q+1) e y (by simpa using he) (by simpa using hy)⟩ M' hle fun q hq=>hM q (by simp[hq])
theorem Hd.nil:Hd κ gd [] [] []:=by
 intro aV κ' G w xs ax hf hr M' hle hM
 have:xs=[]:=by have:=hr.1;simpa using this.symm
 subst this;exact .nil _
theorem vg{v:AV}{q:DV->List Nat->Prop}(h:Nr κ gd v q):∃d ids,q d ids/\BOk κ gd v d ids:=by
 obtain⟨d,ids,h1,h2⟩:=BV (v:=dn v) h
 exact⟨d,ids,h1,fun aV κ' G w x ax hf hv M' hle hM=>h2 aV κ' G w x ax hf (Ay hv) M' hle hM⟩
theorem sA:∀{l:List AV} {q:List DV->List Nat->Prop},Hf κ gd l q->∃ds ids,q ds ids/\Hd κ gd l ds ids
 |[],q,h=>⟨[],[],h,.nil⟩
 |v::l,q,h=>by
  obtain⟨d,i,h,h1⟩:=vg h
  obtain⟨ds,j,h,h2⟩:=sA h
  exact⟨_,_,h,.cons h1 h2⟩
theorem Hg{v:AV}{q:DV->List Nat->Prop}(h:Vm κ gd v q):∃d ids,q d ids/\BOk κ gd v d ids:=by
 unfold Vm at h
 split at h
 ·rename_i l
  cases hc:b9 l with
  |false=>rw[hc]at h;exact h.elim
  |true=>
   rw[hc]at h
   obtain⟨ds,ids,h,h1⟩:=sA h
   refine⟨_,_,h,fun aV κ' G w x ax hf hv M' hle hM=>?_⟩
   cases hv with|agg _ vs hl hr=>
   have h2:=h1 aV κ' G w vs ax hf ⟨hl,hr⟩ M' hle hM
   exact .agg ds vs h2.1 (rj (G':={ G with M:=M' }) h2 (cd.cV ⟨hl,hr⟩ hc)) h2.2
 ·exact vg h
theorem vh:∀{l:List AV} {q:List DV->List Nat->Prop},Ed κ gd l q->∃ds ids,q ds ids/\Hd κ gd l ds ids
 |[],q,h=>⟨[],[],h,.nil⟩
 |v::l,q,h=>by
  obtain⟨d,i,h,h1⟩:=Hg h
  obtain⟨ds,j,h,h2⟩:=vh h
  exact⟨_,_,h,.cons h1 h2⟩
theorem Ee{av:AV}{rd:List Nat}(hg:b8 ρ ops o.guard=some gd)(hk:aY n o gd nx k av rd)
 (h:∀ρ' κ',DX ops o ρ ρ' κ κ' rd []->∀(F:Fence),iD F->∀(g:dW) (a:Act) (w:World) (G:Gh),cx g n ρ' κ' a w G->gd=true->∀(K:Act->World->Prop),
  (∀v w' G',cx g n ρ' κ' a w' G'->aG G' av v->K (a.put o.dst v) w')->o.wpIn F 0 P a w K (fun _ _ _=>False)):Good P C ops n o nx ρ κ k:=by
 unfold aY at hk
 split at hk
 ·rename_i kE hn
  refine⟨_,_,hk,acN _,by simp,fun F hF ρ' κ' ax g a w dF ⟨G,ak⟩=>?_⟩
  have sf:gd=true:=by rw[hn]at hg;injection hg with hg;exact hg.symm
  unfold nE
  rw[cB hg ax.bV ak,sf,if_pos rfl]
  exact h ρ' κ' ax F hF g a w G ak sf _ fun v w' G' h1 h2=>⟨G',by rw[kE];exact h1⟩
 ·exact hk.elim
 ·rename_i d kE hn
  cases aw:Nat.blt d n with
  |false=>rw[aw]at hk;exact hk.elim
  |true=>
   rw[aw]at hk
   have kU:d<n:=by rw[Nat.blt_eq]at aw;exact aw
   refine⟨_,_,hk,acN _,by simp,fun F hF ρ' κ' ax g a w dF ⟨G,ak⟩=>?_⟩
   have sf:gd=true:=by rw[hn]at hg;injection hg with hg;exact hg.symm
   unfold nE
   rw[cB hg ax.bV ak,sf,if_pos rfl]
   exact h ρ' κ' ax F hF g a w G ak sf _ fun v w' G' h1 h2=>⟨G',by rw[kE];exact h1.put kU h2⟩
 ·rename_i d j kE hn
  cases aw:Nat.blt d n with
  |false=>rw[aw]at hk;exact hk.elim
  |true=>
   rw[aw]at hk
   have kU:d<n:=by rw[Nat.blt_eq]at aw;exact aw
   refine⟨_,_,hk,acN _,by simp,fun F hF ρ' κ' ax g a w dF ⟨G,ak⟩=>?_⟩
   unfold nE
   rw[cB hg ax.bV ak]
   cases gd with
   |true=>
    rw[if_pos rfl]
    exact h ρ' κ' ax F hF g a w G ak rfl _ fun v w' G' h1 h2=>⟨G',by rw[kE];exact h1.put kU (.opt true av v (fun _=>h2) (by simp))⟩
   |false=>
    simp only[Bool.false_eq_true,if_false,kE]
    exact⟨G,ak.put kU (.opt false av undef (by simp) (fun _=>rfl))⟩
theorem nF.Ef{f:Nat}{ds rs:List DV}(h:nF P f ds rs):fM P f:=by obtain⟨_,_,h,_⟩:=h;exact h
open Classical in
noncomputable def nG (G:Gh) (w:World) (κ:Nat->au) (ids:List Nat):Mem:=fun b=>if ∃i,i∈ids/\cA G i (κ i) b then w.heap[b]? else G.M b
theorem Hh{G:Gh}{w:World}{κ:Nat->au}{ids:List Nat}(hf:Fit G w κ):(nG G w κ ids).In w:=by
 intro b x hb
 unfold nG at hb
 split at hb
 ·exact hb
 ·exact hf.sub b x hb
theorem xl{G:Gh}{w:World}{κ:Nat->au}{ids:List Nat}(hf:Fit G w κ):Mem.Le G.M (nG G w κ ids):=by
 intro b x hb
 unfold nG
 split
 ·rename_i h;obtain⟨i,_,ho⟩:=h;rw[hf.own i b ho]at hb;cases hb
 ·exact hb
theorem Eg{G:Gh}{w:World}{κ:Nat->au}{ids:List Nat}{i b:Nat}(hi:i∈ids)(ho:cA G i (κ i) b):nG G w κ ids b=w.heap[b]?:=by
 unfold nG
 rw[if_pos ⟨i,hi,ho⟩]
theorem Ns{f:Nat}{l:List AV}(hn:∀i,nx<=i->κ i=.none)(hg:b8 ρ ops o.guard=some gd)(bR:tP P ops o ρ κ gd f l)(h:xm P n o nx κ gd k f l):Good P C ops n o nx ρ κ k:=by
 have Yy:(Ed κ gd l fun ds ids=>∃rs,(gd=true->nF P f ds rs)/\xp rs=true/\aY n o gd nx k (xq rs) ids)->Good P C ops n o nx ρ κ k:=by
  intro h
  obtain⟨ds,ids,⟨rs,hc,lT,hk⟩,hb⟩:=vh h
  refine Ee hg hk fun ρ' κ' ax F hF g a w G ak aV K hK=>?_
  obtain⟨es,hle,hcb,lU⟩:=hc aV
  obtain⟨vs,bE,hrel⟩:=bR.2 ρ' κ' _ _ ax g n a w G ak aV hcb
  have hd:=hle.RS (hb aV κ' G w vs ax.reads ak.fit hrel (nG G w κ' ids) (xl ak.fit) (fun i hi b ho=>Eg hi ho))
  refine tQ hF bR.1 bE ((lU w _ vs (Hh ak.fit) ((ak.oU.mono ak.mem).mono (xl ak.fit)) hd).mono ?_)
  rintro e w' ⟨v,M',rfl,RU,Yz,dh,zV,jh⟩
  refine⟨v,rfl,?_⟩
  have hM:∀b,(if b<w.heap.size then G.M b else M' b)=(fun b=>if b<w.heap.size then G.M b else M' b) b:=fun _=>rfl
  obtain⟨h1,h2⟩:=ak.grown (w':=w') (M':=fun b=>if b<w.heap.size then G.M b else M' b) RU
   (fun b x hx=>by
    have aw:b<w.heap.size:=(acx.1 (ak.fit.sub b x hx)).1
    simp only[if_pos aw];exact hx)
   (fun b x hx=>by
    by_cases aw:b<w.heap.size
    ·simp only[if_pos aw]at hx;rw[RU.block b aw];exact ak.fit.sub b x hx
    ·simp only[if_neg aw]at hx;exact dh b x hx)
   (fun b hb=>by simp only[if_pos hb])
  exact hK v w' _ h1 (Ju (Nt lT jh))
 have Jv:∀{ds:List DV} {rs:List DV} {ids:List Nat} {κ':Nat->au} {g:dW} {a:Act} {w:World} {G:Gh} {F:Fence} {ρ':Nat->AV} {vs:List Value} {K:Act->World->Prop},iD F->nF P f ds rs->cx g n ρ' κ' a w G->fG G.M ds vs->(execOp a.eval o).run P w=.ok (.enter f vs.toArray) w->
  (∀v w' G',cx g n ρ' κ' a w' G'->aG G' (xq rs) v->K (a.put o.dst v) w')->o.wpIn F 0 P a w K (fun _ _ _=>False):=by
  intro ds rs ids κ' g a w G F ρ' vs K hF hc ak hd bE hK
  obtain⟨es,hle,hcb,lU⟩:=hc
  refine tQ hF bR.1 bE ((lU w _ vs ak.fit.sub (ak.oU.mono ak.mem) (hle.RS hd)).mono ?_)
  rintro e w' ⟨v,M',rfl,RU,Yz,dh,zV,jh⟩
  refine⟨v,rfl,?_⟩
  obtain⟨h1,h2⟩:=ak.grown RU Yz dh zV
  exact hK v w' _ h1 (Ju jh)
 unfold xm at h
 split at h
 ·rename_i ds zM
  obtain⟨rs,hc,hk⟩:=h
  refine Ee hg hk fun ρ' κ' ax F hF g a w G ak aV K hK=>?_
  obtain⟨vs,bE,hrel⟩:=bR.2 ρ' κ' _ _ ax g n a w G ak aV (hc aV).Ef
  exact Jv (ids:=[]) hF (hc aV) ak (km (κ:=κ) (κ':=κ') (w:=w) (all:=[]) (by simp) (Gh.Le.refl G) (by simpa[kV,aB]using ak.fit) zM (by simp) hrel) bE hK
 ·rename_i ds ids cC zM
  rcases h with h|⟨rs,hc,hk⟩
  ·exact Yy h
  ·refine Jw bR.1 hg hk (acN _) (fun p hp=>tR hn hp) fun ρ' κ' ax F hF g a w G dF ak aV K hK=>?_
   obtain⟨vs,bE,hrel⟩:=bR.2 ρ' κ' _ _ ax g n a w G ak aV (hc aV).Ef
   obtain⟨G1,f1,f2,f3,f4,f5⟩:=ak.qd (κ:=κ) ids ax.reads
   exact Jv (ids:=[]) hF (hc aV) f5 (km ax.reads f1 f5.fit zM (fun i hi=>hi) hrel) bE hK
 ·exact Yy h
end
end
section
open Go.RowKit
variable [cn]
section
variable {P:Program} {C:dW->Prop} {T:List TI} {ops:List Oper} {n:Nat} {o:Oper} {nx:Nat} {ρ:Nat->AV} {κ:Nat->au} {k:lN->Nat->Prop} {gd:Bool}
theorem oW{x:Operand}{v:AV}(h:ev ρ κ x=v):bJ ρ κ gd x v:=by
 intro ρ' κ' ax g n a w G ak _
 rw[<-h]
 exact Az ρ' κ' ax g n a w G ak
theorem tS{x:Operand}{v:AV}{g':Bool}(h:ev ρ κ x=.opt g' v)(hg:gd=true->g'=true)(hr:res κ v=v):bJ ρ κ gd x v:=by
 have:=Eh h hg
 rwa[hr]at this
theorem Nu{c x y:Operand}(hg:b8 ρ ops o.guard=some gd)(ho:o.op=.pick c x y)
 (h:match ev ρ κ c,ev ρ κ x,ev ρ κ y with
  |.dv (.bool b),.dv (.bool p),.dv (.bool q)=>aY n o gd nx k (.dv (.bool (bif b then p else q))) []
  |.dv (.bool b),.opt gp (.dv (.bool p)),.dv (.bool q)=>(gd=true->b=true->gp=true)/\aY n o gd nx k (.dv (.bool (bif b then p else q))) []
  |.dv (.bool b),.dv (.bool p),.opt gq (.dv (.bool q))=>(gd=true->b=false->gq=true)/\aY n o gd nx k (.dv (.bool (bif b then p else q))) []
  |.opt gb (.dv (.bool b)),.opt gp (.dv (.bool p)),.dv (.bool q)=>(gd=true->gb=true/\(b=true->gp=true))/\aY n o gd nx k (.dv (.bool (bif b then p else q))) []
  |.opt gb (.dv (.bool b)),.dv (.bool p),.opt gq (.dv (.bool q))=>(gd=true->gb=true/\(b=false->gq=true))/\aY n o gd nx k (.dv (.bool (bif b then p else q))) []
  |_,_,_=>False):Good P C ops n o nx ρ κ k:=by
 split at h
 ·rename_i b p q h1 h2 h3
  exact nH hg ho h (oW h1) (oW h2) (oW h3)
 ·rename_i b gp p q h1 h2 h3
  exact nH hg ho h.2 (oW h1) (tS h2 (by simp only[acU];exact fun hh=>h.1 hh.1 hh.2) rfl) (oW h3)
 ·rename_i b p gq q h1 h2 h3
  exact nH hg ho h.2 (oW h1) (oW h2) (tS h3 (by simp only[acU,acW];exact fun hh=>h.1 hh.1 hh.2) rfl)
 ·rename_i gb b gp p q h1 h2 h3
  exact nH hg ho h.2 (tS h1 (fun hh=>(h.1 hh).1) rfl) (tS h2 (by simp only[acU];exact fun hh=>(h.1 hh.1).2 hh.2) rfl) (oW h3)
 ·rename_i gb b p gq q h1 h2 h3
  exact nH hg ho h.2 (tS h1 (fun hh=>(h.1 hh).1) rfl) (oW h2) (tS h3 (by simp only[acU,acW];exact fun hh=>(h.1 hh.1).2 hh.2) rfl)
 ·exact h.elim
theorem RV(hT:fh P T){c:Call}{x:Operand}{t:Nat}{v:AV}(hg:b8 ρ ops o.guard=some gd)(ho:o.op=.call c)(hc:c.callee=.builtin .len)(ha:c.args.toList=[x])(lK:c.argTypes.toList=[t])
 (bR:bJ ρ κ gd x v) (h:BW (nth T t) κ gd v fun r rd=>aY n o gd nx k r rd):Good P C ops n o nx ρ κ k:=by
 unfold BW at h
 split at h
 ·have hh:=aN h;clear h;obtain⟨hb,h⟩:=hh
  simp only[acU]at hb
  refine rk hT hg ho hc ha lK h bR hb.1 fun _ κ' _ G w v _ hv=>.inl ⟨hb.2,?_⟩
  cases hv with|dv hv=>cases hv with
  |slnil=>exact⟨_,_,_,rfl,rfl⟩
  |sl=>exact⟨_,_,_,rfl,rfl⟩
 ·have hh:=aN h;clear h;obtain⟨hb,h⟩:=hh
  simp only[acU]at hb
  refine rk hT hg ho hc ha lK h bR hb.1 fun _ κ' _ G w v _ hv=>.inl ⟨hb.2,?_⟩
  cases hv with|dv hv=>cases hv with
  |ay=>exact⟨_,_,_,rfl,rfl⟩
 ·have hh:=aN h;clear h;obtain⟨hb,h⟩:=hh
  simp only[acU]at hb
  refine rk hT hg ho hc ha lK h bR hb.1 fun _ κ' _ G w v _ hv=>.inr (.inl ⟨hb.2,?_⟩)
  cases hv with|dv hv=>cases hv with
  |str=>exact⟨_,rfl,rfl⟩
 ·rename_i i ver ep p
  split at h
  ·rename_i bo cb d hk
   have hh:=aN h;clear h;obtain⟨hb,h⟩:=hh
   obtain⟨rfl,eW⟩:=dB hb
   obtain⟨nd,h,dS⟩:=bX h
   split at h
   ·rename_i sz l
    have hh:=aN h;clear h;obtain⟨hb,h⟩:=hh
    simp only[acU]at hb
    refine rk hT hg ho hc ha lK h bR hb.1 fun aV κ' ax G w v hf hv=>.inl ⟨hb.2,?_⟩
    obtain⟨u,h1,_,bn⟩:=hf.node ((ax i (by simp)).trans hk) (dS aV) rfl
    cases hv with|own _ _ _ _ _ hh hc=>
    rw[cW eW,h1]at hh
    injection hh with hh
    subst hh
    rcases bn with⟨rfl,rfl⟩|⟨gb,ob,cap,cc,tt,rfl,_⟩
    ·exact⟨_,_,_,rfl,rfl⟩
    ·exact⟨_,_,_,rfl,rfl⟩
   ·rename_i ks m
    have hh:=aN h;clear h;obtain⟨hb,h⟩:=hh
    simp only[acU]at hb
    refine rk hT hg ho hc ha lK h bR hb.1 fun aV κ' ax G w v hf hv=>.inr (.inr ⟨hb.2,?_⟩)
    obtain⟨u,h1,_,bn⟩:=hf.node ((ax i (by simp)).trans hk) (dS aV) rfl
    cases hv with|own _ _ _ _ _ hh hc=>
    rw[cW eW,h1]at hh
    injection hh with hh
    subst hh
    obtain⟨m0,wG,gb,es,clock,rfl,hw,bz,_⟩:=bn
    exact⟨gb,es,clock,rfl,hw,by rw[bz,wG.length_eq]⟩
   ·exact h.elim
  ·exact h.elim
 ·have hh:=aN h;clear h;obtain⟨hb,h⟩:=hh
  simp only[acU]at hb
  refine rk hT hg ho hc ha lK h bR hb.1 fun _ κ' _ G w v _ hv=>.inl ⟨hb.2,?_⟩
  cases hv
  exact⟨_,_,_,rfl,rfl⟩
 ·have hh:=aN h;clear h;obtain⟨hb,h⟩:=hh
  simp only[acU]at hb
  refine rk hT hg ho hc ha lK h bR hb.1 fun _ κ' _ G w v _ hv=>.inl ⟨hb.2,?_⟩
  cases hv
  exact⟨_,_,_,rfl,rfl⟩
 ·exact h.elim
theorem wi{x:Operand}{i ver ep cb:Nat}{p:List PS}{d y:DV}(hg:b8 ρ ops o.guard=some gd)(ho:o.op=.nilCheck x)(hk:κ i=.tree ver cb d)(eW:p=[]\/ep=cb)(dS:gd=true->get d p=some (.gu y))
 (hr:aY n o gd nx k (.loc i ver ep p 1 0 0) [i]) (bR:bJ ρ κ gd x (.own i ver ep p)):Good P C ops n o nx ρ κ k:=by
 refine bC (fun c=>by rw[ho];simp) hg hr fun ρ' κ' ax g a w G ak aV=>?_
 have hv:=bR ρ' κ' (ax.op (by rw[ho];simp[Op.operands])) g n a w G ak aV
 generalize hx:a.eval x=v at hv
 obtain⟨u,h1,_,bn⟩:=ak.fit.node ((ax.reads i (by simp)).trans hk) (dS aV) rfl
 cases hv with|own _ _ _ _ _ hh hc=>
 have XW:=hh
 rw[cW eW,h1]at hh
 injection hh with hh
 subst hh
 obtain⟨gb,c,t,rfl,hw,_⟩:=bn
 refine⟨.pointer (some ⟨gb,0,none⟩),by simp[execOp,ho,hx],?_⟩
 have:=aG.qE (G:=G) i ver ep p 1 0 0 _ XW
 rw[eN]at this
 exact this
theorem zW(hT:fh P T){t f:Nat}{x:Operand}{v:AV}(hg:b8 ρ ops o.guard=some gd)(ho:o.op=.fieldAddr t x f)
 (h:match(nth T t).ok,(nth T t).fields[f]? with
  |true,some (off,sz+1)=>match v with
   |.ptr i o'=>aY n o gd nx k (.ptr i (o'+off)) []
   |.dv (.at x o')=>aY n o gd nx k (.dv (.at x (o'+off))) []
   |.loc i ver ep p oX idx o'=>aY n o gd nx k (.loc i ver ep p oX idx (o'+off)) []
   |_=>False
  |_,_=>False) (bR:bJ ρ κ gd x v):Good P C ops n o nx ρ κ k:=by
 split at h
 ·rename_i off sz cw hf
  split at h
  ·refine nI hT hg ho cw hf h bR (fun G v hv=>?_)
   cases hv with
   |ptr _ _ b hb=>
    refine⟨_,rfl,?_⟩
    rw[eN]
    exact .ptr _ _ b hb
  ·refine nI hT hg ho cw hf h bR (fun G v hv=>?_)
   cases hv with|dv hv=>cases hv with
   |_=>
    rename_i A cell om hc hr
    refine⟨_,rfl,?_⟩
    rw[cJ]
    exact .dv (.at _ _ A cell om hc hr)
  ·refine nI hT hg ho cw hf h bR (fun G v hv=>?_)
   cases hv with
   |loc _ _ _ _ _ _ _ A m c he=>
    refine⟨_,rfl,?_⟩
    rw[cJ,Nat.add_assoc]
    exact .loc _ _ _ _ _ _ _ A m c he
   |qE _ _ _ _ _ _ _ A he=>
    refine⟨_,rfl,?_⟩
    rw[cJ,Nat.add_assoc]
    exact .qE _ _ _ _ _ _ _ A he
  ·exact h.elim
 ·exact h.elim
theorem K8(hT:fh P T){t f:Nat}{x:Operand}{v:AV}(hg:b8 ρ ops o.guard=some gd)(ho:o.op=.field t x f)
 (h:match(nth T t).ok,(nth T t).fields[f]?,(nth T t).BX[f]? with
  |true,some (off,sz+1),some ft=>match v with
   |.agg l=>bif (nth T ft).ok&&Nat.beq (nth T ft).size (sz+1)then cq (nth T ft).agg l off (sz+1) fun v=>aY n o gd nx k v []else False
   |_=>False
  |_,_,_=>False) (bR:bJ ρ κ gd x v):Good P C ops n o nx ρ κ k:=by
 split at h
 ·rename_i off sz ft cw hf YA
  split at h
  ·have hh:=aN h;clear h;obtain⟨hb,h⟩:=hh
   simp only[acU]at hb
   exact Nv hT hg ho cw hf YA hb.1 (acm hb.2) h bR
  ·exact h.elim
 ·exact h.elim
theorem K9(hT:fh P T){t:Nat}{x i:Operand}{v iv:AV}(hg:b8 ρ ops o.guard=some gd)(ho:o.op=.indexAddr t x i)
 (h:bif (nth T t).ok&&(nth T t).isSl&&(nth T (nth T t).elem).ok then
  match v,iv with
  |.dv (.sl sz l),.dv (.int _ m)=>bif Nat.beq sz (nth T (nth T t).elem).size then ∃x,(gd=true->0<=m/\l[m.toNat]?=some x)/\aY n o gd nx k (.dv (.at x 0)) []else False
  |.own j ver ep p,.dv (.int _ m)=>match κ j with
   |.tree bo cb d=>bif Nat.beq ver bo&&(emp p||Nat.beq ep cb)then jY gd d p fun nd=>match nd with
    |.aC sz l=>bif Nat.beq sz (nth T (nth T t).elem).size then(gd=true->0<=m/\m<l.length)/\aY n o gd nx k (.loc j ver ep p sz m.toNat 0) [j]else False
    |_=>False
    else False
   |_=>False
  |.sle j len,.dv (.int _ m)=>(gd=true->0<=m/\m<len)/\aY n o gd nx k (.ptr j (m.toNat*(nth T (nth T t).elem).size)) []
  |.pre j ver ep p sz lo len,.dv (.int _ m)=>bif Nat.beq sz (nth T (nth T t).elem).size then(gd=true->0<=m/\m<len)/\aY n o gd nx k (.loc j ver ep p sz (lo+m.toNat) 0) []else False
  |_,_=>False
  else False) (bR:bJ ρ κ gd x v) (oY:bJ ρ κ gd i iv):Good P C ops n o nx ρ κ k:=by
 have hh:=aN h;clear h;obtain⟨hb,h⟩:=hh
 simp only[acU]at hb
 split at h
 ·have hh:=aN h;clear h;obtain⟨ck,x,hy,h⟩:=hh
  exact Ei hT hg ho hb.1.1 hb.1.2 hb.2 (acm ck) hy h bR oY
 ·split at h
  ·rename_i hk
   have hh:=aN h;clear h;obtain⟨ck,h⟩:=hh
   obtain⟨rfl,eW⟩:=dB ck
   obtain⟨nd,h,dS⟩:=bX h
   split at h
   ·have hh:=aN h;clear h;obtain⟨wH,hy,h⟩:=hh
    exact BY hT hg ho hb.1.1 hb.1.2 hb.2 (acm wH) hk eW dS hy h bR oY
   ·exact h.elim
  ·exact h.elim
 ·exact BZ hT hg ho hb.1.1 hb.1.2 hb.2 h.1 h.2 bR oY
 ·have hh:=aN h;clear h;obtain⟨ck,hy,h⟩:=hh
  exact B0 hT hg ho hb.1.1 hb.1.2 hb.2 (acm ck) hy h bR oY
 ·exact h.elim
theorem Hj(hT:fh P T){t:Nat}{x i:Operand}{v iv:AV}(hg:b8 ρ ops o.guard=some gd)(ho:o.op=.indexAddr t x i)
 (h:B1 (nth T t) (nth T (nth T t).elem) gd v iv fun v=>aY n o gd nx k v []) (bR:bJ ρ κ gd x v) (oY:bJ ρ κ gd i iv):Good P C ops n o nx ρ κ k:=by
 have hh:=aN h;clear h;obtain⟨hb,h⟩:=hh
 simp only[acU]at hb
 have Ej:=acm hb.1.2
 split at h
 ·rename_i kd m
  obtain⟨hm,h⟩:=h
  split at h
  ·rename_i y off
   refine nJ hT hg ho hb.1.1 Ej hb.2 hm h bR oY fun G v hv=>?_
   cases hv with|dv hv=>cases hv with|«at» _ _ A cell om hc hr=>
   exact⟨_,rfl,.dv (by rw[cJ];exact .at y _ A cell om hc hr)⟩
  ·rename_i j off
   refine nJ hT hg ho hb.1.1 Ej hb.2 hm h bR oY fun G v hv=>?_
   cases hv with|ptr _ _ b hb=>
   exact⟨_,rfl,by rw[show(⟨b,off,none⟩:Addr).add (m.toNat*(nth T (nth T t).elem).size)=⟨b,off+m.toNat*(nth T (nth T t).elem).size,none⟩by unfold Addr.add;split<;>simp[*]];exact .ptr j _ b hb⟩
  ·rename_i j ver ep p sz idx off
   refine nJ hT hg ho hb.1.1 Ej hb.2 hm h bR oY fun G v hv=>?_
   cases hv with
   |loc _ _ _ _ _ _ _ A n c e=>exact⟨_,rfl,by rw[cJ,Nat.add_assoc];exact .loc j ver ep p sz idx _ A n c e⟩
   |qE _ _ _ _ _ _ _ A e=>exact⟨_,rfl,by rw[cJ,Nat.add_assoc];exact .qE j ver ep p sz idx _ A e⟩
  ·exact h.elim
 ·exact h.elim
theorem Nw(hT:fh P T){t:Nat}{x:Operand}{v:AV}(hg:b8 ρ ops o.guard=some gd)(ho:o.op=.load t x)(cw:(nth T t).ok=true)
 (h:match v with
  |.ptr i off=>match κ i with
   |.cells l=>cq (nth T t).agg l off (nth T t).size fun v=>aY n o gd nx k v [i]
   |_=>False
  |.dv (.at x off)=>cq (nth T t).agg (eV x.cells) off (nth T t).size fun v=>aY n o gd nx k v []
  |.loc i ver ep p sz idx off=>match κ i with
   |.tree bo cb d=>bif Nat.beq ver bo&&(emp p||Nat.beq ep cb)then jY gd d p fun nd=>kF i ver cb p gd sz idx nd fun l=>
    cq (nth T t).agg l off (nth T t).size fun v=>aY n o gd nx k v [i]
    else False
   |_=>False
  |_=>False) (bR:bJ ρ κ gd x v):Good P C ops n o nx ρ κ k:=by
 split at h
 ·split at h
  ·rename_i hk
   exact Ek hT hg ho cw hk h bR
  ·exact h.elim
 ·exact Hk hT hg ho cw h bR
 ·split at h
  ·rename_i hk
   have hh:=aN h;clear h;obtain⟨ck,h⟩:=hh
   obtain⟨rfl,eW⟩:=dB ck
   exact El hT hg ho cw hk eW h bR
  ·exact h.elim
 ·exact h.elim
theorem La(hT:fh P T){t:Nat}{x y:Operand}{p v:AV}(hn:∀i,nx<=i->κ i=.none)(hg:b8 ρ ops o.guard=some gd)(ho:o.op=.store t x y)(cw:(nth T t).ok=true)
 (h:bif Nat.beq (cellsOf v).length (nth T t).size&&b9 (cellsOf v)then
  match p with
  |.ptr i off=>match κ i with
   |.cells l=>bif Nat.ble (off+(nth T t).size) l.length then dM n o nx k .any [(i,.cells (iE l off (cellsOf v)))] [i]else False
   |_=>False
  |.loc i ver ep p sz idx off=>qe n o nx κ k i ver ep p sz idx off (cellsOf v)
  |_=>False
  else False) (bR:bJ ρ κ gd x p) (Jx:bJ ρ κ gd y v):Good P C ops n o nx ρ κ k:=by
 have hh:=aN h;clear h;obtain⟨hb,h⟩:=hh
 simp only[acU]at hb
 have jw:=acm hb.1
 split at h
 ·rename_i i off
  split at h
  ·rename_i l hk
   have hh:=aN h;clear h;obtain⟨ck,h⟩:=hh
   have aw:i<nx:=by
    rcases acD i nx with h|h
    ·exact h
    ·rw[hn i h]at hk;cases hk
   exact B2 hT hg ho cw hk jw hb.2 (Nat.le_of_ble_eq_true ck) h aw bR Jx
  ·exact h.elim
 ·exact B3 hT hg ho hn cw jw hb.2 h bR Jx
 ·exact h.elim
structure Jy(P:Program)(C:dW->Prop)(ops:List Oper)(n:Nat)(o:Oper)(nx:Nat)(ρ:Nat->AV)(κ:Nat->au)(k:lN->Nat->Prop):Prop where
 call:∀{gd:Bool} {f:Nat} {l:List AV},b8 ρ ops o.guard=some gd->tP P ops o ρ κ gd f l->jZ none (bU P f) n o gd nx κ k l->Good P C ops n o nx ρ κ k
 eC:∀{gd:Bool} {c:Call} {t i:Nat} {l:List AV},b8 ρ ops o.guard=some gd->o.op=.call c->c.callee=.value (.tmp t)->bJ ρ κ gd (.tmp t) (.eC i)->lR ρ κ gd c.args.toList l->
  jZ (some i) (dN P) n o gd nx κ k l->Good P C ops n o nx ρ κ k
theorem tT(hT:fh P T)(hn:∀i,nx<=i->κ i=.none)(hR:Jy P C ops n o nx ρ κ k)(h:qf P T ops n o nx ρ κ k):Good P C ops n o nx ρ κ k:=by
 have jG:∀{gd:Bool} {f:Nat} {l:List AV},b8 ρ ops o.guard=some gd->tP P ops o ρ κ gd f l->(xm P n o nx κ gd k f l\/jZ none (bU P f) n o gd nx κ k l)->Good P C ops n o nx ρ κ k:=by
  intro gd f l hg bR h
  rcases h with h|h
  ·exact Ns hn hg bR h
  ·exact hR.call hg bR h
 unfold qf at h
 split at h
 ·exact h.elim
 ·rename_i gd hg
  split at h
  ·rename_i x ho
   exact RW hg ho h
  ·rename_i x ho
   obtain⟨v,h,bR⟩:=aH h
   exact Lb hg ho h bR
  ·rename_i x ho
   obtain⟨v,h,bR⟩:=aH h
   split at h
   ·exact oZ hg ho h bR (fun G v hv=>by cases hv;exact⟨_,rfl⟩)
   ·exact oZ hg ho h bR (fun G v hv=>by cases hv<;>exact⟨_,rfl⟩)
   ·exact oZ hg ho h bR (fun G v hv=>by cases hv with|dv hv=>cases hv;exact⟨_,rfl⟩)
   ·split at h
    ·rename_i hk
     have hh:=aN h;clear h;obtain⟨hb,h⟩:=hh
     obtain⟨rfl,eW⟩:=dB hb
     obtain⟨nd,h,dS⟩:=bX h
     split at h
     ·exact wi hg ho hk eW dS h bR
     ·exact h.elim
    ·exact h.elim
   ·exact h.elim
  ·rename_i c x y ho
   exact Nu hg ho h
  ·rename_i op t x y ty ho
   obtain⟨va,h,Vn⟩:=aH h
   obtain⟨vb,h,Vo⟩:=aH h
   cases hb:vb.j3 with
   |false=>
    rw[hb]at h
    cases ha:va.ag with
    |false=>rw[ha]at h;exact Nx hT hg ho Vn Vo h
    |true=>rw[ha]at h;exact Vp hT hg ho Vn Vo h
   |true=>
    rw[hb]at h
    have hb:vb=.dv .ay:=by
     cases vb with
     |dv d=>cases d<;>simp[AV.j3]at hb;rfl
     |_=>simp[AV.j3]at hb
    subst hb
    exact Hl hT hg ho Vn Vo h
  ·rename_i op t x ho
   obtain⟨v,h,bR⟩:=aH h
   split at h
   ·exact Vq hg ho h bR
   ·exact Vr hg ho h bR
   ·exact h.elim
  ·rename_i x i ho
   obtain⟨v,h,bR⟩:=aH h
   split at h
   ·split at h
    ·rename_i hl
     rw[force_eq]at h
     exact Hm hg ho h hl bR
    ·exact h.elim
   ·exact h.elim
  ·rename_i t x f ho
   obtain⟨v,h,bR⟩:=aH h
   exact K8 hT hg ho h bR
  ·rename_i t x f ho
   obtain⟨v,h,bR⟩:=aH h
   exact zW hT hg ho h bR
  ·rename_i t x i ho
   obtain⟨v,h,bR⟩:=aH h
   obtain⟨iv,h,oY⟩:=aH h
   cases hb:(nth T t).ok&&(nth T t).isSl&&(nth T (nth T t).elem).ok with
   |true=>rw[hb]at h;exact K9 hT hg ho (by rw[hb];exact h) bR.dn oY
   |false=>rw[hb]at h;exact Hj hT hg ho h bR oY
  ·rename_i t x ho
   have hh:=aN h;clear h;obtain⟨cw,h⟩:=hh
   obtain⟨v,h,bR⟩:=aH h
   exact Nw hT hg ho cw h bR
  ·rename_i t x y ho
   have hh:=aN h;clear h;obtain⟨cw,h⟩:=hh
   obtain⟨p,h,bR⟩:=aH h
   obtain⟨v,h,Jx⟩:=aH h
   exact La hT hn hg ho cw h bR Jx
  ·rename_i fn first bO ho
   obtain⟨l,h,h1⟩:=kG h
   obtain⟨r,h,h2⟩:=kG h
   split at h
   ·exact vj hg ho h1 h2 (.inl ⟨rfl,rfl⟩) h
   ·exact vj hg ho h1 h2 (.inr ⟨rfl,rfl⟩) h
   ·exact h.elim
  ·rename_i t ho
   have hh:=aN h;clear h;obtain⟨cw,s,h⟩:=hh
   exact Hn hg ho (hn nx (acN _)) h
  ·rename_i t x ho
   have hh:=aN h;clear h;obtain⟨cw,h⟩:=hh
   simp only[acU]at cw
   obtain⟨v,h,bR⟩:=aH h
   split at h
   ·obtain⟨s,h⟩:=h
    exact Em hT hg ho cw.1 (acm cw.2) (hn nx (acN _)) h bR
   ·exact h.elim
  ·rename_i t x i c ho
   have hh:=aN h;clear h;obtain⟨hb,h⟩:=hh
   simp only[acU]at hb
   obtain⟨v,h,bR⟩:=aH h
   obtain⟨kv,h,oY⟩:=aH h
   exact Lc hT hg ho hb.1.1 (acm hb.1.2) hb.2 bR oY h
  ·rename_i t x i y ho
   have hh:=aN h;clear h;obtain⟨hb,h⟩:=hh
   simp only[acU]at hb
   obtain⟨v,h,bR⟩:=aH h
   obtain⟨kv,h,oY⟩:=aH h
   obtain⟨u,h,Jx⟩:=aH h
   exact B4 hT hg ho hn hb.1 (acm hb.2) bR oY Jx h
  ·rename_i t ho
   have hh:=aN h;clear h;obtain⟨cw,h⟩:=hh
   exact Ny hT hg ho cw (hn nx (acN _)) h
  ·rename_i t x ho
   obtain⟨v,h,bR⟩:=aH h
   have hh:=aN h;clear h;obtain⟨hc,h⟩:=hh
   exact Vs hg ho (hn nx (acN _)) hc h bR
  ·rename_i t parts ho
   have hh:=aN h;clear h;obtain⟨hb,h⟩:=hh
   simp only[acU]at hb
   obtain⟨l,h,hp⟩:=mg h
   split at h
   ·rename_i cs hf
    exact Nz hT hg ho hb.1 hp hf hb.2 h
   ·exact h.elim
  ·rename_i t len parts ho
   have hh:=aN h;clear h;obtain⟨hb,h⟩:=hh
   simp only[acU,Nat.blt_eq]at hb
   obtain⟨⟨⟨⟨h1,h2⟩,h3⟩,h4⟩,h5⟩:=hb
   obtain⟨l,h,hp⟩:=mg h
   split at h
   ·rename_i cs hf
    have hh:=aN h;clear h;obtain⟨hc,h⟩:=hh
    exact zX hT hg ho hn h1 h2 h3 h4 h5 hp hf hc h
   ·exact h.elim
  ·rename_i t l c ho
   have hh:=aN h;clear h;obtain⟨hb,h⟩:=hh
   simp only[acU,Nat.blt_eq]at hb
   obtain⟨⟨⟨b1,b2⟩,b3⟩,b4⟩:=hb
   obtain⟨lv,h,h1⟩:=aH h
   obtain⟨cv,h,h2⟩:=aH h
   split at h
   ·obtain⟨z,e1,e2,e3,e4,e5,fl,lT,h⟩:=h
    exact B5 hT hg ho b1 b2 b3 b4 (hn nx (acN _)) e1 e2 e3 e4 e5 lT h h1 h2
   ·exact h.elim
  ·rename_i t x l hh ho
   have hq:=aN h;clear h;obtain⟨hb,h⟩:=hq
   simp only[acU]at hb
   obtain⟨v,h,bR⟩:=aH h
   obtain⟨lo,h,hl⟩:=AA h
   obtain⟨hi,h,En⟩:=AA h
   exact NA hT hg ho hn hb.1 hb.2 bR.dn hl En h
  ·rename_i c ho
   split at h
   ·rename_i hc
    split at h
    ·rename_i x t ha lK
     obtain⟨v,h,bR⟩:=aH h
     exact RV hT hg ho hc ha lK bR.dn h
    ·exact h.elim
   ·rename_i hc
    split at h
    ·rename_i x i t t' ha lK
     have hh:=aN h;clear h;obtain⟨hb,h⟩:=hh
     simp only[acU]at hb
     obtain⟨v,h,bR⟩:=aH h
     obtain⟨kv,h,oY⟩:=aH h
     exact B6 hT hg ho hc ha lK hn hb.1 (acm hb.2) bR oY h
    ·exact h.elim
   ·rename_i hc
    split at h
    ·rename_i s x t t' ha lK
     have hh:=aN h;clear h;obtain⟨hb,h⟩:=hh
     have:=acm hb
     subst this
     obtain⟨sv,h,h1⟩:=aH h
     obtain⟨xv,h,h2⟩:=aH h
     rcases h with h|h
     ·exact Ho hT hg ho hc ha lK hn h h1 h2.dn
     ·exact Ld hT hg ho hc ha lK hn h h1.dn h2.dn
    ·exact h.elim
   ·rename_i hc
    split at h
    ·rename_i x y ha
     obtain⟨a,h,h1⟩:=aH h
     obtain⟨b,h,h2⟩:=aH h
     split at h
     ·exact Vt hg ho hc ha h h1 h2
     ·exact h.elim
    ·exact h.elim
   ·rename_i hc
    split at h
    ·rename_i x y ha
     obtain⟨a,h,h1⟩:=aH h
     obtain⟨b,h,h2⟩:=aH h
     split at h
     ·exact Vu hg ho hc ha h h1 h2
     ·exact h.elim
    ·exact h.elim
   ·rename_i f hc
    obtain⟨l,h,h1⟩:=kG h
    exact jG hg (vf ho hc h1) h
   ·rename_i t hc
    obtain⟨v,h,bR⟩:=aH h
    obtain⟨l,h,h1⟩:=kG h
    split at h
    ·exact jG hg (ri ho hc bR h1 (.inl ⟨_,rfl,rfl⟩)) h
    ·exact jG hg (ri ho hc bR h1 (.inr (.inl ⟨_,rfl,rfl⟩))) h
    ·exact jG hg (ri ho hc bR h1 (.inr (.inr ⟨_,rfl,rfl⟩))) h
    ·rcases h with h|⟨hf,u,h⟩
     ·exact hR.eC hg ho hc bR h1 h
     ·exact bC (fun c=>by rw[ho];simp) hg h fun _ _ _ _ _ _ _ _ aV=>by rw[hf]at aV;cases aV
    ·exact h.elim
   ·exact h.elim
  ·rename_i t x ho
   have hh:=aN h;clear h;obtain⟨hb,h⟩:=hh
   simp only[acU]at hb
   obtain⟨v,h,bR⟩:=aH h
   split at h
   ·rename_i j ver ep p
    split at h
    ·rename_i d hj
     have hh:=aN h;clear h;obtain⟨ck,h⟩:=hh
     simp only[acU,Bool.or_eq_true]at ck
     obtain⟨nd,h,dS⟩:=bX h
     split at h
     ·exact NB hT hg ho hb.1 (acm hb.2) (hn nx (acN _)) hj (by have:=ck.2;rw[Nat.blt_eq]at this;exact this) (acm ck.1.1)
       (ck.1.2.imp (fun e=>by cases p with|nil=>rfl|cons=>simp[emp]at e) acm) (dS rfl) h bR
     ·exact h.elim
    ·exact h.elim
   ·exact h.elim
  ·rename_i x ho
   obtain⟨v,h,bR⟩:=aH h
   split at h
   ·rename_i i
    split at h
    ·rename_i hi
     exact NC hg ho hi h.1 h.2 bR
    ·exact h.elim
   ·exact h.elim
  ·rename_i s t x ho
   have hh:=aN h;clear h;obtain⟨hb,h⟩:=hh
   simp only[acU]at hb
   obtain⟨v,h,bR⟩:=aH h
   split at h
   ·rename_i hi
    exact Hp hT hg ho hb.1 hb.2 hi h bR
   ·exact h.elim
  ·rename_i t x i ho
   have hh:=aN h;clear h;obtain⟨hb,h⟩:=hh
   simp only[acU]at hb
   obtain⟨v,h,bR⟩:=aH h
   obtain⟨iv,h,oY⟩:=aH h
   split at h
   ·obtain⟨b,GZ,h⟩:=h
    exact ND hT hg ho hb.1 hb.2 GZ h bR oY
   ·exact h.elim
  ·exact h.elim
end
end
section
open Go.RowKit
variable [cn]
def Hq:Op->Bool
 |.buildSlice _ _ _=>true
 |.call c=>match c.callee with
  |.builtin .append=>true
  |_=>false
 |_=>false
def wI(o:Oper):Oper:={ o with guard:=none }
def Hr(P:Program)(T:List TI)(ops:List Oper)(n:Nat)(o:Oper)(nx:Nat)(ρ:Nat->AV)(κ:Nat->au)(k:lN->Nat->Prop):Prop:=
 match o.guard with
 |none=>qf P T ops n o nx ρ κ k
 |some _=>bif Hq o.op then qf P T ops n o nx ρ κ k\/(match b8 ρ ops o.guard with
  |some g=>(g=false/\aY n o g nx k .any [])\/(g=true/\qf P T ops n (wI o) nx ρ κ k)
  |none=>False)
  else qf P T ops n o nx ρ κ k
def Vv(P:Program)(T:List TI)(ops:List Oper)(n:Nat):List Oper->Nat->Env->ae->(Nat->Env->ae->Prop)->Prop
 |[],nx,env,K,k=>k nx env K
 |o::rest,nx,env,K,k=>Hr P T ops n o nx (look env) (aa K) fun cg fj=>AB cg.dst env fun nL=>AD cg.box K fun K'=>Vv P T ops n rest fj nL K' k
structure Rec where
 rows:List Nat
 cg:lN
def Jz:Op->Bool
 |.call c=>match c.callee with
  |.value (.tmp _)=>true
  |_=>false
 |_=>false
def gW:List (Nat×au)->List Nat
 |[]=>[]
 |p::r=>p.1::gW r
def JA(κ:Nat->au)(rd:List Nat):List (Nat×au)->(List (Nat×au)->Prop)->Prop
 |[],k=>k []
 |(i,b)::r,k=>((iF i rd&& !iF i (gW r))=true/\κ i=b/\JA κ rd r k)\/JA κ rd r fun r=>k ((i,b)::r)
def NF(ops:List Oper)(o:Oper)(κ:Nat->au)(cg:lN)(k:lN->Prop):Prop:=
 bif Jz o.op&&Nat.ble 16 ops.length then k cg\/JA κ cg.reads cg.box fun bx=>k { cg with box:=bx }else k cg
def NG(P:Program)(T:List TI)(ops:List Oper)(n:Nat):List Oper->Nat->Env->ae->List Rec->(Nat->Env->ae->List Rec->Prop)->Prop
 |[],nx,env,K,acc,k=>k nx env K acc
 |o::rest,nx,env,K,acc,k=>Hr P T ops n o nx (look env) (aa K) fun cg fj=>NF ops o (aa K) cg fun cg=>AB cg.dst env fun nL=>AD cg.box K fun K'=>NG P T ops n rest fj nL K' (acc++[⟨j4 (look env) (aa K) o,cg⟩]) k
def tU:List Nat->List Nat->Bool
 |[],_=>true
 |x::r,l=>!iF x l&&tU r l
def sB:List (Nat×AV)->List Nat
 |[]=>[]
 |p::r=>p.1::sB r
def mi(ops:List Oper)(x y:Rec)(oy:Oper):Bool:=
 tU (sB x.cg.dst) (oy.looksAt ops.toArray)&&tU (sB x.cg.dst) (sB y.cg.dst)&&
 tU (gW x.cg.box) y.rows&&tU (gW x.cg.box) y.cg.reads&&tU (gW x.cg.box) (gW y.cg.box)
def wj(o:Oper):List Nat:=o.after.toList.filterMap fun e=>bif Region.binds .any e then some e.on else none
def tV(ops:List Oper):Nat->Nat->Nat->Bool
 |0,_,_=>false
 |f+1,i,j=>match ops[j]? with
  |some o=>(wj o).any fun d=>Nat.beq d i||tV ops f i d
  |none=>false
def B7:Nat->List Oper->Bool
 |_,[]=>true
 |i,o::r=>(wj o).all (fun d=>Nat.blt d i)&&B7 (i+1) r
def sC(ops:List Oper)(rs:List Rec)(j:Nat)(y:Rec)(oy:Oper):Nat->List Rec->List Oper->Bool
 |i,x::xr,ox::or=>(bif Nat.blt i j then tV ops ops.length i j||(mi ops x y oy&&mi ops y x ox)else true)&&sC ops rs j y oy (i+1) xr or
 |_,_,_=>true
def qg(ops:List Oper)(rs:List Rec):Nat->List Rec->List Oper->Bool
 |j,y::yr,oy::or=>sC ops rs j y oy 0 rs ops&&qg ops rs (j+1) yr or
 |_,_,_=>true
def tW(ops:List Oper)(rs:List Rec):Bool:=B7 0 ops&&qg ops rs 0 rs ops
def AE(g:dW)(n nx:Nat)(env:Env)(K:ae)(a:Act)(w:World):Prop:=St g n (look env) (aa K) a w/\g.m<=nx/\∀i,nx<=i->aa K i=.none
theorem xt{F:Fence}{m:Nat}{P:Program}{o:Oper}{a:Act}{w:World}{K K':Act->World->Prop}{Q:Exit->Act->World->Prop}(h:∀a w,K a w->K' a w)(hh:o.wpIn F m P a w K (fun _ _ _=>False)):o.wpIn F m P a w K' Q:=by
 refine⟨hh.1,?_⟩
 have hh:=hh.2
 generalize (o.semAt F.round a.eval).run P w=r at*
 cases r with
 |ok x w'=>
  cases x<;>simp[Oper.uponIn]at hh⊢<;>
   first
    |grind
    |exact⟨hh.1,CallsIn.mono hh.2 (fun e w'' he=>by cases e<;>first|grind|grind|(obtain⟨_,_,hf⟩:=he;grind))⟩
    |exact⟨hh.1,RowsIn.mono hh.2 (fun _ _ he=>h _ _ he)⟩
    |exact⟨hh.1,RoundIn.mono hh.2 (fun e w'' he=>by cases e<;>first|grind|grind|(obtain⟨_,_,hf⟩:=he;grind))⟩
    |exact hh.elim
 |halt x w'=>cases x<;>simp[Oper.uponIn]at hh⊢<;>exact hh.elim
def dO(P:Program)(C:dW->Prop):Prop:=∀(ops:List Oper) (n:Nat) (o:Oper) (nx:Nat) (ρ:Nat->AV) (κ:Nat->au) (k:lN->Nat->Prop),(∀i,nx<=i->κ i=.none)->Jy P C ops n o nx ρ κ k
section
variable {P:Program} {C:dW->Prop} {T:List TI} {ops:List Oper} {n:Nat} {g:dW}
theorem B8{o:Oper}{nx:Nat}{ρ:Nat->AV}{κ:Nat->au}{k:lN->Nat->Prop}(hg:b8 ρ ops o.guard=some true)(h:Good P C ops n (wI o) nx ρ κ k):Good P C ops n o nx ρ κ k:=by
 obtain⟨cg,fj,h1,h2,h3,h4⟩:=h
 refine⟨cg,fj,h1,h2,h3,fun F hF ρ' κ' ax g a w dF ak=>?_⟩
 have hs:∀t,t∈(wI o).looksAt ops.toArray->ρ' t=ρ t:=fun t ht=>ax.bV t (by
  unfold Oper.looksAt wI at ht
  simp only[List.append_nil]at ht
  exact List.mem_append_left _ ht)
 have hr:=h4 F hF ρ' κ' ⟨hs,ax.rows,ax.reads,ax.boxes⟩ g a w dF ak
 obtain⟨G,ji⟩:=ak
 unfold nE at hr⊢
 rw[if_pos (cB hg ax.bV ji)]
 assumption
theorem rl(hT:fh P T){o:Oper}{nx:Nat}{ρ:Nat->AV}{κ:Nat->au}{k:lN->Nat->Prop}(hn:∀i,nx<=i->κ i=.none)(hR:dO P C)(h:Hr P T ops n o nx ρ κ k):Good P C ops n o nx ρ κ k:=by
 have DY:qf P T ops n o nx ρ κ k->Good P C ops n o nx ρ κ k:=tT hT hn (hR _ _ _ _ _ _ _ hn)
 unfold Hr at h
 split at h
 ·grind
 ·cases hh:Hq o.op with
  |false=>grind
  |true=>
   rw[hh]at h
   rcases h with h|h
   ·grind
   ·split at h
    ·rename_i g hg
     rcases h with⟨hf,h⟩|⟨hf,h⟩
     ·grind [bC,Hq]
     ·subst hf
      exact B8 hg (tT hT hn (hR _ _ _ _ _ _ _ hn) h)
    grind
theorem kW{nx fj:Nat}{K:ae}{bx:List (Nat×au)}(hn:∀i,nx<=i->aa K i=.none)(hle:nx<=fj)(hb:∀p,p∈bx->p.1<fj):∀i,fj<=i->aa (xu bx K) i=.none:=by
 intro i hi
 rw[fN]
 have key:∀(l:List _),(∀p,p∈l->p.1<fj)->aB (aa K) l i=.none:=by
  intro l
  induction l with
  |nil=>intro _;exact hn i (by omega)
  |cons p r ih=>
   intro hl
   obtain⟨j,b⟩:=p
   have:=hl (j,b) (by simp)
   simp[aB]
   grind [ah]
 grind
theorem qh{o:Oper}{rest:List Oper}{a:Act}{w:World}{K:Act->World->Prop}{Q:Exit->Act->World->Prop}{F:Fence}(hF:iD F)(h:nE P F ops.toArray o a w K)(hk:∀a w,K a w->wpListIn F 0 P ops.toArray Q rest a w):wpListIn F 0 P ops.toArray Q (o::rest) a w:=by
 unfold nE at h
 simp[wpListIn]
 split at h
 ·rename_i hw;rw[if_pos hw];exact xt hk h
 ·rename_i hw;rw[if_neg hw];exact⟨fun f _=>hF.fn f,hk _ _ h⟩
theorem xw(hT:fh P T)(hR:dO P C)(Hs:C g){F:Fence}(hF:iD F){Q:Exit->Act->World->Prop}{k:Nat->Env->ae->Prop}(hQ:∀nx env K a w,k nx env K->AE g n nx env K a w->Q .normal a w):
 ∀(rest:List Oper) (nx:Nat) (env:Env) (K:ae) (a:Act) (w:World),Vv P T ops n rest nx env K k->AE g n nx env K a w->wpListIn F 0 P ops.toArray Q rest a w
 |[],nx,env,K,a,w,h,hs=>hQ nx env K a w h hs
 |o::rest,nx,env,K,a,w,h,⟨hs,dF,hn⟩=>by
  obtain⟨cg,fj,hk,hle,hb,xx⟩:=rl hT hn hR h
  rw[xy,xz]at hk
  refine qh hF (xx F hF _ _ ⟨fun _ _=>rfl,fun _ _=>rfl,fun _ _=>rfl,fun _ _ _=>rfl⟩ g a w ⟨dF,Hs⟩ hs) fun a' w' fH=>?_
  refine xw hT hR Hs hF hQ rest fj _ _ a' w' hk ⟨?_,Nat.le_trans dF hle,kW hn hle hb⟩
  rwa[kH,fN]
def acc{γ:Type _}(f:Nat->γ)(wr:Nat->List (Nat×γ))(E:Nat->Bool):Nat->Nat->γ
 |0=>f
 |m+1=>if E m then aB (acc f wr E m) (wr m)else acc f wr E m
def keys{γ:Type _}(l:List (Nat×γ)):List Nat:=l.map (·.1)
theorem jk{γ:Type _}(f:Nat->γ):∀{l:List (Nat×γ)} {t:Nat},t∉keys l->aB f l t=f t
 |[],t,_=>rfl
 |(i,x)::r,t,h=>by
  simp only[keys,List.map_cons,acp,not_or]at h
  simp[aB]
  rw[ah _ _ h.1]
  exact jk f h.2
theorem B9{γ:Type _}(f f':Nat->γ):∀{l:List (Nat×γ)} {t:Nat},t∈keys l->aB f l t=aB f' l t
 |[],t,h=>by simp[keys]at h
 |(i,x)::r,t,h=>by
  simp[aB]
  by_cases e:t=i
  ·subst e;simp
  ·rw[ah _ _ e,ah _ _ e]
   simp only[keys,List.map_cons,acp,e,false_or]at h
   exact B9 f f' h
section
variable {γ:Type _} {f:Nat->γ} {wr:Nat->List (Nat×γ)} {E:Nat->Bool}
theorem wJ{t:Nat}:∀{j:Nat},(∀i,i<j->E i=false->t∉keys (wr i))->acc f wr E j t=acc f wr (fun _=>true) j t
 |0,_=>rfl
 |j+1,h=>by
  have ih:=wJ (j:=j) fun i hi=>h i (by omega)
  simp[acc,if_true]
  cases he:E j with
  |true=>
   simp[if_true]
   grind [keys,B9,jk]
  |false=>
   simp_all [jk]
theorem Eo{t j:Nat}:∀{m:Nat},(∀i,j<=i->i<j+m->E i=true->t∉keys (wr i))->acc f wr E (j+m) t=acc f wr E j t
 |0,_=>rfl
 |m+1,h=>by
  have ih:=Eo (m:=m) fun i h1 h2=>h i h1 (by omega)
  simp[acc]
  cases he:E _ with
  |true=>simp_all [jk]
  |false=>grind
theorem Ep{t j len:Nat}(hj:j<=len)(h1:∀i,i<j->E i=false->t∉keys (wr i))(h2:∀i,j<=i->i<len->E i=true->t∉keys (wr i)):acc f wr E len t=acc f wr (fun _=>true) j t:=by
 obtain⟨m,rfl⟩:∃m,len=j+m:=⟨len-j,by omega⟩
 rw[Eo h2,wJ h1]
def rn(E:Nat->Bool)(j:Nat):Nat->Bool:=fun i=>if i=j then true else E i
theorem Ca{j:Nat}(hj:E j=false):∀{len:Nat},j<len->(∀i,j<i->i<len->E i=true->∀t,t∈keys (wr j)->t∉keys (wr i))->acc f wr (rn E j) len=aB (acc f wr E len) (wr j)
 |0,h,_=>by omega
 |len+1,h,hd=>by
  rcases acD j len with aw|gE
  ·have ih:=Ca hj aw fun i h1 h2=>hd i h1 (by omega)
   have cC:len≠j:=by omega
   simp[acc,rn,if_neg cC]
   cases he:E len with
   |false=>grind
   |true=>
    simp[if_true]
    rw[ih]
    grind [keys,jk,B9,aB,acc]
  ·have:j=len:=by omega
   subst this
   have low:∀m,m<=j->acc f wr (rn E j) m=acc f wr E m:=by
    intro m
    induction m with
    |zero=>intro _;rfl
    |succ m ih=>
     intro hm
     simp[acc,rn,if_neg _]
     grind
   simp_all [acc,rn,acN]
end
theorem RX.lo{lo XX:Nat}{o:Oper}{ρ:Nat->AV}{κ:Nat->au}{cg:lN}(h:RX P C ops n XX o ρ κ cg)(hl:lo<=XX):RX P C ops n lo o ρ κ cg:=
 fun F hF ρ' κ' ax g a w hg hs=>h F hF ρ' κ' ax g a w ⟨Nat.le_trans hg.1 hl,hg.2⟩ hs
theorem sD{γ:Type _}(f:Nat->γ)(wr wr':Nat->List (Nat×γ))(m:Nat):(∀i,i<m->wr' i=wr i)->acc f wr' (fun _=>true) m=acc f wr (fun _=>true) m:=by
 induction m with
 |zero=>intro _;rfl
 |succ m ih=>intro hh;simp[acc,if_true];grind
theorem rp{κ:Nat->au}{rd:List Nat}:∀{bx:List (Nat×au)} {k:List (Nat×au)->Prop},JA κ rd bx k->∃RY,k RY/\(∀p,p∈RY->p∈bx)/\(∀p,p∈bx->p∈RY\/p.1∈rd)/\∀κ':Nat->au,(∀i,i∈rd->κ' i=κ i)->aB κ' RY=aB κ' bx
 |[],k,h=>⟨[],h,fun _ h=>h,fun _ h=>.inl h,fun _ _=>rfl⟩
 |(i,b)::r,k,h=>by
  rcases h with⟨h1,h2,h⟩|h
  ·obtain⟨RY,hk,ha,hb,hc⟩:=rp h
   simp[acU,acW]at h1
   refine⟨RY,hk,fun p hp=>acq _ (ha p hp),fun p hp=>?_,fun κ' hκ=>?_⟩
   ·rcases acp.1 hp with rfl|hp
    ·grind [mG]
    grind
   ·rw[hc κ' hκ]
    funext j
    by_cases e:j=i
    ·subst e
     have hkb:∀(l:List _),gW l=keys l:=fun l=>by
      induction l with
      |nil=>rfl
      |cons p r ih=>simp[gW,keys,ih]
     simp_all [jk,fg,aB,mG]
    simp_all [aB,ah]
  ·obtain⟨RY,hk,ha,hb,hc⟩:=rp h
   refine⟨(i,b)::RY,hk,fun p hp=>?_,fun p hp=>?_,fun κ' hκ=>?_⟩
   ·grind
   ·grind
   grind [aB]
theorem Ht{o:Oper}{nx:Nat}{ρ:Nat->AV}{κ:Nat->au}{k:lN->Nat->Prop}(h:Good P C ops n o nx ρ κ fun cg fj=>NF ops o κ cg fun cg=>k cg fj):Good P C ops n o nx ρ κ k:=by
 obtain⟨cg,fj,h1,h2,h3,h4⟩:=h
 unfold NF at h1
 cases hd:Jz o.op&&Nat.ble 16 ops.length with
 |false=>rw[hd]at h1;exact⟨cg,fj,h1,h2,h3,h4⟩
 |true=>
  rw[hd]at h1
  rcases h1 with h1|h1
  ·exact⟨cg,fj,h1,h2,h3,h4⟩
  ·obtain⟨RY,hk,ha,hb,hc⟩:=rp h1
   refine⟨_,fj,hk,h2,fun p hp=>h3 p (ha p hp),fun F hF ρ' κ' ax g a w dF ak=>?_⟩
   have hr:=h4 F hF ρ' κ' ⟨ax.bV,ax.rows,ax.reads,fun i b hib=>?_⟩ g a w dF ak
   ·simp
    rwa[hc κ' ax.reads]
   ·rcases hb _ hib with h|h
    ·exact ax.boxes i b h
    ·exact ax.reads i h
theorem vk(hT:fh P T)(hR:dO P C){k:Nat->Env->ae->List Rec->Prop}{ρ0:Nat->AV}{κ0:Nat->au}{lo:Nat}:
 ∀(rest done:List Oper) (nx:Nat) (env:Env) (K:ae) (rs:List Rec),ops=done++rest->rs.length=done.length->lo<=nx->
  (∀i,nx<=i->aa K i=.none)->
  look env=acc ρ0 (fun i=>(rs[i]?.map (·.cg.dst)).getD []) (fun _=>true) done.length->aa K=acc κ0 (fun i=>(rs[i]?.map (·.cg.box)).getD []) (fun _=>true) done.length->
  (∀i r o,rs[i]?=some r->ops[i]?=some o->r.rows=j4 (acc ρ0 (fun i=>(rs[i]?.map (·.cg.dst)).getD []) (fun _=>true) i) (acc κ0 (fun i=>(rs[i]?.map (·.cg.box)).getD []) (fun _=>true) i) o/\RX P C ops n lo o (acc ρ0 (fun i=>(rs[i]?.map (·.cg.dst)).getD []) (fun _=>true) i) (acc κ0 (fun i=>(rs[i]?.map (·.cg.box)).getD []) (fun _=>true) i) r.cg)->
  NG P T ops n rest nx env K rs k->
  ∃fj nL K' vl,k fj nL K' vl/\vl.length=ops.length/\lo<=fj/\(∀i,fj<=i->aa K' i=.none)/\
   look nL=acc ρ0 (fun i=>(vl[i]?.map (·.cg.dst)).getD []) (fun _=>true) ops.length/\aa K'=acc κ0 (fun i=>(vl[i]?.map (·.cg.box)).getD []) (fun _=>true) ops.length/\
   ∀i r o,vl[i]?=some r->ops[i]?=some o->r.rows=j4 (acc ρ0 (fun i=>(vl[i]?.map (·.cg.dst)).getD []) (fun _=>true) i) (acc κ0 (fun i=>(vl[i]?.map (·.cg.box)).getD []) (fun _=>true) i) o/\RX P C ops n lo o (acc ρ0 (fun i=>(vl[i]?.map (·.cg.dst)).getD []) (fun _=>true) i) (acc κ0 (fun i=>(vl[i]?.map (·.cg.box)).getD []) (fun _=>true) i) r.cg
 |[],done,nx,env,K,rs,Er,hlen,oq,hn,he,hk,bN,h=>by
  have:done.length=ops.length:=by grind
  exact⟨nx,env,K,rs,h,by omega,oq,hn,by grind,by grind,bN⟩
 |o::rest,done,nx,env,K,rs,Er,hlen,oq,hn,he,hk,bN,h=>by
  obtain⟨cg,fj,iw,hle,hb,xx⟩:=Ht (rl hT hn hR h)
  rw[xy,xz]at iw
  have rq:∀i,i<rs.length->(rs++[⟨j4 (look env) (aa K) o,cg⟩])[i]?=rs[i]?:=fun i hi=>List.getElem?_append_left hi
  have xA:(rs++[(⟨j4 (look env) (aa K) o,cg⟩)])[done.length]?=some ⟨j4 (look env) (aa K) o,cg⟩:=by grind
  have j5:∀m,m<=done.length->acc ρ0 (fun i=>((rs++[(⟨j4 (look env) (aa K) o,cg⟩)])[i]?.map (·.cg.dst)).getD []) (fun _=>true) m=acc ρ0 (fun i=>(rs[i]?.map (·.cg.dst)).getD []) (fun _=>true) m:=
   fun m hm=>sD _ _ _ m fun i hi=>by grind
  have lV:∀m,m<=done.length->acc κ0 (fun i=>((rs++[(⟨j4 (look env) (aa K) o,cg⟩)])[i]?.map (·.cg.box)).getD []) (fun _=>true) m=acc κ0 (fun i=>(rs[i]?.map (·.cg.box)).getD []) (fun _=>true) m:=
   fun m hm=>sD _ _ _ m fun i hi=>by grind
  refine vk hT hR rest (done++[o]) fj _ _ _ (by rw[Er];simp) (by simp[hlen]) (Nat.le_trans oq hle) (kW hn hle hb) ?_ ?_ ?_ iw
  ·rw[kH,acw]
   simp[List.length_cons,List.length_nil,acc,if_true]
   rw[j5 _ (acN _),xA,<-he];rfl
  ·rw[fN,acw]
   simp[List.length_cons,List.length_nil,acc,if_true]
   rw[lV _ (acN _),xA,<-hk];rfl
  ·intro i r o' hr kS
   rcases acD i rs.length with aw|gE
   ·rw[rq i aw]at hr
    rw[j5 i (by omega),lV i (by omega)]
    exact bN i r o' hr kS
   ·have hi:i=done.length:=by
     have:=(aci.1 hr).1
     simp at this;omega
    subst hi
    rw[xA]at hr
    injection hr with hr
    subst hr
    rw[Er]at kS
    simp at kS
    subst kS
    rw[j5 _ (acN _),lV _ (acN _),<-he,<-hk]
    exact⟨rfl,xx.lo oq⟩
end
end
end Go.TM
