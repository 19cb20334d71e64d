import Derived.Test.YtmojfblpbcficaaGreatDoorUM3
import Derived.OrdersIn
import Derived.TacticsIn
import Derived.OwnWalkIn
import Derived.RangeFuncLeaves
set_option linter.all false
namespace Go.TM
set_option maxHeartbeats 1000000
section
open Go.RowKit
variable [cj]
def aF{γ:Type _}(f:Nat->γ):List (Nat×γ)->Nat->γ
 |[]=>f
 |(i,x)::r=>iO (aF f r) i x
theorem beq_false{i t:Nat}(h:t≠i):Nat.beq i t=false:=by
 grind [Nat.beq,absurd,Nat.eq_of_beq_eq_true]
theorem kS:∀(l:List (Nat×AV)) (env:Env),look (Is l env)=aF (look env) l
 |[],_=>rfl
 |(i,x)::r,env=>by
  funext t
  simp only[Is,look,aF,iO,kS r env]
  by_cases h:t=i
  ·subst h;simp
  simp_all [beq_false]
theorem fX:∀(l:List (Nat×aw)) (K:ae),aa (xV l K)=aF (aa K) l
 |[],_=>rfl
 |(i,x)::r,K=>by
  funext t
  simp only[xV,aa,aF,iO,fX r K]
  by_cases h:t=i
  ·subst h;simp
  simp_all [beq_false]
def Wa:AV->List Nat
 |.own i _ _ _=>[i]
 |.loc i _ _ _ _ _ _=>[i]
 |.pre i _ _ _ _ _ _=>[i]
 |.opt _ v=>Wa v
 |.cz i _=>[i]
 |_=>[]
def Yu(ρ:Nat->AV):Operand->List Nat
 |.tmp t=>Wa (ρ t)
 |_=>[]
def NG(ρ:Nat->AV)(o:Oper):List Nat:=o.op.operands.toList.flatMap fun| .tmp t=>Wa (ρ t)|_=>[]
def acB:aw->Bool
 |.tree _ _ _=>true
 |_=>false
def mvT(κ:Nat->aw):AV->Bool
 |.own i _ _ _=>acB (κ i)
 |_=>false
def kj(ρ:Nat->AV)(κ:Nat->aw)(o:Oper):List Nat:=match o.op with
 |.move (.tmp t)=>bif mvT κ (ρ t)then[]else NG ρ o
 |_=>NG ρ o
theorem Rt{M:Mem}{v:Value}{d:DV}(h:Qq v=some d):bz M d v/\d.aq=true/\d.ar=false:=by
 unfold Qq at h
 split at h<;>first|(injection h with h;subst h;exact⟨by constructor,rfl,rfl⟩)|grind
theorem eu{M:Mem}:∀{l:List Value} {ds:List DV},qb l=some ds->eZ M ds l/\∀d,d∈ds->d.aq=true/\d.ar=false
 |[],ds,h=>by simp[qb]at h;subst h;exact⟨.nil M,by simp⟩
 |v::r,ds,h=>by
  simp[qb]at h
  split at h
  ·rename_i d l h1 h2
   injection h with h;subst h
   obtain⟨a,b⟩:=Rt h1
   obtain⟨c,e⟩:=eu h2
   exact⟨.cons a c,by grind⟩
  grind
theorem qe(l:List DV):ed l=l.map .dv:=by
 induction l with
 |nil=>rfl
 |cons d r ih=>simp[ed,ih]
theorem oG(l:List DV):(ed l).length=l.length:=by simp[qe]
theorem Ru{l:List DV}{j:Nat}{v:AV}(h:(ed l)[j]?=some v):∃d,l[j]?=some d/\v=.dv d:=by
 rw[qe,abW]at h
 grind
theorem ju{G:Gh}{l:List DV}{vs:List Value}(h:eZ G.M l vs):ck G (ed l) vs:=by
 refine⟨by rw[oG];exact h.1,fun j d v hd hv=>?_⟩
 obtain⟨d',h1,rfl⟩:=Ru hd
 exact .dv (h.2 j d' v h1 hv)
theorem UO(G:Gh)(v:Value):aK G (Qt v) v:=by
 unfold Qt
 split<;>first
  |exact .dv (by constructor)
  |exact .any _
  |skip
 rename_i cs
 split
 ·rename_i l hl
  obtain⟨h1,_⟩:=eu hl
  have h2:=ju (G:=G) h1
  have:=aK.agg _ cs.toList h2.1 h2.2
  simp_all
 ·exact .any _
section
variable {g:dV} {n:Nat} {ρ:Nat->AV} {κ:Nat->aw} {a:Act} {w:World} {G:Gh}
theorem yi(h:Fit G w κ){v:AV}{x:Value}(hv:aK G v x):aK G (res κ v) x:=by
 cases v with
 |own i ver ep p=>
  simp[res]
  split
  ·rename_i v' e' d hk
   cases hb:Nat.beq ver v'&&(emp p||Nat.beq ep e')with
   |true=>grind
   |false=>exact .any _
  ·rename_i v' d hk
   cases hb:Nat.beq ver v'&&emp p with
   |false=>exact .any _
   |true=>
    simp only[adT]at hb
    have Rv:=ab9 hb.1
    subst Rv
    have hx:=h.box i
    rw[hk]at hx
    obtain⟨u,h1,h2,h3⟩:=hx
    cases p with
    |cons=>simp[emp]at hb
    |nil=>cases hv with
     |own _ _ _ _ _ he hc=>simp[aO]at he;rw[h1]at he;injection he with he;subst he;exact .dv h3
  ·exact .any _
 |loc i ver ep p sz idx off=>
  simp[res]
  cases hb:cur _ ver ep p with
  |true=>grind
  |false=>exact .any _
 |pre i ver ep p sz idx off=>
  simp[res]
  cases hb:cur _ ver ep p with
  |true=>grind
  |false=>exact .any _
 |cz i ver=>
  simp[res]
  split
  ·rename_i v' e' d hk
   cases hb:Nat.beq ver v' with
   |true=>grind
   |false=>exact .any _
  ·rename_i v' d hk
   cases hb:Nat.beq ver v' with
   |false=>exact .any _
   |true=>
    have Rv:=ab9 hb
    subst Rv
    have hx:=h.box i
    rw[hk]at hx
    obtain⟨u,h1,h2,h3⟩:=hx
    cases hv with
    |cz _ _ a n he=>rw[h1]at he;injection he with he;subst he;exact .dv h3
  ·exact .any _
 |_=>exact hv
theorem A3{v:AV}{x:Value}(hv:aK G v x):aK G (dn v) x:=by
 cases v with
 |cz i ver=>cases hv with|cz _ _ a n he=>exact .own i ver 0 [] _ he rfl
 |_=>exact hv
theorem Ca{κ κ':Nat->aw}{v:AV}(h:∀i,i∈Wa v->κ' i=κ i):res κ' v=res κ v:=by
 cases v with
 |own i ver ep p=>grind [res,Wa]
 |loc i ver ep p sz idx off=>grind [res,Wa]
 |pre i ver ep p sz idx off=>grind [res,Wa]
 |cz i ver=>grind [res,Wa]
 |_=>rfl
theorem UP{κ:Nat->aw}{u:AV}{g:Bool}{v:AV}(h:res κ u=.opt g v):u=.opt g v:=by
 cases u with
 |own i ver ep p=>
  grind [res,Nat.beq,emp]
 |loc i ver ep p sz idx off=>grind [res,cur]
 |pre i ver ep p sz idx off=>grind [res,cur]
 |cz i ver=>
  grind [res,Nat.beq]
 |opt g' v'=>exact h
 |_=>cases h
def JV(ρ ρ':Nat->AV)(κ κ':Nat->aw)(x:Operand):Prop:=(∀t,x=.tmp t->ρ' t=ρ t)/\∀i,i∈Yu ρ x->κ' i=κ i
def bN(ρ:Nat->AV)(κ:Nat->aw)(gd:Bool)(x:Operand)(av:AV):Prop:=
 ∀ρ' κ',JV ρ ρ' κ κ' x->∀(g:dV) (n:Nat) (a:Act) (w:World) (G:Gh),cB g n ρ' κ' a w G->gd=true->aK G av (a.eval x)
theorem bN.dn{gd:Bool}{x:Operand}{av:AV}(h:bN ρ κ gd x av):bN ρ κ gd x (dn av):=fun ρ' κ' ay g n a w G ak aY=>A3 (h ρ' κ' ay g n a w G ak aY)
theorem A4{x:Operand}:∀ρ' κ',JV ρ ρ' κ κ' x->∀(g:dV) (n:Nat) (a:Act) (w:World) (G:Gh),cB g n ρ' κ' a w G->aK G (ev ρ κ x) (a.eval x):=by
 intro ρ' κ' ay g n a w G ak
 cases x with
 |tmp t=>
  have h1:=yi ak.fit (ak.env t)
  rw[ay.1 t rfl]at h1
  simp[ev]
  rwa[<-Ca (fun i hi=>ay.2 i hi)]
 |const v=>exact UO G v
 |func f=>exact .fn f [] [] rfl (by simp)
 |global i=>
  simp[ev]
  split
  ·rename_i x hx
   exact .dv (cj.ok i x hx G.M (ak.o5.mono ak.mem))
  ·exact .any _
theorem Rw{v:Value}{g:Bool}{u:AV}(h:Qt v=.opt g u):False:=by
 unfold Qt at h
 grind
theorem EW{x:Operand}{g':Bool}{v:AV}(he:ev ρ κ x=.opt g' v){gd:Bool}(hg:gd=true->g'=true):bN ρ κ gd x (res κ v):=by
 intro ρ' κ' ay g n a w G ak aY
 have h1:=A4 ρ' κ' ay g n a w G ak
 rw[he]at h1
 have sG:=hg aY
 subst sG
 have h4:aK G v (a.eval x):=by generalize a.eval x=y at h1;cases h1 with|opt _ _ _ h3 hu=>grind
 have h6:=yi ak.fit h4
 have vY:res κ' v=res κ v:=by
  refine Ca fun i hi=>ay.2 i ?_
  cases x with
  |tmp t=>
   simp[Yu]
   simp[ev]at he
   rwa[UP he]
  |const v=>exact(Rw he).elim
  |func f=>cases he
  |global i=>grind [ev]
 grind
theorem aL{gd:Bool}{x:Operand}{k:AV->Prop}(h:ex ρ κ gd x k):∃av,k av/\bN ρ κ gd x av:=by
 unfold ex at h
 split at h
 ·grind [force_eq,res,EW]
 ·rw[force_eq]at h
  exact⟨ev ρ κ x,h,fun ρ' κ' ay g n a w G ak _=>A4 ρ' κ' ay g n a w G ak⟩
end
def iR(F:Fence):Prop:=F=Fence.wide\/∃l,F=Fence.wide.inRound l
theorem iF:iR Fence.wide:=.inl rfl
theorem wide_round(l:Nat):iR (Fence.wide.inRound l):=.inr ⟨l,rfl⟩
theorem iR.fn{F:Fence}(h:iR F)(f:FuncId):F.fn f:=by rcases h with rfl|⟨l,rfl⟩<;>exact trivial
theorem iR.depth{F:Fence}(h:iR F):F.depth=none:=by rcases h with rfl|⟨l,rfl⟩<;>rfl
theorem iR.calls{F:Fence}(h:iR F){n:Nat}{P:Program}{f:FuncId}{args:Array Value}{w:World}{R:Ending->World->Prop}:CallsIn F n P f args w R↔Calls P f args w R:=by
 rcases h with rfl|⟨l,rfl⟩
 ·exact callsIn_wide
 ·exact callsIn_wide
theorem iR.round{F:Fence}(h:iR F){n:Nat}{P:Program}{l:Nat}{f:FuncId}{tmps:Array Value}{assign body:Code}{w:World}{R:Ending->World->Prop}:RoundIn F n P l f tmps assign body w R↔RoundIn Fence.wide n P l f tmps assign body w R:=by
 rcases h with rfl|⟨l,rfl⟩
 ·grind
 rfl
def nV(P:Program)(F:Fence)(ops:Array Oper)(o:Oper)(a:Act)(w:World)(K:Act->World->Prop):Prop:=
 if Region.wanted o (yielded ops a.tmps)=true then o.wpIn F 0 P a w K (fun _ _ _=>False)else K (a.put o.dst undef) w
structure EA(ops:List Oper)(o:Oper)(ρ ρ':Nat->AV)(κ κ':Nat->aw)(rd:List Nat)(bx:List (Nat×aw)):Prop where
 bX:∀t,t∈o.looksAt ops.toArray->ρ' t=ρ t
 rows:∀i,i∈kj ρ κ o->κ' i=κ i
 reads:∀i,i∈rd->κ' i=κ i
 boxes:∀i b,(i,b)∈bx->κ' i=κ i
def S3(P:Program)(C:dV->Prop)(ops:List Oper)(n lo:Nat)(o:Oper)(ρ:Nat->AV)(κ:Nat->aw)(cq:l9):Prop:=
 ∀F,iR F->∀ρ' κ',EA ops o ρ ρ' κ κ' cq.reads cq.box->∀(g:dV) (a:Act) (w:World),g.m<=lo/\C g->St g n ρ' κ' a w->
  nV P F ops.toArray o a w fun a' w'=>St g n (aF ρ' cq.dst) (aF κ' cq.box) a' w'
def Good(P:Program)(C:dV->Prop)(ops:List Oper)(n:Nat)(o:Oper)(nx:Nat)(ρ:Nat->AV)(κ:Nat->aw)(k:l9->Nat->Prop):Prop:=
 ∃cq fE,k cq fE/\nx<=fE/\(∀p,p∈cq.box->p.1<fE)/\S3 P C ops n nx o ρ κ cq
section
variable {P:Program} {C:dV->Prop} {ops:List Oper} {n:Nat} {o:Oper} {nx fE:Nat} {ρ ρ':Nat->AV} {κ κ':Nat->aw} {k:l9->Nat->Prop} {rd:List Nat} {bx:List (Nat×aw)}
theorem UQ(hm:∀y,o.op≠.move y):kj ρ κ o=NG ρ o:=by
 grind [kj,absurd]
theorem EA.opR(h:EA ops o ρ ρ' κ κ' rd bx){x:Operand}(hx:x∈o.op.operands)(hm:kj ρ κ o=NG ρ o):JV ρ ρ' κ κ' x:=by
 have Fv:x∈o.op.operands.toList:=by grind
 constructor
 ·rintro t rfl
  refine h.bX t ?_
  unfold Oper.looksAt
  grind
 ·intro i hi
  refine h.rows i ?_
  grind [NG,Yu]
theorem EA.op(h:EA ops o ρ ρ' κ κ' rd bx){x:Operand}(hx:x∈o.op.operands)(hm:∀y,o.op≠.move y:=by have hh:=‹o.op=_›;intro y hy;rw[hh]at hy;cases hy):JV ρ ρ' κ κ' x:=h.opR hx (UQ hm)
theorem JW{a:Act}{d j:Nat}(hj:(ops[j]?).bind (·.dst)=some d):yielded ops.toArray a.tmps j=match a.tmps[d]? with|some (.bool b)=>some b|_=>none:=by
 grind [yielded,bind]
theorem cE{g:dV}{a:Act}{w:World}{G:Gh}{gd:Bool}(hg:cb ρ ops o.guard=some gd)
 (ay:∀t,t∈o.looksAt ops.toArray->ρ' t=ρ t) (h:cB g n ρ' κ' a w G):Region.wanted o (yielded ops.toArray a.tmps)=gd:=by
 unfold cb at hg
 unfold Region.wanted
 split at hg
 ·grind
 ·rename_i j want hs
  rw[hs]
  split at hg
  ·rename_i d hd
   have hr:=by
    refine ay d ?_
    grind [Oper.looksAt]
   have hv:=h.env d
   rw[hr]at hv
   have rR:∀b,a.tmps.getD d undef=.bool b->a.tmps[d]?=some (.bool b):=by
    intro b hb
    rw[adt]at hb
    cases hc:a.tmps[d]? with
    |none=>rw[hc]at hb;cases hb
    |some v=>grind
   simp[JW hd]
   split at hg
   ·rename_i b hb
    rw[hb]at hv
    injection hg with hg
    cases hv with
    |dv ma=>
     generalize hx:a.tmps.getD d undef=x at ma
     cases ma with
     |bool=>
      rw[rR b hx,<-hg]
      cases b<;>cases want<;>rfl
   ·rename_i gg b hb
    rw[hb]at hv
    injection hg with hg
    generalize hx:a.tmps.getD d undef=x at hv
    cases hv with
    |opt _ _ _ h1 h2=>
     cases gg with
     |true=>
      cases(h1 rfl)with
      |dv ma=>cases ma with
       |bool=>
        rw[rR b hx,<-hg]
        cases b<;>cases want<;>rfl
     |false=>
      rw[<-hg]
      have:∀b,a.tmps[d]?≠some (.bool b):=by
       intro b hc
       have:a.tmps.getD d undef=.bool b:=by simp_all
       rw[hx,(h2 rfl)]at this;cases this
      grind
   grind
  grind
theorem ij{F:Fence}(hF:iR F){a:Act}{w w':World}{v:Value}{K:Act->World->Prop}{Q:Exit->Act->World->Prop}(hd:∀c,o.op≠.defer c)
 (bG:(execOp a.eval o).run P w=.ok (.value v) w') (hk:K (a.put o.dst v) w'):o.wpIn F 0 P a w K Q:=by
 refine⟨fun f _=>hF.fn f,?_⟩
 rwa[Oper.semAt_plain F _ _ hd,bG]
theorem zR{F:Fence}(hF:iR F){a:Act}{w w':World}{K:Act->World->Prop}{Q:Exit->Act->World->Prop}(hd:∀c,o.op≠.defer c)
 (bG:(execOp a.eval o).run P w=.ok .skip w') (hk:K (a.put o.dst undef) w'):o.wpIn F 0 P a w K Q:=by
 refine⟨fun f _=>hF.fn f,?_⟩
 rwa[Oper.semAt_plain F _ _ hd,bG]
theorem bE{gd:Bool}{av:AV}(hd:∀c,o.op≠.defer c)(hg:cb ρ ops o.guard=some gd)(hk:bj n o gd nx k av rd)
 (h:∀ρ' κ',EA ops o ρ ρ' κ κ' rd []->∀(g:dV) (a:Act) (w:World) (G:Gh),cB g n ρ' κ' a w G->gd=true->
  ∃v,(execOp a.eval o).run P w=.ok (.value v) w/\aK G av v):Good P C ops n o nx ρ κ k:=by
 unfold bj at hk
 split at hk
 ·rename_i ma hn
  refine⟨_,_,hk,adM _,by simp,fun F hF ρ' κ' ay g a w dK ⟨G,ak⟩=>?_⟩
  have sG:gd=true:=by rw[hn]at hg;injection hg with hg;grind
  obtain⟨v,bG,_⟩:=h ρ' κ' ay g a w G ak sG
  unfold nV
  rw[cE hg ay.bX ak,sG,if_pos rfl]
  exact ij hF hd bG ⟨G,by rwa[ma]⟩
 ·grind
 ·rename_i d ma hn
  cases au:Nat.blt d n with
  |false=>grind
  |true=>
   rw[au]at hk
   refine⟨_,_,hk,adM _,by simp,fun F hF ρ' κ' ay g a w dK ⟨G,ak⟩=>?_⟩
   have sG:gd=true:=by rw[hn]at hg;injection hg with hg;grind
   obtain⟨v,bG,hv⟩:=h ρ' κ' ay g a w G ak sG
   unfold nV
   rw[cE hg ay.bX ak,sG,if_pos rfl]
   exact ij hF hd bG ⟨G,by rw[ma];exact ak.put (by simp_all) hv⟩
 ·rename_i d j ma hn
  cases au:Nat.blt d n with
  |false=>grind
  |true=>
   rw[au]at hk
   have lu:=by rwa[Nat.blt_eq]at au
   refine⟨_,_,hk,adM _,by simp,fun F hF ρ' κ' ay g a w dK ⟨G,ak⟩=>?_⟩
   unfold nV
   rw[cE hg ay.bX ak]
   cases gd with
   |true=>
    obtain⟨v,bG,hv⟩:=h ρ' κ' ay g a w G ak rfl
    rw[if_pos rfl]
    exact ij hF hd bG ⟨G,by rw[ma];exact ak.put lu (.opt true av v (fun _=>hv) (by simp))⟩
   |false=>
    simp[ma]
    exact⟨G,ak.put lu (.opt false av undef (by simp) (fun _=>rfl))⟩
theorem G4{gd:Bool}{av:AV}(hd:∀c,o.op≠.defer c)(hg:cb ρ ops o.guard=some gd)(hk:dP n o fE k av bx rd)(eG:nx<=fE)(fG:∀p,p∈bx->p.1<fE)
 (h:∀ρ' κ',EA ops o ρ ρ' κ κ' rd bx->∀(F:Fence),iR F->∀(g:dV) (a:Act) (w:World) (G:Gh),g.m<=nx/\C g->cB g n ρ' κ' a w G->gd=true->∀(K:Act->World->Prop),
  (∀v w' G',cB g n ρ' (aF κ' bx) a w' G'->aK G' av v->K (a.put o.dst v) w')->o.wpIn F 0 P a w K (fun _ _ _=>False)):Good P C ops n o nx ρ κ k:=by
 unfold dP at hk
 split at hk
 ·rename_i hgu ma
  have sG:gd=true:=by rw[hgu]at hg;injection hg with hg;grind
  refine⟨_,_,hk,eG,fG,fun F hF ρ' κ' ay g a w dK ⟨G,ak⟩=>?_⟩
  unfold nV
  rw[cE hg ay.bX ak,sG,if_pos rfl]
  refine h ρ' κ' ay F hF g a w G dK ak sG _ fun v w' G' h1 _=>⟨G',?_⟩
  rwa[ma]
 ·rename_i d hgu ma
  cases au:Nat.blt d n with
  |false=>grind
  |true=>
   rw[au]at hk
   have sG:gd=true:=by rw[hgu]at hg;injection hg with hg;grind
   refine⟨_,_,hk,eG,fG,fun F hF ρ' κ' ay g a w dK ⟨G,ak⟩=>?_⟩
   unfold nV
   rw[cE hg ay.bX ak,sG,if_pos rfl]
   refine h ρ' κ' ay F hF g a w G dK ak sG _ fun v w' G' h1 h2=>⟨G',?_⟩
   rw[ma];exact h1.put (by simp_all) h2
 grind
theorem Fq{gd:Bool}{av:AV}(hd:∀c,o.op≠.defer c)(hg:cb ρ ops o.guard=some gd)(hk:yH n o gd fE k av bx rd)(eG:nx<=fE)(fG:∀p,p∈bx->p.1<fE)
 (h:∀ρ' κ',EA ops o ρ ρ' κ κ' rd bx->∀(F:Fence),iR F->∀(g:dV) (a:Act) (w:World) (G:Gh),g.m<=nx/\C g->cB g n ρ' κ' a w G->gd=true->∀(K:Act->World->Prop),
  (∀v w' G',cB g n ρ' (aF κ' bx) a w' G'->aK G' av v->K (a.put o.dst v) w')->o.wpIn F 0 P a w K (fun _ _ _=>False)):Good P C ops n o nx ρ κ k:=by
 unfold yH at hk
 split at hk
 ·grind [G4]
 ·obtain⟨sG,hk⟩:=hk
  split at hk
  ·rename_i ma
   refine⟨_,_,hk,eG,fG,fun F hF ρ' κ' ay g a w dK ⟨G,ak⟩=>?_⟩
   unfold nV
   rw[cE hg ay.bX ak,sG,if_pos rfl]
   refine h ρ' κ' ay F hF g a w G dK ak sG _ fun v w' G' h1 _=>⟨G',?_⟩
   rwa[ma]
  ·rename_i d ma
   cases au:Nat.blt d n with
   |false=>grind
   |true=>
    rw[au]at hk
    refine⟨_,_,hk,eG,fG,fun F hF ρ' κ' ay g a w dK ⟨G,ak⟩=>?_⟩
    unfold nV
    rw[cE hg ay.bX ak,sG,if_pos rfl]
    refine h ρ' κ' ay F hF g a w G dK ak sG _ fun v w' G' h1 h2=>⟨G',?_⟩
    rw[ma];exact h1.put (by simp_all) (.opt true av v (fun _=>h2) (by simp))
theorem Kt{gd:Bool}{av:AV}(hd:∀c,o.op≠.defer c)(hg:cb ρ ops o.guard=some gd)(hk:dP n o fE k av bx rd)(eG:nx<=fE)(fG:∀p,p∈bx->p.1<fE)
 (h:∀ρ' κ',EA ops o ρ ρ' κ κ' rd bx->∀(F:Fence),iR F->∀(g:dV) (a:Act) (w:World) (G:Gh),g.m<=nx->cB g n ρ' κ' a w G->gd=true->∀(K:Act->World->Prop),
  (∀v w' G',cB g n ρ' (aF κ' bx) a w' G'->aK G' av v->K (a.put o.dst v) w')->o.wpIn F 0 P a w K (fun _ _ _=>False)):Good P C ops n o nx ρ κ k:=
 G4 hd hg hk eG fG fun ρ' κ' ay F hF g a w G dK=>h ρ' κ' ay F hF g a w G dK.1
theorem dq{gd:Bool}{av:AV}(hd:∀c,o.op≠.defer c)(hg:cb ρ ops o.guard=some gd)(hk:dP n o fE k av bx rd)(eG:nx<=fE)(fG:∀p,p∈bx->p.1<fE)
 (h:∀ρ' κ',EA ops o ρ ρ' κ κ' rd bx->∀(g:dV) (a:Act) (w:World) (G:Gh),g.m<=nx->cB g n ρ' κ' a w G->gd=true->
  ∃v w' G',((execOp a.eval o).run P w=.ok (.value v) w'\/(execOp a.eval o).run P w=.ok .skip w'/\v=undef)/\cB g n ρ' (aF κ' bx) a w' G'/\aK G' av v):Good P C ops n o nx ρ κ k:=by
 refine Kt hd hg hk eG fG fun ρ' κ' ay F hF g a w G dK ak aY K hK=>?_
 obtain⟨v,w',G',hr,h1,h2⟩:=h ρ' κ' ay g a w G dK ak aY
 rcases hr with hr|⟨hr,rfl⟩
 ·grind [ij]
 grind [zR,undef]
theorem Rx{gd:Bool}{av:AV}(hd:∀c,o.op≠.defer c)(hg:cb ρ ops o.guard=some gd)(hk:yH n o gd fE k av bx rd)(eG:nx<=fE)(fG:∀p,p∈bx->p.1<fE)
 (h:∀ρ' κ',EA ops o ρ ρ' κ κ' rd bx->∀(g:dV) (a:Act) (w:World) (G:Gh),g.m<=nx->cB g n ρ' κ' a w G->gd=true->
  ∃v w' G',((execOp a.eval o).run P w=.ok (.value v) w'\/(execOp a.eval o).run P w=.ok .skip w'/\v=undef)/\cB g n ρ' (aF κ' bx) a w' G'/\aK G' av v):Good P C ops n o nx ρ κ k:=by
 refine Fq hd hg hk eG fG fun ρ' κ' ay F hF g a w G dK ak aY K hK=>?_
 obtain⟨v,w',G',hr,h1,h2⟩:=h ρ' κ' ay g a w G dK.1 ak aY
 rcases hr with hr|⟨hr,rfl⟩
 ·grind [ij]
 grind [zR,undef]
theorem TA{gd:Bool}{av:AV}(hg:o.guard=none)(h:dP n o nx k av bx rd):yH n o gd nx k av bx rd:=by
 grind [yH]
end
end
section
open Go.RowKit
variable [cj]
theorem cM(a:Addr)(i j:Nat):(a.add i).add j=a.add (i+j):=by
 grind [Addr.add,Nat.add_assoc]
theorem fa(b o k:Nat):(⟨b,o,none⟩:Addr).add k=⟨b,o+k,none⟩:=by grind [Addr.add]
section
variable {P:Program} {C:dV->Prop} {T:List TI}
structure gK(P:Program)(t:Nat)(ti:TI)(i:TypeInfo)(u:TypeDesc)(z:Value):Prop where
 info:P.info? t=some i
 CZ:P.underlying t=some u
 zero:i.zero=some z
 zc:qb z.cells.toList=some ti.zero
 zl:ti.zero.length=i.size
 size:ti.size=i.size
 bytes:ti.bytes=i.bytes
 agg:ti.agg=Lp u
 fields:ti.fields=fieldsOf P u
 isSl:ti.isSl=MZ u
 isStr:ti.isStr=strOf u
 elem:ti.elem=Qr u
 kind:ti.kind=kindOf u
 key:ti.key=keyOf u
 Cw:ti.Cw=I8 u
 N7:ti.N7=KP u
 fin:zg P u=true
 dz:gH z=Lp u
 pair:ti.pair=(IC P u&& !P.stoodInHeld t)
 len:ti.len=lenOf u
 Xh:ti.Xh=Qs P t i.size u
theorem fD.facts(hT:fD P T){t:Nat}(h:(nth T t).ok=true):∃i u z,gK P t (nth T t) i u z:=by
 have e:=hT t h
 unfold TI.of at e
 split at e
 ·rename_i i u hi hu
  have h1:=congrArg TI.ok e
  rw[h]at h1
  have h1:=h1.symm
  simp[adT]at h1
  obtain⟨pd,h1⟩:=h1
  have h1:=h1.symm
  split at h1
  ·rename_i z hz
   split at h1
   ·exact⟨i,u,z,hi,hu,hz,by grind,by grind,congrArg TI.size e,congrArg TI.bytes e,congrArg TI.agg e,congrArg TI.fields e,congrArg TI.isSl e,congrArg TI.isStr e,congrArg TI.elem e,congrArg TI.kind e,congrArg TI.key e,congrArg TI.Cw e,congrArg TI.N7 e,pd,by grind,congrArg TI.pair e,congrArg TI.len e,congrArg TI.Xh e⟩
   grind
  grind
 ·have h1:=congrArg TI.ok e
  rw[h]at h1
  cases h1
theorem rG{w:World}{t:TypeId}{i:TypeInfo}(h:P.info? t=some i):(typeInfo t).run P w=.ok i w:=by
 simp[typeInfo,h]
theorem ka{w:World}{t:TypeId}{i:TypeInfo}(h:P.info? t=some i):(sizeOf t).run P w=.ok i.size w:=by
 simp[sizeOf,rG h]
theorem gK.vC{t:Nat}{ti:TI}{i:TypeInfo}{u:TypeDesc}{z:Value}(h:gK P t ti i u z)(w:World):(isAgg t).run P w=.ok ti.agg w:=by
 simp[isAgg,Sem.run_bind,run_underlying h.CZ,h.agg]
 cases u<;>rfl
theorem gK.gm{t:Nat}{ti:TI}{i:TypeInfo}{u:TypeDesc}{z:Value}(h:gK P t ti i u z)(w:World):(sizeOf t).run P w=.ok ti.size w:=by
 rw[ka h.info,h.size]
theorem gK.tW{t:Nat}{ti:TI}{i:TypeInfo}{u:TypeDesc}{z:Value}(h:gK P t ti i u z)(w:World):(zeroValue t).run P w=.ok z w:=by
 simp[zeroValue,rG h.info,h.zero]
theorem gK.slice{t:Nat}{ti:TI}{i:TypeInfo}{u:TypeDesc}{z:Value}(h:gK P t ti i u z)(hs:ti.isSl=true):P.underlying t=some (.slice ti.elem):=by
 have h1:=h.isSl
 have h2:=h.elem
 rw[hs]at h1
 cases u<;>simp[MZ]at h1<;>simp[Qr]at h2
 rw[h.CZ,h2]
theorem gK.string{t:Nat}{ti:TI}{i:TypeInfo}{u:TypeDesc}{z:Value}(h:gK P t ti i u z)(hs:ti.isStr=true):P.underlying t=some .string:=by
 have h1:=h.isStr
 rw[hs]at h1
 cases u<;>simp[strOf]at h1
 exact h.CZ
theorem gK.field{t:Nat}{ti:TI}{i:TypeInfo}{u:TypeDesc}{z:Value}(h:gK P t ti i u z){f off sz:Nat}(hf:ti.fields[f]?=some (off,sz))(h0:sz≠0):
 ∃fs fd,P.underlying t=some (.struct fs)/\fs[f]?=some fd/\fd.offset=off/\∃j,P.info? fd.type=some j/\j.size=sz:=by
 have h1:=h.fields
 cases u with
 |struct fs=>
  simp[fieldsOf]at h1
  rw[h1,abW]at hf
  cases hx:fs.toList[f]? with
  |none=>grind
  |some fd=>
   simp only[hx,Option.map_some]at hf
   injection hf with hf
   injection hf with e1 e2
   refine⟨fs,fd,h.CZ,by grind,e1,?_⟩
   grind
 |_=>simp[fieldsOf]at h1;rw[h1]at hf;simp at hf
end
section
variable {P:Program} {C:dV->Prop} {T:List TI} {ops:List Oper} {n:Nat} {o:Oper} {nx:Nat} {ρ:Nat->AV} {κ:Nat->aw} {k:l9->Nat->Prop} {gd:Bool}
theorem wD{m:Int}(h:-9223372036854775808<=m/\m<=9223372036854775807):IntKind.i64.wrap m=m:=IntWalk.i64_in m (by omega)
theorem ke{kd:IntKind}{m:Int}{ret:AV->Prop}(h:arith kd m gd ret):∃r,ret (.dv (.int kd r))/\(gd=true->kd.wrap m=r):=by
 unfold arith at h
 split at h
 ·grind [wD]
 grind
theorem iZ{w:World}(op:BinOp)(t:TypeId)(x y:Operand)(a b:Value)(h:¬(a=.nilIface/\b=.nilIface))(h2:∀cs ds,¬(a=.agg cs/\b=.agg ds)):(eqGuard op t x y a b).run P w=.ok () w:=by
 simp_all [eqGuard]
theorem zS{w:World}{t:TypeId}(hu:P.underlying t=some .bool)(p q:Bool):(Op.equal t (.bool p) (.bool q)).run P w=.ok (p==q) w:=by
 have h:∀d,(Op.equalIn (d+1) t (.bool p) (.bool q)).run P w=.ok (p==q) w:=fun d=>by simp[Op.equalIn,run_underlying hu]
 grind [Op.equal,Op.maxDepth]
theorem rH{w:World}{t e:TypeId}(hu:P.underlying t=some (.pointer e))(a:Option Addr):(Op.equal t (.pointer a) (.pointer none)).run P w=.ok a.isNone w:=by
 have h:∀d,(Op.equalIn (d+1) t (.pointer a) (.pointer none)).run P w=.ok a.isNone w:=fun d=>by
  cases a<;>simp[Op.equalIn,run_underlying hu]
 grind [Op.equal,Op.maxDepth]
theorem Ry{w:World}{t:TypeId}(hu:P.underlying t=some .bool)(p q:Bool):(binOp .eql t (.bool p) (.bool q)).run P w=.ok (.bool (p==q)) w:=by
 grind [binOp,Sem.run_bind,zS,Result.andThen_ok,Sem.run_pure]
theorem Rz{w:World}{t:TypeId}(hu:P.underlying t=some .bool)(p q:Bool):(binOp .neq t (.bool p) (.bool q)).run P w=.ok (.bool (!(p==q))) w:=by
 grind [binOp,Sem.run_bind,zS,Result.andThen_ok,Sem.run_pure]
theorem wE{w:World}{t e:TypeId}(hu:P.underlying t=some (.pointer e))(a:Option Addr):(binOp .eql t (.pointer a) (.pointer none)).run P w=.ok (.bool a.isNone) w:=by
 grind [binOp,Sem.run_bind,rH,Result.andThen_ok,Sem.run_pure]
theorem wG{w:World}{t e:TypeId}(hu:P.underlying t=some (.pointer e))(a:Option Addr):(binOp .neq t (.pointer a) (.pointer none)).run P w=.ok (.bool (!a.isNone)) w:=by
 grind [binOp,Sem.run_bind,rH,Result.andThen_ok,Sem.run_pure]
theorem G5(hT:fD P T){t:TypeId}(h1:(nth T t).ok=true)(h2:Nat.beq (nth T t).kind 5=true):∃e,P.underlying t=some (.pointer e):=by
 obtain⟨i,ud,z,hf⟩:=hT.facts h1
 have h3:=hf.kind
 rw[ab9 h2]at h3
 cases ud<;>simp[kindOf]at h3
 exact⟨_,hf.CZ⟩
theorem NH{G:Gh}{x:AV}{u:Value}(h:s0 x=true)(hv:aK G x u):∃A,u=.pointer (some A):=by
 cases hv with
 |ptr=>grind
 |loc=>grind
 |rh=>grind
 |dv hd=>cases hd<;>first|exact⟨_,rfl⟩|simp[s0]at h
 |_=>simp[s0]at h
theorem wH{w:World}(t:TypeId)(kx ky:IntKind)(a b:Int)(hb:0<=b):(binOp .shl t (.int kx a) (.int ky b)).run P w=.ok (.int kx (kx.wrap (a*2^min b.toNat kx.bits))) w:=by
 have:¬b<0:=by omega
 simp[binOp,Op.shift,this]
theorem wI{w:World}(t:TypeId)(kx ky:IntKind)(a b:Int)(hb:0<=b):(binOp .shr t (.int kx a) (.int ky b)).run P w=.ok (.int kx (a/2^min b.toNat kx.bits)) w:=by
 have:¬b<0:=by omega
 have hp:(0:Int)<=2^min b.toNat kx.bits:=Int.pow_nonneg (by grind)
 simp[binOp,Op.shift,this,Int.fdiv_eq_ediv_of_nonneg _ hp]
theorem JX(hT:fD P T){op:BinOp}{x0 y0:AV}{t:TypeId}{ret:AV->Prop}(h:td (nth T t) op x0 y0 gd ret):∃r,ret (.dv r)/\r.aq=true/\∀(G:Gh) (w:World) (a b:Value),gd=true->aK G x0 a->aK G y0 b->
 ∃v,(binOp op t a b).run P w=.ok v w/\bz G.M r v/\¬(a=.nilIface/\b=.nilIface)/\∀cs ds,¬(a=.agg cs/\b=.agg ds):=by
 unfold td at h
 split at h
 ·rename_i kx a ky b
  have acC:∀{G:Gh} {u v:Value},aK G (.dv (.int kx a)) u->aK G (.dv (.int ky b)) v->u=.int kx a/\v=.int ky b:=by
   intro G u v hu hv
   cases hu with|dv hu=>cases hu with|int=>cases hv with|dv hv=>cases hv with|int=>exact⟨rfl,rfl⟩
  have abo:∀{r:DV},ret (.dv r)->r.aq=true->(∀(w:World) (G:Gh),gd=true->∃v,(binOp op t (.int kx a) (.int ky b)).run P w=.ok v w/\bz G.M r v)->∃r,ret (.dv r)/\r.aq=true/\∀(G:Gh) (w:World) (u v:Value),gd=true->aK G (.dv (.int kx a)) u->aK G (.dv (.int ky b)) v->
   ∃x,(binOp op t u v).run P w=.ok x w/\bz G.M r x/\¬(u=.nilIface/\v=.nilIface)/\∀cs ds,¬(u=.agg cs/\v=.agg ds):=by
   intro r hr hc hh
   refine⟨r,hr,hc,fun G w u v hg hu hv=>?_⟩
   obtain⟨rfl,rfl⟩:=acC hu hv
   obtain⟨x,h1,h2⟩:=hh w G hg
   exact⟨x,h1,h2,by simp,by simp⟩
  cases hk:kx==ky with
  |false=>
   rw[hk]at h
   simp only[cond_false,Lq]at h
   split at h
   ·exact abo h.2 rfl fun w G hg=>⟨_,by rw[wH _ _ _ _ _ (h.1 hg)],.int kx _⟩
   ·exact abo h.2 rfl fun w G hg=>⟨_,by rw[wI _ _ _ _ _ (h.1 hg)],.int kx _⟩
   ·exact h.elim
  |true=>
   rw[hk]at h
   have Ga:=by simpa using hk
   subst Ga
   have inv:∀{G:Gh} {u v:Value},aK G (.dv (.int kx a)) u->aK G (.dv (.int kx b)) v->u=.int kx a/\v=.int kx b:=by
    intro G u v hu hv
    cases hu with|dv hu=>cases hu with|int=>cases hv with|dv hv=>cases hv with|int=>exact⟨rfl,rfl⟩
   have fin:∀{r:DV},ret (.dv r)->r.aq=true->(∀(w:World) (G:Gh),gd=true->∃v,(binOp op t (.int kx a) (.int kx b)).run P w=.ok v w/\bz G.M r v)->∃r,ret (.dv r)/\r.aq=true/\∀(G:Gh) (w:World) (u v:Value),gd=true->aK G (.dv (.int kx a)) u->aK G (.dv (.int kx b)) v->
    ∃x,(binOp op t u v).run P w=.ok x w/\bz G.M r x/\¬(u=.nilIface/\v=.nilIface)/\∀cs ds,¬(u=.agg cs/\v=.agg ds):=by
    intro r hr hc hh
    refine⟨r,hr,hc,fun G w u v hg hu hv=>?_⟩
    obtain⟨rfl,rfl⟩:=inv hu hv
    obtain⟨x,h1,h2⟩:=hh w G hg
    exact⟨x,h1,h2,by simp,by simp⟩
   simp only[cond_true]at h
   split at h
   ·obtain⟨r,hr,he⟩:=ke h
    exact fin hr rfl fun w G hg=>⟨_,by simp[binOp,Op.intArith,he hg],.int kx r⟩
   ·obtain⟨r,hr,he⟩:=ke h
    exact fin hr rfl fun w G hg=>⟨_,by simp[binOp,Op.intArith,he hg],.int kx r⟩
   ·obtain⟨r,hr,he⟩:=ke h
    exact fin hr rfl fun w G hg=>⟨_,by simp[binOp,Op.intArith,he hg],.int kx r⟩
   ·obtain⟨r,hr,he⟩:=ke h.2
    exact fin hr rfl fun w G hg=>⟨_,by simp[binOp,Op.intDiv,h.1 hg,he hg],.int kx r⟩
   ·exact fin h.2 rfl fun w G hg=>⟨_,by simp[binOp,Op.intDiv,h.1 hg],.int kx _⟩
   ·exact fin h rfl fun w G hg=>⟨_,by simp[binOp,Op.intCmp],.bool _⟩
   ·exact fin h rfl fun w G hg=>⟨_,by simp[binOp,Op.intCmp],.bool _⟩
   ·exact fin h rfl fun w G hg=>⟨_,by simp[binOp,Op.intCmp],.bool _⟩
   ·exact fin h rfl fun w G hg=>⟨_,by simp[binOp,Op.intCmp],.bool _⟩
   ·exact fin h rfl fun w G hg=>⟨_,by simp[binOp,Op.intCmp],.bool _⟩
   ·exact fin h rfl fun w G hg=>⟨_,by simp[binOp,Op.intCmp],.bool _⟩
   ·exact fin h rfl fun w G hg=>⟨_,by simp[binOp,intBits_and],.int kx _⟩
   ·exact fin h rfl fun w G hg=>⟨_,by simp[binOp,intBits_or],.int kx _⟩
   ·exact fin h rfl fun w G hg=>⟨_,by simp[binOp,intBits_xor],.int kx _⟩
   ·exact fin h.2 rfl fun w G hg=>⟨_,by grind [wH],.int kx _⟩
   ·exact fin h.2 rfl fun w G hg=>⟨_,by grind [wI],.int kx _⟩
   ·grind
 ·rename_i p q
  have fin:∀{r:DV},ret (.dv r)->r.aq=true->(∀(w:World) (G:Gh),∃v,(binOp op t (.bool p) (.bool q)).run P w=.ok v w/\bz G.M r v)->∃r,ret (.dv r)/\r.aq=true/\∀(G:Gh) (w:World) (u v:Value),gd=true->aK G (.dv (.bool p)) u->aK G (.dv (.bool q)) v->
   ∃x,(binOp op t u v).run P w=.ok x w/\bz G.M r x/\¬(u=.nilIface/\v=.nilIface)/\∀cs ds,¬(u=.agg cs/\v=.agg ds):=by
   intro r hr hc hh
   refine⟨r,hr,hc,fun G w u v _ hu hv=>?_⟩
   cases hu with|dv hu=>cases hu with|bool=>cases hv with|dv hv=>cases hv with|bool=>
   simp_all
  cases hk:(nth T t).ok&&Nat.beq (nth T t).kind 1 with
  |false=>grind
  |true=>
   rw[hk]at h
   simp only[adT]at hk
   obtain⟨i,ud,z,hf⟩:=hT.facts hk.1
   have hu:=by
    have h1:=hf.kind
    rw[ab9 hk.2]at h1
    cases ud<;>simp[kindOf]at h1
    exact hf.CZ
   simp only[cond_true]at h
   split at h
   ·exact fin h rfl fun w G=>⟨_,Ry hu p q,.bool _⟩
   ·exact fin h rfl fun w G=>⟨_,Rz hu p q,.bool _⟩
   grind
 ·rename_i s s'
  have fin:∀{r:DV},ret (.dv r)->r.aq=true->(∀(w:World) (G:Gh),gd=true->∃v,(binOp op t (.string s) (.string s')).run P w=.ok v w/\bz G.M r v)->∃r,ret (.dv r)/\r.aq=true/\∀(G:Gh) (w:World) (u v:Value),gd=true->aK G (.dv (.str s)) u->aK G (.dv (.str s')) v->
   ∃x,(binOp op t u v).run P w=.ok x w/\bz G.M r x/\¬(u=.nilIface/\v=.nilIface)/\∀cs ds,¬(u=.agg cs/\v=.agg ds):=by
   intro r hr hc hh
   refine⟨r,hr,hc,fun G w u v hg hu hv=>?_⟩
   cases hu with|dv hu=>cases hu with|str=>cases hv with|dv hv=>cases hv with|str=>
   simp_all
  split at h
  ·exact fin h rfl fun w G _=>⟨_,by rfl,.bool _⟩
  ·exact fin h rfl fun w G _=>⟨_,by rfl,.bool _⟩
  ·refine fin h.2 rfl fun w G hg=>⟨_,?_,.str _⟩
   have hs:=h.1 hg
   have:¬((s.size+s'.size:Nat))>IntKind.i64.max:=by
    simp_all
   simp only[binOp,Op.stringOp,this,if_false]
   rfl
  grind
 ·rename_i kx lo hi ky b
  cases hk:kx==ky with
  |false=>grind
  |true=>
   rw[hk]at h
   have Ga:=by simpa using hk
   subst Ga
   simp only[cond_true]at h
   split at h
   ·rename_i r hr
    refine⟨_,h,rfl,fun G w u v _ hu hv=>?_⟩
    cases hu with|dv hu=>cases hu with|AW _ _ _ a h1 h2=>cases hv with|dv hv=>cases hv with|int=>
    refine⟨.bool r,?_,.bool _,by simp,by simp⟩
    have hs:∀{p q:Bool},AE p q=some r->(p=true/\r=true)\/(p=false/\q=true/\r=false):=by
     grind [AE]
    have ht:∀{p q:Bool} {s:Bool},(bif p||q then some s else none)=some r->r=s/\(p=true\/q=true):=by
     grind
    unfold Dc at hr
    split at hr
    ·rcases hs hr with⟨e1,e2⟩|⟨e1,e3,e2⟩<;>simp at e1<;>(try simp at e3)<;>subst e2<;>simp[binOp,Op.intCmp]<;>omega
    ·rcases hs hr with⟨e1,e2⟩|⟨e1,e3,e2⟩<;>simp at e1<;>(try simp at e3)<;>subst e2<;>simp[binOp,Op.intCmp]<;>omega
    ·rcases hs hr with⟨e1,e2⟩|⟨e1,e3,e2⟩<;>simp at e1<;>(try simp at e3)<;>subst e2<;>simp[binOp,Op.intCmp]<;>omega
    ·rcases hs hr with⟨e1,e2⟩|⟨e1,e3,e2⟩<;>simp at e1<;>(try simp at e3)<;>subst e2<;>simp[binOp,Op.intCmp]<;>omega
    ·obtain⟨e1,e2⟩:=ht hr;subst e1;simp at e2;simp[binOp,Op.intCmp];omega
    ·obtain⟨e1,e2⟩:=ht hr;subst e1;simp at e2;simp[binOp,Op.intCmp];omega
    grind
   ·unfold Qu at h
    split at h
    ·cases hd:decide (lo=hi)with
     |false=>grind
     |true=>
      rw[hd]at h
      have e:=adz hd
      subst e
      refine⟨_,h,rfl,fun G w u v _ hu hv=>?_⟩
      cases hu with|dv hu=>cases hu with|AW _ _ _ a h1 h2=>cases hv with|dv hv=>cases hv with|int=>
      have e:a=lo:=by omega
      subst e
      exact⟨_,by simp[binOp,Op.intArith],.int kx _,by simp,by simp⟩
    grind
 ·rename_i kx a ky lo hi
  cases hk:kx==ky with
  |false=>grind
  |true=>
   rw[hk]at h
   have Ga:=by simpa using hk
   subst Ga
   simp only[cond_true]at h
   split at h
   ·obtain⟨e,h⟩:=h
    subst e
    refine⟨_,h,rfl,fun G w u v _ hu hv=>?_⟩
    cases hu with|dv hu=>cases hu with|int=>cases hv with|dv hv=>cases hv with|AW _ _ _ b h1 h2=>
    have e:b=lo:=by omega
    subst e
    exact⟨_,by simp[binOp,Op.intArith],.int kx _,by simp,by simp⟩
   grind
 ·cases hk:(nth T t).ok&&Nat.beq (nth T t).kind 5 with
  |false=>grind
  |true=>
   rw[hk]at h
   simp only[adT]at hk
   obtain⟨e,hu⟩:=G5 hT hk.1 hk.2
   have fin:∀{r:Bool},ret (.dv (.bool r))->(∀(w:World),(binOp op t (.pointer none) (.pointer none)).run P w=.ok (.bool r) w)->∃r,ret (.dv r)/\r.aq=true/\∀(G:Gh) (w:World) (u v:Value),gd=true->aK G (.dv .eY) u->aK G (.dv .eY) v->
    ∃y,(binOp op t u v).run P w=.ok y w/\bz G.M r y/\¬(u=.nilIface/\v=.nilIface)/\∀cs ds,¬(u=.agg cs/\v=.agg ds):=by
    intro r hr hh
    refine⟨_,hr,rfl,fun G w u v _ hu hv=>?_⟩
    cases hu with|dv hu=>cases hu with|eY=>cases hv with|dv hv=>cases hv with|eY=>
    exact⟨_,hh w,.bool _,by simp,by simp⟩
   simp only[cond_true]at h
   split at h
   ·simp_all [wE]
   ·simp_all [wG]
   grind
 ·cases hk:(nth T t).ok&&Nat.beq (nth T t).kind 5&&s0 x0 with
  |false=>grind
  |true=>
   rw[hk]at h
   simp only[adT]at hk
   obtain⟨e,hu⟩:=G5 hT hk.1.1 hk.1.2
   have fin:∀{r:Bool},ret (.dv (.bool r))->(∀(w:World) (A:Addr),(binOp op t (.pointer (some A)) (.pointer none)).run P w=.ok (.bool r) w)->∃r,ret (.dv r)/\r.aq=true/\∀(G:Gh) (w:World) (u v:Value),gd=true->aK G x0 u->aK G (.dv .eY) v->
    ∃y,(binOp op t u v).run P w=.ok y w/\bz G.M r y/\¬(u=.nilIface/\v=.nilIface)/\∀cs ds,¬(u=.agg cs/\v=.agg ds):=by
    intro r hr hh
    refine⟨_,hr,rfl,fun G w u v _ hu hv=>?_⟩
    cases hv with|dv hv=>cases hv with|eY=>
    obtain⟨A,rfl⟩:=NH hk.2 hu
    exact⟨_,hh w A,.bool _,by simp,by simp⟩
   simp only[cond_true]at h
   split at h
   ·simp_all [wE]
   ·simp_all [wG]
   grind
 ·grind
end
end
section
open Go.RowKit
variable [cj]
section
variable {P:Program} {C:dV->Prop} {T:List TI} {ops:List Oper} {n:Nat} {o:Oper} {nx:Nat} {ρ:Nat->AV} {κ:Nat->aw} {k:l9->Nat->Prop} {gd:Bool}
theorem S2{x:Operand}(hg:cb ρ ops o.guard=some gd)(ho:o.op=.move x)(h:ex ρ κ gd x fun v=>bj n o gd nx k v []):Good P C ops n o nx ρ κ k:=by
 by_cases hm:kj ρ κ o=NG ρ o
 ·obtain⟨av,hk,bU⟩:=aL h
  exact bE (fun c=>by grind) hg hk fun ρ' κ' ay g a w G ak aY=>⟨_,by simp[execOp,ho],(bU ρ' κ' (ay.opR (by grind [Op.operands]) hm) g n a w G ak aY)⟩
 ·unfold kj at hm
  split at hm
  ·rename_i t ht
   rw[ho]at ht
   injection ht with ht
   subst ht
   cases hb:mvT κ (ρ t)with
   |false=>grind
   |true=>
    generalize hρ:ρ t=v at hb
    cases v with
    |own i ver ep p=>
     simp[mvT]at hb
     cases hk:κ i with
     |tree V E d=>
      unfold ex at h
      simp[ev,hρ,res,hk]at h
      cases hc:Nat.beq ver V&&(emp p||Nat.beq ep E)with
      |true=>
       rw[hc]at h
       simp[cond_true]at h
       rw[force_eq]at h
       refine bE (fun c=>by grind) hg h fun ρ' κ' ay g a w G ak aY=>?_
       have h1:=ak.env t
       rw[ay.bX t (by unfold Oper.looksAt;rw[ho];exact adr.2 (.inl (by simp[Op.operands]))),hρ]at h1
       exact⟨_,by simp only[execOp,ho];rfl,h1⟩
      |false=>
       rw[hc]at h
       simp[cond_false]at h
       rw[force_eq]at h
       exact bE (fun c=>by grind) hg h fun ρ' κ' ay g a w G ak aY=>⟨a.eval (.tmp t),by simp[execOp,ho],.any _⟩
     |_=>rw[hk]at hb;cases hb
    |_=>cases hb
  grind
theorem Mf{x:Operand}{av:AV}(hg:cb ρ ops o.guard=some gd)(ho:o.op=.assign x)(hk:bj n o gd nx k av [])(bU:bN ρ κ gd x av):Good P C ops n o nx ρ κ k:=by
 exact bE (fun c=>by grind) hg hk fun ρ' κ' ay g a w G ak aY=>⟨_,by simp[execOp,ho],(bU ρ' κ' (ay.op (by grind [Op.operands])) g n a w G ak aY)⟩
theorem pB{x:Operand}{av:AV}(hg:cb ρ ops o.guard=some gd)(ho:o.op=.nilCheck x)(hk:bj n o gd nx k av [])(bU:bN ρ κ gd x av)
 (hp:∀(G:Gh) (v:Value),aK G av v->∃a,v=.pointer (some a)):Good P C ops n o nx ρ κ k:=by
 refine bE (fun c=>by grind) hg hk fun ρ' κ' ay g a w G ak aY=>?_
 have hv:=bU ρ' κ' (ay.op (by grind [Op.operands])) g n a w G ak aY
 obtain⟨p,hp⟩:=hp _ _ hv
 simp_all [execOp]
theorem OA(hT:fD P T){op:BinOp}{t ty:TypeId}{x y:Operand}(hg:cb ρ ops o.guard=some gd)(ho:o.op=.binOp op t x y ty)
 {va vb:AV} (Wv:bN ρ κ gd x va) (Ww:bN ρ κ gd y vb) (h:td (nth T t) op va vb gd fun v=>bj n o gd nx k v []):Good P C ops n o nx ρ κ k:=by
 obtain⟨r,hk,hc,hr⟩:=JX hT h
 refine bE (fun c=>by grind) hg hk fun ρ' κ' ay g a w G ak aY=>?_
 obtain⟨v,h3,h4,h5,h6⟩:=hr G w _ _ aY (Wv ρ' κ' (ay.op (by grind [Op.operands])) g n a w G ak aY) (Ww ρ' κ' (ay.op (by grind [Op.operands])) g n a w G ak aY)
 refine⟨v,?_,.dv h4⟩
 grind [execOp,Sem.run_bind,iZ,Result.andThen_ok,Sem.run_pure]
theorem Wy{t:TypeId}{x:Operand}{b:Bool}(hg:cb ρ ops o.guard=some gd)(ho:o.op=.unOp .not t x)(hk:bj n o gd nx k (.dv (.bool (!b))) [])(bU:bN ρ κ gd x (.dv (.bool b))):Good P C ops n o nx ρ κ k:=by
 refine bE (fun c=>by grind) hg hk fun ρ' κ' ay g a w G ak aY=>?_
 have hv:=bU ρ' κ' (ay.op (by grind [Op.operands])) g n a w G ak aY
 generalize hx:a.eval x=v at hv
 cases hv with|dv hv=>cases hv with|bool=>
 exact⟨_,by simp[execOp,ho,hx,Op.unary],.dv (.bool _)⟩
theorem Wz{t:TypeId}{x:Operand}{kd:IntKind}{m:Int}(hg:cb ρ ops o.guard=some gd)(ho:o.op=.unOp .neg t x)(hk:arith kd (0-m) gd fun v=>bj n o gd nx k v [])(bU:bN ρ κ gd x (.dv (.int kd m))):Good P C ops n o nx ρ κ k:=by
 obtain⟨r,hk,he⟩:=ke hk
 refine bE (fun c=>by grind) hg hk fun ρ' κ' ay g a w G ak aY=>?_
 have hv:=bU ρ' κ' (ay.op (by grind [Op.operands])) g n a w G ak aY
 generalize hx:a.eval x=v at hv
 cases hv with|dv hv=>cases hv with|int=>
 refine⟨.int kd r,?_,.dv (.int kd r)⟩
 grind [execOp,Op.unary,Op.intArith,Sem.run_bind,Sem.run_pure,Result.andThen_ok]
theorem Ib{x:Operand}{i:Nat}{l:List AV}{av:AV}(hg:cb ρ ops o.guard=some gd)(ho:o.op=.extract x i)(hk:bj n o gd nx k av [])(hl:l[i]?=some av)(bU:bN ρ κ gd x (.gr l)):Good P C ops n o nx ρ κ k:=by
 refine bE (fun c=>by grind) hg hk fun ρ' κ' ay g a w G ak aY=>?_
 have hv:=bU ρ' κ' (ay.op (by grind [Op.operands])) g n a w G ak aY
 generalize hx:a.eval x=v at hv
 cases hv with
 |gr _ vs hlen hr=>
  have hi:=(W8.1 hl).1
  have hvi:vs[i]?=some (vs[i]'(by omega)):=IF (by omega)
  refine⟨_,?_,hr i av _ hl hvi⟩
  simp[execOp,ho,hx,Instr.extract,hvi]
theorem nY{c x y:Operand}{b p q:Bool}(hg:cb ρ ops o.guard=some gd)(ho:o.op=.pick c x y)(hk:bj n o gd nx k (.dv (.bool (bif b then p else q))) [])
 (hc:bN ρ κ gd c (.dv (.bool b))) (hx:bN ρ κ (gd&&b) x (.dv (.bool p))) (hy:bN ρ κ (gd&& !b) y (.dv (.bool q))):Good P C ops n o nx ρ κ k:=by
 refine bE (fun c=>by grind) hg hk fun ρ' κ' ay g a w G ak aY=>?_
 have hv:=hc ρ' κ' (ay.op (by grind [Op.operands])) g n a w G ak aY
 generalize hxc:a.eval c=v at hv
 cases hv with|dv hv=>cases hv with|bool=>
 subst aY
 cases b with
 |true=>
  have hv:=hx ρ' κ' (ay.op (by grind [Op.operands])) g n a w G ak rfl
  simp_all [execOp,asBool]
 |false=>
  have hv:=hy ρ' κ' (ay.op (by grind [Op.operands])) g n a w G ak rfl
  simp_all [execOp,asBool]
theorem nZ(hT:fD P T){t f off sz:Nat}{x:Operand}{av av':AV}(hg:cb ρ ops o.guard=some gd)(ho:o.op=.fieldAddr t x f)(cC:(nth T t).ok=true)(hf:(nth T t).fields[f]?=some (off,sz+1))
 (hk:bj n o gd nx k av' []) (bU:bN ρ κ gd x av)
 (hp:∀(G:Gh) (v:Value),aK G av v->∃a,v=.pointer (some a)/\aK G av' (.pointer (some (a.add off)))):Good P C ops n o nx ρ κ k:=by
 obtain⟨i,u,z,tf⟩:=hT.facts cC
 obtain⟨fs,fd,hu,hfd,Yv,j,hj,hjs⟩:=tf.field hf (by omega)
 refine bE (fun c=>by grind) hg hk fun ρ' κ' ay g a w G ak aY=>?_
 obtain⟨p,hp,Yw⟩:=hp _ _ (bU ρ' κ' (ay.op (by grind [Op.operands])) g n a w G ak aY)
 simp_all [execOp,Instr.fieldAt,run_underlying,Instr.sureAddr,fieldPlace,ka]
theorem eh{agg:Bool}{l:List AV}{off sz:Nat}{ret:AV->Prop}(h:cw agg l off sz ret):
 ∃v,ret v/\((agg=true/\off+sz<=l.length/\v=.agg ((l.drop off).take sz))\/(agg=false/\l[off]?=some v)):=by
 unfold cw at h
 cases agg with
 |true=>
  simp_all
 |false=>
  simp[cond_false]at h
  split at h
  ·rw[force_eq]at h;grind
  grind
theorem lE(hT:fD P T){t off:Nat}{l:List AV}{av:AV}{w:World}{G:Gh}(cC:(nth T t).ok=true)(A:Addr)(vs:Nat->Value)
 (hc:∀j,j<l.length->w.cell? (A.add j)=some (vs j)) (hr:∀(j:Nat) (d:AV),l[j]?=some d->aK G d (vs j))
 (hp:((nth T t).agg=true/\off+(nth T t).size<=l.length/\av=.agg ((l.drop off).take (nth T t).size))\/((nth T t).agg=false/\l[off]?=some av)):
 ∃v,(Instr.loadAt t (.pointer (some (A.add off)))).run P w=.ok v w/\aK G av v:=by
 obtain⟨i,u,z,tf⟩:=hT.facts cC
 rcases hp with⟨ha,hle,rfl⟩|⟨ha,hl⟩
 ·refine⟨.agg ((List.range (nth T t).size).map fun j=>vs (off+j)).toArray,?_,?_⟩
  ·have:=run_loadCells (P:=P) w (A.add off) (nth T t).size (fun j=>vs (off+j)) (fun j hj=>by grind [cM])
   simp[Instr.loadAt,Instr.sureAddr,Sem.run_bind,Sem.run_pure,Result.andThen_ok,loadVar,tf.vC w,ha,if_true,tf.gm w,this]
  ·refine .agg _ _ (by grind) fun j d v hd hv=>?_
   grind
 ·refine⟨vs off,?_,hr _ _ hl⟩
  simp[Instr.loadAt,Instr.sureAddr,Sem.run_bind,Sem.run_pure,Result.andThen_ok,loadVar,tf.vC w,ha,Bool.false_eq_true,if_false,run_load,hc off ((W8.1 hl).1)]
theorem EZ(hT:fD P T){t i off:Nat}{x:Operand}{l:List AV}(hg:cb ρ ops o.guard=some gd)(ho:o.op=.load t x)(cC:(nth T t).ok=true)(hb:κ i=.cells l)
 (hk:cw (nth T t).agg l off (nth T t).size fun v=>bj n o gd nx k v [i]) (bU:bN ρ κ gd x (.ptr i off)):Good P C ops n o nx ρ κ k:=by
 obtain⟨av,hk,hp⟩:=eh hk
 refine bE (fun c=>by grind) hg hk fun ρ' κ' ay g a w G ak aY=>?_
 have hv:=bU ρ' κ' (ay.op (by grind [Op.operands])) g n a w G ak aY
 have uK:=ak.fit.box i
 rw[((ay.reads i (by simp)).trans hb)]at uK
 obtain⟨b,c,tt,hbe,hw,bP,l7,hr⟩:=uK
 generalize hx:a.eval x=v at hv
 cases hv with
 |ptr _ _ b' CW=>
 rw[hbe]at CW;injection CW with CW;subst CW
 have hA:(⟨b,off,none⟩)=(⟨b,0,none⟩:Addr).add off:=by rw[fa];simp
 obtain⟨v,h1,h2⟩:=lE (w:=w) hT cC ⟨b,0,none⟩ (fun j=>c.getD j undef) (fun j hj=>by
  rw[fa]
  simp_all [World.cell?]) (fun j d hd=>by
  exact hr j d _ hd (by simp[bP,((W8.1 hd).1)])) hp
 grind [execOp,Sem.run_bind,Result.andThen_ok,Sem.run_pure]
theorem H9(hT:fD P T){t off:Nat}{x:Operand}{y:DV}(hg:cb ρ ops o.guard=some gd)(ho:o.op=.load t x)(cC:(nth T t).ok=true)
 (hk:cw (nth T t).agg (ed y.cells) off (nth T t).size fun v=>bj n o gd nx k v []) (bU:bN ρ κ gd x (.dv (.at y off))):Good P C ops n o nx ρ κ k:=by
 obtain⟨av,hk,hp⟩:=eh hk
 refine bE (fun c=>by grind) hg hk fun ρ' κ' ay g a w G ak aY=>?_
 have hv:=bU ρ' κ' (ay.op (by grind [Op.operands])) g n a w G ak aY
 generalize hx:a.eval x=v at hv
 cases hv with|dv hv=>cases hv with
 |_=>
  rename_i A cell l7 hc hr
  obtain⟨v,h1,h2⟩:=lE hT cC A cell (fun j hj=>ak.fit.sub.cell (hc j (by grind [oG]))) (fun j d hd=>by
   obtain⟨d',ma,rfl⟩:=Ru hd
   exact .dv (hr j d' ma)) hp
  grind [execOp,Sem.run_bind,Result.andThen_ok,Sem.run_pure]
theorem bY{gd:Bool}:∀{p:List PS} {d:DV} {k:DV->Prop},kh gd d p k->∃nd,k nd/\(gd=true->get d p=some nd)
 |[],d,k,h=>⟨d,h,fun _=>rfl⟩
 |s::p,d,k,h=>by
  cases d<;>cases s<;>simp only[kh]at h<;>(try exact h.elim)
  ·obtain⟨x,hx,h⟩:=h
   split at h
   ·obtain⟨nd,h1,h2⟩:=bY h
    grind [get,step]
   grind
  ·rename_i x i j
   cases hb:Nat.beq i 0 with
   |false=>grind
   |true=>
    rw[hb]at h
    simp[cond_true]at h
    split at h
    ·obtain⟨nd,h1,h2⟩:=bY h
     exact⟨nd,h1,fun hg=>by simp_all [get,step,cond_true]⟩
    grind
  ·obtain⟨x,hx,h⟩:=h
   split at h
   ·obtain⟨nd,h1,h2⟩:=bY h
    grind [get,step]
   grind
theorem gn:∀{p:List PS} {d nd:DV} {k:DV->Prop},wW d p nd k->k (eK d p nd)/\∃c,get d p=some c
 |[],d,nd,k,h=>⟨h,d,rfl⟩
 |s::p,d,nd,k,h=>by
  cases d<;>cases s<;>simp only[wW]at h<;>(try exact h.elim)
  ·obtain⟨x,hx,h⟩:=h
   split at h
   ·obtain⟨h1,c',h2⟩:=gn h
    grind [eK,step,put,get]
   grind
  ·rename_i x i j
   cases hb:Nat.beq i 0 with
   |false=>grind
   |true=>
    rw[hb]at h
    simp[cond_true]at h
    split at h
    ·obtain⟨h1,c',h2⟩:=gn h
     simp_all [eK,step,put,get]
    grind
  ·obtain⟨x,hx,h⟩:=h
   split at h
   ·obtain⟨h1,c',h2⟩:=gn h
    grind [eK,step,put,get]
   grind
theorem dE{ver bJ ep cn:Nat}{p:List PS}(h:(Nat.beq ver bJ&&(emp p||Nat.beq ep cn))=true):ver=bJ/\(p=[]\/ep=cn):=by
 simp[adT,Bool.or_eq_true]at h
 grind [Nat.eq_of_beq_eq_true,emp]
theorem cZ{H:Nat->Nat->Nat->List PS->Option Value}{i ver ep cn:Nat}{p:List PS}(h:p=[]\/ep=cn):aO H i ver ep p=aO H i ver cn p:=by
 rcases h with rfl|rfl<;>rfl
theorem Fit.node{κ:Nat->aw}{w:World}{G:Gh}(ak:Fit G w κ){i ver ep:Nat}{d nd:DV}{p:List PS}(hk:κ i=.tree ver ep d)(hp:get d p=some nd)(ho:nd.ar=true):
 ∃v,aO G.H i ver ep p=some v/\v.oneCell'=true/\cI G.M w v (fun s=>aO G.H i ver ep (p++[s])) nd:=by
 have hb:=ak.box i
 rw[hk]at hb
 exact hb.1.2 p nd hp ho
theorem zT{G:Gh}{i ver ep:Nat}{p:List PS}{s:PS}{d:DV}{u:Value}(hc:d.aq=true)(h:dG G.M (aO G.H i ver ep (p++[s])) d u)(hu:d.ar=true->u.oneCell'=true):aK G (wg i ver ep p s d) u:=by
 rcases h with⟨h1,h2⟩|⟨h1,h2⟩
 ·simp[wg,h1,cond_true];exact .own _ _ _ _ _ h2 (hu h1)
 ·simp[wg,h1,cond_false];exact .dv h2
theorem zU{i ver ep:Nat}{p:List PS}{idx:Nat}:∀{l:List DV} {s j:Nat} {v:AV},(lH i ver ep p idx s l)[j]?=some v->∃d,l[j]?=some d/\v=wg i ver ep p (.el idx (s+j)) d
 |[],s,j,v,h=>by simp[lH]at h
 |d::l,s,0,v,h=>by simp[lH]at h;grind
 |d::l,s,j+1,v,h=>by
  simp[lH,List.getElem?_cons_succ]at h
  obtain⟨d',h1,h2⟩:=zU h
  grind
theorem oH{i ver ep:Nat}{p:List PS}{idx:Nat}:∀{l:List DV} {s:Nat},(lH i ver ep p idx s l).length=l.length
 |[],s=>rfl
 |d::l,s=>by simp[lH,oH]
theorem zV{i ver ep:Nat}{p:List PS}{kk:DV}:∀{l:List DV} {s j:Nat} {v:AV},(lI i ver ep p kk s l)[j]?=some v->∃d,l[j]?=some d/\v=wg i ver ep p (.key kk (s+j)) d
 |[],s,j,v,h=>by simp[lI]at h
 |d::l,s,0,v,h=>by simp[lI]at h;grind
 |d::l,s,j+1,v,h=>by
  simp[lI,List.getElem?_cons_succ]at h
  obtain⟨d',h1,h2⟩:=zV h
  grind
theorem oI{i ver ep:Nat}{p:List PS}{kk:DV}:∀{l:List DV} {s:Nat},(lI i ver ep p kk s l).length=l.length
 |[],s=>rfl
 |d::l,s=>by simp[lI,oI]
theorem Fit.cells{κ:Nat->aw}{w:World}{G:Gh}(ak:Fit G w κ){i ver ep:Nat}{d nd:DV}{p:List PS}(hk:κ i=.tree ver ep d)(hp:get d p=some nd){sz idx:Nat}{K:List AV->Prop}{A:Addr}
 (hA:aO G.H i ver ep p=some (.pointer (some A))\/∃m c,aO G.H i ver ep p=some (.slice (some A) m c)) {l:List AV} (hl:(∃l0 x,nd=.aD sz l0/\l0[idx]?=some x/\l=lH i ver ep p idx 0 x.cells)\/(∃x,nd=.gF x/\idx=0/\l=lH i ver ep p 0 0 x.cells)):
 ∃vs:Nat->Value,(∀j,j<l.length->w.cell? ((A.add (idx*sz)).add j)=some (vs j))/\∀(j:Nat) (d:AV),l[j]?=some d->aK G d (vs j):=by
 have iz:∀s c u,step nd s=some c->c.ar=true->aO G.H i ver ep (p++[s])=some u->u.oneCell'=true:=by
  intro s c u hs hc hu
  obtain⟨v,h1,h2,_⟩:=ak.node hk (p:=p++[s]) (by grind [get_append,get]) hc
  grind
 rcases hl with⟨l0,x,rfl,hx,rfl⟩|⟨x,rfl,rfl,rfl⟩
 ·obtain⟨v,h1,h2,bq⟩:=ak.node hk hp rfl
  rcases bq with⟨rfl,_⟩|⟨gb,ob,cap,c,t,rfl,eJ,hw,bP,sL⟩
  ·grind
  ·have hAe:A=⟨gb,ob,none⟩:=by
    grind
   subst hAe
   obtain⟨a1,a2⟩:=sL idx x hx
   refine⟨fun j=>c.getD (ob+idx*sz+j) undef,fun j hj=>?_,fun j dd hd=>?_⟩
   ·rw[oH]at hj
    obtain⟨_,u,b1,_⟩:=a2 j _ (IF hj)
    rw[cM,fa]
    simp only[World.cell?,hw]
    rw[show ob+(idx*sz+j)=ob+idx*sz+j by omega,adt,b1]
    rfl
   ·obtain⟨d0,e1,rfl⟩:=zU hd
    obtain⟨b0,u,b1,b2⟩:=a2 j d0 e1
    show aK G _ (c.getD (ob+idx*sz+j) undef)
    rw[adt,b1,Nat.zero_add]
    refine zT b0 b2 fun ho=>?_
    rcases b2 with⟨_,b2⟩|⟨b2,_⟩
    ·grind [step]
    grind
 ·obtain⟨v,h1,h2,bq⟩:=ak.node hk hp rfl
  obtain⟨gb,c,t,rfl,hw,bP,sL⟩:=bq
  have hAe:A=⟨gb,0,none⟩:=by
   grind
  subst hAe
  refine⟨fun j=>c.getD j undef,fun j hj=>?_,fun j dd hd=>?_⟩
  ·simp_all [oH,cM,fa,World.cell?,adt]
  ·obtain⟨d0,e1,rfl⟩:=zU hd
   obtain⟨b0,u,b1,b2⟩:=sL j d0 e1
   show aK G _ (c.getD j undef)
   rw[adt,b1,Nat.zero_add]
   refine zT b0 b2 fun ho=>?_
   rcases b2 with⟨_,b2⟩|⟨b2,_⟩
   ·exact iz _ d0 u (by assumption) ho b2
   grind
theorem E0(hT:fD P T){t i ver ep cn sz idx off:Nat}{p:List PS}{x:Operand}{d:DV}(hg:cb ρ ops o.guard=some gd)(ho:o.op=.load t x)(cC:(nth T t).ok=true)
 (hb:κ i=.tree ver cn d) (fo:p=[]\/ep=cn)
 (hk:kh gd d p fun nd=>kQ i ver cn p gd sz idx nd fun l=>cw (nth T t).agg l off (nth T t).size fun v=>bj n o gd nx k v [i]) (bU:bN ρ κ gd x (.loc i ver ep p sz idx off)):Good P C ops n o nx ρ κ k:=by
 obtain⟨nd,hk,dW⟩:=bY hk
 have OJ:∃l,(cw (nth T t).agg l off (nth T t).size fun v=>bj n o gd nx k v [i])/\(gd=true->(∃l0 x,nd=.aD sz l0/\l0[idx]?=some x/\l=lH i ver cn p idx 0 x.cells)\/(∃x,nd=.gF x/\idx=0/\l=lH i ver cn p 0 0 x.cells)):=by
  unfold kQ at hk
  split at hk
  ·rename_i pz l0
   cases hs:Nat.beq sz pz with
   |false=>grind
   |true=>
    rw[hs]at hk
    have:=ab9 hs
    grind
  ·rename_i x
   cases hs:Nat.beq idx 0 with
   |false=>grind
   |true=>
    rw[hs]at hk
    exact⟨_,hk,fun _=>.inr ⟨x,rfl,ab9 hs,rfl⟩⟩
  grind
 obtain⟨l,hk,hl⟩:=OJ
 obtain⟨av,hk,hp⟩:=eh hk
 refine bE (fun c=>by grind) hg hk fun ρ' κ' ay g a w G ak aY=>?_
 have hv:=bU ρ' κ' (ay.op (by grind [Op.operands])) g n a w G ak aY
 have key:∀A,a.eval x=.pointer (some (A.add (idx*sz+off)))->(aO G.H i ver ep p=some (.pointer (some A))\/∃m c,aO G.H i ver ep p=some (.slice (some A) m c))->∃v,(execOp a.eval o).run P w=.ok (.value v) w/\aK G av v:=by
  intro A hx hA
  rw[cZ fo]at hA
  obtain⟨vs,h1,h2⟩:=ak.fit.cells (K:=fun _=>True) ((ay.reads i (by simp)).trans hb) (dW aY) hA (hl aY)
  obtain⟨v,h3,h4⟩:=lE hT cC (A.add (idx*sz)) vs h1 h2 hp
  grind [cM,execOp,Sem.run_bind,Result.andThen_ok,Sem.run_pure]
 generalize hx:a.eval x=v at hv
 cases hv with
 |loc _ _ _ _ _ _ _ A m c h=>exact key A hx (.inr ⟨m,c,h⟩)
 |rh _ _ _ _ _ _ _ A h=>grind
end
end
end Go.TM
