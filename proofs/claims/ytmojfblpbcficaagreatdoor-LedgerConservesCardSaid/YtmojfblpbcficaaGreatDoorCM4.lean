import Derived.Test.YtmojfblpbcficaaGreatDoorCM3
import Derived.OrdersIn
import Derived.TacticsIn
import Derived.OwnWalkIn
import Derived.RangeFuncLeaves
set_option linter.all false
namespace Go.TM
set_option maxHeartbeats 1000000
section
open Go.RowKit
variable [cn]
def aB{γ:Type _}(f:Nat->γ):List (Nat×γ)->Nat->γ
 |[]=>f
 |(i,x)::r=>iW (aB f r) i x
theorem beq_false{i t:Nat}(h:t≠i):Nat.beq i t=false:=by
 grind [Nat.beq,absurd,Nat.eq_of_beq_eq_true]
theorem kH:∀(l:List (Nat×AV)) (env:Env),look (Hz l env)=aB (look env) l
 |[],_=>rfl
 |(i,x)::r,env=>by
  funext t
  simp only[Hz,look,aB,iW,kH r env]
  by_cases h:t=i
  ·subst h;simp
  simp_all [beq_false]
theorem fN:∀(l:List (Nat×au)) (K:ae),aa (xu l K)=aB (aa K) l
 |[],_=>rfl
 |(i,x)::r,K=>by
  funext t
  simp only[xu,aa,aB,iW,fN r K]
  by_cases h:t=i
  ·subst h;simp
  simp_all [beq_false]
def U8:AV->List Nat
 |.own i _ _ _=>[i]
 |.loc i _ _ _ _ _ _=>[i]
 |.pre i _ _ _ _ _ _=>[i]
 |.opt _ v=>U8 v
 |.ct i _=>[i]
 |_=>[]
def Xb(ρ:Nat->AV):Operand->List Nat
 |.tmp t=>U8 (ρ t)
 |_=>[]
def ME(ρ:Nat->AV)(o:Oper):List Nat:=o.op.operands.toList.flatMap fun| .tmp t=>U8 (ρ t)|_=>[]
def abv:au->Bool
 |.tree _ _ _=>true
 |_=>false
def mvT(κ:Nat->au):AV->Bool
 |.own i _ _ _=>abv (κ i)
 |_=>false
def j4(ρ:Nat->AV)(κ:Nat->au)(o:Oper):List Nat:=match o.op with
 |.move (.tmp t)=>bif mvT κ (ρ t)then[]else ME ρ o
 |_=>ME ρ o
theorem QB{M:Mem}{v:Value}{d:DV}(h:Ps v=some d):bq M d v/\d.aj=true/\d.ar=false:=by
 unfold Ps at h
 split at h<;>first|(injection h with h;subst h;exact⟨by constructor,rfl,rfl⟩)|grind
theorem ec{M:Mem}:∀{l:List Value} {ds:List DV},pH l=some ds->fG M ds l/\∀d,d∈ds->d.aj=true/\d.ar=false
 |[],ds,h=>by simp[pH]at h;subst h;exact⟨.nil M,by simp⟩
 |v::r,ds,h=>by
  simp[pH]at h
  split at h
  ·rename_i d l h1 h2
   injection h with h;subst h
   obtain⟨a,b⟩:=QB h1
   obtain⟨c,e⟩:=ec h2
   exact⟨.cons a c,by grind⟩
  grind
theorem rV(l:List DV):eV l=l.map .dv:=by
 induction l with
 |nil=>rfl
 |cons d r ih=>simp[eV,ih]
theorem oc(l:List DV):(eV l).length=l.length:=by simp[rV]
theorem QC{l:List DV}{j:Nat}{v:AV}(h:(eV l)[j]?=some v):∃d,l[j]?=some d/\v=.dv d:=by
 rw[rV,acj]at h
 grind
theorem jg{G:Gh}{l:List DV}{vs:List Value}(h:fG G.M l vs):cd G (eV l) vs:=by
 refine⟨by rw[oc];exact h.1,fun j d v hd hv=>?_⟩
 obtain⟨d',h1,rfl⟩:=QC hd
 exact .dv (h.2 j d' v h1 hv)
theorem TO(G:Gh)(v:Value):aG G (Pv v) v:=by
 unfold Pv
 split<;>first
  |exact .dv (by constructor)
  |exact .any _
  |skip
 rename_i cs
 split
 ·rename_i l hl
  obtain⟨h1,_⟩:=ec hl
  have h2:=jg (G:=G) h1
  have:=aG.agg _ cs.toList h2.1 h2.2
  simp_all
 ·exact .any _
section
variable {g:dW} {n:Nat} {ρ:Nat->AV} {κ:Nat->au} {a:Act} {w:World} {G:Gh}
theorem xQ(h:Fit G w κ){v:AV}{x:Value}(hv:aG G v x):aG G (res κ v) x:=by
 cases v with
 |own i ver ep p=>
  simp[res]
  split
  ·rename_i v' e' d hk
   cases hb:Nat.beq ver v'&&(emp p||Nat.beq ep e')with
   |true=>grind
   |false=>exact .any _
  ·rename_i v' d hk
   cases hb:Nat.beq ver v'&&emp p with
   |false=>exact .any _
   |true=>
    simp only[acU]at hb
    have QD:=acm hb.1
    subst QD
    have hx:=h.box i
    rw[hk]at hx
    obtain⟨u,h1,h2,h3⟩:=hx
    cases p with
    |cons=>simp[emp]at hb
    |nil=>cases hv with
     |own _ _ _ _ _ he hc=>simp[aJ]at he;rw[h1]at he;injection he with he;subst he;exact .dv h3
  ·exact .any _
 |loc i ver ep p sz idx off=>
  simp[res]
  cases hb:cur _ ver ep p with
  |true=>grind
  |false=>exact .any _
 |pre i ver ep p sz idx off=>
  simp[res]
  cases hb:cur _ ver ep p with
  |true=>grind
  |false=>exact .any _
 |ct i ver=>
  simp[res]
  split
  ·rename_i v' e' d hk
   cases hb:Nat.beq ver v' with
   |true=>grind
   |false=>exact .any _
  ·rename_i v' d hk
   cases hb:Nat.beq ver v' with
   |false=>exact .any _
   |true=>
    have QD:=acm hb
    subst QD
    have hx:=h.box i
    rw[hk]at hx
    obtain⟨u,h1,h2,h3⟩:=hx
    cases hv with
    |ct _ _ a n he=>rw[h1]at he;injection he with he;subst he;exact .dv h3
  ·exact .any _
 |_=>exact hv
theorem Ay{v:AV}{x:Value}(hv:aG G v x):aG G (dn v) x:=by
 cases v with
 |ct i ver=>cases hv with|ct _ _ a n he=>exact .own i ver 0 [] _ he rfl
 |_=>exact hv
theorem BG{κ κ':Nat->au}{v:AV}(h:∀i,i∈U8 v->κ' i=κ i):res κ' v=res κ v:=by
 cases v with
 |own i ver ep p=>grind [res,U8]
 |loc i ver ep p sz idx off=>grind [res,U8]
 |pre i ver ep p sz idx off=>grind [res,U8]
 |ct i ver=>grind [res,U8]
 |_=>rfl
theorem TP{κ:Nat->au}{u:AV}{g:Bool}{v:AV}(h:res κ u=.opt g v):u=.opt g v:=by
 cases u with
 |own i ver ep p=>
  grind [res,Nat.beq,emp]
 |loc i ver ep p sz idx off=>grind [res,cur]
 |pre i ver ep p sz idx off=>grind [res,cur]
 |ct i ver=>
  grind [res,Nat.beq]
 |opt g' v'=>exact h
 |_=>cases h
def I3(ρ ρ':Nat->AV)(κ κ':Nat->au)(x:Operand):Prop:=(∀t,x=.tmp t->ρ' t=ρ t)/\∀i,i∈Xb ρ x->κ' i=κ i
def bJ(ρ:Nat->AV)(κ:Nat->au)(gd:Bool)(x:Operand)(av:AV):Prop:=
 ∀ρ' κ',I3 ρ ρ' κ κ' x->∀(g:dW) (n:Nat) (a:Act) (w:World) (G:Gh),cx g n ρ' κ' a w G->gd=true->aG G av (a.eval x)
theorem bJ.dn{gd:Bool}{x:Operand}{av:AV}(h:bJ ρ κ gd x av):bJ ρ κ gd x (dn av):=fun ρ' κ' ax g n a w G ak aV=>Ay (h ρ' κ' ax g n a w G ak aV)
theorem Az{x:Operand}:∀ρ' κ',I3 ρ ρ' κ κ' x->∀(g:dW) (n:Nat) (a:Act) (w:World) (G:Gh),cx g n ρ' κ' a w G->aG G (ev ρ κ x) (a.eval x):=by
 intro ρ' κ' ax g n a w G ak
 cases x with
 |tmp t=>
  have h1:=xQ ak.fit (ak.env t)
  rw[ax.1 t rfl]at h1
  simp[ev]
  rwa[<-BG (fun i hi=>ax.2 i hi)]
 |const v=>exact TO G v
 |func f=>exact .fn f [] [] rfl (by simp)
 |global i=>
  simp[ev]
  split
  ·rename_i x hx
   exact .dv (cn.ok i x hx G.M (ak.oU.mono ak.mem))
  ·exact .any _
theorem QE{v:Value}{g:Bool}{u:AV}(h:Pv v=.opt g u):False:=by
 unfold Pv at h
 grind
theorem Eh{x:Operand}{g':Bool}{v:AV}(he:ev ρ κ x=.opt g' v){gd:Bool}(hg:gd=true->g'=true):bJ ρ κ gd x (res κ v):=by
 intro ρ' κ' ax g n a w G ak aV
 have h1:=Az ρ' κ' ax g n a w G ak
 rw[he]at h1
 have sf:=hg aV
 subst sf
 have h4:aG G v (a.eval x):=by generalize a.eval x=y at h1;cases h1 with|opt _ _ _ h3 hu=>grind
 have h6:=xQ ak.fit h4
 have vq:res κ' v=res κ v:=by
  refine BG fun i hi=>ax.2 i ?_
  cases x with
  |tmp t=>
   simp[Xb]
   simp[ev]at he
   rwa[TP he]
  |const v=>exact(QE he).elim
  |func f=>cases he
  |global i=>grind [ev]
 grind
theorem aH{gd:Bool}{x:Operand}{k:AV->Prop}(h:ex ρ κ gd x k):∃av,k av/\bJ ρ κ gd x av:=by
 unfold ex at h
 split at h
 ·grind [force_eq,res,Eh]
 ·rw[force_eq]at h
  exact⟨ev ρ κ x,h,fun ρ' κ' ax g n a w G ak _=>Az ρ' κ' ax g n a w G ak⟩
end
def iD(F:Fence):Prop:=F=Fence.wide\/∃l,F=Fence.wide.inRound l
theorem gY:iD Fence.wide:=.inl rfl
theorem wide_round(l:Nat):iD (Fence.wide.inRound l):=.inr ⟨l,rfl⟩
theorem iD.fn{F:Fence}(h:iD F)(f:FuncId):F.fn f:=by rcases h with rfl|⟨l,rfl⟩<;>exact trivial
theorem iD.depth{F:Fence}(h:iD F):F.depth=none:=by rcases h with rfl|⟨l,rfl⟩<;>rfl
theorem iD.calls{F:Fence}(h:iD F){n:Nat}{P:Program}{f:FuncId}{args:Array Value}{w:World}{R:Ending->World->Prop}:CallsIn F n P f args w R↔Calls P f args w R:=by
 rcases h with rfl|⟨l,rfl⟩
 ·exact callsIn_wide
 ·exact callsIn_wide
theorem iD.round{F:Fence}(h:iD F){n:Nat}{P:Program}{l:Nat}{f:FuncId}{tmps:Array Value}{assign body:Code}{w:World}{R:Ending->World->Prop}:RoundIn F n P l f tmps assign body w R↔RoundIn Fence.wide n P l f tmps assign body w R:=by
 rcases h with rfl|⟨l,rfl⟩
 ·grind
 rfl
def nE(P:Program)(F:Fence)(ops:Array Oper)(o:Oper)(a:Act)(w:World)(K:Act->World->Prop):Prop:=
 if Region.wanted o (yielded ops a.tmps)=true then o.wpIn F 0 P a w K (fun _ _ _=>False)else K (a.put o.dst undef) w
structure DX(ops:List Oper)(o:Oper)(ρ ρ':Nat->AV)(κ κ':Nat->au)(rd:List Nat)(bx:List (Nat×au)):Prop where
 bV:∀t,t∈o.looksAt ops.toArray->ρ' t=ρ t
 rows:∀i,i∈j4 ρ κ o->κ' i=κ i
 reads:∀i,i∈rd->κ' i=κ i
 boxes:∀i b,(i,b)∈bx->κ' i=κ i
def RX(P:Program)(C:dW->Prop)(ops:List Oper)(n lo:Nat)(o:Oper)(ρ:Nat->AV)(κ:Nat->au)(cg:lN):Prop:=
 ∀F,iD F->∀ρ' κ',DX ops o ρ ρ' κ κ' cg.reads cg.box->∀(g:dW) (a:Act) (w:World),g.m<=lo/\C g->St g n ρ' κ' a w->
  nE P F ops.toArray o a w fun a' w'=>St g n (aB ρ' cg.dst) (aB κ' cg.box) a' w'
def Good(P:Program)(C:dW->Prop)(ops:List Oper)(n:Nat)(o:Oper)(nx:Nat)(ρ:Nat->AV)(κ:Nat->au)(k:lN->Nat->Prop):Prop:=
 ∃cg fj,k cg fj/\nx<=fj/\(∀p,p∈cg.box->p.1<fj)/\RX P C ops n nx o ρ κ cg
section
variable {P:Program} {C:dW->Prop} {ops:List Oper} {n:Nat} {o:Oper} {nx fj:Nat} {ρ ρ':Nat->AV} {κ κ':Nat->au} {k:lN->Nat->Prop} {rd:List Nat} {bx:List (Nat×au)}
theorem TQ(hm:∀y,o.op≠.move y):j4 ρ κ o=ME ρ o:=by
 grind [j4,absurd]
theorem DX.opR(h:DX ops o ρ ρ' κ κ' rd bx){x:Operand}(hx:x∈o.op.operands)(hm:j4 ρ κ o=ME ρ o):I3 ρ ρ' κ κ' x:=by
 have Cr:x∈o.op.operands.toList:=by grind
 constructor
 ·rintro t rfl
  refine h.bV t ?_
  unfold Oper.looksAt
  grind
 ·intro i hi
  refine h.rows i ?_
  grind [ME,Xb]
theorem DX.op(h:DX ops o ρ ρ' κ κ' rd bx){x:Operand}(hx:x∈o.op.operands)(hm:∀y,o.op≠.move y:=by have hh:=‹o.op=_›;intro y hy;rw[hh]at hy;cases hy):I3 ρ ρ' κ κ' x:=h.opR hx (TQ hm)
theorem I4{a:Act}{d j:Nat}(hj:(ops[j]?).bind (·.dst)=some d):yielded ops.toArray a.tmps j=match a.tmps[d]? with|some (.bool b)=>some b|_=>none:=by
 grind [yielded,bind]
theorem cB{g:dW}{a:Act}{w:World}{G:Gh}{gd:Bool}(hg:b8 ρ ops o.guard=some gd)
 (ax:∀t,t∈o.looksAt ops.toArray->ρ' t=ρ t) (h:cx g n ρ' κ' a w G):Region.wanted o (yielded ops.toArray a.tmps)=gd:=by
 unfold b8 at hg
 unfold Region.wanted
 split at hg
 ·grind
 ·rename_i j want hs
  rw[hs]
  split at hg
  ·rename_i d hd
   have hr:=by
    refine ax d ?_
    grind [Oper.looksAt]
   have hv:=h.env d
   rw[hr]at hv
   have rq:∀b,a.tmps.getD d undef=.bool b->a.tmps[d]?=some (.bool b):=by
    intro b hb
    rw[acu]at hb
    cases hc:a.tmps[d]? with
    |none=>rw[hc]at hb;cases hb
    |some v=>grind
   simp[I4 hd]
   split at hg
   ·rename_i b hb
    rw[hb]at hv
    injection hg with hg
    cases hv with
    |dv kE=>
     generalize hx:a.tmps.getD d undef=x at kE
     cases kE with
     |bool=>
      rw[rq b hx,<-hg]
      cases b<;>cases want<;>rfl
   ·rename_i gg b hb
    rw[hb]at hv
    injection hg with hg
    generalize hx:a.tmps.getD d undef=x at hv
    cases hv with
    |opt _ _ _ h1 h2=>
     cases gg with
     |true=>
      cases(h1 rfl)with
      |dv kE=>cases kE with
       |bool=>
        rw[rq b hx,<-hg]
        cases b<;>cases want<;>rfl
     |false=>
      rw[<-hg]
      have:∀b,a.tmps[d]?≠some (.bool b):=by
       intro b hc
       have:a.tmps.getD d undef=.bool b:=by simp_all
       rw[hx,(h2 rfl)]at this;cases this
      grind
   grind
  grind
theorem gQ{F:Fence}(hF:iD F){a:Act}{w w':World}{v:Value}{K:Act->World->Prop}{Q:Exit->Act->World->Prop}(hd:∀c,o.op≠.defer c)
 (bE:(execOp a.eval o).run P w=.ok (.value v) w') (hk:K (a.put o.dst v) w'):o.wpIn F 0 P a w K Q:=by
 refine⟨fun f _=>hF.fn f,?_⟩
 rwa[Oper.semAt_plain F _ _ hd,bE]
theorem zn{F:Fence}(hF:iD F){a:Act}{w w':World}{K:Act->World->Prop}{Q:Exit->Act->World->Prop}(hd:∀c,o.op≠.defer c)
 (bE:(execOp a.eval o).run P w=.ok .skip w') (hk:K (a.put o.dst undef) w'):o.wpIn F 0 P a w K Q:=by
 refine⟨fun f _=>hF.fn f,?_⟩
 rwa[Oper.semAt_plain F _ _ hd,bE]
theorem bC{gd:Bool}{av:AV}(hd:∀c,o.op≠.defer c)(hg:b8 ρ ops o.guard=some gd)(hk:aY n o gd nx k av rd)
 (h:∀ρ' κ',DX ops o ρ ρ' κ κ' rd []->∀(g:dW) (a:Act) (w:World) (G:Gh),cx g n ρ' κ' a w G->gd=true->
  ∃v,(execOp a.eval o).run P w=.ok (.value v) w/\aG G av v):Good P C ops n o nx ρ κ k:=by
 unfold aY at hk
 split at hk
 ·rename_i kE hn
  refine⟨_,_,hk,acN _,by simp,fun F hF ρ' κ' ax g a w dF ⟨G,ak⟩=>?_⟩
  have sf:gd=true:=by rw[hn]at hg;injection hg with hg;grind
  obtain⟨v,bE,_⟩:=h ρ' κ' ax g a w G ak sf
  unfold nE
  rw[cB hg ax.bV ak,sf,if_pos rfl]
  exact gQ hF hd bE ⟨G,by rwa[kE]⟩
 ·grind
 ·rename_i d kE hn
  cases aw:Nat.blt d n with
  |false=>grind
  |true=>
   rw[aw]at hk
   refine⟨_,_,hk,acN _,by simp,fun F hF ρ' κ' ax g a w dF ⟨G,ak⟩=>?_⟩
   have sf:gd=true:=by rw[hn]at hg;injection hg with hg;grind
   obtain⟨v,bE,hv⟩:=h ρ' κ' ax g a w G ak sf
   unfold nE
   rw[cB hg ax.bV ak,sf,if_pos rfl]
   exact gQ hF hd bE ⟨G,by rw[kE];exact ak.put (by simp_all) hv⟩
 ·rename_i d j kE hn
  cases aw:Nat.blt d n with
  |false=>grind
  |true=>
   rw[aw]at hk
   have kU:=by rwa[Nat.blt_eq]at aw
   refine⟨_,_,hk,acN _,by simp,fun F hF ρ' κ' ax g a w dF ⟨G,ak⟩=>?_⟩
   unfold nE
   rw[cB hg ax.bV ak]
   cases gd with
   |true=>
    obtain⟨v,bE,hv⟩:=h ρ' κ' ax g a w G ak rfl
    rw[if_pos rfl]
    exact gQ hF hd bE ⟨G,by rw[kE];exact ak.put kU (.opt true av v (fun _=>hv) (by simp))⟩
   |false=>
    simp[kE]
    exact⟨G,ak.put kU (.opt false av undef (by simp) (fun _=>rfl))⟩
theorem Gn{gd:Bool}{av:AV}(hd:∀c,o.op≠.defer c)(hg:b8 ρ ops o.guard=some gd)(hk:dM n o fj k av bx rd)(eE:nx<=fj)(fk:∀p,p∈bx->p.1<fj)
 (h:∀ρ' κ',DX ops o ρ ρ' κ κ' rd bx->∀(F:Fence),iD F->∀(g:dW) (a:Act) (w:World) (G:Gh),g.m<=nx/\C g->cx g n ρ' κ' a w G->gd=true->∀(K:Act->World->Prop),
  (∀v w' G',cx g n ρ' (aB κ' bx) a w' G'->aG G' av v->K (a.put o.dst v) w')->o.wpIn F 0 P a w K (fun _ _ _=>False)):Good P C ops n o nx ρ κ k:=by
 unfold dM at hk
 split at hk
 ·rename_i hgu kE
  have sf:gd=true:=by rw[hgu]at hg;injection hg with hg;grind
  refine⟨_,_,hk,eE,fk,fun F hF ρ' κ' ax g a w dF ⟨G,ak⟩=>?_⟩
  unfold nE
  rw[cB hg ax.bV ak,sf,if_pos rfl]
  refine h ρ' κ' ax F hF g a w G dF ak sf _ fun v w' G' h1 _=>⟨G',?_⟩
  rwa[kE]
 ·rename_i d hgu kE
  cases aw:Nat.blt d n with
  |false=>grind
  |true=>
   rw[aw]at hk
   have sf:gd=true:=by rw[hgu]at hg;injection hg with hg;grind
   refine⟨_,_,hk,eE,fk,fun F hF ρ' κ' ax g a w dF ⟨G,ak⟩=>?_⟩
   unfold nE
   rw[cB hg ax.bV ak,sf,if_pos rfl]
   refine h ρ' κ' ax F hF g a w G dF ak sf _ fun v w' G' h1 h2=>⟨G',?_⟩
   rw[kE];exact h1.put (by simp_all) h2
 grind
theorem EK{gd:Bool}{av:AV}(hd:∀c,o.op≠.defer c)(hg:b8 ρ ops o.guard=some gd)(hk:yd n o gd fj k av bx rd)(eE:nx<=fj)(fk:∀p,p∈bx->p.1<fj)
 (h:∀ρ' κ',DX ops o ρ ρ' κ κ' rd bx->∀(F:Fence),iD F->∀(g:dW) (a:Act) (w:World) (G:Gh),g.m<=nx/\C g->cx g n ρ' κ' a w G->gd=true->∀(K:Act->World->Prop),
  (∀v w' G',cx g n ρ' (aB κ' bx) a w' G'->aG G' av v->K (a.put o.dst v) w')->o.wpIn F 0 P a w K (fun _ _ _=>False)):Good P C ops n o nx ρ κ k:=by
 unfold yd at hk
 split at hk
 ·grind [Gn]
 ·obtain⟨sf,hk⟩:=hk
  split at hk
  ·rename_i kE
   refine⟨_,_,hk,eE,fk,fun F hF ρ' κ' ax g a w dF ⟨G,ak⟩=>?_⟩
   unfold nE
   rw[cB hg ax.bV ak,sf,if_pos rfl]
   refine h ρ' κ' ax F hF g a w G dF ak sf _ fun v w' G' h1 _=>⟨G',?_⟩
   rwa[kE]
  ·rename_i d kE
   cases aw:Nat.blt d n with
   |false=>grind
   |true=>
    rw[aw]at hk
    refine⟨_,_,hk,eE,fk,fun F hF ρ' κ' ax g a w dF ⟨G,ak⟩=>?_⟩
    unfold nE
    rw[cB hg ax.bV ak,sf,if_pos rfl]
    refine h ρ' κ' ax F hF g a w G dF ak sf _ fun v w' G' h1 h2=>⟨G',?_⟩
    rw[kE];exact h1.put (by simp_all) (.opt true av v (fun _=>h2) (by simp))
theorem Jw{gd:Bool}{av:AV}(hd:∀c,o.op≠.defer c)(hg:b8 ρ ops o.guard=some gd)(hk:dM n o fj k av bx rd)(eE:nx<=fj)(fk:∀p,p∈bx->p.1<fj)
 (h:∀ρ' κ',DX ops o ρ ρ' κ κ' rd bx->∀(F:Fence),iD F->∀(g:dW) (a:Act) (w:World) (G:Gh),g.m<=nx->cx g n ρ' κ' a w G->gd=true->∀(K:Act->World->Prop),
  (∀v w' G',cx g n ρ' (aB κ' bx) a w' G'->aG G' av v->K (a.put o.dst v) w')->o.wpIn F 0 P a w K (fun _ _ _=>False)):Good P C ops n o nx ρ κ k:=
 Gn hd hg hk eE fk fun ρ' κ' ax F hF g a w G dF=>h ρ' κ' ax F hF g a w G dF.1
theorem c7{gd:Bool}{av:AV}(hd:∀c,o.op≠.defer c)(hg:b8 ρ ops o.guard=some gd)(hk:dM n o fj k av bx rd)(eE:nx<=fj)(fk:∀p,p∈bx->p.1<fj)
 (h:∀ρ' κ',DX ops o ρ ρ' κ κ' rd bx->∀(g:dW) (a:Act) (w:World) (G:Gh),g.m<=nx->cx g n ρ' κ' a w G->gd=true->
  ∃v w' G',((execOp a.eval o).run P w=.ok (.value v) w'\/(execOp a.eval o).run P w=.ok .skip w'/\v=undef)/\cx g n ρ' (aB κ' bx) a w' G'/\aG G' av v):Good P C ops n o nx ρ κ k:=by
 refine Jw hd hg hk eE fk fun ρ' κ' ax F hF g a w G dF ak aV K hK=>?_
 obtain⟨v,w',G',hr,h1,h2⟩:=h ρ' κ' ax g a w G dF ak aV
 rcases hr with hr|⟨hr,rfl⟩
 ·grind [gQ]
 grind [zn,undef]
theorem QF{gd:Bool}{av:AV}(hd:∀c,o.op≠.defer c)(hg:b8 ρ ops o.guard=some gd)(hk:yd n o gd fj k av bx rd)(eE:nx<=fj)(fk:∀p,p∈bx->p.1<fj)
 (h:∀ρ' κ',DX ops o ρ ρ' κ κ' rd bx->∀(g:dW) (a:Act) (w:World) (G:Gh),g.m<=nx->cx g n ρ' κ' a w G->gd=true->
  ∃v w' G',((execOp a.eval o).run P w=.ok (.value v) w'\/(execOp a.eval o).run P w=.ok .skip w'/\v=undef)/\cx g n ρ' (aB κ' bx) a w' G'/\aG G' av v):Good P C ops n o nx ρ κ k:=by
 refine EK hd hg hk eE fk fun ρ' κ' ax F hF g a w G dF ak aV K hK=>?_
 obtain⟨v,w',G',hr,h1,h2⟩:=h ρ' κ' ax g a w G dF.1 ak aV
 rcases hr with hr|⟨hr,rfl⟩
 ·grind [gQ]
 grind [zn,undef]
theorem Sw{gd:Bool}{av:AV}(hg:o.guard=none)(h:dM n o nx k av bx rd):yd n o gd nx k av bx rd:=by
 grind [yd]
end
end
section
open Go.RowKit
variable [cn]
theorem cJ(a:Addr)(i j:Nat):(a.add i).add j=a.add (i+j):=by
 grind [Addr.add,Nat.add_assoc]
theorem eN(b o k:Nat):(⟨b,o,none⟩:Addr).add k=⟨b,o+k,none⟩:=by grind [Addr.add]
section
variable {P:Program} {C:dW->Prop} {T:List TI}
structure gA(P:Program)(t:Nat)(ti:TI)(i:TypeInfo)(u:TypeDesc)(z:Value):Prop where
 info:P.info? t=some i
 Cq:P.underlying t=some u
 zero:i.zero=some z
 zc:pH z.cells.toList=some ti.zero
 zl:ti.zero.length=i.size
 size:ti.size=i.size
 bytes:ti.bytes=i.bytes
 agg:ti.agg=Kk u
 fields:ti.fields=fieldsOf P u
 isSl:ti.isSl=L0 u
 isStr:ti.isStr=strOf u
 elem:ti.elem=Pt u
 kind:ti.kind=kindOf u
 key:ti.key=keyOf u
 BX:ti.BX=Ih u
 M8:ti.M8=JP u
 fin:yN P u=true
 dp:gw z=Kk u
 pair:ti.pair=(HK P u&& !P.stoodInHeld t)
 len:ti.len=lenOf u
 V3:ti.V3=Pu P t i.size u
theorem fh.facts(hT:fh P T){t:Nat}(h:(nth T t).ok=true):∃i u z,gA P t (nth T t) i u z:=by
 have e:=hT t h
 unfold TI.of at e
 split at e
 ·rename_i i u hi hu
  have h1:=congrArg TI.ok e
  rw[h]at h1
  have h1:=h1.symm
  simp[acU]at h1
  obtain⟨oO,h1⟩:=h1
  have h1:=h1.symm
  split at h1
  ·rename_i z hz
   split at h1
   ·exact⟨i,u,z,hi,hu,hz,by grind,by grind,congrArg TI.size e,congrArg TI.bytes e,congrArg TI.agg e,congrArg TI.fields e,congrArg TI.isSl e,congrArg TI.isStr e,congrArg TI.elem e,congrArg TI.kind e,congrArg TI.key e,congrArg TI.BX e,congrArg TI.M8 e,oO,by grind,congrArg TI.pair e,congrArg TI.len e,congrArg TI.V3 e⟩
   grind
  grind
 ·have h1:=congrArg TI.ok e
  rw[h]at h1
  cases h1
theorem q8{w:World}{t:TypeId}{i:TypeInfo}(h:P.info? t=some i):(typeInfo t).run P w=.ok i w:=by
 simp[typeInfo,h]
theorem jV{w:World}{t:TypeId}{i:TypeInfo}(h:P.info? t=some i):(sizeOf t).run P w=.ok i.size w:=by
 simp[sizeOf,q8 h]
theorem gA.uU{t:Nat}{ti:TI}{i:TypeInfo}{u:TypeDesc}{z:Value}(h:gA P t ti i u z)(w:World):(isAgg t).run P w=.ok ti.agg w:=by
 simp[isAgg,Sem.run_bind,run_underlying h.Cq,h.agg]
 cases u<;>rfl
theorem gA.fW{t:Nat}{ti:TI}{i:TypeInfo}{u:TypeDesc}{z:Value}(h:gA P t ti i u z)(w:World):(sizeOf t).run P w=.ok ti.size w:=by
 rw[jV h.info,h.size]
theorem gA.tB{t:Nat}{ti:TI}{i:TypeInfo}{u:TypeDesc}{z:Value}(h:gA P t ti i u z)(w:World):(zeroValue t).run P w=.ok z w:=by
 simp[zeroValue,q8 h.info,h.zero]
theorem gA.slice{t:Nat}{ti:TI}{i:TypeInfo}{u:TypeDesc}{z:Value}(h:gA P t ti i u z)(hs:ti.isSl=true):P.underlying t=some (.slice ti.elem):=by
 have h1:=h.isSl
 have h2:=h.elem
 rw[hs]at h1
 cases u<;>simp[L0]at h1<;>simp[Pt]at h2
 rw[h.Cq,h2]
theorem gA.string{t:Nat}{ti:TI}{i:TypeInfo}{u:TypeDesc}{z:Value}(h:gA P t ti i u z)(hs:ti.isStr=true):P.underlying t=some .string:=by
 have h1:=h.isStr
 rw[hs]at h1
 cases u<;>simp[strOf]at h1
 exact h.Cq
theorem gA.field{t:Nat}{ti:TI}{i:TypeInfo}{u:TypeDesc}{z:Value}(h:gA P t ti i u z){f off sz:Nat}(hf:ti.fields[f]?=some (off,sz))(h0:sz≠0):
 ∃fs fd,P.underlying t=some (.struct fs)/\fs[f]?=some fd/\fd.offset=off/\∃j,P.info? fd.type=some j/\j.size=sz:=by
 have h1:=h.fields
 cases u with
 |struct fs=>
  simp[fieldsOf]at h1
  rw[h1,acj]at hf
  cases hx:fs.toList[f]? with
  |none=>grind
  |some fd=>
   simp only[hx,Option.map_some]at hf
   injection hf with hf
   injection hf with e1 e2
   refine⟨fs,fd,h.Cq,by grind,e1,?_⟩
   grind
 |_=>simp[fieldsOf]at h1;rw[h1]at hf;simp at hf
end
section
variable {P:Program} {C:dW->Prop} {T:List TI} {ops:List Oper} {n:Nat} {o:Oper} {nx:Nat} {ρ:Nat->AV} {κ:Nat->au} {k:lN->Nat->Prop} {gd:Bool}
theorem vV{m:Int}(h:-9223372036854775808<=m/\m<=9223372036854775807):IntKind.i64.wrap m=m:=IntWalk.i64_in m (by omega)
theorem jW{kd:IntKind}{m:Int}{ret:AV->Prop}(h:arith kd m gd ret):∃r,ret (.dv (.int kd r))/\(gd=true->kd.wrap m=r):=by
 unfold arith at h
 split at h
 ·grind [vV]
 grind
theorem iK{w:World}(op:BinOp)(t:TypeId)(x y:Operand)(a b:Value)(h:¬(a=.nilIface/\b=.nilIface))(h2:∀cs ds,¬(a=.agg cs/\b=.agg ds)):(eqGuard op t x y a b).run P w=.ok () w:=by
 simp_all [eqGuard]
theorem zo{w:World}{t:TypeId}(hu:P.underlying t=some .bool)(p q:Bool):(Op.equal t (.bool p) (.bool q)).run P w=.ok (p==q) w:=by
 have h:∀d,(Op.equalIn (d+1) t (.bool p) (.bool q)).run P w=.ok (p==q) w:=fun d=>by simp[Op.equalIn,run_underlying hu]
 grind [Op.equal,Op.maxDepth]
theorem q9{w:World}{t e:TypeId}(hu:P.underlying t=some (.pointer e))(a:Option Addr):(Op.equal t (.pointer a) (.pointer none)).run P w=.ok a.isNone w:=by
 have h:∀d,(Op.equalIn (d+1) t (.pointer a) (.pointer none)).run P w=.ok a.isNone w:=fun d=>by
  cases a<;>simp[Op.equalIn,run_underlying hu]
 grind [Op.equal,Op.maxDepth]
theorem QG{w:World}{t:TypeId}(hu:P.underlying t=some .bool)(p q:Bool):(binOp .eql t (.bool p) (.bool q)).run P w=.ok (.bool (p==q)) w:=by
 grind [binOp,Sem.run_bind,zo,Result.andThen_ok,Sem.run_pure]
theorem QH{w:World}{t:TypeId}(hu:P.underlying t=some .bool)(p q:Bool):(binOp .neq t (.bool p) (.bool q)).run P w=.ok (.bool (!(p==q))) w:=by
 grind [binOp,Sem.run_bind,zo,Result.andThen_ok,Sem.run_pure]
theorem vW{w:World}{t e:TypeId}(hu:P.underlying t=some (.pointer e))(a:Option Addr):(binOp .eql t (.pointer a) (.pointer none)).run P w=.ok (.bool a.isNone) w:=by
 grind [binOp,Sem.run_bind,q9,Result.andThen_ok,Sem.run_pure]
theorem vX{w:World}{t e:TypeId}(hu:P.underlying t=some (.pointer e))(a:Option Addr):(binOp .neq t (.pointer a) (.pointer none)).run P w=.ok (.bool (!a.isNone)) w:=by
 grind [binOp,Sem.run_bind,q9,Result.andThen_ok,Sem.run_pure]
theorem Gp(hT:fh P T){t:TypeId}(h1:(nth T t).ok=true)(h2:Nat.beq (nth T t).kind 5=true):∃e,P.underlying t=some (.pointer e):=by
 obtain⟨i,ud,z,hf⟩:=hT.facts h1
 have h3:=hf.kind
 rw[acm h2]at h3
 cases ud<;>simp[kindOf]at h3
 exact⟨_,hf.Cq⟩
theorem MF{G:Gh}{x:AV}{u:Value}(h:qS x=true)(hv:aG G x u):∃A,u=.pointer (some A):=by
 cases hv with
 |ptr=>grind
 |loc=>grind
 |qE=>grind
 |dv hd=>cases hd<;>first|exact⟨_,rfl⟩|simp[qS]at h
 |_=>simp[qS]at h
theorem vY{w:World}(t:TypeId)(kx ky:IntKind)(a b:Int)(hb:0<=b):(binOp .shl t (.int kx a) (.int ky b)).run P w=.ok (.int kx (kx.wrap (a*2^min b.toNat kx.bits))) w:=by
 have:¬b<0:=by omega
 simp[binOp,Op.shift,this]
theorem vZ{w:World}(t:TypeId)(kx ky:IntKind)(a b:Int)(hb:0<=b):(binOp .shr t (.int kx a) (.int ky b)).run P w=.ok (.int kx (a/2^min b.toNat kx.bits)) w:=by
 have:¬b<0:=by omega
 have hp:(0:Int)<=2^min b.toNat kx.bits:=Int.pow_nonneg (by grind)
 simp[binOp,Op.shift,this,Int.fdiv_eq_ediv_of_nonneg _ hp]
theorem I5(hT:fh P T){op:BinOp}{x0 y0:AV}{t:TypeId}{ret:AV->Prop}(h:sS (nth T t) op x0 y0 gd ret):∃r,ret (.dv r)/\r.aj=true/\∀(G:Gh) (w:World) (a b:Value),gd=true->aG G x0 a->aG G y0 b->
 ∃v,(binOp op t a b).run P w=.ok v w/\bq G.M r v/\¬(a=.nilIface/\b=.nilIface)/\∀cs ds,¬(a=.agg cs/\b=.agg ds):=by
 unfold sS at h
 split at h
 ·rename_i kx a ky b
  have abw:∀{G:Gh} {u v:Value},aG G (.dv (.int kx a)) u->aG G (.dv (.int ky b)) v->u=.int kx a/\v=.int ky b:=by
   intro G u v hu hv
   cases hu with|dv hu=>cases hu with|int=>cases hv with|dv hv=>cases hv with|int=>exact⟨rfl,rfl⟩
  have aan:∀{r:DV},ret (.dv r)->r.aj=true->(∀(w:World) (G:Gh),gd=true->∃v,(binOp op t (.int kx a) (.int ky b)).run P w=.ok v w/\bq G.M r v)->∃r,ret (.dv r)/\r.aj=true/\∀(G:Gh) (w:World) (u v:Value),gd=true->aG G (.dv (.int kx a)) u->aG G (.dv (.int ky b)) v->
   ∃x,(binOp op t u v).run P w=.ok x w/\bq G.M r x/\¬(u=.nilIface/\v=.nilIface)/\∀cs ds,¬(u=.agg cs/\v=.agg ds):=by
   intro r hr hc hh
   refine⟨r,hr,hc,fun G w u v hg hu hv=>?_⟩
   obtain⟨rfl,rfl⟩:=abw hu hv
   obtain⟨x,h1,h2⟩:=hh w G hg
   exact⟨x,h1,h2,by simp,by simp⟩
  cases hk:kx==ky with
  |false=>
   rw[hk]at h
   simp only[cond_false,Kl]at h
   split at h
   ·exact aan h.2 rfl fun w G hg=>⟨_,by rw[vY _ _ _ _ _ (h.1 hg)],.int kx _⟩
   ·exact aan h.2 rfl fun w G hg=>⟨_,by rw[vZ _ _ _ _ _ (h.1 hg)],.int kx _⟩
   ·exact h.elim
  |true=>
   rw[hk]at h
   have D1:=by simpa using hk
   subst D1
   have inv:∀{G:Gh} {u v:Value},aG G (.dv (.int kx a)) u->aG G (.dv (.int kx b)) v->u=.int kx a/\v=.int kx b:=by
    intro G u v hu hv
    cases hu with|dv hu=>cases hu with|int=>cases hv with|dv hv=>cases hv with|int=>exact⟨rfl,rfl⟩
   have fin:∀{r:DV},ret (.dv r)->r.aj=true->(∀(w:World) (G:Gh),gd=true->∃v,(binOp op t (.int kx a) (.int kx b)).run P w=.ok v w/\bq G.M r v)->∃r,ret (.dv r)/\r.aj=true/\∀(G:Gh) (w:World) (u v:Value),gd=true->aG G (.dv (.int kx a)) u->aG G (.dv (.int kx b)) v->
    ∃x,(binOp op t u v).run P w=.ok x w/\bq G.M r x/\¬(u=.nilIface/\v=.nilIface)/\∀cs ds,¬(u=.agg cs/\v=.agg ds):=by
    intro r hr hc hh
    refine⟨r,hr,hc,fun G w u v hg hu hv=>?_⟩
    obtain⟨rfl,rfl⟩:=inv hu hv
    obtain⟨x,h1,h2⟩:=hh w G hg
    exact⟨x,h1,h2,by simp,by simp⟩
   simp only[cond_true]at h
   split at h
   ·obtain⟨r,hr,he⟩:=jW h
    exact fin hr rfl fun w G hg=>⟨_,by simp[binOp,Op.intArith,he hg],.int kx r⟩
   ·obtain⟨r,hr,he⟩:=jW h
    exact fin hr rfl fun w G hg=>⟨_,by simp[binOp,Op.intArith,he hg],.int kx r⟩
   ·obtain⟨r,hr,he⟩:=jW h
    exact fin hr rfl fun w G hg=>⟨_,by simp[binOp,Op.intArith,he hg],.int kx r⟩
   ·obtain⟨r,hr,he⟩:=jW h.2
    exact fin hr rfl fun w G hg=>⟨_,by simp[binOp,Op.intDiv,h.1 hg,he hg],.int kx r⟩
   ·exact fin h.2 rfl fun w G hg=>⟨_,by simp[binOp,Op.intDiv,h.1 hg],.int kx _⟩
   ·exact fin h rfl fun w G hg=>⟨_,by simp[binOp,Op.intCmp],.bool _⟩
   ·exact fin h rfl fun w G hg=>⟨_,by simp[binOp,Op.intCmp],.bool _⟩
   ·exact fin h rfl fun w G hg=>⟨_,by simp[binOp,Op.intCmp],.bool _⟩
   ·exact fin h rfl fun w G hg=>⟨_,by simp[binOp,Op.intCmp],.bool _⟩
   ·exact fin h rfl fun w G hg=>⟨_,by simp[binOp,Op.intCmp],.bool _⟩
   ·exact fin h rfl fun w G hg=>⟨_,by simp[binOp,Op.intCmp],.bool _⟩
   ·exact fin h rfl fun w G hg=>⟨_,by simp[binOp,intBits_and],.int kx _⟩
   ·exact fin h rfl fun w G hg=>⟨_,by simp[binOp,intBits_or],.int kx _⟩
   ·exact fin h rfl fun w G hg=>⟨_,by simp[binOp,intBits_xor],.int kx _⟩
   ·exact fin h.2 rfl fun w G hg=>⟨_,by grind [vY],.int kx _⟩
   ·exact fin h.2 rfl fun w G hg=>⟨_,by grind [vZ],.int kx _⟩
   ·grind
 ·rename_i p q
  have fin:∀{r:DV},ret (.dv r)->r.aj=true->(∀(w:World) (G:Gh),∃v,(binOp op t (.bool p) (.bool q)).run P w=.ok v w/\bq G.M r v)->∃r,ret (.dv r)/\r.aj=true/\∀(G:Gh) (w:World) (u v:Value),gd=true->aG G (.dv (.bool p)) u->aG G (.dv (.bool q)) v->
   ∃x,(binOp op t u v).run P w=.ok x w/\bq G.M r x/\¬(u=.nilIface/\v=.nilIface)/\∀cs ds,¬(u=.agg cs/\v=.agg ds):=by
   intro r hr hc hh
   refine⟨r,hr,hc,fun G w u v _ hu hv=>?_⟩
   cases hu with|dv hu=>cases hu with|bool=>cases hv with|dv hv=>cases hv with|bool=>
   simp_all
  cases hk:(nth T t).ok&&Nat.beq (nth T t).kind 1 with
  |false=>grind
  |true=>
   rw[hk]at h
   simp only[acU]at hk
   obtain⟨i,ud,z,hf⟩:=hT.facts hk.1
   have hu:=by
    have h1:=hf.kind
    rw[acm hk.2]at h1
    cases ud<;>simp[kindOf]at h1
    exact hf.Cq
   simp only[cond_true]at h
   split at h
   ·exact fin h rfl fun w G=>⟨_,QG hu p q,.bool _⟩
   ·exact fin h rfl fun w G=>⟨_,QH hu p q,.bool _⟩
   grind
 ·rename_i s s'
  have fin:∀{r:DV},ret (.dv r)->r.aj=true->(∀(w:World) (G:Gh),gd=true->∃v,(binOp op t (.string s) (.string s')).run P w=.ok v w/\bq G.M r v)->∃r,ret (.dv r)/\r.aj=true/\∀(G:Gh) (w:World) (u v:Value),gd=true->aG G (.dv (.str s)) u->aG G (.dv (.str s')) v->
   ∃x,(binOp op t u v).run P w=.ok x w/\bq G.M r x/\¬(u=.nilIface/\v=.nilIface)/\∀cs ds,¬(u=.agg cs/\v=.agg ds):=by
   intro r hr hc hh
   refine⟨r,hr,hc,fun G w u v hg hu hv=>?_⟩
   cases hu with|dv hu=>cases hu with|str=>cases hv with|dv hv=>cases hv with|str=>
   simp_all
  split at h
  ·exact fin h rfl fun w G _=>⟨_,by rfl,.bool _⟩
  ·exact fin h rfl fun w G _=>⟨_,by rfl,.bool _⟩
  ·refine fin h.2 rfl fun w G hg=>⟨_,?_,.str _⟩
   have hs:=h.1 hg
   have:¬((s.size+s'.size:Nat))>IntKind.i64.max:=by
    simp_all
   simp only[binOp,Op.stringOp,this,if_false]
   rfl
  grind
 ·rename_i kx lo hi ky b
  cases hk:kx==ky with
  |false=>grind
  |true=>
   rw[hk]at h
   have D1:=by simpa using hk
   subst D1
   simp only[cond_true]at h
   split at h
   ·rename_i r hr
    refine⟨_,h,rfl,fun G w u v _ hu hv=>?_⟩
    cases hu with|dv hu=>cases hu with|Au _ _ _ a h1 h2=>cases hv with|dv hv=>cases hv with|int=>
    refine⟨.bool r,?_,.bool _,by simp,by simp⟩
    have hs:∀{p q:Bool},Aa p q=some r->(p=true/\r=true)\/(p=false/\q=true/\r=false):=by
     grind [Aa]
    have ht:∀{p q:Bool} {s:Bool},(bif p||q then some s else none)=some r->r=s/\(p=true\/q=true):=by
     grind
    unfold CG at hr
    split at hr
    ·rcases hs hr with⟨e1,e2⟩|⟨e1,e3,e2⟩<;>simp at e1<;>(try simp at e3)<;>subst e2<;>simp[binOp,Op.intCmp]<;>omega
    ·rcases hs hr with⟨e1,e2⟩|⟨e1,e3,e2⟩<;>simp at e1<;>(try simp at e3)<;>subst e2<;>simp[binOp,Op.intCmp]<;>omega
    ·rcases hs hr with⟨e1,e2⟩|⟨e1,e3,e2⟩<;>simp at e1<;>(try simp at e3)<;>subst e2<;>simp[binOp,Op.intCmp]<;>omega
    ·rcases hs hr with⟨e1,e2⟩|⟨e1,e3,e2⟩<;>simp at e1<;>(try simp at e3)<;>subst e2<;>simp[binOp,Op.intCmp]<;>omega
    ·obtain⟨e1,e2⟩:=ht hr;subst e1;simp at e2;simp[binOp,Op.intCmp];omega
    ·obtain⟨e1,e2⟩:=ht hr;subst e1;simp at e2;simp[binOp,Op.intCmp];omega
    grind
   ·unfold Pw at h
    split at h
    ·cases hd:decide (lo=hi)with
     |false=>grind
     |true=>
      rw[hd]at h
      have e:=acA hd
      subst e
      refine⟨_,h,rfl,fun G w u v _ hu hv=>?_⟩
      cases hu with|dv hu=>cases hu with|Au _ _ _ a h1 h2=>cases hv with|dv hv=>cases hv with|int=>
      have e:a=lo:=by omega
      subst e
      exact⟨_,by simp[binOp,Op.intArith],.int kx _,by simp,by simp⟩
    grind
 ·rename_i kx a ky lo hi
  cases hk:kx==ky with
  |false=>grind
  |true=>
   rw[hk]at h
   have D1:=by simpa using hk
   subst D1
   simp only[cond_true]at h
   split at h
   ·obtain⟨e,h⟩:=h
    subst e
    refine⟨_,h,rfl,fun G w u v _ hu hv=>?_⟩
    cases hu with|dv hu=>cases hu with|int=>cases hv with|dv hv=>cases hv with|Au _ _ _ b h1 h2=>
    have e:b=lo:=by omega
    subst e
    exact⟨_,by simp[binOp,Op.intArith],.int kx _,by simp,by simp⟩
   grind
 ·cases hk:(nth T t).ok&&Nat.beq (nth T t).kind 5 with
  |false=>grind
  |true=>
   rw[hk]at h
   simp only[acU]at hk
   obtain⟨e,hu⟩:=Gp hT hk.1 hk.2
   have fin:∀{r:Bool},ret (.dv (.bool r))->(∀(w:World),(binOp op t (.pointer none) (.pointer none)).run P w=.ok (.bool r) w)->∃r,ret (.dv r)/\r.aj=true/\∀(G:Gh) (w:World) (u v:Value),gd=true->aG G (.dv .eK) u->aG G (.dv .eK) v->
    ∃y,(binOp op t u v).run P w=.ok y w/\bq G.M r y/\¬(u=.nilIface/\v=.nilIface)/\∀cs ds,¬(u=.agg cs/\v=.agg ds):=by
    intro r hr hh
    refine⟨_,hr,rfl,fun G w u v _ hu hv=>?_⟩
    cases hu with|dv hu=>cases hu with|eK=>cases hv with|dv hv=>cases hv with|eK=>
    exact⟨_,hh w,.bool _,by simp,by simp⟩
   simp only[cond_true]at h
   split at h
   ·simp_all [vW]
   ·simp_all [vX]
   grind
 ·cases hk:(nth T t).ok&&Nat.beq (nth T t).kind 5&&qS x0 with
  |false=>grind
  |true=>
   rw[hk]at h
   simp only[acU]at hk
   obtain⟨e,hu⟩:=Gp hT hk.1.1 hk.1.2
   have fin:∀{r:Bool},ret (.dv (.bool r))->(∀(w:World) (A:Addr),(binOp op t (.pointer (some A)) (.pointer none)).run P w=.ok (.bool r) w)->∃r,ret (.dv r)/\r.aj=true/\∀(G:Gh) (w:World) (u v:Value),gd=true->aG G x0 u->aG G (.dv .eK) v->
    ∃y,(binOp op t u v).run P w=.ok y w/\bq G.M r y/\¬(u=.nilIface/\v=.nilIface)/\∀cs ds,¬(u=.agg cs/\v=.agg ds):=by
    intro r hr hh
    refine⟨_,hr,rfl,fun G w u v _ hu hv=>?_⟩
    cases hv with|dv hv=>cases hv with|eK=>
    obtain⟨A,rfl⟩:=MF hk.2 hu
    exact⟨_,hh w A,.bool _,by simp,by simp⟩
   simp only[cond_true]at h
   split at h
   ·simp_all [vW]
   ·simp_all [vX]
   grind
 ·grind
end
end
section
open Go.RowKit
variable [cn]
section
variable {P:Program} {C:dW->Prop} {T:List TI} {ops:List Oper} {n:Nat} {o:Oper} {nx:Nat} {ρ:Nat->AV} {κ:Nat->au} {k:lN->Nat->Prop} {gd:Bool}
theorem RW{x:Operand}(hg:b8 ρ ops o.guard=some gd)(ho:o.op=.move x)(h:ex ρ κ gd x fun v=>aY n o gd nx k v []):Good P C ops n o nx ρ κ k:=by
 by_cases hm:j4 ρ κ o=ME ρ o
 ·obtain⟨av,hk,bR⟩:=aH h
  exact bC (fun c=>by grind) hg hk fun ρ' κ' ax g a w G ak aV=>⟨_,by simp[execOp,ho],(bR ρ' κ' (ax.opR (by grind [Op.operands]) hm) g n a w G ak aV)⟩
 ·unfold j4 at hm
  split at hm
  ·rename_i t ht
   rw[ho]at ht
   injection ht with ht
   subst ht
   cases hb:mvT κ (ρ t)with
   |false=>grind
   |true=>
    generalize hρ:ρ t=v at hb
    cases v with
    |own i ver ep p=>
     simp[mvT]at hb
     cases hk:κ i with
     |tree V E d=>
      unfold ex at h
      simp[ev,hρ,res,hk]at h
      cases hc:Nat.beq ver V&&(emp p||Nat.beq ep E)with
      |true=>
       rw[hc]at h
       simp[cond_true]at h
       rw[force_eq]at h
       refine bC (fun c=>by grind) hg h fun ρ' κ' ax g a w G ak aV=>?_
       have h1:=ak.env t
       rw[ax.bV t (by unfold Oper.looksAt;rw[ho];exact acr.2 (.inl (by simp[Op.operands]))),hρ]at h1
       exact⟨_,by simp only[execOp,ho];rfl,h1⟩
      |false=>
       rw[hc]at h
       simp[cond_false]at h
       rw[force_eq]at h
       exact bC (fun c=>by grind) hg h fun ρ' κ' ax g a w G ak aV=>⟨a.eval (.tmp t),by simp[execOp,ho],.any _⟩
     |_=>rw[hk]at hb;cases hb
    |_=>cases hb
  grind
theorem Lb{x:Operand}{av:AV}(hg:b8 ρ ops o.guard=some gd)(ho:o.op=.assign x)(hk:aY n o gd nx k av [])(bR:bJ ρ κ gd x av):Good P C ops n o nx ρ κ k:=by
 exact bC (fun c=>by grind) hg hk fun ρ' κ' ax g a w G ak aV=>⟨_,by simp[execOp,ho],(bR ρ' κ' (ax.op (by grind [Op.operands])) g n a w G ak aV)⟩
theorem oZ{x:Operand}{av:AV}(hg:b8 ρ ops o.guard=some gd)(ho:o.op=.nilCheck x)(hk:aY n o gd nx k av [])(bR:bJ ρ κ gd x av)
 (hp:∀(G:Gh) (v:Value),aG G av v->∃a,v=.pointer (some a)):Good P C ops n o nx ρ κ k:=by
 refine bC (fun c=>by grind) hg hk fun ρ' κ' ax g a w G ak aV=>?_
 have hv:=bR ρ' κ' (ax.op (by grind [Op.operands])) g n a w G ak aV
 obtain⟨p,hp⟩:=hp _ _ hv
 simp_all [execOp]
theorem Nx(hT:fh P T){op:BinOp}{t ty:TypeId}{x y:Operand}(hg:b8 ρ ops o.guard=some gd)(ho:o.op=.binOp op t x y ty)
 {va vb:AV} (Vn:bJ ρ κ gd x va) (Vo:bJ ρ κ gd y vb) (h:sS (nth T t) op va vb gd fun v=>aY n o gd nx k v []):Good P C ops n o nx ρ κ k:=by
 obtain⟨r,hk,hc,hr⟩:=I5 hT h
 refine bC (fun c=>by grind) hg hk fun ρ' κ' ax g a w G ak aV=>?_
 obtain⟨v,h3,h4,h5,h6⟩:=hr G w _ _ aV (Vn ρ' κ' (ax.op (by grind [Op.operands])) g n a w G ak aV) (Vo ρ' κ' (ax.op (by grind [Op.operands])) g n a w G ak aV)
 refine⟨v,?_,.dv h4⟩
 grind [execOp,Sem.run_bind,iK,Result.andThen_ok,Sem.run_pure]
theorem Vq{t:TypeId}{x:Operand}{b:Bool}(hg:b8 ρ ops o.guard=some gd)(ho:o.op=.unOp .not t x)(hk:aY n o gd nx k (.dv (.bool (!b))) [])(bR:bJ ρ κ gd x (.dv (.bool b))):Good P C ops n o nx ρ κ k:=by
 refine bC (fun c=>by grind) hg hk fun ρ' κ' ax g a w G ak aV=>?_
 have hv:=bR ρ' κ' (ax.op (by grind [Op.operands])) g n a w G ak aV
 generalize hx:a.eval x=v at hv
 cases hv with|dv hv=>cases hv with|bool=>
 exact⟨_,by simp[execOp,ho,hx,Op.unary],.dv (.bool _)⟩
theorem Vr{t:TypeId}{x:Operand}{kd:IntKind}{m:Int}(hg:b8 ρ ops o.guard=some gd)(ho:o.op=.unOp .neg t x)(hk:arith kd (0-m) gd fun v=>aY n o gd nx k v [])(bR:bJ ρ κ gd x (.dv (.int kd m))):Good P C ops n o nx ρ κ k:=by
 obtain⟨r,hk,he⟩:=jW hk
 refine bC (fun c=>by grind) hg hk fun ρ' κ' ax g a w G ak aV=>?_
 have hv:=bR ρ' κ' (ax.op (by grind [Op.operands])) g n a w G ak aV
 generalize hx:a.eval x=v at hv
 cases hv with|dv hv=>cases hv with|int=>
 refine⟨.int kd r,?_,.dv (.int kd r)⟩
 grind [execOp,Op.unary,Op.intArith,Sem.run_bind,Sem.run_pure,Result.andThen_ok]
theorem Hm{x:Operand}{i:Nat}{l:List AV}{av:AV}(hg:b8 ρ ops o.guard=some gd)(ho:o.op=.extract x i)(hk:aY n o gd nx k av [])(hl:l[i]?=some av)(bR:bJ ρ κ gd x (.fY l)):Good P C ops n o nx ρ κ k:=by
 refine bC (fun c=>by grind) hg hk fun ρ' κ' ax g a w G ak aV=>?_
 have hv:=bR ρ' κ' (ax.op (by grind [Op.operands])) g n a w G ak aV
 generalize hx:a.eval x=v at hv
 cases hv with
 |fY _ vs hlen hr=>
  have hi:=(aci.1 hl).1
  have hvi:vs[i]?=some (vs[i]'(by omega)):=aaS (by omega)
  refine⟨_,?_,hr i av _ hl hvi⟩
  simp[execOp,ho,hx,Instr.extract,hvi]
theorem nH{c x y:Operand}{b p q:Bool}(hg:b8 ρ ops o.guard=some gd)(ho:o.op=.pick c x y)(hk:aY n o gd nx k (.dv (.bool (bif b then p else q))) [])
 (hc:bJ ρ κ gd c (.dv (.bool b))) (hx:bJ ρ κ (gd&&b) x (.dv (.bool p))) (hy:bJ ρ κ (gd&& !b) y (.dv (.bool q))):Good P C ops n o nx ρ κ k:=by
 refine bC (fun c=>by grind) hg hk fun ρ' κ' ax g a w G ak aV=>?_
 have hv:=hc ρ' κ' (ax.op (by grind [Op.operands])) g n a w G ak aV
 generalize hxc:a.eval c=v at hv
 cases hv with|dv hv=>cases hv with|bool=>
 subst aV
 cases b with
 |true=>
  have hv:=hx ρ' κ' (ax.op (by grind [Op.operands])) g n a w G ak rfl
  simp_all [execOp,asBool]
 |false=>
  have hv:=hy ρ' κ' (ax.op (by grind [Op.operands])) g n a w G ak rfl
  simp_all [execOp,asBool]
theorem nI(hT:fh P T){t f off sz:Nat}{x:Operand}{av av':AV}(hg:b8 ρ ops o.guard=some gd)(ho:o.op=.fieldAddr t x f)(cw:(nth T t).ok=true)(hf:(nth T t).fields[f]?=some (off,sz+1))
 (hk:aY n o gd nx k av' []) (bR:bJ ρ κ gd x av)
 (hp:∀(G:Gh) (v:Value),aG G av v->∃a,v=.pointer (some a)/\aG G av' (.pointer (some (a.add off)))):Good P C ops n o nx ρ κ k:=by
 obtain⟨i,u,z,tf⟩:=hT.facts cw
 obtain⟨fs,fd,hu,hfd,TR,j,hj,hjs⟩:=tf.field hf (by omega)
 refine bC (fun c=>by grind) hg hk fun ρ' κ' ax g a w G ak aV=>?_
 obtain⟨p,hp,Xc⟩:=hp _ _ (bR ρ' κ' (ax.op (by grind [Op.operands])) g n a w G ak aV)
 simp_all [execOp,Instr.fieldAt,run_underlying,Instr.sureAddr,fieldPlace,jV]
theorem eb{agg:Bool}{l:List AV}{off sz:Nat}{ret:AV->Prop}(h:cq agg l off sz ret):
 ∃v,ret v/\((agg=true/\off+sz<=l.length/\v=.agg ((l.drop off).take sz))\/(agg=false/\l[off]?=some v)):=by
 unfold cq at h
 cases agg with
 |true=>
  simp_all
 |false=>
  simp[cond_false]at h
  split at h
  ·rw[force_eq]at h;grind
  grind
theorem k6(hT:fh P T){t off:Nat}{l:List AV}{av:AV}{w:World}{G:Gh}(cw:(nth T t).ok=true)(A:Addr)(vs:Nat->Value)
 (hc:∀j,j<l.length->w.cell? (A.add j)=some (vs j)) (hr:∀(j:Nat) (d:AV),l[j]?=some d->aG G d (vs j))
 (hp:((nth T t).agg=true/\off+(nth T t).size<=l.length/\av=.agg ((l.drop off).take (nth T t).size))\/((nth T t).agg=false/\l[off]?=some av)):
 ∃v,(Instr.loadAt t (.pointer (some (A.add off)))).run P w=.ok v w/\aG G av v:=by
 obtain⟨i,u,z,tf⟩:=hT.facts cw
 rcases hp with⟨ha,hle,rfl⟩|⟨ha,hl⟩
 ·refine⟨.agg ((List.range (nth T t).size).map fun j=>vs (off+j)).toArray,?_,?_⟩
  ·have:=run_loadCells (P:=P) w (A.add off) (nth T t).size (fun j=>vs (off+j)) (fun j hj=>by grind [cJ])
   simp[Instr.loadAt,Instr.sureAddr,Sem.run_bind,Sem.run_pure,Result.andThen_ok,loadVar,tf.uU w,ha,if_true,tf.fW w,this]
  ·refine .agg _ _ (by grind) fun j d v hd hv=>?_
   grind
 ·refine⟨vs off,?_,hr _ _ hl⟩
  simp[Instr.loadAt,Instr.sureAddr,Sem.run_bind,Sem.run_pure,Result.andThen_ok,loadVar,tf.uU w,ha,Bool.false_eq_true,if_false,run_load,hc off ((aci.1 hl).1)]
theorem Ek(hT:fh P T){t i off:Nat}{x:Operand}{l:List AV}(hg:b8 ρ ops o.guard=some gd)(ho:o.op=.load t x)(cw:(nth T t).ok=true)(hb:κ i=.cells l)
 (hk:cq (nth T t).agg l off (nth T t).size fun v=>aY n o gd nx k v [i]) (bR:bJ ρ κ gd x (.ptr i off)):Good P C ops n o nx ρ κ k:=by
 obtain⟨av,hk,hp⟩:=eb hk
 refine bC (fun c=>by grind) hg hk fun ρ' κ' ax g a w G ak aV=>?_
 have hv:=bR ρ' κ' (ax.op (by grind [Op.operands])) g n a w G ak aV
 have ua:=ak.fit.box i
 rw[((ax.reads i (by simp)).trans hb)]at ua
 obtain⟨b,c,tt,hbe,hw,bz,om,hr⟩:=ua
 generalize hx:a.eval x=v at hv
 cases hv with
 |ptr _ _ b' Cm=>
 rw[hbe]at Cm;injection Cm with Cm;subst Cm
 have hA:(⟨b,off,none⟩)=(⟨b,0,none⟩:Addr).add off:=by rw[eN];simp
 obtain⟨v,h1,h2⟩:=k6 (w:=w) hT cw ⟨b,0,none⟩ (fun j=>c.getD j undef) (fun j hj=>by
  rw[eN]
  simp_all [World.cell?]) (fun j d hd=>by
  exact hr j d _ hd (by simp[bz,((aci.1 hd).1)])) hp
 grind [execOp,Sem.run_bind,Result.andThen_ok,Sem.run_pure]
theorem Hk(hT:fh P T){t off:Nat}{x:Operand}{y:DV}(hg:b8 ρ ops o.guard=some gd)(ho:o.op=.load t x)(cw:(nth T t).ok=true)
 (hk:cq (nth T t).agg (eV y.cells) off (nth T t).size fun v=>aY n o gd nx k v []) (bR:bJ ρ κ gd x (.dv (.at y off))):Good P C ops n o nx ρ κ k:=by
 obtain⟨av,hk,hp⟩:=eb hk
 refine bC (fun c=>by grind) hg hk fun ρ' κ' ax g a w G ak aV=>?_
 have hv:=bR ρ' κ' (ax.op (by grind [Op.operands])) g n a w G ak aV
 generalize hx:a.eval x=v at hv
 cases hv with|dv hv=>cases hv with
 |_=>
  rename_i A cell om hc hr
  obtain⟨v,h1,h2⟩:=k6 hT cw A cell (fun j hj=>ak.fit.sub.cell (hc j (by grind [oc]))) (fun j d hd=>by
   obtain⟨d',kE,rfl⟩:=QC hd
   exact .dv (hr j d' kE)) hp
  grind [execOp,Sem.run_bind,Result.andThen_ok,Sem.run_pure]
theorem bX{gd:Bool}:∀{p:List PS} {d:DV} {k:DV->Prop},jY gd d p k->∃nd,k nd/\(gd=true->get d p=some nd)
 |[],d,k,h=>⟨d,h,fun _=>rfl⟩
 |s::p,d,k,h=>by
  cases d<;>cases s<;>simp only[jY]at h<;>(try exact h.elim)
  ·obtain⟨x,hx,h⟩:=h
   split at h
   ·obtain⟨nd,h1,h2⟩:=bX h
    grind [get,step]
   grind
  ·rename_i x i j
   cases hb:Nat.beq i 0 with
   |false=>grind
   |true=>
    rw[hb]at h
    simp[cond_true]at h
    split at h
    ·obtain⟨nd,h1,h2⟩:=bX h
     exact⟨nd,h1,fun hg=>by simp_all [get,step,cond_true]⟩
    grind
  ·obtain⟨x,hx,h⟩:=h
   split at h
   ·obtain⟨nd,h1,h2⟩:=bX h
    grind [get,step]
   grind
theorem fX:∀{p:List PS} {d nd:DV} {k:DV->Prop},wo d p nd k->k (ed d p nd)/\∃c,get d p=some c
 |[],d,nd,k,h=>⟨h,d,rfl⟩
 |s::p,d,nd,k,h=>by
  cases d<;>cases s<;>simp only[wo]at h<;>(try exact h.elim)
  ·obtain⟨x,hx,h⟩:=h
   split at h
   ·obtain⟨h1,c',h2⟩:=fX h
    grind [ed,step,put,get]
   grind
  ·rename_i x i j
   cases hb:Nat.beq i 0 with
   |false=>grind
   |true=>
    rw[hb]at h
    simp[cond_true]at h
    split at h
    ·obtain⟨h1,c',h2⟩:=fX h
     simp_all [ed,step,put,get]
    grind
  ·obtain⟨x,hx,h⟩:=h
   split at h
   ·obtain⟨h1,c',h2⟩:=fX h
    grind [ed,step,put,get]
   grind
theorem dB{ver bo ep cb:Nat}{p:List PS}(h:(Nat.beq ver bo&&(emp p||Nat.beq ep cb))=true):ver=bo/\(p=[]\/ep=cb):=by
 simp[acU,Bool.or_eq_true]at h
 grind [Nat.eq_of_beq_eq_true,emp]
theorem cW{H:Nat->Nat->Nat->List PS->Option Value}{i ver ep cb:Nat}{p:List PS}(h:p=[]\/ep=cb):aJ H i ver ep p=aJ H i ver cb p:=by
 rcases h with rfl|rfl<;>rfl
theorem Fit.node{κ:Nat->au}{w:World}{G:Gh}(ak:Fit G w κ){i ver ep:Nat}{d nd:DV}{p:List PS}(hk:κ i=.tree ver ep d)(hp:get d p=some nd)(ho:nd.ar=true):
 ∃v,aJ G.H i ver ep p=some v/\v.oneCell'=true/\cG G.M w v (fun s=>aJ G.H i ver ep (p++[s])) nd:=by
 have hb:=ak.box i
 rw[hk]at hb
 exact hb.1.2 p nd hp ho
theorem zp{G:Gh}{i ver ep:Nat}{p:List PS}{s:PS}{d:DV}{u:Value}(hc:d.aj=true)(h:dD G.M (aJ G.H i ver ep (p++[s])) d u)(hu:d.ar=true->u.oneCell'=true):aG G (vF i ver ep p s d) u:=by
 rcases h with⟨h1,h2⟩|⟨h1,h2⟩
 ·simp[vF,h1,cond_true];exact .own _ _ _ _ _ h2 (hu h1)
 ·simp[vF,h1,cond_false];exact .dv h2
theorem zq{i ver ep:Nat}{p:List PS}{idx:Nat}:∀{l:List DV} {s j:Nat} {v:AV},(lj i ver ep p idx s l)[j]?=some v->∃d,l[j]?=some d/\v=vF i ver ep p (.el idx (s+j)) d
 |[],s,j,v,h=>by simp[lj]at h
 |d::l,s,0,v,h=>by simp[lj]at h;grind
 |d::l,s,j+1,v,h=>by
  simp[lj,List.getElem?_cons_succ]at h
  obtain⟨d',h1,h2⟩:=zq h
  grind
theorem od{i ver ep:Nat}{p:List PS}{idx:Nat}:∀{l:List DV} {s:Nat},(lj i ver ep p idx s l).length=l.length
 |[],s=>rfl
 |d::l,s=>by simp[lj,od]
theorem zr{i ver ep:Nat}{p:List PS}{kk:DV}:∀{l:List DV} {s j:Nat} {v:AV},(lk i ver ep p kk s l)[j]?=some v->∃d,l[j]?=some d/\v=vF i ver ep p (.key kk (s+j)) d
 |[],s,j,v,h=>by simp[lk]at h
 |d::l,s,0,v,h=>by simp[lk]at h;grind
 |d::l,s,j+1,v,h=>by
  simp[lk,List.getElem?_cons_succ]at h
  obtain⟨d',h1,h2⟩:=zr h
  grind
theorem oe{i ver ep:Nat}{p:List PS}{kk:DV}:∀{l:List DV} {s:Nat},(lk i ver ep p kk s l).length=l.length
 |[],s=>rfl
 |d::l,s=>by simp[lk,oe]
theorem Fit.cells{κ:Nat->au}{w:World}{G:Gh}(ak:Fit G w κ){i ver ep:Nat}{d nd:DV}{p:List PS}(hk:κ i=.tree ver ep d)(hp:get d p=some nd){sz idx:Nat}{K:List AV->Prop}{A:Addr}
 (hA:aJ G.H i ver ep p=some (.pointer (some A))\/∃m c,aJ G.H i ver ep p=some (.slice (some A) m c)) {l:List AV} (hl:(∃l0 x,nd=.aC sz l0/\l0[idx]?=some x/\l=lj i ver ep p idx 0 x.cells)\/(∃x,nd=.gu x/\idx=0/\l=lj i ver ep p 0 0 x.cells)):
 ∃vs:Nat->Value,(∀j,j<l.length->w.cell? ((A.add (idx*sz)).add j)=some (vs j))/\∀(j:Nat) (d:AV),l[j]?=some d->aG G d (vs j):=by
 have gS:∀s c u,step nd s=some c->c.ar=true->aJ G.H i ver ep (p++[s])=some u->u.oneCell'=true:=by
  intro s c u hs hc hu
  obtain⟨v,h1,h2,_⟩:=ak.node hk (p:=p++[s]) (by grind [get_append,get]) hc
  grind
 rcases hl with⟨l0,x,rfl,hx,rfl⟩|⟨x,rfl,rfl,rfl⟩
 ·obtain⟨v,h1,h2,bn⟩:=ak.node hk hp rfl
  rcases bn with⟨rfl,_⟩|⟨gb,ob,cap,c,t,rfl,dY,hw,bz,su⟩
  ·grind
  ·have hAe:A=⟨gb,ob,none⟩:=by
    grind
   subst hAe
   obtain⟨a1,a2⟩:=su idx x hx
   refine⟨fun j=>c.getD (ob+idx*sz+j) undef,fun j hj=>?_,fun j dd hd=>?_⟩
   ·rw[od]at hj
    obtain⟨_,u,b1,_⟩:=a2 j _ (aaS hj)
    rw[cJ,eN]
    simp only[World.cell?,hw]
    rw[show ob+(idx*sz+j)=ob+idx*sz+j by omega,acu,b1]
    rfl
   ·obtain⟨d0,e1,rfl⟩:=zq hd
    obtain⟨b0,u,b1,b2⟩:=a2 j d0 e1
    show aG G _ (c.getD (ob+idx*sz+j) undef)
    rw[acu,b1,Nat.zero_add]
    refine zp b0 b2 fun ho=>?_
    rcases b2 with⟨_,b2⟩|⟨b2,_⟩
    ·grind [step]
    grind
 ·obtain⟨v,h1,h2,bn⟩:=ak.node hk hp rfl
  obtain⟨gb,c,t,rfl,hw,bz,su⟩:=bn
  have hAe:A=⟨gb,0,none⟩:=by
   grind
  subst hAe
  refine⟨fun j=>c.getD j undef,fun j hj=>?_,fun j dd hd=>?_⟩
  ·simp_all [od,cJ,eN,World.cell?,acu]
  ·obtain⟨d0,e1,rfl⟩:=zq hd
   obtain⟨b0,u,b1,b2⟩:=su j d0 e1
   show aG G _ (c.getD j undef)
   rw[acu,b1,Nat.zero_add]
   refine zp b0 b2 fun ho=>?_
   rcases b2 with⟨_,b2⟩|⟨b2,_⟩
   ·exact gS _ d0 u (by assumption) ho b2
   grind
theorem El(hT:fh P T){t i ver ep cb sz idx off:Nat}{p:List PS}{x:Operand}{d:DV}(hg:b8 ρ ops o.guard=some gd)(ho:o.op=.load t x)(cw:(nth T t).ok=true)
 (hb:κ i=.tree ver cb d) (eW:p=[]\/ep=cb)
 (hk:jY gd d p fun nd=>kF i ver cb p gd sz idx nd fun l=>cq (nth T t).agg l off (nth T t).size fun v=>aY n o gd nx k v [i]) (bR:bJ ρ κ gd x (.loc i ver ep p sz idx off)):Good P C ops n o nx ρ κ k:=by
 obtain⟨nd,hk,dS⟩:=bX hk
 have NH:∃l,(cq (nth T t).agg l off (nth T t).size fun v=>aY n o gd nx k v [i])/\(gd=true->(∃l0 x,nd=.aC sz l0/\l0[idx]?=some x/\l=lj i ver cb p idx 0 x.cells)\/(∃x,nd=.gu x/\idx=0/\l=lj i ver cb p 0 0 x.cells)):=by
  unfold kF at hk
  split at hk
  ·rename_i oX l0
   cases hs:Nat.beq sz oX with
   |false=>grind
   |true=>
    rw[hs]at hk
    have:=acm hs
    grind
  ·rename_i x
   cases hs:Nat.beq idx 0 with
   |false=>grind
   |true=>
    rw[hs]at hk
    exact⟨_,hk,fun _=>.inr ⟨x,rfl,acm hs,rfl⟩⟩
  grind
 obtain⟨l,hk,hl⟩:=NH
 obtain⟨av,hk,hp⟩:=eb hk
 refine bC (fun c=>by grind) hg hk fun ρ' κ' ax g a w G ak aV=>?_
 have hv:=bR ρ' κ' (ax.op (by grind [Op.operands])) g n a w G ak aV
 have key:∀A,a.eval x=.pointer (some (A.add (idx*sz+off)))->(aJ G.H i ver ep p=some (.pointer (some A))\/∃m c,aJ G.H i ver ep p=some (.slice (some A) m c))->∃v,(execOp a.eval o).run P w=.ok (.value v) w/\aG G av v:=by
  intro A hx hA
  rw[cW eW]at hA
  obtain⟨vs,h1,h2⟩:=ak.fit.cells (K:=fun _=>True) ((ax.reads i (by simp)).trans hb) (dS aV) hA (hl aV)
  obtain⟨v,h3,h4⟩:=k6 hT cw (A.add (idx*sz)) vs h1 h2 hp
  grind [cJ,execOp,Sem.run_bind,Result.andThen_ok,Sem.run_pure]
 generalize hx:a.eval x=v at hv
 cases hv with
 |loc _ _ _ _ _ _ _ A m c h=>exact key A hx (.inr ⟨m,c,h⟩)
 |qE _ _ _ _ _ _ _ A h=>grind
end
end
end Go.TM
