import Derived.Test.YtfpebgpgabjieaaGreatDoorGM3
import Derived.OrdersIn
import Derived.TacticsIn
import Derived.OwnWalkIn
import Derived.RangeFuncLeaves
set_option linter.all false
namespace Go.TM
set_option maxHeartbeats 1000000
section
open Go.RowKit
variable [cq]
def aF{γ:Type _}(f:Nat->γ):List (Nat×γ)->Nat->γ
 |[]=>f
 |(i,x)::r=>jq (aF f r) i x
theorem beq_false{i t:Nat}(h:t≠i):Nat.beq i t=false:=by
 grind [Nat.beq,absurd,Nat.eq_of_beq_eq_true]
theorem kK:∀(l:List (Nat×AV)) (env:Env),look (LW l env)=aF (look env) l
 |[],_=>rfl
 |(i,x)::r,env=>by
  funext t
  simp only[LW,look,aF,jq,kK r env]
  by_cases h:t=i
  ·subst h;simp
  simp_all [beq_false]
theorem fW:∀(l:List (Nat×az)) (K:ad),aa (xB l K)=aF (aa K) l
 |[],_=>rfl
 |(i,x)::r,K=>by
  funext t
  simp only[xB,aa,aF,jq,fW r K]
  by_cases h:t=i
  ·subst h;simp
  simp_all [beq_false]
def WC:AV->List Nat
 |.own i _ _ _=>[i]
 |.loc i _ _ _ _ _ _=>[i]
 |.pre i _ _ _ _ _ _=>[i]
 |.opt _ v=>WC v
 |.cz i _=>[i]
 |_=>[]
def YB(ρ:Nat->AV):Operand->List Nat
 |.tmp t=>WC (ρ t)
 |_=>[]
def Nj(ρ:Nat->AV)(o:Oper):List Nat:=o.op.operands.toList.flatMap fun| .tmp t=>WC (ρ t)|_=>[]
def acT:az->Bool
 |.tree _ _ _=>true
 |_=>false
def mvT(κ:Nat->az):AV->Bool
 |.own i _ _ _=>acT (κ i)
 |_=>false
def j6(ρ:Nat->AV)(κ:Nat->az)(o:Oper):List Nat:=match o.op with
 |.move (.tmp t)=>bif mvT κ (ρ t)then[]else Nj ρ o
 |_=>Nj ρ o
theorem Ra{M:Mem}{v:Value}{d:DV}(h:P4 v=some d):bu M d v/\d.ao=true/\d.au=false:=by
 unfold P4 at h
 split at h<;>first|(injection h with h;subst h;exact⟨by constructor,rfl,rfl⟩)|grind
theorem ey{M:Mem}:∀{l:List Value} {ds:List DV},pT l=some ds->fP M ds l/\∀d,d∈ds->d.ao=true/\d.au=false
 |[],ds,h=>by simp[pT]at h;subst h;exact⟨.nil M,by simp⟩
 |v::r,ds,h=>by
  simp[pT]at h
  split at h
  ·rename_i d l h1 h2
   injection h with h;subst h
   obtain⟨a,b⟩:=Ra h1
   obtain⟨c,e⟩:=ey h2
   exact⟨.cons a c,by grind⟩
  grind
theorem r9(l:List DV):eP l=l.map .dv:=by
 induction l with
 |nil=>rfl
 |cons d r ih=>simp[eP,ih]
theorem oc(l:List DV):(eP l).length=l.length:=by simp[r9]
theorem Rb{l:List DV}{j:Nat}{v:AV}(h:(eP l)[j]?=some v):∃d,l[j]?=some d/\v=.dv d:=by
 rw[r9,adQ]at h
 grind
theorem jw{G:Gh}{l:List DV}{vs:List Value}(h:fP G.M l vs):cC G (eP l) vs:=by
 refine⟨by rw[oc];exact h.1,fun j d v hd hv=>?_⟩
 obtain⟨d',h1,rfl⟩:=Rb hd
 exact .dv (h.2 j d' v h1 hv)
theorem U7(G:Gh)(v:Value):aI G (P7 v) v:=by
 unfold P7
 split<;>first
  |exact .dv (by constructor)
  |exact .any _
  |skip
 rename_i cs
 split
 ·rename_i l hl
  obtain⟨h1,_⟩:=ey hl
  have h2:=jw (G:=G) h1
  have:=aI.agg _ cs.toList h2.1 h2.2
  simp_all
 ·exact .any _
section
variable {g:dY} {n:Nat} {ρ:Nat->AV} {κ:Nat->az} {a:Act} {w:World} {G:Gh}
theorem xV(h:Fit G w κ){v:AV}{x:Value}(hv:aI G v x):aI G (res κ v) x:=by
 cases v with
 |own i ver ep p=>
  simp[res]
  split
  ·rename_i v' e' d hk
   cases hb:Nat.beq ver v'&&(emp p||Nat.beq ep e')with
   |true=>grind
   |false=>exact .any _
  ·rename_i v' d hk
   cases hb:Nat.beq ver v'&&emp p with
   |false=>exact .any _
   |true=>
    simp only[aep]at hb
    have Rc:=adS hb.1
    subst Rc
    have hx:=h.box i
    rw[hk]at hx
    obtain⟨u,h1,h2,h3⟩:=hx
    cases p with
    |cons=>simp[emp]at hb
    |nil=>cases hv with
     |own _ _ _ _ _ he hc=>simp[aV]at he;rw[h1]at he;injection he with he;subst he;exact .dv h3
  ·exact .any _
 |loc i ver ep p sz idx off=>
  simp[res]
  cases hb:cur _ ver ep p with
  |true=>grind
  |false=>exact .any _
 |pre i ver ep p sz idx off=>
  simp[res]
  cases hb:cur _ ver ep p with
  |true=>grind
  |false=>exact .any _
 |cz i ver=>
  simp[res]
  split
  ·rename_i v' e' d hk
   cases hb:Nat.beq ver v' with
   |true=>grind
   |false=>exact .any _
  ·rename_i v' d hk
   cases hb:Nat.beq ver v' with
   |false=>exact .any _
   |true=>
    have Rc:=adS hb
    subst Rc
    have hx:=h.box i
    rw[hk]at hx
    obtain⟨u,h1,h2,h3⟩:=hx
    cases hv with
    |cz _ _ a n he=>rw[h1]at he;injection he with he;subst he;exact .dv h3
  ·exact .any _
 |_=>exact hv
theorem AZ{v:AV}{x:Value}(hv:aI G v x):aI G (dn v) x:=by
 cases v with
 |cz i ver=>cases hv with|cz _ _ a n he=>exact .own i ver 0 [] _ he rfl
 |_=>exact hv
theorem BV{κ κ':Nat->az}{v:AV}(h:∀i,i∈WC v->κ' i=κ i):res κ' v=res κ v:=by
 cases v with
 |own i ver ep p=>grind [res,WC]
 |loc i ver ep p sz idx off=>grind [res,WC]
 |pre i ver ep p sz idx off=>grind [res,WC]
 |cz i ver=>grind [res,WC]
 |_=>rfl
theorem U8{κ:Nat->az}{u:AV}{g:Bool}{v:AV}(h:res κ u=.opt g v):u=.opt g v:=by
 cases u with
 |own i ver ep p=>
  grind [res,Nat.beq,emp]
 |loc i ver ep p sz idx off=>grind [res,cur]
 |pre i ver ep p sz idx off=>grind [res,cur]
 |cz i ver=>
  grind [res,Nat.beq]
 |opt g' v'=>exact h
 |_=>cases h
def Jz(ρ ρ':Nat->AV)(κ κ':Nat->az)(x:Operand):Prop:=(∀t,x=.tmp t->ρ' t=ρ t)/\∀i,i∈YB ρ x->κ' i=κ i
def bJ(ρ:Nat->AV)(κ:Nat->az)(gd:Bool)(x:Operand)(av:AV):Prop:=
 ∀ρ' κ',Jz ρ ρ' κ κ' x->∀(g:dY) (n:Nat) (a:Act) (w:World) (G:Gh),cA g n ρ' κ' a w G->gd=true->aI G av (a.eval x)
theorem bJ.dn{gd:Bool}{x:Operand}{av:AV}(h:bJ ρ κ gd x av):bJ ρ κ gd x (dn av):=fun ρ' κ' aA g n a w G ak aY=>AZ (h ρ' κ' aA g n a w G ak aY)
theorem A9{x:Operand}:∀ρ' κ',Jz ρ ρ' κ κ' x->∀(g:dY) (n:Nat) (a:Act) (w:World) (G:Gh),cA g n ρ' κ' a w G->aI G (ev ρ κ x) (a.eval x):=by
 intro ρ' κ' aA g n a w G ak
 cases x with
 |tmp t=>
  have h1:=xV ak.fit (ak.env t)
  rw[aA.1 t rfl]at h1
  simp[ev]
  rwa[<-BV (fun i hi=>aA.2 i hi)]
 |const v=>exact U7 G v
 |func f=>exact .fn f [] [] rfl (by simp)
 |global i=>
  simp[ev]
  split
  ·rename_i x hx
   exact .dv (cq.ok i x hx G.M (ak.o7.mono ak.mem))
  ·exact .any _
theorem Re{v:Value}{g:Bool}{u:AV}(h:P7 v=.opt g u):False:=by
 unfold P7 at h
 grind
theorem GU{x:Operand}{g':Bool}{v:AV}(he:ev ρ κ x=.opt g' v){gd:Bool}(hg:gd=true->g'=true):bJ ρ κ gd x (res κ v):=by
 intro ρ' κ' aA g n a w G ak aY
 have h1:=A9 ρ' κ' aA g n a w G ak
 rw[he]at h1
 have sC:=hg aY
 subst sC
 have h4:aI G v (a.eval x):=by generalize a.eval x=y at h1;cases h1 with|opt _ _ _ h3 hu=>grind
 have h6:=xV ak.fit h4
 have vG:res κ' v=res κ v:=by
  refine BV fun i hi=>aA.2 i ?_
  cases x with
  |tmp t=>
   simp[YB]
   simp[ev]at he
   rwa[U8 he]
  |const v=>exact(Re he).elim
  |func f=>cases he
  |global i=>grind [ev]
 grind
theorem aK{gd:Bool}{x:Operand}{k:AV->Prop}(h:ex ρ κ gd x k):∃av,k av/\bJ ρ κ gd x av:=by
 unfold ex at h
 split at h
 ·grind [force_eq,res,GU]
 ·rw[force_eq]at h
  exact⟨ev ρ κ x,h,fun ρ' κ' aA g n a w G ak _=>A9 ρ' κ' aA g n a w G ak⟩
end
def iO(F:Fence):Prop:=F=Fence.wide\/∃l,F=Fence.wide.inRound l
theorem iB:iO Fence.wide:=.inl rfl
theorem wide_round(l:Nat):iO (Fence.wide.inRound l):=.inr ⟨l,rfl⟩
theorem iO.fn{F:Fence}(h:iO F)(f:FuncId):F.fn f:=by rcases h with rfl|⟨l,rfl⟩<;>exact trivial
theorem iO.depth{F:Fence}(h:iO F):F.depth=none:=by rcases h with rfl|⟨l,rfl⟩<;>rfl
theorem iO.calls{F:Fence}(h:iO F){n:Nat}{P:Program}{f:FuncId}{args:Array Value}{w:World}{R:Ending->World->Prop}:CallsIn F n P f args w R↔Calls P f args w R:=by
 rcases h with rfl|⟨l,rfl⟩
 ·exact callsIn_wide
 ·exact callsIn_wide
theorem iO.round{F:Fence}(h:iO F){n:Nat}{P:Program}{l:Nat}{f:FuncId}{tmps:Array Value}{assign body:Code}{w:World}{R:Ending->World->Prop}:RoundIn F n P l f tmps assign body w R↔RoundIn Fence.wide n P l f tmps assign body w R:=by
 rcases h with rfl|⟨l,rfl⟩
 ·grind
 rfl
def nI(P:Program)(F:Fence)(ops:Array Oper)(o:Oper)(a:Act)(w:World)(K:Act->World->Prop):Prop:=
 if Region.wanted o (yielded ops a.tmps)=true then o.wpIn F 0 P a w K (fun _ _ _=>False)else K (a.put o.dst undef) w
structure Es(ops:List Oper)(o:Oper)(ρ ρ':Nat->AV)(κ κ':Nat->az)(rd:List Nat)(bx:List (Nat×az)):Prop where
 cn:∀t,t∈o.looksAt ops.toArray->ρ' t=ρ t
 rows:∀i,i∈j6 ρ κ o->κ' i=κ i
 reads:∀i,i∈rd->κ' i=κ i
 boxes:∀i b,(i,b)∈bx->κ' i=κ i
def Te(P:Program)(C:dY->Prop)(ops:List Oper)(n lo:Nat)(o:Oper)(ρ:Nat->AV)(κ:Nat->az)(cg:lQ):Prop:=
 ∀F,iO F->∀ρ' κ',Es ops o ρ ρ' κ κ' cg.reads cg.box->∀(g:dY) (a:Act) (w:World),g.m<=lo/\C g->St g n ρ' κ' a w->
  nI P F ops.toArray o a w fun a' w'=>St g n (aF ρ' cg.dst) (aF κ' cg.box) a' w'
def Good(P:Program)(C:dY->Prop)(ops:List Oper)(n:Nat)(o:Oper)(nx:Nat)(ρ:Nat->AV)(κ:Nat->az)(k:lQ->Nat->Prop):Prop:=
 ∃cg fC,k cg fC/\nx<=fC/\(∀p,p∈cg.box->p.1<fC)/\Te P C ops n nx o ρ κ cg
section
variable {P:Program} {C:dY->Prop} {ops:List Oper} {n:Nat} {o:Oper} {nx fC:Nat} {ρ ρ':Nat->AV} {κ κ':Nat->az} {k:lQ->Nat->Prop} {rd:List Nat} {bx:List (Nat×az)}
theorem U9(hm:∀y,o.op≠.move y):j6 ρ κ o=Nj ρ o:=by
 grind [j6,absurd]
theorem Es.opR(h:Es ops o ρ ρ' κ κ' rd bx){x:Operand}(hx:x∈o.op.operands)(hm:j6 ρ κ o=Nj ρ o):Jz ρ ρ' κ κ' x:=by
 have Eu:x∈o.op.operands.toList:=by grind
 constructor
 ·rintro t rfl
  refine h.cn t ?_
  unfold Oper.looksAt
  grind
 ·intro i hi
  refine h.rows i ?_
  grind [Nj,YB]
theorem Es.op(h:Es ops o ρ ρ' κ κ' rd bx){x:Operand}(hx:x∈o.op.operands)(hm:∀y,o.op≠.move y:=by have hh:=‹o.op=_›;intro y hy;rw[hh]at hy;cases hy):Jz ρ ρ' κ κ' x:=h.opR hx (U9 hm)
theorem JA{a:Act}{d j:Nat}(hj:(ops[j]?).bind (·.dst)=some d):yielded ops.toArray a.tmps j=match a.tmps[d]? with|some (.bool b)=>some b|_=>none:=by
 grind [yielded,bind]
theorem cB{g:dY}{a:Act}{w:World}{G:Gh}{gd:Bool}(hg:b9 ρ ops o.guard=some gd)
 (aA:∀t,t∈o.looksAt ops.toArray->ρ' t=ρ t) (h:cA g n ρ' κ' a w G):Region.wanted o (yielded ops.toArray a.tmps)=gd:=by
 unfold b9 at hg
 unfold Region.wanted
 split at hg
 ·grind
 ·rename_i j want hs
  rw[hs]
  split at hg
  ·rename_i d hd
   have hr:=by
    refine aA d ?_
    grind [Oper.looksAt]
   have hv:=h.env d
   rw[hr]at hv
   have ur:∀b,a.tmps.getD d undef=.bool b->a.tmps[d]?=some (.bool b):=by
    intro b hb
    rw[adZ]at hb
    cases hc:a.tmps[d]? with
    |none=>rw[hc]at hb;cases hb
    |some v=>grind
   simp[JA hd]
   split at hg
   ·rename_i b hb
    rw[hb]at hv
    injection hg with hg
    cases hv with
    |dv lX=>
     generalize hx:a.tmps.getD d undef=x at lX
     cases lX with
     |bool=>
      rw[ur b hx,<-hg]
      cases b<;>cases want<;>rfl
   ·rename_i gg b hb
    rw[hb]at hv
    injection hg with hg
    generalize hx:a.tmps.getD d undef=x at hv
    cases hv with
    |opt _ _ _ h1 h2=>
     cases gg with
     |true=>
      cases(h1 rfl)with
      |dv lX=>cases lX with
       |bool=>
        rw[ur b hx,<-hg]
        cases b<;>cases want<;>rfl
     |false=>
      rw[<-hg]
      have:∀b,a.tmps[d]?≠some (.bool b):=by
       intro b hc
       have:a.tmps.getD d undef=.bool b:=by simp_all
       rw[hx,(h2 rfl)]at this;cases this
      grind
   grind
  grind
theorem hU{F:Fence}(hF:iO F){a:Act}{w w':World}{v:Value}{K:Act->World->Prop}{Q:Exit->Act->World->Prop}(hd:∀c,o.op≠.defer c)
 (bH:(execOp a.eval o).run P w=.ok (.value v) w') (hk:K (a.put o.dst v) w'):o.wpIn F 0 P a w K Q:=by
 refine⟨fun f _=>hF.fn f,?_⟩
 rwa[Oper.semAt_plain F _ _ hd,bH]
theorem zB{F:Fence}(hF:iO F){a:Act}{w w':World}{K:Act->World->Prop}{Q:Exit->Act->World->Prop}(hd:∀c,o.op≠.defer c)
 (bH:(execOp a.eval o).run P w=.ok .skip w') (hk:K (a.put o.dst undef) w'):o.wpIn F 0 P a w K Q:=by
 refine⟨fun f _=>hF.fn f,?_⟩
 rwa[Oper.semAt_plain F _ _ hd,bH]
theorem bB{gd:Bool}{av:AV}(hd:∀c,o.op≠.defer c)(hg:b9 ρ ops o.guard=some gd)(hk:bl n o gd nx k av rd)
 (h:∀ρ' κ',Es ops o ρ ρ' κ κ' rd []->∀(g:dY) (a:Act) (w:World) (G:Gh),cA g n ρ' κ' a w G->gd=true->
  ∃v,(execOp a.eval o).run P w=.ok (.value v) w/\aI G av v):Good P C ops n o nx ρ κ k:=by
 unfold bl at hk
 split at hk
 ·rename_i lX hn
  refine⟨_,_,hk,aei _,by simp,fun F hF ρ' κ' aA g a w dN ⟨G,ak⟩=>?_⟩
  have sC:gd=true:=by rw[hn]at hg;injection hg with hg;grind
  obtain⟨v,bH,_⟩:=h ρ' κ' aA g a w G ak sC
  unfold nI
  rw[cB hg aA.cn ak,sC,if_pos rfl]
  exact hU hF hd bH ⟨G,by rwa[lX]⟩
 ·grind
 ·rename_i d lX hn
  cases ay:Nat.blt d n with
  |false=>grind
  |true=>
   rw[ay]at hk
   refine⟨_,_,hk,aei _,by simp,fun F hF ρ' κ' aA g a w dN ⟨G,ak⟩=>?_⟩
   have sC:gd=true:=by rw[hn]at hg;injection hg with hg;grind
   obtain⟨v,bH,hv⟩:=h ρ' κ' aA g a w G ak sC
   unfold nI
   rw[cB hg aA.cn ak,sC,if_pos rfl]
   exact hU hF hd bH ⟨G,by rw[lX];exact ak.put (by simp_all) hv⟩
 ·rename_i d j lX hn
  cases ay:Nat.blt d n with
  |false=>grind
  |true=>
   rw[ay]at hk
   have rG:=by rwa[Nat.blt_eq]at ay
   refine⟨_,_,hk,aei _,by simp,fun F hF ρ' κ' aA g a w dN ⟨G,ak⟩=>?_⟩
   unfold nI
   rw[cB hg aA.cn ak]
   cases gd with
   |true=>
    obtain⟨v,bH,hv⟩:=h ρ' κ' aA g a w G ak rfl
    rw[if_pos rfl]
    exact hU hF hd bH ⟨G,by rw[lX];exact ak.put rG (.opt true av v (fun _=>hv) (by simp))⟩
   |false=>
    simp[lX]
    exact⟨G,ak.put rG (.opt false av undef (by simp) (fun _=>rfl))⟩
theorem GV{gd:Bool}{av:AV}(hd:∀c,o.op≠.defer c)(hg:b9 ρ ops o.guard=some gd)(hk:dQ n o fC k av bx rd)(dD:nx<=fC)(fF:∀p,p∈bx->p.1<fC)
 (h:∀ρ' κ',Es ops o ρ ρ' κ κ' rd bx->∀(F:Fence),iO F->∀(g:dY) (a:Act) (w:World) (G:Gh),g.m<=nx/\C g->cA g n ρ' κ' a w G->gd=true->∀(K:Act->World->Prop),
  (∀v w' G',cA g n ρ' (aF κ' bx) a w' G'->aI G' av v->K (a.put o.dst v) w')->o.wpIn F 0 P a w K (fun _ _ _=>False)):Good P C ops n o nx ρ κ k:=by
 unfold dQ at hk
 split at hk
 ·rename_i hgu lX
  have sC:gd=true:=by rw[hgu]at hg;injection hg with hg;grind
  refine⟨_,_,hk,dD,fF,fun F hF ρ' κ' aA g a w dN ⟨G,ak⟩=>?_⟩
  unfold nI
  rw[cB hg aA.cn ak,sC,if_pos rfl]
  refine h ρ' κ' aA F hF g a w G dN ak sC _ fun v w' G' h1 _=>⟨G',?_⟩
  rwa[lX]
 ·rename_i d hgu lX
  cases ay:Nat.blt d n with
  |false=>grind
  |true=>
   rw[ay]at hk
   have sC:gd=true:=by rw[hgu]at hg;injection hg with hg;grind
   refine⟨_,_,hk,dD,fF,fun F hF ρ' κ' aA g a w dN ⟨G,ak⟩=>?_⟩
   unfold nI
   rw[cB hg aA.cn ak,sC,if_pos rfl]
   refine h ρ' κ' aA F hF g a w G dN ak sC _ fun v w' G' h1 h2=>⟨G',?_⟩
   rw[lX];exact h1.put (by simp_all) h2
 grind
theorem E7{gd:Bool}{av:AV}(hd:∀c,o.op≠.defer c)(hg:b9 ρ ops o.guard=some gd)(hk:yh n o gd fC k av bx rd)(dD:nx<=fC)(fF:∀p,p∈bx->p.1<fC)
 (h:∀ρ' κ',Es ops o ρ ρ' κ κ' rd bx->∀(F:Fence),iO F->∀(g:dY) (a:Act) (w:World) (G:Gh),g.m<=nx/\C g->cA g n ρ' κ' a w G->gd=true->∀(K:Act->World->Prop),
  (∀v w' G',cA g n ρ' (aF κ' bx) a w' G'->aI G' av v->K (a.put o.dst v) w')->o.wpIn F 0 P a w K (fun _ _ _=>False)):Good P C ops n o nx ρ κ k:=by
 unfold yh at hk
 split at hk
 ·grind [GV]
 ·obtain⟨sC,hk⟩:=hk
  split at hk
  ·rename_i lX
   refine⟨_,_,hk,dD,fF,fun F hF ρ' κ' aA g a w dN ⟨G,ak⟩=>?_⟩
   unfold nI
   rw[cB hg aA.cn ak,sC,if_pos rfl]
   refine h ρ' κ' aA F hF g a w G dN ak sC _ fun v w' G' h1 _=>⟨G',?_⟩
   rwa[lX]
  ·rename_i d lX
   cases ay:Nat.blt d n with
   |false=>grind
   |true=>
    rw[ay]at hk
    refine⟨_,_,hk,dD,fF,fun F hF ρ' κ' aA g a w dN ⟨G,ak⟩=>?_⟩
    unfold nI
    rw[cB hg aA.cn ak,sC,if_pos rfl]
    refine h ρ' κ' aA F hF g a w G dN ak sC _ fun v w' G' h1 h2=>⟨G',?_⟩
    rw[lX];exact h1.put (by simp_all) (.opt true av v (fun _=>h2) (by simp))
theorem Ly{gd:Bool}{av:AV}(hd:∀c,o.op≠.defer c)(hg:b9 ρ ops o.guard=some gd)(hk:dQ n o fC k av bx rd)(dD:nx<=fC)(fF:∀p,p∈bx->p.1<fC)
 (h:∀ρ' κ',Es ops o ρ ρ' κ κ' rd bx->∀(F:Fence),iO F->∀(g:dY) (a:Act) (w:World) (G:Gh),g.m<=nx->cA g n ρ' κ' a w G->gd=true->∀(K:Act->World->Prop),
  (∀v w' G',cA g n ρ' (aF κ' bx) a w' G'->aI G' av v->K (a.put o.dst v) w')->o.wpIn F 0 P a w K (fun _ _ _=>False)):Good P C ops n o nx ρ κ k:=
 GV hd hg hk dD fF fun ρ' κ' aA F hF g a w G dN=>h ρ' κ' aA F hF g a w G dN.1
theorem de{gd:Bool}{av:AV}(hd:∀c,o.op≠.defer c)(hg:b9 ρ ops o.guard=some gd)(hk:dQ n o fC k av bx rd)(dD:nx<=fC)(fF:∀p,p∈bx->p.1<fC)
 (h:∀ρ' κ',Es ops o ρ ρ' κ κ' rd bx->∀(g:dY) (a:Act) (w:World) (G:Gh),g.m<=nx->cA g n ρ' κ' a w G->gd=true->
  ∃v w' G',((execOp a.eval o).run P w=.ok (.value v) w'\/(execOp a.eval o).run P w=.ok .skip w'/\v=undef)/\cA g n ρ' (aF κ' bx) a w' G'/\aI G' av v):Good P C ops n o nx ρ κ k:=by
 refine Ly hd hg hk dD fF fun ρ' κ' aA F hF g a w G dN ak aY K hK=>?_
 obtain⟨v,w',G',hr,h1,h2⟩:=h ρ' κ' aA g a w G dN ak aY
 rcases hr with hr|⟨hr,rfl⟩
 ·grind [hU]
 grind [zB,undef]
theorem Rf{gd:Bool}{av:AV}(hd:∀c,o.op≠.defer c)(hg:b9 ρ ops o.guard=some gd)(hk:yh n o gd fC k av bx rd)(dD:nx<=fC)(fF:∀p,p∈bx->p.1<fC)
 (h:∀ρ' κ',Es ops o ρ ρ' κ κ' rd bx->∀(g:dY) (a:Act) (w:World) (G:Gh),g.m<=nx->cA g n ρ' κ' a w G->gd=true->
  ∃v w' G',((execOp a.eval o).run P w=.ok (.value v) w'\/(execOp a.eval o).run P w=.ok .skip w'/\v=undef)/\cA g n ρ' (aF κ' bx) a w' G'/\aI G' av v):Good P C ops n o nx ρ κ k:=by
 refine E7 hd hg hk dD fF fun ρ' κ' aA F hF g a w G dN ak aY K hK=>?_
 obtain⟨v,w',G',hr,h1,h2⟩:=h ρ' κ' aA g a w G dN.1 ak aY
 rcases hr with hr|⟨hr,rfl⟩
 ·grind [hU]
 grind [zB,undef]
theorem TP{gd:Bool}{av:AV}(hg:o.guard=none)(h:dQ n o nx k av bx rd):yh n o gd nx k av bx rd:=by
 grind [yh]
end
end
section
open Go.RowKit
variable [cq]
theorem cQ(a:Addr)(i j:Nat):(a.add i).add j=a.add (i+j):=by
 grind [Addr.add,Nat.add_assoc]
theorem fe(b o k:Nat):(⟨b,o,none⟩:Addr).add k=⟨b,o+k,none⟩:=by grind [Addr.add]
section
variable {P:Program} {C:dY->Prop} {T:List TI}
structure gH(P:Program)(t:Nat)(ti:TI)(i:TypeInfo)(u:TypeDesc)(z:Value):Prop where
 info:P.info? t=some i
 Cv:P.underlying t=some u
 zero:i.zero=some z
 zc:pT z.cells.toList=some ti.zero
 zl:ti.zero.length=i.size
 size:ti.size=i.size
 bytes:ti.bytes=i.bytes
 agg:ti.agg=K6 u
 fields:ti.fields=fieldsOf P u
 isSl:ti.isSl=MG u
 isStr:ti.isStr=strOf u
 elem:ti.elem=P5 u
 kind:ti.kind=kindOf u
 key:ti.key=keyOf u
 CI:ti.CI=IY u
 N0:ti.N0=Kt u
 fin:yU P u=true
 dG:gD z=K6 u
 pair:ti.pair=(Ip P u&& !P.stoodInHeld t)
 len:ti.len=lenOf u
 Xl:ti.Xl=P6 P t i.size u
theorem fD.facts(hT:fD P T){t:Nat}(h:(nth T t).ok=true):∃i u z,gH P t (nth T t) i u z:=by
 have e:=hT t h
 unfold TI.of at e
 split at e
 ·rename_i i u hi hu
  have h1:=congrArg TI.ok e
  rw[h]at h1
  have h1:=h1.symm
  simp[aep]at h1
  obtain⟨po,h1⟩:=h1
  have h1:=h1.symm
  split at h1
  ·rename_i z hz
   split at h1
   ·exact⟨i,u,z,hi,hu,hz,by grind,by grind,congrArg TI.size e,congrArg TI.bytes e,congrArg TI.agg e,congrArg TI.fields e,congrArg TI.isSl e,congrArg TI.isStr e,congrArg TI.elem e,congrArg TI.kind e,congrArg TI.key e,congrArg TI.CI e,congrArg TI.N0 e,po,by grind,congrArg TI.pair e,congrArg TI.len e,congrArg TI.Xl e⟩
   grind
  grind
 ·have h1:=congrArg TI.ok e
  rw[h]at h1
  cases h1
theorem rq{w:World}{t:TypeId}{i:TypeInfo}(h:P.info? t=some i):(typeInfo t).run P w=.ok i w:=by
 simp[typeInfo,h]
theorem jZ{w:World}{t:TypeId}{i:TypeInfo}(h:P.info? t=some i):(sizeOf t).run P w=.ok i.size w:=by
 simp[sizeOf,rq h]
theorem gH.vl{t:Nat}{ti:TI}{i:TypeInfo}{u:TypeDesc}{z:Value}(h:gH P t ti i u z)(w:World):(isAgg t).run P w=.ok ti.agg w:=by
 simp[isAgg,Sem.run_bind,run_underlying h.Cv,h.agg]
 cases u<;>rfl
theorem gH.gi{t:Nat}{ti:TI}{i:TypeInfo}{u:TypeDesc}{z:Value}(h:gH P t ti i u z)(w:World):(sizeOf t).run P w=.ok ti.size w:=by
 rw[jZ h.info,h.size]
theorem gH.tO{t:Nat}{ti:TI}{i:TypeInfo}{u:TypeDesc}{z:Value}(h:gH P t ti i u z)(w:World):(zeroValue t).run P w=.ok z w:=by
 simp[zeroValue,rq h.info,h.zero]
theorem gH.slice{t:Nat}{ti:TI}{i:TypeInfo}{u:TypeDesc}{z:Value}(h:gH P t ti i u z)(hs:ti.isSl=true):P.underlying t=some (.slice ti.elem):=by
 have h1:=h.isSl
 have h2:=h.elem
 rw[hs]at h1
 cases u<;>simp[MG]at h1<;>simp[P5]at h2
 rw[h.Cv,h2]
theorem gH.string{t:Nat}{ti:TI}{i:TypeInfo}{u:TypeDesc}{z:Value}(h:gH P t ti i u z)(hs:ti.isStr=true):P.underlying t=some .string:=by
 have h1:=h.isStr
 rw[hs]at h1
 cases u<;>simp[strOf]at h1
 exact h.Cv
theorem gH.field{t:Nat}{ti:TI}{i:TypeInfo}{u:TypeDesc}{z:Value}(h:gH P t ti i u z){f off sz:Nat}(hf:ti.fields[f]?=some (off,sz))(h0:sz≠0):
 ∃fs fd,P.underlying t=some (.struct fs)/\fs[f]?=some fd/\fd.offset=off/\∃j,P.info? fd.type=some j/\j.size=sz:=by
 have h1:=h.fields
 cases u with
 |struct fs=>
  simp[fieldsOf]at h1
  rw[h1,adQ]at hf
  cases hx:fs.toList[f]? with
  |none=>grind
  |some fd=>
   simp only[hx,Option.map_some]at hf
   injection hf with hf
   injection hf with e1 e2
   refine⟨fs,fd,h.Cv,by grind,e1,?_⟩
   grind
 |_=>simp[fieldsOf]at h1;rw[h1]at hf;simp at hf
end
section
variable {P:Program} {C:dY->Prop} {T:List TI} {ops:List Oper} {n:Nat} {o:Oper} {nx:Nat} {ρ:Nat->AV} {κ:Nat->az} {k:lQ->Nat->Prop} {gd:Bool}
theorem wg{m:Int}(h:-9223372036854775808<=m/\m<=9223372036854775807):IntKind.i64.wrap m=m:=IntWalk.i64_in m (by omega)
theorem j3{kd:IntKind}{m:Int}{ret:AV->Prop}(h:arith kd m gd ret):∃r,ret (.dv (.int kd r))/\(gd=true->kd.wrap m=r):=by
 unfold arith at h
 split at h
 ·grind [wg]
 grind
theorem iU{w:World}(op:BinOp)(t:TypeId)(x y:Operand)(a b:Value)(h:¬(a=.nilIface/\b=.nilIface))(h2:∀cs ds,¬(a=.agg cs/\b=.agg ds)):(eqGuard op t x y a b).run P w=.ok () w:=by
 simp_all [eqGuard]
theorem zC{w:World}{t:TypeId}(hu:P.underlying t=some .bool)(p q:Bool):(Op.equal t (.bool p) (.bool q)).run P w=.ok (p==q) w:=by
 have h:∀d,(Op.equalIn (d+1) t (.bool p) (.bool q)).run P w=.ok (p==q) w:=fun d=>by simp[Op.equalIn,run_underlying hu]
 grind [Op.equal,Op.maxDepth]
theorem ru{w:World}{t e:TypeId}(hu:P.underlying t=some (.pointer e))(a:Option Addr):(Op.equal t (.pointer a) (.pointer none)).run P w=.ok a.isNone w:=by
 have h:∀d,(Op.equalIn (d+1) t (.pointer a) (.pointer none)).run P w=.ok a.isNone w:=fun d=>by
  cases a<;>simp[Op.equalIn,run_underlying hu]
 grind [Op.equal,Op.maxDepth]
theorem Rg{w:World}{t:TypeId}(hu:P.underlying t=some .bool)(p q:Bool):(binOp .eql t (.bool p) (.bool q)).run P w=.ok (.bool (p==q)) w:=by
 grind [binOp,Sem.run_bind,zC,Result.andThen_ok,Sem.run_pure]
theorem Rh{w:World}{t:TypeId}(hu:P.underlying t=some .bool)(p q:Bool):(binOp .neq t (.bool p) (.bool q)).run P w=.ok (.bool (!(p==q))) w:=by
 grind [binOp,Sem.run_bind,zC,Result.andThen_ok,Sem.run_pure]
theorem wh{w:World}{t e:TypeId}(hu:P.underlying t=some (.pointer e))(a:Option Addr):(binOp .eql t (.pointer a) (.pointer none)).run P w=.ok (.bool a.isNone) w:=by
 grind [binOp,Sem.run_bind,ru,Result.andThen_ok,Sem.run_pure]
theorem wi{w:World}{t e:TypeId}(hu:P.underlying t=some (.pointer e))(a:Option Addr):(binOp .neq t (.pointer a) (.pointer none)).run P w=.ok (.bool (!a.isNone)) w:=by
 grind [binOp,Sem.run_bind,ru,Result.andThen_ok,Sem.run_pure]
theorem GW(hT:fD P T){t:TypeId}(h1:(nth T t).ok=true)(h2:Nat.beq (nth T t).kind 5=true):∃e,P.underlying t=some (.pointer e):=by
 obtain⟨i,ud,z,hf⟩:=hT.facts h1
 have h3:=hf.kind
 rw[adS h2]at h3
 cases ud<;>simp[kindOf]at h3
 exact⟨_,hf.Cv⟩
theorem Nl{G:Gh}{x:AV}{u:Value}(h:sT x=true)(hv:aI G x u):∃A,u=.pointer (some A):=by
 cases hv with
 |ptr=>grind
 |loc=>grind
 |qQ=>grind
 |dv hd=>cases hd<;>first|exact⟨_,rfl⟩|simp[sT]at h
 |_=>simp[sT]at h
theorem wj{w:World}(t:TypeId)(kx ky:IntKind)(a b:Int)(hb:0<=b):(binOp .shl t (.int kx a) (.int ky b)).run P w=.ok (.int kx (kx.wrap (a*2^min b.toNat kx.bits))) w:=by
 have:¬b<0:=by omega
 simp[binOp,Op.shift,this]
theorem wk{w:World}(t:TypeId)(kx ky:IntKind)(a b:Int)(hb:0<=b):(binOp .shr t (.int kx a) (.int ky b)).run P w=.ok (.int kx (a/2^min b.toNat kx.bits)) w:=by
 have:¬b<0:=by omega
 have hp:(0:Int)<=2^min b.toNat kx.bits:=Int.pow_nonneg (by grind)
 simp[binOp,Op.shift,this,Int.fdiv_eq_ediv_of_nonneg _ hp]
theorem JB(hT:fD P T){op:BinOp}{x0 y0:AV}{t:TypeId}{ret:AV->Prop}(h:s6 (nth T t) op x0 y0 gd ret):∃r,ret (.dv r)/\r.ao=true/\∀(G:Gh) (w:World) (a b:Value),gd=true->aI G x0 a->aI G y0 b->
 ∃v,(binOp op t a b).run P w=.ok v w/\bu G.M r v/\¬(a=.nilIface/\b=.nilIface)/\∀cs ds,¬(a=.agg cs/\b=.agg ds):=by
 unfold s6 at h
 split at h
 ·rename_i kx a ky b
  have acU:∀{G:Gh} {u v:Value},aI G (.dv (.int kx a)) u->aI G (.dv (.int ky b)) v->u=.int kx a/\v=.int ky b:=by
   intro G u v hu hv
   cases hu with|dv hu=>cases hu with|int=>cases hv with|dv hv=>cases hv with|int=>exact⟨rfl,rfl⟩
  have abE:∀{r:DV},ret (.dv r)->r.ao=true->(∀(w:World) (G:Gh),gd=true->∃v,(binOp op t (.int kx a) (.int ky b)).run P w=.ok v w/\bu G.M r v)->∃r,ret (.dv r)/\r.ao=true/\∀(G:Gh) (w:World) (u v:Value),gd=true->aI G (.dv (.int kx a)) u->aI G (.dv (.int ky b)) v->
   ∃x,(binOp op t u v).run P w=.ok x w/\bu G.M r x/\¬(u=.nilIface/\v=.nilIface)/\∀cs ds,¬(u=.agg cs/\v=.agg ds):=by
   intro r hr hc hh
   refine⟨r,hr,hc,fun G w u v hg hu hv=>?_⟩
   obtain⟨rfl,rfl⟩:=acU hu hv
   obtain⟨x,h1,h2⟩:=hh w G hg
   exact⟨x,h1,h2,by simp,by simp⟩
  cases hk:kx==ky with
  |false=>
   rw[hk]at h
   simp only[cond_false,K7]at h
   split at h
   ·exact abE h.2 rfl fun w G hg=>⟨_,by rw[wj _ _ _ _ _ (h.1 hg)],.int kx _⟩
   ·exact abE h.2 rfl fun w G hg=>⟨_,by rw[wk _ _ _ _ _ (h.1 hg)],.int kx _⟩
   ·exact h.elim
  |true=>
   rw[hk]at h
   have FL:=by simpa using hk
   subst FL
   have inv:∀{G:Gh} {u v:Value},aI G (.dv (.int kx a)) u->aI G (.dv (.int kx b)) v->u=.int kx a/\v=.int kx b:=by
    intro G u v hu hv
    cases hu with|dv hu=>cases hu with|int=>cases hv with|dv hv=>cases hv with|int=>exact⟨rfl,rfl⟩
   have fin:∀{r:DV},ret (.dv r)->r.ao=true->(∀(w:World) (G:Gh),gd=true->∃v,(binOp op t (.int kx a) (.int kx b)).run P w=.ok v w/\bu G.M r v)->∃r,ret (.dv r)/\r.ao=true/\∀(G:Gh) (w:World) (u v:Value),gd=true->aI G (.dv (.int kx a)) u->aI G (.dv (.int kx b)) v->
    ∃x,(binOp op t u v).run P w=.ok x w/\bu G.M r x/\¬(u=.nilIface/\v=.nilIface)/\∀cs ds,¬(u=.agg cs/\v=.agg ds):=by
    intro r hr hc hh
    refine⟨r,hr,hc,fun G w u v hg hu hv=>?_⟩
    obtain⟨rfl,rfl⟩:=inv hu hv
    obtain⟨x,h1,h2⟩:=hh w G hg
    exact⟨x,h1,h2,by simp,by simp⟩
   simp only[cond_true]at h
   split at h
   ·obtain⟨r,hr,he⟩:=j3 h
    exact fin hr rfl fun w G hg=>⟨_,by simp[binOp,Op.intArith,he hg],.int kx r⟩
   ·obtain⟨r,hr,he⟩:=j3 h
    exact fin hr rfl fun w G hg=>⟨_,by simp[binOp,Op.intArith,he hg],.int kx r⟩
   ·obtain⟨r,hr,he⟩:=j3 h
    exact fin hr rfl fun w G hg=>⟨_,by simp[binOp,Op.intArith,he hg],.int kx r⟩
   ·obtain⟨r,hr,he⟩:=j3 h.2
    exact fin hr rfl fun w G hg=>⟨_,by simp[binOp,Op.intDiv,h.1 hg,he hg],.int kx r⟩
   ·exact fin h.2 rfl fun w G hg=>⟨_,by simp[binOp,Op.intDiv,h.1 hg],.int kx _⟩
   ·exact fin h rfl fun w G hg=>⟨_,by simp[binOp,Op.intCmp],.bool _⟩
   ·exact fin h rfl fun w G hg=>⟨_,by simp[binOp,Op.intCmp],.bool _⟩
   ·exact fin h rfl fun w G hg=>⟨_,by simp[binOp,Op.intCmp],.bool _⟩
   ·exact fin h rfl fun w G hg=>⟨_,by simp[binOp,Op.intCmp],.bool _⟩
   ·exact fin h rfl fun w G hg=>⟨_,by simp[binOp,Op.intCmp],.bool _⟩
   ·exact fin h rfl fun w G hg=>⟨_,by simp[binOp,Op.intCmp],.bool _⟩
   ·exact fin h rfl fun w G hg=>⟨_,by simp[binOp,intBits_and],.int kx _⟩
   ·exact fin h rfl fun w G hg=>⟨_,by simp[binOp,intBits_or],.int kx _⟩
   ·exact fin h rfl fun w G hg=>⟨_,by simp[binOp,intBits_xor],.int kx _⟩
   ·exact fin h.2 rfl fun w G hg=>⟨_,by grind [wj],.int kx _⟩
   ·exact fin h.2 rfl fun w G hg=>⟨_,by grind [wk],.int kx _⟩
   ·grind
 ·rename_i p q
  have fin:∀{r:DV},ret (.dv r)->r.ao=true->(∀(w:World) (G:Gh),∃v,(binOp op t (.bool p) (.bool q)).run P w=.ok v w/\bu G.M r v)->∃r,ret (.dv r)/\r.ao=true/\∀(G:Gh) (w:World) (u v:Value),gd=true->aI G (.dv (.bool p)) u->aI G (.dv (.bool q)) v->
   ∃x,(binOp op t u v).run P w=.ok x w/\bu G.M r x/\¬(u=.nilIface/\v=.nilIface)/\∀cs ds,¬(u=.agg cs/\v=.agg ds):=by
   intro r hr hc hh
   refine⟨r,hr,hc,fun G w u v _ hu hv=>?_⟩
   cases hu with|dv hu=>cases hu with|bool=>cases hv with|dv hv=>cases hv with|bool=>
   simp_all
  cases hk:(nth T t).ok&&Nat.beq (nth T t).kind 1 with
  |false=>grind
  |true=>
   rw[hk]at h
   simp only[aep]at hk
   obtain⟨i,ud,z,hf⟩:=hT.facts hk.1
   have hu:=by
    have h1:=hf.kind
    rw[adS hk.2]at h1
    cases ud<;>simp[kindOf]at h1
    exact hf.Cv
   simp only[cond_true]at h
   split at h
   ·exact fin h rfl fun w G=>⟨_,Rg hu p q,.bool _⟩
   ·exact fin h rfl fun w G=>⟨_,Rh hu p q,.bool _⟩
   grind
 ·rename_i s s'
  have fin:∀{r:DV},ret (.dv r)->r.ao=true->(∀(w:World) (G:Gh),gd=true->∃v,(binOp op t (.string s) (.string s')).run P w=.ok v w/\bu G.M r v)->∃r,ret (.dv r)/\r.ao=true/\∀(G:Gh) (w:World) (u v:Value),gd=true->aI G (.dv (.str s)) u->aI G (.dv (.str s')) v->
   ∃x,(binOp op t u v).run P w=.ok x w/\bu G.M r x/\¬(u=.nilIface/\v=.nilIface)/\∀cs ds,¬(u=.agg cs/\v=.agg ds):=by
   intro r hr hc hh
   refine⟨r,hr,hc,fun G w u v hg hu hv=>?_⟩
   cases hu with|dv hu=>cases hu with|str=>cases hv with|dv hv=>cases hv with|str=>
   simp_all
  split at h
  ·exact fin h rfl fun w G _=>⟨_,by rfl,.bool _⟩
  ·exact fin h rfl fun w G _=>⟨_,by rfl,.bool _⟩
  ·refine fin h.2 rfl fun w G hg=>⟨_,?_,.str _⟩
   have hs:=h.1 hg
   have:¬((s.size+s'.size:Nat))>IntKind.i64.max:=by
    simp_all
   simp only[binOp,Op.stringOp,this,if_false]
   rfl
  grind
 ·rename_i kx lo hi ky b
  cases hk:kx==ky with
  |false=>grind
  |true=>
   rw[hk]at h
   have FL:=by simpa using hk
   subst FL
   simp only[cond_true]at h
   split at h
   ·rename_i r hr
    refine⟨_,h,rfl,fun G w u v _ hu hv=>?_⟩
    cases hu with|dv hu=>cases hu with|AO _ _ _ a h1 h2=>cases hv with|dv hv=>cases hv with|int=>
    refine⟨.bool r,?_,.bool _,by simp,by simp⟩
    have hs:∀{p q:Bool},Am p q=some r->(p=true/\r=true)\/(p=false/\q=true/\r=false):=by
     grind [Am]
    have ht:∀{p q:Bool} {s:Bool},(bif p||q then some s else none)=some r->r=s/\(p=true\/q=true):=by
     grind
    unfold CK at hr
    split at hr
    ·rcases hs hr with⟨e1,e2⟩|⟨e1,e3,e2⟩<;>simp at e1<;>(try simp at e3)<;>subst e2<;>simp[binOp,Op.intCmp]<;>omega
    ·rcases hs hr with⟨e1,e2⟩|⟨e1,e3,e2⟩<;>simp at e1<;>(try simp at e3)<;>subst e2<;>simp[binOp,Op.intCmp]<;>omega
    ·rcases hs hr with⟨e1,e2⟩|⟨e1,e3,e2⟩<;>simp at e1<;>(try simp at e3)<;>subst e2<;>simp[binOp,Op.intCmp]<;>omega
    ·rcases hs hr with⟨e1,e2⟩|⟨e1,e3,e2⟩<;>simp at e1<;>(try simp at e3)<;>subst e2<;>simp[binOp,Op.intCmp]<;>omega
    ·obtain⟨e1,e2⟩:=ht hr;subst e1;simp at e2;simp[binOp,Op.intCmp];omega
    ·obtain⟨e1,e2⟩:=ht hr;subst e1;simp at e2;simp[binOp,Op.intCmp];omega
    grind
   ·unfold P8 at h
    split at h
    ·cases hd:decide (lo=hi)with
     |false=>grind
     |true=>
      rw[hd]at h
      have e:=ad5 hd
      subst e
      refine⟨_,h,rfl,fun G w u v _ hu hv=>?_⟩
      cases hu with|dv hu=>cases hu with|AO _ _ _ a h1 h2=>cases hv with|dv hv=>cases hv with|int=>
      have e:a=lo:=by omega
      subst e
      exact⟨_,by simp[binOp,Op.intArith],.int kx _,by simp,by simp⟩
    grind
 ·rename_i kx a ky lo hi
  cases hk:kx==ky with
  |false=>grind
  |true=>
   rw[hk]at h
   have FL:=by simpa using hk
   subst FL
   simp only[cond_true]at h
   split at h
   ·obtain⟨e,h⟩:=h
    subst e
    refine⟨_,h,rfl,fun G w u v _ hu hv=>?_⟩
    cases hu with|dv hu=>cases hu with|int=>cases hv with|dv hv=>cases hv with|AO _ _ _ b h1 h2=>
    have e:b=lo:=by omega
    subst e
    exact⟨_,by simp[binOp,Op.intArith],.int kx _,by simp,by simp⟩
   grind
 ·cases hk:(nth T t).ok&&Nat.beq (nth T t).kind 5 with
  |false=>grind
  |true=>
   rw[hk]at h
   simp only[aep]at hk
   obtain⟨e,hu⟩:=GW hT hk.1 hk.2
   have fin:∀{r:Bool},ret (.dv (.bool r))->(∀(w:World),(binOp op t (.pointer none) (.pointer none)).run P w=.ok (.bool r) w)->∃r,ret (.dv r)/\r.ao=true/\∀(G:Gh) (w:World) (u v:Value),gd=true->aI G (.dv .eZ) u->aI G (.dv .eZ) v->
    ∃y,(binOp op t u v).run P w=.ok y w/\bu G.M r y/\¬(u=.nilIface/\v=.nilIface)/\∀cs ds,¬(u=.agg cs/\v=.agg ds):=by
    intro r hr hh
    refine⟨_,hr,rfl,fun G w u v _ hu hv=>?_⟩
    cases hu with|dv hu=>cases hu with|eZ=>cases hv with|dv hv=>cases hv with|eZ=>
    exact⟨_,hh w,.bool _,by simp,by simp⟩
   simp only[cond_true]at h
   split at h
   ·simp_all [wh]
   ·simp_all [wi]
   grind
 ·cases hk:(nth T t).ok&&Nat.beq (nth T t).kind 5&&sT x0 with
  |false=>grind
  |true=>
   rw[hk]at h
   simp only[aep]at hk
   obtain⟨e,hu⟩:=GW hT hk.1.1 hk.1.2
   have fin:∀{r:Bool},ret (.dv (.bool r))->(∀(w:World) (A:Addr),(binOp op t (.pointer (some A)) (.pointer none)).run P w=.ok (.bool r) w)->∃r,ret (.dv r)/\r.ao=true/\∀(G:Gh) (w:World) (u v:Value),gd=true->aI G x0 u->aI G (.dv .eZ) v->
    ∃y,(binOp op t u v).run P w=.ok y w/\bu G.M r y/\¬(u=.nilIface/\v=.nilIface)/\∀cs ds,¬(u=.agg cs/\v=.agg ds):=by
    intro r hr hh
    refine⟨_,hr,rfl,fun G w u v _ hu hv=>?_⟩
    cases hv with|dv hv=>cases hv with|eZ=>
    obtain⟨A,rfl⟩:=Nl hk.2 hu
    exact⟨_,hh w A,.bool _,by simp,by simp⟩
   simp only[cond_true]at h
   split at h
   ·simp_all [wh]
   ·simp_all [wi]
   grind
 ·grind
end
end
section
open Go.RowKit
variable [cq]
section
variable {P:Program} {C:dY->Prop} {T:List TI} {ops:List Oper} {n:Nat} {o:Oper} {nx:Nat} {ρ:Nat->AV} {κ:Nat->az} {k:lQ->Nat->Prop} {gd:Bool}
theorem Va{x:Operand}(hg:b9 ρ ops o.guard=some gd)(ho:o.op=.move x)(h:ex ρ κ gd x fun v=>bl n o gd nx k v []):Good P C ops n o nx ρ κ k:=by
 by_cases hm:j6 ρ κ o=Nj ρ o
 ·obtain⟨av,hk,bP⟩:=aK h
  exact bB (fun c=>by grind) hg hk fun ρ' κ' aA g a w G ak aY=>⟨_,by simp[execOp,ho],(bP ρ' κ' (aA.opR (by grind [Op.operands]) hm) g n a w G ak aY)⟩
 ·unfold j6 at hm
  split at hm
  ·rename_i t ht
   rw[ho]at ht
   injection ht with ht
   subst ht
   cases hb:mvT κ (ρ t)with
   |false=>grind
   |true=>
    generalize hρ:ρ t=v at hb
    cases v with
    |own i ver ep p=>
     simp[mvT]at hb
     cases hk:κ i with
     |tree V E d=>
      unfold ex at h
      simp[ev,hρ,res,hk]at h
      cases hc:Nat.beq ver V&&(emp p||Nat.beq ep E)with
      |true=>
       rw[hc]at h
       simp[cond_true]at h
       rw[force_eq]at h
       refine bB (fun c=>by grind) hg h fun ρ' κ' aA g a w G ak aY=>?_
       have h1:=ak.env t
       rw[aA.cn t (by unfold Oper.looksAt;rw[ho];exact adX.2 (.inl (by simp[Op.operands]))),hρ]at h1
       exact⟨_,by simp only[execOp,ho];rfl,h1⟩
      |false=>
       rw[hc]at h
       simp[cond_false]at h
       rw[force_eq]at h
       exact bB (fun c=>by grind) hg h fun ρ' κ' aA g a w G ak aY=>⟨a.eval (.tmp t),by simp[execOp,ho],.any _⟩
     |_=>rw[hk]at hb;cases hb
    |_=>cases hb
  grind
theorem Nn{x:Operand}{av:AV}(hg:b9 ρ ops o.guard=some gd)(ho:o.op=.assign x)(hk:bl n o gd nx k av [])(bP:bJ ρ κ gd x av):Good P C ops n o nx ρ κ k:=by
 exact bB (fun c=>by grind) hg hk fun ρ' κ' aA g a w G ak aY=>⟨_,by simp[execOp,ho],(bP ρ' κ' (aA.op (by grind [Op.operands])) g n a w G ak aY)⟩
theorem p7{x:Operand}{av:AV}(hg:b9 ρ ops o.guard=some gd)(ho:o.op=.nilCheck x)(hk:bl n o gd nx k av [])(bP:bJ ρ κ gd x av)
 (hp:∀(G:Gh) (v:Value),aI G av v->∃a,v=.pointer (some a)):Good P C ops n o nx ρ κ k:=by
 refine bB (fun c=>by grind) hg hk fun ρ' κ' aA g a w G ak aY=>?_
 have hv:=bP ρ' κ' (aA.op (by grind [Op.operands])) g n a w G ak aY
 obtain⟨p,hp⟩:=hp _ _ hv
 simp_all [execOp]
theorem Ri(hT:fD P T){op:BinOp}{t ty:TypeId}{x y:Operand}(hg:b9 ρ ops o.guard=some gd)(ho:o.op=.binOp op t x y ty)
 {va vb:AV} (YC:bJ ρ κ gd x va) (YD:bJ ρ κ gd y vb) (h:s6 (nth T t) op va vb gd fun v=>bl n o gd nx k v []):Good P C ops n o nx ρ κ k:=by
 obtain⟨r,hk,hc,hr⟩:=JB hT h
 refine bB (fun c=>by grind) hg hk fun ρ' κ' aA g a w G ak aY=>?_
 obtain⟨v,h3,h4,h5,h6⟩:=hr G w _ _ aY (YC ρ' κ' (aA.op (by grind [Op.operands])) g n a w G ak aY) (YD ρ' κ' (aA.op (by grind [Op.operands])) g n a w G ak aY)
 refine⟨v,?_,.dv h4⟩
 grind [execOp,Sem.run_bind,iU,Result.andThen_ok,Sem.run_pure]
theorem YE{t:TypeId}{x:Operand}{b:Bool}(hg:b9 ρ ops o.guard=some gd)(ho:o.op=.unOp .not t x)(hk:bl n o gd nx k (.dv (.bool (!b))) [])(bP:bJ ρ κ gd x (.dv (.bool b))):Good P C ops n o nx ρ κ k:=by
 refine bB (fun c=>by grind) hg hk fun ρ' κ' aA g a w G ak aY=>?_
 have hv:=bP ρ' κ' (aA.op (by grind [Op.operands])) g n a w G ak aY
 generalize hx:a.eval x=v at hv
 cases hv with|dv hv=>cases hv with|bool=>
 exact⟨_,by simp[execOp,ho,hx,Op.unary],.dv (.bool _)⟩
theorem YF{t:TypeId}{x:Operand}{kd:IntKind}{m:Int}(hg:b9 ρ ops o.guard=some gd)(ho:o.op=.unOp .neg t x)(hk:arith kd (0-m) gd fun v=>bl n o gd nx k v [])(bP:bJ ρ κ gd x (.dv (.int kd m))):Good P C ops n o nx ρ κ k:=by
 obtain⟨r,hk,he⟩:=j3 hk
 refine bB (fun c=>by grind) hg hk fun ρ' κ' aA g a w G ak aY=>?_
 have hv:=bP ρ' κ' (aA.op (by grind [Op.operands])) g n a w G ak aY
 generalize hx:a.eval x=v at hv
 cases hv with|dv hv=>cases hv with|int=>
 refine⟨.int kd r,?_,.dv (.int kd r)⟩
 grind [execOp,Op.unary,Op.intArith,Sem.run_bind,Sem.run_pure,Result.andThen_ok]
theorem JC{x:Operand}{i:Nat}{l:List AV}{av:AV}(hg:b9 ρ ops o.guard=some gd)(ho:o.op=.extract x i)(hk:bl n o gd nx k av [])(hl:l[i]?=some av)(bP:bJ ρ κ gd x (.gm l)):Good P C ops n o nx ρ κ k:=by
 refine bB (fun c=>by grind) hg hk fun ρ' κ' aA g a w G ak aY=>?_
 have hv:=bP ρ' κ' (aA.op (by grind [Op.operands])) g n a w G ak aY
 generalize hx:a.eval x=v at hv
 cases hv with
 |gm _ vs hlen hr=>
  have hi:=(adP.1 hl).1
  have hvi:vs[i]?=some (vs[i]'(by omega)):=ace (by omega)
  refine⟨_,?_,hr i av _ hl hvi⟩
  simp[execOp,ho,hx,Instr.extract,hvi]
theorem nU{c x y:Operand}{b p q:Bool}(hg:b9 ρ ops o.guard=some gd)(ho:o.op=.pick c x y)(hk:bl n o gd nx k (.dv (.bool (bif b then p else q))) [])
 (hc:bJ ρ κ gd c (.dv (.bool b))) (hx:bJ ρ κ (gd&&b) x (.dv (.bool p))) (hy:bJ ρ κ (gd&& !b) y (.dv (.bool q))):Good P C ops n o nx ρ κ k:=by
 refine bB (fun c=>by grind) hg hk fun ρ' κ' aA g a w G ak aY=>?_
 have hv:=hc ρ' κ' (aA.op (by grind [Op.operands])) g n a w G ak aY
 generalize hxc:a.eval c=v at hv
 cases hv with|dv hv=>cases hv with|bool=>
 subst aY
 cases b with
 |true=>
  have hv:=hx ρ' κ' (aA.op (by grind [Op.operands])) g n a w G ak rfl
  simp_all [execOp,asBool]
 |false=>
  have hv:=hy ρ' κ' (aA.op (by grind [Op.operands])) g n a w G ak rfl
  simp_all [execOp,asBool]
theorem od(hT:fD P T){t f off sz:Nat}{x:Operand}{av av':AV}(hg:b9 ρ ops o.guard=some gd)(ho:o.op=.fieldAddr t x f)(b8:(nth T t).ok=true)(hf:(nth T t).fields[f]?=some (off,sz+1))
 (hk:bl n o gd nx k av' []) (bP:bJ ρ κ gd x av)
 (hp:∀(G:Gh) (v:Value),aI G av v->∃a,v=.pointer (some a)/\aI G av' (.pointer (some (a.add off)))):Good P C ops n o nx ρ κ k:=by
 obtain⟨i,u,z,tf⟩:=hT.facts b8
 obtain⟨fs,fd,hu,hfd,YG,j,hj,hjs⟩:=tf.field hf (by omega)
 refine bB (fun c=>by grind) hg hk fun ρ' κ' aA g a w G ak aY=>?_
 obtain⟨p,hp,YH⟩:=hp _ _ (bP ρ' κ' (aA.op (by grind [Op.operands])) g n a w G ak aY)
 simp_all [execOp,Instr.fieldAt,run_underlying,Instr.sureAddr,fieldPlace,jZ]
theorem eh{agg:Bool}{l:List AV}{off sz:Nat}{ret:AV->Prop}(h:cr agg l off sz ret):
 ∃v,ret v/\((agg=true/\off+sz<=l.length/\v=.agg ((l.drop off).take sz))\/(agg=false/\l[off]?=some v)):=by
 unfold cr at h
 cases agg with
 |true=>
  simp_all
 |false=>
  simp[cond_false]at h
  split at h
  ·rw[force_eq]at h;grind
  grind
theorem k8(hT:fD P T){t off:Nat}{l:List AV}{av:AV}{w:World}{G:Gh}(b8:(nth T t).ok=true)(A:Addr)(vs:Nat->Value)
 (hc:∀j,j<l.length->w.cell? (A.add j)=some (vs j)) (hr:∀(j:Nat) (d:AV),l[j]?=some d->aI G d (vs j))
 (hp:((nth T t).agg=true/\off+(nth T t).size<=l.length/\av=.agg ((l.drop off).take (nth T t).size))\/((nth T t).agg=false/\l[off]?=some av)):
 ∃v,(Instr.loadAt t (.pointer (some (A.add off)))).run P w=.ok v w/\aI G av v:=by
 obtain⟨i,u,z,tf⟩:=hT.facts b8
 rcases hp with⟨ha,hle,rfl⟩|⟨ha,hl⟩
 ·refine⟨.agg ((List.range (nth T t).size).map fun j=>vs (off+j)).toArray,?_,?_⟩
  ·have:=run_loadCells (P:=P) w (A.add off) (nth T t).size (fun j=>vs (off+j)) (fun j hj=>by grind [cQ])
   simp[Instr.loadAt,Instr.sureAddr,Sem.run_bind,Sem.run_pure,Result.andThen_ok,loadVar,tf.vl w,ha,if_true,tf.gi w,this]
  ·refine .agg _ _ (by grind) fun j d v hd hv=>?_
   grind
 ·refine⟨vs off,?_,hr _ _ hl⟩
  simp[Instr.loadAt,Instr.sureAddr,Sem.run_bind,Sem.run_pure,Result.andThen_ok,loadVar,tf.vl w,ha,Bool.false_eq_true,if_false,run_load,hc off ((adP.1 hl).1)]
theorem GX(hT:fD P T){t i off:Nat}{x:Operand}{l:List AV}(hg:b9 ρ ops o.guard=some gd)(ho:o.op=.load t x)(b8:(nth T t).ok=true)(hb:κ i=.cells l)
 (hk:cr (nth T t).agg l off (nth T t).size fun v=>bl n o gd nx k v [i]) (bP:bJ ρ κ gd x (.ptr i off)):Good P C ops n o nx ρ κ k:=by
 obtain⟨av,hk,hp⟩:=eh hk
 refine bB (fun c=>by grind) hg hk fun ρ' κ' aA g a w G ak aY=>?_
 have hv:=bP ρ' κ' (aA.op (by grind [Op.operands])) g n a w G ak aY
 have wG:=ak.fit.box i
 rw[((aA.reads i (by simp)).trans hb)]at wG
 obtain⟨b,c,tt,hbe,hw,cb,oq,hr⟩:=wG
 generalize hx:a.eval x=v at hv
 cases hv with
 |ptr _ _ b' Cr=>
 rw[hbe]at Cr;injection Cr with Cr;subst Cr
 have hA:(⟨b,off,none⟩)=(⟨b,0,none⟩:Addr).add off:=by rw[fe];simp
 obtain⟨v,h1,h2⟩:=k8 (w:=w) hT b8 ⟨b,0,none⟩ (fun j=>c.getD j undef) (fun j hj=>by
  rw[fe]
  simp_all [World.cell?]) (fun j d hd=>by
  exact hr j d _ hd (by simp[cb,((adP.1 hd).1)])) hp
 grind [execOp,Sem.run_bind,Result.andThen_ok,Sem.run_pure]
theorem JD(hT:fD P T){t off:Nat}{x:Operand}{y:DV}(hg:b9 ρ ops o.guard=some gd)(ho:o.op=.load t x)(b8:(nth T t).ok=true)
 (hk:cr (nth T t).agg (eP y.cells) off (nth T t).size fun v=>bl n o gd nx k v []) (bP:bJ ρ κ gd x (.dv (.at y off))):Good P C ops n o nx ρ κ k:=by
 obtain⟨av,hk,hp⟩:=eh hk
 refine bB (fun c=>by grind) hg hk fun ρ' κ' aA g a w G ak aY=>?_
 have hv:=bP ρ' κ' (aA.op (by grind [Op.operands])) g n a w G ak aY
 generalize hx:a.eval x=v at hv
 cases hv with|dv hv=>cases hv with
 |_=>
  rename_i A cell oq hc hr
  obtain⟨v,h1,h2⟩:=k8 hT b8 A cell (fun j hj=>ak.fit.sub.cell (hc j (by grind [oc]))) (fun j d hd=>by
   obtain⟨d',lX,rfl⟩:=Rb hd
   exact .dv (hr j d' lX)) hp
  grind [execOp,Sem.run_bind,Result.andThen_ok,Sem.run_pure]
theorem bW{gd:Bool}:∀{p:List PS} {d:DV} {k:DV->Prop},ke gd d p k->∃nd,k nd/\(gd=true->get d p=some nd)
 |[],d,k,h=>⟨d,h,fun _=>rfl⟩
 |s::p,d,k,h=>by
  cases d<;>cases s<;>simp only[ke]at h<;>(try exact h.elim)
  ·obtain⟨x,hx,h⟩:=h
   split at h
   ·obtain⟨nd,h1,h2⟩:=bW h
    grind [get,step]
   grind
  ·rename_i x i j
   cases hb:Nat.beq i 0 with
   |false=>grind
   |true=>
    rw[hb]at h
    simp[cond_true]at h
    split at h
    ·obtain⟨nd,h1,h2⟩:=bW h
     exact⟨nd,h1,fun hg=>by simp_all [get,step,cond_true]⟩
    grind
  ·obtain⟨x,hx,h⟩:=h
   split at h
   ·obtain⟨nd,h1,h2⟩:=bW h
    grind [get,step]
   grind
theorem gj:∀{p:List PS} {d nd:DV} {k:DV->Prop},wH d p nd k->k (eN d p nd)/\∃c,get d p=some c
 |[],d,nd,k,h=>⟨h,d,rfl⟩
 |s::p,d,nd,k,h=>by
  cases d<;>cases s<;>simp only[wH]at h<;>(try exact h.elim)
  ·obtain⟨x,hx,h⟩:=h
   split at h
   ·obtain⟨h1,c',h2⟩:=gj h
    grind [eN,step,put,get]
   grind
  ·rename_i x i j
   cases hb:Nat.beq i 0 with
   |false=>grind
   |true=>
    rw[hb]at h
    simp[cond_true]at h
    split at h
    ·obtain⟨h1,c',h2⟩:=gj h
     simp_all [eN,step,put,get]
    grind
  ·obtain⟨x,hx,h⟩:=h
   split at h
   ·obtain⟨h1,c',h2⟩:=gj h
    grind [eN,step,put,get]
   grind
theorem dz{ver bD ep cj:Nat}{p:List PS}(h:(Nat.beq ver bD&&(emp p||Nat.beq ep cj))=true):ver=bD/\(p=[]\/ep=cj):=by
 simp[aep,Bool.or_eq_true]at h
 grind [Nat.eq_of_beq_eq_true,emp]
theorem cV{H:Nat->Nat->Nat->List PS->Option Value}{i ver ep cj:Nat}{p:List PS}(h:p=[]\/ep=cj):aV H i ver ep p=aV H i ver cj p:=by
 rcases h with rfl|rfl<;>rfl
theorem Fit.node{κ:Nat->az}{w:World}{G:Gh}(ak:Fit G w κ){i ver ep:Nat}{d nd:DV}{p:List PS}(hk:κ i=.tree ver ep d)(hp:get d p=some nd)(ho:nd.au=true):
 ∃v,aV G.H i ver ep p=some v/\v.oneCell'=true/\cI G.M w v (fun s=>aV G.H i ver ep (p++[s])) nd:=by
 have hb:=ak.box i
 rw[hk]at hb
 exact hb.1.2 p nd hp ho
theorem zD{G:Gh}{i ver ep:Nat}{p:List PS}{s:PS}{d:DV}{u:Value}(hc:d.ao=true)(h:dB G.M (aV G.H i ver ep (p++[s])) d u)(hu:d.au=true->u.oneCell'=true):aI G (vT i ver ep p s d) u:=by
 rcases h with⟨h1,h2⟩|⟨h1,h2⟩
 ·simp[vT,h1,cond_true];exact .own _ _ _ _ _ h2 (hu h1)
 ·simp[vT,h1,cond_false];exact .dv h2
theorem zF{i ver ep:Nat}{p:List PS}{idx:Nat}:∀{l:List DV} {s j:Nat} {v:AV},(ln i ver ep p idx s l)[j]?=some v->∃d,l[j]?=some d/\v=vT i ver ep p (.el idx (s+j)) d
 |[],s,j,v,h=>by simp[ln]at h
 |d::l,s,0,v,h=>by simp[ln]at h;grind
 |d::l,s,j+1,v,h=>by
  simp[ln,List.getElem?_cons_succ]at h
  obtain⟨d',h1,h2⟩:=zF h
  grind
theorem oe{i ver ep:Nat}{p:List PS}{idx:Nat}:∀{l:List DV} {s:Nat},(ln i ver ep p idx s l).length=l.length
 |[],s=>rfl
 |d::l,s=>by simp[ln,oe]
theorem zG{i ver ep:Nat}{p:List PS}{kk:DV}:∀{l:List DV} {s j:Nat} {v:AV},(lx i ver ep p kk s l)[j]?=some v->∃d,l[j]?=some d/\v=vT i ver ep p (.key kk (s+j)) d
 |[],s,j,v,h=>by simp[lx]at h
 |d::l,s,0,v,h=>by simp[lx]at h;grind
 |d::l,s,j+1,v,h=>by
  simp[lx,List.getElem?_cons_succ]at h
  obtain⟨d',h1,h2⟩:=zG h
  grind
theorem og{i ver ep:Nat}{p:List PS}{kk:DV}:∀{l:List DV} {s:Nat},(lx i ver ep p kk s l).length=l.length
 |[],s=>rfl
 |d::l,s=>by simp[lx,og]
theorem Fit.cells{κ:Nat->az}{w:World}{G:Gh}(ak:Fit G w κ){i ver ep:Nat}{d nd:DV}{p:List PS}(hk:κ i=.tree ver ep d)(hp:get d p=some nd){sz idx:Nat}{K:List AV->Prop}{A:Addr}
 (hA:aV G.H i ver ep p=some (.pointer (some A))\/∃m c,aV G.H i ver ep p=some (.slice (some A) m c)) {l:List AV} (hl:(∃l0 x,nd=.aD sz l0/\l0[idx]?=some x/\l=ln i ver ep p idx 0 x.cells)\/(∃x,nd=.gC x/\idx=0/\l=ln i ver ep p 0 0 x.cells)):
 ∃vs:Nat->Value,(∀j,j<l.length->w.cell? ((A.add (idx*sz)).add j)=some (vs j))/\∀(j:Nat) (d:AV),l[j]?=some d->aI G d (vs j):=by
 have jv:∀s c u,step nd s=some c->c.au=true->aV G.H i ver ep (p++[s])=some u->u.oneCell'=true:=by
  intro s c u hs hc hu
  obtain⟨v,h1,h2,_⟩:=ak.node hk (p:=p++[s]) (by grind [get_append,get]) hc
  grind
 rcases hl with⟨l0,x,rfl,hx,rfl⟩|⟨x,rfl,rfl,rfl⟩
 ·obtain⟨v,h1,h2,bq⟩:=ak.node hk hp rfl
  rcases bq with⟨rfl,_⟩|⟨gb,ob,cap,c,t,rfl,eU,hw,cb,ub⟩
  ·grind
  ·have hAe:A=⟨gb,ob,none⟩:=by
    grind
   subst hAe
   obtain⟨a1,a2⟩:=ub idx x hx
   refine⟨fun j=>c.getD (ob+idx*sz+j) undef,fun j hj=>?_,fun j dd hd=>?_⟩
   ·rw[oe]at hj
    obtain⟨_,u,b1,_⟩:=a2 j _ (ace hj)
    rw[cQ,fe]
    simp only[World.cell?,hw]
    rw[show ob+(idx*sz+j)=ob+idx*sz+j by omega,adZ,b1]
    rfl
   ·obtain⟨d0,e1,rfl⟩:=zF hd
    obtain⟨b0,u,b1,b2⟩:=a2 j d0 e1
    show aI G _ (c.getD (ob+idx*sz+j) undef)
    rw[adZ,b1,Nat.zero_add]
    refine zD b0 b2 fun ho=>?_
    rcases b2 with⟨_,b2⟩|⟨b2,_⟩
    ·grind [step]
    grind
 ·obtain⟨v,h1,h2,bq⟩:=ak.node hk hp rfl
  obtain⟨gb,c,t,rfl,hw,cb,ub⟩:=bq
  have hAe:A=⟨gb,0,none⟩:=by
   grind
  subst hAe
  refine⟨fun j=>c.getD j undef,fun j hj=>?_,fun j dd hd=>?_⟩
  ·simp_all [oe,cQ,fe,World.cell?,adZ]
  ·obtain⟨d0,e1,rfl⟩:=zF hd
   obtain⟨b0,u,b1,b2⟩:=ub j d0 e1
   show aI G _ (c.getD j undef)
   rw[adZ,b1,Nat.zero_add]
   refine zD b0 b2 fun ho=>?_
   rcases b2 with⟨_,b2⟩|⟨b2,_⟩
   ·exact jv _ d0 u (by assumption) ho b2
   grind
theorem GY(hT:fD P T){t i ver ep cj sz idx off:Nat}{p:List PS}{x:Operand}{d:DV}(hg:b9 ρ ops o.guard=some gd)(ho:o.op=.load t x)(b8:(nth T t).ok=true)
 (hb:κ i=.tree ver cj d) (fm:p=[]\/ep=cj)
 (hk:ke gd d p fun nd=>kP i ver cj p gd sz idx nd fun l=>cr (nth T t).agg l off (nth T t).size fun v=>bl n o gd nx k v [i]) (bP:bJ ρ κ gd x (.loc i ver ep p sz idx off)):Good P C ops n o nx ρ κ k:=by
 obtain⟨nd,hk,dC⟩:=bW hk
 have EO:∃l,(cr (nth T t).agg l off (nth T t).size fun v=>bl n o gd nx k v [i])/\(gd=true->(∃l0 x,nd=.aD sz l0/\l0[idx]?=some x/\l=ln i ver cj p idx 0 x.cells)\/(∃x,nd=.gC x/\idx=0/\l=ln i ver cj p 0 0 x.cells)):=by
  unfold kP at hk
  split at hk
  ·rename_i pE l0
   cases hs:Nat.beq sz pE with
   |false=>grind
   |true=>
    rw[hs]at hk
    have:=adS hs
    grind
  ·rename_i x
   cases hs:Nat.beq idx 0 with
   |false=>grind
   |true=>
    rw[hs]at hk
    exact⟨_,hk,fun _=>.inr ⟨x,rfl,adS hs,rfl⟩⟩
  grind
 obtain⟨l,hk,hl⟩:=EO
 obtain⟨av,hk,hp⟩:=eh hk
 refine bB (fun c=>by grind) hg hk fun ρ' κ' aA g a w G ak aY=>?_
 have hv:=bP ρ' κ' (aA.op (by grind [Op.operands])) g n a w G ak aY
 have key:∀A,a.eval x=.pointer (some (A.add (idx*sz+off)))->(aV G.H i ver ep p=some (.pointer (some A))\/∃m c,aV G.H i ver ep p=some (.slice (some A) m c))->∃v,(execOp a.eval o).run P w=.ok (.value v) w/\aI G av v:=by
  intro A hx hA
  rw[cV fm]at hA
  obtain⟨vs,h1,h2⟩:=ak.fit.cells (K:=fun _=>True) ((aA.reads i (by simp)).trans hb) (dC aY) hA (hl aY)
  obtain⟨v,h3,h4⟩:=k8 hT b8 (A.add (idx*sz)) vs h1 h2 hp
  grind [cQ,execOp,Sem.run_bind,Result.andThen_ok,Sem.run_pure]
 generalize hx:a.eval x=v at hv
 cases hv with
 |loc _ _ _ _ _ _ _ A m c h=>exact key A hx (.inr ⟨m,c,h⟩)
 |qQ _ _ _ _ _ _ _ A h=>grind
end
end
end Go.TM
