import Derived.Test.YtfpebgpgabjieaaGreatDoorHM3
import Derived.OrdersIn
import Derived.TacticsIn
import Derived.OwnWalkIn
import Derived.RangeFuncLeaves
set_option linter.all false
namespace Go.TM
set_option maxHeartbeats 1000000
section
open Go.RowKit
variable [cy]
def aF{γ:Type _}(f:Nat->γ):List (Nat×γ)->Nat->γ
 |[]=>f
 |(i,x)::r=>ju (aF f r) i x
theorem beq_false{i t:Nat}(h:t≠i):Nat.beq i t=false:=by
 grind [Nat.beq,absurd,Nat.eq_of_beq_eq_true]
theorem kM:∀(l:List (Nat×AV)) (env:Env),look (La l env)=aF (look env) l
 |[],_=>rfl
 |(i,x)::r,env=>by
  funext t
  simp only[La,look,aF,ju,kM r env]
  by_cases h:t=i
  ·subst h;simp
  simp_all [beq_false]
theorem fY:∀(l:List (Nat×ax)) (K:ae),aa (xi l K)=aF (aa K) l
 |[],_=>rfl
 |(i,x)::r,K=>by
  funext t
  simp only[xi,aa,aF,ju,fY r K]
  by_cases h:t=i
  ·subst h;simp
  simp_all [beq_false]
def Wx:AV->List Nat
 |.own i _ _ _=>[i]
 |.loc i _ _ _ _ _ _=>[i]
 |.pre i _ _ _ _ _ _=>[i]
 |.opt _ v=>Wx v
 |.cD i _=>[i]
 |_=>[]
def Yx(ρ:Nat->AV):Operand->List Nat
 |.tmp t=>Wx (ρ t)
 |_=>[]
def MT(ρ:Nat->AV)(o:Oper):List Nat:=o.op.operands.toList.flatMap fun| .tmp t=>Wx (ρ t)|_=>[]
def acu:ax->Bool
 |.tree _ _ _=>true
 |_=>false
def mvT(κ:Nat->ax):AV->Bool
 |.own i _ _ _=>acu (κ i)
 |_=>false
def ke(ρ:Nat->AV)(κ:Nat->ax)(o:Oper):List Nat:=match o.op with
 |.move (.tmp t)=>bif mvT κ (ρ t)then[]else MT ρ o
 |_=>MT ρ o
theorem Ru{M:Mem}{v:Value}{d:DV}(h:PI v=some d):bq M d v/\d.ao=true/\d.au=false:=by
 unfold PI at h
 split at h<;>first|(injection h with h;subst h;exact⟨by constructor,rfl,rfl⟩)|grind
theorem ez{M:Mem}:∀{l:List Value} {ds:List DV},pM l=some ds->fS M ds l/\∀d,d∈ds->d.ao=true/\d.au=false
 |[],ds,h=>by simp[pM]at h;subst h;exact⟨.nil M,by simp⟩
 |v::r,ds,h=>by
  simp[pM]at h
  split at h
  ·rename_i d l h1 h2
   injection h with h;subst h
   obtain⟨a,b⟩:=Ru h1
   obtain⟨c,e⟩:=ez h2
   exact⟨.cons a c,by grind⟩
  grind
theorem r4(l:List DV):fp l=l.map .dv:=by
 induction l with
 |nil=>rfl
 |cons d r ih=>simp[fp,ih]
theorem nZ(l:List DV):(fp l).length=l.length:=by simp[r4]
theorem Rv{l:List DV}{j:Nat}{v:AV}(h:(fp l)[j]?=some v):∃d,l[j]?=some d/\v=.dv d:=by
 rw[r4,adk]at h
 grind
theorem jC{G:Gh}{l:List DV}{vs:List Value}(h:fS G.M l vs):cG G (fp l) vs:=by
 refine⟨by rw[nZ];exact h.1,fun j d v hd hv=>?_⟩
 obtain⟨d',h1,rfl⟩:=Rv hd
 exact .dv (h.2 j d' v h1 hv)
theorem U9(G:Gh)(v:Value):aK G (PM v) v:=by
 unfold PM
 split<;>first
  |exact .dv (by constructor)
  |exact .any _
  |skip
 rename_i cs
 split
 ·rename_i l hl
  obtain⟨h1,_⟩:=ez hl
  have h2:=jC (G:=G) h1
  have:=aK.agg _ cs.toList h2.1 h2.2
  simp_all
 ·exact .any _
section
variable {g:eb} {n:Nat} {ρ:Nat->AV} {κ:Nat->ax} {a:Act} {w:World} {G:Gh}
theorem xG(h:Fit G w κ){v:AV}{x:Value}(hv:aK G v x):aK G (res κ v) x:=by
 cases v with
 |own i ver ep p=>
  simp[res]
  split
  ·rename_i v' e' d hk
   cases hb:Nat.beq ver v'&&(emp p||Nat.beq ep e')with
   |true=>grind
   |false=>exact .any _
  ·rename_i v' d hk
   cases hb:Nat.beq ver v'&&emp p with
   |false=>exact .any _
   |true=>
    simp only[adT]at hb
    have Rw:=adm hb.1
    subst Rw
    have hx:=h.box i
    rw[hk]at hx
    obtain⟨u,h1,h2,h3⟩:=hx
    cases p with
    |cons=>simp[emp]at hb
    |nil=>cases hv with
     |own _ _ _ _ _ he hc=>simp[aS]at he;rw[h1]at he;injection he with he;subst he;exact .dv h3
  ·exact .any _
 |loc i ver ep p sz idx off=>
  simp[res]
  cases hb:cur _ ver ep p with
  |true=>grind
  |false=>exact .any _
 |pre i ver ep p sz idx off=>
  simp[res]
  cases hb:cur _ ver ep p with
  |true=>grind
  |false=>exact .any _
 |cD i ver=>
  simp[res]
  split
  ·rename_i v' e' d hk
   cases hb:Nat.beq ver v' with
   |true=>grind
   |false=>exact .any _
  ·rename_i v' d hk
   cases hb:Nat.beq ver v' with
   |false=>exact .any _
   |true=>
    have Rw:=adm hb
    subst Rw
    have hx:=h.box i
    rw[hk]at hx
    obtain⟨u,h1,h2,h3⟩:=hx
    cases hv with
    |cD _ _ a n he=>rw[h1]at he;injection he with he;subst he;exact .dv h3
  ·exact .any _
 |_=>exact hv
theorem Aw{v:AV}{x:Value}(hv:aK G v x):aK G (dn v) x:=by
 cases v with
 |cD i ver=>cases hv with|cD _ _ a n he=>exact .own i ver 0 [] _ he rfl
 |_=>exact hv
theorem BA{κ κ':Nat->ax}{v:AV}(h:∀i,i∈Wx v->κ' i=κ i):res κ' v=res κ v:=by
 cases v with
 |own i ver ep p=>grind [res,Wx]
 |loc i ver ep p sz idx off=>grind [res,Wx]
 |pre i ver ep p sz idx off=>grind [res,Wx]
 |cD i ver=>grind [res,Wx]
 |_=>rfl
theorem Va{κ:Nat->ax}{u:AV}{g:Bool}{v:AV}(h:res κ u=.opt g v):u=.opt g v:=by
 cases u with
 |own i ver ep p=>
  grind [res,Nat.beq,emp]
 |loc i ver ep p sz idx off=>grind [res,cur]
 |pre i ver ep p sz idx off=>grind [res,cur]
 |cD i ver=>
  grind [res,Nat.beq]
 |opt g' v'=>exact h
 |_=>cases h
def I3(ρ ρ':Nat->AV)(κ κ':Nat->ax)(x:Operand):Prop:=(∀t,x=.tmp t->ρ' t=ρ t)/\∀i,i∈Yx ρ x->κ' i=κ i
def bH(ρ:Nat->AV)(κ:Nat->ax)(gd:Bool)(x:Operand)(av:AV):Prop:=
 ∀ρ' κ',I3 ρ ρ' κ κ' x->∀(g:eb) (n:Nat) (a:Act) (w:World) (G:Gh),cE g n ρ' κ' a w G->gd=true->aK G av (a.eval x)
theorem bH.dn{gd:Bool}{x:Operand}{av:AV}(h:bH ρ κ gd x av):bH ρ κ gd x (dn av):=fun ρ' κ' aA g n a w G aq aU=>Aw (h ρ' κ' aA g n a w G aq aU)
theorem AF{x:Operand}:∀ρ' κ',I3 ρ ρ' κ κ' x->∀(g:eb) (n:Nat) (a:Act) (w:World) (G:Gh),cE g n ρ' κ' a w G->aK G (ev ρ κ x) (a.eval x):=by
 intro ρ' κ' aA g n a w G aq
 cases x with
 |tmp t=>
  have h1:=xG aq.fit (aq.env t)
  rw[aA.1 t rfl]at h1
  simp[ev]
  rwa[<-BA (fun i hi=>aA.2 i hi)]
 |const v=>exact U9 G v
 |func f=>exact .fn f [] [] rfl (by simp)
 |global i=>
  simp[ev]
  split
  ·rename_i x hx
   exact .dv (cy.ok i x hx G.M (aq.oW.mono aq.mem))
  ·exact .any _
theorem Rx{v:Value}{g:Bool}{u:AV}(h:PM v=.opt g u):False:=by
 unfold PM at h
 grind
theorem Gp{x:Operand}{g':Bool}{v:AV}(he:ev ρ κ x=.opt g' v){gd:Bool}(hg:gd=true->g'=true):bH ρ κ gd x (res κ v):=by
 intro ρ' κ' aA g n a w G aq aU
 have h1:=AF ρ' κ' aA g n a w G aq
 rw[he]at h1
 have sr:=hg aU
 subst sr
 have h4:aK G v (a.eval x):=by generalize a.eval x=y at h1;cases h1 with|opt _ _ _ h3 hu=>grind
 have h6:=xG aq.fit h4
 have vl:res κ' v=res κ v:=by
  refine BA fun i hi=>aA.2 i ?_
  cases x with
  |tmp t=>
   simp[Yx]
   simp[ev]at he
   rwa[Va he]
  |const v=>exact(Rx he).elim
  |func f=>cases he
  |global i=>grind [ev]
 grind
theorem aL{gd:Bool}{x:Operand}{k:AV->Prop}(h:ex ρ κ gd x k):∃av,k av/\bH ρ κ gd x av:=by
 unfold ex at h
 split at h
 ·grind [force_eq,res,Gp]
 ·rw[force_eq]at h
  exact⟨ev ρ κ x,h,fun ρ' κ' aA g n a w G aq _=>AF ρ' κ' aA g n a w G aq⟩
end
def iN(F:Fence):Prop:=F=Fence.wide\/∃l,F=Fence.wide.inRound l
theorem iA:iN Fence.wide:=.inl rfl
theorem wide_round(l:Nat):iN (Fence.wide.inRound l):=.inr ⟨l,rfl⟩
theorem iN.fn{F:Fence}(h:iN F)(f:FuncId):F.fn f:=by rcases h with rfl|⟨l,rfl⟩<;>exact trivial
theorem iN.depth{F:Fence}(h:iN F):F.depth=none:=by rcases h with rfl|⟨l,rfl⟩<;>rfl
theorem iN.calls{F:Fence}(h:iN F){n:Nat}{P:Program}{f:FuncId}{args:Array Value}{w:World}{R:Ending->World->Prop}:CallsIn F n P f args w R↔Calls P f args w R:=by
 rcases h with rfl|⟨l,rfl⟩
 ·exact callsIn_wide
 ·exact callsIn_wide
theorem iN.round{F:Fence}(h:iN F){n:Nat}{P:Program}{l:Nat}{f:FuncId}{tmps:Array Value}{assign body:Code}{w:World}{R:Ending->World->Prop}:RoundIn F n P l f tmps assign body w R↔RoundIn Fence.wide n P l f tmps assign body w R:=by
 rcases h with rfl|⟨l,rfl⟩
 ·grind
 rfl
def nC(P:Program)(F:Fence)(ops:Array Oper)(o:Oper)(a:Act)(w:World)(K:Act->World->Prop):Prop:=
 if Region.wanted o (yielded ops a.tmps)=true then o.wpIn F 0 P a w K (fun _ _ _=>False)else K (a.put o.dst undef) w
structure D2(ops:List Oper)(o:Oper)(ρ ρ':Nat->AV)(κ κ':Nat->ax)(rd:List Nat)(bx:List (Nat×ax)):Prop where
 cx:∀t,t∈o.looksAt ops.toArray->ρ' t=ρ t
 rows:∀i,i∈ke ρ κ o->κ' i=κ i
 reads:∀i,i∈rd->κ' i=κ i
 boxes:∀i b,(i,b)∈bx->κ' i=κ i
def S4(P:Program)(C:eb->Prop)(ops:List Oper)(n lo:Nat)(o:Oper)(ρ:Nat->AV)(κ:Nat->ax)(cr:lK):Prop:=
 ∀F,iN F->∀ρ' κ',D2 ops o ρ ρ' κ κ' cr.reads cr.box->∀(g:eb) (a:Act) (w:World),g.m<=lo/\C g->St g n ρ' κ' a w->
  nC P F ops.toArray o a w fun a' w'=>St g n (aF ρ' cr.dst) (aF κ' cr.box) a' w'
def Good(P:Program)(C:eb->Prop)(ops:List Oper)(n:Nat)(o:Oper)(nx:Nat)(ρ:Nat->AV)(κ:Nat->ax)(k:lK->Nat->Prop):Prop:=
 ∃cr fA,k cr fA/\nx<=fA/\(∀p,p∈cr.box->p.1<fA)/\S4 P C ops n nx o ρ κ cr
section
variable {P:Program} {C:eb->Prop} {ops:List Oper} {n:Nat} {o:Oper} {nx fA:Nat} {ρ ρ':Nat->AV} {κ κ':Nat->ax} {k:lK->Nat->Prop} {rd:List Nat} {bx:List (Nat×ax)}
theorem Vb(hm:∀y,o.op≠.move y):ke ρ κ o=MT ρ o:=by
 grind [ke,absurd]
theorem D2.opR(h:D2 ops o ρ ρ' κ κ' rd bx){x:Operand}(hx:x∈o.op.operands)(hm:ke ρ κ o=MT ρ o):I3 ρ ρ' κ κ' x:=by
 have JI:x∈o.op.operands.toList:=by grind
 constructor
 ·rintro t rfl
  refine h.cx t ?_
  unfold Oper.looksAt
  grind
 ·intro i hi
  refine h.rows i ?_
  grind [MT,Yx]
theorem D2.op(h:D2 ops o ρ ρ' κ κ' rd bx){x:Operand}(hx:x∈o.op.operands)(hm:∀y,o.op≠.move y:=by have hh:=‹o.op=_›;intro y hy;rw[hh]at hy;cases hy):I3 ρ ρ' κ κ' x:=h.opR hx (Vb hm)
theorem I4{a:Act}{d j:Nat}(hj:(ops[j]?).bind (·.dst)=some d):yielded ops.toArray a.tmps j=match a.tmps[d]? with|some (.bool b)=>some b|_=>none:=by
 grind [yielded,bind]
theorem cF{g:eb}{a:Act}{w:World}{G:Gh}{gd:Bool}(hg:cn ρ ops o.guard=some gd)
 (aA:∀t,t∈o.looksAt ops.toArray->ρ' t=ρ t) (h:cE g n ρ' κ' a w G):Region.wanted o (yielded ops.toArray a.tmps)=gd:=by
 unfold cn at hg
 unfold Region.wanted
 split at hg
 ·grind
 ·rename_i j want hs
  rw[hs]
  split at hg
  ·rename_i d hd
   have hr:=by
    refine aA d ?_
    grind [Oper.looksAt]
   have hv:=h.env d
   rw[hr]at hv
   have ub:∀b,a.tmps.getD d undef=.bool b->a.tmps[d]?=some (.bool b):=by
    intro b hb
    rw[adt]at hb
    cases hc:a.tmps[d]? with
    |none=>rw[hc]at hb;cases hb
    |some v=>grind
   simp[I4 hd]
   split at hg
   ·rename_i b hb
    rw[hb]at hv
    injection hg with hg
    cases hv with
    |dv lP=>
     generalize hx:a.tmps.getD d undef=x at lP
     cases lP with
     |bool=>
      rw[ub b hx,<-hg]
      cases b<;>cases want<;>rfl
   ·rename_i gg b hb
    rw[hb]at hv
    injection hg with hg
    generalize hx:a.tmps.getD d undef=x at hv
    cases hv with
    |opt _ _ _ h1 h2=>
     cases gg with
     |true=>
      cases(h1 rfl)with
      |dv lP=>cases lP with
       |bool=>
        rw[ub b hx,<-hg]
        cases b<;>cases want<;>rfl
     |false=>
      rw[<-hg]
      have:∀b,a.tmps[d]?≠some (.bool b):=by
       intro b hc
       have:a.tmps.getD d undef=.bool b:=by simp_all
       rw[hx,(h2 rfl)]at this;cases this
      grind
   grind
  grind
theorem il{F:Fence}(hF:iN F){a:Act}{w w':World}{v:Value}{K:Act->World->Prop}{Q:Exit->Act->World->Prop}(hd:∀c,o.op≠.defer c)
 (bG:(execOp a.eval o).run P w=.ok (.value v) w') (hk:K (a.put o.dst v) w'):o.wpIn F 0 P a w K Q:=by
 refine⟨fun f _=>hF.fn f,?_⟩
 rwa[Oper.semAt_plain F _ _ hd,bG]
theorem zh{F:Fence}(hF:iN F){a:Act}{w w':World}{K:Act->World->Prop}{Q:Exit->Act->World->Prop}(hd:∀c,o.op≠.defer c)
 (bG:(execOp a.eval o).run P w=.ok .skip w') (hk:K (a.put o.dst undef) w'):o.wpIn F 0 P a w K Q:=by
 refine⟨fun f _=>hF.fn f,?_⟩
 rwa[Oper.semAt_plain F _ _ hd,bG]
theorem bu{gd:Bool}{av:AV}(hd:∀c,o.op≠.defer c)(hg:cn ρ ops o.guard=some gd)(hk:bj n o gd nx k av rd)
 (h:∀ρ' κ',D2 ops o ρ ρ' κ κ' rd []->∀(g:eb) (a:Act) (w:World) (G:Gh),cE g n ρ' κ' a w G->gd=true->
  ∃v,(execOp a.eval o).run P w=.ok (.value v) w/\aK G av v):Good P C ops n o nx ρ κ k:=by
 unfold bj at hk
 split at hk
 ·rename_i lP hn
  refine⟨_,_,hk,adM _,by simp,fun F hF ρ' κ' aA g a w dS ⟨G,aq⟩=>?_⟩
  have sr:gd=true:=by rw[hn]at hg;injection hg with hg;grind
  obtain⟨v,bG,_⟩:=h ρ' κ' aA g a w G aq sr
  unfold nC
  rw[cF hg aA.cx aq,sr,if_pos rfl]
  exact il hF hd bG ⟨G,by rwa[lP]⟩
 ·grind
 ·rename_i d lP hn
  cases aB:Nat.blt d n with
  |false=>grind
  |true=>
   rw[aB]at hk
   refine⟨_,_,hk,adM _,by simp,fun F hF ρ' κ' aA g a w dS ⟨G,aq⟩=>?_⟩
   have sr:gd=true:=by rw[hn]at hg;injection hg with hg;grind
   obtain⟨v,bG,hv⟩:=h ρ' κ' aA g a w G aq sr
   unfold nC
   rw[cF hg aA.cx aq,sr,if_pos rfl]
   exact il hF hd bG ⟨G,by rw[lP];exact aq.put (by simp_all) hv⟩
 ·rename_i d j lP hn
  cases aB:Nat.blt d n with
  |false=>grind
  |true=>
   rw[aB]at hk
   have ru:=by rwa[Nat.blt_eq]at aB
   refine⟨_,_,hk,adM _,by simp,fun F hF ρ' κ' aA g a w dS ⟨G,aq⟩=>?_⟩
   unfold nC
   rw[cF hg aA.cx aq]
   cases gd with
   |true=>
    obtain⟨v,bG,hv⟩:=h ρ' κ' aA g a w G aq rfl
    rw[if_pos rfl]
    exact il hF hd bG ⟨G,by rw[lP];exact aq.put ru (.opt true av v (fun _=>hv) (by simp))⟩
   |false=>
    simp[lP]
    exact⟨G,aq.put ru (.opt false av undef (by simp) (fun _=>rfl))⟩
theorem Gq{gd:Bool}{av:AV}(hd:∀c,o.op≠.defer c)(hg:cn ρ ops o.guard=some gd)(hk:dU n o fA k av bx rd)(fM:nx<=fA)(fF:∀p,p∈bx->p.1<fA)
 (h:∀ρ' κ',D2 ops o ρ ρ' κ κ' rd bx->∀(F:Fence),iN F->∀(g:eb) (a:Act) (w:World) (G:Gh),g.m<=nx/\C g->cE g n ρ' κ' a w G->gd=true->∀(K:Act->World->Prop),
  (∀v w' G',cE g n ρ' (aF κ' bx) a w' G'->aK G' av v->K (a.put o.dst v) w')->o.wpIn F 0 P a w K (fun _ _ _=>False)):Good P C ops n o nx ρ κ k:=by
 unfold dU at hk
 split at hk
 ·rename_i hgu lP
  have sr:gd=true:=by rw[hgu]at hg;injection hg with hg;grind
  refine⟨_,_,hk,fM,fF,fun F hF ρ' κ' aA g a w dS ⟨G,aq⟩=>?_⟩
  unfold nC
  rw[cF hg aA.cx aq,sr,if_pos rfl]
  refine h ρ' κ' aA F hF g a w G dS aq sr _ fun v w' G' h1 _=>⟨G',?_⟩
  rwa[lP]
 ·rename_i d hgu lP
  cases aB:Nat.blt d n with
  |false=>grind
  |true=>
   rw[aB]at hk
   have sr:gd=true:=by rw[hgu]at hg;injection hg with hg;grind
   refine⟨_,_,hk,fM,fF,fun F hF ρ' κ' aA g a w dS ⟨G,aq⟩=>?_⟩
   unfold nC
   rw[cF hg aA.cx aq,sr,if_pos rfl]
   refine h ρ' κ' aA F hF g a w G dS aq sr _ fun v w' G' h1 h2=>⟨G',?_⟩
   rw[lP];exact h1.put (by simp_all) h2
 grind
theorem EA{gd:Bool}{av:AV}(hd:∀c,o.op≠.defer c)(hg:cn ρ ops o.guard=some gd)(hk:xZ n o gd fA k av bx rd)(fM:nx<=fA)(fF:∀p,p∈bx->p.1<fA)
 (h:∀ρ' κ',D2 ops o ρ ρ' κ κ' rd bx->∀(F:Fence),iN F->∀(g:eb) (a:Act) (w:World) (G:Gh),g.m<=nx/\C g->cE g n ρ' κ' a w G->gd=true->∀(K:Act->World->Prop),
  (∀v w' G',cE g n ρ' (aF κ' bx) a w' G'->aK G' av v->K (a.put o.dst v) w')->o.wpIn F 0 P a w K (fun _ _ _=>False)):Good P C ops n o nx ρ κ k:=by
 unfold xZ at hk
 split at hk
 ·grind [Gq]
 ·obtain⟨sr,hk⟩:=hk
  split at hk
  ·rename_i lP
   refine⟨_,_,hk,fM,fF,fun F hF ρ' κ' aA g a w dS ⟨G,aq⟩=>?_⟩
   unfold nC
   rw[cF hg aA.cx aq,sr,if_pos rfl]
   refine h ρ' κ' aA F hF g a w G dS aq sr _ fun v w' G' h1 _=>⟨G',?_⟩
   rwa[lP]
  ·rename_i d lP
   cases aB:Nat.blt d n with
   |false=>grind
   |true=>
    rw[aB]at hk
    refine⟨_,_,hk,fM,fF,fun F hF ρ' κ' aA g a w dS ⟨G,aq⟩=>?_⟩
    unfold nC
    rw[cF hg aA.cx aq,sr,if_pos rfl]
    refine h ρ' κ' aA F hF g a w G dS aq sr _ fun v w' G' h1 h2=>⟨G',?_⟩
    rw[lP];exact h1.put (by simp_all) (.opt true av v (fun _=>h2) (by simp))
theorem KT{gd:Bool}{av:AV}(hd:∀c,o.op≠.defer c)(hg:cn ρ ops o.guard=some gd)(hk:dU n o fA k av bx rd)(fM:nx<=fA)(fF:∀p,p∈bx->p.1<fA)
 (h:∀ρ' κ',D2 ops o ρ ρ' κ κ' rd bx->∀(F:Fence),iN F->∀(g:eb) (a:Act) (w:World) (G:Gh),g.m<=nx->cE g n ρ' κ' a w G->gd=true->∀(K:Act->World->Prop),
  (∀v w' G',cE g n ρ' (aF κ' bx) a w' G'->aK G' av v->K (a.put o.dst v) w')->o.wpIn F 0 P a w K (fun _ _ _=>False)):Good P C ops n o nx ρ κ k:=
 Gq hd hg hk fM fF fun ρ' κ' aA F hF g a w G dS=>h ρ' κ' aA F hF g a w G dS.1
theorem du{gd:Bool}{av:AV}(hd:∀c,o.op≠.defer c)(hg:cn ρ ops o.guard=some gd)(hk:dU n o fA k av bx rd)(fM:nx<=fA)(fF:∀p,p∈bx->p.1<fA)
 (h:∀ρ' κ',D2 ops o ρ ρ' κ κ' rd bx->∀(g:eb) (a:Act) (w:World) (G:Gh),g.m<=nx->cE g n ρ' κ' a w G->gd=true->
  ∃v w' G',((execOp a.eval o).run P w=.ok (.value v) w'\/(execOp a.eval o).run P w=.ok .skip w'/\v=undef)/\cE g n ρ' (aF κ' bx) a w' G'/\aK G' av v):Good P C ops n o nx ρ κ k:=by
 refine KT hd hg hk fM fF fun ρ' κ' aA F hF g a w G dS aq aU K hK=>?_
 obtain⟨v,w',G',hr,h1,h2⟩:=h ρ' κ' aA g a w G dS aq aU
 rcases hr with hr|⟨hr,rfl⟩
 ·grind [il]
 grind [zh,undef]
theorem Ry{gd:Bool}{av:AV}(hd:∀c,o.op≠.defer c)(hg:cn ρ ops o.guard=some gd)(hk:xZ n o gd fA k av bx rd)(fM:nx<=fA)(fF:∀p,p∈bx->p.1<fA)
 (h:∀ρ' κ',D2 ops o ρ ρ' κ κ' rd bx->∀(g:eb) (a:Act) (w:World) (G:Gh),g.m<=nx->cE g n ρ' κ' a w G->gd=true->
  ∃v w' G',((execOp a.eval o).run P w=.ok (.value v) w'\/(execOp a.eval o).run P w=.ok .skip w'/\v=undef)/\cE g n ρ' (aF κ' bx) a w' G'/\aK G' av v):Good P C ops n o nx ρ κ k:=by
 refine EA hd hg hk fM fF fun ρ' κ' aA F hF g a w G dS aq aU K hK=>?_
 obtain⟨v,w',G',hr,h1,h2⟩:=h ρ' κ' aA g a w G dS.1 aq aU
 rcases hr with hr|⟨hr,rfl⟩
 ·grind [il]
 grind [zh,undef]
theorem TE{gd:Bool}{av:AV}(hg:o.guard=none)(h:dU n o nx k av bx rd):xZ n o gd nx k av bx rd:=by
 grind [xZ]
end
end
section
open Go.RowKit
variable [cy]
theorem cZ(a:Addr)(i j:Nat):(a.add i).add j=a.add (i+j):=by
 grind [Addr.add,Nat.add_assoc]
theorem eW(b o k:Nat):(⟨b,o,none⟩:Addr).add k=⟨b,o+k,none⟩:=by grind [Addr.add]
section
variable {P:Program} {C:eb->Prop} {T:List TI}
structure gO(P:Program)(t:Nat)(ti:TI)(i:TypeInfo)(u:TypeDesc)(z:Value):Prop where
 info:P.info? t=some i
 B6:P.underlying t=some u
 zero:i.zero=some z
 zc:pM z.cells.toList=some ti.zero
 zl:ti.zero.length=i.size
 size:ti.size=i.size
 bytes:ti.bytes=i.bytes
 agg:ti.agg=Kj u
 fields:ti.fields=fieldsOf P u
 isSl:ti.isSl=L0 u
 isStr:ti.isStr=strOf u
 elem:ti.elem=PJ u
 kind:ti.kind=kindOf u
 key:ti.key=keyOf u
 Ck:ti.Ck=H5 u
 Nx:ti.Nx=JF u
 fin:yE P u=true
 c7:gK z=Kj u
 pair:ti.pair=(Hs P u&& !P.stoodInHeld t)
 len:ti.len=lenOf u
 W8:ti.W8=PK P t i.size u
theorem fB.facts(hT:fB P T){t:Nat}(h:(nth T t).ok=true):∃i u z,gO P t (nth T t) i u z:=by
 have e:=hT t h
 unfold TI.of at e
 split at e
 ·rename_i i u hi hu
  have h1:=congrArg TI.ok e
  rw[h]at h1
  have h1:=h1.symm
  simp[adT]at h1
  obtain⟨pf,h1⟩:=h1
  have h1:=h1.symm
  split at h1
  ·rename_i z hz
   split at h1
   ·exact⟨i,u,z,hi,hu,hz,by grind,by grind,congrArg TI.size e,congrArg TI.bytes e,congrArg TI.agg e,congrArg TI.fields e,congrArg TI.isSl e,congrArg TI.isStr e,congrArg TI.elem e,congrArg TI.kind e,congrArg TI.key e,congrArg TI.Ck e,congrArg TI.Nx e,pf,by grind,congrArg TI.pair e,congrArg TI.len e,congrArg TI.W8 e⟩
   grind
  grind
 ·have h1:=congrArg TI.ok e
  rw[h]at h1
  cases h1
theorem ra{w:World}{t:TypeId}{i:TypeInfo}(h:P.info? t=some i):(typeInfo t).run P w=.ok i w:=by
 simp[typeInfo,h]
theorem j8{w:World}{t:TypeId}{i:TypeInfo}(h:P.info? t=some i):(sizeOf t).run P w=.ok i.size w:=by
 simp[sizeOf,ra h]
theorem gO.uX{t:Nat}{ti:TI}{i:TypeInfo}{u:TypeDesc}{z:Value}(h:gO P t ti i u z)(w:World):(isAgg t).run P w=.ok ti.agg w:=by
 simp[isAgg,Sem.run_bind,run_underlying h.B6,h.agg]
 cases u<;>rfl
theorem gO.gl{t:Nat}{ti:TI}{i:TypeInfo}{u:TypeDesc}{z:Value}(h:gO P t ti i u z)(w:World):(sizeOf t).run P w=.ok ti.size w:=by
 rw[j8 h.info,h.size]
theorem gO.tN{t:Nat}{ti:TI}{i:TypeInfo}{u:TypeDesc}{z:Value}(h:gO P t ti i u z)(w:World):(zeroValue t).run P w=.ok z w:=by
 simp[zeroValue,ra h.info,h.zero]
theorem gO.slice{t:Nat}{ti:TI}{i:TypeInfo}{u:TypeDesc}{z:Value}(h:gO P t ti i u z)(hs:ti.isSl=true):P.underlying t=some (.slice ti.elem):=by
 have h1:=h.isSl
 have h2:=h.elem
 rw[hs]at h1
 cases u<;>simp[L0]at h1<;>simp[PJ]at h2
 rw[h.B6,h2]
theorem gO.string{t:Nat}{ti:TI}{i:TypeInfo}{u:TypeDesc}{z:Value}(h:gO P t ti i u z)(hs:ti.isStr=true):P.underlying t=some .string:=by
 have h1:=h.isStr
 rw[hs]at h1
 cases u<;>simp[strOf]at h1
 exact h.B6
theorem gO.field{t:Nat}{ti:TI}{i:TypeInfo}{u:TypeDesc}{z:Value}(h:gO P t ti i u z){f off sz:Nat}(hf:ti.fields[f]?=some (off,sz))(h0:sz≠0):
 ∃fs fd,P.underlying t=some (.struct fs)/\fs[f]?=some fd/\fd.offset=off/\∃j,P.info? fd.type=some j/\j.size=sz:=by
 have h1:=h.fields
 cases u with
 |struct fs=>
  simp[fieldsOf]at h1
  rw[h1,adk]at hf
  cases hx:fs.toList[f]? with
  |none=>grind
  |some fd=>
   simp only[hx,Option.map_some]at hf
   injection hf with hf
   injection hf with e1 e2
   refine⟨fs,fd,h.B6,by grind,e1,?_⟩
   grind
 |_=>simp[fieldsOf]at h1;rw[h1]at hf;simp at hf
end
section
variable {P:Program} {C:eb->Prop} {T:List TI} {ops:List Oper} {n:Nat} {o:Oper} {nx:Nat} {ρ:Nat->AV} {κ:Nat->ax} {k:lK->Nat->Prop} {gd:Bool}
theorem vQ{m:Int}(h:-9223372036854775808<=m/\m<=9223372036854775807):IntKind.i64.wrap m=m:=IntWalk.i64_in m (by omega)
theorem j9{kd:IntKind}{m:Int}{ret:AV->Prop}(h:arith kd m gd ret):∃r,ret (.dv (.int kd r))/\(gd=true->kd.wrap m=r):=by
 unfold arith at h
 split at h
 ·grind [vQ]
 grind
theorem iU{w:World}(op:BinOp)(t:TypeId)(x y:Operand)(a b:Value)(h:¬(a=.nilIface/\b=.nilIface))(h2:∀cs ds,¬(a=.agg cs/\b=.agg ds)):(eqGuard op t x y a b).run P w=.ok () w:=by
 simp_all [eqGuard]
theorem zk{w:World}{t:TypeId}(hu:P.underlying t=some .bool)(p q:Bool):(Op.equal t (.bool p) (.bool q)).run P w=.ok (p==q) w:=by
 have h:∀d,(Op.equalIn (d+1) t (.bool p) (.bool q)).run P w=.ok (p==q) w:=fun d=>by simp[Op.equalIn,run_underlying hu]
 grind [Op.equal,Op.maxDepth]
theorem rh{w:World}{t e:TypeId}(hu:P.underlying t=some (.pointer e))(a:Option Addr):(Op.equal t (.pointer a) (.pointer none)).run P w=.ok a.isNone w:=by
 have h:∀d,(Op.equalIn (d+1) t (.pointer a) (.pointer none)).run P w=.ok a.isNone w:=fun d=>by
  cases a<;>simp[Op.equalIn,run_underlying hu]
 grind [Op.equal,Op.maxDepth]
theorem Rz{w:World}{t:TypeId}(hu:P.underlying t=some .bool)(p q:Bool):(binOp .eql t (.bool p) (.bool q)).run P w=.ok (.bool (p==q)) w:=by
 grind [binOp,Sem.run_bind,zk,Result.andThen_ok,Sem.run_pure]
theorem RA{w:World}{t:TypeId}(hu:P.underlying t=some .bool)(p q:Bool):(binOp .neq t (.bool p) (.bool q)).run P w=.ok (.bool (!(p==q))) w:=by
 grind [binOp,Sem.run_bind,zk,Result.andThen_ok,Sem.run_pure]
theorem vR{w:World}{t e:TypeId}(hu:P.underlying t=some (.pointer e))(a:Option Addr):(binOp .eql t (.pointer a) (.pointer none)).run P w=.ok (.bool a.isNone) w:=by
 grind [binOp,Sem.run_bind,rh,Result.andThen_ok,Sem.run_pure]
theorem vS{w:World}{t e:TypeId}(hu:P.underlying t=some (.pointer e))(a:Option Addr):(binOp .neq t (.pointer a) (.pointer none)).run P w=.ok (.bool (!a.isNone)) w:=by
 grind [binOp,Sem.run_bind,rh,Result.andThen_ok,Sem.run_pure]
theorem Gr(hT:fB P T){t:TypeId}(h1:(nth T t).ok=true)(h2:Nat.beq (nth T t).kind 5=true):∃e,P.underlying t=some (.pointer e):=by
 obtain⟨i,ud,z,hf⟩:=hT.facts h1
 have h3:=hf.kind
 rw[adm h2]at h3
 cases ud<;>simp[kindOf]at h3
 exact⟨_,hf.B6⟩
theorem MU{G:Gh}{x:AV}{u:Value}(h:sM x=true)(hv:aK G x u):∃A,u=.pointer (some A):=by
 cases hv with
 |ptr=>grind
 |loc=>grind
 |qG=>grind
 |dv hd=>cases hd<;>first|exact⟨_,rfl⟩|simp[sM]at h
 |_=>simp[sM]at h
theorem vT{w:World}(t:TypeId)(kx ky:IntKind)(a b:Int)(hb:0<=b):(binOp .shl t (.int kx a) (.int ky b)).run P w=.ok (.int kx (kx.wrap (a*2^min b.toNat kx.bits))) w:=by
 have:¬b<0:=by omega
 simp[binOp,Op.shift,this]
theorem vU{w:World}(t:TypeId)(kx ky:IntKind)(a b:Int)(hb:0<=b):(binOp .shr t (.int kx a) (.int ky b)).run P w=.ok (.int kx (a/2^min b.toNat kx.bits)) w:=by
 have:¬b<0:=by omega
 have hp:(0:Int)<=2^min b.toNat kx.bits:=Int.pow_nonneg (by grind)
 simp[binOp,Op.shift,this,Int.fdiv_eq_ediv_of_nonneg _ hp]
theorem I5(hT:fB P T){op:BinOp}{x0 y0:AV}{t:TypeId}{ret:AV->Prop}(h:sU (nth T t) op x0 y0 gd ret):∃r,ret (.dv r)/\r.ao=true/\∀(G:Gh) (w:World) (a b:Value),gd=true->aK G x0 a->aK G y0 b->
 ∃v,(binOp op t a b).run P w=.ok v w/\bq G.M r v/\¬(a=.nilIface/\b=.nilIface)/\∀cs ds,¬(a=.agg cs/\b=.agg ds):=by
 unfold sU at h
 split at h
 ·rename_i kx a ky b
  have acv:∀{G:Gh} {u v:Value},aK G (.dv (.int kx a)) u->aK G (.dv (.int ky b)) v->u=.int kx a/\v=.int ky b:=by
   intro G u v hu hv
   cases hu with|dv hu=>cases hu with|int=>cases hv with|dv hv=>cases hv with|int=>exact⟨rfl,rfl⟩
  have abt:∀{r:DV},ret (.dv r)->r.ao=true->(∀(w:World) (G:Gh),gd=true->∃v,(binOp op t (.int kx a) (.int ky b)).run P w=.ok v w/\bq G.M r v)->∃r,ret (.dv r)/\r.ao=true/\∀(G:Gh) (w:World) (u v:Value),gd=true->aK G (.dv (.int kx a)) u->aK G (.dv (.int ky b)) v->
   ∃x,(binOp op t u v).run P w=.ok x w/\bq G.M r x/\¬(u=.nilIface/\v=.nilIface)/\∀cs ds,¬(u=.agg cs/\v=.agg ds):=by
   intro r hr hc hh
   refine⟨r,hr,hc,fun G w u v hg hu hv=>?_⟩
   obtain⟨rfl,rfl⟩:=acv hu hv
   obtain⟨x,h1,h2⟩:=hh w G hg
   exact⟨x,h1,h2,by simp,by simp⟩
  cases hk:kx==ky with
  |false=>
   rw[hk]at h
   simp only[cond_false,Kk]at h
   split at h
   ·exact abt h.2 rfl fun w G hg=>⟨_,by rw[vT _ _ _ _ _ (h.1 hg)],.int kx _⟩
   ·exact abt h.2 rfl fun w G hg=>⟨_,by rw[vU _ _ _ _ _ (h.1 hg)],.int kx _⟩
   ·exact h.elim
  |true=>
   rw[hk]at h
   have Fj:=by simpa using hk
   subst Fj
   have inv:∀{G:Gh} {u v:Value},aK G (.dv (.int kx a)) u->aK G (.dv (.int kx b)) v->u=.int kx a/\v=.int kx b:=by
    intro G u v hu hv
    cases hu with|dv hu=>cases hu with|int=>cases hv with|dv hv=>cases hv with|int=>exact⟨rfl,rfl⟩
   have fin:∀{r:DV},ret (.dv r)->r.ao=true->(∀(w:World) (G:Gh),gd=true->∃v,(binOp op t (.int kx a) (.int kx b)).run P w=.ok v w/\bq G.M r v)->∃r,ret (.dv r)/\r.ao=true/\∀(G:Gh) (w:World) (u v:Value),gd=true->aK G (.dv (.int kx a)) u->aK G (.dv (.int kx b)) v->
    ∃x,(binOp op t u v).run P w=.ok x w/\bq G.M r x/\¬(u=.nilIface/\v=.nilIface)/\∀cs ds,¬(u=.agg cs/\v=.agg ds):=by
    intro r hr hc hh
    refine⟨r,hr,hc,fun G w u v hg hu hv=>?_⟩
    obtain⟨rfl,rfl⟩:=inv hu hv
    obtain⟨x,h1,h2⟩:=hh w G hg
    exact⟨x,h1,h2,by simp,by simp⟩
   simp only[cond_true]at h
   split at h
   ·obtain⟨r,hr,he⟩:=j9 h
    exact fin hr rfl fun w G hg=>⟨_,by simp[binOp,Op.intArith,he hg],.int kx r⟩
   ·obtain⟨r,hr,he⟩:=j9 h
    exact fin hr rfl fun w G hg=>⟨_,by simp[binOp,Op.intArith,he hg],.int kx r⟩
   ·obtain⟨r,hr,he⟩:=j9 h
    exact fin hr rfl fun w G hg=>⟨_,by simp[binOp,Op.intArith,he hg],.int kx r⟩
   ·obtain⟨r,hr,he⟩:=j9 h.2
    exact fin hr rfl fun w G hg=>⟨_,by simp[binOp,Op.intDiv,h.1 hg,he hg],.int kx r⟩
   ·exact fin h.2 rfl fun w G hg=>⟨_,by simp[binOp,Op.intDiv,h.1 hg],.int kx _⟩
   ·exact fin h rfl fun w G hg=>⟨_,by simp[binOp,Op.intCmp],.bool _⟩
   ·exact fin h rfl fun w G hg=>⟨_,by simp[binOp,Op.intCmp],.bool _⟩
   ·exact fin h rfl fun w G hg=>⟨_,by simp[binOp,Op.intCmp],.bool _⟩
   ·exact fin h rfl fun w G hg=>⟨_,by simp[binOp,Op.intCmp],.bool _⟩
   ·exact fin h rfl fun w G hg=>⟨_,by simp[binOp,Op.intCmp],.bool _⟩
   ·exact fin h rfl fun w G hg=>⟨_,by simp[binOp,Op.intCmp],.bool _⟩
   ·exact fin h rfl fun w G hg=>⟨_,by simp[binOp,intBits_and],.int kx _⟩
   ·exact fin h rfl fun w G hg=>⟨_,by simp[binOp,intBits_or],.int kx _⟩
   ·exact fin h rfl fun w G hg=>⟨_,by simp[binOp,intBits_xor],.int kx _⟩
   ·exact fin h.2 rfl fun w G hg=>⟨_,by grind [vT],.int kx _⟩
   ·exact fin h.2 rfl fun w G hg=>⟨_,by grind [vU],.int kx _⟩
   ·grind
 ·rename_i p q
  have fin:∀{r:DV},ret (.dv r)->r.ao=true->(∀(w:World) (G:Gh),∃v,(binOp op t (.bool p) (.bool q)).run P w=.ok v w/\bq G.M r v)->∃r,ret (.dv r)/\r.ao=true/\∀(G:Gh) (w:World) (u v:Value),gd=true->aK G (.dv (.bool p)) u->aK G (.dv (.bool q)) v->
   ∃x,(binOp op t u v).run P w=.ok x w/\bq G.M r x/\¬(u=.nilIface/\v=.nilIface)/\∀cs ds,¬(u=.agg cs/\v=.agg ds):=by
   intro r hr hc hh
   refine⟨r,hr,hc,fun G w u v _ hu hv=>?_⟩
   cases hu with|dv hu=>cases hu with|bool=>cases hv with|dv hv=>cases hv with|bool=>
   simp_all
  cases hk:(nth T t).ok&&Nat.beq (nth T t).kind 1 with
  |false=>grind
  |true=>
   rw[hk]at h
   simp only[adT]at hk
   obtain⟨i,ud,z,hf⟩:=hT.facts hk.1
   have hu:=by
    have h1:=hf.kind
    rw[adm hk.2]at h1
    cases ud<;>simp[kindOf]at h1
    exact hf.B6
   simp only[cond_true]at h
   split at h
   ·exact fin h rfl fun w G=>⟨_,Rz hu p q,.bool _⟩
   ·exact fin h rfl fun w G=>⟨_,RA hu p q,.bool _⟩
   grind
 ·rename_i s s'
  have fin:∀{r:DV},ret (.dv r)->r.ao=true->(∀(w:World) (G:Gh),gd=true->∃v,(binOp op t (.string s) (.string s')).run P w=.ok v w/\bq G.M r v)->∃r,ret (.dv r)/\r.ao=true/\∀(G:Gh) (w:World) (u v:Value),gd=true->aK G (.dv (.str s)) u->aK G (.dv (.str s')) v->
   ∃x,(binOp op t u v).run P w=.ok x w/\bq G.M r x/\¬(u=.nilIface/\v=.nilIface)/\∀cs ds,¬(u=.agg cs/\v=.agg ds):=by
   intro r hr hc hh
   refine⟨r,hr,hc,fun G w u v hg hu hv=>?_⟩
   cases hu with|dv hu=>cases hu with|str=>cases hv with|dv hv=>cases hv with|str=>
   simp_all
  split at h
  ·exact fin h rfl fun w G _=>⟨_,by rfl,.bool _⟩
  ·exact fin h rfl fun w G _=>⟨_,by rfl,.bool _⟩
  ·refine fin h.2 rfl fun w G hg=>⟨_,?_,.str _⟩
   have hs:=h.1 hg
   have:¬((s.size+s'.size:Nat))>IntKind.i64.max:=by
    simp_all
   simp only[binOp,Op.stringOp,this,if_false]
   rfl
  grind
 ·rename_i kx lo hi ky b
  cases hk:kx==ky with
  |false=>grind
  |true=>
   rw[hk]at h
   have Fj:=by simpa using hk
   subst Fj
   simp only[cond_true]at h
   split at h
   ·rename_i r hr
    refine⟨_,h,rfl,fun G w u v _ hu hv=>?_⟩
    cases hu with|dv hu=>cases hu with|Am _ _ _ a h1 h2=>cases hv with|dv hv=>cases hv with|int=>
    refine⟨.bool r,?_,.bool _,by simp,by simp⟩
    have hs:∀{p q:Bool},zV p q=some r->(p=true/\r=true)\/(p=false/\q=true/\r=false):=by
     grind [zV]
    have ht:∀{p q:Bool} {s:Bool},(bif p||q then some s else none)=some r->r=s/\(p=true\/q=true):=by
     grind
    unfold Cm at hr
    split at hr
    ·rcases hs hr with⟨e1,e2⟩|⟨e1,e3,e2⟩<;>simp at e1<;>(try simp at e3)<;>subst e2<;>simp[binOp,Op.intCmp]<;>omega
    ·rcases hs hr with⟨e1,e2⟩|⟨e1,e3,e2⟩<;>simp at e1<;>(try simp at e3)<;>subst e2<;>simp[binOp,Op.intCmp]<;>omega
    ·rcases hs hr with⟨e1,e2⟩|⟨e1,e3,e2⟩<;>simp at e1<;>(try simp at e3)<;>subst e2<;>simp[binOp,Op.intCmp]<;>omega
    ·rcases hs hr with⟨e1,e2⟩|⟨e1,e3,e2⟩<;>simp at e1<;>(try simp at e3)<;>subst e2<;>simp[binOp,Op.intCmp]<;>omega
    ·obtain⟨e1,e2⟩:=ht hr;subst e1;simp at e2;simp[binOp,Op.intCmp];omega
    ·obtain⟨e1,e2⟩:=ht hr;subst e1;simp at e2;simp[binOp,Op.intCmp];omega
    grind
   ·unfold PN at h
    split at h
    ·cases hd:decide (lo=hi)with
     |false=>grind
     |true=>
      rw[hd]at h
      have e:=adz hd
      subst e
      refine⟨_,h,rfl,fun G w u v _ hu hv=>?_⟩
      cases hu with|dv hu=>cases hu with|Am _ _ _ a h1 h2=>cases hv with|dv hv=>cases hv with|int=>
      have e:a=lo:=by omega
      subst e
      exact⟨_,by simp[binOp,Op.intArith],.int kx _,by simp,by simp⟩
    grind
 ·rename_i kx a ky lo hi
  cases hk:kx==ky with
  |false=>grind
  |true=>
   rw[hk]at h
   have Fj:=by simpa using hk
   subst Fj
   simp only[cond_true]at h
   split at h
   ·obtain⟨e,h⟩:=h
    subst e
    refine⟨_,h,rfl,fun G w u v _ hu hv=>?_⟩
    cases hu with|dv hu=>cases hu with|int=>cases hv with|dv hv=>cases hv with|Am _ _ _ b h1 h2=>
    have e:b=lo:=by omega
    subst e
    exact⟨_,by simp[binOp,Op.intArith],.int kx _,by simp,by simp⟩
   grind
 ·cases hk:(nth T t).ok&&Nat.beq (nth T t).kind 5 with
  |false=>grind
  |true=>
   rw[hk]at h
   simp only[adT]at hk
   obtain⟨e,hu⟩:=Gr hT hk.1 hk.2
   have fin:∀{r:Bool},ret (.dv (.bool r))->(∀(w:World),(binOp op t (.pointer none) (.pointer none)).run P w=.ok (.bool r) w)->∃r,ret (.dv r)/\r.ao=true/\∀(G:Gh) (w:World) (u v:Value),gd=true->aK G (.dv .eJ) u->aK G (.dv .eJ) v->
    ∃y,(binOp op t u v).run P w=.ok y w/\bq G.M r y/\¬(u=.nilIface/\v=.nilIface)/\∀cs ds,¬(u=.agg cs/\v=.agg ds):=by
    intro r hr hh
    refine⟨_,hr,rfl,fun G w u v _ hu hv=>?_⟩
    cases hu with|dv hu=>cases hu with|eJ=>cases hv with|dv hv=>cases hv with|eJ=>
    exact⟨_,hh w,.bool _,by simp,by simp⟩
   simp only[cond_true]at h
   split at h
   ·simp_all [vR]
   ·simp_all [vS]
   grind
 ·cases hk:(nth T t).ok&&Nat.beq (nth T t).kind 5&&sM x0 with
  |false=>grind
  |true=>
   rw[hk]at h
   simp only[adT]at hk
   obtain⟨e,hu⟩:=Gr hT hk.1.1 hk.1.2
   have fin:∀{r:Bool},ret (.dv (.bool r))->(∀(w:World) (A:Addr),(binOp op t (.pointer (some A)) (.pointer none)).run P w=.ok (.bool r) w)->∃r,ret (.dv r)/\r.ao=true/\∀(G:Gh) (w:World) (u v:Value),gd=true->aK G x0 u->aK G (.dv .eJ) v->
    ∃y,(binOp op t u v).run P w=.ok y w/\bq G.M r y/\¬(u=.nilIface/\v=.nilIface)/\∀cs ds,¬(u=.agg cs/\v=.agg ds):=by
    intro r hr hh
    refine⟨_,hr,rfl,fun G w u v _ hu hv=>?_⟩
    cases hv with|dv hv=>cases hv with|eJ=>
    obtain⟨A,rfl⟩:=MU hk.2 hu
    exact⟨_,hh w A,.bool _,by simp,by simp⟩
   simp only[cond_true]at h
   split at h
   ·simp_all [vR]
   ·simp_all [vS]
   grind
 ·grind
end
end
section
open Go.RowKit
variable [cy]
section
variable {P:Program} {C:eb->Prop} {T:List TI} {ops:List Oper} {n:Nat} {o:Oper} {nx:Nat} {ρ:Nat->AV} {κ:Nat->ax} {k:lK->Nat->Prop} {gd:Bool}
theorem Vc{x:Operand}(hg:cn ρ ops o.guard=some gd)(ho:o.op=.move x)(h:ex ρ κ gd x fun v=>bj n o gd nx k v []):Good P C ops n o nx ρ κ k:=by
 by_cases hm:ke ρ κ o=MT ρ o
 ·obtain⟨av,hk,bP⟩:=aL h
  exact bu (fun c=>by grind) hg hk fun ρ' κ' aA g a w G aq aU=>⟨_,by simp[execOp,ho],(bP ρ' κ' (aA.opR (by grind [Op.operands]) hm) g n a w G aq aU)⟩
 ·unfold ke at hm
  split at hm
  ·rename_i t ht
   rw[ho]at ht
   injection ht with ht
   subst ht
   cases hb:mvT κ (ρ t)with
   |false=>grind
   |true=>
    generalize hρ:ρ t=v at hb
    cases v with
    |own i ver ep p=>
     simp[mvT]at hb
     cases hk:κ i with
     |tree V E d=>
      unfold ex at h
      simp[ev,hρ,res,hk]at h
      cases hc:Nat.beq ver V&&(emp p||Nat.beq ep E)with
      |true=>
       rw[hc]at h
       simp[cond_true]at h
       rw[force_eq]at h
       refine bu (fun c=>by grind) hg h fun ρ' κ' aA g a w G aq aU=>?_
       have h1:=aq.env t
       rw[aA.cx t (by unfold Oper.looksAt;rw[ho];exact adr.2 (.inl (by simp[Op.operands]))),hρ]at h1
       exact⟨_,by simp only[execOp,ho];rfl,h1⟩
      |false=>
       rw[hc]at h
       simp[cond_false]at h
       rw[force_eq]at h
       exact bu (fun c=>by grind) hg h fun ρ' κ' aA g a w G aq aU=>⟨a.eval (.tmp t),by simp[execOp,ho],.any _⟩
     |_=>rw[hk]at hb;cases hb
    |_=>cases hb
  grind
theorem MV{x:Operand}{av:AV}(hg:cn ρ ops o.guard=some gd)(ho:o.op=.assign x)(hk:bj n o gd nx k av [])(bP:bH ρ κ gd x av):Good P C ops n o nx ρ κ k:=by
 exact bu (fun c=>by grind) hg hk fun ρ' κ' aA g a w G aq aU=>⟨_,by simp[execOp,ho],(bP ρ' κ' (aA.op (by grind [Op.operands])) g n a w G aq aU)⟩
theorem pX{x:Operand}{av:AV}(hg:cn ρ ops o.guard=some gd)(ho:o.op=.nilCheck x)(hk:bj n o gd nx k av [])(bP:bH ρ κ gd x av)
 (hp:∀(G:Gh) (v:Value),aK G av v->∃a,v=.pointer (some a)):Good P C ops n o nx ρ κ k:=by
 refine bu (fun c=>by grind) hg hk fun ρ' κ' aA g a w G aq aU=>?_
 have hv:=bP ρ' κ' (aA.op (by grind [Op.operands])) g n a w G aq aU
 obtain⟨p,hp⟩:=hp _ _ hv
 simp_all [execOp]
theorem RD(hT:fB P T){op:BinOp}{t ty:TypeId}{x y:Operand}(hg:cn ρ ops o.guard=some gd)(ho:o.op=.binOp op t x y ty)
 {va vb:AV} (Yy:bH ρ κ gd x va) (Yz:bH ρ κ gd y vb) (h:sU (nth T t) op va vb gd fun v=>bj n o gd nx k v []):Good P C ops n o nx ρ κ k:=by
 obtain⟨r,hk,hc,hr⟩:=I5 hT h
 refine bu (fun c=>by grind) hg hk fun ρ' κ' aA g a w G aq aU=>?_
 obtain⟨v,h3,h4,h5,h6⟩:=hr G w _ _ aU (Yy ρ' κ' (aA.op (by grind [Op.operands])) g n a w G aq aU) (Yz ρ' κ' (aA.op (by grind [Op.operands])) g n a w G aq aU)
 refine⟨v,?_,.dv h4⟩
 grind [execOp,Sem.run_bind,iU,Result.andThen_ok,Sem.run_pure]
theorem YA{t:TypeId}{x:Operand}{b:Bool}(hg:cn ρ ops o.guard=some gd)(ho:o.op=.unOp .not t x)(hk:bj n o gd nx k (.dv (.bool (!b))) [])(bP:bH ρ κ gd x (.dv (.bool b))):Good P C ops n o nx ρ κ k:=by
 refine bu (fun c=>by grind) hg hk fun ρ' κ' aA g a w G aq aU=>?_
 have hv:=bP ρ' κ' (aA.op (by grind [Op.operands])) g n a w G aq aU
 generalize hx:a.eval x=v at hv
 cases hv with|dv hv=>cases hv with|bool=>
 exact⟨_,by simp[execOp,ho,hx,Op.unary],.dv (.bool _)⟩
theorem YB{t:TypeId}{x:Operand}{kd:IntKind}{m:Int}(hg:cn ρ ops o.guard=some gd)(ho:o.op=.unOp .neg t x)(hk:arith kd (0-m) gd fun v=>bj n o gd nx k v [])(bP:bH ρ κ gd x (.dv (.int kd m))):Good P C ops n o nx ρ κ k:=by
 obtain⟨r,hk,he⟩:=j9 hk
 refine bu (fun c=>by grind) hg hk fun ρ' κ' aA g a w G aq aU=>?_
 have hv:=bP ρ' κ' (aA.op (by grind [Op.operands])) g n a w G aq aU
 generalize hx:a.eval x=v at hv
 cases hv with|dv hv=>cases hv with|int=>
 refine⟨.int kd r,?_,.dv (.int kd r)⟩
 grind [execOp,Op.unary,Op.intArith,Sem.run_bind,Sem.run_pure,Result.andThen_ok]
theorem I6{x:Operand}{i:Nat}{l:List AV}{av:AV}(hg:cn ρ ops o.guard=some gd)(ho:o.op=.extract x i)(hk:bj n o gd nx k av [])(hl:l[i]?=some av)(bP:bH ρ κ gd x (.gr l)):Good P C ops n o nx ρ κ k:=by
 refine bu (fun c=>by grind) hg hk fun ρ' κ' aA g a w G aq aU=>?_
 have hv:=bP ρ' κ' (aA.op (by grind [Op.operands])) g n a w G aq aU
 generalize hx:a.eval x=v at hv
 cases hv with
 |gr _ vs hlen hr=>
  have hi:=(adj.1 hl).1
  have hvi:vs[i]?=some (vs[i]'(by omega)):=abK (by omega)
  refine⟨_,?_,hr i av _ hl hvi⟩
  simp[execOp,ho,hx,Instr.extract,hvi]
theorem nN{c x y:Operand}{b p q:Bool}(hg:cn ρ ops o.guard=some gd)(ho:o.op=.pick c x y)(hk:bj n o gd nx k (.dv (.bool (bif b then p else q))) [])
 (hc:bH ρ κ gd c (.dv (.bool b))) (hx:bH ρ κ (gd&&b) x (.dv (.bool p))) (hy:bH ρ κ (gd&& !b) y (.dv (.bool q))):Good P C ops n o nx ρ κ k:=by
 refine bu (fun c=>by grind) hg hk fun ρ' κ' aA g a w G aq aU=>?_
 have hv:=hc ρ' κ' (aA.op (by grind [Op.operands])) g n a w G aq aU
 generalize hxc:a.eval c=v at hv
 cases hv with|dv hv=>cases hv with|bool=>
 subst aU
 cases b with
 |true=>
  have hv:=hx ρ' κ' (aA.op (by grind [Op.operands])) g n a w G aq rfl
  simp_all [execOp,asBool]
 |false=>
  have hv:=hy ρ' κ' (aA.op (by grind [Op.operands])) g n a w G aq rfl
  simp_all [execOp,asBool]
theorem n0(hT:fB P T){t f off sz:Nat}{x:Operand}{av av':AV}(hg:cn ρ ops o.guard=some gd)(ho:o.op=.fieldAddr t x f)(cI:(nth T t).ok=true)(hf:(nth T t).fields[f]?=some (off,sz+1))
 (hk:bj n o gd nx k av' []) (bP:bH ρ κ gd x av)
 (hp:∀(G:Gh) (v:Value),aK G av v->∃a,v=.pointer (some a)/\aK G av' (.pointer (some (a.add off)))):Good P C ops n o nx ρ κ k:=by
 obtain⟨i,u,z,tf⟩:=hT.facts cI
 obtain⟨fs,fd,hu,hfd,YC,j,hj,hjs⟩:=tf.field hf (by omega)
 refine bu (fun c=>by grind) hg hk fun ρ' κ' aA g a w G aq aU=>?_
 obtain⟨p,hp,YD⟩:=hp _ _ (bP ρ' κ' (aA.op (by grind [Op.operands])) g n a w G aq aU)
 simp_all [execOp,Instr.fieldAt,run_underlying,Instr.sureAddr,fieldPlace,j8]
theorem ey{agg:Bool}{l:List AV}{off sz:Nat}{ret:AV->Prop}(h:cz agg l off sz ret):
 ∃v,ret v/\((agg=true/\off+sz<=l.length/\v=.agg ((l.drop off).take sz))\/(agg=false/\l[off]?=some v)):=by
 unfold cz at h
 cases agg with
 |true=>
  simp_all
 |false=>
  simp[cond_false]at h
  split at h
  ·rw[force_eq]at h;grind
  grind
theorem k6(hT:fB P T){t off:Nat}{l:List AV}{av:AV}{w:World}{G:Gh}(cI:(nth T t).ok=true)(A:Addr)(vs:Nat->Value)
 (hc:∀j,j<l.length->w.cell? (A.add j)=some (vs j)) (hr:∀(j:Nat) (d:AV),l[j]?=some d->aK G d (vs j))
 (hp:((nth T t).agg=true/\off+(nth T t).size<=l.length/\av=.agg ((l.drop off).take (nth T t).size))\/((nth T t).agg=false/\l[off]?=some av)):
 ∃v,(Instr.loadAt t (.pointer (some (A.add off)))).run P w=.ok v w/\aK G av v:=by
 obtain⟨i,u,z,tf⟩:=hT.facts cI
 rcases hp with⟨ha,hle,rfl⟩|⟨ha,hl⟩
 ·refine⟨.agg ((List.range (nth T t).size).map fun j=>vs (off+j)).toArray,?_,?_⟩
  ·have:=run_loadCells (P:=P) w (A.add off) (nth T t).size (fun j=>vs (off+j)) (fun j hj=>by grind [cZ])
   simp[Instr.loadAt,Instr.sureAddr,Sem.run_bind,Sem.run_pure,Result.andThen_ok,loadVar,tf.uX w,ha,if_true,tf.gl w,this]
  ·refine .agg _ _ (by grind) fun j d v hd hv=>?_
   grind
 ·refine⟨vs off,?_,hr _ _ hl⟩
  simp[Instr.loadAt,Instr.sureAddr,Sem.run_bind,Sem.run_pure,Result.andThen_ok,loadVar,tf.uX w,ha,Bool.false_eq_true,if_false,run_load,hc off ((adj.1 hl).1)]
theorem Gs(hT:fB P T){t i off:Nat}{x:Operand}{l:List AV}(hg:cn ρ ops o.guard=some gd)(ho:o.op=.load t x)(cI:(nth T t).ok=true)(hb:κ i=.cells l)
 (hk:cz (nth T t).agg l off (nth T t).size fun v=>bj n o gd nx k v [i]) (bP:bH ρ κ gd x (.ptr i off)):Good P C ops n o nx ρ κ k:=by
 obtain⟨av,hk,hp⟩:=ey hk
 refine bu (fun c=>by grind) hg hk fun ρ' κ' aA g a w G aq aU=>?_
 have hv:=bP ρ' κ' (aA.op (by grind [Op.operands])) g n a w G aq aU
 have wi:=aq.fit.box i
 rw[((aA.reads i (by simp)).trans hb)]at wi
 obtain⟨b,c,tt,hbe,hw,ck,og,hr⟩:=wi
 generalize hx:a.eval x=v at hv
 cases hv with
 |ptr _ _ b' B2=>
 rw[hbe]at B2;injection B2 with B2;subst B2
 have hA:(⟨b,off,none⟩)=(⟨b,0,none⟩:Addr).add off:=by rw[eW];simp
 obtain⟨v,h1,h2⟩:=k6 (w:=w) hT cI ⟨b,0,none⟩ (fun j=>c.getD j undef) (fun j hj=>by
  rw[eW]
  simp_all [World.cell?]) (fun j d hd=>by
  exact hr j d _ hd (by simp[ck,((adj.1 hd).1)])) hp
 grind [execOp,Sem.run_bind,Result.andThen_ok,Sem.run_pure]
theorem I7(hT:fB P T){t off:Nat}{x:Operand}{y:DV}(hg:cn ρ ops o.guard=some gd)(ho:o.op=.load t x)(cI:(nth T t).ok=true)
 (hk:cz (nth T t).agg (fp y.cells) off (nth T t).size fun v=>bj n o gd nx k v []) (bP:bH ρ κ gd x (.dv (.at y off))):Good P C ops n o nx ρ κ k:=by
 obtain⟨av,hk,hp⟩:=ey hk
 refine bu (fun c=>by grind) hg hk fun ρ' κ' aA g a w G aq aU=>?_
 have hv:=bP ρ' κ' (aA.op (by grind [Op.operands])) g n a w G aq aU
 generalize hx:a.eval x=v at hv
 cases hv with|dv hv=>cases hv with
 |_=>
  rename_i A cell og hc hr
  obtain⟨v,h1,h2⟩:=k6 hT cI A cell (fun j hj=>aq.fit.sub.cell (hc j (by grind [nZ]))) (fun j d hd=>by
   obtain⟨d',lP,rfl⟩:=Rv hd
   exact .dv (hr j d' lP)) hp
  grind [execOp,Sem.run_bind,Result.andThen_ok,Sem.run_pure]
theorem b7{gd:Bool}:∀{p:List PS} {d:DV} {k:DV->Prop},ki gd d p k->∃nd,k nd/\(gd=true->get d p=some nd)
 |[],d,k,h=>⟨d,h,fun _=>rfl⟩
 |s::p,d,k,h=>by
  cases d<;>cases s<;>simp only[ki]at h<;>(try exact h.elim)
  ·obtain⟨x,hx,h⟩:=h
   split at h
   ·obtain⟨nd,h1,h2⟩:=b7 h
    grind [get,step]
   grind
  ·rename_i x i j
   cases hb:Nat.beq i 0 with
   |false=>grind
   |true=>
    rw[hb]at h
    simp[cond_true]at h
    split at h
    ·obtain⟨nd,h1,h2⟩:=b7 h
     exact⟨nd,h1,fun hg=>by simp_all [get,step,cond_true]⟩
    grind
  ·obtain⟨x,hx,h⟩:=h
   split at h
   ·obtain⟨nd,h1,h2⟩:=b7 h
    grind [get,step]
   grind
theorem gm:∀{p:List PS} {d nd:DV} {k:DV->Prop},wk d p nd k->k (eK d p nd)/\∃c,get d p=some c
 |[],d,nd,k,h=>⟨h,d,rfl⟩
 |s::p,d,nd,k,h=>by
  cases d<;>cases s<;>simp only[wk]at h<;>(try exact h.elim)
  ·obtain⟨x,hx,h⟩:=h
   split at h
   ·obtain⟨h1,c',h2⟩:=gm h
    grind [eK,step,put,get]
   grind
  ·rename_i x i j
   cases hb:Nat.beq i 0 with
   |false=>grind
   |true=>
    rw[hb]at h
    simp[cond_true]at h
    split at h
    ·obtain⟨h1,c',h2⟩:=gm h
     simp_all [eK,step,put,get]
    grind
  ·obtain⟨x,hx,h⟩:=h
   split at h
   ·obtain⟨h1,c',h2⟩:=gm h
    grind [eK,step,put,get]
   grind
theorem dJ{ver bA ep cu:Nat}{p:List PS}(h:(Nat.beq ver bA&&(emp p||Nat.beq ep cu))=true):ver=bA/\(p=[]\/ep=cu):=by
 simp[adT,Bool.or_eq_true]at h
 grind [Nat.eq_of_beq_eq_true,emp]
theorem de{H:Nat->Nat->Nat->List PS->Option Value}{i ver ep cu:Nat}{p:List PS}(h:p=[]\/ep=cu):aS H i ver ep p=aS H i ver cu p:=by
 rcases h with rfl|rfl<;>rfl
theorem Fit.node{κ:Nat->ax}{w:World}{G:Gh}(aq:Fit G w κ){i ver ep:Nat}{d nd:DV}{p:List PS}(hk:κ i=.tree ver ep d)(hp:get d p=some nd)(ho:nd.au=true):
 ∃v,aS G.H i ver ep p=some v/\v.oneCell'=true/\cR G.M w v (fun s=>aS G.H i ver ep (p++[s])) nd:=by
 have hb:=aq.box i
 rw[hk]at hb
 exact hb.1.2 p nd hp ho
theorem zm{G:Gh}{i ver ep:Nat}{p:List PS}{s:PS}{d:DV}{u:Value}(hc:d.ao=true)(h:dM G.M (aS G.H i ver ep (p++[s])) d u)(hu:d.au=true->u.oneCell'=true):aK G (vD i ver ep p s d) u:=by
 rcases h with⟨h1,h2⟩|⟨h1,h2⟩
 ·simp[vD,h1,cond_true];exact .own _ _ _ _ _ h2 (hu h1)
 ·simp[vD,h1,cond_false];exact .dv h2
theorem zn{i ver ep:Nat}{p:List PS}{idx:Nat}:∀{l:List DV} {s j:Nat} {v:AV},(lk i ver ep p idx s l)[j]?=some v->∃d,l[j]?=some d/\v=vD i ver ep p (.el idx (s+j)) d
 |[],s,j,v,h=>by simp[lk]at h
 |d::l,s,0,v,h=>by simp[lk]at h;grind
 |d::l,s,j+1,v,h=>by
  simp[lk,List.getElem?_cons_succ]at h
  obtain⟨d',h1,h2⟩:=zn h
  grind
theorem n4{i ver ep:Nat}{p:List PS}{idx:Nat}:∀{l:List DV} {s:Nat},(lk i ver ep p idx s l).length=l.length
 |[],s=>rfl
 |d::l,s=>by simp[lk,n4]
theorem zo{i ver ep:Nat}{p:List PS}{kk:DV}:∀{l:List DV} {s j:Nat} {v:AV},(ln i ver ep p kk s l)[j]?=some v->∃d,l[j]?=some d/\v=vD i ver ep p (.key kk (s+j)) d
 |[],s,j,v,h=>by simp[ln]at h
 |d::l,s,0,v,h=>by simp[ln]at h;grind
 |d::l,s,j+1,v,h=>by
  simp[ln,List.getElem?_cons_succ]at h
  obtain⟨d',h1,h2⟩:=zo h
  grind
theorem n5{i ver ep:Nat}{p:List PS}{kk:DV}:∀{l:List DV} {s:Nat},(ln i ver ep p kk s l).length=l.length
 |[],s=>rfl
 |d::l,s=>by simp[ln,n5]
theorem Fit.cells{κ:Nat->ax}{w:World}{G:Gh}(aq:Fit G w κ){i ver ep:Nat}{d nd:DV}{p:List PS}(hk:κ i=.tree ver ep d)(hp:get d p=some nd){sz idx:Nat}{K:List AV->Prop}{A:Addr}
 (hA:aS G.H i ver ep p=some (.pointer (some A))\/∃m c,aS G.H i ver ep p=some (.slice (some A) m c)) {l:List AV} (hl:(∃l0 x,nd=.aI sz l0/\l0[idx]?=some x/\l=lk i ver ep p idx 0 x.cells)\/(∃x,nd=.gJ x/\idx=0/\l=lk i ver ep p 0 0 x.cells)):
 ∃vs:Nat->Value,(∀j,j<l.length->w.cell? ((A.add (idx*sz)).add j)=some (vs j))/\∀(j:Nat) (d:AV),l[j]?=some d->aK G d (vs j):=by
 have jB:∀s c u,step nd s=some c->c.au=true->aS G.H i ver ep (p++[s])=some u->u.oneCell'=true:=by
  intro s c u hs hc hu
  obtain⟨v,h1,h2,_⟩:=aq.node hk (p:=p++[s]) (by grind [get_append,get]) hc
  grind
 rcases hl with⟨l0,x,rfl,hx,rfl⟩|⟨x,rfl,rfl,rfl⟩
 ·obtain⟨v,h1,h2,bo⟩:=aq.node hk hp rfl
  rcases bo with⟨rfl,_⟩|⟨gb,ob,cap,c,t,rfl,eP,hw,ck,tV⟩
  ·grind
  ·have hAe:A=⟨gb,ob,none⟩:=by
    grind
   subst hAe
   obtain⟨a1,a2⟩:=tV idx x hx
   refine⟨fun j=>c.getD (ob+idx*sz+j) undef,fun j hj=>?_,fun j dd hd=>?_⟩
   ·rw[n4]at hj
    obtain⟨_,u,b1,_⟩:=a2 j _ (abK hj)
    rw[cZ,eW]
    simp only[World.cell?,hw]
    rw[show ob+(idx*sz+j)=ob+idx*sz+j by omega,adt,b1]
    rfl
   ·obtain⟨d0,e1,rfl⟩:=zn hd
    obtain⟨b0,u,b1,b2⟩:=a2 j d0 e1
    show aK G _ (c.getD (ob+idx*sz+j) undef)
    rw[adt,b1,Nat.zero_add]
    refine zm b0 b2 fun ho=>?_
    rcases b2 with⟨_,b2⟩|⟨b2,_⟩
    ·grind [step]
    grind
 ·obtain⟨v,h1,h2,bo⟩:=aq.node hk hp rfl
  obtain⟨gb,c,t,rfl,hw,ck,tV⟩:=bo
  have hAe:A=⟨gb,0,none⟩:=by
   grind
  subst hAe
  refine⟨fun j=>c.getD j undef,fun j hj=>?_,fun j dd hd=>?_⟩
  ·simp_all [n4,cZ,eW,World.cell?,adt]
  ·obtain⟨d0,e1,rfl⟩:=zn hd
   obtain⟨b0,u,b1,b2⟩:=tV j d0 e1
   show aK G _ (c.getD j undef)
   rw[adt,b1,Nat.zero_add]
   refine zm b0 b2 fun ho=>?_
   rcases b2 with⟨_,b2⟩|⟨b2,_⟩
   ·exact jB _ d0 u (by assumption) ho b2
   grind
theorem Gt(hT:fB P T){t i ver ep cu sz idx off:Nat}{p:List PS}{x:Operand}{d:DV}(hg:cn ρ ops o.guard=some gd)(ho:o.op=.load t x)(cI:(nth T t).ok=true)
 (hb:κ i=.tree ver cu d) (fh:p=[]\/ep=cu)
 (hk:ki gd d p fun nd=>kQ i ver cu p gd sz idx nd fun l=>cz (nth T t).agg l off (nth T t).size fun v=>bj n o gd nx k v [i]) (bP:bH ρ κ gd x (.loc i ver ep p sz idx off)):Good P C ops n o nx ρ κ k:=by
 obtain⟨nd,hk,ec⟩:=b7 hk
 have NV:∃l,(cz (nth T t).agg l off (nth T t).size fun v=>bj n o gd nx k v [i])/\(gd=true->(∃l0 x,nd=.aI sz l0/\l0[idx]?=some x/\l=lk i ver cu p idx 0 x.cells)\/(∃x,nd=.gJ x/\idx=0/\l=lk i ver cu p 0 0 x.cells)):=by
  unfold kQ at hk
  split at hk
  ·rename_i pw l0
   cases hs:Nat.beq sz pw with
   |false=>grind
   |true=>
    rw[hs]at hk
    have:=adm hs
    grind
  ·rename_i x
   cases hs:Nat.beq idx 0 with
   |false=>grind
   |true=>
    rw[hs]at hk
    exact⟨_,hk,fun _=>.inr ⟨x,rfl,adm hs,rfl⟩⟩
  grind
 obtain⟨l,hk,hl⟩:=NV
 obtain⟨av,hk,hp⟩:=ey hk
 refine bu (fun c=>by grind) hg hk fun ρ' κ' aA g a w G aq aU=>?_
 have hv:=bP ρ' κ' (aA.op (by grind [Op.operands])) g n a w G aq aU
 have key:∀A,a.eval x=.pointer (some (A.add (idx*sz+off)))->(aS G.H i ver ep p=some (.pointer (some A))\/∃m c,aS G.H i ver ep p=some (.slice (some A) m c))->∃v,(execOp a.eval o).run P w=.ok (.value v) w/\aK G av v:=by
  intro A hx hA
  rw[de fh]at hA
  obtain⟨vs,h1,h2⟩:=aq.fit.cells (K:=fun _=>True) ((aA.reads i (by simp)).trans hb) (ec aU) hA (hl aU)
  obtain⟨v,h3,h4⟩:=k6 hT cI (A.add (idx*sz)) vs h1 h2 hp
  grind [cZ,execOp,Sem.run_bind,Result.andThen_ok,Sem.run_pure]
 generalize hx:a.eval x=v at hv
 cases hv with
 |loc _ _ _ _ _ _ _ A m c h=>exact key A hx (.inr ⟨m,c,h⟩)
 |qG _ _ _ _ _ _ _ A h=>grind
end
end
end Go.TM
