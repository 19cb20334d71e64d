import Derived.Test.YtknnpcfhekkjjaaGreatDoorFM3
import Derived.OrdersIn
import Derived.TacticsIn
import Derived.OwnWalkIn
import Derived.RangeFuncLeaves
set_option linter.all false
namespace Go.TM
set_option maxHeartbeats 1000000
section
open Go.RowKit
variable [cn]
def ay{γ:Type _}(f:Nat->γ):List (Nat×γ)->Nat->γ
 |[]=>f
 |(i,x)::r=>iS (ay f r) i x
theorem beq_false{i t:Nat}(h:t≠i):Nat.beq i t=false:=by
 cases hb:Nat.beq i t with
 |false=>rfl
 |true=>exact absurd (abL hb).symm h
theorem kE:∀(l:List (Nat×AV)) (env:Env),look (Ek l env)=ay (look env) l
 |[],_=>rfl
 |(i,x)::r,env=>by
  funext t
  simp only[Ek,look,ay,iS,kE r env]
  by_cases h:t=i
  ·subst h;simp
  ·rw[if_neg h];simp[beq_false h]
theorem fR:∀(l:List (Nat×aq)) (K:ae),aa (wC l K)=ay (aa K) l
 |[],_=>rfl
 |(i,x)::r,K=>by
  funext t
  simp only[wC,aa,ay,iS,fR r K]
  by_cases h:t=i
  ·subst h;simp
  ·rw[if_neg h];simp[beq_false h]
def Uu:AV->List Nat
 |.own i _ _ _=>[i]
 |.loc i _ _ _ _ _ _=>[i]
 |.pre i _ _ _ _ _ _=>[i]
 |.opt _ v=>Uu v
 |.cq i _=>[i]
 |_=>[]
def Ww(ρ:Nat->AV):Operand->List Nat
 |.tmp t=>Uu (ρ t)
 |_=>[]
def Mn(ρ:Nat->AV)(o:Oper):List Nat:=o.op.operands.toList.flatMap fun| .tmp t=>Uu (ρ t)|_=>[]
def aa0:aq->Bool
 |.tree _ _ _=>true
 |_=>false
def mvT(κ:Nat->aq):AV->Bool
 |.own i _ _ _=>aa0 (κ i)
 |_=>false
def gM(ρ:Nat->AV)(κ:Nat->aq)(o:Oper):List Nat:=match o.op with
 |.move (.tmp t)=>bif mvT κ (ρ t)then[]else Mn ρ o
 |_=>Mn ρ o
theorem Qp{M:Mem}{v:Value}{d:DV}(h:OL v=some d):bu M d v/\d.aj=true/\d.ao=false:=by
 unfold OL at h
 split at h<;>first|(injection h with h;subst h;exact⟨by constructor,rfl,rfl⟩)|cases h
theorem eZ{M:Mem}:∀{l:List Value} {ds:List DV},pA l=some ds->fI M ds l/\∀d,d∈ds->d.aj=true/\d.ao=false
 |[],ds,h=>by simp[pA]at h;subst h;exact⟨.nil M,by simp⟩
 |v::r,ds,h=>by
  simp only[pA]at h
  split at h
  ·rename_i d l h1 h2
   injection h with h;subst h
   obtain⟨a,b⟩:=Qp (M:=M) h1
   obtain⟨c,e⟩:=eZ (M:=M) h2
   exact⟨.cons a c,by intro d' hd;rcases abO.1 hd with rfl|hd;exact b;exact e _ hd⟩
  ·cases h
theorem rS(l:List DV):fc l=l.map .dv:=by
 induction l with
 |nil=>rfl
 |cons d r ih=>simp[fc,ih]
theorem nZ(l:List DV):(fc l).length=l.length:=by simp[rS]
theorem Qq{l:List DV}{j:Nat}{v:AV}(h:(fc l)[j]?=some v):∃d,l[j]?=some d/\v=.dv d:=by
 rw[rS,abJ]at h
 cases hj:l[j]? with
 |none=>simp[hj]at h
 |some d=>simp[hj]at h;exact⟨d,rfl,h.symm⟩
theorem jd{G:Gh}{l:List DV}{vs:List Value}(h:fI G.M l vs):cj G (fc l) vs:=by
 refine⟨by rw[nZ];exact h.1,fun j d v hd hv=>?_⟩
 obtain⟨d',h1,rfl⟩:=Qq hd
 exact .dv (h.2 j d' v h1 hv)
theorem S7(G:Gh)(v:Value):aG G (OO v) v:=by
 unfold OO
 split<;>first
  |exact .dv (by constructor)
  |exact .any _
  |skip
 rename_i cs
 split
 ·rename_i l hl
  obtain⟨h1,_⟩:=eZ (M:=G.M) hl
  have h2:=jd (G:=G) h1
  have:=aG.agg (G:=G) (fc l) cs.toList h2.1 h2.2
  simpa using this
 ·exact .any _
section
variable {g:dP} {n:Nat} {ρ:Nat->AV} {κ:Nat->aq} {a:Act} {w:World} {G:Gh}
theorem xZ(h:Fit G w κ){v:AV}{x:Value}(hv:aG G v x):aG G (res κ v) x:=by
 cases v with
 |own i ver ep p=>
  simp only[res]
  split
  ·rename_i v' e' d hk
   cases hb:Nat.beq ver v'&&(emp p||Nat.beq ep e')with
   |true=>exact hv
   |false=>exact .any _
  ·rename_i v' d hk
   cases hb:Nat.beq ver v'&&emp p with
   |false=>exact .any _
   |true=>
    simp only[acj]at hb
    have Qr:=abL hb.1
    subst Qr
    have hx:=h.box i
    rw[hk]at hx
    obtain⟨u,h1,h2,h3⟩:=hx
    cases p with
    |cons=>simp[emp]at hb
    |nil=>cases hv with
     |own _ _ _ _ _ he hc=>simp only[aH]at he;rw[h1]at he;injection he with he;subst he;exact .dv h3
  ·exact .any _
 |loc i ver ep p sz idx off=>
  simp only[res]
  cases hb:cur (κ i) ver ep p with
  |true=>exact hv
  |false=>exact .any _
 |pre i ver ep p sz idx off=>
  simp only[res]
  cases hb:cur (κ i) ver ep p with
  |true=>exact hv
  |false=>exact .any _
 |cq i ver=>
  simp only[res]
  split
  ·rename_i v' e' d hk
   cases hb:Nat.beq ver v' with
   |true=>exact hv
   |false=>exact .any _
  ·rename_i v' d hk
   cases hb:Nat.beq ver v' with
   |false=>exact .any _
   |true=>
    have Qr:=abL hb
    subst Qr
    have hx:=h.box i
    rw[hk]at hx
    obtain⟨u,h1,h2,h3⟩:=hx
    cases hv with
    |cq _ _ a n he=>rw[h1]at he;injection he with he;subst he;exact .dv h3
  ·exact .any _
 |_=>exact hv
theorem AF{v:AV}{x:Value}(hv:aG G v x):aG G (dn v) x:=by
 cases v with
 |cq i ver=>cases hv with|cq _ _ a n he=>exact .own i ver 0 [] _ he rfl
 |_=>exact hv
theorem BP{κ κ':Nat->aq}{v:AV}(h:∀i,i∈Uu v->κ' i=κ i):res κ' v=res κ v:=by
 cases v with
 |own i ver ep p=>simp only[res];rw[h i (by simp[Uu])]
 |loc i ver ep p sz idx off=>simp only[res];rw[h i (by simp[Uu])]
 |pre i ver ep p sz idx off=>simp only[res];rw[h i (by simp[Uu])]
 |cq i ver=>simp only[res];rw[h i (by simp[Uu])]
 |_=>rfl
theorem S8{κ:Nat->aq}{u:AV}{g:Bool}{v:AV}(h:res κ u=.opt g v):u=.opt g v:=by
 cases u with
 |own i ver ep p=>
  simp only[res]at h
  split at h
  ·rename_i v' e' d hk;cases hb:Nat.beq ver v'&&(emp p||Nat.beq ep e')<;>rw[hb]at h<;>cases h
  ·rename_i v' d hk;cases hb:Nat.beq ver v'&&emp p<;>rw[hb]at h<;>cases h
  ·cases h
 |loc i ver ep p sz idx off=>simp only[res]at h;cases hb:cur (κ i) ver ep p<;>rw[hb]at h<;>cases h
 |pre i ver ep p sz idx off=>simp only[res]at h;cases hb:cur (κ i) ver ep p<;>rw[hb]at h<;>cases h
 |cq i ver=>
  simp only[res]at h
  split at h
  ·rename_i v' e' d hk;cases hb:Nat.beq ver v'<;>rw[hb]at h<;>cases h
  ·rename_i v' d hk;cases hb:Nat.beq ver v'<;>rw[hb]at h<;>cases h
  ·cases h
 |opt g' v'=>exact h
 |_=>cases h
def BY(ρ ρ':Nat->AV)(κ κ':Nat->aq)(x:Operand):Prop:=(∀t,x=.tmp t->ρ' t=ρ t)/\∀i,i∈Ww ρ x->κ' i=κ i
def bz(ρ:Nat->AV)(κ:Nat->aq)(gd:Bool)(x:Operand)(av:AV):Prop:=
 ∀ρ' κ',BY ρ ρ' κ κ' x->∀(g:dP) (n:Nat) (a:Act) (w:World) (G:Gh),cy g n ρ' κ' a w G->gd=true->aG G av (a.eval x)
theorem bz.dn{gd:Bool}{x:Operand}{av:AV}(h:bz ρ κ gd x av):bz ρ κ gd x (dn av):=fun ρ' κ' aw g n a w G ai aN=>AF (h ρ' κ' aw g n a w G ai aN)
theorem AG{x:Operand}:∀ρ' κ',BY ρ ρ' κ κ' x->∀(g:dP) (n:Nat) (a:Act) (w:World) (G:Gh),cy g n ρ' κ' a w G->aG G (ev ρ κ x) (a.eval x):=by
 intro ρ' κ' aw g n a w G ai
 cases x with
 |tmp t=>
  have h1:=xZ ai.fit (ai.env t)
  rw[aw.1 t rfl]at h1
  simp only[ev]
  rw[<-BP (κ':=κ') (fun i hi=>aw.2 i hi)]
  exact h1
 |const v=>exact S7 G v
 |func f=>exact .fn f [] [] rfl (by simp)
 |global i=>
  simp only[ev]
  split
  ·rename_i x hx
   exact .dv (cn.ok i x hx G.M (ai.oK.mono ai.mem))
  ·exact .any _
theorem Qs{v:Value}{g:Bool}{u:AV}(h:OO v=.opt g u):False:=by
 unfold OO at h
 split at h<;>(try cases h)
 split at h<;>cases h
theorem Ed{x:Operand}{g':Bool}{v:AV}(he:ev ρ κ x=.opt g' v){gd:Bool}(hg:gd=true->g'=true):bz ρ κ gd x (res κ v):=by
 intro ρ' κ' aw g n a w G ai aN
 have h1:=AG ρ' κ' aw g n a w G ai
 rw[he]at h1
 have r9:=hg aN
 subst r9
 have h4:aG G v (a.eval x):=by generalize a.eval x=y at h1;cases h1 with|opt _ _ _ h3 hu=>exact h3 rfl
 have h6:=xZ ai.fit h4
 have uy:res κ' v=res κ v:=by
  refine BP fun i hi=>aw.2 i ?_
  cases x with
  |tmp t=>
   simp only[Ww]
   simp only[ev]at he
   rw[S8 he]
   exact hi
  |const v=>exact(Qs he).elim
  |func f=>cases he
  |global i=>simp only[ev]at he;split at he<;>cases he
 rw[uy]at h6
 exact h6
theorem aD{gd:Bool}{x:Operand}{k:AV->Prop}(h:ex ρ κ gd x k):∃av,k av/\bz ρ κ gd x av:=by
 unfold ex at h
 split at h
 ·rename_i g' v he
  obtain⟨hg,hk⟩:=h
  rw[force_eq]at hk
  exact⟨res κ v,hk,Ed he hg⟩
 ·rw[force_eq]at h
  exact⟨ev ρ κ x,h,fun ρ' κ' aw g n a w G ai _=>AG ρ' κ' aw g n a w G ai⟩
end
def iq(F:Fence):Prop:=F=Fence.wide\/∃l,F=Fence.wide.inRound l
theorem gX:iq Fence.wide:=.inl rfl
theorem wide_round(l:Nat):iq (Fence.wide.inRound l):=.inr ⟨l,rfl⟩
theorem iq.fn{F:Fence}(h:iq F)(f:FuncId):F.fn f:=by rcases h with rfl|⟨l,rfl⟩<;>exact trivial
theorem iq.depth{F:Fence}(h:iq F):F.depth=none:=by rcases h with rfl|⟨l,rfl⟩<;>rfl
theorem iq.calls{F:Fence}(h:iq F){n:Nat}{P:Program}{f:FuncId}{args:Array Value}{w:World}{R:Ending->World->Prop}:CallsIn F n P f args w R↔Calls P f args w R:=by
 rcases h with rfl|⟨l,rfl⟩
 ·exact callsIn_wide
 ·exact callsIn_wide (n:=n)
theorem iq.round{F:Fence}(h:iq F){n:Nat}{P:Program}{l:Nat}{f:FuncId}{tmps:Array Value}{assign body:Code}{w:World}{R:Ending->World->Prop}:RoundIn F n P l f tmps assign body w R↔RoundIn Fence.wide n P l f tmps assign body w R:=by
 rcases h with rfl|⟨l,rfl⟩
 ·exact Iff.rfl
 ·exact Iff.rfl
def lZ(P:Program)(F:Fence)(ops:Array Oper)(o:Oper)(a:Act)(w:World)(K:Act->World->Prop):Prop:=
 if Region.wanted o (yielded ops a.tmps)=true then o.wpIn F 0 P a w K (fun _ _ _=>False)else K (a.put o.dst undef) w
structure DT(ops:List Oper)(o:Oper)(ρ ρ':Nat->AV)(κ κ':Nat->aq)(rd:List Nat)(bx:List (Nat×aq)):Prop where
 bQ:∀t,t∈o.looksAt ops.toArray->ρ' t=ρ t
 rows:∀i,i∈gM ρ κ o->κ' i=κ i
 reads:∀i,i∈rd->κ' i=κ i
 boxes:∀i b,(i,b)∈bx->κ' i=κ i
def ME(P:Program)(C:dP->Prop)(ops:List Oper)(n lo:Nat)(o:Oper)(ρ:Nat->AV)(κ:Nat->aq)(bn:kN):Prop:=
 ∀F,iq F->∀ρ' κ',DT ops o ρ ρ' κ κ' bn.reads bn.box->∀(g:dP) (a:Act) (w:World),g.m<=lo/\C g->St g n ρ' κ' a w->
  lZ P F ops.toArray o a w fun a' w'=>St g n (ay ρ' bn.dst) (ay κ' bn.box) a' w'
def Good(P:Program)(C:dP->Prop)(ops:List Oper)(n:Nat)(o:Oper)(nx:Nat)(ρ:Nat->AV)(κ:Nat->aq)(k:kN->Nat->Prop):Prop:=
 ∃bn ec,k bn ec/\nx<=ec/\(∀p,p∈bn.box->p.1<ec)/\ME P C ops n nx o ρ κ bn
section
variable {P:Program} {C:dP->Prop} {ops:List Oper} {n:Nat} {o:Oper} {nx ec:Nat} {ρ ρ':Nat->AV} {κ κ':Nat->aq} {k:kN->Nat->Prop} {rd:List Nat} {bx:List (Nat×aq)}
theorem S9(hm:∀y,o.op≠.move y):gM ρ κ o=Mn ρ o:=by
 unfold gM
 split
 ·rename_i t ht;exact absurd ht (hm _)
 ·rfl
theorem DT.opR(h:DT ops o ρ ρ' κ κ' rd bx){x:Operand}(hx:x∈o.op.operands)(hm:gM ρ κ o=Mn ρ o):BY ρ ρ' κ κ' x:=by
 have Ac:x∈o.op.operands.toList:=by simpa using hx
 constructor
 ·rintro t rfl
  refine h.bQ t ?_
  unfold Oper.looksAt
  refine abQ.2 (.inl (List.mem_filterMap.2 ⟨.tmp t,Ac,rfl⟩))
 ·intro i hi
  refine h.rows i ?_
  rw[hm]
  unfold Mn
  refine List.mem_flatMap.2 ⟨x,Ac,?_⟩
  cases x with
  |tmp t=>exact hi
  |_=>simp[Ww]at hi
theorem DT.op(h:DT ops o ρ ρ' κ κ' rd bx){x:Operand}(hx:x∈o.op.operands)(hm:∀y,o.op≠.move y:=by have hh:=‹o.op=_›;intro y hy;rw[hh]at hy;cases hy):BY ρ ρ' κ κ' x:=h.opR hx (S9 hm)
theorem IJ{a:Act}{d j:Nat}(hj:(ops[j]?).bind (·.dst)=some d):yielded ops.toArray a.tmps j=match a.tmps[d]? with|some (.bool b)=>some b|_=>none:=by
 unfold yielded
 have:(ops.toArray[j]?).bind (·.dst)=some d:=by simpa using hj
 rw[this];rfl
theorem cA{g:dP}{a:Act}{w:World}{G:Gh}{gd:Bool}(hg:bZ ρ ops o.guard=some gd)
 (aw:∀t,t∈o.looksAt ops.toArray->ρ' t=ρ t) (h:cy g n ρ' κ' a w G):Region.wanted o (yielded ops.toArray a.tmps)=gd:=by
 unfold bZ at hg
 unfold Region.wanted
 split at hg
 ·rename_i hn;rw[hn];injection hg
 ·rename_i j want hs
  rw[hs]
  split at hg
  ·rename_i d hd
   have hr:ρ' d=ρ d:=by
    refine aw d ?_
    unfold Oper.looksAt
    refine abQ.2 (.inr ?_)
    have:(ops.toArray[j]?).bind (·.dst)=some d:=by simpa using hd
    rw[hs];simpa using hd
   have hv:=h.env d
   rw[hr]at hv
   have oT:∀b,a.tmps.getD d undef=.bool b->a.tmps[d]?=some (.bool b):=by
    intro b hb
    rw[abS]at hb
    cases hc:a.tmps[d]? with
    |none=>rw[hc]at hb;cases hb
    |some v=>rw[hc]at hb;simp at hb;rw[hb]
   simp only[IJ hd]
   split at hg
   ·rename_i b hb
    rw[hb]at hv
    injection hg with hg
    cases hv with
    |dv kA=>
     generalize hx:a.tmps.getD d undef=x at kA
     cases kA with
     |bool=>
      rw[oT b hx,<-hg]
      cases b<;>cases want<;>rfl
   ·rename_i gg b hb
    rw[hb]at hv
    injection hg with hg
    generalize hx:a.tmps.getD d undef=x at hv
    cases hv with
    |opt _ _ _ h1 h2=>
     cases gg with
     |true=>
      have h3:=h1 rfl
      cases h3 with
      |dv kA=>cases kA with
       |bool=>
        rw[oT b hx,<-hg]
        cases b<;>cases want<;>rfl
     |false=>
      have h3:=h2 rfl
      rw[<-hg]
      have:∀b,a.tmps[d]?≠some (.bool b):=by
       intro b hc
       have:a.tmps.getD d undef=.bool b:=by rw[abS,hc];rfl
       rw[hx,h3]at this;cases this
      cases hc:a.tmps[d]? with
      |none=>simp
      |some v=>cases v<;>first|(exact absurd hc (this _))|simp
   ·cases hg
  ·cases hg
theorem gO{F:Fence}(hF:iq F){a:Act}{w w':World}{v:Value}{K:Act->World->Prop}{Q:Exit->Act->World->Prop}(hd:∀c,o.op≠.defer c)
 (aX:(execOp a.eval o).run P w=.ok (.value v) w') (hk:K (a.put o.dst v) w'):o.wpIn F 0 P a w K Q:=by
 refine⟨fun f _=>hF.fn f,?_⟩
 rw[Oper.semAt_plain F _ _ hd,aX]
 exact hk
theorem zr{F:Fence}(hF:iq F){a:Act}{w w':World}{K:Act->World->Prop}{Q:Exit->Act->World->Prop}(hd:∀c,o.op≠.defer c)
 (aX:(execOp a.eval o).run P w=.ok .skip w') (hk:K (a.put o.dst undef) w'):o.wpIn F 0 P a w K Q:=by
 refine⟨fun f _=>hF.fn f,?_⟩
 rw[Oper.semAt_plain F _ _ hd,aX]
 exact hk
theorem bo{gd:Bool}{av:AV}(hd:∀c,o.op≠.defer c)(hg:bZ ρ ops o.guard=some gd)(hk:aT n o gd nx k av rd)
 (h:∀ρ' κ',DT ops o ρ ρ' κ κ' rd []->∀(g:dP) (a:Act) (w:World) (G:Gh),cy g n ρ' κ' a w G->gd=true->
  ∃v,(execOp a.eval o).run P w=.ok (.value v) w/\aG G av v):Good P C ops n o nx ρ κ k:=by
 unfold aT at hk
 split at hk
 ·rename_i kA hn
  refine⟨_,_,hk,acb _,by simp,fun F hF ρ' κ' aw g a w dz ⟨G,ai⟩=>?_⟩
  have r9:gd=true:=by rw[hn]at hg;injection hg with hg;exact hg.symm
  obtain⟨v,aX,_⟩:=h ρ' κ' aw g a w G ai r9
  unfold lZ
  rw[cA hg aw.bQ ai,r9,if_pos rfl]
  exact gO hF hd aX ⟨G,by rw[kA];exact ai⟩
 ·exact hk.elim
 ·rename_i d kA hn
  cases au:Nat.blt d n with
  |false=>rw[au]at hk;exact hk.elim
  |true=>
   rw[au]at hk
   have iC:d<n:=by rw[Nat.blt_eq]at au;exact au
   refine⟨_,_,hk,acb _,by simp,fun F hF ρ' κ' aw g a w dz ⟨G,ai⟩=>?_⟩
   have r9:gd=true:=by rw[hn]at hg;injection hg with hg;exact hg.symm
   obtain⟨v,aX,hv⟩:=h ρ' κ' aw g a w G ai r9
   unfold lZ
   rw[cA hg aw.bQ ai,r9,if_pos rfl]
   exact gO hF hd aX ⟨G,by rw[kA];exact ai.put iC hv⟩
 ·rename_i d j kA hn
  cases au:Nat.blt d n with
  |false=>rw[au]at hk;exact hk.elim
  |true=>
   rw[au]at hk
   have iC:d<n:=by rw[Nat.blt_eq]at au;exact au
   refine⟨_,_,hk,acb _,by simp,fun F hF ρ' κ' aw g a w dz ⟨G,ai⟩=>?_⟩
   unfold lZ
   rw[cA hg aw.bQ ai]
   cases gd with
   |true=>
    obtain⟨v,aX,hv⟩:=h ρ' κ' aw g a w G ai rfl
    rw[if_pos rfl]
    exact gO hF hd aX ⟨G,by rw[kA];exact ai.put iC (.opt true av v (fun _=>hv) (by simp))⟩
   |false=>
    simp only[Bool.false_eq_true,if_false,kA]
    exact⟨G,ai.put iC (.opt false av undef (by simp) (fun _=>rfl))⟩
theorem Gl{gd:Bool}{av:AV}(hd:∀c,o.op≠.defer c)(hg:bZ ρ ops o.guard=some gd)(hk:dO n o ec k av bx rd)(dZ:nx<=ec)(ez:∀p,p∈bx->p.1<ec)
 (h:∀ρ' κ',DT ops o ρ ρ' κ κ' rd bx->∀(F:Fence),iq F->∀(g:dP) (a:Act) (w:World) (G:Gh),g.m<=nx/\C g->cy g n ρ' κ' a w G->gd=true->∀(K:Act->World->Prop),
  (∀v w' G',cy g n ρ' (ay κ' bx) a w' G'->aG G' av v->K (a.put o.dst v) w')->o.wpIn F 0 P a w K (fun _ _ _=>False)):Good P C ops n o nx ρ κ k:=by
 unfold dO at hk
 split at hk
 ·rename_i hgu kA
  have r9:gd=true:=by rw[hgu]at hg;injection hg with hg;exact hg.symm
  refine⟨_,_,hk,dZ,ez,fun F hF ρ' κ' aw g a w dz ⟨G,ai⟩=>?_⟩
  unfold lZ
  rw[cA hg aw.bQ ai,r9,if_pos rfl]
  refine h ρ' κ' aw F hF g a w G dz ai r9 _ fun v w' G' h1 _=>⟨G',?_⟩
  rw[kA];exact h1
 ·rename_i d hgu kA
  cases au:Nat.blt d n with
  |false=>rw[au]at hk;exact hk.elim
  |true=>
   rw[au]at hk
   have iC:d<n:=by rw[Nat.blt_eq]at au;exact au
   have r9:gd=true:=by rw[hgu]at hg;injection hg with hg;exact hg.symm
   refine⟨_,_,hk,dZ,ez,fun F hF ρ' κ' aw g a w dz ⟨G,ai⟩=>?_⟩
   unfold lZ
   rw[cA hg aw.bQ ai,r9,if_pos rfl]
   refine h ρ' κ' aw F hF g a w G dz ai r9 _ fun v w' G' h1 h2=>⟨G',?_⟩
   rw[kA];exact h1.put iC h2
 ·exact hk.elim
theorem EE{gd:Bool}{av:AV}(hd:∀c,o.op≠.defer c)(hg:bZ ρ ops o.guard=some gd)(hk:yk n o gd ec k av bx rd)(dZ:nx<=ec)(ez:∀p,p∈bx->p.1<ec)
 (h:∀ρ' κ',DT ops o ρ ρ' κ κ' rd bx->∀(F:Fence),iq F->∀(g:dP) (a:Act) (w:World) (G:Gh),g.m<=nx/\C g->cy g n ρ' κ' a w G->gd=true->∀(K:Act->World->Prop),
  (∀v w' G',cy g n ρ' (ay κ' bx) a w' G'->aG G' av v->K (a.put o.dst v) w')->o.wpIn F 0 P a w K (fun _ _ _=>False)):Good P C ops n o nx ρ κ k:=by
 unfold yk at hk
 split at hk
 ·exact Gl hd hg hk dZ ez h
 ·obtain⟨r9,hk⟩:=hk
  split at hk
  ·rename_i kA
   refine⟨_,_,hk,dZ,ez,fun F hF ρ' κ' aw g a w dz ⟨G,ai⟩=>?_⟩
   unfold lZ
   rw[cA hg aw.bQ ai,r9,if_pos rfl]
   refine h ρ' κ' aw F hF g a w G dz ai r9 _ fun v w' G' h1 _=>⟨G',?_⟩
   rw[kA];exact h1
  ·rename_i d kA
   cases au:Nat.blt d n with
   |false=>rw[au]at hk;exact hk.elim
   |true=>
    rw[au]at hk
    have iC:d<n:=by rw[Nat.blt_eq]at au;exact au
    refine⟨_,_,hk,dZ,ez,fun F hF ρ' κ' aw g a w dz ⟨G,ai⟩=>?_⟩
    unfold lZ
    rw[cA hg aw.bQ ai,r9,if_pos rfl]
    refine h ρ' κ' aw F hF g a w G dz ai r9 _ fun v w' G' h1 h2=>⟨G',?_⟩
    rw[kA];exact h1.put iC (.opt true av v (fun _=>h2) (by simp))
theorem Jf{gd:Bool}{av:AV}(hd:∀c,o.op≠.defer c)(hg:bZ ρ ops o.guard=some gd)(hk:dO n o ec k av bx rd)(dZ:nx<=ec)(ez:∀p,p∈bx->p.1<ec)
 (h:∀ρ' κ',DT ops o ρ ρ' κ κ' rd bx->∀(F:Fence),iq F->∀(g:dP) (a:Act) (w:World) (G:Gh),g.m<=nx->cy g n ρ' κ' a w G->gd=true->∀(K:Act->World->Prop),
  (∀v w' G',cy g n ρ' (ay κ' bx) a w' G'->aG G' av v->K (a.put o.dst v) w')->o.wpIn F 0 P a w K (fun _ _ _=>False)):Good P C ops n o nx ρ κ k:=
 Gl hd hg hk dZ ez fun ρ' κ' aw F hF g a w G dz=>h ρ' κ' aw F hF g a w G dz.1
theorem cU{gd:Bool}{av:AV}(hd:∀c,o.op≠.defer c)(hg:bZ ρ ops o.guard=some gd)(hk:dO n o ec k av bx rd)(dZ:nx<=ec)(ez:∀p,p∈bx->p.1<ec)
 (h:∀ρ' κ',DT ops o ρ ρ' κ κ' rd bx->∀(g:dP) (a:Act) (w:World) (G:Gh),g.m<=nx->cy g n ρ' κ' a w G->gd=true->
  ∃v w' G',((execOp a.eval o).run P w=.ok (.value v) w'\/(execOp a.eval o).run P w=.ok .skip w'/\v=undef)/\cy g n ρ' (ay κ' bx) a w' G'/\aG G' av v):Good P C ops n o nx ρ κ k:=by
 refine Jf hd hg hk dZ ez fun ρ' κ' aw F hF g a w G dz ai aN K hK=>?_
 obtain⟨v,w',G',hr,h1,h2⟩:=h ρ' κ' aw g a w G dz ai aN
 rcases hr with hr|⟨hr,rfl⟩
 ·exact gO hF hd hr (hK v w' G' h1 h2)
 ·exact zr hF hd hr (hK undef w' G' h1 h2)
theorem Qt{gd:Bool}{av:AV}(hd:∀c,o.op≠.defer c)(hg:bZ ρ ops o.guard=some gd)(hk:yk n o gd ec k av bx rd)(dZ:nx<=ec)(ez:∀p,p∈bx->p.1<ec)
 (h:∀ρ' κ',DT ops o ρ ρ' κ κ' rd bx->∀(g:dP) (a:Act) (w:World) (G:Gh),g.m<=nx->cy g n ρ' κ' a w G->gd=true->
  ∃v w' G',((execOp a.eval o).run P w=.ok (.value v) w'\/(execOp a.eval o).run P w=.ok .skip w'/\v=undef)/\cy g n ρ' (ay κ' bx) a w' G'/\aG G' av v):Good P C ops n o nx ρ κ k:=by
 refine EE hd hg hk dZ ez fun ρ' κ' aw F hF g a w G dz ai aN K hK=>?_
 obtain⟨v,w',G',hr,h1,h2⟩:=h ρ' κ' aw g a w G dz.1 ai aN
 rcases hr with hr|⟨hr,rfl⟩
 ·exact gO hF hd hr (hK v w' G' h1 h2)
 ·exact zr hF hd hr (hK undef w' G' h1 h2)
theorem RW{gd:Bool}{av:AV}(hg:o.guard=none)(h:dO n o nx k av bx rd):yk n o gd nx k av bx rd:=by
 unfold yk;rw[hg];exact h
end
end
section
open Go.RowKit
variable [cn]
theorem cL(a:Addr)(i j:Nat):(a.add i).add j=a.add (i+j):=by
 unfold Addr.add
 by_cases hi:i=0<;>by_cases hj:j=0<;>simp[hi,hj,Nat.add_assoc]
theorem eO(b o k:Nat):(⟨b,o,none⟩:Addr).add k=⟨b,o+k,none⟩:=by unfold Addr.add;split<;>simp_all
section
variable {P:Program} {C:dP->Prop} {T:List TI}
structure gA(P:Program)(t:Nat)(ti:TI)(i:TypeInfo)(u:TypeDesc)(z:Value):Prop where
 info:P.info? t=some i
 AD:P.underlying t=some u
 zero:i.zero=some z
 zc:pA z.cells.toList=some ti.zero
 zl:ti.zero.length=i.size
 size:ti.size=i.size
 bytes:ti.bytes=i.bytes
 agg:ti.agg=J0 u
 fields:ti.fields=fieldsOf P u
 isSl:ti.isSl=KE u
 isStr:ti.isStr=strOf u
 elem:ti.elem=OM u
 kind:ti.kind=kindOf u
 key:ti.key=keyOf u
 B4:ti.B4=HU u
 GR:ti.GR=D5 u
 fin:yC P u=true
 dp:gm z=J0 u
 pair:ti.pair=(Hw P u&& !P.stoodInHeld t)
 len:ti.len=lenOf u
 Vx:ti.Vx=ON P t i.size u
theorem fb.facts(hT:fb P T){t:Nat}(h:(nth T t).ok=true):∃i u z,gA P t (nth T t) i u z:=by
 have e:=hT t h
 unfold TI.of at e
 split at e
 ·rename_i i u hi hu
  have h1:=congrArg TI.ok e
  rw[h]at h1
  simp only at h1
  have h1:=h1.symm
  simp only[acj]at h1
  obtain⟨oC,h1⟩:=h1
  have h1:=h1.symm
  split at h1
  ·rename_i z hz
   split at h1
   ·rename_i l hl
    have hz':(nth T t).zero=l:=by have:=congrArg TI.zero e;simp only[hz,hl]at this;exact this
    exact⟨i,u,z,⟨hi,hu,hz,by rw[hz'];exact hl,by rw[hz'];have:=h1.symm;simp only[acj]at this;simpa using this.1,congrArg TI.size e,congrArg TI.bytes e,congrArg TI.agg e,congrArg TI.fields e,congrArg TI.isSl e,congrArg TI.isStr e,congrArg TI.elem e,congrArg TI.kind e,congrArg TI.key e,congrArg TI.B4 e,congrArg TI.GR e,oC,by have:=h1.symm;simp only[acj]at this;simpa using this.2,congrArg TI.pair e,congrArg TI.len e,congrArg TI.Vx e⟩⟩
   ·cases h1
  ·cases h1
 ·have h1:=congrArg TI.ok e
  rw[h]at h1
  cases h1
theorem qR{w:World}{t:TypeId}{i:TypeInfo}(h:P.info? t=some i):(typeInfo t).run P w=.ok i w:=by
 simp[typeInfo,program,Sem.run,h]
theorem jS{w:World}{t:TypeId}{i:TypeInfo}(h:P.info? t=some i):(sizeOf t).run P w=.ok i.size w:=by
 simp[sizeOf,qR h]
theorem gA.vc{t:Nat}{ti:TI}{i:TypeInfo}{u:TypeDesc}{z:Value}(h:gA P t ti i u z)(w:World):(isAgg t).run P w=.ok ti.agg w:=by
 simp only[isAgg,Sem.run_bind,run_underlying h.AD,Result.andThen_ok,h.agg]
 cases u<;>rfl
theorem gA.fP{t:Nat}{ti:TI}{i:TypeInfo}{u:TypeDesc}{z:Value}(h:gA P t ti i u z)(w:World):(sizeOf t).run P w=.ok ti.size w:=by
 rw[jS h.info,h.size]
theorem gA.tI{t:Nat}{ti:TI}{i:TypeInfo}{u:TypeDesc}{z:Value}(h:gA P t ti i u z)(w:World):(zeroValue t).run P w=.ok z w:=by
 simp[zeroValue,qR h.info,h.zero]
theorem gA.slice{t:Nat}{ti:TI}{i:TypeInfo}{u:TypeDesc}{z:Value}(h:gA P t ti i u z)(hs:ti.isSl=true):P.underlying t=some (.slice ti.elem):=by
 have h1:=h.isSl
 have h2:=h.elem
 rw[hs]at h1
 cases u<;>simp[KE]at h1<;>simp[OM]at h2
 rw[h.AD,h2]
theorem gA.string{t:Nat}{ti:TI}{i:TypeInfo}{u:TypeDesc}{z:Value}(h:gA P t ti i u z)(hs:ti.isStr=true):P.underlying t=some .string:=by
 have h1:=h.isStr
 rw[hs]at h1
 cases u<;>simp[strOf]at h1
 exact h.AD
theorem gA.field{t:Nat}{ti:TI}{i:TypeInfo}{u:TypeDesc}{z:Value}(h:gA P t ti i u z){f off sz:Nat}(hf:ti.fields[f]?=some (off,sz))(h0:sz≠0):
 ∃fs fd,P.underlying t=some (.struct fs)/\fs[f]?=some fd/\fd.offset=off/\∃j,P.info? fd.type=some j/\j.size=sz:=by
 have h1:=h.fields
 cases u with
 |struct fs=>
  simp only[fieldsOf]at h1
  rw[h1,abJ]at hf
  cases hx:fs.toList[f]? with
  |none=>simp[hx]at hf
  |some fd=>
   simp only[hx,Option.map_some]at hf
   injection hf with hf
   injection hf with e1 e2
   refine⟨fs,fd,h.AD,by simpa using hx,e1,?_⟩
   cases hj:P.info? fd.type with
   |none=>rw[hj]at e2;exact absurd e2.symm h0
   |some j=>rw[hj]at e2;exact⟨j,rfl,e2⟩
 |_=>simp only[fieldsOf]at h1;rw[h1]at hf;simp at hf
end
section
variable {P:Program} {C:dP->Prop} {T:List TI} {ops:List Oper} {n:Nat} {o:Oper} {nx:Nat} {ρ:Nat->AV} {κ:Nat->aq} {k:kN->Nat->Prop} {gd:Bool}
theorem wi{m:Int}(h:-9223372036854775808<=m/\m<=9223372036854775807):IntKind.i64.wrap m=m:=IntWalk.i64_in m (by omega)
theorem jT{kd:IntKind}{m:Int}{ret:AV->Prop}(h:arith kd m gd ret):∃r,ret (.dv (.int kd r))/\(gd=true->kd.wrap m=r):=by
 unfold arith at h
 split at h
 ·exact⟨m,h.2,fun hg=>wi (h.1 hg)⟩
 ·exact⟨_,h,fun _=>rfl⟩
theorem iI{w:World}(op:BinOp)(t:TypeId)(x y:Operand)(a b:Value)(h:¬(a=.nilIface/\b=.nilIface))(h2:∀cs ds,¬(a=.agg cs/\b=.agg ds)):(eqGuard op t x y a b).run P w=.ok () w:=by
 unfold eqGuard
 cases op<;>simp<;>(cases a<;>cases b<;>simp_all)
theorem zt{w:World}{t:TypeId}(hu:P.underlying t=some .bool)(p q:Bool):(Op.equal t (.bool p) (.bool q)).run P w=.ok (p==q) w:=by
 have h:∀d,(Op.equalIn (d+1) t (.bool p) (.bool q)).run P w=.ok (p==q) w:=fun d=>by simp[Op.equalIn,run_underlying hu]
 simp only[Op.equal,Op.maxDepth,h 9999]
theorem qS{w:World}{t e:TypeId}(hu:P.underlying t=some (.pointer e))(a:Option Addr):(Op.equal t (.pointer a) (.pointer none)).run P w=.ok a.isNone w:=by
 have h:∀d,(Op.equalIn (d+1) t (.pointer a) (.pointer none)).run P w=.ok a.isNone w:=fun d=>by
  cases a<;>simp[Op.equalIn,run_underlying hu]
 simp only[Op.equal,Op.maxDepth,h 9999]
theorem Qu{w:World}{t:TypeId}(hu:P.underlying t=some .bool)(p q:Bool):(binOp .eql t (.bool p) (.bool q)).run P w=.ok (.bool (p==q)) w:=by
 simp only[binOp,Sem.run_bind,zt hu,Result.andThen_ok,Sem.run_pure]
theorem Qv{w:World}{t:TypeId}(hu:P.underlying t=some .bool)(p q:Bool):(binOp .neq t (.bool p) (.bool q)).run P w=.ok (.bool (!(p==q))) w:=by
 simp only[binOp,Sem.run_bind,zt hu,Result.andThen_ok,Sem.run_pure]
theorem wj{w:World}{t e:TypeId}(hu:P.underlying t=some (.pointer e))(a:Option Addr):(binOp .eql t (.pointer a) (.pointer none)).run P w=.ok (.bool a.isNone) w:=by
 simp only[binOp,Sem.run_bind,qS hu,Result.andThen_ok,Sem.run_pure]
theorem wk{w:World}{t e:TypeId}(hu:P.underlying t=some (.pointer e))(a:Option Addr):(binOp .neq t (.pointer a) (.pointer none)).run P w=.ok (.bool (!a.isNone)) w:=by
 simp only[binOp,Sem.run_bind,qS hu,Result.andThen_ok,Sem.run_pure]
theorem Gm(hT:fb P T){t:TypeId}(h1:(nth T t).ok=true)(h2:Nat.beq (nth T t).kind 5=true):∃e,P.underlying t=some (.pointer e):=by
 obtain⟨i,ud,z,hf⟩:=hT.facts h1
 have h3:=hf.kind
 rw[abL h2]at h3
 cases ud<;>simp[kindOf]at h3
 exact⟨_,hf.AD⟩
theorem Mo{G:Gh}{x:AV}{u:Value}(h:qH x=true)(hv:aG G x u):∃A,u=.pointer (some A):=by
 cases hv with
 |ptr=>exact⟨_,rfl⟩
 |loc=>exact⟨_,rfl⟩
 |qo=>exact⟨_,rfl⟩
 |dv hd=>cases hd<;>first|exact⟨_,rfl⟩|simp[qH]at h
 |_=>simp[qH]at h
theorem wm{w:World}(t:TypeId)(kx ky:IntKind)(a b:Int)(hb:0<=b):(binOp .shl t (.int kx a) (.int ky b)).run P w=.ok (.int kx (kx.wrap (a*2^min b.toNat kx.bits))) w:=by
 have:¬b<0:=by omega
 simp[binOp,Op.shift,this]
theorem wo{w:World}(t:TypeId)(kx ky:IntKind)(a b:Int)(hb:0<=b):(binOp .shr t (.int kx a) (.int ky b)).run P w=.ok (.int kx (a/2^min b.toNat kx.bits)) w:=by
 have:¬b<0:=by omega
 have hp:(0:Int)<=2^min b.toNat kx.bits:=Int.pow_nonneg (by decide)
 simp[binOp,Op.shift,this,Int.fdiv_eq_ediv_of_nonneg _ hp]
theorem IK(hT:fb P T){op:BinOp}{x0 y0:AV}{t:TypeId}{ret:AV->Prop}(h:sU (nth T t) op x0 y0 gd ret):∃r,ret (.dv r)/\r.aj=true/\∀(G:Gh) (w:World) (a b:Value),gd=true->aG G x0 a->aG G y0 b->
 ∃v,(binOp op t a b).run P w=.ok v w/\bu G.M r v/\¬(a=.nilIface/\b=.nilIface)/\∀cs ds,¬(a=.agg cs/\b=.agg ds):=by
 unfold sU at h
 split at h
 ·rename_i kx a ky b
  have aa1:∀{G:Gh} {u v:Value},aG G (.dv (.int kx a)) u->aG G (.dv (.int ky b)) v->u=.int kx a/\v=.int ky b:=by
   intro G u v hu hv
   cases hu with|dv hu=>cases hu with|int=>cases hv with|dv hv=>cases hv with|int=>exact⟨rfl,rfl⟩
  have ZO:∀{r:DV},ret (.dv r)->r.aj=true->(∀(w:World) (G:Gh),gd=true->∃v,(binOp op t (.int kx a) (.int ky b)).run P w=.ok v w/\bu G.M r v)->∃r,ret (.dv r)/\r.aj=true/\∀(G:Gh) (w:World) (u v:Value),gd=true->aG G (.dv (.int kx a)) u->aG G (.dv (.int ky b)) v->
   ∃x,(binOp op t u v).run P w=.ok x w/\bu G.M r x/\¬(u=.nilIface/\v=.nilIface)/\∀cs ds,¬(u=.agg cs/\v=.agg ds):=by
   intro r hr hc hh
   refine⟨r,hr,hc,fun G w u v hg hu hv=>?_⟩
   obtain⟨rfl,rfl⟩:=aa1 hu hv
   obtain⟨x,h1,h2⟩:=hh w G hg
   exact⟨x,h1,h2,by simp,by simp⟩
  cases hk:kx==ky with
  |false=>
   rw[hk]at h
   simp only[cond_false,J1]at h
   split at h
   ·exact ZO h.2 rfl fun w G hg=>⟨_,by rw[wm _ _ _ _ _ (h.1 hg)],.int kx _⟩
   ·exact ZO h.2 rfl fun w G hg=>⟨_,by rw[wo _ _ _ _ _ (h.1 hg)],.int kx _⟩
   ·exact h.elim
  |true=>
   rw[hk]at h
   have A1:kx=ky:=by simpa using hk
   subst A1
   have inv:∀{G:Gh} {u v:Value},aG G (.dv (.int kx a)) u->aG G (.dv (.int kx b)) v->u=.int kx a/\v=.int kx b:=by
    intro G u v hu hv
    cases hu with|dv hu=>cases hu with|int=>cases hv with|dv hv=>cases hv with|int=>exact⟨rfl,rfl⟩
   have fin:∀{r:DV},ret (.dv r)->r.aj=true->(∀(w:World) (G:Gh),gd=true->∃v,(binOp op t (.int kx a) (.int kx b)).run P w=.ok v w/\bu G.M r v)->∃r,ret (.dv r)/\r.aj=true/\∀(G:Gh) (w:World) (u v:Value),gd=true->aG G (.dv (.int kx a)) u->aG G (.dv (.int kx b)) v->
    ∃x,(binOp op t u v).run P w=.ok x w/\bu G.M r x/\¬(u=.nilIface/\v=.nilIface)/\∀cs ds,¬(u=.agg cs/\v=.agg ds):=by
    intro r hr hc hh
    refine⟨r,hr,hc,fun G w u v hg hu hv=>?_⟩
    obtain⟨rfl,rfl⟩:=inv hu hv
    obtain⟨x,h1,h2⟩:=hh w G hg
    exact⟨x,h1,h2,by simp,by simp⟩
   simp only[cond_true]at h
   split at h
   ·obtain⟨r,hr,he⟩:=jT h
    exact fin hr rfl fun w G hg=>⟨_,by simp[binOp,Op.intArith,he hg],.int kx r⟩
   ·obtain⟨r,hr,he⟩:=jT h
    exact fin hr rfl fun w G hg=>⟨_,by simp[binOp,Op.intArith,he hg],.int kx r⟩
   ·obtain⟨r,hr,he⟩:=jT h
    exact fin hr rfl fun w G hg=>⟨_,by simp[binOp,Op.intArith,he hg],.int kx r⟩
   ·obtain⟨r,hr,he⟩:=jT h.2
    exact fin hr rfl fun w G hg=>⟨_,by simp[binOp,Op.intDiv,h.1 hg,he hg],.int kx r⟩
   ·exact fin h.2 rfl fun w G hg=>⟨_,by simp[binOp,Op.intDiv,h.1 hg],.int kx _⟩
   ·exact fin h rfl fun w G hg=>⟨_,by simp[binOp,Op.intCmp],.bool _⟩
   ·exact fin h rfl fun w G hg=>⟨_,by simp[binOp,Op.intCmp],.bool _⟩
   ·exact fin h rfl fun w G hg=>⟨_,by simp[binOp,Op.intCmp],.bool _⟩
   ·exact fin h rfl fun w G hg=>⟨_,by simp[binOp,Op.intCmp],.bool _⟩
   ·exact fin h rfl fun w G hg=>⟨_,by simp[binOp,Op.intCmp],.bool _⟩
   ·exact fin h rfl fun w G hg=>⟨_,by simp[binOp,Op.intCmp],.bool _⟩
   ·exact fin h rfl fun w G hg=>⟨_,by simp[binOp,intBits_and],.int kx _⟩
   ·exact fin h rfl fun w G hg=>⟨_,by simp[binOp,intBits_or],.int kx _⟩
   ·exact fin h rfl fun w G hg=>⟨_,by simp[binOp,intBits_xor],.int kx _⟩
   ·exact fin h.2 rfl fun w G hg=>⟨_,by rw[wm _ _ _ _ _ (h.1 hg)],.int kx _⟩
   ·exact fin h.2 rfl fun w G hg=>⟨_,by rw[wo _ _ _ _ _ (h.1 hg)],.int kx _⟩
   ·exact h.elim
 ·rename_i p q
  have fin:∀{r:DV},ret (.dv r)->r.aj=true->(∀(w:World) (G:Gh),∃v,(binOp op t (.bool p) (.bool q)).run P w=.ok v w/\bu G.M r v)->∃r,ret (.dv r)/\r.aj=true/\∀(G:Gh) (w:World) (u v:Value),gd=true->aG G (.dv (.bool p)) u->aG G (.dv (.bool q)) v->
   ∃x,(binOp op t u v).run P w=.ok x w/\bu G.M r x/\¬(u=.nilIface/\v=.nilIface)/\∀cs ds,¬(u=.agg cs/\v=.agg ds):=by
   intro r hr hc hh
   refine⟨r,hr,hc,fun G w u v _ hu hv=>?_⟩
   cases hu with|dv hu=>cases hu with|bool=>cases hv with|dv hv=>cases hv with|bool=>
   obtain⟨x,h1,h2⟩:=hh w G
   exact⟨x,h1,h2,by simp,by simp⟩
  cases hk:(nth T t).ok&&Nat.beq (nth T t).kind 1 with
  |false=>rw[hk]at h;exact h.elim
  |true=>
   rw[hk]at h
   simp only[acj]at hk
   obtain⟨i,ud,z,hf⟩:=hT.facts hk.1
   have hu:P.underlying t=some .bool:=by
    have h1:=hf.kind
    rw[abL hk.2]at h1
    cases ud<;>simp[kindOf]at h1
    exact hf.AD
   simp only[cond_true]at h
   split at h
   ·exact fin h rfl fun w G=>⟨_,Qu hu p q,.bool _⟩
   ·exact fin h rfl fun w G=>⟨_,Qv hu p q,.bool _⟩
   ·exact h.elim
 ·rename_i s s'
  have fin:∀{r:DV},ret (.dv r)->r.aj=true->(∀(w:World) (G:Gh),gd=true->∃v,(binOp op t (.string s) (.string s')).run P w=.ok v w/\bu G.M r v)->∃r,ret (.dv r)/\r.aj=true/\∀(G:Gh) (w:World) (u v:Value),gd=true->aG G (.dv (.str s)) u->aG G (.dv (.str s')) v->
   ∃x,(binOp op t u v).run P w=.ok x w/\bu G.M r x/\¬(u=.nilIface/\v=.nilIface)/\∀cs ds,¬(u=.agg cs/\v=.agg ds):=by
   intro r hr hc hh
   refine⟨r,hr,hc,fun G w u v hg hu hv=>?_⟩
   cases hu with|dv hu=>cases hu with|str=>cases hv with|dv hv=>cases hv with|str=>
   obtain⟨x,h1,h2⟩:=hh w G hg
   exact⟨x,h1,h2,by simp,by simp⟩
  split at h
  ·exact fin h rfl fun w G _=>⟨_,by simp[binOp,Op.stringOp],.bool _⟩
  ·exact fin h rfl fun w G _=>⟨_,by simp[binOp,Op.stringOp],.bool _⟩
  ·refine fin h.2 rfl fun w G hg=>⟨_,?_,.str _⟩
   have hs:=h.1 hg
   have:¬((s.size+s'.size:Nat):Int)>IntKind.i64.max:=by
    have:IntKind.i64.max=9223372036854775807:=by decide
    omega
   simp only[binOp,Op.stringOp,this,if_false]
   rfl
  ·exact h.elim
 ·rename_i kx lo hi ky b
  cases hk:kx==ky with
  |false=>rw[hk]at h;exact h.elim
  |true=>
   rw[hk]at h
   have A1:kx=ky:=by simpa using hk
   subst A1
   simp only[cond_true]at h
   split at h
   ·rename_i r hr
    refine⟨_,h,rfl,fun G w u v _ hu hv=>?_⟩
    cases hu with|dv hu=>cases hu with|Ax _ _ _ a h1 h2=>cases hv with|dv hv=>cases hv with|int=>
    refine⟨.bool r,?_,.bool _,by simp,by simp⟩
    have hs:∀{p q:Bool},Af p q=some r->(p=true/\r=true)\/(p=false/\q=true/\r=false):=by
     intro p q e;cases p<;>cases q<;>simp[Af]at e<;>simp[e]
    have ht:∀{p q:Bool} {s:Bool},(bif p||q then some s else none)=some r->r=s/\(p=true\/q=true):=by
     intro p q s e;cases p<;>cases q<;>simp at e<;>simp[e]
    unfold CH at hr
    split at hr
    ·rcases hs hr with⟨e1,e2⟩|⟨e1,e3,e2⟩<;>simp at e1<;>(try simp at e3)<;>subst e2<;>simp[binOp,Op.intCmp]<;>omega
    ·rcases hs hr with⟨e1,e2⟩|⟨e1,e3,e2⟩<;>simp at e1<;>(try simp at e3)<;>subst e2<;>simp[binOp,Op.intCmp]<;>omega
    ·rcases hs hr with⟨e1,e2⟩|⟨e1,e3,e2⟩<;>simp at e1<;>(try simp at e3)<;>subst e2<;>simp[binOp,Op.intCmp]<;>omega
    ·rcases hs hr with⟨e1,e2⟩|⟨e1,e3,e2⟩<;>simp at e1<;>(try simp at e3)<;>subst e2<;>simp[binOp,Op.intCmp]<;>omega
    ·obtain⟨e1,e2⟩:=ht hr;subst e1;simp at e2;simp[binOp,Op.intCmp];omega
    ·obtain⟨e1,e2⟩:=ht hr;subst e1;simp at e2;simp[binOp,Op.intCmp];omega
    ·cases hr
   ·unfold OP at h
    split at h
    ·cases hd:decide (lo=hi)with
     |false=>rw[hd]at h;exact h.elim
     |true=>
      rw[hd]at h
      have e:lo=hi:=abY hd
      subst e
      refine⟨_,h,rfl,fun G w u v _ hu hv=>?_⟩
      cases hu with|dv hu=>cases hu with|Ax _ _ _ a h1 h2=>cases hv with|dv hv=>cases hv with|int=>
      have e:a=lo:=by omega
      subst e
      exact⟨_,by simp[binOp,Op.intArith],.int kx _,by simp,by simp⟩
    ·exact h.elim
 ·rename_i kx a ky lo hi
  cases hk:kx==ky with
  |false=>rw[hk]at h;exact h.elim
  |true=>
   rw[hk]at h
   have A1:kx=ky:=by simpa using hk
   subst A1
   simp only[cond_true]at h
   split at h
   ·obtain⟨e,h⟩:=h
    subst e
    refine⟨_,h,rfl,fun G w u v _ hu hv=>?_⟩
    cases hu with|dv hu=>cases hu with|int=>cases hv with|dv hv=>cases hv with|Ax _ _ _ b h1 h2=>
    have e:b=lo:=by omega
    subst e
    exact⟨_,by simp[binOp,Op.intArith],.int kx _,by simp,by simp⟩
   ·exact h.elim
 ·cases hk:(nth T t).ok&&Nat.beq (nth T t).kind 5 with
  |false=>rw[hk]at h;exact h.elim
  |true=>
   rw[hk]at h
   simp only[acj]at hk
   obtain⟨e,hu⟩:=Gm hT hk.1 hk.2
   have fin:∀{r:Bool},ret (.dv (.bool r))->(∀(w:World),(binOp op t (.pointer none) (.pointer none)).run P w=.ok (.bool r) w)->∃r,ret (.dv r)/\r.aj=true/\∀(G:Gh) (w:World) (u v:Value),gd=true->aG G (.dv .eL) u->aG G (.dv .eL) v->
    ∃y,(binOp op t u v).run P w=.ok y w/\bu G.M r y/\¬(u=.nilIface/\v=.nilIface)/\∀cs ds,¬(u=.agg cs/\v=.agg ds):=by
    intro r hr hh
    refine⟨_,hr,rfl,fun G w u v _ hu hv=>?_⟩
    cases hu with|dv hu=>cases hu with|eL=>cases hv with|dv hv=>cases hv with|eL=>
    exact⟨_,hh w,.bool _,by simp,by simp⟩
   simp only[cond_true]at h
   split at h
   ·exact fin h fun w=>wj hu _
   ·exact fin h fun w=>wk hu _
   ·exact h.elim
 ·cases hk:(nth T t).ok&&Nat.beq (nth T t).kind 5&&qH x0 with
  |false=>rw[hk]at h;exact h.elim
  |true=>
   rw[hk]at h
   simp only[acj]at hk
   obtain⟨e,hu⟩:=Gm hT hk.1.1 hk.1.2
   have fin:∀{r:Bool},ret (.dv (.bool r))->(∀(w:World) (A:Addr),(binOp op t (.pointer (some A)) (.pointer none)).run P w=.ok (.bool r) w)->∃r,ret (.dv r)/\r.aj=true/\∀(G:Gh) (w:World) (u v:Value),gd=true->aG G x0 u->aG G (.dv .eL) v->
    ∃y,(binOp op t u v).run P w=.ok y w/\bu G.M r y/\¬(u=.nilIface/\v=.nilIface)/\∀cs ds,¬(u=.agg cs/\v=.agg ds):=by
    intro r hr hh
    refine⟨_,hr,rfl,fun G w u v _ hu hv=>?_⟩
    cases hv with|dv hv=>cases hv with|eL=>
    obtain⟨A,rfl⟩:=Mo hk.2 hu
    exact⟨_,hh w A,.bool _,by simp,by simp⟩
   simp only[cond_true]at h
   split at h
   ·exact fin h fun w A=>wj hu _
   ·exact fin h fun w A=>wk hu _
   ·exact h.elim
 ·exact h.elim
end
end
end Go.TM
