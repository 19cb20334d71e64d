import Derived.Test.YtpbiiigpphehbaaGreatDoorFM5
import Derived.OrdersIn
import Derived.TacticsIn
import Derived.OwnWalkIn
import Derived.RangeFuncLeaves
set_option linter.all false
namespace Go.TM
set_option maxHeartbeats 1000000
section
open Go.RowKit
variable [cj]
def ay{γ:Type _}(f:Nat->γ):List (Nat×γ)->Nat->γ
 |[]=>f
 |(i,x)::r=>gM (ay f r) i x
theorem beq_false{i t:Nat}(h:t≠i):Nat.beq i t=false:=by
 cases hb:Nat.beq i t with
 |false=>rfl
 |true=>exact absurd (abD hb).symm h
theorem kp:∀(l:List (Nat×AV)) (env:Env),look (EF l env)=ay (look env) l
 |[],_=>rfl
 |(i,x)::r,env=>by
  funext t
  simp only[EF,look,ay,gM,kp r env]
  by_cases h:t=i
  ·subst h;simp
  ·rw[if_neg h];simp[beq_false h]
theorem fR:∀(l:List (Nat×ar)) (K:ae),aa (wu l K)=ay (aa K) l
 |[],_=>rfl
 |(i,x)::r,K=>by
  funext t
  simp only[wu,aa,ay,gM,fR r K]
  by_cases h:t=i
  ·subst h;simp
  ·rw[if_neg h];simp[beq_false h]
def Um:AV->List Nat
 |.own i _ _ _=>[i]
 |.loc i _ _ _ _ _ _=>[i]
 |.pre i _ _ _ _ _ _=>[i]
 |.opt _ v=>Um v
 |.cq i _=>[i]
 |_=>[]
def WH(ρ:Nat->AV):Operand->List Nat
 |.tmp t=>Um (ρ t)
 |_=>[]
def ME(ρ:Nat->AV)(o:Oper):List Nat:=o.op.operands.toList.flatMap fun| .tmp t=>Um (ρ t)|_=>[]
def aa4:ar->Bool
 |.tree _ _ _=>true
 |_=>false
def mvT(κ:Nat->ar):AV->Bool
 |.own i _ _ _=>aa4 (κ i)
 |_=>false
def gJ(ρ:Nat->AV)(κ:Nat->ar)(o:Oper):List Nat:=match o.op with
 |.move (.tmp t)=>bif mvT κ (ρ t)then[]else ME ρ o
 |_=>ME ρ o
theorem QL{M:Mem}{v:Value}{d:DV}(h:Pq v=some d):bz M d v/\d.ai=true/\d.ao=false:=by
 unfold Pq at h
 split at h<;>first|(injection h with h;subst h;exact⟨by constructor,rfl,rfl⟩)|cases h
theorem eJ{M:Mem}:∀{l:List Value} {ds:List DV},pC l=some ds->fD M ds l/\∀d,d∈ds->d.ai=true/\d.ao=false
 |[],ds,h=>by simp[pC]at h;subst h;exact⟨.nil M,by simp⟩
 |v::r,ds,h=>by
  simp only[pC]at h
  split at h
  ·rename_i d l h1 h2
   injection h with h;subst h
   obtain⟨a,b⟩:=QL (M:=M) h1
   obtain⟨c,e⟩:=eJ (M:=M) h2
   exact⟨.cons a c,by intro d' hd;rcases abG.1 hd with rfl|hd;exact b;exact e _ hd⟩
  ·cases h
theorem qN(l:List DV):eB l=l.map .dv:=by
 induction l with
 |nil=>rfl
 |cons d r ih=>simp[eB,ih]
theorem nv(l:List DV):(eB l).length=l.length:=by simp[qN]
theorem QM{l:List DV}{j:Nat}{v:AV}(h:(eB l)[j]?=some v):∃d,l[j]?=some d/\v=.dv d:=by
 rw[qN,abB]at h
 cases hj:l[j]? with
 |none=>simp[hj]at h
 |some d=>simp[hj]at h;exact⟨d,rfl,h.symm⟩
theorem iX{G:Gh}{l:List DV}{vs:List Value}(h:fD G.M l vs):cb G (eB l) vs:=by
 refine⟨by rw[nv];exact h.1,fun j d v hd hv=>?_⟩
 obtain⟨d',h1,rfl⟩:=QM hd
 exact .dv (h.2 j d' v h1 hv)
theorem Th(G:Gh)(v:Value):aH G (Ps v) v:=by
 unfold Ps
 split<;>first
  |exact .dv (by constructor)
  |exact .any _
  |skip
 rename_i cs
 split
 ·rename_i l hl
  obtain⟨h1,_⟩:=eJ (M:=G.M) hl
  have h2:=iX (G:=G) h1
  have:=aH.agg (G:=G) (eB l) cs.toList h2.1 h2.2
  simpa using this
 ·exact .any _
section
variable {g:dO} {n:Nat} {ρ:Nat->AV} {κ:Nat->ar} {a:Act} {w:World} {G:Gh}
theorem ye(h:Fit G w κ){v:AV}{x:Value}(hv:aH G v x):aH G (res κ v) x:=by
 cases v with
 |own i ver ep p=>
  simp only[res]
  split
  ·rename_i v' e' d hk
   cases hb:Nat.beq ver v'&&(emp p||Nat.beq ep e')with
   |true=>exact hv
   |false=>exact .any _
  ·rename_i v' d hk
   cases hb:Nat.beq ver v'&&emp p with
   |false=>exact .any _
   |true=>
    simp only[aca]at hb
    have Nh:=abD hb.1
    subst Nh
    have hx:=h.box i
    rw[hk]at hx
    obtain⟨u,h1,h2,h3⟩:=hx
    cases p with
    |cons=>simp[emp]at hb
    |nil=>cases hv with
     |own _ _ _ _ _ he hc=>simp only[aJ]at he;rw[h1]at he;injection he with he;subst he;exact .dv h3
  ·exact .any _
 |loc i ver ep p sz idx off=>
  simp only[res]
  cases hb:cur (κ i) ver ep p with
  |true=>exact hv
  |false=>exact .any _
 |pre i ver ep p sz idx off=>
  simp only[res]
  cases hb:cur (κ i) ver ep p with
  |true=>exact hv
  |false=>exact .any _
 |cq i ver=>
  simp only[res]
  split
  ·rename_i v' e' d hk
   cases hb:Nat.beq ver v' with
   |true=>exact hv
   |false=>exact .any _
  ·rename_i v' d hk
   cases hb:Nat.beq ver v' with
   |false=>exact .any _
   |true=>
    have Nh:=abD hb
    subst Nh
    have hx:=h.box i
    rw[hk]at hx
    obtain⟨u,h1,h2,h3⟩:=hx
    cases hv with
    |cq _ _ a n he=>rw[h1]at he;injection he with he;subst he;exact .dv h3
  ·exact .any _
 |_=>exact hv
theorem AB{v:AV}{x:Value}(hv:aH G v x):aH G (dn v) x:=by
 cases v with
 |cq i ver=>cases hv with|cq _ _ a n he=>exact .own i ver 0 [] _ he rfl
 |_=>exact hv
theorem BU{κ κ':Nat->ar}{v:AV}(h:∀i,i∈Um v->κ' i=κ i):res κ' v=res κ v:=by
 cases v with
 |own i ver ep p=>simp only[res];rw[h i (by simp[Um])]
 |loc i ver ep p sz idx off=>simp only[res];rw[h i (by simp[Um])]
 |pre i ver ep p sz idx off=>simp only[res];rw[h i (by simp[Um])]
 |cq i ver=>simp only[res];rw[h i (by simp[Um])]
 |_=>rfl
theorem Ti{κ:Nat->ar}{u:AV}{g:Bool}{v:AV}(h:res κ u=.opt g v):u=.opt g v:=by
 cases u with
 |own i ver ep p=>
  simp only[res]at h
  split at h
  ·rename_i v' e' d hk;cases hb:Nat.beq ver v'&&(emp p||Nat.beq ep e')<;>rw[hb]at h<;>cases h
  ·rename_i v' d hk;cases hb:Nat.beq ver v'&&emp p<;>rw[hb]at h<;>cases h
  ·cases h
 |loc i ver ep p sz idx off=>simp only[res]at h;cases hb:cur (κ i) ver ep p<;>rw[hb]at h<;>cases h
 |pre i ver ep p sz idx off=>simp only[res]at h;cases hb:cur (κ i) ver ep p<;>rw[hb]at h<;>cases h
 |cq i ver=>
  simp only[res]at h
  split at h
  ·rename_i v' e' d hk;cases hb:Nat.beq ver v'<;>rw[hb]at h<;>cases h
  ·rename_i v' d hk;cases hb:Nat.beq ver v'<;>rw[hb]at h<;>cases h
  ·cases h
 |opt g' v'=>exact h
 |_=>cases h
def B7(ρ ρ':Nat->AV)(κ κ':Nat->ar)(x:Operand):Prop:=(∀t,x=.tmp t->ρ' t=ρ t)/\∀i,i∈WH ρ x->κ' i=κ i
def bC(ρ:Nat->AV)(κ:Nat->ar)(gd:Bool)(x:Operand)(av:AV):Prop:=
 ∀ρ' κ',B7 ρ ρ' κ κ' x->∀(g:dO) (n:Nat) (a:Act) (w:World) (G:Gh),cu g n ρ' κ' a w G->gd=true->aH G av (a.eval x)
theorem bC.dn{gd:Bool}{x:Operand}{av:AV}(h:bC ρ κ gd x av):bC ρ κ gd x (dn av):=fun ρ' κ' ax g n a w G aj aP=>AB (h ρ' κ' ax g n a w G aj aP)
theorem AO{x:Operand}:∀ρ' κ',B7 ρ ρ' κ κ' x->∀(g:dO) (n:Nat) (a:Act) (w:World) (G:Gh),cu g n ρ' κ' a w G->aH G (ev ρ κ x) (a.eval x):=by
 intro ρ' κ' ax g n a w G aj
 cases x with
 |tmp t=>
  have h1:=ye aj.fit (aj.env t)
  rw[ax.1 t rfl]at h1
  simp only[ev]
  rw[<-BU (κ':=κ') (fun i hi=>ax.2 i hi)]
  exact h1
 |const v=>exact Th G v
 |func f=>exact .fn f [] [] rfl (by simp)
 |global i=>
  simp only[ev]
  split
  ·rename_i x hx
   exact .dv (cj.ok i x hx G.M (aj.oT.mono aj.mem))
  ·exact .any _
theorem QN{v:Value}{g:Bool}{u:AV}(h:Ps v=.opt g u):False:=by
 unfold Ps at h
 split at h<;>(try cases h)
 split at h<;>cases h
theorem EA{x:Operand}{g':Bool}{v:AV}(he:ev ρ κ x=.opt g' v){gd:Bool}(hg:gd=true->g'=true):bC ρ κ gd x (res κ v):=by
 intro ρ' κ' ax g n a w G aj aP
 have h1:=AO ρ' κ' ax g n a w G aj
 rw[he]at h1
 have rX:=hg aP
 subst rX
 have h4:aH G v (a.eval x):=by generalize a.eval x=y at h1;cases h1 with|opt _ _ _ h3 hu=>exact h3 rfl
 have h6:=ye aj.fit h4
 have uw:res κ' v=res κ v:=by
  refine BU fun i hi=>ax.2 i ?_
  cases x with
  |tmp t=>
   simp only[WH]
   simp only[ev]at he
   rw[Ti he]
   exact hi
  |const v=>exact(QN he).elim
  |func f=>cases he
  |global i=>simp only[ev]at he;split at he<;>cases he
 rw[uw]at h6
 exact h6
theorem aI{gd:Bool}{x:Operand}{k:AV->Prop}(h:ex ρ κ gd x k):∃av,k av/\bC ρ κ gd x av:=by
 unfold ex at h
 split at h
 ·rename_i g' v he
  obtain⟨hg,hk⟩:=h
  rw[force_eq]at hk
  exact⟨res κ v,hk,EA he hg⟩
 ·rw[force_eq]at h
  exact⟨ev ρ κ x,h,fun ρ' κ' ax g n a w G aj _=>AO ρ' κ' ax g n a w G aj⟩
end
def iz(F:Fence):Prop:=F=Fence.wide\/∃l,F=Fence.wide.inRound l
theorem gY:iz Fence.wide:=.inl rfl
theorem wide_round(l:Nat):iz (Fence.wide.inRound l):=.inr ⟨l,rfl⟩
theorem iz.fn{F:Fence}(h:iz F)(f:FuncId):F.fn f:=by rcases h with rfl|⟨l,rfl⟩<;>exact trivial
theorem iz.depth{F:Fence}(h:iz F):F.depth=none:=by rcases h with rfl|⟨l,rfl⟩<;>rfl
theorem iz.calls{F:Fence}(h:iz F){n:Nat}{P:Program}{f:FuncId}{args:Array Value}{w:World}{R:Ending->World->Prop}:CallsIn F n P f args w R↔Calls P f args w R:=by
 rcases h with rfl|⟨l,rfl⟩
 ·exact callsIn_wide
 ·exact callsIn_wide (n:=n)
theorem iz.round{F:Fence}(h:iz F){n:Nat}{P:Program}{l:Nat}{f:FuncId}{tmps:Array Value}{assign body:Code}{w:World}{R:Ending->World->Prop}:RoundIn F n P l f tmps assign body w R↔RoundIn Fence.wide n P l f tmps assign body w R:=by
 rcases h with rfl|⟨l,rfl⟩
 ·exact Iff.rfl
 ·exact Iff.rfl
def lZ(P:Program)(F:Fence)(ops:Array Oper)(o:Oper)(a:Act)(w:World)(K:Act->World->Prop):Prop:=
 if Region.wanted o (yielded ops a.tmps)=true then o.wpIn F 0 P a w K (fun _ _ _=>False)else K (a.put o.dst undef) w
structure DR(ops:List Oper)(o:Oper)(ρ ρ':Nat->AV)(κ κ':Nat->ar)(rd:List Nat)(bx:List (Nat×ar)):Prop where
 bR:∀t,t∈o.looksAt ops.toArray->ρ' t=ρ t
 rows:∀i,i∈gJ ρ κ o->κ' i=κ i
 reads:∀i,i∈rd->κ' i=κ i
 boxes:∀i b,(i,b)∈bx->κ' i=κ i
def ML(P:Program)(C:dO->Prop)(ops:List Oper)(n lo:Nat)(o:Oper)(ρ:Nat->AV)(κ:Nat->ar)(bp:lj):Prop:=
 ∀F,iz F->∀ρ' κ',DR ops o ρ ρ' κ κ' bp.reads bp.box->∀(g:dO) (a:Act) (w:World),g.m<=lo/\C g->St g n ρ' κ' a w->
  lZ P F ops.toArray o a w fun a' w'=>St g n (ay ρ' bp.dst) (ay κ' bp.box) a' w'
def Good(P:Program)(C:dO->Prop)(ops:List Oper)(n:Nat)(o:Oper)(nx:Nat)(ρ:Nat->AV)(κ:Nat->ar)(k:lj->Nat->Prop):Prop:=
 ∃bp dZ,k bp dZ/\nx<=dZ/\(∀p,p∈bp.box->p.1<dZ)/\ML P C ops n nx o ρ κ bp
section
variable {P:Program} {C:dO->Prop} {ops:List Oper} {n:Nat} {o:Oper} {nx dZ:Nat} {ρ ρ':Nat->AV} {κ κ':Nat->ar} {k:lj->Nat->Prop} {rd:List Nat} {bx:List (Nat×ar)}
theorem Tj(hm:∀y,o.op≠.move y):gJ ρ κ o=ME ρ o:=by
 unfold gJ
 split
 ·rename_i t ht;exact absurd ht (hm _)
 ·rfl
theorem DR.opR(h:DR ops o ρ ρ' κ κ' rd bx){x:Operand}(hx:x∈o.op.operands)(hm:gJ ρ κ o=ME ρ o):B7 ρ ρ' κ κ' x:=by
 have zY:x∈o.op.operands.toList:=by simpa using hx
 constructor
 ·rintro t rfl
  refine h.bR t ?_
  unfold Oper.looksAt
  refine abI.2 (.inl (List.mem_filterMap.2 ⟨.tmp t,zY,rfl⟩))
 ·intro i hi
  refine h.rows i ?_
  rw[hm]
  unfold ME
  refine List.mem_flatMap.2 ⟨x,zY,?_⟩
  cases x with
  |tmp t=>exact hi
  |_=>simp[WH]at hi
theorem DR.op(h:DR ops o ρ ρ' κ κ' rd bx){x:Operand}(hx:x∈o.op.operands)(hm:∀y,o.op≠.move y:=by have hh:=‹o.op=_›;intro y hy;rw[hh]at hy;cases hy):B7 ρ ρ' κ κ' x:=h.opR hx (Tj hm)
theorem I8{a:Act}{d j:Nat}(hj:(ops[j]?).bind (·.dst)=some d):yielded ops.toArray a.tmps j=match a.tmps[d]? with|some (.bool b)=>some b|_=>none:=by
 unfold yielded
 have:(ops.toArray[j]?).bind (·.dst)=some d:=by simpa using hj
 rw[this];rfl
theorem cy{g:dO}{a:Act}{w:World}{G:Gh}{gd:Bool}(hg:b5 ρ ops o.guard=some gd)
 (ax:∀t,t∈o.looksAt ops.toArray->ρ' t=ρ t) (h:cu g n ρ' κ' a w G):Region.wanted o (yielded ops.toArray a.tmps)=gd:=by
 unfold b5 at hg
 unfold Region.wanted
 split at hg
 ·rename_i hn;rw[hn];injection hg
 ·rename_i j want hs
  rw[hs]
  split at hg
  ·rename_i d hd
   have hr:ρ' d=ρ d:=by
    refine ax d ?_
    unfold Oper.looksAt
    refine abI.2 (.inr ?_)
    have:(ops.toArray[j]?).bind (·.dst)=some d:=by simpa using hd
    rw[hs];simpa using hd
   have hv:=h.env d
   rw[hr]at hv
   have oJ:∀b,a.tmps.getD d undef=.bool b->a.tmps[d]?=some (.bool b):=by
    intro b hb
    rw[abK]at hb
    cases hc:a.tmps[d]? with
    |none=>rw[hc]at hb;cases hb
    |some v=>rw[hc]at hb;simp at hb;rw[hb]
   simp only[I8 hd]
   split at hg
   ·rename_i b hb
    rw[hb]at hv
    injection hg with hg
    cases hv with
    |dv kj=>
     generalize hx:a.tmps.getD d undef=x at kj
     cases kj with
     |bool=>
      rw[oJ b hx,<-hg]
      cases b<;>cases want<;>rfl
   ·rename_i gg b hb
    rw[hb]at hv
    injection hg with hg
    generalize hx:a.tmps.getD d undef=x at hv
    cases hv with
    |opt _ _ _ h1 h2=>
     cases gg with
     |true=>
      have h3:=h1 rfl
      cases h3 with
      |dv kj=>cases kj with
       |bool=>
        rw[oJ b hx,<-hg]
        cases b<;>cases want<;>rfl
     |false=>
      have h3:=h2 rfl
      rw[<-hg]
      have:∀b,a.tmps[d]?≠some (.bool b):=by
       intro b hc
       have:a.tmps.getD d undef=.bool b:=by rw[abK,hc];rfl
       rw[hx,h3]at this;cases this
      cases hc:a.tmps[d]? with
      |none=>simp
      |some v=>cases v<;>first|(exact absurd hc (this _))|simp
   ·cases hg
  ·cases hg
theorem gP{F:Fence}(hF:iz F){a:Act}{w w':World}{v:Value}{K:Act->World->Prop}{Q:Exit->Act->World->Prop}(hd:∀c,o.op≠.defer c)
 (aZ:(execOp a.eval o).run P w=.ok (.value v) w') (hk:K (a.put o.dst v) w'):o.wpIn F 0 P a w K Q:=by
 refine⟨fun f _=>hF.fn f,?_⟩
 rw[Oper.semAt_plain F _ _ hd,aZ]
 exact hk
theorem zI{F:Fence}(hF:iz F){a:Act}{w w':World}{K:Act->World->Prop}{Q:Exit->Act->World->Prop}(hd:∀c,o.op≠.defer c)
 (aZ:(execOp a.eval o).run P w=.ok .skip w') (hk:K (a.put o.dst undef) w'):o.wpIn F 0 P a w K Q:=by
 refine⟨fun f _=>hF.fn f,?_⟩
 rw[Oper.semAt_plain F _ _ hd,aZ]
 exact hk
theorem bq{gd:Bool}{av:AV}(hd:∀c,o.op≠.defer c)(hg:b5 ρ ops o.guard=some gd)(hk:aT n o gd nx k av rd)
 (h:∀ρ' κ',DR ops o ρ ρ' κ κ' rd []->∀(g:dO) (a:Act) (w:World) (G:Gh),cu g n ρ' κ' a w G->gd=true->
  ∃v,(execOp a.eval o).run P w=.ok (.value v) w/\aH G av v):Good P C ops n o nx ρ κ k:=by
 unfold aT at hk
 split at hk
 ·rename_i kj hn
  refine⟨_,_,hk,ab3 _,by simp,fun F hF ρ' κ' ax g a w dz ⟨G,aj⟩=>?_⟩
  have rX:gd=true:=by rw[hn]at hg;injection hg with hg;exact hg.symm
  obtain⟨v,aZ,_⟩:=h ρ' κ' ax g a w G aj rX
  unfold lZ
  rw[cy hg ax.bR aj,rX,if_pos rfl]
  exact gP hF hd aZ ⟨G,by rw[kj];exact aj⟩
 ·exact hk.elim
 ·rename_i d kj hn
  cases au:Nat.blt d n with
  |false=>rw[au]at hk;exact hk.elim
  |true=>
   rw[au]at hk
   have iF:d<n:=by rw[Nat.blt_eq]at au;exact au
   refine⟨_,_,hk,ab3 _,by simp,fun F hF ρ' κ' ax g a w dz ⟨G,aj⟩=>?_⟩
   have rX:gd=true:=by rw[hn]at hg;injection hg with hg;exact hg.symm
   obtain⟨v,aZ,hv⟩:=h ρ' κ' ax g a w G aj rX
   unfold lZ
   rw[cy hg ax.bR aj,rX,if_pos rfl]
   exact gP hF hd aZ ⟨G,by rw[kj];exact aj.put iF hv⟩
 ·rename_i d j kj hn
  cases au:Nat.blt d n with
  |false=>rw[au]at hk;exact hk.elim
  |true=>
   rw[au]at hk
   have iF:d<n:=by rw[Nat.blt_eq]at au;exact au
   refine⟨_,_,hk,ab3 _,by simp,fun F hF ρ' κ' ax g a w dz ⟨G,aj⟩=>?_⟩
   unfold lZ
   rw[cy hg ax.bR aj]
   cases gd with
   |true=>
    obtain⟨v,aZ,hv⟩:=h ρ' κ' ax g a w G aj rfl
    rw[if_pos rfl]
    exact gP hF hd aZ ⟨G,by rw[kj];exact aj.put iF (.opt true av v (fun _=>hv) (by simp))⟩
   |false=>
    simp only[Bool.false_eq_true,if_false,kj]
    exact⟨G,aj.put iF (.opt false av undef (by simp) (fun _=>rfl))⟩
theorem GB{gd:Bool}{av:AV}(hd:∀c,o.op≠.defer c)(hg:b5 ρ ops o.guard=some gd)(hk:dR n o dZ k av bx rd)(dQ:nx<=dZ)(eE:∀p,p∈bx->p.1<dZ)
 (h:∀ρ' κ',DR ops o ρ ρ' κ κ' rd bx->∀(F:Fence),iz F->∀(g:dO) (a:Act) (w:World) (G:Gh),g.m<=nx/\C g->cu g n ρ' κ' a w G->gd=true->∀(K:Act->World->Prop),
  (∀v w' G',cu g n ρ' (ay κ' bx) a w' G'->aH G' av v->K (a.put o.dst v) w')->o.wpIn F 0 P a w K (fun _ _ _=>False)):Good P C ops n o nx ρ κ k:=by
 unfold dR at hk
 split at hk
 ·rename_i hgu kj
  have rX:gd=true:=by rw[hgu]at hg;injection hg with hg;exact hg.symm
  refine⟨_,_,hk,dQ,eE,fun F hF ρ' κ' ax g a w dz ⟨G,aj⟩=>?_⟩
  unfold lZ
  rw[cy hg ax.bR aj,rX,if_pos rfl]
  refine h ρ' κ' ax F hF g a w G dz aj rX _ fun v w' G' h1 _=>⟨G',?_⟩
  rw[kj];exact h1
 ·rename_i d hgu kj
  cases au:Nat.blt d n with
  |false=>rw[au]at hk;exact hk.elim
  |true=>
   rw[au]at hk
   have iF:d<n:=by rw[Nat.blt_eq]at au;exact au
   have rX:gd=true:=by rw[hgu]at hg;injection hg with hg;exact hg.symm
   refine⟨_,_,hk,dQ,eE,fun F hF ρ' κ' ax g a w dz ⟨G,aj⟩=>?_⟩
   unfold lZ
   rw[cy hg ax.bR aj,rX,if_pos rfl]
   refine h ρ' κ' ax F hF g a w G dz aj rX _ fun v w' G' h1 h2=>⟨G',?_⟩
   rw[kj];exact h1.put iF h2
 ·exact hk.elim
theorem E0{gd:Bool}{av:AV}(hd:∀c,o.op≠.defer c)(hg:b5 ρ ops o.guard=some gd)(hk:xE n o gd dZ k av bx rd)(dQ:nx<=dZ)(eE:∀p,p∈bx->p.1<dZ)
 (h:∀ρ' κ',DR ops o ρ ρ' κ κ' rd bx->∀(F:Fence),iz F->∀(g:dO) (a:Act) (w:World) (G:Gh),g.m<=nx/\C g->cu g n ρ' κ' a w G->gd=true->∀(K:Act->World->Prop),
  (∀v w' G',cu g n ρ' (ay κ' bx) a w' G'->aH G' av v->K (a.put o.dst v) w')->o.wpIn F 0 P a w K (fun _ _ _=>False)):Good P C ops n o nx ρ κ k:=by
 unfold xE at hk
 split at hk
 ·exact GB hd hg hk dQ eE h
 ·obtain⟨rX,hk⟩:=hk
  split at hk
  ·rename_i kj
   refine⟨_,_,hk,dQ,eE,fun F hF ρ' κ' ax g a w dz ⟨G,aj⟩=>?_⟩
   unfold lZ
   rw[cy hg ax.bR aj,rX,if_pos rfl]
   refine h ρ' κ' ax F hF g a w G dz aj rX _ fun v w' G' h1 _=>⟨G',?_⟩
   rw[kj];exact h1
  ·rename_i d kj
   cases au:Nat.blt d n with
   |false=>rw[au]at hk;exact hk.elim
   |true=>
    rw[au]at hk
    have iF:d<n:=by rw[Nat.blt_eq]at au;exact au
    refine⟨_,_,hk,dQ,eE,fun F hF ρ' κ' ax g a w dz ⟨G,aj⟩=>?_⟩
    unfold lZ
    rw[cy hg ax.bR aj,rX,if_pos rfl]
    refine h ρ' κ' ax F hF g a w G dz aj rX _ fun v w' G' h1 h2=>⟨G',?_⟩
    rw[kj];exact h1.put iF (.opt true av v (fun _=>h2) (by simp))
theorem Jq{gd:Bool}{av:AV}(hd:∀c,o.op≠.defer c)(hg:b5 ρ ops o.guard=some gd)(hk:dR n o dZ k av bx rd)(dQ:nx<=dZ)(eE:∀p,p∈bx->p.1<dZ)
 (h:∀ρ' κ',DR ops o ρ ρ' κ κ' rd bx->∀(F:Fence),iz F->∀(g:dO) (a:Act) (w:World) (G:Gh),g.m<=nx->cu g n ρ' κ' a w G->gd=true->∀(K:Act->World->Prop),
  (∀v w' G',cu g n ρ' (ay κ' bx) a w' G'->aH G' av v->K (a.put o.dst v) w')->o.wpIn F 0 P a w K (fun _ _ _=>False)):Good P C ops n o nx ρ κ k:=
 GB hd hg hk dQ eE fun ρ' κ' ax F hF g a w G dz=>h ρ' κ' ax F hF g a w G dz.1
theorem cZ{gd:Bool}{av:AV}(hd:∀c,o.op≠.defer c)(hg:b5 ρ ops o.guard=some gd)(hk:dR n o dZ k av bx rd)(dQ:nx<=dZ)(eE:∀p,p∈bx->p.1<dZ)
 (h:∀ρ' κ',DR ops o ρ ρ' κ κ' rd bx->∀(g:dO) (a:Act) (w:World) (G:Gh),g.m<=nx->cu g n ρ' κ' a w G->gd=true->
  ∃v w' G',((execOp a.eval o).run P w=.ok (.value v) w'\/(execOp a.eval o).run P w=.ok .skip w'/\v=undef)/\cu g n ρ' (ay κ' bx) a w' G'/\aH G' av v):Good P C ops n o nx ρ κ k:=by
 refine Jq hd hg hk dQ eE fun ρ' κ' ax F hF g a w G dz aj aP K hK=>?_
 obtain⟨v,w',G',hr,h1,h2⟩:=h ρ' κ' ax g a w G dz aj aP
 rcases hr with hr|⟨hr,rfl⟩
 ·exact gP hF hd hr (hK v w' G' h1 h2)
 ·exact zI hF hd hr (hK undef w' G' h1 h2)
theorem Nd{gd:Bool}{av:AV}(hd:∀c,o.op≠.defer c)(hg:b5 ρ ops o.guard=some gd)(hk:xE n o gd dZ k av bx rd)(dQ:nx<=dZ)(eE:∀p,p∈bx->p.1<dZ)
 (h:∀ρ' κ',DR ops o ρ ρ' κ κ' rd bx->∀(g:dO) (a:Act) (w:World) (G:Gh),g.m<=nx->cu g n ρ' κ' a w G->gd=true->
  ∃v w' G',((execOp a.eval o).run P w=.ok (.value v) w'\/(execOp a.eval o).run P w=.ok .skip w'/\v=undef)/\cu g n ρ' (ay κ' bx) a w' G'/\aH G' av v):Good P C ops n o nx ρ κ k:=by
 refine E0 hd hg hk dQ eE fun ρ' κ' ax F hF g a w G dz aj aP K hK=>?_
 obtain⟨v,w',G',hr,h1,h2⟩:=h ρ' κ' ax g a w G dz.1 aj aP
 rcases hr with hr|⟨hr,rfl⟩
 ·exact gP hF hd hr (hK v w' G' h1 h2)
 ·exact zI hF hd hr (hK undef w' G' h1 h2)
theorem RZ{gd:Bool}{av:AV}(hg:o.guard=none)(h:dR n o nx k av bx rd):xE n o gd nx k av bx rd:=by
 unfold xE;rw[hg];exact h
end
end
section
open Go.RowKit
variable [cj]
theorem cG(a:Addr)(i j:Nat):(a.add i).add j=a.add (i+j):=by
 unfold Addr.add
 by_cases hi:i=0<;>by_cases hj:j=0<;>simp[hi,hj,Nat.add_assoc]
theorem eL(b o k:Nat):(⟨b,o,none⟩:Addr).add k=⟨b,o+k,none⟩:=by unfold Addr.add;split<;>simp_all
section
variable {P:Program} {C:dO->Prop} {T:List TI}
structure gr(P:Program)(t:Nat)(ti:TI)(i:TypeInfo)(u:TypeDesc)(z:Value):Prop where
 info:P.info? t=some i
 AJ:P.underlying t=some u
 zero:i.zero=some z
 zc:pC z.cells.toList=some ti.zero
 zl:ti.zero.length=i.size
 size:ti.size=i.size
 bytes:ti.bytes=i.bytes
 agg:ti.agg=Kd u
 fields:ti.fields=fieldsOf P u
 isSl:ti.isSl=KZ u
 isStr:ti.isStr=strOf u
 elem:ti.elem=Nf u
 kind:ti.kind=kindOf u
 key:ti.key=keyOf u
 B8:ti.B8=GX u
 He:ti.He=Ev u
 fin:y2 P u=true
 di:gu z=Kd u
 pair:ti.pair=(HJ P u&& !P.stoodInHeld t)
 len:ti.len=lenOf u
 Vw:ti.Vw=Pr P t i.size u
theorem eV.facts(hT:eV P T){t:Nat}(h:(nth T t).ok=true):∃i u z,gr P t (nth T t) i u z:=by
 have e:=hT t h
 unfold TI.of at e
 split at e
 ·rename_i i u hi hu
  have h1:=congrArg TI.ok e
  rw[h]at h1
  simp only at h1
  have h1:=h1.symm
  simp only[aca]at h1
  obtain⟨ow,h1⟩:=h1
  have h1:=h1.symm
  split at h1
  ·rename_i z hz
   split at h1
   ·rename_i l hl
    have hz':(nth T t).zero=l:=by have:=congrArg TI.zero e;simp only[hz,hl]at this;exact this
    exact⟨i,u,z,⟨hi,hu,hz,by rw[hz'];exact hl,by rw[hz'];have:=h1.symm;simp only[aca]at this;simpa using this.1,congrArg TI.size e,congrArg TI.bytes e,congrArg TI.agg e,congrArg TI.fields e,congrArg TI.isSl e,congrArg TI.isStr e,congrArg TI.elem e,congrArg TI.kind e,congrArg TI.key e,congrArg TI.B8 e,congrArg TI.He e,ow,by have:=h1.symm;simp only[aca]at this;simpa using this.2,congrArg TI.pair e,congrArg TI.len e,congrArg TI.Vw e⟩⟩
   ·cases h1
  ·cases h1
 ·have h1:=congrArg TI.ok e
  rw[h]at h1
  cases h1
theorem qI{w:World}{t:TypeId}{i:TypeInfo}(h:P.info? t=some i):(typeInfo t).run P w=.ok i w:=by
 simp[typeInfo,program,Sem.run,h]
theorem jv{w:World}{t:TypeId}{i:TypeInfo}(h:P.info? t=some i):(sizeOf t).run P w=.ok i.size w:=by
 simp[sizeOf,qI h]
theorem gr.tY{t:Nat}{ti:TI}{i:TypeInfo}{u:TypeDesc}{z:Value}(h:gr P t ti i u z)(w:World):(isAgg t).run P w=.ok ti.agg w:=by
 simp only[isAgg,Sem.run_bind,run_underlying h.AJ,Result.andThen_ok,h.agg]
 cases u<;>rfl
theorem gr.fL{t:Nat}{ti:TI}{i:TypeInfo}{u:TypeDesc}{z:Value}(h:gr P t ti i u z)(w:World):(sizeOf t).run P w=.ok ti.size w:=by
 rw[jv h.info,h.size]
theorem gr.r8{t:Nat}{ti:TI}{i:TypeInfo}{u:TypeDesc}{z:Value}(h:gr P t ti i u z)(w:World):(zeroValue t).run P w=.ok z w:=by
 simp[zeroValue,qI h.info,h.zero]
theorem gr.slice{t:Nat}{ti:TI}{i:TypeInfo}{u:TypeDesc}{z:Value}(h:gr P t ti i u z)(hs:ti.isSl=true):P.underlying t=some (.slice ti.elem):=by
 have h1:=h.isSl
 have h2:=h.elem
 rw[hs]at h1
 cases u<;>simp[KZ]at h1<;>simp[Nf]at h2
 rw[h.AJ,h2]
theorem gr.string{t:Nat}{ti:TI}{i:TypeInfo}{u:TypeDesc}{z:Value}(h:gr P t ti i u z)(hs:ti.isStr=true):P.underlying t=some .string:=by
 have h1:=h.isStr
 rw[hs]at h1
 cases u<;>simp[strOf]at h1
 exact h.AJ
theorem gr.field{t:Nat}{ti:TI}{i:TypeInfo}{u:TypeDesc}{z:Value}(h:gr P t ti i u z){f off sz:Nat}(hf:ti.fields[f]?=some (off,sz))(h0:sz≠0):
 ∃fs fd,P.underlying t=some (.struct fs)/\fs[f]?=some fd/\fd.offset=off/\∃j,P.info? fd.type=some j/\j.size=sz:=by
 have h1:=h.fields
 cases u with
 |struct fs=>
  simp only[fieldsOf]at h1
  rw[h1,abB]at hf
  cases hx:fs.toList[f]? with
  |none=>simp[hx]at hf
  |some fd=>
   simp only[hx,Option.map_some]at hf
   injection hf with hf
   injection hf with e1 e2
   refine⟨fs,fd,h.AJ,by simpa using hx,e1,?_⟩
   cases hj:P.info? fd.type with
   |none=>rw[hj]at e2;exact absurd e2.symm h0
   |some j=>rw[hj]at e2;exact⟨j,rfl,e2⟩
 |_=>simp only[fieldsOf]at h1;rw[h1]at hf;simp at hf
end
section
variable {P:Program} {C:dO->Prop} {T:List TI} {ops:List Oper} {n:Nat} {o:Oper} {nx:Nat} {ρ:Nat->AV} {κ:Nat->ar} {k:lj->Nat->Prop} {gd:Bool}
theorem v7{m:Int}(h:-9223372036854775808<=m/\m<=9223372036854775807):IntKind.i64.wrap m=m:=IntWalk.i64_in m (by omega)
theorem jM{kd:IntKind}{m:Int}{ret:AV->Prop}(h:arith kd m gd ret):∃r,ret (.dv (.int kd r))/\(gd=true->kd.wrap m=r):=by
 unfold arith at h
 split at h
 ·exact⟨m,h.2,fun hg=>v7 (h.1 hg)⟩
 ·exact⟨_,h,fun _=>rfl⟩
theorem iK{w:World}(op:BinOp)(t:TypeId)(x y:Operand)(a b:Value)(h:¬(a=.nilIface/\b=.nilIface))(h2:∀cs ds,¬(a=.agg cs/\b=.agg ds)):(eqGuard op t x y a b).run P w=.ok () w:=by
 unfold eqGuard
 cases op<;>simp<;>(cases a<;>cases b<;>simp_all)
theorem zJ{w:World}{t:TypeId}(hu:P.underlying t=some .bool)(p q:Bool):(Op.equal t (.bool p) (.bool q)).run P w=.ok (p==q) w:=by
 have h:∀d,(Op.equalIn (d+1) t (.bool p) (.bool q)).run P w=.ok (p==q) w:=fun d=>by simp[Op.equalIn,run_underlying hu]
 simp only[Op.equal,Op.maxDepth,h 9999]
theorem qJ{w:World}{t e:TypeId}(hu:P.underlying t=some (.pointer e))(a:Option Addr):(Op.equal t (.pointer a) (.pointer none)).run P w=.ok a.isNone w:=by
 have h:∀d,(Op.equalIn (d+1) t (.pointer a) (.pointer none)).run P w=.ok a.isNone w:=fun d=>by
  cases a<;>simp[Op.equalIn,run_underlying hu]
 simp only[Op.equal,Op.maxDepth,h 9999]
theorem QO{w:World}{t:TypeId}(hu:P.underlying t=some .bool)(p q:Bool):(binOp .eql t (.bool p) (.bool q)).run P w=.ok (.bool (p==q)) w:=by
 simp only[binOp,Sem.run_bind,zJ hu,Result.andThen_ok,Sem.run_pure]
theorem QP{w:World}{t:TypeId}(hu:P.underlying t=some .bool)(p q:Bool):(binOp .neq t (.bool p) (.bool q)).run P w=.ok (.bool (!(p==q))) w:=by
 simp only[binOp,Sem.run_bind,zJ hu,Result.andThen_ok,Sem.run_pure]
theorem v8{w:World}{t e:TypeId}(hu:P.underlying t=some (.pointer e))(a:Option Addr):(binOp .eql t (.pointer a) (.pointer none)).run P w=.ok (.bool a.isNone) w:=by
 simp only[binOp,Sem.run_bind,qJ hu,Result.andThen_ok,Sem.run_pure]
theorem wa{w:World}{t e:TypeId}(hu:P.underlying t=some (.pointer e))(a:Option Addr):(binOp .neq t (.pointer a) (.pointer none)).run P w=.ok (.bool (!a.isNone)) w:=by
 simp only[binOp,Sem.run_bind,qJ hu,Result.andThen_ok,Sem.run_pure]
theorem GC(hT:eV P T){t:TypeId}(h1:(nth T t).ok=true)(h2:Nat.beq (nth T t).kind 5=true):∃e,P.underlying t=some (.pointer e):=by
 obtain⟨i,ud,z,hf⟩:=hT.facts h1
 have h3:=hf.kind
 rw[abD h2]at h3
 cases ud<;>simp[kindOf]at h3
 exact⟨_,hf.AJ⟩
theorem MF{G:Gh}{x:AV}{u:Value}(h:qD x=true)(hv:aH G x u):∃A,u=.pointer (some A):=by
 cases hv with
 |ptr=>exact⟨_,rfl⟩
 |loc=>exact⟨_,rfl⟩
 |qm=>exact⟨_,rfl⟩
 |dv hd=>cases hd<;>first|exact⟨_,rfl⟩|simp[qD]at h
 |_=>simp[qD]at h
theorem wb{w:World}(t:TypeId)(kx ky:IntKind)(a b:Int)(hb:0<=b):(binOp .shl t (.int kx a) (.int ky b)).run P w=.ok (.int kx (kx.wrap (a*2^min b.toNat kx.bits))) w:=by
 have:¬b<0:=by omega
 simp[binOp,Op.shift,this]
theorem wc{w:World}(t:TypeId)(kx ky:IntKind)(a b:Int)(hb:0<=b):(binOp .shr t (.int kx a) (.int ky b)).run P w=.ok (.int kx (a/2^min b.toNat kx.bits)) w:=by
 have:¬b<0:=by omega
 have hp:(0:Int)<=2^min b.toNat kx.bits:=Int.pow_nonneg (by decide)
 simp[binOp,Op.shift,this,Int.fdiv_eq_ediv_of_nonneg _ hp]
theorem I9(hT:eV P T){op:BinOp}{x0 y0:AV}{t:TypeId}{ret:AV->Prop}(h:sS (nth T t) op x0 y0 gd ret):∃r,ret (.dv r)/\r.ai=true/\∀(G:Gh) (w:World) (a b:Value),gd=true->aH G x0 a->aH G y0 b->
 ∃v,(binOp op t a b).run P w=.ok v w/\bz G.M r v/\¬(a=.nilIface/\b=.nilIface)/\∀cs ds,¬(a=.agg cs/\b=.agg ds):=by
 unfold sS at h
 split at h
 ·rename_i kx a ky b
  have aa5:∀{G:Gh} {u v:Value},aH G (.dv (.int kx a)) u->aH G (.dv (.int ky b)) v->u=.int kx a/\v=.int ky b:=by
   intro G u v hu hv
   cases hu with|dv hu=>cases hu with|int=>cases hv with|dv hv=>cases hv with|int=>exact⟨rfl,rfl⟩
  have Z6:∀{r:DV},ret (.dv r)->r.ai=true->(∀(w:World) (G:Gh),gd=true->∃v,(binOp op t (.int kx a) (.int ky b)).run P w=.ok v w/\bz G.M r v)->∃r,ret (.dv r)/\r.ai=true/\∀(G:Gh) (w:World) (u v:Value),gd=true->aH G (.dv (.int kx a)) u->aH G (.dv (.int ky b)) v->
   ∃x,(binOp op t u v).run P w=.ok x w/\bz G.M r x/\¬(u=.nilIface/\v=.nilIface)/\∀cs ds,¬(u=.agg cs/\v=.agg ds):=by
   intro r hr hc hh
   refine⟨r,hr,hc,fun G w u v hg hu hv=>?_⟩
   obtain⟨rfl,rfl⟩:=aa5 hu hv
   obtain⟨x,h1,h2⟩:=hh w G hg
   exact⟨x,h1,h2,by simp,by simp⟩
  cases hk:kx==ky with
  |false=>
   rw[hk]at h
   simp only[cond_false,Ke]at h
   split at h
   ·exact Z6 h.2 rfl fun w G hg=>⟨_,by rw[wb _ _ _ _ _ (h.1 hg)],.int kx _⟩
   ·exact Z6 h.2 rfl fun w G hg=>⟨_,by rw[wc _ _ _ _ _ (h.1 hg)],.int kx _⟩
   ·exact h.elim
  |true=>
   rw[hk]at h
   have AL:kx=ky:=by simpa using hk
   subst AL
   have inv:∀{G:Gh} {u v:Value},aH G (.dv (.int kx a)) u->aH G (.dv (.int kx b)) v->u=.int kx a/\v=.int kx b:=by
    intro G u v hu hv
    cases hu with|dv hu=>cases hu with|int=>cases hv with|dv hv=>cases hv with|int=>exact⟨rfl,rfl⟩
   have fin:∀{r:DV},ret (.dv r)->r.ai=true->(∀(w:World) (G:Gh),gd=true->∃v,(binOp op t (.int kx a) (.int kx b)).run P w=.ok v w/\bz G.M r v)->∃r,ret (.dv r)/\r.ai=true/\∀(G:Gh) (w:World) (u v:Value),gd=true->aH G (.dv (.int kx a)) u->aH G (.dv (.int kx b)) v->
    ∃x,(binOp op t u v).run P w=.ok x w/\bz G.M r x/\¬(u=.nilIface/\v=.nilIface)/\∀cs ds,¬(u=.agg cs/\v=.agg ds):=by
    intro r hr hc hh
    refine⟨r,hr,hc,fun G w u v hg hu hv=>?_⟩
    obtain⟨rfl,rfl⟩:=inv hu hv
    obtain⟨x,h1,h2⟩:=hh w G hg
    exact⟨x,h1,h2,by simp,by simp⟩
   simp only[cond_true]at h
   split at h
   ·obtain⟨r,hr,he⟩:=jM h
    exact fin hr rfl fun w G hg=>⟨_,by simp[binOp,Op.intArith,he hg],.int kx r⟩
   ·obtain⟨r,hr,he⟩:=jM h
    exact fin hr rfl fun w G hg=>⟨_,by simp[binOp,Op.intArith,he hg],.int kx r⟩
   ·obtain⟨r,hr,he⟩:=jM h
    exact fin hr rfl fun w G hg=>⟨_,by simp[binOp,Op.intArith,he hg],.int kx r⟩
   ·obtain⟨r,hr,he⟩:=jM h.2
    exact fin hr rfl fun w G hg=>⟨_,by simp[binOp,Op.intDiv,h.1 hg,he hg],.int kx r⟩
   ·exact fin h.2 rfl fun w G hg=>⟨_,by simp[binOp,Op.intDiv,h.1 hg],.int kx _⟩
   ·exact fin h rfl fun w G hg=>⟨_,by simp[binOp,Op.intCmp],.bool _⟩
   ·exact fin h rfl fun w G hg=>⟨_,by simp[binOp,Op.intCmp],.bool _⟩
   ·exact fin h rfl fun w G hg=>⟨_,by simp[binOp,Op.intCmp],.bool _⟩
   ·exact fin h rfl fun w G hg=>⟨_,by simp[binOp,Op.intCmp],.bool _⟩
   ·exact fin h rfl fun w G hg=>⟨_,by simp[binOp,Op.intCmp],.bool _⟩
   ·exact fin h rfl fun w G hg=>⟨_,by simp[binOp,Op.intCmp],.bool _⟩
   ·exact fin h rfl fun w G hg=>⟨_,by simp[binOp,intBits_and],.int kx _⟩
   ·exact fin h rfl fun w G hg=>⟨_,by simp[binOp,intBits_or],.int kx _⟩
   ·exact fin h rfl fun w G hg=>⟨_,by simp[binOp,intBits_xor],.int kx _⟩
   ·exact fin h.2 rfl fun w G hg=>⟨_,by rw[wb _ _ _ _ _ (h.1 hg)],.int kx _⟩
   ·exact fin h.2 rfl fun w G hg=>⟨_,by rw[wc _ _ _ _ _ (h.1 hg)],.int kx _⟩
   ·exact h.elim
 ·rename_i p q
  have fin:∀{r:DV},ret (.dv r)->r.ai=true->(∀(w:World) (G:Gh),∃v,(binOp op t (.bool p) (.bool q)).run P w=.ok v w/\bz G.M r v)->∃r,ret (.dv r)/\r.ai=true/\∀(G:Gh) (w:World) (u v:Value),gd=true->aH G (.dv (.bool p)) u->aH G (.dv (.bool q)) v->
   ∃x,(binOp op t u v).run P w=.ok x w/\bz G.M r x/\¬(u=.nilIface/\v=.nilIface)/\∀cs ds,¬(u=.agg cs/\v=.agg ds):=by
   intro r hr hc hh
   refine⟨r,hr,hc,fun G w u v _ hu hv=>?_⟩
   cases hu with|dv hu=>cases hu with|bool=>cases hv with|dv hv=>cases hv with|bool=>
   obtain⟨x,h1,h2⟩:=hh w G
   exact⟨x,h1,h2,by simp,by simp⟩
  cases hk:(nth T t).ok&&Nat.beq (nth T t).kind 1 with
  |false=>rw[hk]at h;exact h.elim
  |true=>
   rw[hk]at h
   simp only[aca]at hk
   obtain⟨i,ud,z,hf⟩:=hT.facts hk.1
   have hu:P.underlying t=some .bool:=by
    have h1:=hf.kind
    rw[abD hk.2]at h1
    cases ud<;>simp[kindOf]at h1
    exact hf.AJ
   simp only[cond_true]at h
   split at h
   ·exact fin h rfl fun w G=>⟨_,QO hu p q,.bool _⟩
   ·exact fin h rfl fun w G=>⟨_,QP hu p q,.bool _⟩
   ·exact h.elim
 ·rename_i s s'
  have fin:∀{r:DV},ret (.dv r)->r.ai=true->(∀(w:World) (G:Gh),gd=true->∃v,(binOp op t (.string s) (.string s')).run P w=.ok v w/\bz G.M r v)->∃r,ret (.dv r)/\r.ai=true/\∀(G:Gh) (w:World) (u v:Value),gd=true->aH G (.dv (.str s)) u->aH G (.dv (.str s')) v->
   ∃x,(binOp op t u v).run P w=.ok x w/\bz G.M r x/\¬(u=.nilIface/\v=.nilIface)/\∀cs ds,¬(u=.agg cs/\v=.agg ds):=by
   intro r hr hc hh
   refine⟨r,hr,hc,fun G w u v hg hu hv=>?_⟩
   cases hu with|dv hu=>cases hu with|str=>cases hv with|dv hv=>cases hv with|str=>
   obtain⟨x,h1,h2⟩:=hh w G hg
   exact⟨x,h1,h2,by simp,by simp⟩
  split at h
  ·exact fin h rfl fun w G _=>⟨_,by simp[binOp,Op.stringOp],.bool _⟩
  ·exact fin h rfl fun w G _=>⟨_,by simp[binOp,Op.stringOp],.bool _⟩
  ·refine fin h.2 rfl fun w G hg=>⟨_,?_,.str _⟩
   have hs:=h.1 hg
   have:¬((s.size+s'.size:Nat):Int)>IntKind.i64.max:=by
    have:IntKind.i64.max=9223372036854775807:=by decide
    omega
   simp only[binOp,Op.stringOp,this,if_false]
   rfl
  ·exact h.elim
 ·rename_i kx lo hi ky b
  cases hk:kx==ky with
  |false=>rw[hk]at h;exact h.elim
  |true=>
   rw[hk]at h
   have AL:kx=ky:=by simpa using hk
   subst AL
   simp only[cond_true]at h
   split at h
   ·rename_i r hr
    refine⟨_,h,rfl,fun G w u v _ hu hv=>?_⟩
    cases hu with|dv hu=>cases hu with|we _ _ _ a h1 h2=>cases hv with|dv hv=>cases hv with|int=>
    refine⟨.bool r,?_,.bool _,by simp,by simp⟩
    have hs:∀{p q:Bool},Ah p q=some r->(p=true/\r=true)\/(p=false/\q=true/\r=false):=by
     intro p q e;cases p<;>cases q<;>simp[Ah]at e<;>simp[e]
    have ht:∀{p q:Bool} {s:Bool},(bif p||q then some s else none)=some r->r=s/\(p=true\/q=true):=by
     intro p q s e;cases p<;>cases q<;>simp at e<;>simp[e]
    unfold CU at hr
    split at hr
    ·rcases hs hr with⟨e1,e2⟩|⟨e1,e3,e2⟩<;>simp at e1<;>(try simp at e3)<;>subst e2<;>simp[binOp,Op.intCmp]<;>omega
    ·rcases hs hr with⟨e1,e2⟩|⟨e1,e3,e2⟩<;>simp at e1<;>(try simp at e3)<;>subst e2<;>simp[binOp,Op.intCmp]<;>omega
    ·rcases hs hr with⟨e1,e2⟩|⟨e1,e3,e2⟩<;>simp at e1<;>(try simp at e3)<;>subst e2<;>simp[binOp,Op.intCmp]<;>omega
    ·rcases hs hr with⟨e1,e2⟩|⟨e1,e3,e2⟩<;>simp at e1<;>(try simp at e3)<;>subst e2<;>simp[binOp,Op.intCmp]<;>omega
    ·obtain⟨e1,e2⟩:=ht hr;subst e1;simp at e2;simp[binOp,Op.intCmp];omega
    ·obtain⟨e1,e2⟩:=ht hr;subst e1;simp at e2;simp[binOp,Op.intCmp];omega
    ·cases hr
   ·unfold Pt at h
    split at h
    ·cases hd:decide (lo=hi)with
     |false=>rw[hd]at h;exact h.elim
     |true=>
      rw[hd]at h
      have e:lo=hi:=abQ hd
      subst e
      refine⟨_,h,rfl,fun G w u v _ hu hv=>?_⟩
      cases hu with|dv hu=>cases hu with|we _ _ _ a h1 h2=>cases hv with|dv hv=>cases hv with|int=>
      have e:a=lo:=by omega
      subst e
      exact⟨_,by simp[binOp,Op.intArith],.int kx _,by simp,by simp⟩
    ·exact h.elim
 ·rename_i kx a ky lo hi
  cases hk:kx==ky with
  |false=>rw[hk]at h;exact h.elim
  |true=>
   rw[hk]at h
   have AL:kx=ky:=by simpa using hk
   subst AL
   simp only[cond_true]at h
   split at h
   ·obtain⟨e,h⟩:=h
    subst e
    refine⟨_,h,rfl,fun G w u v _ hu hv=>?_⟩
    cases hu with|dv hu=>cases hu with|int=>cases hv with|dv hv=>cases hv with|we _ _ _ b h1 h2=>
    have e:b=lo:=by omega
    subst e
    exact⟨_,by simp[binOp,Op.intArith],.int kx _,by simp,by simp⟩
   ·exact h.elim
 ·cases hk:(nth T t).ok&&Nat.beq (nth T t).kind 5 with
  |false=>rw[hk]at h;exact h.elim
  |true=>
   rw[hk]at h
   simp only[aca]at hk
   obtain⟨e,hu⟩:=GC hT hk.1 hk.2
   have fin:∀{r:Bool},ret (.dv (.bool r))->(∀(w:World),(binOp op t (.pointer none) (.pointer none)).run P w=.ok (.bool r) w)->∃r,ret (.dv r)/\r.ai=true/\∀(G:Gh) (w:World) (u v:Value),gd=true->aH G (.dv .ez) u->aH G (.dv .ez) v->
    ∃y,(binOp op t u v).run P w=.ok y w/\bz G.M r y/\¬(u=.nilIface/\v=.nilIface)/\∀cs ds,¬(u=.agg cs/\v=.agg ds):=by
    intro r hr hh
    refine⟨_,hr,rfl,fun G w u v _ hu hv=>?_⟩
    cases hu with|dv hu=>cases hu with|ez=>cases hv with|dv hv=>cases hv with|ez=>
    exact⟨_,hh w,.bool _,by simp,by simp⟩
   simp only[cond_true]at h
   split at h
   ·exact fin h fun w=>v8 hu _
   ·exact fin h fun w=>wa hu _
   ·exact h.elim
 ·cases hk:(nth T t).ok&&Nat.beq (nth T t).kind 5&&qD x0 with
  |false=>rw[hk]at h;exact h.elim
  |true=>
   rw[hk]at h
   simp only[aca]at hk
   obtain⟨e,hu⟩:=GC hT hk.1.1 hk.1.2
   have fin:∀{r:Bool},ret (.dv (.bool r))->(∀(w:World) (A:Addr),(binOp op t (.pointer (some A)) (.pointer none)).run P w=.ok (.bool r) w)->∃r,ret (.dv r)/\r.ai=true/\∀(G:Gh) (w:World) (u v:Value),gd=true->aH G x0 u->aH G (.dv .ez) v->
    ∃y,(binOp op t u v).run P w=.ok y w/\bz G.M r y/\¬(u=.nilIface/\v=.nilIface)/\∀cs ds,¬(u=.agg cs/\v=.agg ds):=by
    intro r hr hh
    refine⟨_,hr,rfl,fun G w u v _ hu hv=>?_⟩
    cases hv with|dv hv=>cases hv with|ez=>
    obtain⟨A,rfl⟩:=MF hk.2 hu
    exact⟨_,hh w A,.bool _,by simp,by simp⟩
   simp only[cond_true]at h
   split at h
   ·exact fin h fun w A=>v8 hu _
   ·exact fin h fun w A=>wa hu _
   ·exact h.elim
 ·exact h.elim
end
end
end Go.TM
