import Derived.Test.YtmojfblpbcficaaGreatDoorUM14
import Derived.LoopNIn
import Derived.Test.YtmojfblpbcficaaGreatDoorUM13
set_option linter.all false
namespace Go.TM
section
open Go.RowKit
variable [cj]
theorem Xq:∀N:Nat,(∀a b:DV,SizeOf.sizeOf a<N->N9 a b=true->a=b)/\(∀l r:List DV,SizeOf.sizeOf l<N->AH l r=true->l=r):=by
 intro N
 induction N with
 |zero=>grind
 |succ N ih=>
  refine⟨fun a b bP h=>?_,fun l r bP h=>?_⟩
  ·cases a<;>cases b<;>simp only[N9]at h<;>(try cases h)<;>(try rfl)
   all_goals(try simp[adT]at h)
   ·grind [yB]
   ·grind [yB]
   ·grind
   ·grind
   ·grind [Nat.eq_of_beq_eq_true]
   ·grind [Nat.eq_of_beq_eq_true]
   ·grind [Nat.eq_of_beq_eq_true]
   ·grind
   ·grind [Nat.eq_of_beq_eq_true]
   ·grind
   ·grind [La]
   grind
  ·cases l with
   |nil=>grind [AH]
   |cons a l=>cases r with
    |nil=>simp[AH]at h
    |cons b r=>
     simp[AH,adT]at h
     grind
theorem Df{a b:DV}(h:N9 a b=true):a=b:=(Xq (SizeOf.sizeOf a+1)).1 a b (by omega) h
theorem Bx:∀{l r:List PS},uW l r=true->l=r
 |[],[],_=>rfl
 |a::l,b::r,h=>by
  simp[uW,adT]at h
  have:a=b:=by
   have h1:=h.1
   cases a<;>cases b<;>simp only[aap]at h1<;>(try cases h1)<;>simp[adT]at h1
   ·simp_all
   grind [Df,Nat.eq_of_beq_eq_true]
  rw[this,Bx h.2]
 |[],_::_,h=>by simp[uW]at h
 |_::_,[],h=>by simp[uW]at h
theorem Xr:∀N:Nat,(∀a b:AV,SizeOf.sizeOf a<N->eqA a b=true->a=b)/\(∀l r:List AV,SizeOf.sizeOf l<N->AI l r=true->l=r):=by
 intro N
 induction N with
 |zero=>grind
 |succ N ih=>
  refine⟨fun a b bP h=>?_,fun l r bP h=>?_⟩
  ·cases a<;>cases b<;>simp only[eqA]at h<;>(try cases h)<;>(try rfl)
   all_goals(try simp[adT]at h)
   ·rw[Df h]
   ·simp_all
   ·grind [Nat.eq_of_beq_eq_true,Bx]
   ·grind [Nat.eq_of_beq_eq_true]
   ·grind [Nat.eq_of_beq_eq_true]
   ·grind
   ·grind
   ·simp_all
   ·simp_all
   simp_all
  ·cases l with
   |nil=>grind [AI]
   |cons a l=>cases r with
    |nil=>simp[AI]at h
    |cons b r=>
     simp[AI,adT]at h
     grind
theorem PW{a b:aw}(h:Bs a b=true):a=b:=by
 cases a<;>cases b<;>simp[Bs]at h<;>(try grind)
 all_goals(try simp[adT]at h)
 ·rename_i l l';rw[(Xr (SizeOf.sizeOf l+1)).2 l l' (by omega) h]
 ·grind [Nat.eq_of_beq_eq_true,Df]
 grind [Nat.eq_of_beq_eq_true,Df]
theorem r8{γ:Type _}(f:Nat->γ){i:Nat}:∀{l:List (Nat×γ)},(∀p,p∈l->p.1≠i)->aF f l i=f i
 |[],_=>rfl
 |p::r,h=>by
  obtain⟨j,x⟩:=p
  simp[aF]
  rw[ah _ _ (fun e=>h (j,x) (by simp) e.symm)]
  exact r8 f fun q hq=>h q (by grind)
theorem By:∀{l:List (Nat×aw)} {p:Nat×aw},p∈l->p.1∈iD l
 |[],p,h=>by grind
 |q::r,p,h=>by
  simp[iD,adp]
  rcases adp.1 h with rfl|h
  ·grind
  ·exact .inr (By h)
theorem yJ{κ:Nat->aw}{rd:List Nat}:∀{l:List (Nat×aw)} {p:Nat×aw},p∈yA κ rd l->p∈l
 |[],p,h=>by assumption
 |q::r,p,h=>by
  simp[yA]at h
  cases hb:iU q.1 rd&& !iU q.1 _&&Bs q.2 _ with
  |true=>rw[hb]at h;exact adq _ (yJ h)
  |false=>
   rw[hb]at h
   rcases adp.1 h with rfl|h
   ·simp
   ·exact adq _ (yJ h)
theorem u3{κ:Nat->aw}{rd:List Nat}:∀{l:List (Nat×aw)} {p:Nat×aw},p∈l->p∈yA κ rd l\/p.1∈rd
 |[],p,h=>by grind
 |q::r,p,h=>by
  simp[yA]
  cases hb:iU q.1 rd&& !iU q.1 _&&Bs q.2 _ with
  |true=>
   simp[adT]at hb
   rcases adp.1 h with rfl|h
   ·grind [nb]
   ·exact u3 h
  |false=>
   rcases adp.1 h with rfl|h
   ·grind
   ·rcases u3 h with h|h
    ·exact .inl (adq _ h)
    grind
theorem u4{κ κ':Nat->aw}{rd:List Nat}(ay:∀i,i∈rd->κ' i=κ i):∀(l:List (Nat×aw)),aF κ' (yA κ rd l)=aF κ' l
 |[]=>rfl
 |q::r=>by
  simp[yA]
  cases hb:iU q.1 rd&& !iU q.1 _&&Bs q.2 _ with
  |false=>obtain⟨j,x⟩:=q;simp[cond_false,aF];rw[u4 ay r]
  |true=>
   simp[cond_true]
   rw[u4 ay r]
   obtain⟨j,x⟩:=q
   simp[adT,adV]at hb
   funext i
   simp[aF]
   by_cases e:i=j
   ·subst e
    rw[bA,r8 _ (fun p hp hpi=>fy hb.1.2 (by grind [By])),ay i (nb hb.1.1),PW hb.2]
   grind [ah]
section
variable {P:Program} {C:dV->Prop} {T:List TI} {ops:List Oper} {n:Nat} {o:Oper} {nx:Nat} {ρ:Nat->AV} {κ:Nat->aw} {k:l9->Nat->Prop}
theorem MF{e:EN}(h:Good P C ops n o nx ρ κ fun e' n'=>e'=e.1/\n'=e.2)(hk:k ⟨e.1.dst,yA κ e.1.reads e.1.box,e.1.reads⟩ e.2):Good P C ops n o nx ρ κ k:=by
 obtain⟨cq,fE,⟨rfl,rfl⟩,h2,h3,h4⟩:=h
 refine⟨_,_,hk,h2,fun p hp=>h3 p (yJ hp),fun F hF ρ' κ' ay g a w dK ak=>?_⟩
 have IW:EA ops o ρ ρ' κ κ' e.1.reads e.1.box:=⟨ay.bX,ay.rows,ay.reads,fun i b hb=>by
  rcases u3 hb with h|h
  ·exact ay.boxes i b h
  ·exact ay.reads i h⟩
 have:=h4 F hF ρ' κ' IW g a w dK ak
 simp[u4 ay.reads]
 grind
theorem MG{ρ':Nat->AV}{l:List (Nat×AV)}{g:dV}{κ':Nat->aw}{a:Act}{w:World}(h:St g n (aF ρ' l) κ' a w):St g n (aF ρ' (Mv l)) κ' a w:=by
 obtain⟨G,ak⟩:=h
 refine⟨G,{ ak with env:=fun t=>?_,sK:=ak.sK }⟩
 have key:∀(l:List _) (x:Value),aK G (aF ρ' l t) x->aK G (aF ρ' (Mv l) t) x:=by
  intro l
  induction l with
  |nil=>intro x h;exact h
  |cons p r ih=>
   obtain⟨j,v⟩:=p
   intro x h
   simp[Mv,aF]at h⊢
   by_cases e:t=j
   ·subst e;rw[bA]at h⊢;exact .opt true v x (fun _=>h) (by simp)
   grind [ah]
 exact key l _ (ak.env t)
theorem IX{e:EN}(hg:cb ρ ops o.guard=some true)(h:Good P C ops n { o with guard:=none } nx ρ κ fun e' n'=>e'=e.1/\n'=e.2)(hk:k ⟨Mv e.1.dst,e.1.box,e.1.reads⟩ e.2):Good P C ops n o nx ρ κ k:=by
 obtain⟨cq,fE,⟨rfl,rfl⟩,h2,h3,h4⟩:=h
 refine⟨_,_,hk,h2,h3,fun F hF ρ' κ' ay g a w dK ak=>?_⟩
 have IW:EA ops { o with guard:=none } ρ ρ' κ κ' e.1.reads e.1.box:=⟨fun t ht=>ay.bX t (by
  unfold Oper.looksAt at ht⊢
  simp only[List.append_nil]at ht
  exact adr.2 (.inl ht)),ay.rows,ay.reads,ay.boxes⟩
 have bG:=h4 F hF ρ' κ' IW g a w dK ak
 obtain⟨G,jw⟩:=ak
 unfold nV at bG⊢
 rw[cE hg ay.bX jw,if_pos rfl]
 have hw:Region.wanted { o with guard:=none } (yielded ops.toArray a.tmps)=true:=rfl
 rw[hw,if_pos rfl]at bG
 exact xU (fun a w h=>MG h) bG
theorem MH{d:Option Nat}(hg:cb ρ ops o.guard=some false){e:EN}(h:PE n nx o.dst=.ok e)(hk:k e.1 e.2):Good P C ops n o nx ρ κ k:=by
 cases hd:o.dst with
 |none=>
  rw[hd]at h
  injection h with h;subst h
  refine⟨_,_,hk,adM _,by simp,fun F hF ρ' κ' ay g a w dK ⟨G,ak⟩=>?_⟩
  unfold nV
  rw[cE hg ay.bX ak]
  simp[hd]
  assumption
 |some d=>
  rw[hd]at h
  obtain⟨au,h⟩:=aB h
  injection h with h;subst h
  rw[Nat.blt_eq]at au
  refine⟨_,_,hk,adM _,by simp,fun F hF ρ' κ' ay g a w dK ⟨G,ak⟩=>?_⟩
  unfold nV
  rw[cE hg ay.bX ak]
  simp[hd]
  exact⟨G,ak.put au (.opt false _ undef (by simp) (fun _=>rfl))⟩
def fA(P:Program)(C:dV->Prop)(ops:List Oper)(n:Nat)(S:ta):Prop:=∀(o:Oper) (nx:Nat) (ρ:Nat->AV) (κ:Nat->aw) (e:EN),(∀i,nx<=i->κ i=.none)->S o nx ρ κ=.ok e->Good P C ops n o nx ρ κ fun e' n'=>e'=e.1/\n'=e.2
theorem yK(hT:fD P T){pol:Nat->Bool}{c:XC}(hX:∀f,Tx (bW P f) (c.X f))(hY:Tx (dQ P) c.Y)(hR:dR P C)(hn:∀i,nx<=i->κ i=.none){e:EN}(hg:o.guard=none)(h:FF T pol c n o nx ρ κ=.ok e):
 Good P C ops n o nx ρ κ fun e' n'=>e'=e.1/\n'=e.2:=by
 obtain⟨r,h1,h⟩:=ad h
 obtain⟨e0,h2,h⟩:=ad h
 injection h with h;subst h
 have g0:Good P C ops n o nx ρ κ fun e' n'=>e'=e0.1/\n'=e0.2:=PV hT hX hY hR hn hg h1 h2 ⟨rfl,rfl⟩
 unfold VK
 cases c.drawn with
 |false=>grind
 |true=>exact MF g0 ⟨rfl,rfl⟩
theorem PX(hT:fD P T){pol:Nat->Bool}{c:XC}(hX:∀f,Tx (bW P f) (c.X f))(hY:Tx (dQ P) c.Y)(hR:dR P C):fA P C ops n (FG T pol c ops n):=by
 intro o nx ρ κ e hn h
 unfold FG at h
 split at h
 ·grind [yK]
 ·rename_i g hg
  unfold PF at h
  split at h
  ·rename_i nQ
   obtain⟨r,h1,h⟩:=ad h
   injection h with h;subst h
   rw[<-hg]at nQ
   exact IX nQ (yK hT hX hY hR hn rfl h1) ⟨rfl,rfl⟩
  ·rename_i nQ
   rw[<-hg]at nQ
   exact MH (d:=none) nQ h ⟨rfl,rfl⟩
  grind
end
end
section
open Go.RowKit
variable [cj]
theorem r9{γ:Type}(f:Nat->γ)(i:Nat)(x:γ):SI f i x=iO f i x:=by
 funext j
 simp[SI,iO]
 by_cases e:j=i
 ·subst e;simp
 ·have hb:Nat.beq j i=false:=by grind [Nat.beq,absurd,Nat.eq_of_beq_eq_true]
  simp_all
theorem ja{γ:Type}(f:Nat->γ):∀l:List (Nat×γ),C1 f l=aF f l
 |[]=>rfl
 |(i,x)::r=>by simp[C1,aF];rw[r9,ja f r]
def TB(g:dV)(n:Nat)(s:XS)(a:Act)(w:World):Prop:=St g n s.ρ s.κ a w/\g.m<=s.nx/\∀i,s.nx<=i->s.κ i=.none
theorem p6{nx fE:Nat}{κ:Nat->aw}{bx:List (Nat×aw)}(hn:∀i,nx<=i->κ i=.none)(hle:nx<=fE)(hb:∀p,p∈bx->p.1<fE):∀i,fE<=i->aF κ bx i=.none:=by
 grind [r8]
section
variable {P:Program} {C:dV->Prop} {T:List TI} {ops:List Oper} {n:Nat} {g:dV}
theorem yL{S:ta}(hS:fA P C ops n S)(Ij:C g){F:Fence}(hF:iR F){Q:Exit->Act->World->Prop}{s':XS}(hQ:∀a w,TB g n s' a w->Q .normal a w):
 ∀(rest:List Oper) (s:XS) (a:Act) (w:World),PG S rest s=.ok s'->TB g n s a w->wpListIn F 0 P ops.toArray Q rest a w
 |[],s,a,w,h,hs=>by injection h with h;subst h;exact hQ a w hs
 |o::rest,s,a,w,h,⟨hs,dK,hn⟩=>by
  simp[PG]at h
  obtain⟨e,h1,h⟩:=ad h
  obtain⟨cq,fE,⟨rfl,rfl⟩,hle,hb,xX⟩:=hS o s.nx s.ρ s.κ e hn h1
  refine qI hF (xX F hF s.ρ s.κ ⟨fun _ _=>rfl,fun _ _=>rfl,fun _ _=>rfl,fun _ _ _=>rfl⟩ g a w ⟨dK,Ij⟩ hs) fun a' w' fY=>?_
  refine yL hS Ij hF hQ rest _ a' w' h ⟨?_,Nat.le_trans dK hle,?_⟩
  ·grind [Db,ja]
  ·simp[Db,ja];grind [p6]
theorem wb{S:ta}(hS:fA P C ops n S){ρ0:Nat->AV}{κ0:Nat->aw}{lo:Nat}{s':XS}{vT:List Rec}:
 ∀(rest done:List Oper) (s:XS) (rs:List Rec),ops=done++rest->rs.length=done.length->lo<=s.nx->
  (∀i,s.nx<=i->s.κ i=.none)->
  s.ρ=acc ρ0 (fun i=>(rs[i]?.map (·.cq.dst)).getD []) (fun _=>true) done.length->s.κ=acc κ0 (fun i=>(rs[i]?.map (·.cq.box)).getD []) (fun _=>true) done.length->
  (∀i r o,rs[i]?=some r->ops[i]?=some o->r.rows=kj (acc ρ0 (fun i=>(rs[i]?.map (·.cq.dst)).getD []) (fun _=>true) i) (acc κ0 (fun i=>(rs[i]?.map (·.cq.box)).getD []) (fun _=>true) i) o/\S3 P C ops n lo o (acc ρ0 (fun i=>(rs[i]?.map (·.cq.dst)).getD []) (fun _=>true) i) (acc κ0 (fun i=>(rs[i]?.map (·.cq.box)).getD []) (fun _=>true) i) r.cq)->
  FH S rest s rs=.ok (s',vT)->
  vT.length=ops.length/\lo<=s'.nx/\(∀i,s'.nx<=i->s'.κ i=.none)/\
   s'.ρ=acc ρ0 (fun i=>(vT[i]?.map (·.cq.dst)).getD []) (fun _=>true) ops.length/\s'.κ=acc κ0 (fun i=>(vT[i]?.map (·.cq.box)).getD []) (fun _=>true) ops.length/\
   ∀i r o,vT[i]?=some r->ops[i]?=some o->r.rows=kj (acc ρ0 (fun i=>(vT[i]?.map (·.cq.dst)).getD []) (fun _=>true) i) (acc κ0 (fun i=>(vT[i]?.map (·.cq.box)).getD []) (fun _=>true) i) o/\S3 P C ops n lo o (acc ρ0 (fun i=>(vT[i]?.map (·.cq.dst)).getD []) (fun _=>true) i) (acc κ0 (fun i=>(vT[i]?.map (·.cq.box)).getD []) (fun _=>true) i) r.cq
 |[],done,s,rs,E5,hlen,oT,hn,he,hk,bO,h=>by
  grind [FH]
 |o::rest,done,s,rs,E5,hlen,oT,hn,he,hk,bO,h=>by
  simp only[FH]at h
  obtain⟨e,h1,h⟩:=ad h
  obtain⟨cq,fE,⟨rfl,rfl⟩,hle,hb,xX⟩:=hS o s.nx s.ρ s.κ e hn h1
  have rR:∀i,i<rs.length->(rs++[⟨kj s.ρ s.κ o,e.1⟩])[i]?=rs[i]?:=fun i hi=>List.getElem?_append_left hi
  have x3:(rs++[(⟨kj s.ρ s.κ o,e.1⟩)])[done.length]?=some ⟨kj s.ρ s.κ o,e.1⟩:=by grind
  have jR:∀m,m<=done.length->acc ρ0 (fun i=>((rs++[(⟨kj s.ρ s.κ o,e.1⟩)])[i]?.map (·.cq.dst)).getD []) (fun _=>true) m=acc ρ0 (fun i=>(rs[i]?.map (·.cq.dst)).getD []) (fun _=>true) m:=
   fun m hm=>sS _ _ _ m fun i hi=>by grind
  have lZ:∀m,m<=done.length->acc κ0 (fun i=>((rs++[(⟨kj s.ρ s.κ o,e.1⟩)])[i]?.map (·.cq.box)).getD []) (fun _=>true) m=acc κ0 (fun i=>(rs[i]?.map (·.cq.box)).getD []) (fun _=>true) m:=
   fun m hm=>sS _ _ _ m fun i hi=>by grind
  refine wb hS rest (done++[o]) (Db s e) (rs++[⟨kj s.ρ s.κ o,e.1⟩]) (by grind) (by simp[hlen]) (Nat.le_trans oT hle) (by simp[Db,ja];exact p6 hn hle hb) ?_ ?_ ?_ h
  ·simp only[Db,ja]
   rw[adv]
   simp[List.length_cons,List.length_nil,acc,if_true]
   rw[jR _ (adM _),x3,<-he];rfl
  ·simp only[Db,ja]
   rw[adv]
   simp[List.length_cons,List.length_nil,acc,if_true]
   rw[lZ _ (adM _),x3,<-hk];rfl
  ·intro i r o' hr mj
   rcases adC i rs.length with au|gV
   ·rw[rR i au]at hr
    rw[jR i (by omega),lZ i (by omega)]
    exact bO i r o' hr mj
   ·have hi:i=done.length:=by
     have:=(W8.1 hr).1
     simp at this;omega
    subst hi
    rw[x3]at hr
    injection hr with hr
    subst hr
    rw[E5]at mj
    simp at mj
    subst mj
    rw[jR _ (adM _),lZ _ (adM _),<-he,<-hk]
    exact⟨rfl,xX.lo oT⟩
end
section
variable {κ κ':Nat->aw} {m:Nat}
theorem PY:∀N:Nat,(∀v:AV,SizeOf.sizeOf v<N->fO m κ κ' (kl m κ v) v)/\(∀l:List AV,SizeOf.sizeOf l<N->dZ m κ κ' (lJ m κ l) l):=by
 intro N
 induction N with
 |zero=>grind
 |succ N ih=>
  refine⟨fun v bP=>?_,fun l bP=>?_⟩
  ·cases v with
   |any=>exact trivial
   |dv d=>exact DV.Le.refl d
   |ptr i off=>rfl
   |eN i=>rfl
   |sle i k=>rfl
   |own i ver ep p=>
    cases hn:kl m κ _ with
    |own j a b q=>
     assumption
    |any=>exact trivial
    |_=>
     grind [kl,Nat.beq,emp]
   |cz i ver=>
    cases hn:kl m κ _ with
    |cz j a=>assumption
    |any=>exact trivial
    |_=>
     simp[kl]at hn
     split at hn
     ·rename_i v' e' d hk
      cases hb:Nat.beq ver v'<;>rw[hb]at hn<;>cases hn
     ·cases hn
   |loc i ver ep p a b c=>
    cases hn:kl m κ _ with
    |loc j a b q x y z=>assumption
    |any=>exact trivial
    |_=>
     simp only[kl]at hn
     split at hn
     ·rename_i v' e' d hk
      cases hb:Nat.beq ver v'&&(emp p||Nat.beq ep e')<;>rw[hb]at hn<;>cases hn
     ·cases hn
   |pre i ver ep p a b c=>
    cases hn:kl m κ _ with
    |pre j a b q x y z=>assumption
    |any=>exact trivial
    |_=>
     simp only[kl]at hn
     split at hn
     ·rename_i v' e' d hk
      cases hb:Nat.beq ver v'&&(emp p||Nat.beq ep e')<;>rw[hb]at hn<;>cases hn
     ·cases hn
   |fn f l=>exact⟨rfl,ih.2 l (by grind)⟩
   |kC f l=>exact⟨rfl,ih.2 l (by grind)⟩
   |agg l=>exact ih.2 l (by grind)
   |gr l=>exact ih.2 l (by grind)
   |opt g v=>exact trivial
  ·cases l with
   |nil=>exact trivial
   |cons v l=>exact⟨ih.1 v (by grind),ih.2 l (by grind)⟩
theorem sa(l:List AV):dZ m κ κ' (lJ m κ l) l:=(PY (SizeOf.sizeOf l+1)).2 l (by omega)
theorem TC{i:Nat}:o8 m κ κ' i (κ i) (nB m κ i (κ i)):=by
 cases h:κ i with
 |none=>exact trivial
 |dead=>exact trivial
 |cells l=>exact sa l
 |tree v e d=>exact⟨rfl,rfl⟩
 |fz v d=>exact⟨rfl,DV.Le.refl d⟩
 |dr rc st l=>exact⟨rfl,rfl,sa l⟩
 |held=>exact trivial
 |lj _ _ _ _ _=>exact trivial
theorem Ld:∀(l:List Nat),pb m κ κ' (nK m κ l)
 |[]=>trivial
 |i::r=>⟨TC,Ld r⟩
end
section
variable {P:Program} {T:List TI} {n:Nat} {g:dV} {ρ:Nat->AV} {κ:Nat->aw} {a:Act} {w:World} {G:Gh}
theorem Dg:∀{OZ:List ResultVar} {jU:List AV} {q:List AV->Prop},FB T ρ κ OZ=.ok jU->q jU->Fi T ρ κ OZ q
 |[],jU,q,h,hq=>by injection h with h;subst h;exact hq
 |.tmp t::r,jU,q,h,hq=>by
  simp[FB]at h
  obtain⟨l,h1,h⟩:=ad h
  injection h with h;subst h
  simp[Fi,force_eq]
  exact Dg h1 hq
 |.cell t ty::r,jU,q,h,hq=>by
  simp[FB]at h
  obtain⟨hb,h⟩:=aB h
  simp[Fi,hb,cond_true]
  split at h
  ·rename_i i off hr
   split at h
   ·rename_i l hk
    obtain⟨v,h1,h⟩:=ad h
    obtain⟨vs,h2,h⟩:=ad h
    injection h with h;subst h
    simp[hr,hk]
    exact tg h1 (Dg h2 hq)
   grind
  grind
theorem cB.out{m:Nat}{K:ae}{w0:World}{G0:Gh}(hg:g=⟨fun b=>∃i,cD G0 i (aa K i) b,w0,G0.M,m,G0.β,fun i p=>G0.H i 0 0 p⟩)(ak:cB g n ρ κ a w G){fuel:Nat}{jU:List AV}{us:List Value}{r:uV}(hx:Px fuel m κ jU=.ok r)(hrel:ck G jU us)
 {v:Value} (wX:∀d u,r.1=[d]->us=[u]->v=u) (aat:us.length≠1->v=.tuple us.toArray):∃rs K' G',(rs=r.1/\K'=r.2.1)/\Ml m r.2.2 (aa K) w0 G0 rs (aa K') w G' v:=by
 obtain⟨fI,hx⟩:=aB hx
 injection hx with hx;subst hx
 generalize hK:nK m κ _=K2 at*
 simp[pK,adT]at fI
 obtain⟨⟨⟨Fl,O0⟩,fb⟩,oU⟩:=fI
 have KJ:=by
  have:=Ld (m:=m) (κ:=κ) (κ':=aa K2) (FA κ fuel (lF 0 m++AV.uU (lJ m κ jU)) [])
  rwa[hK]at this
 obtain⟨G2,_,Ol,OX⟩:=ak.sub (by grind) Fl (fun i hi=>adr.2 (.inr hi)) fb oU KJ
 have aO:=Ol _ jU us (sa jU) O0 (fun i hi=>adr.2 (.inl hi)) hrel
 have kn:=OX (fun _=>.any) (fun _=>.any _)
 subst hg
 refine⟨_,_,G2,⟨rfl,rfl⟩,kn.fit,fun i hi=>nh Fl hi,?_,kn.mem,kn.fm,kn.uw,fun b hb hO=>⟨kn.xc b hb (fun⟨i,h⟩=>hO i h),kn.mM b hb (fun⟨i,h⟩=>hO i h)⟩,kn.fV,kn.os,kn.tape,kn.output,kn.grow⟩
 have wT:=aO.1.symm
 generalize yM:lJ m κ jU=rs at*
 have many:us.length≠1->aK G2 (.gr rs) v:=by
  intro cF
  rw[aat cF]
  exact .gr rs us aO.1 aO.2
 match rs,aO,wT,many,wX with
 |[],aO,wT,many,_=>exact many (by grind)
 |[d],aO,wT,_,wX=>
  match us,wT,aO with
  |[u],_,aO=>rw[wX d u rfl rfl];exact aO.2 0 d u rfl rfl
 |_::_::_,aO,wT,many,_=>exact many (by grind)
end
end
section
open Go.RowKit
variable [cj]
theorem u5:∀(env:Env),look env=aF (fun _=>.any) env
 |[]=>rfl
 |(i,b)::K=>by
  funext t
  simp only[look,aF,iO,u5 K]
  by_cases h:t=i
  ·subst h;simp
  simp_all [beq_false]
def MI(P:Program)(go:js):Prop:=∀(r:Bool) (n:Nat) (c:Code) (s:XS) (e:AX) (s':XS),go r n c s=.ok (e,s')->∀(F:Fence),iR F->(r=true->F=Fence.wide)->∀(g:dV) (a:Act) (w:World) (R:Exit->Act->World->Prop),
 TB g n s a w->(∀a w,TB g n s' a w->R (uI e) a w)->c.wpIn F 0 P R a w
section
variable {P:Program} {T:List TI} {go:js}
theorem yN(hT:fD P T)(EE:MI P go)(fe:∀(g:Nat) (fn:Func),P.funcs[g]?=some fn->(fn.name== "runtime.NumGoroutine")=false)(f g:Nat):Tx (bW P g) (FI P T go f g):=by
 intro args m K r hx
 obtain⟨fn,hf,hx⟩:=ad hx
 obtain⟨c,hb,hx⟩:=ad hx
 have hf:=aS hf
 have hb:=aS hb
 obtain⟨cK,hx⟩:=aB hx
 have hx:((go true fn.ntmps c (od m (dt 0 args) K)).bind fun q=>IS T f m fn q)=.ok r:=by
  unfold aaq at hx
  grind
 obtain⟨⟨e,s'⟩,bG,hx⟩:=ad hx
 refine⟨⟨fn,hf,fe g fn hf,by grind⟩,fun w G vs mq cP hr=>?_⟩
 refine(iF.calls (n:=0)).1 (callsIn_of_wp_marks hf hb trivial ?_)
 simp[adT,cQ.wf]at cK
 obtain⟨hlen,hwB,hwE⟩:=cK
 have hlen:vs.length<=fn.ntmps:=by rw[<-hr.1];simp_all
 let g0:dV:=⟨fun b=>∃i,cD G i (aa K i) b,w,G.M,m,G.β,fun i p=>G.H i 0 0 p⟩
 have ak:cB g0 fn.ntmps (look (dt 0 args)) (aa K) { tmps:=vs.toArray++Array.replicate (fn.ntmps-vs.toArray.size) undef,defers:=[] } w G:=by
  refine { fit:=cP,env:=fun t=>?_,size:=by grind,xc:=fun _ _ _=>rfl,os:=rfl,tape:=rfl,output:=rfl,grow:=adM _,mem:=.refl G.M,mM:=fun _ _ _=>rfl,fV:=fun i b ho=>.inr ⟨i,ho⟩,fm:=fun _ _=>rfl,uw:=fun _ _ _ _ hx=>hx,o5:=mq,sK:=⟨[],rfl,List.nodup_nil,by simp⟩ }
  rw[pN]
  simp only[adx,if_true,Nat.sub_zero]
  split
  ·rename_i d hd
   have ht:t<vs.length:=by rw[<-hr.1];grind
   have:(vs.toArray++Array.replicate (fn.ntmps-vs.toArray.size) undef).getD t undef=vs[t]'ht:=by
    simp_all [adt,Array.getElem?_append_left]
   rw[this]
   exact hr.2 t d _ hd (IF ht)
  ·exact .any _
 have ED:TB g0 fn.ntmps (od m (dt 0 args) K) { tmps:=vs.toArray++Array.replicate (fn.ntmps-vs.toArray.size) undef,defers:=[] } w:=by
  refine⟨⟨G,?_⟩,adM _,?_⟩
  ·grind [od,ja,u5,iu]
  ·simp[od,ja,<-iu];grind [nh]
 refine EE true fn.ntmps c _ e s' bG Fence.wide iF (fun _=>rfl) g0 _ w _ ED fun a w' hs=>?_
 obtain⟨⟨G1,jw⟩,_⟩:=hs
 have fin:((FB T s'.ρ s'.κ fn.results.toList).bind fun jU=>Px f m s'.κ jU)=.ok r->LeavesInM Fence.wide 0 P fn a.tmps (fun e w'=>∃v rs K' G',e=.returned v/\(rs=r.1/\K'=r.2.1)/\Ml m r.2.2 (aa K) w G rs (aa K') w' G' v) a.defers .returning w':=by
  intro hZ
  obtain⟨jU,h1,h2⟩:=ad hZ
  obtain⟨D,hD,_⟩:=jw.sK
  rw[hD]
  refine cB.leave a.tmps (fun w2 rU=>?_) D w' (by rwa[<-hD])
  obtain⟨ade,us,hq,Vp,hrel⟩:=xh hT rU (Dg h1 rfl)
  subst hq
  refine⟨_,pP Vp,?_⟩
  obtain⟨rs,K',G',e1,e2⟩:=cB.out rfl rU h2 hrel (v:=if h:us.toArray.size=1 then us.toArray[0]else .tuple us.toArray) (fun d u _ hu=>by grind) (fun cF=>by grind)
  exact⟨_,rs,K',G',rfl,e1,e2⟩
 unfold IS at hx
 cases e with
 |normal=>exact fin hx
 |ret=>exact fin hx
 |exit i=>grind
theorem MJ(EE:MI P go)(f:Nat):Tx (dQ P) (IT go f):=by
 intro args m K r hx
 unfold IT at hx
 split at hx
 ·rename_i rc l h0
  obtain⟨fI,hx⟩:=aB hx
  obtain⟨⟨e1,s1⟩,aau,hx⟩:=ad hx
  intro w G vs mq cP hr
  simp[adT]at fI
  obtain⟨⟨⟨W6,kF⟩,EC⟩,O9⟩:=fI
  have EC:=by simpa using EC
  have hb:=cP.box 0
  rw[h0]at hb
  obtain⟨b,fn,tmps,D,o9,hw,jQ⟩:=hb
  have bP:=by have:=jQ.1;simp at this;exact this.symm
  have hvl:vs.toArray.size=rc.ps.size:=by rw[List.size_toArray,<-hr.1];simp_all
  refine⟨b,o9,fn,_,rc.as,rc.bd,w,run_yield hw hvl,roundIn_of_wpIn trivial ?_⟩
  have Pk:(rc.ps.zip vs.toArray).foldl (fun tm (pv)=>tm.setIfInBounds pv.1 pv.2) tmps=(rc.ps.toList.zip vs).foldl (fun tm (pv)=>tm.setIfInBounds pv.1 pv.2) tmps:=by
   rw[<-Array.foldl_toList,Array.toList_zip]
  let g:dV:=⟨fun b=>∃i,cD G i (aa K i) b,w,G.M,m,G.β,fun i p=>G.H i 0 0 p⟩
  have Ir:∀t,aK G (look (rW 0 l) t) (tmps.getD t undef):=fun t=>by
   have:=uP l 0 t
   rw[Nat.zero_add]at this
   rw[this]
   split
   ·rename_i v hv
    refine jQ.2 t v _ hv ?_
    rw[adt,Array.getElem?_toList,adS (by grind)];rfl
   ·exact .any _
  have ak:cB g l.length _ (aa K) { tmps:=(rc.ps.toList.zip vs).foldl (fun tm (pv)=>tm.setIfInBounds pv.1 pv.2) tmps,defers:=[] } w G:=
   {fit:=cP,env:=C0 (fun p hp=>by rw[bP];exact uQ kF p hp) hr Ir,size:=by grind [Bn],xc:=fun _ _ _=>rfl,os:=rfl,tape:=rfl,output:=rfl,grow:=adM _,mem:=.refl G.M,mM:=fun _ _ _=>rfl,fV:=fun i b ho=>.inr ⟨i,ho⟩,fm:=fun _ _=>rfl,uw:=fun _ _ _ _ hx=>hx,o5:=mq,sK:=⟨[],rfl,List.nodup_nil,by simp⟩ }
  rw[Pk]
  have dI:∀i,m<=i->aa K i=.none:=fun i hi=>by
   rcases gu with h'|h'
   ·omega
   ·have:=c8 O9 i (adK.2 ⟨_,h',rfl⟩);omega
  have ED:TB g l.length (od m (AD rc.ps.toList args (rW 0 l)) K) { tmps:=(rc.ps.toList.zip vs).foldl (fun tm (pv)=>tm.setIfInBounds pv.1 pv.2) tmps,defers:=[] } w:=by
   refine⟨⟨G,?_⟩,adM _,?_⟩
   ·grind [od,ja,u5,iu]
   simp_all [od,ja,iu]
  refine EE false l.length rc.as _ e1 s1 aau _ (wide_round b) (nofun) g _ w _ ED fun a1 w1 hs=>?_
  cases e1 with
  |ret=>grind
  |exit i=>grind
  |normal=>
   simp at hx
   unfold K5 at hx
   split at hx
   ·rename_i rc1 l1 qM
    obtain⟨⟨e2,s2⟩,aav,hx⟩:=ad hx
    obtain⟨⟨G1,st1⟩,eG,SE⟩:=hs
    obtain⟨rr,SC,SF,Ms,lC,_⟩:=st1.uO qM (by rwa[st1.fm 0 EC])
    have Fx:=lC .busy
    have Pl:({ rr with state:=Al.busy.st,pending:=Al.busy.Aw })={ rr with state:=.busy }:=by
     grind [Al.st,Al.Aw]
    rw[Pl]at Fx
    refine⟨_,(run_beginRound (P:=P) SC SF),?_⟩
    refine EE false l.length rc.bd _ e2 s2 aav _ (wide_round b) (nofun) g _ _ _ ⟨⟨G1,by grind [r9]⟩,eG,fun i hi=>by
     simp[r9]
     grind [ah]⟩ fun a2 w2 lZ=>?_
    unfold K4 at hx
    split at hx
    ·rename_i rc2 l2 SH
     obtain⟨⟨G2,st2⟩,_,_⟩:=lZ
     obtain⟨r2,Vu,_,_,Pm,_⟩:=st2.uO SH (by rwa[st2.fm 0 EC])
     rw[r9]at hx
     obtain⟨rs,K',G',q1,q2⟩:=cB.out rfl (Pm (ry e2)) hx (us:=[.bool _]) ⟨rfl,fun j d v hd hv=>by
      cases j with
      |zero=>simp at hd hv;subst hd;subst hv;exact .dv (.bool _)
      |succ j=>simp at hd⟩ (fun d u _ hu=>by injection hu) (nofun)
     have iV:=run_endRound (P:=P) (nU e2) Vu
     cases e2 with
     |normal=>exact⟨_,_,iV,_,rs,K',G',rfl,q1,q2⟩
     |ret=>exact⟨_,_,iV,_,rs,K',G',rfl,q1,q2⟩
     |exit i=>exact⟨_,_,iV,_,rs,K',G',rfl,q1,q2⟩
    grind
   grind
 grind
end
end
section
open Go.RowKit
variable [cj]
section
variable {P:Program} {T:List TI} {go:js}
theorem yO(hT:fD P T)(EE:MI P go)(fe:∀(g:Nat) (fn:Func),P.funcs[g]?=some fn->(fn.name== "runtime.NumGoroutine")=false){fuel n nx:Nat}{ρ:Nat->AV}{κ:Nat->aw}{x:Operand}{ps:Array Tmp}{as bd:Code}{f:Nat}{bQ:List AV}{e:AX}{s':XS}
 (h:xk P T go fuel nx ρ (SI κ nx (.dr ⟨ps,as,bd⟩ .ready (bX ρ 0 n))) f bQ=.ok (e,s')) {g:dV} {a:Act} {w:World} {R:Exit->Act->World->Prop} {G:Gh} (ak:cB g n ρ κ a w G) (dK:g.m<=nx) (hn:∀i,nx<=i->κ i=.none)
 {vs:List Value} (hx:a.eval x=.func (.func f) #[] vs.toArray) (jQ:ck G bQ vs) (hR:∀a w,TB g n s' a w->R (uI e) a w):(Code.rangeFunc x ps as bd).wpIn Fence.wide 0 P R a w:=by
 rw[r9]at h
 generalize hκ1:iO κ nx _=κ1 at h
 unfold xk at h
 obtain⟨q,hq,h⟩:=ad h
 unfold s6 IP IN at hq
 generalize FA κ1 fuel _ []=σ at hq
 obtain⟨fI,hq⟩:=aB hq
 obtain⟨r,iT,hq⟩:=ad hq
 unfold IL at hq
 obtain⟨Zr,hq⟩:=aB hq
 injection hq with hq;subst hq
 have jX:=yN hT EE fe fuel f _ _ _ r iT
 simp[adT]at fI
 refine wpIn_rangeFunc fun fn _=>?_
 obtain⟨st1,hle⟩:=ak.enterLoop (hn nx (adM _)) dK ⟨ps,as,bd⟩ fn
 rw[hκ1]at st1
 have Ct:∀i,i<g.m->iO G.β nx (some (w.heap.size+1)) i=g.β i:=fun i hi=>by rw[ah _ _ (by omega)];exact ak.fm i hi
 have SE:∀i,nx+1<=i->κ1 i=.none:=fun i hi=>by rw[<-hκ1,ah _ _ (by omega)];grind
 have hrel:=by
  have h1:ck { G with β:=iO G.β nx _ } [.eN nx] [.func (.yield (w.heap.size+1)) #[] #[]]:=
   ⟨rfl,fun j d v hd hv=>by
    cases j with
    |zero=>simp at hd hv;subst hd;subst hv;exact .eN nx _ (bA _ _ _)
    |succ j=>grind⟩
  exact h1.append (jQ.mono hle)
 obtain⟨β,_,bG⟩:=oa (hd:=none) (lG P f) jX.2 SE (by grind) (qP _) (yG σ [] rfl) (fun rs K1 hr=>by grind) (sZ fI.2) (adM _) (st1.upto (nx+1)) hrel (fun _ _=>rfl)
 refine⟨w.heap.size+1,[mark w.heap.size],_,⟨.fn (.func f) vs.toArray,#[.func (.yield (w.heap.size+1)) #[] #[]]⟩,((w.alloc (.deferred (some []))).alloc (.loop { state:=.ready,pending:=none,fn:=fn,tmps:=a.tmps,params:=ps,assign:=as,body:=bd,defers:=w.heap.size })),f,(Value.func (.yield (w.heap.size+1)) #[] #[]::vs).toArray,((w.alloc (.deferred (some []))).alloc (.loop { state:=.ready,pending:=none,fn:=fn,tmps:=a.tmps,params:=ps,assign:=as,body:=bd,defers:=w.heap.size })),run_enterLoop_outer fn a.tmps ps as bd,?_,fun _ _=>trivial,?_,(nofun),?_⟩
 ·simp_all [Array.map,Act.eval,resolve,rangeCall,Deferred.ofValue,Sem.run_pure]
 ·have:(#[Value.func (.yield (w.heap.size+1)) #[] #[]]++vs.toArray)=(Value.func (.yield (w.heap.size+1)) #[] #[]::vs).toArray:=by simp
  simp only[invoke]
  rw[this]
  exact iQ jX.1 _ _
 ·refine(iF.calls).2 (Calls.mono bG ?_)
  rintro e2 w2 ⟨v,rs,K2,G3,rfl,⟨rfl,rfl⟩,Fp,_⟩
  have A2:∀i,nx+1+r.2.2<=i->aF κ1 (bZ (sg σ (nx+1)) (km κ1 σ) r.2.1++mc κ1 (dB κ1 (dT (sg σ (nx+1)) dz (Mu κ1 σ (.eN nx::bQ))) (.eN nx::bQ)++dS κ1 (bZ (sg σ (nx+1)) dz (Xf κ1 σ 0 σ)))) i=.none:=by
   refine p6 SE (Nat.le_add_right _ _) fun p hp=>?_
   have IA:=by
    have:=Zr
    simp[gw,adT]at this
    exact this.1.1.2
   have hσ1:=by
    have:=fI.1.1
    simp[gW,adT]at this
    exact(jA this.1.1.1.1.1.1).1
   rcases adr.1 hp with hp|hp
   ·obtain⟨j,h1,h2⟩:=nj hp
    have hj:=c8 IA j h1
    grind [Nat.lt_or_ge,np,List.getElem_mem,sg,mr]
   ·have:=uA SE hp;omega
  unfold K8 at h
  simp[ja]at h
  generalize hκ3:aF κ1 (bZ (sg σ (nx+1)) (km κ1 σ) r.2.1++mc κ1 (dB κ1 (dT (sg σ (nx+1)) dz (Mu κ1 σ (.eN nx::bQ))) (.eN nx::bQ)++dS κ1 (bZ (sg σ (nx+1)) dz (Xf κ1 σ 0 σ))))=κ3 at*
  have fin:∀(HS:RC) (st:Al) (l:List AV),κ3 nx=.dr HS st l->st.st≠.busy->st.Aw=nU e->s'=⟨nx+1+r.2.2,ρ,SI κ3 nx .dead⟩->rangePost Fence.wide 0 P (w.heap.size+1) R { a with defers:=[mark w.heap.size]++a.defers } (.returned v) w2:=by
   intro HS st l hk hb hp fY
   obtain⟨rr,h1,h2,h3,_,Pg⟩:=Fp.uO hk ((Fp.fm nx (Nat.lt_succ_self nx)).trans (bA _ _ _))
   have st4:=(Pg (.loop { rr with state:=.exhausted })).Pf (Nat.le_succ_of_le dK) Ct
   have hs4:TB g n s' { a with defers:=[mark w.heap.size]++a.defers } (w2.putObj (w.heap.size+1) (.loop { rr with state:=.exhausted })):=by
    subst fY
    exact⟨⟨G3,by grind [r9]⟩,by grind,fun i hi=>by
     have H0:nx+1+r.2.2<=i:=hi
     simp[r9];grind [ah]⟩
   have pd:=hR _ _ hs4
   refine⟨rr.pending,_,run_endLoop h1 (by grind),?_⟩
   have Bm:=h3.trans hp
   rw[Bm]at pd
   rw[Bm]
   cases e with
   |normal=>exact pd
   |ret=>exact wpIn_ret pd
   |exit i=>exact wpIn_exit pd
  unfold Bt at h
  split at h
  ·rename_i HS st l hk
   split at h
   ·injection h with h
    injection h with h1 h2
    exact fin HS .ready l hk (by simp[Al.st]) (by rw[<-h1];rfl) h2.symm
   ·rename_i e'
    injection h with h
    injection h with h1 h2
    exact fin HS (.done e') l hk (by simp[Al.st]) (by rw[<-h1];rfl) h2.symm
   ·cases h
  grind
theorem MK(hT:fD P T)(hm:P.follows .mixedOrders=true)(fe:∀(g:Nat) (fn:Func),P.funcs[g]?=some fn->(fn.name== "runtime.NumGoroutine")=false)(pol:Nat->Bool)(f:Nat)(EE:MI P go):MI P (iA P T pol f go):=by
 intro r n c s e s' h F hF hr g a w R hs hR
 have KH:∀(ops:List Oper) (d:Bool),fA P (fun _=>True) ops n (FG T pol (PI P T go f d) ops n):=fun ops d=>PX hT (fun g=>yN hT EE fe f g) (MJ EE f) (fg P)
 cases c with
 |skip=>
  injection h with h;injection h with h1 h2;subst h1;subst h2
  exact wpIn_skip (hR a w hs)
 |region id ops draw=>
  simp[iA]at h
  cases draw with
  |false=>
   simp[K6]at h
   obtain⟨s1,h1,h⟩:=ad h
   injection h with h;injection h with e1 e2;subst e1;subst e2
   refine wpIn_region_list ?_
   have:=yL (KH ops.toList false) trivial hF hR ops.toList s a w h1 hs
   simp_all
  |true=>
   simp[FJ]at h
   obtain⟨⟨s1,rs⟩,h1,h⟩:=ad h
   obtain⟨CK,h⟩:=aB h
   injection h with h;injection h with e1 e2;subst e1;subst e2
   refine wpIn_region_any hm ?_
   obtain⟨hlen,oT,hn,he,hk,bO⟩:=wb (KH ops.toList true) ops.toList [] s [] rfl rfl (adM _) hs.2.2 rfl rfl (by simp) h1
   have yg:(fun i=>(Array.replicate ops.size false).getD i false)=fun _=>false:=by
    funext i
    simp[adt,Array.getElem?_replicate]
    grind
   have It:St g n s.ρ s.κ a { w with drawn:=w.drawn+1 }:=by
    obtain⟨G,h1⟩:=hs.1
    exact⟨G,h1.drawn _⟩
   have:=Bc trivial hF hs.2.1 CK hlen bO (fun a w ak=>hR a w ⟨by grind,Nat.le_trans hs.2.1 oT,hn⟩) ops.size (Array.replicate ops.size false) a { w with drawn:=w.drawn+1 } (by simp)
    (by grind [CU,Array.replicate])
    (fun i o _ hi=>by rw[congrFun yg i]at hi;grind)
    (by grind [pH])
   simp_all
 |seq x y=>
  simp[iA]at h
  obtain⟨⟨e1,s1⟩,h1,h⟩:=ad h
  refine wpIn_seq (EE r n x s e1 s1 h1 F hF hr g a w _ hs fun a1 w1 jR=>?_)
  unfold aar at h
  cases e1 with
  |normal=>exact EE r n y s1 e s' h F hF hr g a1 w1 _ jR hR
  |ret=>injection h with h;injection h with q1 q2;subst q1;subst q2;exact hR a1 w1 jR
  |exit i=>injection h with h;injection h with q1 q2;subst q1;subst q2;exact hR a1 w1 jR
 |cond x y z=>
  simp[iA]at h
  obtain⟨t,h1,h⟩:=ad h
  obtain⟨G,ak⟩:=hs.1
  have hv:=A4 (x:=x) s.ρ s.κ ⟨fun _ _=>rfl,fun _ _=>rfl⟩ g n a w G ak
  rw[(jC (aS h1))]at hv
  generalize hx:a.eval x=v at hv
  cases hv with|dv hv=>cases hv with|bool=>
  refine wpIn_cond_split hx (fun et=>?_) (fun et=>?_)
  ·subst et;exact EE r n y s e s' h F hF hr g a w _ hs hR
  ·subst et;exact EE r n z s e s' h F hF hr g a w _ hs hR
 |block id c=>
  simp[iA]at h
  obtain⟨⟨e1,s1⟩,h1,h⟩:=ad h
  refine wpIn_block (EE r n c s e1 s1 h1 F hF hr g a w _ hs fun a1 w1 jR=>?_)
  unfold PJ at h
  cases e1 with
  |normal=>injection h with h;injection h with q1 q2;subst q1;subst q2;exact hR a1 w1 jR
  |ret=>injection h with h;injection h with q1 q2;subst q1;subst q2;exact hR a1 w1 jR
  |exit i=>
   simp at h
   simp[uI,Exit.inBlock]
   cases hb:Nat.beq i id with
   |true=>
    rw[hb]at h
    injection h with h;injection h with q1 q2;subst q1;subst q2
    rw[if_pos (ab9 hb)];exact hR a1 w1 jR
   |false=>
    rw[hb]at h
    injection h with h;injection h with q1 q2;subst q1;subst q2
    rw[if_neg (fun e=>by simp_all)]
    exact hR a1 w1 jR
 |exit id=>
  injection h with h;injection h with h1 h2;subst h1;subst h2
  exact wpIn_exit (hR a w hs)
 |ret=>
  injection h with h;injection h with h1 h2;subst h1;subst h2
  exact wpIn_ret (hR a w hs)
 |scope c=>
  simp[iA]at h
  refine yd (EE r n c s e s' h F hF hr g a w _ hs fun a1 w1 jR=>?_)
  cases e with
  |normal=>exact hR a1 w1 jR
  |ret=>exact hR a1 w1 jR
  |exit i=>exact hR a1 w1 jR
 |label l=>
  injection h with h;injection h with h1 h2;subst h1;subst h2
  exact wpIn_label (hR a w hs)
 |loop c=>
  simp[iA]at h
  have key:∀(k:Nat) (s:XS) (a:Act) (w:World),K7 go r n c k s=.ok (e,s')->TB g n s a w->Code.roundsIn F 0 P c R k a w:=by
   intro k
   induction k with
   |zero=>intro s a w h;cases h
   |succ k ih=>
    intro s a w h hs
    simp[K7]at h
    obtain⟨⟨e1,s1⟩,h1,h⟩:=ad h
    refine EE r n c s e1 s1 h1 F hF hr g a w _ hs fun a1 w1 jR=>?_
    cases e1 with
    |normal=>exact ih s1 a1 w1 h jR
    |ret=>simp only at h;injection h with h;injection h with q1 q2;subst q1;subst q2;exact hR a1 w1 jR
    |exit i=>simp only at h;injection h with h;injection h with q1 q2;subst q1;subst q2;exact hR a1 w1 jR
  grind [wpIn_loop_rounds]
 |rangeFunc x ps as bd=>
  simp[iA]at h
  obtain⟨hrt,h⟩:=aB h
  have hFw:=hr hrt
  subst hFw
  obtain⟨⟨G,ak⟩,dK,hn⟩:=hs
  have hv:=A4 (x:=x) s.ρ s.κ ⟨fun _ _=>rfl,fun _ _=>rfl⟩ g n a w G ak
  unfold PK K9 at h
  generalize ev s.ρ s.κ x=vx at h hv
  generalize hx:a.eval x=y at hv
  split at h
  ·cases hv with|fn _ _ vs hl Tc=>exact yO hT EE fe h ak dK hn hx ⟨hl,Tc⟩ hR
  ·split at h
   ·cases hv with|dv hd=>cases hd with|fn _ _ vs hl Tc=>exact yO hT EE fe h ak dK hn hx (ju ⟨hl,Tc⟩) hR
   grind
  grind
 |goto l=>simp[iA]at h
 |refuse w=>simp[iA]at h
theorem FU(hT:fD P T)(hm:P.follows .mixedOrders=true)(fe:∀(g:Nat) (fn:Func),P.funcs[g]?=some fn->(fn.name== "runtime.NumGoroutine")=false)(pol:Nat->Bool):∀f,MI P (PM P T pol f)
 |0=>by intro r n c s e s' h;cases h
 |f+1=>MK hT hm fe pol f (FU hT hm fe pol f)
theorem ML(hT:fD P T)(hm:P.follows .mixedOrders=true)(fe:∀(g:Nat) (fn:Func),P.funcs[g]?=some fn->(fn.name== "runtime.NumGoroutine")=false){pol:Nat->Bool}{f g:Nat}{args:List AV}{m:Nat}{K:ae}{rs:List AV}{K':ae}{ex:Nat}(h:Xk P T pol f g args m K=.ok (rs,K',ex)):aj P g args m K ex rs K':=
 yN hT (FU hT hm fe pol f) fe f g args m K (rs,K',ex) h
end
end
section
open Go.RowKit
variable [cj]
def xfz(r:XR (List AV×ae×Nat)):Option (List DV):=match r with
 |.ok q=>match u6 (aa q.2.1) q.1 with
  |some p=>some p.1
  |none=>none
 |.no _=>none
section
variable {P:Program} {T:List TI}
theorem FV{G:Gh}{ds:List DV}{vs:List Value}(h:eZ G.M ds vs):ck G (yP ds) vs:=by
 refine⟨by rw[xm];simpa using h.1,fun j d v hd hv=>?_⟩
 rw[xm,abW]at hd
 cases hj:ds[j]? with
 |none=>rw[hj]at hd;cases hd
 |some x=>
  rw[hj]at hd
  simp only[Option.map_some,Option.some.injEq]at hd
  subst hd
  exact qJ (h.2 j x v hj hv)
theorem qQ(hT:fD P T)(hm:P.follows .mixedOrders=true)(fe:∀(g:Nat) (fn:Func),P.funcs[g]?=some fn->(fn.name== "runtime.NumGoroutine")=false){pol:Nat->Bool}{fuel f:Nat}{args rs:List DV}(h:xfz (Xk P T pol fuel f (yP args) 0 [])=some rs):aN P f args rs:=by
 cases hx:Xk P T pol fuel f (yP args) 0 []with
 |no y=>rw[hx]at h;simp[xfz]at h
 |ok r=>
  obtain⟨rs0,K',ex⟩:=r
  rw[hx]at h
  simp only[xfz]at h
  split at h
  ·rename_i p hp
   obtain⟨ds,ids⟩:=p
   injection h with h
   subst h
   have hc:=ML hT hm fe hx
   obtain⟨iT,jX⟩:=hc
   refine⟨iT,fun w M vs dw mq hr=>?_⟩
   let G0:Gh:=⟨M,fun _=>none,fun _ _ _ _=>none,fun _ _=>False⟩
   have hc:=jX w G0 vs mq ⟨dw,fun i=>⟨rfl,fun _ _ _=>rfl⟩,fun i b ho=>ho.elim,fun i j b ho=>ho.elim⟩ (FV (G:=G0) hr)
   refine hc.mono ?_
   rintro e w' ⟨v,rs1,K1,G',rfl,⟨rfl,rfl⟩,out⟩
   have dI:∀i b,cD G' i (aa K1 i) b->w.heap.size<=b:=fun i b ho=>by
    rcases out.Fo i b ho with h|⟨j,h⟩
    ·exact h
    ·exact h.elim
   let g:dV:=⟨fun b=>∃i,cD G' i (aa K1 i) b,w',G'.M,0,fun _=>none,fun _ _=>none⟩
   have ak:cB g 0 (fun _=>.any) (aa K1) { tmps:=#[],defers:=[] } w' G':=by
    refine { fit:=out.fit,env:=fun t=>.any _,size:=rfl,xc:=fun _ _ _=>rfl,os:=rfl,tape:=rfl,output:=rfl,grow:=adM _,mem:=.refl _,mM:=fun _ _ _=>rfl,fV:=fun i b ho=>.inr ⟨i,ho⟩,fm:=fun i hi=>absurd hi (Nat.not_lt_zero _),uw:=fun i hi=>absurd hi (Nat.not_lt_zero _),o5:=mq.mono out.le,sK:=⟨[],rfl,List.nodup_nil,by simp⟩ }
   obtain⟨G2,hle,_,_,_,l6⟩:=ak.qE (κ:=aa K1) ids (fun _ _=>rfl)
   refine⟨v,G2.M,rfl,⟨out.os,out.tape,out.output,out.size,fun b hb=>(out.frame b hb (fun i h=>h.elim)).1⟩,out.le.trans hle.mem,l6.fit.sub,fun b hb=>?_,?_⟩
   ·have cx:b<w'.heap.size:=Nat.lt_of_lt_of_le hb out.size
    have e1:G2.M b=G'.M b:=l6.mM b cx fun⟨i,ho⟩=>by have:=dI i b ho;omega
    rw[e1]
    exact(out.frame b hb (fun i h=>h.elim)).2
   ·have key:∀us,ck G' rs1 us->eZ G2.M ds us:=fun us hu=>kE (κ:=aa K1) (κ':=aa K1) (all:=ids) (fun _ _=>rfl) hle l6.fit hp (fun _ h=>h) hu
    have hv:=out.res
    match rs1,hv,key with
    |[],hv,key=>
     cases hv with|gr _ us hl hr=>
     have hd:=key us ⟨hl,hr⟩
     have:us=[]:=by simpa using hl.symm
     subst this
     have:ds=[]:=by have:=hd.1;simpa using this
     subst this
     exact⟨[],rfl,hd⟩
    |[x],hv,key=>
     have hd:=key [v] ⟨rfl,fun j d u h1 h2=>by
      cases j with
      |zero=>simp at h1 h2;subst h1;subst h2;exact hv
      |succ j=>simp at h1⟩
     match ds,hd with
     |[],hd=>have:=hd.1;simp at this
     |[d],hd=>exact hd.2 0 d v rfl rfl
     |_::_::_,hd=>have:=hd.1;simp at this
    |x::y::r,hv,key=>
     cases hv with|gr _ us hl hr=>
     have hd:=key us ⟨hl,hr⟩
     have h2:ds.length=us.length:=hd.1
     match ds,hd,h2 with
     |[],hd,h2=>exfalso;rw[<-h2]at hl;simp at hl
     |[d],hd,h2=>exfalso;rw[<-h2]at hl;simp at hl
     |a::b::c,hd,h2=>exact⟨us,rfl,hd⟩
  ·cases h
end
end
section
open Go.RowKit
variable [cj]
end
section
open Go.RowKit
variable [cj]
inductive FW:aw->aw->Prop
 |refl (b:aw):FW b b
 |omap (v e:Nat) (ks:KS) {m m':List DV} (h:m.Perm m'):FW (.tree v e (.omap ks m)) (.tree v e (.omap ks m'))
def Bz(k k':ae):Prop:=∀i,FW (aa k i) (aa k' i)
theorem Bz.refl(k:ae):Bz k k:=fun _=>.refl _
theorem Bz.cons{i:Nat}{b b':aw}{k k':ae}(h:FW b b')(t:Bz k k'):Bz ((i,b)::k) ((i,b')::k'):=fun j=>by
 simp only[aa]
 cases Nat.beq i j with
 |true=>exact h
 |false=>exact t j
theorem BA{ks:KS}{m m':List DV}(hu:UK m)(hp:m.Perm m')(s:PS)(r:List PS):get (.omap ks m) (s::r)=get (.omap ks m') (s::r):=by
 have hs:step (.omap ks m) s=step (.omap ks m') s:=by
  cases s with
  |el i j=>rfl
  |key k j=>simp only[step,hu.mY hp k]
 simp only[get,hs]
theorem u7{ks:KS}{m m':List DV}(hu:UK m)(hp:m.Perm m'){p:List PS}{n:DV}(h:get (.omap ks m) p=some n)(hn:n.ar=true):∃n',get (.omap ks m') p=some n'/\n'.ar=true:=by
 cases p with
 |nil=>exact⟨_,rfl,rfl⟩
 |cons s r=>exact⟨n,by rw[<-BA hu hp];exact h,hn⟩
theorem bD.Lf{M:Mem}{w:World}{H:List PS->Option Value}{ks:KS}{m m':List DV}(h:bD M w H (.omap ks m))(hp:m.Perm m'):UK m/\bD M w H (.omap ks m'):=by
 obtain⟨v,h1,h2,h3⟩:=h.2 [] _ rfl rfl
 have hu:=cI.uk h3
 refine⟨hu,rfl,fun p n hg hn=>?_⟩
 cases p with
 |nil=>
  have hg:DV.omap ks m'=n:=by simpa[get]using hg
  subst hg
  obtain⟨m0,q,rest⟩:=h3
  exact⟨v,h1,h2,m0,q.trans hp,rest⟩
 |cons s r=>
  rw[<-BA hu hp]at hg
  exact h.2 _ n hg hn
theorem bR.Lf{H:List PS->Option Value}{ks:KS}{m m':List DV}(hu:UK m)(hp:m.Perm m'){b:Nat}(h:bR H (.omap ks m) b):bR H (.omap ks m') b:=by
 obtain⟨p,n,v,h1,h2,h3,h4⟩:=h
 obtain⟨n',e1,e2⟩:=u7 hu hp h1 h2
 exact⟨p,n',v,e1,e2,h3,h4⟩
theorem gD.aaw{G:Gh}{w:World}{i:Nat}{b c:aw}(h:gD G w i b)(p:FW b c):gD G w i c/\∀x,cD G i c x↔cD G i b x:=by
 cases p with
 |refl=>exact⟨h,fun _=>Iff.rfl⟩
 |omap v e ks hp=>
  obtain⟨h1,h2,h3,h4⟩:=h
  obtain⟨hu,ht⟩:=h1.Lf hp
  have ZO:=hu.perm hp
  refine⟨⟨ht,fun p q n m u v b e1 e2 e3 e4 e5 e6 e7 e8=>?_,h3,h4⟩,fun x=>⟨fun o=>bR.Lf ZO hp.symm o,fun o=>bR.Lf hu hp o⟩⟩
  obtain⟨n',a1,a2⟩:=u7 ZO hp.symm e1 e2
  obtain⟨m',b1,b2⟩:=u7 ZO hp.symm e5 e6
  exact h2 p q n' m' u v b a1 a2 e3 e4 b1 b2 e7 e8
theorem sb{P:Program}{f:Nat}{args:List AV}{m:Nat}{K:ae}{ex:Nat}{rs:List AV}{K0:ae}(h:bW P f args m K ex fun r k=>r=rs/\Bz k K0):aj P f args m K ex rs K0:=by
 refine⟨h.1,fun w G vs mq cP hr=>?_⟩
 refine Calls.mono (h.2 w G vs mq cP hr) ?_
 rintro e w' ⟨v,r,k,G',rfl,⟨rfl,hp⟩,hc⟩
 have hb:=fun i=>(hc.fit.box i).aaw (hp i)
 refine⟨v,r,K0,G',rfl,⟨rfl,rfl⟩,{ hc with fit:=⟨hc.fit.sub,fun i=>(hb i).1,fun i b o=>hc.fit.own i b (((hb i).2 b).1 o),fun i j b o o'=>hc.fit.inj i j b (((hb i).2 b).1 o) (((hb j).2 b).1 o')⟩,no:=fun i hi=>?_,Fo:=fun i b o=>hc.Fo i b (((hb i).2 b).1 o) }⟩
 have h1:=hc.no i hi
 have h2:=hp i
 rw[h1]at h2
 generalize aa K0 i=c at h2
 cases h2
 rfl
end
section
open Go.RowKit
theorem oA.gG{a p:Prop}(h:p):(a->a)/\p:=⟨id,h⟩
theorem oB.gG{b:Bool}{a p:Prop}(h:p):(a->b=false->bw b false=true)/\p:=⟨fun _ e=>by subst e;rfl,h⟩
theorem oC.gG{b:Bool}{a p:Prop}(h:p):(a->b=true->bw b true=true)/\p:=⟨fun _ e=>by subst e;rfl,h⟩
theorem oD.gG{a b:Bool}{p:Prop}(h:p):(a=true->a=true/\(b=true->(a&&bw b true)=true))/\p:=⟨fun c=>⟨c,fun e=>by subst c;subst e;rfl⟩,h⟩
theorem oE.gG{a b:Bool}{p:Prop}(h:p):(a=true->a=true/\(b=false->(a&&bw b false)=true))/\p:=⟨fun c=>⟨c,fun e=>by subst c;subst e;rfl⟩,h⟩
variable [cj]
mutual
theorem Lg{m:Nat}{κ κ':Nat->aw}:∀(v w:AV),kl m κ v=w->fO m κ κ' w v
 |.any,_,rfl=>trivial
 |.dv d,_,rfl=>DV.Le.refl d
 |.ptr i o,_,rfl=>rfl
 |.own i v e p,w,h=>by
  simp only[kl]at h
  split at h
  ·rename_i v' e' d hk
   cases hb:Nat.beq v v'&&(emp p||Nat.beq e e')with
   |true=>rw[hb]at h;subst h;show kl m κ (.own i v e p)=_;simp only[kl,hk,hb];rfl
   |false=>rw[hb]at h;subst h;exact trivial
  ·rename_i hk
   cases hb:Nat.beq v 0&&(emp p||Nat.beq e 0)with
   |true=>rw[hb]at h;subst h;show kl m κ (.own i v e p)=_;simp only[kl,hk,hb];rfl
   |false=>rw[hb]at h;subst h;exact trivial
  ·subst h;exact trivial
 |.loc i v e p a b c,w,h=>by
  have h2:=h
  simp only[kl]at h
  split at h
  ·rename_i v' e' d hk
   cases hb:Nat.beq v v'&&(emp p||Nat.beq e e')with
   |true=>rw[hb]at h;subst h;exact h2
   |false=>rw[hb]at h;subst h;exact trivial
  ·subst h;exact trivial
 |.pre i v e p a b c,w,h=>by
  have h2:=h
  simp only[kl]at h
  split at h
  ·rename_i v' e' d hk
   cases hb:Nat.beq v v'&&(emp p||Nat.beq e e')with
   |true=>rw[hb]at h;subst h;exact h2
   |false=>rw[hb]at h;subst h;exact trivial
  ·subst h;exact trivial
 |.fn f l,_,rfl=>⟨rfl,gQ l _ rfl⟩
 |.kC f l,_,rfl=>⟨rfl,gQ l _ rfl⟩
 |.agg l,_,rfl=>gQ l _ rfl
 |.gr l,_,rfl=>gQ l _ rfl
 |.opt _ _,_,rfl=>trivial
 |.eN _,_,rfl=>rfl
 |.sle _ _,_,rfl=>rfl
 |.cz i v,w,h=>by
  have h2:=h
  simp only[kl]at h
  split at h
  ·rename_i v' e' d hk
   cases hb:Nat.beq v v' with
   |true=>rw[hb]at h;subst h;exact h2
   |false=>rw[hb]at h;subst h;exact trivial
  ·subst h;exact trivial
theorem gQ{m:Nat}{κ κ':Nat->aw}:∀(l r:List AV),lJ m κ l=r->dZ m κ κ' r l
 |[],_,rfl=>trivial
 |v::l,_,rfl=>⟨Lg v _ rfl,gQ l _ rfl⟩
end
def Xs(m:Nat)(κ:Nat->aw)(ρ:Nat->AV):Env->Env
 |[]=>[]
 |p::r=>(p.1,kl m κ (ρ p.1))::Xs m κ ρ r
def aax(m i:Nat)(κ:Nat->aw):aw->aw
 |.cells l=>.cells (lJ m κ l)
 |.tree V E d=>.tree (jz m i V E).1 (jz m i V E).2 d
 |.fz V d=>.fz (jz m i V 0).1 d
 |.dr rc st l=>.dr rc st (lJ m κ l)
 |.dead=>.dead
 |.held=>.held
 |_=>.none
def MM(m:Nat)(κ:Nat->aw):ae->ae
 |[]=>[]
 |p::r=>(p.1,aax m p.1 κ (κ p.1))::MM m κ r
theorem Lh{m:Nat}{κ κ':Nat->aw}{ρ:Nat->AV}:∀{e e':Env},Xs m κ ρ e=e'->OO m ρ κ κ' e'
 |[],_,rfl=>trivial
 |(t,v)::r,_,rfl=>⟨Lg _ _ rfl,Lh (e:=r) rfl⟩
theorem oi{m i:Nat}{κ κ':Nat->aw}{b b':aw}(h:aax m i κ b=b'):o8 m κ κ' i b b':=by
 subst h
 cases b with
 |cells l=>exact gQ l _ rfl
 |tree V E d=>exact⟨rfl,rfl⟩
 |fz V d=>exact⟨rfl,DV.Le.refl d⟩
 |dr rc st l=>exact⟨rfl,rfl,gQ l _ rfl⟩
 |_=>exact trivial
theorem aV{m:Nat}{κ κ':Nat->aw}:∀{k k':ae},MM m κ k=k'->pb m κ κ' k'
 |[],_,rfl=>trivial
 |(i,b)::r,_,rfl=>⟨oi rfl,aV (k:=r) rfl⟩
theorem jn{m:Nat}{env:Env}{K:ae}{s:cQ}(h1:Xs m (aa K) (look env) s.env=s.env)(h2:MM m (aa K) s.K=s.K)(h3:AA (aa s.K) (Be (look env) (aa K) s.env++dS (aa K) s.K)=true)(h4:vW (aa K) (aa s.K) m=true):cQ.sub m env K s:=
 ⟨Lh h1,aV h2,h3,h4⟩
theorem ext{m ex:Nat}{κ:Nat->aw}{jU rs:List AV}{K':ae}(h0:pK m ex κ jU rs K'=true)(h1:lJ m κ jU=rs)(h2:MM m κ K'=K'):∃vT K'',(vT=rs/\K''=K')/\pK m ex κ jU vT K''=true/\dZ m κ (aa K'') vT jU/\pb m κ (aa K'') K'':=
 ⟨rs,K',⟨rfl,rfl⟩,h0,gQ _ _ h1,aV h2⟩
theorem cl{P:Program}{f:Nat}{n nx:Nat}{o:Oper}{g:Bool}{κ:Nat->aw}{k:l9->Nat->Prop}{args bT:List AV}{K0:ae}{ex:Nat}{rs:List AV}{K1:ae}(σ:List Nat)(hs:aj P f bT σ.length K0 ex rs K1)
 (h0:(gW κ σ nx args bT K0&&gw σ ex K0 K1 rs)=true) (h1:lJ 0 κ args=dT (sg σ nx) dz bT) (h2:MM 0 κ (bZ (sg σ nx) dz K0)=bZ (sg σ nx) dz K0)
 (h:pG (mX (sg σ nx) (km κ σ) (rk rs)) fun v=>ru v fun v=>pF (bZ (sg σ nx) (km κ σ) K1++mc κ (dB κ (dT (sg σ nx) dz bT) args++dS κ (bZ (sg σ nx) dz K0))) fun bx=>yc bx fun bx=>
  yH n o g (nx+ex) k v bx (σ++(dB κ (dT (sg σ nx) dz bT) args++dS κ (bZ (sg σ nx) dz K0))++lF nx ex)):ki none (bW P f) n o g nx κ k args:=by
 simp only[adT]at h0
 exact⟨σ,bT,K0,ex,rs,K1,hs,by rw[h0.1];rfl,h0.2,gQ _ _ h1,aV h2,h⟩
end
section
open Go.RowKit
variable [cj]
end
section
open Go.RowKit
variable [cj]
section
variable {g:dV} {n:Nat} {ρ:Nat->AV} {κ κ':Nat->aw} {a:Act} {w w':World} {G:Gh}
end
end
section
open Go.RowKit
variable [cj]
end
section
open Go.RowKit
variable [cj]
inductive jl(i v e:Nat):List AV->List AV->Prop
 |nil:jl i v e [] []
 |same (x:AV) {l l':List AV} (h:jl i v e l l'):jl i v e (x::l) (x::l')
 |sH {l l':List AV} (h:jl i v e l l'):jl i v e (.own i 0 0 []::l) (.own i v e []::l')
inductive TD(i v e:Nat):aw->aw->Prop
 |refl (b:aw):TD i v e b b
 |cells {l l':List AV} (h:jl i v e l l'):TD i v e (.cells l) (.cells l')
def ace(i v e:Nat)(k k':ae):Prop:=∃d,aa k i=.tree 0 0 d/\aa k' i=.tree v e d/\∀j,j≠i->TD i v e (aa k j) (aa k' j)
theorem jl.refl(i v e:Nat):∀l,jl i v e l l
 |[]=>.nil
 |x::l=>.same x (jl.refl i v e l)
theorem jl.len{i v e:Nat}{l l':List AV}(h:jl i v e l l'):l.length=l'.length:=by
 induction h with
 |nil=>rfl
 |same x _ ih=>grind
 |sH _ ih=>grind
theorem jl.aq{i v e:Nat}{l l':List AV}(h:jl i v e l l')(hc:∀v,v∈l->v.aq=true):∀v,v∈l'->v.aq=true:=by
 induction h with
 |nil=>grind
 |same x _ ih=>
  grind
 |sH _ ih=>
  intro y hy
  rcases adp.1 hy with rfl|hy
  ·rfl
  grind
theorem jl.at{i v e:Nat}{l l':List AV}(h:jl i v e l l'):∀(j:Nat) (d:AV),l'[j]?=some d->l[j]?=some d\/(l[j]?=some (.own i 0 0 [])/\d=.own i v e []):=by
 induction h with
 |nil=>grind
 |same x _ ih=>
  grind
 |sH _ ih=>
  grind
def FX(H:Nat->Nat->Nat->List PS->Option Value)(i v e:Nat):Nat->Nat->Nat->List PS->Option Value:=
 fun j v' e' p=>if j=i/\v'=v/\e'=e then H i 0 0 p else H j v' e' p
def jZ(G:Gh)(i v e:Nat):Gh:={ G with H:=FX G.H i v e }
theorem IY(H:Nat->Nat->Nat->List PS->Option Value)(i v e j v' e':Nat)(hn:j≠i):aO (FX H i v e) j v' e'=aO H j v' e':=by
 funext p
 cases p with
 |nil=>show(if _ then _ else _)=_;rw[if_neg (fun h=>hn h.1)];rfl
 |cons s p=>show(if _ then _ else _)=_;rw[if_neg (fun h=>hn h.1)];rfl
theorem MN(H:Nat->Nat->Nat->List PS->Option Value)(i v e j:Nat)(PZ:(v=0/\e=1)\/(v=1/\e=0)):aO (FX H i v e) j 0 0=aO H j 0 0:=by
 funext p
 cases p with
 |nil=>show(if _ then _ else _)=_;rw[if_neg (fun h=>by omega)];rfl
 |cons s p=>show(if _ then _ else _)=_;rw[if_neg (fun h=>by omega)];rfl
theorem BB(H:Nat->Nat->Nat->List PS->Option Value)(i v e:Nat)(PZ:(v=0/\e=1)\/(v=1/\e=0)):aO (FX H i v e) i v e=aO H i 0 0:=by
 funext p
 cases p with
 |nil=>
  show(if i=i/\v=v/\0=e then H i 0 0 []else H i v 0 [])=H i 0 0 []
  grind
 |cons s p=>show(if i=i/\v=v/\e=e then _ else _)=_;rw[if_pos ⟨rfl,rfl,rfl⟩];rfl
theorem TE{G:Gh}{i v e:Nat}(PZ:(v=0/\e=1)\/(v=1/\e=0))(h1:∀v,0<v->∀e p,G.H i v e p=none)(h2:∀e,0<e->∀p,G.H i 0 e p=none):Gh.Le G (jZ G i v e):=by
 refine⟨Mem.Le.refl _,fun _ _ h=>h,fun j v' e' p x hx=>?_⟩
 show(if j=i/\v'=v/\e'=e then _ else _)=_
 grind
theorem P0{G:Gh}{w:World}{i v e j:Nat}{b b':aw}(PZ:(v=0/\e=1)\/(v=1/\e=0))(hle:Gh.Le G (jZ G i v e))(hj:j≠i)(hb:gD G w j b)(hr:TD i v e b b'):
 gD (jZ G i v e) w j b'/\∀x,cD (jZ G i v e) j b' x↔cD G j b x:=by
 have dI:∀v' e' p,(jZ G i v e).H j v' e' p=G.H j v' e' p:=fun v' e' p=>by
  show(if _ then _ else _)=_;grind
 have hh:∀v' e',aO (jZ G i v e).H j v' e'=aO G.H j v' e':=fun v' e'=>IY G.H i v e j v' e' hj
 cases hr with
 |cells h=>
  obtain⟨b,c,t,h1,h2,h3,h4,h5⟩:=hb
  refine⟨⟨b,c,t,h1,h2,by rw[h3];exact h.len,h.aq h4,fun q d u hd hu=>?_⟩,fun x=>Iff.rfl⟩
  rcases h.at q d hd with h6|⟨h6,rfl⟩
  ·exact(h5 q d u h6 hu).mono hle
  ·cases(h5 q _ u h6 hu)with
   |own _ _ _ _ _ h8 h9=>
    refine .own _ _ _ _ _ ?_ h9
    show aO (FX G.H i v e) i v e []=_
    simp_all [BB]
 |refl=>
  cases b with
  |none=>exact⟨⟨hb.1,fun v' e' p=>by rw[dI];exact hb.2 v' e' p⟩,fun x=>Iff.rfl⟩
  |dead=>exact⟨tv,fun x=>Iff.rfl⟩
  |cells l=>
   obtain⟨b,c,t,h1,h2,h3,h4,h5⟩:=hb
   exact⟨⟨b,c,t,h1,h2,h3,h4,fun q d u hd hu=>(h5 q d u hd hu).mono hle⟩,fun x=>Iff.rfl⟩
  |tree ver ep d=>
   obtain⟨h1,h2,h3,h4⟩:=hb
   refine⟨⟨by rwa[hh],by grind,fun v' hv e' p=>by grind,fun e' he p=>by grind⟩,fun x=>?_⟩
   show bR _ d x↔bR _ d x
   grind
  |fz ver d=>
   obtain⟨u,h1,h2,h3⟩:=hb
   exact⟨⟨u,by grind,h2,h3⟩,fun x=>Iff.rfl⟩
  |dr rc st l=>
   obtain⟨b,fn,tmps,D,h1,h2,h3⟩:=hb
   exact⟨⟨b,fn,tmps,D,h1,h2,h3.mono hle⟩,fun x=>Iff.rfl⟩
  |held=>exact⟨⟨fun v' hv e' p=>by rw[dI];exact hb.1 v' hv e' p,fun e' he p=>by rw[dI];exact hb.2 e' he p⟩,fun x=>Iff.rfl⟩
  |lj k p d left cur=>
   have h0:aO (jZ G i v e).H k 0 0=aO G.H k 0 0:=MN G.H i v e k PZ
   obtain⟨r,mb,es,clock,seen,ks,m,hi⟩:=hb
   refine⟨⟨r,mb,es,clock,seen,ks,m,hi.fm,hi.it,by rw[h0];exact hi.tree,by rw[h0];exact hi.inj,hi.node,by rw[h0];exact hi.head,hi.map,hi.left,hi.cur⟩,fun x=>?_⟩
   show(bR _ d x\/_)↔_
   rw[h0];rfl
end
section
open Go.RowKit
variable [cj]
end
section
open Go.RowKit
variable [cj]
def Dh:List AV->Bool
 |[]=>true
 |.dv _::r=>Dh r
 |_=>false
theorem BC:∀{l:List AV},Dh l=true->∀(j:Nat) (d:AV),l[j]?=some d->∃x,d=.dv x
 |.dv x::r,h,0,d,hd=>by grind
 |.dv x::r,h,j+1,d,hd=>BC (l:=r) h j d (by grind)
def yQ:List AV->Bool
 |[]=>true
 |.dv _::r=>yQ r
 |.ptr _ _::r=>yQ r
 |_::_=>false
theorem u9:∀{l:List AV},yQ l=true->∀(j:Nat) (d:AV),l[j]?=some d->(∃x,d=.dv x)\/∃i o,d=.ptr i o
 |.dv x::r,h,0,d,hd=>by grind
 |.dv x::r,h,j+1,d,hd=>u9 (l:=r) h j d (by grind)
 |.ptr i o::r,h,0,d,hd=>by grind
 |.ptr i o::r,h,j+1,d,hd=>u9 (l:=r) h j d (by grind)
def BD(i:Nat):AV->Bool
 |.any=>true
 |.dv _=>true
 |.agg l=>Dh l
 |.ptr _ _=>true
 |.eN _=>true
 |.fn _ l=>yQ l
 |.own j _ _ _=>!Nat.beq j i
 |_=>false
def yR(i:Nat):List AV->Bool
 |[]=>true
 |v::r=>BD i v&&yR i r
def Xt(i:Nat):aw->Bool
 |.none=>true
 |.dead=>true
 |.cells l=>yR i l
 |.tree _ _ _=>true
 |.dr _ _ l=>yR i l
 |_=>false
theorem sd{i:Nat}:∀{l:List AV},yR i l=true->∀v,v∈l->BD i v=true
 |x::r,h,v,hv=>by
  simp[yR,adT]at h
  rcases adp.1 hv with rfl|hv
  ·grind
  ·exact sd h.2 v hv
abbrev wc:=Nat->Nat->List PS->Option Value
def gR(G:Gh)(i:Nat)(Hi:wc):Gh:={ G with H:=fun j=>if j=i then Hi else G.H j }
theorem iI{G:Gh}{i j:Nat}{Hi:wc}(h:j≠i):(gR G i Hi).H j=G.H j:=by
 show(if j=i then Hi else G.H j)=_;grind
theorem jD{G:Gh}{i:Nat}{Hi:wc}:(gR G i Hi).H i=Hi:=by
 show(if i=i then Hi else G.H i)=_;grind
theorem qR{G:Gh}{i j:Nat}{Hi:wc}(h:j≠i)(v e:Nat):aO (gR G i Hi).H j v e=aO G.H j v e:=by
 funext p
 cases p with
 |nil=>show(gR G i Hi).H j v 0 []=_;rw[iI h];rfl
 |cons s p=>show(gR G i Hi).H j v e _=_;rw[iI h];rfl
theorem yS{G:Gh}{i:Nat}{Hi:wc}{a:AV}{x:Value}(ha:BD i a=true)(h:aK G a x):aK (gR G i Hi) a x:=by
 cases h with
 |dv hd=>exact .dv hd
 |agg l vs hl hr=>
  refine .agg l vs hl fun j d v hd hv=>?_
  obtain⟨x,rfl⟩:=BC (ha) j d hd
  cases hr j _ v hd hv with|dv h=>exact .dv h
 |any=>exact .any _
 |eN j l h=>exact .eN j l h
 |fn f l vs hl hr=>
  refine .fn f l vs hl fun j d v hd hv=>?_
  rcases u9 (ha) j d hd with⟨x,rfl⟩|⟨q,o,rfl⟩
  ·cases hr j _ v hd hv with|dv h=>exact .dv h
  ·cases hr j _ v hd hv with|ptr _ _ b hb=>exact .ptr _ _ b hb
 |ptr j off b hb=>exact .ptr j off b hb
 |own j ver ep p _ hv hc=>
  have hj:j≠i:=by
   rintro rfl
   grind [BD,Bool.not_eq_true',Nat.beq_refl]
  exact .own j ver ep p _ (by rwa[qR hj]) hc
 |_=>cases ha
theorem TF{G:Gh}{w:World}{i j:Nat}{Hi:wc}{b:aw}(hj:j≠i)(hb:Xt i b=true)(h:gD G w j b):gD (gR G i Hi) w j b:=by
 cases b with
 |none=>exact⟨h.1,fun v e p=>by rw[iI hj];exact h.2 v e p⟩
 |dead=>trivial
 |cells l=>
  obtain⟨b,c,t,h1,h2,h3,h4,h5⟩:=h
  exact⟨b,c,t,h1,h2,h3,h4,fun q d u hd hu=>yS (sd hb d (ab6 hd)) (h5 q d u hd hu)⟩
 |tree ver ep d=>
  obtain⟨h1,h2,h3,h4⟩:=h
  exact⟨by rwa[qR hj],by rwa[qR hj],fun v hv e p=>by simp_all [iI],fun e he p=>by simp_all [iI]⟩
 |dr rc st l=>
  obtain⟨b,fn,tmps,D,h1,h2,h3⟩:=h
  exact⟨b,fn,tmps,D,h1,h2,h3.1,fun q d u hd hu=>yS (sd hb d (ab6 hd)) (h3.2 q d u hd hu)⟩
 |_=>cases hb
theorem TG{G:Gh}{i j:Nat}{Hi:wc}{b:aw}(hj:j≠i)(hb:Xt i b=true)(x:Nat):cD (gR G i Hi) j b x↔cD G j b x:=by
 cases b with
 |none=>rfl
 |dead=>rfl
 |cells l=>rfl
 |tree ver ep d=>show bR _ d x↔bR _ d x;rw[qR hj]
 |dr rc st l=>rfl
 |_=>cases hb
end
end Go.TM
