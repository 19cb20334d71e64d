import Derived.Test.YtfpebgpgabjieaaGreatDoorHM14
import Derived.LoopNIn
import Derived.Test.YtfpebgpgabjieaaGreatDoorHM13
set_option linter.all false
namespace Go.TM
section
open Go.RowKit
variable [cy]
theorem Xh:∀N:Nat,(∀a b:DV,SizeOf.sizeOf a<N->Nz a b=true->a=b)/\(∀l r:List DV,SizeOf.sizeOf l<N->zZ l r=true->l=r):=by
 intro N
 induction N with
 |zero=>grind
 |succ N ih=>
  refine⟨fun a b ck h=>?_,fun l r ck h=>?_⟩
  ·cases a<;>cases b<;>simp only[Nz]at h<;>(try cases h)<;>(try rfl)
   all_goals(try simp[adT]at h)
   ·grind [Cl]
   ·grind [Cl]
   ·grind
   ·grind
   ·grind [Nat.eq_of_beq_eq_true]
   ·grind [Nat.eq_of_beq_eq_true]
   ·grind [Nat.eq_of_beq_eq_true]
   ·grind
   ·grind [Nat.eq_of_beq_eq_true]
   ·grind
   ·grind [J0]
   grind
  ·cases l with
   |nil=>grind [zZ]
   |cons a l=>cases r with
    |nil=>simp[zZ]at h
    |cons b r=>
     simp[zZ,adT]at h
     grind
theorem Cr{a b:DV}(h:Nz a b=true):a=b:=(Xh (SizeOf.sizeOf a+1)).1 a b (by omega) h
theorem AR:∀{l r:List PS},uC l r=true->l=r
 |[],[],_=>rfl
 |a::l,b::r,h=>by
  simp[uC,adT]at h
  have:a=b:=by
   have h1:=h.1
   cases a<;>cases b<;>simp only[aaa]at h1<;>(try cases h1)<;>simp[adT]at h1
   ·simp_all
   grind [Cr,Nat.eq_of_beq_eq_true]
  rw[this,AR h.2]
 |[],_::_,h=>by simp[uC]at h
 |_::_,[],h=>by simp[uC]at h
theorem Xi:∀N:Nat,(∀a b:AV,SizeOf.sizeOf a<N->eqA a b=true->a=b)/\(∀l r:List AV,SizeOf.sizeOf l<N->z7 l r=true->l=r):=by
 intro N
 induction N with
 |zero=>grind
 |succ N ih=>
  refine⟨fun a b ck h=>?_,fun l r ck h=>?_⟩
  ·cases a<;>cases b<;>simp only[eqA]at h<;>(try cases h)<;>(try rfl)
   all_goals(try simp[adT]at h)
   ·rw[Cr h]
   ·simp_all
   ·grind [Nat.eq_of_beq_eq_true,AR]
   ·grind [Nat.eq_of_beq_eq_true]
   ·grind [Nat.eq_of_beq_eq_true]
   ·grind
   ·grind
   ·simp_all
   ·simp_all
   simp_all
  ·cases l with
   |nil=>grind [z7]
   |cons a l=>cases r with
    |nil=>simp[z7]at h
    |cons b r=>
     simp[z7,adT]at h
     grind
theorem O8{a b:ax}(h:AL a b=true):a=b:=by
 cases a<;>cases b<;>simp[AL]at h<;>(try grind)
 all_goals(try simp[adT]at h)
 ·rename_i l l';rw[(Xi (SizeOf.sizeOf l+1)).2 l l' (by omega) h]
 ·grind [Nat.eq_of_beq_eq_true,Cr]
 grind [Nat.eq_of_beq_eq_true,Cr]
theorem rI{γ:Type _}(f:Nat->γ){i:Nat}:∀{l:List (Nat×γ)},(∀p,p∈l->p.1≠i)->aF f l i=f i
 |[],_=>rfl
 |p::r,h=>by
  obtain⟨j,x⟩:=p
  simp[aF]
  rw[ah _ _ (fun e=>h (j,x) (by simp) e.symm)]
  exact rI f fun q hq=>h q (by grind)
theorem AS:∀{l:List (Nat×ax)} {p:Nat×ax},p∈l->p.1∈jO l
 |[],p,h=>by grind
 |q::r,p,h=>by
  simp[jO,adp]
  rcases adp.1 h with rfl|h
  ·grind
  ·exact .inr (AS h)
theorem x5{κ:Nat->ax}{rd:List Nat}:∀{l:List (Nat×ax)} {p:Nat×ax},p∈z8 κ rd l->p∈l
 |[],p,h=>by assumption
 |q::r,p,h=>by
  simp[z8]at h
  cases hb:iM q.1 rd&& !iM q.1 _&&AL q.2 _ with
  |true=>rw[hb]at h;exact adq _ (x5 h)
  |false=>
   rw[hb]at h
   rcases adp.1 h with rfl|h
   ·simp
   ·exact adq _ (x5 h)
theorem uF{κ:Nat->ax}{rd:List Nat}:∀{l:List (Nat×ax)} {p:Nat×ax},p∈l->p∈z8 κ rd l\/p.1∈rd
 |[],p,h=>by grind
 |q::r,p,h=>by
  simp[z8]
  cases hb:iM q.1 rd&& !iM q.1 _&&AL q.2 _ with
  |true=>
   simp[adT]at hb
   rcases adp.1 h with rfl|h
   ·grind [mB]
   ·exact uF h
  |false=>
   rcases adp.1 h with rfl|h
   ·grind
   ·rcases uF h with h|h
    ·exact .inl (adq _ h)
    grind
theorem uG{κ κ':Nat->ax}{rd:List Nat}(aA:∀i,i∈rd->κ' i=κ i):∀(l:List (Nat×ax)),aF κ' (z8 κ rd l)=aF κ' l
 |[]=>rfl
 |q::r=>by
  simp[z8]
  cases hb:iM q.1 rd&& !iM q.1 _&&AL q.2 _ with
  |false=>obtain⟨j,x⟩:=q;simp[cond_false,aF];rw[uG aA r]
  |true=>
   simp[cond_true]
   rw[uG aA r]
   obtain⟨j,x⟩:=q
   simp[adT,adV]at hb
   funext i
   simp[aF]
   by_cases e:i=j
   ·subst e
    rw[bD,rI _ (fun p hp hpi=>fm hb.1.2 (by grind [AS])),aA i (mB hb.1.1),O8 hb.2]
   grind [ah]
section
variable {P:Program} {C:eb->Prop} {T:List TI} {ops:List Oper} {n:Nat} {o:Oper} {nx:Nat} {ρ:Nat->AV} {κ:Nat->ax} {k:lK->Nat->Prop}
theorem Lz{e:EN}(h:Good P C ops n o nx ρ κ fun e' n'=>e'=e.1/\n'=e.2)(hk:k ⟨e.1.dst,z8 κ e.1.reads e.1.box,e.1.reads⟩ e.2):Good P C ops n o nx ρ κ k:=by
 obtain⟨cr,fA,⟨rfl,rfl⟩,h2,h3,h4⟩:=h
 refine⟨_,_,hk,h2,fun p hp=>h3 p (x5 hp),fun F hF ρ' κ' aA g a w dS aq=>?_⟩
 have HK:D2 ops o ρ ρ' κ κ' e.1.reads e.1.box:=⟨aA.cx,aA.rows,aA.reads,fun i b hb=>by
  rcases uF hb with h|h
  ·exact aA.boxes i b h
  ·exact aA.reads i h⟩
 have:=h4 F hF ρ' κ' HK g a w dS aq
 simp[uG aA.reads]
 grind
theorem LA{ρ':Nat->AV}{l:List (Nat×AV)}{g:eb}{κ':Nat->ax}{a:Act}{w:World}(h:St g n (aF ρ' l) κ' a w):St g n (aF ρ' (Lo l)) κ' a w:=by
 obtain⟨G,aq⟩:=h
 refine⟨G,{ aq with env:=fun t=>?_,tU:=aq.tU }⟩
 have key:∀(l:List _) (x:Value),aK G (aF ρ' l t) x->aK G (aF ρ' (Lo l) t) x:=by
  intro l
  induction l with
  |nil=>intro x h;exact h
  |cons p r ih=>
   obtain⟨j,v⟩:=p
   intro x h
   simp[Lo,aF]at h⊢
   by_cases e:t=j
   ·subst e;rw[bD]at h⊢;exact .opt true v x (fun _=>h) (by simp)
   grind [ah]
 exact key l _ (aq.env t)
theorem HL{e:EN}(hg:cn ρ ops o.guard=some true)(h:Good P C ops n { o with guard:=none } nx ρ κ fun e' n'=>e'=e.1/\n'=e.2)(hk:k ⟨Lo e.1.dst,e.1.box,e.1.reads⟩ e.2):Good P C ops n o nx ρ κ k:=by
 obtain⟨cr,fA,⟨rfl,rfl⟩,h2,h3,h4⟩:=h
 refine⟨_,_,hk,h2,h3,fun F hF ρ' κ' aA g a w dS aq=>?_⟩
 have HK:D2 ops { o with guard:=none } ρ ρ' κ κ' e.1.reads e.1.box:=⟨fun t ht=>aA.cx t (by
  unfold Oper.looksAt at ht⊢
  simp only[List.append_nil]at ht
  exact adr.2 (.inl ht)),aA.rows,aA.reads,aA.boxes⟩
 have bG:=h4 F hF ρ' κ' HK g a w dS aq
 obtain⟨G,jP⟩:=aq
 unfold nC at bG⊢
 rw[cF hg aA.cx jP,if_pos rfl]
 have hw:Region.wanted { o with guard:=none } (yielded ops.toArray a.tmps)=true:=rfl
 rw[hw,if_pos rfl]at bG
 exact xh (fun a w h=>LA h) bG
theorem LB{d:Option Nat}(hg:cn ρ ops o.guard=some false){e:EN}(h:V0 n nx o.dst=.ok e)(hk:k e.1 e.2):Good P C ops n o nx ρ κ k:=by
 cases hd:o.dst with
 |none=>
  rw[hd]at h
  injection h with h;subst h
  refine⟨_,_,hk,adM _,by simp,fun F hF ρ' κ' aA g a w dS ⟨G,aq⟩=>?_⟩
  unfold nC
  rw[cF hg aA.cx aq]
  simp[hd]
  assumption
 |some d=>
  rw[hd]at h
  obtain⟨aB,h⟩:=aC h
  injection h with h;subst h
  rw[Nat.blt_eq]at aB
  refine⟨_,_,hk,adM _,by simp,fun F hF ρ' κ' aA g a w dS ⟨G,aq⟩=>?_⟩
  unfold nC
  rw[cF hg aA.cx aq]
  simp[hd]
  exact⟨G,aq.put aB (.opt false _ undef (by simp) (fun _=>rfl))⟩
def rJ(P:Program)(C:eb->Prop)(ops:List Oper)(n:Nat)(S:sS):Prop:=∀(o:Oper) (nx:Nat) (ρ:Nat->AV) (κ:Nat->ax) (e:EN),(∀i,nx<=i->κ i=.none)->S o nx ρ κ=.ok e->Good P C ops n o nx ρ κ fun e' n'=>e'=e.1/\n'=e.2
theorem x6(hT:fB P T){pol:Nat->Bool}{c:XC}(hX:∀f,TC (bX P f) (c.X f))(hY:TC (dr P) c.Y)(hR:dT P C)(hn:∀i,nx<=i->κ i=.none){e:EN}(hg:o.guard=none)(h:OV T pol c n o nx ρ κ=.ok e):
 Good P C ops n o nx ρ κ fun e' n'=>e'=e.1/\n'=e.2:=by
 obtain⟨r,h1,h⟩:=ad h
 obtain⟨e0,h2,h⟩:=ad h
 injection h with h;subst h
 have g0:Good P C ops n o nx ρ κ fun e' n'=>e'=e0.1/\n'=e0.2:=O7 hT hX hY hR hn hg h1 h2 ⟨rfl,rfl⟩
 unfold VZ
 cases c.drawn with
 |false=>grind
 |true=>exact Lz g0 ⟨rfl,rfl⟩
theorem O9(hT:fB P T){pol:Nat->Bool}{c:XC}(hX:∀f,TC (bX P f) (c.X f))(hY:TC (dr P) c.Y)(hR:dT P C):rJ P C ops n (EL T pol c ops n):=by
 intro o nx ρ κ e hn h
 unfold EL at h
 split at h
 ·grind [x6]
 ·rename_i g hg
  unfold OW at h
  split at h
  ·rename_i oo
   obtain⟨r,h1,h⟩:=ad h
   injection h with h;subst h
   rw[<-hg]at oo
   exact HL oo (x6 hT hX hY hR hn rfl h1) ⟨rfl,rfl⟩
  ·rename_i oo
   rw[<-hg]at oo
   exact LB (d:=none) oo h ⟨rfl,rfl⟩
  grind
end
end
section
open Go.RowKit
variable [cy]
theorem rK{γ:Type}(f:Nat->γ)(i:Nat)(x:γ):SO f i x=ju f i x:=by
 funext j
 simp[SO,ju]
 by_cases e:j=i
 ·subst e;simp
 ·have hb:Nat.beq j i=false:=by grind [Nat.beq,absurd,Nat.eq_of_beq_eq_true]
  simp_all
theorem iV{γ:Type}(f:Nat->γ):∀l:List (Nat×γ),B9 f l=aF f l
 |[]=>rfl
 |(i,x)::r=>by simp[B9,aF];rw[rK,iV f r]
def TF(g:eb)(n:Nat)(s:XS)(a:Act)(w:World):Prop:=St g n s.ρ s.κ a w/\g.m<=s.nx/\∀i,s.nx<=i->s.κ i=.none
theorem pE{nx fA:Nat}{κ:Nat->ax}{bx:List (Nat×ax)}(hn:∀i,nx<=i->κ i=.none)(hle:nx<=fA)(hb:∀p,p∈bx->p.1<fA):∀i,fA<=i->aF κ bx i=.none:=by
 grind [rI]
section
variable {P:Program} {C:eb->Prop} {T:List TI} {ops:List Oper} {n:Nat} {g:eb}
theorem x7{S:sS}(hS:rJ P C ops n S)(Hb:C g){F:Fence}(hF:iN F){Q:Exit->Act->World->Prop}{s':XS}(hQ:∀a w,TF g n s' a w->Q .normal a w):
 ∀(rest:List Oper) (s:XS) (a:Act) (w:World),Tx S rest s=.ok s'->TF g n s a w->wpListIn F 0 P ops.toArray Q rest a w
 |[],s,a,w,h,hs=>by injection h with h;subst h;exact hQ a w hs
 |o::rest,s,a,w,h,⟨hs,dS,hn⟩=>by
  simp[Tx]at h
  obtain⟨e,h1,h⟩:=ad h
  obtain⟨cr,fA,⟨rfl,rfl⟩,hle,hb,xk⟩:=hS o s.nx s.ρ s.κ e hn h1
  refine qg hF (xk F hF s.ρ s.κ ⟨fun _ _=>rfl,fun _ _=>rfl,fun _ _=>rfl,fun _ _ _=>rfl⟩ g a w ⟨dS,Hb⟩ hs) fun a' w' gH=>?_
  refine x7 hS Hb hF hQ rest _ a' w' h ⟨?_,Nat.le_trans dS hle,?_⟩
  ·grind [EM,iV]
  ·simp[EM,iV];grind [pE]
theorem vu{S:sS}(hS:rJ P C ops n S){ρ0:Nat->AV}{κ0:Nat->ax}{lo:Nat}{s':XS}{wh:List Rec}:
 ∀(rest done:List Oper) (s:XS) (rs:List Rec),ops=done++rest->rs.length=done.length->lo<=s.nx->
  (∀i,s.nx<=i->s.κ i=.none)->
  s.ρ=acc ρ0 (fun i=>(rs[i]?.map (·.cr.dst)).getD []) (fun _=>true) done.length->s.κ=acc κ0 (fun i=>(rs[i]?.map (·.cr.box)).getD []) (fun _=>true) done.length->
  (∀i r o,rs[i]?=some r->ops[i]?=some o->r.rows=ke (acc ρ0 (fun i=>(rs[i]?.map (·.cr.dst)).getD []) (fun _=>true) i) (acc κ0 (fun i=>(rs[i]?.map (·.cr.box)).getD []) (fun _=>true) i) o/\S4 P C ops n lo o (acc ρ0 (fun i=>(rs[i]?.map (·.cr.dst)).getD []) (fun _=>true) i) (acc κ0 (fun i=>(rs[i]?.map (·.cr.box)).getD []) (fun _=>true) i) r.cr)->
  EO S rest s rs=.ok (s',wh)->
  wh.length=ops.length/\lo<=s'.nx/\(∀i,s'.nx<=i->s'.κ i=.none)/\
   s'.ρ=acc ρ0 (fun i=>(wh[i]?.map (·.cr.dst)).getD []) (fun _=>true) ops.length/\s'.κ=acc κ0 (fun i=>(wh[i]?.map (·.cr.box)).getD []) (fun _=>true) ops.length/\
   ∀i r o,wh[i]?=some r->ops[i]?=some o->r.rows=ke (acc ρ0 (fun i=>(wh[i]?.map (·.cr.dst)).getD []) (fun _=>true) i) (acc κ0 (fun i=>(wh[i]?.map (·.cr.box)).getD []) (fun _=>true) i) o/\S4 P C ops n lo o (acc ρ0 (fun i=>(wh[i]?.map (·.cr.dst)).getD []) (fun _=>true) i) (acc κ0 (fun i=>(wh[i]?.map (·.cr.box)).getD []) (fun _=>true) i) r.cr
 |[],done,s,rs,K5,hlen,oJ,hn,he,hk,bO,h=>by
  grind [EO]
 |o::rest,done,s,rs,K5,hlen,oJ,hn,he,hk,bO,h=>by
  simp only[EO]at h
  obtain⟨e,h1,h⟩:=ad h
  obtain⟨cr,fA,⟨rfl,rfl⟩,hle,hb,xk⟩:=hS o s.nx s.ρ s.κ e hn h1
  have ub:∀i,i<rs.length->(rs++[⟨ke s.ρ s.κ o,e.1⟩])[i]?=rs[i]?:=fun i hi=>List.getElem?_append_left hi
  have xp:(rs++[(⟨ke s.ρ s.κ o,e.1⟩)])[done.length]?=some ⟨ke s.ρ s.κ o,e.1⟩:=by grind
  have ku:∀m,m<=done.length->acc ρ0 (fun i=>((rs++[(⟨ke s.ρ s.κ o,e.1⟩)])[i]?.map (·.cr.dst)).getD []) (fun _=>true) m=acc ρ0 (fun i=>(rs[i]?.map (·.cr.dst)).getD []) (fun _=>true) m:=
   fun m hm=>sC _ _ _ m fun i hi=>by grind
  have lH:∀m,m<=done.length->acc κ0 (fun i=>((rs++[(⟨ke s.ρ s.κ o,e.1⟩)])[i]?.map (·.cr.box)).getD []) (fun _=>true) m=acc κ0 (fun i=>(rs[i]?.map (·.cr.box)).getD []) (fun _=>true) m:=
   fun m hm=>sC _ _ _ m fun i hi=>by grind
  refine vu hS rest (done++[o]) (EM s e) (rs++[⟨ke s.ρ s.κ o,e.1⟩]) (by grind) (by simp[hlen]) (Nat.le_trans oJ hle) (by simp[EM,iV];exact pE hn hle hb) ?_ ?_ ?_ h
  ·simp only[EM,iV]
   rw[adv]
   simp[List.length_cons,List.length_nil,acc,if_true]
   rw[ku _ (adM _),xp,<-he];rfl
  ·simp only[EM,iV]
   rw[adv]
   simp[List.length_cons,List.length_nil,acc,if_true]
   rw[lH _ (adM _),xp,<-hk];rfl
  ·intro i r o' hr nj
   rcases adC i rs.length with aB|jw
   ·rw[ub i aB]at hr
    rw[ku i (by omega),lH i (by omega)]
    exact bO i r o' hr nj
   ·have hi:i=done.length:=by
     have:=(adj.1 hr).1
     simp at this;omega
    subst hi
    rw[xp]at hr
    injection hr with hr
    subst hr
    rw[K5]at nj
    simp at nj
    subst nj
    rw[ku _ (adM _),lH _ (adM _),<-he,<-hk]
    exact⟨rfl,xk.lo oJ⟩
end
section
variable {κ κ':Nat->ax} {m:Nat}
theorem Pa:∀N:Nat,(∀v:AV,SizeOf.sizeOf v<N->gM m κ κ' (kf m κ v) v)/\(∀l:List AV,SizeOf.sizeOf l<N->ed m κ κ' (nH m κ l) l):=by
 intro N
 induction N with
 |zero=>grind
 |succ N ih=>
  refine⟨fun v ck=>?_,fun l ck=>?_⟩
  ·cases v with
   |any=>exact trivial
   |dv d=>exact DV.Le.refl d
   |ptr i off=>rfl
   |eC i=>rfl
   |sle i k=>rfl
   |own i ver ep p=>
    cases hn:kf m κ _ with
    |own j a b q=>
     assumption
    |any=>exact trivial
    |_=>
     grind [kf,Nat.beq,emp]
   |cD i ver=>
    cases hn:kf m κ _ with
    |cD j a=>assumption
    |any=>exact trivial
    |_=>
     simp[kf]at hn
     split at hn
     ·rename_i v' e' d hk
      cases hb:Nat.beq ver v'<;>rw[hb]at hn<;>cases hn
     ·cases hn
   |loc i ver ep p a b c=>
    cases hn:kf m κ _ with
    |loc j a b q x y z=>assumption
    |any=>exact trivial
    |_=>
     simp only[kf]at hn
     split at hn
     ·rename_i v' e' d hk
      cases hb:Nat.beq ver v'&&(emp p||Nat.beq ep e')<;>rw[hb]at hn<;>cases hn
     ·cases hn
   |pre i ver ep p a b c=>
    cases hn:kf m κ _ with
    |pre j a b q x y z=>assumption
    |any=>exact trivial
    |_=>
     simp only[kf]at hn
     split at hn
     ·rename_i v' e' d hk
      cases hb:Nat.beq ver v'&&(emp p||Nat.beq ep e')<;>rw[hb]at hn<;>cases hn
     ·cases hn
   |fn f l=>exact⟨rfl,ih.2 l (by grind)⟩
   |kq f l=>exact⟨rfl,ih.2 l (by grind)⟩
   |agg l=>exact ih.2 l (by grind)
   |gr l=>exact ih.2 l (by grind)
   |opt g v=>exact trivial
  ·cases l with
   |nil=>exact trivial
   |cons v l=>exact⟨ih.1 v (by grind),ih.2 l (by grind)⟩
theorem rM(l:List AV):ed m κ κ' (nH m κ l) l:=(Pa (SizeOf.sizeOf l+1)).2 l (by omega)
theorem TG{i:Nat}:oK m κ κ' i (κ i) (nB m κ i (κ i)):=by
 cases h:κ i with
 |none=>exact trivial
 |dead=>exact trivial
 |cells l=>exact rM l
 |tree v e d=>exact⟨rfl,rfl⟩
 |fz v d=>exact⟨rfl,DV.Le.refl d⟩
 |dF rc st l=>exact⟨rfl,rfl,rM l⟩
 |held=>exact trivial
 |lG _ _ _ _ _=>exact trivial
theorem J4:∀(l:List Nat),o6 m κ κ' (nK m κ l)
 |[]=>trivial
 |i::r=>⟨TG,J4 r⟩
end
section
variable {P:Program} {T:List TI} {n:Nat} {g:eb} {ρ:Nat->AV} {κ:Nat->ax} {a:Act} {w:World} {G:Gh}
theorem Cs:∀{Ob:List ResultVar} {lJ:List AV} {q:List AV->Prop},HD T ρ κ Ob=.ok lJ->q lJ->Eu T ρ κ Ob q
 |[],lJ,q,h,hq=>by injection h with h;subst h;exact hq
 |.tmp t::r,lJ,q,h,hq=>by
  simp[HD]at h
  obtain⟨l,h1,h⟩:=ad h
  injection h with h;subst h
  simp[Eu,force_eq]
  exact Cs h1 hq
 |.cell t ty::r,lJ,q,h,hq=>by
  simp[HD]at h
  obtain⟨hb,h⟩:=aC h
  simp[Eu,hb,cond_true]
  split at h
  ·rename_i i off hr
   split at h
   ·rename_i l hk
    obtain⟨v,h1,h⟩:=ad h
    obtain⟨vs,h2,h⟩:=ad h
    injection h with h;subst h
    simp[hr,hk]
    exact sV h1 (Cs h2 hq)
   grind
  grind
theorem cE.out{m:Nat}{K:ae}{w0:World}{G0:Gh}(hg:g=⟨fun b=>∃i,cH G0 i (aa K i) b,w0,G0.M,m,G0.β,fun i p=>G0.H i 0 0 p⟩)(aq:cE g n ρ κ a w G){fuel:Nat}{lJ:List AV}{us:List Value}{r:uB}(hx:Ts fuel m κ lJ=.ok r)(hrel:cG G lJ us)
 {v:Value} (Aa:∀d u,r.1=[d]->us=[u]->v=u) (aaf:us.length≠1->v=.tuple us.toArray):∃rs K' G',(rs=r.1/\K'=r.2.1)/\Lb m r.2.2 (aa K) w0 G0 rs (aa K') w G' v:=by
 obtain⟨fQ,hx⟩:=aC hx
 injection hx with hx;subst hx
 generalize hK:nK m κ _=K2 at*
 simp[pd,adT]at fQ
 obtain⟨⟨⟨Ex,Oc⟩,fo⟩,oi⟩:=fQ
 have JC:=by
  have:=J4 (m:=m) (κ:=κ) (κ':=aa K2) (HA κ fuel (me 0 m++AV.zY (nH m κ lJ)) [])
  rwa[hK]at this
 obtain⟨G2,_,NN,N8⟩:=aq.sub (by grind) Ex (fun i hi=>adr.2 (.inr hi)) fo oi JC
 have aS:=NN _ lJ us (rM lJ) Oc (fun i hi=>adr.2 (.inl hi)) hrel
 have kg:=N8 (fun _=>.any) (fun _=>.any _)
 subst hg
 refine⟨_,_,G2,⟨rfl,rfl⟩,kg.fit,fun i hi=>mE Ex hi,?_,kg.mem,kg.fE,kg.wb,fun b hb hO=>⟨kg.zC b hb (fun⟨i,h⟩=>hO i h),kg.ny b hb (fun⟨i,h⟩=>hO i h)⟩,kg.gR,kg.os,kg.tape,kg.output,kg.grow⟩
 have zH:=aS.1.symm
 generalize zI:nH m κ lJ=rs at*
 have many:us.length≠1->aK G2 (.gr rs) v:=by
  intro dw
  rw[aaf dw]
  exact .gr rs us aS.1 aS.2
 match rs,aS,zH,many,Aa with
 |[],aS,zH,many,_=>exact many (by grind)
 |[d],aS,zH,_,Aa=>
  match us,zH,aS with
  |[u],_,aS=>rw[Aa d u rfl rfl];exact aS.2 0 d u rfl rfl
 |_::_::_,aS,zH,many,_=>exact many (by grind)
end
end
section
open Go.RowKit
variable [cy]
theorem uH:∀(env:Env),look env=aF (fun _=>.any) env
 |[]=>rfl
 |(i,b)::K=>by
  funext t
  simp only[look,aF,ju,uH K]
  by_cases h:t=i
  ·subst h;simp
  simp_all [beq_false]
def LC(P:Program)(go:jt):Prop:=∀(r:Bool) (n:Nat) (c:Code) (s:XS) (e:AX) (s':XS),go r n c s=.ok (e,s')->∀(F:Fence),iN F->(r=true->F=Fence.wide)->∀(g:eb) (a:Act) (w:World) (R:Exit->Act->World->Prop),
 TF g n s a w->(∀a w,TF g n s' a w->R (ug e) a w)->c.wpIn F 0 P R a w
section
variable {P:Program} {T:List TI} {go:jt}
theorem x8(hT:fB P T)(D6:LC P go)(eX:∀(g:Nat) (fn:Func),P.funcs[g]?=some fn->(fn.name== "runtime.NumGoroutine")=false)(f g:Nat):TC (bX P g) (JT P T go f g):=by
 intro args m K r hx
 obtain⟨fn,hf,hx⟩:=ad hx
 obtain⟨c,hb,hx⟩:=ad hx
 have hf:=aP hf
 have hb:=aP hb
 obtain⟨dp,hx⟩:=aC hx
 have hx:((go true fn.ntmps c (nI m (dA 0 args) K)).bind fun q=>HF T f m fn q)=.ok r:=by
  unfold aab at hx
  grind
 obtain⟨⟨e,s'⟩,bG,hx⟩:=ad hx
 refine⟨⟨fn,hf,eX g fn hf,by grind⟩,fun w G vs nr di hr=>?_⟩
 refine(iA.calls (n:=0)).1 (callsIn_of_wp_marks hf hb trivial ?_)
 simp[adT,cU.wf]at dp
 obtain⟨hlen,hwB,hwE⟩:=dp
 have hlen:vs.length<=fn.ntmps:=by rw[<-hr.1];simp_all
 let g0:eb:=⟨fun b=>∃i,cH G i (aa K i) b,w,G.M,m,G.β,fun i p=>G.H i 0 0 p⟩
 have aq:cE g0 fn.ntmps (look (dA 0 args)) (aa K) { tmps:=vs.toArray++Array.replicate (fn.ntmps-vs.toArray.size) undef,defers:=[] } w G:=by
  refine { fit:=di,env:=fun t=>?_,size:=by grind,zC:=fun _ _ _=>rfl,os:=rfl,tape:=rfl,output:=rfl,grow:=adM _,mem:=.refl G.M,ny:=fun _ _ _=>rfl,gR:=fun i b ho=>.inr ⟨i,ho⟩,fE:=fun _ _=>rfl,wb:=fun _ _ _ _ hx=>hx,oW:=nr,tU:=⟨[],rfl,List.nodup_nil,by simp⟩ }
  rw[ph]
  simp only[adx,if_true,Nat.sub_zero]
  split
  ·rename_i d hd
   have ht:t<vs.length:=by rw[<-hr.1];grind
   have:(vs.toArray++Array.replicate (fn.ntmps-vs.toArray.size) undef).getD t undef=vs[t]'ht:=by
    simp_all [adt,Array.getElem?_append_left]
   rw[this]
   exact hr.2 t d _ hd (abK ht)
  ·exact .any _
 have D4:TF g0 fn.ntmps (nI m (dA 0 args) K) { tmps:=vs.toArray++Array.replicate (fn.ntmps-vs.toArray.size) undef,defers:=[] } w:=by
  refine⟨⟨G,?_⟩,adM _,?_⟩
  ·grind [nI,iV,uH,iq]
  ·simp[nI,iV,<-iq];grind [mE]
 refine D6 true fn.ntmps c _ e s' bG Fence.wide iA (fun _=>rfl) g0 _ w _ D4 fun a w' hs=>?_
 obtain⟨⟨G1,jP⟩,_⟩:=hs
 have fin:((HD T s'.ρ s'.κ fn.results.toList).bind fun lJ=>Ts f m s'.κ lJ)=.ok r->LeavesInM Fence.wide 0 P fn a.tmps (fun e w'=>∃v rs K' G',e=.returned v/\(rs=r.1/\K'=r.2.1)/\Lb m r.2.2 (aa K) w G rs (aa K') w' G' v) a.defers .returning w':=by
  intro jy
  obtain⟨lJ,h1,h2⟩:=ad jy
  obtain⟨D,hD,_⟩:=jP.tU
  rw[hD]
  refine cE.leave a.tmps (fun w2 rz=>?_) D w' (by rwa[<-hD])
  obtain⟨ac4,us,hq,VD,hrel⟩:=wK hT rz (Cs h1 rfl)
  subst hq
  refine⟨_,pj VD,?_⟩
  obtain⟨rs,K',G',e1,e2⟩:=cE.out rfl rz h2 hrel (v:=if h:us.toArray.size=1 then us.toArray[0]else .tuple us.toArray) (fun d u _ hu=>by grind) (fun dw=>by grind)
  exact⟨_,rs,K',G',rfl,e1,e2⟩
 unfold HF at hx
 cases e with
 |normal=>exact fin hx
 |ret=>exact fin hx
 |exit i=>grind
theorem LD(D6:LC P go)(f:Nat):TC (dr P) (HH go f):=by
 intro args m K r hx
 unfold HH at hx
 split at hx
 ·rename_i rc l h0
  obtain⟨fQ,hx⟩:=aC hx
  obtain⟨⟨e1,s1⟩,aag,hx⟩:=ad hx
  intro w G vs nr di hr
  simp[adT]at fQ
  obtain⟨⟨⟨hal,mM⟩,D3⟩,Tl⟩:=fQ
  have D3:=by simpa using D3
  have hb:=di.box 0
  rw[h0]at hb
  obtain⟨b,fn,tmps,D,qJ,hw,jV⟩:=hb
  have ck:=by have:=jV.1;simp at this;exact this.symm
  have ZY:vs.toArray.size=rc.ps.size:=by rw[List.size_toArray,<-hr.1];simp_all
  refine⟨b,qJ,fn,_,rc.as,rc.bd,w,run_yield hw ZY,roundIn_of_wpIn trivial ?_⟩
  have OA:(rc.ps.zip vs.toArray).foldl (fun tm (pv)=>tm.setIfInBounds pv.1 pv.2) tmps=(rc.ps.toList.zip vs).foldl (fun tm (pv)=>tm.setIfInBounds pv.1 pv.2) tmps:=by
   rw[<-Array.foldl_toList,Array.toList_zip]
  let g:eb:=⟨fun b=>∃i,cH G i (aa K i) b,w,G.M,m,G.β,fun i p=>G.H i 0 0 p⟩
  have Hk:∀t,aK G (look (uw 0 l) t) (tmps.getD t undef):=fun t=>by
   have:=ux l 0 t
   rw[Nat.zero_add]at this
   rw[this]
   split
   ·rename_i v hv
    refine jV.2 t v _ hv ?_
    rw[adt,Array.getElem?_toList,adS (by grind)];rfl
   ·exact .any _
  have aq:cE g l.length _ (aa K) { tmps:=(rc.ps.toList.zip vs).foldl (fun tm (pv)=>tm.setIfInBounds pv.1 pv.2) tmps,defers:=[] } w G:=
   {fit:=di,env:=B8 (fun p hp=>by rw[ck];exact uy mM p hp) hr Hk,size:=by grind [AG],zC:=fun _ _ _=>rfl,os:=rfl,tape:=rfl,output:=rfl,grow:=adM _,mem:=.refl G.M,ny:=fun _ _ _=>rfl,gR:=fun i b ho=>.inr ⟨i,ho⟩,fE:=fun _ _=>rfl,wb:=fun _ _ _ _ hx=>hx,oW:=nr,tU:=⟨[],rfl,List.nodup_nil,by simp⟩ }
  rw[OA]
  have fP:∀i,m<=i->aa K i=.none:=fun i hi=>by
   rcases gu with h'|h'
   ·omega
   ·have:=dq Tl i (adK.2 ⟨_,h',rfl⟩);omega
  have D4:TF g l.length (nI m (B7 rc.ps.toList args (uw 0 l)) K) { tmps:=(rc.ps.toList.zip vs).foldl (fun tm (pv)=>tm.setIfInBounds pv.1 pv.2) tmps,defers:=[] } w:=by
   refine⟨⟨G,?_⟩,adM _,?_⟩
   ·grind [nI,iV,uH,iq]
   simp_all [nI,iV,iq]
  refine D6 false l.length rc.as _ e1 s1 aag _ (wide_round b) (nofun) g _ w _ D4 fun a1 w1 hs=>?_
  cases e1 with
  |ret=>grind
  |exit i=>grind
  |normal=>
   simp at hx
   unfold JV at hx
   split at hx
   ·rename_i rc1 l1 ql
    obtain⟨⟨e2,s2⟩,aah,hx⟩:=ad hx
    obtain⟨⟨G1,st1⟩,fM,VJ⟩:=hs
    obtain⟨rr,Nv,SN,To,kY,_⟩:=st1.uv ql (by rwa[st1.fE 0 D3])
    have OB:=kY .busy
    have OC:({ rr with state:=wG.busy.st,pending:=wG.busy.zR })={ rr with state:=.busy }:=by
     grind [wG.st,wG.zR]
    rw[OC]at OB
    refine⟨_,(run_beginRound (P:=P) Nv SN),?_⟩
    refine D6 false l.length rc.bd _ e2 s2 aah _ (wide_round b) (nofun) g _ _ _ ⟨⟨G1,by grind [rK]⟩,fM,fun i hi=>by
     simp[rK]
     grind [ah]⟩ fun a2 w2 lH=>?_
    unfold JU at hx
    split at hx
    ·rename_i rc2 l2 JK
     obtain⟨⟨G2,st2⟩,_,_⟩:=lH
     obtain⟨r2,VK,_,_,OD,_⟩:=st2.uv JK (by rwa[st2.fE 0 D3])
     rw[rK]at hx
     obtain⟨rs,K',G',q1,q2⟩:=cE.out rfl (OD (vp e2)) hx (us:=[.bool _]) ⟨rfl,fun j d v hd hv=>by
      cases j with
      |zero=>simp at hd hv;subst hd;subst hv;exact .dv (.bool _)
      |succ j=>simp at hd⟩ (fun d u _ hu=>by injection hu) (nofun)
     have iO:=run_endRound (P:=P) (sw e2) VK
     cases e2 with
     |normal=>exact⟨_,_,iO,_,rs,K',G',rfl,q1,q2⟩
     |ret=>exact⟨_,_,iO,_,rs,K',G',rfl,q1,q2⟩
     |exit i=>exact⟨_,_,iO,_,rs,K',G',rfl,q1,q2⟩
    grind
   grind
 grind
end
end
section
open Go.RowKit
variable [cy]
section
variable {P:Program} {T:List TI} {go:jt}
theorem x9(hT:fB P T)(D6:LC P go)(eX:∀(g:Nat) (fn:Func),P.funcs[g]?=some fn->(fn.name== "runtime.NumGoroutine")=false){fuel n nx:Nat}{ρ:Nat->AV}{κ:Nat->ax}{x:Operand}{ps:Array Tmp}{as bd:Code}{f:Nat}{bR:List AV}{e:AX}{s':XS}
 (h:wN P T go fuel nx ρ (SO κ nx (.dF ⟨ps,as,bd⟩ .ready (cx ρ 0 n))) f bR=.ok (e,s')) {g:eb} {a:Act} {w:World} {R:Exit->Act->World->Prop} {G:Gh} (aq:cE g n ρ κ a w G) (dS:g.m<=nx) (hn:∀i,nx<=i->κ i=.none)
 {vs:List Value} (hx:a.eval x=.func (.func f) #[] vs.toArray) (jV:cG G bR vs) (hR:∀a w,TF g n s' a w->R (ug e) a w):(Code.rangeFunc x ps as bd).wpIn Fence.wide 0 P R a w:=by
 rw[rK]at h
 generalize hκ1:ju κ nx _=κ1 at h
 unfold wN at h
 obtain⟨q,hq,h⟩:=ad h
 unfold sO HC HB at hq
 generalize HA κ1 fuel _ []=σ at hq
 obtain⟨fQ,hq⟩:=aC hq
 obtain⟨r,jU,hq⟩:=ad hq
 unfold OO at hq
 obtain⟨ZX,hq⟩:=aC hq
 injection hq with hq;subst hq
 have jT:=x8 hT D6 eX fuel f _ _ _ r jU
 simp[adT]at fQ
 refine wpIn_rangeFunc fun fn _=>?_
 obtain⟨st1,hle⟩:=aq.enterLoop (hn nx (adM _)) dS ⟨ps,as,bd⟩ fn
 rw[hκ1]at st1
 have BL:∀i,i<g.m->ju G.β nx (some (w.heap.size+1)) i=g.β i:=fun i hi=>by rw[ah _ _ (by omega)];exact aq.fE i hi
 have VJ:∀i,nx+1<=i->κ1 i=.none:=fun i hi=>by rw[<-hκ1,ah _ _ (by omega)];grind
 have hrel:=by
  have h1:cG { G with β:=ju G.β nx _ } [.eC nx] [.func (.yield (w.heap.size+1)) #[] #[]]:=
   ⟨rfl,fun j d v hd hv=>by
    cases j with
    |zero=>simp at hd hv;subst hd;subst hv;exact .eC nx _ (bD _ _ _)
    |succ j=>grind⟩
  exact h1.append (jV.mono hle)
 obtain⟨β,_,bG⟩:=nF (hd:=none) (lh P f) jT.2 VJ (by grind) (qp _) (xY σ [] rfl) (fun rs K1 hr=>by grind) (sL fQ.2) (adM _) (st1.upto (nx+1)) hrel (fun _ _=>rfl)
 refine⟨w.heap.size+1,[mark w.heap.size],_,⟨.fn (.func f) vs.toArray,#[.func (.yield (w.heap.size+1)) #[] #[]]⟩,((w.alloc (.deferred (some []))).alloc (.loop { state:=.ready,pending:=none,fn:=fn,tmps:=a.tmps,params:=ps,assign:=as,body:=bd,defers:=w.heap.size })),f,(Value.func (.yield (w.heap.size+1)) #[] #[]::vs).toArray,((w.alloc (.deferred (some []))).alloc (.loop { state:=.ready,pending:=none,fn:=fn,tmps:=a.tmps,params:=ps,assign:=as,body:=bd,defers:=w.heap.size })),run_enterLoop_outer fn a.tmps ps as bd,?_,fun _ _=>trivial,?_,(nofun),?_⟩
 ·simp_all [Array.map,Act.eval,resolve,rangeCall,Deferred.ofValue,Sem.run_pure]
 ·have:(#[Value.func (.yield (w.heap.size+1)) #[] #[]]++vs.toArray)=(Value.func (.yield (w.heap.size+1)) #[] #[]::vs).toArray:=by simp
  simp only[invoke]
  rw[this]
  exact iP jT.1 _ _
 ·refine(iA.calls).2 (Calls.mono bG ?_)
  rintro e2 w2 ⟨v,rs,K2,G3,rfl,⟨rfl,rfl⟩,Hp,_⟩
  have Jr:∀i,nx+1+r.2.2<=i->aF κ1 (bJ (sg σ (nx+1)) (kz κ1 σ) r.2.1++l9 κ1 (eh κ1 (eu (sg σ (nx+1)) c7 (Ln κ1 σ (.eC nx::bR))) (.eC nx::bR)++eV κ1 (bJ (sg σ (nx+1)) c7 (W6 κ1 σ 0 σ)))) i=.none:=by
   refine pE VJ (Nat.le_add_right _ _) fun p hp=>?_
   have Hq:=by
    have:=ZX
    simp[gw,adT]at this
    exact this.1.1.2
   have hσ1:=by
    have:=fQ.1.1
    simp[gZ,adT]at this
    exact(jz this.1.1.1.1.1.1).1
   rcases adr.1 hp with hp|hp
   ·obtain⟨j,h1,h2⟩:=mG hp
    have hj:=dq Hq j h1
    grind [Nat.lt_or_ge,mI,List.getElem_mem,sg,lT]
   ·have:=uo VJ hp;omega
  unfold JY at h
  simp[iV]at h
  generalize hκ3:aF κ1 (bJ (sg σ (nx+1)) (kz κ1 σ) r.2.1++l9 κ1 (eh κ1 (eu (sg σ (nx+1)) c7 (Ln κ1 σ (.eC nx::bR))) (.eC nx::bR)++eV κ1 (bJ (sg σ (nx+1)) c7 (W6 κ1 σ 0 σ))))=κ3 at*
  have fin:∀(GU:RC) (st:wG) (l:List AV),κ3 nx=.dF GU st l->st.st≠.busy->st.zR=sw e->s'=⟨nx+1+r.2.2,ρ,SO κ3 nx .dead⟩->rangePost Fence.wide 0 P (w.heap.size+1) R { a with defers:=[mark w.heap.size]++a.defers } (.returned v) w2:=by
   intro GU st l hk hb hp gH
   obtain⟨rr,h1,h2,h3,_,Ox⟩:=Hp.uv hk ((Hp.fE nx (Nat.lt_succ_self nx)).trans (bD _ _ _))
   have st4:=(Ox (.loop { rr with state:=.exhausted })).Ow (Nat.le_succ_of_le dS) BL
   have hs4:TF g n s' { a with defers:=[mark w.heap.size]++a.defers } (w2.putObj (w.heap.size+1) (.loop { rr with state:=.exhausted })):=by
    subst gH
    exact⟨⟨G3,by grind [rK]⟩,by grind,fun i hi=>by
     have SK:nx+1+r.2.2<=i:=hi
     simp[rK];grind [ah]⟩
   have pf:=hR _ _ hs4
   refine⟨rr.pending,_,run_endLoop h1 (by grind),?_⟩
   have GV:=h3.trans hp
   rw[GV]at pf
   rw[GV]
   cases e with
   |normal=>exact pf
   |ret=>exact wpIn_ret pf
   |exit i=>exact wpIn_exit pf
  unfold AM at h
  split at h
  ·rename_i GU st l hk
   split at h
   ·injection h with h
    injection h with h1 h2
    exact fin GU .ready l hk (by simp[wG.st]) (by rw[<-h1];rfl) h2.symm
   ·rename_i e'
    injection h with h
    injection h with h1 h2
    exact fin GU (.done e') l hk (by simp[wG.st]) (by rw[<-h1];rfl) h2.symm
   ·cases h
  grind
theorem LF(hT:fB P T)(hm:P.follows .mixedOrders=true)(eX:∀(g:Nat) (fn:Func),P.funcs[g]?=some fn->(fn.name== "runtime.NumGoroutine")=false)(pol:Nat->Bool)(f:Nat)(D6:LC P go):LC P (lu P T pol f go):=by
 intro r n c s e s' h F hF hr g a w R hs hR
 have JA:∀(ops:List Oper) (d:Bool),rJ P (fun _=>True) ops n (EL T pol (OX P T go f d) ops n):=fun ops d=>O9 hT (fun g=>x8 hT D6 eX f g) (LD D6 f) (eY P)
 cases c with
 |skip=>
  injection h with h;injection h with h1 h2;subst h1;subst h2
  exact wpIn_skip (hR a w hs)
 |region id ops draw=>
  simp[lu]at h
  cases draw with
  |false=>
   simp[JW]at h
   obtain⟨s1,h1,h⟩:=ad h
   injection h with h;injection h with e1 e2;subst e1;subst e2
   refine wpIn_region_list ?_
   have:=x7 (JA ops.toList false) trivial hF hR ops.toList s a w h1 hs
   simp_all
  |true=>
   simp[EP]at h
   obtain⟨⟨s1,rs⟩,h1,h⟩:=ad h
   obtain⟨BR,h⟩:=aC h
   injection h with h;injection h with e1 e2;subst e1;subst e2
   refine wpIn_region_any hm ?_
   obtain⟨hlen,oJ,hn,he,hk,bO⟩:=vu (JA ops.toList true) ops.toList [] s [] rfl rfl (adM _) hs.2.2 rfl rfl (by simp) h1
   have B3:(fun i=>(Array.replicate ops.size false).getD i false)=fun _=>false:=by
    funext i
    simp[adt,Array.getElem?_replicate]
    grind
   have N9:St g n s.ρ s.κ a { w with drawn:=w.drawn+1 }:=by
    obtain⟨G,h1⟩:=hs.1
    exact⟨G,h1.drawn _⟩
   have:=Au trivial hF hs.2.1 BR hlen bO (fun a w aq=>hR a w ⟨by grind,Nat.le_trans hs.2.1 oJ,hn⟩) ops.size (Array.replicate ops.size false) a { w with drawn:=w.drawn+1 } (by simp)
    (by grind [B0,Array.replicate])
    (fun i o _ hi=>by rw[congrFun B3 i]at hi;grind)
    (by grind [sF])
   simp_all
 |seq x y=>
  simp[lu]at h
  obtain⟨⟨e1,s1⟩,h1,h⟩:=ad h
  refine wpIn_seq (D6 r n x s e1 s1 h1 F hF hr g a w _ hs fun a1 w1 ku=>?_)
  unfold aad at h
  cases e1 with
  |normal=>exact D6 r n y s1 e s' h F hF hr g a1 w1 _ ku hR
  |ret=>injection h with h;injection h with q1 q2;subst q1;subst q2;exact hR a1 w1 ku
  |exit i=>injection h with h;injection h with q1 q2;subst q1;subst q2;exact hR a1 w1 ku
 |cond x y z=>
  simp[lu]at h
  obtain⟨t,h1,h⟩:=ad h
  obtain⟨G,aq⟩:=hs.1
  have hv:=AF (x:=x) s.ρ s.κ ⟨fun _ _=>rfl,fun _ _=>rfl⟩ g n a w G aq
  rw[(jD (aP h1))]at hv
  generalize hx:a.eval x=v at hv
  cases hv with|dv hv=>cases hv with|bool=>
  refine wpIn_cond_split hx (fun et=>?_) (fun et=>?_)
  ·subst et;exact D6 r n y s e s' h F hF hr g a w _ hs hR
  ·subst et;exact D6 r n z s e s' h F hF hr g a w _ hs hR
 |block id c=>
  simp[lu]at h
  obtain⟨⟨e1,s1⟩,h1,h⟩:=ad h
  refine wpIn_block (D6 r n c s e1 s1 h1 F hF hr g a w _ hs fun a1 w1 ku=>?_)
  unfold OY at h
  cases e1 with
  |normal=>injection h with h;injection h with q1 q2;subst q1;subst q2;exact hR a1 w1 ku
  |ret=>injection h with h;injection h with q1 q2;subst q1;subst q2;exact hR a1 w1 ku
  |exit i=>
   simp at h
   simp[ug,Exit.inBlock]
   cases hb:Nat.beq i id with
   |true=>
    rw[hb]at h
    injection h with h;injection h with q1 q2;subst q1;subst q2
    rw[if_pos (adm hb)];exact hR a1 w1 ku
   |false=>
    rw[hb]at h
    injection h with h;injection h with q1 q2;subst q1;subst q2
    rw[if_neg (fun e=>by simp_all)]
    exact hR a1 w1 ku
 |exit id=>
  injection h with h;injection h with h1 h2;subst h1;subst h2
  exact wpIn_exit (hR a w hs)
 |ret=>
  injection h with h;injection h with h1 h2;subst h1;subst h2
  exact wpIn_ret (hR a w hs)
 |scope c=>
  simp[lu]at h
  refine xD (D6 r n c s e s' h F hF hr g a w _ hs fun a1 w1 ku=>?_)
  cases e with
  |normal=>exact hR a1 w1 ku
  |ret=>exact hR a1 w1 ku
  |exit i=>exact hR a1 w1 ku
 |label l=>
  injection h with h;injection h with h1 h2;subst h1;subst h2
  exact wpIn_label (hR a w hs)
 |loop c=>
  simp[lu]at h
  have key:∀(k:Nat) (s:XS) (a:Act) (w:World),JX go r n c k s=.ok (e,s')->TF g n s a w->Code.roundsIn F 0 P c R k a w:=by
   intro k
   induction k with
   |zero=>intro s a w h;cases h
   |succ k ih=>
    intro s a w h hs
    simp[JX]at h
    obtain⟨⟨e1,s1⟩,h1,h⟩:=ad h
    refine D6 r n c s e1 s1 h1 F hF hr g a w _ hs fun a1 w1 ku=>?_
    cases e1 with
    |normal=>exact ih s1 a1 w1 h ku
    |ret=>simp only at h;injection h with h;injection h with q1 q2;subst q1;subst q2;exact hR a1 w1 ku
    |exit i=>simp only at h;injection h with h;injection h with q1 q2;subst q1;subst q2;exact hR a1 w1 ku
  grind [wpIn_loop_rounds]
 |rangeFunc x ps as bd=>
  simp[lu]at h
  obtain⟨hrt,h⟩:=aC h
  have hFw:=hr hrt
  subst hFw
  obtain⟨⟨G,aq⟩,dS,hn⟩:=hs
  have hv:=AF (x:=x) s.ρ s.κ ⟨fun _ _=>rfl,fun _ _=>rfl⟩ g n a w G aq
  unfold OZ JZ at h
  generalize ev s.ρ s.κ x=vx at h hv
  generalize hx:a.eval x=y at hv
  split at h
  ·cases hv with|fn _ _ vs hl ZE=>exact x9 hT D6 eX h aq dS hn hx ⟨hl,ZE⟩ hR
  ·split at h
   ·cases hv with|dv hd=>cases hd with|fn _ _ vs hl ZE=>exact x9 hT D6 eX h aq dS hn hx (jC ⟨hl,ZE⟩) hR
   grind
  grind
 |goto l=>simp[lu]at h
 |refuse w=>simp[lu]at h
theorem EZ(hT:fB P T)(hm:P.follows .mixedOrders=true)(eX:∀(g:Nat) (fn:Func),P.funcs[g]?=some fn->(fn.name== "runtime.NumGoroutine")=false)(pol:Nat->Bool):∀f,LC P (O0 P T pol f)
 |0=>by intro r n c s e s' h;cases h
 |f+1=>LF hT hm eX pol f (EZ hT hm eX pol f)
theorem LG(hT:fB P T)(hm:P.follows .mixedOrders=true)(eX:∀(g:Nat) (fn:Func),P.funcs[g]?=some fn->(fn.name== "runtime.NumGoroutine")=false){pol:Nat->Bool}{f g:Nat}{args:List AV}{m:Nat}{K:ae}{rs:List AV}{K':ae}{ex:Nat}(h:Xc P T pol f g args m K=.ok (rs,K',ex)):aw P g args m K ex rs K':=
 x8 hT (EZ hT hm eX pol f) eX f g args m K (rs,K',ex) h
end
end
section
open Go.RowKit
variable [cy]
def xfz(r:XR (List AV×ae×Nat)):Option (List DV):=match r with
 |.ok q=>match uI (aa q.2.1) q.1 with
  |some p=>some p.1
  |none=>none
 |.no _=>none
section
variable {P:Program} {T:List TI}
theorem E0{G:Gh}{ds:List DV}{vs:List Value}(h:fS G.M ds vs):cG G (ya ds) vs:=by
 refine⟨by rw[wP];simpa using h.1,fun j d v hd hv=>?_⟩
 rw[wP,adk]at hd
 cases hj:ds[j]? with
 |none=>grind
 |some x=>
  rw[hj]at hd
  simp[Option.map_some,Option.some.injEq]at hd
  subst hd
  exact qj (h.2 j x v hj hv)
theorem ar(hT:fB P T)(hm:P.follows .mixedOrders=true)(eX:∀(g:Nat) (fn:Func),P.funcs[g]?=some fn->(fn.name== "runtime.NumGoroutine")=false){pol:Nat->Bool}{fuel f:Nat}{args rs:List DV}(h:xfz (Xc P T pol fuel f (ya args) 0 [])=some rs):ai P f args rs:=by
 cases hx:Xc P T pol fuel f (ya args) 0 []with
 |no y=>grind [xfz]
 |ok r=>
  obtain⟨rs0,K',ex⟩:=r
  rw[hx]at h
  simp[xfz]at h
  split at h
  ·rename_i p hp
   obtain⟨ds,ids⟩:=p
   injection h with h
   subst h
   have hc:=LG hT hm eX hx
   obtain⟨jU,jT⟩:=hc
   refine⟨jU,fun w M vs dz nr hr=>?_⟩
   let G0:Gh:=⟨M,fun _=>none,fun _ _ _ _=>none,fun _ _=>False⟩
   have hc:=jT w G0 vs nr ⟨dz,fun i=>⟨rfl,fun _ _ _=>rfl⟩,fun i b ho=>ho.elim,fun i j b ho=>ho.elim⟩ (E0 hr)
   refine hc.mono ?_
   rintro e w' ⟨v,rs1,K1,G',rfl,⟨rfl,rfl⟩,out⟩
   have fP:∀i b,cH G' i _ b->w.heap.size<=b:=fun i b ho=>by
    rcases out.Ez i b ho with h|⟨j,h⟩
    ·grind
    ·exact h.elim
   let g:eb:=⟨fun b=>∃i,cH G' i (aa K1 i) b,w',G'.M,0,fun _=>none,fun _ _=>none⟩
   have aq:cE g 0 (fun _=>.any) (aa K1) { tmps:=#[],defers:=[] } w' G':=by
    refine { fit:=out.fit,env:=fun t=>.any _,size:=rfl,zC:=fun _ _ _=>rfl,os:=rfl,tape:=rfl,output:=rfl,grow:=adM _,mem:=.refl _,ny:=fun _ _ _=>rfl,gR:=fun i b ho=>.inr ⟨i,ho⟩,fE:=nofun,wb:=nofun,oW:=nr.mono out.le,tU:=⟨[],rfl,List.nodup_nil,by simp⟩ }
   obtain⟨G2,hle,_,_,_,lL⟩:=aq.qh ids (fun _ _=>rfl)
   refine⟨v,G2.M,rfl,⟨out.os,out.tape,out.output,out.size,fun b hb=>(out.frame b hb (fun i h=>h.elim)).1⟩,out.le.trans hle.mem,lL.fit.sub,fun b hb=>?_,?_⟩
   ·rw[(lL.ny b (Nat.lt_of_lt_of_le hb out.size) fun⟨i,ho⟩=>by grind)]
    exact(out.frame b hb (fun i h=>h.elim)).2
   ·have key:∀us,cG G' rs1 us->fS G2.M ds us:=fun us hu=>kA (fun _ _=>rfl) hle lL.fit hp (fun _ h=>h) hu
    have hv:=out.res
    match rs1,hv,key with
    |[],hv,key=>
     cases hv with|gr _ us hl hr=>
     have hd:=key us ⟨hl,hr⟩
     have:=by simpa using hl.symm
     subst this
     have:=by have:=hd.1;simpa using this
     subst this
     exact⟨[],rfl,hd⟩
    |[x],hv,key=>
     have hd:=key [v] ⟨rfl,fun j d u h1 h2=>by
      cases j with
      |zero=>simp at h1 h2;subst h1;subst h2;exact hv
      |succ j=>grind⟩
     match ds,hd with
     |[],hd=>have:=hd.1;grind
     |[d],hd=>exact hd.2 0 d v rfl rfl
     |_::_::_,hd=>have:=hd.1;grind
    |x::y::r,hv,key=>
     cases hv with|gr _ us hl hr=>
     have hd:=key us ⟨hl,hr⟩
     have h2:=hd.1
     match ds,hd,h2 with
     |[],hd,h2=>grind
     |[d],hd,h2=>grind
     |a::b::c,hd,h2=>exact⟨us,rfl,hd⟩
  grind
end
end
section
open Go.RowKit
variable [cy]
end
section
open Go.RowKit
variable [cy]
inductive E1:ax->ax->Prop
 |refl (b:ax):E1 b b
 |omap (v e:Nat) (ks:KS) {m m':List DV} (h:m.Perm m'):E1 (.tree v e (.omap ks m)) (.tree v e (.omap ks m'))
def AT(k k':ae):Prop:=∀i,E1 (aa k i) (aa k' i)
theorem AT.refl(k:ae):AT k k:=fun _=>.refl _
theorem AT.cons{i:Nat}{b b':ax}{k k':ae}(h:E1 b b')(t:AT k k'):AT ((i,b)::k) ((i,b')::k'):=fun j=>by
 simp[aa]
 cases Nat.beq i j with
 |true=>grind
 |false=>exact t j
theorem AU{ks:KS}{m m':List DV}(hu:UK m)(hp:m.Perm m')(s:PS)(r:List PS):get (.omap ks m) (s::r)=get (.omap ks m') (s::r):=by
 have hs:step (.omap ks m) s=step (.omap ks m') s:=by
  cases s with
  |el i j=>rfl
  |key k j=>simp[step,hu.my hp k]
 grind [get]
theorem uJ{ks:KS}{m m':List DV}(hu:UK m)(hp:m.Perm m'){p:List PS}{n:DV}(h:get (.omap ks m) p=some n)(hn:n.au=true):∃n',get (.omap ks m') p=some n'/\n'.au=true:=by
 cases p with
 |nil=>exact⟨_,rfl,rfl⟩
 |cons s r=>grind [AU]
theorem br.J5{M:Mem}{w:World}{H:List PS->Option Value}{ks:KS}{m m':List DV}(h:br M w H (.omap ks m))(hp:m.Perm m'):UK m/\br M w H (.omap ks m'):=by
 obtain⟨v,h1,h2,h3⟩:=h.2 [] _ rfl rfl
 have hu:=cR.uk h3
 refine⟨hu,rfl,fun p n hg hn=>?_⟩
 cases p with
 |nil=>
  have hg:=by simpa[get]using hg
  subst hg
  obtain⟨m0,q,rest⟩:=h3
  exact⟨v,h1,h2,m0,q.trans hp,rest⟩
 |cons s r=>
  rw[<-AU hu hp]at hg
  exact h.2 _ n hg hn
theorem bN.J5{H:List PS->Option Value}{ks:KS}{m m':List DV}(hu:UK m)(hp:m.Perm m'){b:Nat}(h:bN H (.omap ks m) b):bN H (.omap ks m') b:=by
 obtain⟨p,n,v,h1,h2,h3,h4⟩:=h
 obtain⟨n',e1,e2⟩:=uJ hu hp h1 h2
 exact⟨p,n',v,e1,e2,h3,h4⟩
theorem gF.aai{G:Gh}{w:World}{i:Nat}{b c:ax}(h:gF G w i b)(p:E1 b c):gF G w i c/\∀x,cH G i c x↔cH G i b x:=by
 cases p with
 |refl=>grind
 |omap v e ks hp=>
  obtain⟨h1,h2,h3,h4⟩:=h
  obtain⟨hu,ht⟩:=h1.J5 hp
  have Zv:=hu.perm hp
  refine⟨⟨ht,fun p q n m u v b e1 e2 e3 e4 e5 e6 e7 e8=>?_,h3,h4⟩,fun x=>⟨fun o=>bN.J5 Zv hp.symm o,fun o=>bN.J5 hu hp o⟩⟩
  obtain⟨n',a1,a2⟩:=uJ Zv hp.symm e1 e2
  obtain⟨m',b1,b2⟩:=uJ Zv hp.symm e5 e6
  exact h2 p q n' m' u v b a1 a2 e3 e4 b1 b2 e7 e8
theorem rO{P:Program}{f:Nat}{args:List AV}{m:Nat}{K:ae}{ex:Nat}{rs:List AV}{K0:ae}(h:bX P f args m K ex fun r k=>r=rs/\AT k K0):aw P f args m K ex rs K0:=by
 refine⟨h.1,fun w G vs nr di hr=>?_⟩
 refine Calls.mono (h.2 w G vs nr di hr) ?_
 rintro e w' ⟨v,r,k,G',rfl,⟨rfl,hp⟩,hc⟩
 have hb:=fun i=>(hc.fit.box i).aai (hp i)
 refine⟨v,r,K0,G',rfl,⟨rfl,rfl⟩,{ hc with fit:=⟨hc.fit.sub,fun i=>(hb i).1,fun i b o=>hc.fit.own i b (((hb i).2 b).1 o),fun i j b o o'=>hc.fit.inj i j b (((hb i).2 b).1 o) (((hb j).2 b).1 o')⟩,no:=fun i hi=>?_,Ez:=fun i b o=>hc.Ez i b (((hb i).2 b).1 o) }⟩
 have h2:=hp i
 rw[(hc.no i hi)]at h2
 generalize aa K0 i=c at h2
 cases h2
 rfl
end
section
open Go.RowKit
theorem oA.gG{a p:Prop}(h:p):(a->a)/\p:=⟨id,h⟩
theorem oB.gG{b:Bool}{a p:Prop}(h:p):(a->b=false->bw b false=true)/\p:=⟨fun _ e=>by subst e;rfl,h⟩
theorem oC.gG{b:Bool}{a p:Prop}(h:p):(a->b=true->bw b true=true)/\p:=⟨fun _ e=>by subst e;rfl,h⟩
theorem oD.gG{a b:Bool}{p:Prop}(h:p):(a=true->a=true/\(b=true->(a&&bw b true)=true))/\p:=⟨fun c=>⟨c,fun e=>by subst c;subst e;rfl⟩,h⟩
theorem oE.gG{a b:Bool}{p:Prop}(h:p):(a=true->a=true/\(b=false->(a&&bw b false)=true))/\p:=⟨fun c=>⟨c,fun e=>by subst c;subst e;rfl⟩,h⟩
variable [cy]
mutual
theorem J6{m:Nat}{κ κ':Nat->ax}:∀(v w:AV),kf m κ v=w->gM m κ κ' w v
 |.any,_,rfl=>trivial
 |.dv d,_,rfl=>DV.Le.refl d
 |.ptr i o,_,rfl=>rfl
 |.own i v e p,w,h=>by
  simp only[kf]at h
  split at h
  ·rename_i v' e' d hk
   cases hb:Nat.beq v v'&&(emp p||Nat.beq e e')with
   |true=>rw[hb]at h;subst h;show kf m κ (.own i v e p)=_;simp only[kf,hk,hb];rfl
   |false=>rw[hb]at h;subst h;exact trivial
  ·rename_i hk
   cases hb:Nat.beq v 0&&(emp p||Nat.beq e 0)with
   |true=>rw[hb]at h;subst h;show kf m κ (.own i v e p)=_;simp only[kf,hk,hb];rfl
   |false=>rw[hb]at h;subst h;exact trivial
  ·subst h;exact trivial
 |.loc i v e p a b c,w,h=>by
  have h2:=h
  simp only[kf]at h
  split at h
  ·rename_i v' e' d hk
   cases hb:Nat.beq v v'&&(emp p||Nat.beq e e')with
   |true=>rw[hb]at h;subst h;exact h2
   |false=>rw[hb]at h;subst h;exact trivial
  ·subst h;exact trivial
 |.pre i v e p a b c,w,h=>by
  have h2:=h
  simp only[kf]at h
  split at h
  ·rename_i v' e' d hk
   cases hb:Nat.beq v v'&&(emp p||Nat.beq e e')with
   |true=>rw[hb]at h;subst h;exact h2
   |false=>rw[hb]at h;subst h;exact trivial
  ·subst h;exact trivial
 |.fn f l,_,rfl=>⟨rfl,gU l _ rfl⟩
 |.kq f l,_,rfl=>⟨rfl,gU l _ rfl⟩
 |.agg l,_,rfl=>gU l _ rfl
 |.gr l,_,rfl=>gU l _ rfl
 |.opt _ _,_,rfl=>trivial
 |.eC _,_,rfl=>rfl
 |.sle _ _,_,rfl=>rfl
 |.cD i v,w,h=>by
  have h2:=h
  simp only[kf]at h
  split at h
  ·rename_i v' e' d hk
   cases hb:Nat.beq v v' with
   |true=>rw[hb]at h;subst h;exact h2
   |false=>rw[hb]at h;subst h;exact trivial
  ·subst h;exact trivial
theorem gU{m:Nat}{κ κ':Nat->ax}:∀(l r:List AV),nH m κ l=r->ed m κ κ' r l
 |[],_,rfl=>trivial
 |v::l,_,rfl=>⟨J6 v _ rfl,gU l _ rfl⟩
end
def Xj(m:Nat)(κ:Nat->ax)(ρ:Nat->AV):Env->Env
 |[]=>[]
 |p::r=>(p.1,kf m κ (ρ p.1))::Xj m κ ρ r
def aaj(m i:Nat)(κ:Nat->ax):ax->ax
 |.cells l=>.cells (nH m κ l)
 |.tree V E d=>.tree (jG m i V E).1 (jG m i V E).2 d
 |.fz V d=>.fz (jG m i V 0).1 d
 |.dF rc st l=>.dF rc st (nH m κ l)
 |.dead=>.dead
 |.held=>.held
 |_=>.none
def LH(m:Nat)(κ:Nat->ax):ae->ae
 |[]=>[]
 |p::r=>(p.1,aaj m p.1 κ (κ p.1))::LH m κ r
theorem J7{m:Nat}{κ κ':Nat->ax}{ρ:Nat->AV}:∀{e e':Env},Xj m κ ρ e=e'->N0 m ρ κ κ' e'
 |[],_,rfl=>trivial
 |(t,v)::r,_,rfl=>⟨J6 _ _ rfl,J7 (e:=r) rfl⟩
theorem nO{m i:Nat}{κ κ':Nat->ax}{b b':ax}(h:aaj m i κ b=b'):oK m κ κ' i b b':=by
 subst h
 cases b with
 |cells l=>exact gU l _ rfl
 |tree V E d=>exact⟨rfl,rfl⟩
 |fz V d=>exact⟨rfl,DV.Le.refl d⟩
 |dF rc st l=>exact⟨rfl,rfl,gU l _ rfl⟩
 |_=>exact trivial
theorem bl{m:Nat}{κ κ':Nat->ax}:∀{k k':ae},LH m κ k=k'->o6 m κ κ' k'
 |[],_,rfl=>trivial
 |(i,b)::r,_,rfl=>⟨nO rfl,bl (k:=r) rfl⟩
theorem jn{m:Nat}{env:Env}{K:ae}{s:cU}(h1:Xj m (aa K) (look env) s.env=s.env)(h2:LH m (aa K) s.K=s.K)(h3:zT (aa s.K) (Ax (look env) (aa K) s.env++eV (aa K) s.K)=true)(h4:vj (aa K) (aa s.K) m=true):cU.sub m env K s:=
 ⟨J7 h1,bl h2,h3,h4⟩
theorem ext{m ex:Nat}{κ:Nat->ax}{lJ rs:List AV}{K':ae}(h0:pd m ex κ lJ rs K'=true)(h1:nH m κ lJ=rs)(h2:LH m κ K'=K'):∃wh K'',(wh=rs/\K''=K')/\pd m ex κ lJ wh K''=true/\ed m κ (aa K'') wh lJ/\o6 m κ (aa K'') K'':=
 ⟨rs,K',⟨rfl,rfl⟩,h0,gU _ _ h1,bl h2⟩
theorem cl{P:Program}{f:Nat}{n nx:Nat}{o:Oper}{g:Bool}{κ:Nat->ax}{k:lK->Nat->Prop}{args bU:List AV}{K0:ae}{ex:Nat}{rs:List AV}{K1:ae}(σ:List Nat)(hs:aw P f bU σ.length K0 ex rs K1)
 (h0:(gZ κ σ nx args bU K0&&gw σ ex K0 K1 rs)=true) (h1:nH 0 κ args=eu (sg σ nx) c7 bU) (h2:LH 0 κ (bJ (sg σ nx) c7 K0)=bJ (sg σ nx) c7 K0)
 (h:o8 (mr (sg σ nx) (kz κ σ) (qK rs)) fun v=>qT v fun v=>o7 (bJ (sg σ nx) (kz κ σ) K1++l9 κ (eh κ (eu (sg σ nx) c7 bU) args++eV κ (bJ (sg σ nx) c7 K0))) fun bx=>xC bx fun bx=>
  xZ n o g (nx+ex) k v bx (σ++(eh κ (eu (sg σ nx) c7 bU) args++eV κ (bJ (sg σ nx) c7 K0))++me nx ex)):kh none (bX P f) n o g nx κ k args:=by
 simp only[adT]at h0
 exact⟨σ,bU,K0,ex,rs,K1,hs,by rw[h0.1];rfl,h0.2,gU _ _ h1,bl h2,h⟩
end
section
open Go.RowKit
variable [cy]
end
section
open Go.RowKit
variable [cy]
section
variable {g:eb} {n:Nat} {ρ:Nat->AV} {κ κ':Nat->ax} {a:Act} {w w':World} {G:Gh}
end
end
section
open Go.RowKit
variable [cy]
end
section
open Go.RowKit
variable [cy]
inductive iI(i v e:Nat):List AV->List AV->Prop
 |nil:iI i v e [] []
 |same (x:AV) {l l':List AV} (h:iI i v e l l'):iI i v e (x::l) (x::l')
 |qW {l l':List AV} (h:iI i v e l l'):iI i v e (.own i 0 0 []::l) (.own i v e []::l')
inductive TH(i v e:Nat):ax->ax->Prop
 |refl (b:ax):TH i v e b b
 |cells {l l':List AV} (h:iI i v e l l'):TH i v e (.cells l) (.cells l')
def ab0(i v e:Nat)(k k':ae):Prop:=∃d,aa k i=.tree 0 0 d/\aa k' i=.tree v e d/\∀j,j≠i->TH i v e (aa k j) (aa k' j)
theorem iI.refl(i v e:Nat):∀l,iI i v e l l
 |[]=>.nil
 |x::l=>.same x (iI.refl i v e l)
theorem iI.len{i v e:Nat}{l l':List AV}(h:iI i v e l l'):l.length=l'.length:=by
 induction h with
 |nil=>rfl
 |same x _ ih=>grind
 |qW _ ih=>grind
theorem iI.ao{i v e:Nat}{l l':List AV}(h:iI i v e l l')(hc:∀v,v∈l->v.ao=true):∀v,v∈l'->v.ao=true:=by
 induction h with
 |nil=>grind
 |same x _ ih=>
  grind
 |qW _ ih=>
  intro y hy
  rcases adp.1 hy with rfl|hy
  ·rfl
  grind
theorem iI.at{i v e:Nat}{l l':List AV}(h:iI i v e l l'):∀(j:Nat) (d:AV),l'[j]?=some d->l[j]?=some d\/(l[j]?=some (.own i 0 0 [])/\d=.own i v e []):=by
 induction h with
 |nil=>grind
 |same x _ ih=>
  grind
 |qW _ ih=>
  grind
def E2(H:Nat->Nat->Nat->List PS->Option Value)(i v e:Nat):Nat->Nat->Nat->List PS->Option Value:=
 fun j v' e' p=>if j=i/\v'=v/\e'=e then H i 0 0 p else H j v' e' p
def mP(G:Gh)(i v e:Nat):Gh:={ G with H:=E2 G.H i v e }
theorem HM(H:Nat->Nat->Nat->List PS->Option Value)(i v e j v' e':Nat)(hn:j≠i):aS (E2 H i v e) j v' e'=aS H j v' e':=by
 funext p
 cases p with
 |nil=>show(if _ then _ else _)=_;rw[if_neg (fun h=>hn h.1)];rfl
 |cons s p=>show(if _ then _ else _)=_;rw[if_neg (fun h=>hn h.1)];rfl
theorem LI(H:Nat->Nat->Nat->List PS->Option Value)(i v e j:Nat)(V2:(v=0/\e=1)\/(v=1/\e=0)):aS (E2 H i v e) j 0 0=aS H j 0 0:=by
 funext p
 cases p with
 |nil=>show(if _ then _ else _)=_;rw[if_neg (fun h=>by omega)];rfl
 |cons s p=>show(if _ then _ else _)=_;rw[if_neg (fun h=>by omega)];rfl
theorem AW(H:Nat->Nat->Nat->List PS->Option Value)(i v e:Nat)(V2:(v=0/\e=1)\/(v=1/\e=0)):aS (E2 H i v e) i v e=aS H i 0 0:=by
 funext p
 cases p with
 |nil=>
  show(if i=i/\v=v/\0=e then H i 0 0 []else H i v 0 [])=H i 0 0 []
  grind
 |cons s p=>show(if i=i/\v=v/\e=e then _ else _)=_;rw[if_pos ⟨rfl,rfl,rfl⟩];rfl
theorem TJ{G:Gh}{i v e:Nat}(V2:(v=0/\e=1)\/(v=1/\e=0))(h1:∀v,0<v->∀e p,G.H i v e p=none)(h2:∀e,0<e->∀p,G.H i 0 e p=none):Gh.Le G (mP G i v e):=by
 refine⟨Mem.Le.refl _,fun _ _ h=>h,fun j v' e' p x hx=>?_⟩
 show(if j=i/\v'=v/\e'=e then _ else _)=_
 grind
theorem Pb{G:Gh}{w:World}{i v e j:Nat}{b b':ax}(V2:(v=0/\e=1)\/(v=1/\e=0))(hle:Gh.Le G (mP G i v e))(hj:j≠i)(hb:gF G w j b)(hr:TH i v e b b'):
 gF (mP G i v e) w j b'/\∀x,cH (mP G i v e) j b' x↔cH G j b x:=by
 have fP:∀v' e' p,(mP G i v e).H j v' e' p=G.H j v' e' p:=fun v' e' p=>by
  show(if _ then _ else _)=_;grind
 have hh:∀v' e',aS (mP G i v e).H j v' e'=aS G.H j v' e':=fun v' e'=>HM G.H i v e j v' e' hj
 cases hr with
 |cells h=>
  obtain⟨b,c,t,h1,h2,h3,h4,h5⟩:=hb
  refine⟨⟨b,c,t,h1,h2,by rw[h3];exact h.len,h.ao h4,fun q d u hd hu=>?_⟩,fun x=>Iff.rfl⟩
  rcases h.at q d hd with h6|⟨h6,rfl⟩
  ·exact(h5 q d u h6 hu).mono hle
  ·cases(h5 q _ u h6 hu)with
   |own _ _ _ _ _ h8 h9=>
    refine .own _ _ _ _ _ ?_ h9
    show aS (E2 G.H i v e) i v e []=_
    simp_all [AW]
 |refl=>
  cases b with
  |none=>exact⟨⟨hb.1,fun v' e' p=>by rw[fP];exact hb.2 v' e' p⟩,fun x=>Iff.rfl⟩
  |dead=>exact⟨tv,fun x=>Iff.rfl⟩
  |cells l=>
   obtain⟨b,c,t,h1,h2,h3,h4,h5⟩:=hb
   exact⟨⟨b,c,t,h1,h2,h3,h4,fun q d u hd hu=>(h5 q d u hd hu).mono hle⟩,fun x=>Iff.rfl⟩
  |tree ver ep d=>
   obtain⟨h1,h2,h3,h4⟩:=hb
   refine⟨⟨by rwa[hh],by grind,fun v' hv e' p=>by grind,fun e' he p=>by grind⟩,fun x=>?_⟩
   show bN _ d x↔bN _ d x
   grind
  |fz ver d=>
   obtain⟨u,h1,h2,h3⟩:=hb
   exact⟨⟨u,by grind,h2,h3⟩,fun x=>Iff.rfl⟩
  |dF rc st l=>
   obtain⟨b,fn,tmps,D,h1,h2,h3⟩:=hb
   exact⟨⟨b,fn,tmps,D,h1,h2,h3.mono hle⟩,fun x=>Iff.rfl⟩
  |held=>exact⟨⟨fun v' hv e' p=>by rw[fP];exact hb.1 v' hv e' p,fun e' he p=>by rw[fP];exact hb.2 e' he p⟩,fun x=>Iff.rfl⟩
  |lG k p d left cur=>
   have h0:aS (mP G i v e).H k 0 0=aS G.H k 0 0:=LI G.H i v e k V2
   obtain⟨r,mb,es,clock,seen,ks,m,hi⟩:=hb
   refine⟨⟨r,mb,es,clock,seen,ks,m,hi.fE,hi.it,by rw[h0];exact hi.tree,by rw[h0];exact hi.inj,hi.node,by rw[h0];exact hi.head,hi.map,hi.left,hi.cur⟩,fun x=>?_⟩
   show(bN _ d x\/_)↔_
   rw[h0];rfl
end
section
open Go.RowKit
variable [cy]
end
section
open Go.RowKit
variable [cy]
def HN:List AV->Bool
 |[]=>true
 |.dv _::r=>HN r
 |_=>false
theorem AY:∀{l:List AV},HN l=true->∀(j:Nat) (d:AV),l[j]?=some d->∃x,d=.dv x
 |.dv x::r,h,0,d,hd=>by grind
 |.dv x::r,h,j+1,d,hd=>AY (l:=r) h j d (by grind)
def Ct:List AV->Bool
 |[]=>true
 |.dv _::r=>Ct r
 |.ptr _ _::r=>Ct r
 |_::_=>false
theorem uK:∀{l:List AV},Ct l=true->∀(j:Nat) (d:AV),l[j]?=some d->(∃x,d=.dv x)\/∃i o,d=.ptr i o
 |.dv x::r,h,0,d,hd=>by grind
 |.dv x::r,h,j+1,d,hd=>uK (l:=r) h j d (by grind)
 |.ptr i o::r,h,0,d,hd=>by grind
 |.ptr i o::r,h,j+1,d,hd=>uK (l:=r) h j d (by grind)
def AZ(i:Nat):AV->Bool
 |.any=>true
 |.dv _=>true
 |.agg l=>HN l
 |.ptr _ _=>true
 |.eC _=>true
 |.fn _ l=>Ct l
 |.own j _ _ _=>!Nat.beq j i
 |_=>false
def yb(i:Nat):List AV->Bool
 |[]=>true
 |v::r=>AZ i v&&yb i r
def Xk(i:Nat):ax->Bool
 |.none=>true
 |.dead=>true
 |.cells l=>yb i l
 |.tree _ _ _=>true
 |.dF _ _ l=>yb i l
 |_=>false
theorem rP{i:Nat}:∀{l:List AV},yb i l=true->∀v,v∈l->AZ i v=true
 |x::r,h,v,hv=>by
  simp[yb,adT]at h
  rcases adp.1 hv with rfl|hv
  ·grind
  ·exact rP h.2 v hv
abbrev vw:=Nat->Nat->List PS->Option Value
def iW(G:Gh)(i:Nat)(Hi:vw):Gh:={ G with H:=fun j=>if j=i then Hi else G.H j }
theorem iD{G:Gh}{i j:Nat}{Hi:vw}(h:j≠i):(iW G i Hi).H j=G.H j:=by
 show(if j=i then Hi else G.H j)=_;grind
theorem jE{G:Gh}{i:Nat}{Hi:vw}:(iW G i Hi).H i=Hi:=by
 show(if i=i then Hi else G.H i)=_;grind
theorem qq{G:Gh}{i j:Nat}{Hi:vw}(h:j≠i)(v e:Nat):aS (iW G i Hi).H j v e=aS G.H j v e:=by
 funext p
 cases p with
 |nil=>show(iW G i Hi).H j v 0 []=_;rw[iD h];rfl
 |cons s p=>show(iW G i Hi).H j v e _=_;rw[iD h];rfl
theorem yc{G:Gh}{i:Nat}{Hi:vw}{a:AV}{x:Value}(ha:AZ i a=true)(h:aK G a x):aK (iW G i Hi) a x:=by
 cases h with
 |dv hd=>exact .dv hd
 |agg l vs hl hr=>
  refine .agg l vs hl fun j d v hd hv=>?_
  obtain⟨x,rfl⟩:=AY (ha) j d hd
  cases hr j _ v hd hv with|dv h=>exact .dv h
 |any=>exact .any _
 |eC j l h=>exact .eC j l h
 |fn f l vs hl hr=>
  refine .fn f l vs hl fun j d v hd hv=>?_
  rcases uK (ha) j d hd with⟨x,rfl⟩|⟨q,o,rfl⟩
  ·cases hr j _ v hd hv with|dv h=>exact .dv h
  ·cases hr j _ v hd hv with|ptr _ _ b hb=>exact .ptr _ _ b hb
 |ptr j off b hb=>exact .ptr j off b hb
 |own j ver ep p _ hv hc=>
  have hj:j≠i:=by
   rintro rfl
   grind [AZ,Bool.not_eq_true',Nat.beq_refl]
  exact .own j ver ep p _ (by rwa[qq hj]) hc
 |_=>cases ha
theorem TK{G:Gh}{w:World}{i j:Nat}{Hi:vw}{b:ax}(hj:j≠i)(hb:Xk i b=true)(h:gF G w j b):gF (iW G i Hi) w j b:=by
 cases b with
 |none=>exact⟨h.1,fun v e p=>by rw[iD hj];exact h.2 v e p⟩
 |dead=>trivial
 |cells l=>
  obtain⟨b,c,t,h1,h2,h3,h4,h5⟩:=h
  exact⟨b,c,t,h1,h2,h3,h4,fun q d u hd hu=>yc (rP hb d (adl hd)) (h5 q d u hd hu)⟩
 |tree ver ep d=>
  obtain⟨h1,h2,h3,h4⟩:=h
  exact⟨by rwa[qq hj],by rwa[qq hj],fun v hv e p=>by simp_all [iD],fun e he p=>by simp_all [iD]⟩
 |dF rc st l=>
  obtain⟨b,fn,tmps,D,h1,h2,h3⟩:=h
  exact⟨b,fn,tmps,D,h1,h2,h3.1,fun q d u hd hu=>yc (rP hb d (adl hd)) (h3.2 q d u hd hu)⟩
 |_=>cases hb
theorem TL{G:Gh}{i j:Nat}{Hi:vw}{b:ax}(hj:j≠i)(hb:Xk i b=true)(x:Nat):cH (iW G i Hi) j b x↔cH G j b x:=by
 cases b with
 |none=>rfl
 |dead=>rfl
 |cells l=>rfl
 |tree ver ep d=>show bN _ d x↔bN _ d x;rw[qq hj]
 |dF rc st l=>rfl
 |_=>cases hb
end
end Go.TM
