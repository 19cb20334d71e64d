import Derived.Test.YtfpebgpgabjieaaGreatDoorGM14
import Derived.LoopNIn
import Derived.Test.YtfpebgpgabjieaaGreatDoorGM13
set_option linter.all false
namespace Go.TM
section
open Go.RowKit
variable [cq]
theorem Xv:∀N:Nat,(∀a b:DV,SizeOf.sizeOf a<N->N3 a b=true->a=b)/\(∀l r:List DV,SizeOf.sizeOf l<N->Aq l r=true->l=r):=by
 intro N
 induction N with
 |zero=>grind
 |succ N ih=>
  refine⟨fun a b cb h=>?_,fun l r cb h=>?_⟩
  ·cases a<;>cases b<;>simp only[N3]at h<;>(try cases h)<;>(try rfl)
   all_goals(try simp[aep]at h)
   ·grind [CJ]
   ·grind [CJ]
   ·grind
   ·grind
   ·grind [Nat.eq_of_beq_eq_true]
   ·grind [Nat.eq_of_beq_eq_true]
   ·grind [Nat.eq_of_beq_eq_true]
   ·grind
   ·grind [Nat.eq_of_beq_eq_true]
   ·grind
   ·grind [KO]
   grind
  ·cases l with
   |nil=>grind [Aq]
   |cons a l=>cases r with
    |nil=>simp[Aq]at h
    |cons b r=>
     simp[Aq,aep]at h
     grind
theorem CP{a b:DV}(h:N3 a b=true):a=b:=(Xv (SizeOf.sizeOf a+1)).1 a b (by omega) h
theorem Bk:∀{l r:List PS},uN l r=true->l=r
 |[],[],_=>rfl
 |a::l,b::r,h=>by
  simp[uN,aep]at h
  have:a=b:=by
   have h1:=h.1
   cases a<;>cases b<;>simp only[aaE]at h1<;>(try cases h1)<;>simp[aep]at h1
   ·simp_all
   grind [CP,Nat.eq_of_beq_eq_true]
  rw[this,Bk h.2]
 |[],_::_,h=>by simp[uN]at h
 |_::_,[],h=>by simp[uN]at h
theorem Xw:∀N:Nat,(∀a b:AV,SizeOf.sizeOf a<N->eqA a b=true->a=b)/\(∀l r:List AV,SizeOf.sizeOf l<N->Ar l r=true->l=r):=by
 intro N
 induction N with
 |zero=>grind
 |succ N ih=>
  refine⟨fun a b cb h=>?_,fun l r cb h=>?_⟩
  ·cases a<;>cases b<;>simp only[eqA]at h<;>(try cases h)<;>(try rfl)
   all_goals(try simp[aep]at h)
   ·rw[CP h]
   ·simp_all
   ·grind [Nat.eq_of_beq_eq_true,Bk]
   ·grind [Nat.eq_of_beq_eq_true]
   ·grind [Nat.eq_of_beq_eq_true]
   ·grind
   ·grind
   ·simp_all
   ·simp_all
   simp_all
  ·cases l with
   |nil=>grind [Ar]
   |cons a l=>cases r with
    |nil=>simp[Ar]at h
    |cons b r=>
     simp[Ar,aep]at h
     grind
theorem Py{a b:az}(h:Bf a b=true):a=b:=by
 cases a<;>cases b<;>simp[Bf]at h<;>(try grind)
 all_goals(try simp[aep]at h)
 ·rename_i l l';rw[(Xw (SizeOf.sizeOf l+1)).2 l l' (by omega) h]
 ·grind [Nat.eq_of_beq_eq_true,CP]
 grind [Nat.eq_of_beq_eq_true,CP]
theorem rQ{γ:Type _}(f:Nat->γ){i:Nat}:∀{l:List (Nat×γ)},(∀p,p∈l->p.1≠i)->aF f l i=f i
 |[],_=>rfl
 |p::r,h=>by
  obtain⟨j,x⟩:=p
  simp[aF]
  rw[ai _ _ (fun e=>h (j,x) (by simp) e.symm)]
  exact rQ f fun q hq=>h q (by grind)
theorem Bl:∀{l:List (Nat×az)} {p:Nat×az},p∈l->p.1∈jM l
 |[],p,h=>by grind
 |q::r,p,h=>by
  simp[jM,adV]
  rcases adV.1 h with rfl|h
  ·grind
  ·exact .inr (Bl h)
theorem yk{κ:Nat->az}{rd:List Nat}:∀{l:List (Nat×az)} {p:Nat×az},p∈As κ rd l->p∈l
 |[],p,h=>by assumption
 |q::r,p,h=>by
  simp[As]at h
  cases hb:iN q.1 rd&& !iN q.1 _&&Bf q.2 _ with
  |true=>rw[hb]at h;exact adW _ (yk h)
  |false=>
   rw[hb]at h
   rcases adV.1 h with rfl|h
   ·simp
   ·exact adW _ (yk h)
theorem uQ{κ:Nat->az}{rd:List Nat}:∀{l:List (Nat×az)} {p:Nat×az},p∈l->p∈As κ rd l\/p.1∈rd
 |[],p,h=>by grind
 |q::r,p,h=>by
  simp[As]
  cases hb:iN q.1 rd&& !iN q.1 _&&Bf q.2 _ with
  |true=>
   simp[aep]at hb
   rcases adV.1 h with rfl|h
   ·grind [mO]
   ·exact uQ h
  |false=>
   rcases adV.1 h with rfl|h
   ·grind
   ·rcases uQ h with h|h
    ·exact .inl (adW _ h)
    grind
theorem uR{κ κ':Nat->az}{rd:List Nat}(aA:∀i,i∈rd->κ' i=κ i):∀(l:List (Nat×az)),aF κ' (As κ rd l)=aF κ' l
 |[]=>rfl
 |q::r=>by
  simp[As]
  cases hb:iN q.1 rd&& !iN q.1 _&&Bf q.2 _ with
  |false=>obtain⟨j,x⟩:=q;simp[cond_false,aF];rw[uR aA r]
  |true=>
   simp[cond_true]
   rw[uR aA r]
   obtain⟨j,x⟩:=q
   simp[aep,aer]at hb
   funext i
   simp[aF]
   by_cases e:i=j
   ·subst e
    rw[bG,rQ _ (fun p hp hpi=>fq hb.1.2 (by grind [Bl])),aA i (mO hb.1.1),Py hb.2]
   grind [ai]
section
variable {P:Program} {C:dY->Prop} {T:List TI} {ops:List Oper} {n:Nat} {o:Oper} {nx:Nat} {ρ:Nat->AV} {κ:Nat->az} {k:lQ->Nat->Prop}
theorem Mi{e:EN}(h:Good P C ops n o nx ρ κ fun e' n'=>e'=e.1/\n'=e.2)(hk:k ⟨e.1.dst,As κ e.1.reads e.1.box,e.1.reads⟩ e.2):Good P C ops n o nx ρ κ k:=by
 obtain⟨cg,fC,⟨rfl,rfl⟩,h2,h3,h4⟩:=h
 refine⟨_,_,hk,h2,fun p hp=>h3 p (yk hp),fun F hF ρ' κ' aA g a w dN ak=>?_⟩
 have IG:Es ops o ρ ρ' κ κ' e.1.reads e.1.box:=⟨aA.cn,aA.rows,aA.reads,fun i b hb=>by
  rcases uQ hb with h|h
  ·exact aA.boxes i b h
  ·exact aA.reads i h⟩
 have:=h4 F hF ρ' κ' IG g a w dN ak
 simp[uR aA.reads]
 grind
theorem Mj{ρ':Nat->AV}{l:List (Nat×AV)}{g:dY}{κ':Nat->az}{a:Act}{w:World}(h:St g n (aF ρ' l) κ' a w):St g n (aF ρ' (L8 l)) κ' a w:=by
 obtain⟨G,ak⟩:=h
 refine⟨G,{ ak with env:=fun t=>?_,ua:=ak.ua }⟩
 have key:∀(l:List _) (x:Value),aI G (aF ρ' l t) x->aI G (aF ρ' (L8 l) t) x:=by
  intro l
  induction l with
  |nil=>intro x h;exact h
  |cons p r ih=>
   obtain⟨j,v⟩:=p
   intro x h
   simp[L8,aF]at h⊢
   by_cases e:t=j
   ·subst e;rw[bG]at h⊢;exact .opt true v x (fun _=>h) (by simp)
   grind [ai]
 exact key l _ (ak.env t)
theorem IH{e:EN}(hg:b9 ρ ops o.guard=some true)(h:Good P C ops n { o with guard:=none } nx ρ κ fun e' n'=>e'=e.1/\n'=e.2)(hk:k ⟨L8 e.1.dst,e.1.box,e.1.reads⟩ e.2):Good P C ops n o nx ρ κ k:=by
 obtain⟨cg,fC,⟨rfl,rfl⟩,h2,h3,h4⟩:=h
 refine⟨_,_,hk,h2,h3,fun F hF ρ' κ' aA g a w dN ak=>?_⟩
 have IG:Es ops { o with guard:=none } ρ ρ' κ κ' e.1.reads e.1.box:=⟨fun t ht=>aA.cn t (by
  unfold Oper.looksAt at ht⊢
  simp only[List.append_nil]at ht
  exact adX.2 (.inl ht)),aA.rows,aA.reads,aA.boxes⟩
 have bH:=h4 F hF ρ' κ' IG g a w dN ak
 obtain⟨G,jN⟩:=ak
 unfold nI at bH⊢
 rw[cB hg aA.cn jN,if_pos rfl]
 have hw:Region.wanted { o with guard:=none } (yielded ops.toArray a.tmps)=true:=rfl
 rw[hw,if_pos rfl]at bH
 exact xA (fun a w h=>Mj h) bH
theorem Mk{d:Option Nat}(hg:b9 ρ ops o.guard=some false){e:EN}(h:V8 n nx o.dst=.ok e)(hk:k e.1 e.2):Good P C ops n o nx ρ κ k:=by
 cases hd:o.dst with
 |none=>
  rw[hd]at h
  injection h with h;subst h
  refine⟨_,_,hk,aei _,by simp,fun F hF ρ' κ' aA g a w dN ⟨G,ak⟩=>?_⟩
  unfold nI
  rw[cB hg aA.cn ak]
  simp[hd]
  assumption
 |some d=>
  rw[hd]at h
  obtain⟨ay,h⟩:=aC h
  injection h with h;subst h
  rw[Nat.blt_eq]at ay
  refine⟨_,_,hk,aei _,by simp,fun F hF ρ' κ' aA g a w dN ⟨G,ak⟩=>?_⟩
  unfold nI
  rw[cB hg aA.cn ak]
  simp[hd]
  exact⟨G,ak.put ay (.opt false _ undef (by simp) (fun _=>rfl))⟩
def fA(P:Program)(C:dY->Prop)(ops:List Oper)(n:Nat)(S:sZ):Prop:=∀(o:Oper) (nx:Nat) (ρ:Nat->AV) (κ:Nat->az) (e:EN),(∀i,nx<=i->κ i=.none)->S o nx ρ κ=.ok e->Good P C ops n o nx ρ κ fun e' n'=>e'=e.1/\n'=e.2
theorem yl(hT:fD P T){pol:Nat->Bool}{c:XC}(hX:∀f,TN (bU P f) (c.X f))(hY:TN (dP P) c.Y)(hR:dO P C)(hn:∀i,nx<=i->κ i=.none){e:EN}(hg:o.guard=none)(h:Pl T pol c n o nx ρ κ=.ok e):
 Good P C ops n o nx ρ κ fun e' n'=>e'=e.1/\n'=e.2:=by
 obtain⟨r,h1,h⟩:=ae h
 obtain⟨e0,h2,h⟩:=ae h
 injection h with h;subst h
 have g0:Good P C ops n o nx ρ κ fun e' n'=>e'=e0.1/\n'=e0.2:=Px hT hX hY hR hn hg h1 h2 ⟨rfl,rfl⟩
 unfold V7
 cases c.drawn with
 |false=>grind
 |true=>exact Mi g0 ⟨rfl,rfl⟩
theorem Pz(hT:fD P T){pol:Nat->Bool}{c:XC}(hX:∀f,TN (bU P f) (c.X f))(hY:TN (dP P) c.Y)(hR:dO P C):fA P C ops n (Fi T pol c ops n):=by
 intro o nx ρ κ e hn h
 unfold Fi at h
 split at h
 ·grind [yl]
 ·rename_i g hg
  unfold Pm at h
  split at h
  ·rename_i oH
   obtain⟨r,h1,h⟩:=ae h
   injection h with h;subst h
   rw[<-hg]at oH
   exact IH oH (yl hT hX hY hR hn rfl h1) ⟨rfl,rfl⟩
  ·rename_i oH
   rw[<-hg]at oH
   exact Mk (d:=none) oH h ⟨rfl,rfl⟩
  grind
end
end
section
open Go.RowKit
variable [cq]
theorem rR{γ:Type}(f:Nat->γ)(i:Nat)(x:γ):SV f i x=jq f i x:=by
 funext j
 simp[SV,jq]
 by_cases e:j=i
 ·subst e;simp
 ·have hb:Nat.beq j i=false:=by grind [Nat.beq,absurd,Nat.eq_of_beq_eq_true]
  simp_all
theorem iV{γ:Type}(f:Nat->γ):∀l:List (Nat×γ),Cy f l=aF f l
 |[]=>rfl
 |(i,x)::r=>by simp[Cy,aF];rw[rR,iV f r]
def TQ(g:dY)(n:Nat)(s:XS)(a:Act)(w:World):Prop:=St g n s.ρ s.κ a w/\g.m<=s.nx/\∀i,s.nx<=i->s.κ i=.none
theorem pK{nx fC:Nat}{κ:Nat->az}{bx:List (Nat×az)}(hn:∀i,nx<=i->κ i=.none)(hle:nx<=fC)(hb:∀p,p∈bx->p.1<fC):∀i,fC<=i->aF κ bx i=.none:=by
 grind [rQ]
section
variable {P:Program} {C:dY->Prop} {T:List TI} {ops:List Oper} {n:Nat} {g:dY}
theorem ym{S:sZ}(hS:fA P C ops n S)(H7:C g){F:Fence}(hF:iO F){Q:Exit->Act->World->Prop}{s':XS}(hQ:∀a w,TQ g n s' a w->Q .normal a w):
 ∀(rest:List Oper) (s:XS) (a:Act) (w:World),TG S rest s=.ok s'->TQ g n s a w->wpListIn F 0 P ops.toArray Q rest a w
 |[],s,a,w,h,hs=>by injection h with h;subst h;exact hQ a w hs
 |o::rest,s,a,w,h,⟨hs,dN,hn⟩=>by
  simp[TG]at h
  obtain⟨e,h1,h⟩:=ae h
  obtain⟨cg,fC,⟨rfl,rfl⟩,hle,hb,xD⟩:=hS o s.nx s.ρ s.κ e hn h1
  refine qp hF (xD F hF s.ρ s.κ ⟨fun _ _=>rfl,fun _ _=>rfl,fun _ _=>rfl,fun _ _ _=>rfl⟩ g a w ⟨dN,H7⟩ hs) fun a' w' gB=>?_
  refine ym hS H7 hF hQ rest _ a' w' h ⟨?_,Nat.le_trans dN hle,?_⟩
  ·grind [Fj,iV]
  ·simp[Fj,iV];grind [pK]
theorem vN{S:sZ}(hS:fA P C ops n S){ρ0:Nat->AV}{κ0:Nat->az}{lo:Nat}{s':XS}{wF:List Rec}:
 ∀(rest done:List Oper) (s:XS) (rs:List Rec),ops=done++rest->rs.length=done.length->lo<=s.nx->
  (∀i,s.nx<=i->s.κ i=.none)->
  s.ρ=acc ρ0 (fun i=>(rs[i]?.map (·.cg.dst)).getD []) (fun _=>true) done.length->s.κ=acc κ0 (fun i=>(rs[i]?.map (·.cg.box)).getD []) (fun _=>true) done.length->
  (∀i r o,rs[i]?=some r->ops[i]?=some o->r.rows=j6 (acc ρ0 (fun i=>(rs[i]?.map (·.cg.dst)).getD []) (fun _=>true) i) (acc κ0 (fun i=>(rs[i]?.map (·.cg.box)).getD []) (fun _=>true) i) o/\Te P C ops n lo o (acc ρ0 (fun i=>(rs[i]?.map (·.cg.dst)).getD []) (fun _=>true) i) (acc κ0 (fun i=>(rs[i]?.map (·.cg.box)).getD []) (fun _=>true) i) r.cg)->
  Fk S rest s rs=.ok (s',wF)->
  wF.length=ops.length/\lo<=s'.nx/\(∀i,s'.nx<=i->s'.κ i=.none)/\
   s'.ρ=acc ρ0 (fun i=>(wF[i]?.map (·.cg.dst)).getD []) (fun _=>true) ops.length/\s'.κ=acc κ0 (fun i=>(wF[i]?.map (·.cg.box)).getD []) (fun _=>true) ops.length/\
   ∀i r o,wF[i]?=some r->ops[i]?=some o->r.rows=j6 (acc ρ0 (fun i=>(wF[i]?.map (·.cg.dst)).getD []) (fun _=>true) i) (acc κ0 (fun i=>(wF[i]?.map (·.cg.box)).getD []) (fun _=>true) i) o/\Te P C ops n lo o (acc ρ0 (fun i=>(wF[i]?.map (·.cg.dst)).getD []) (fun _=>true) i) (acc κ0 (fun i=>(wF[i]?.map (·.cg.box)).getD []) (fun _=>true) i) r.cg
 |[],done,s,rs,LQ,hlen,oP,hn,he,hk,bK,h=>by
  grind [Fk]
 |o::rest,done,s,rs,LQ,hlen,oP,hn,he,hk,bK,h=>by
  simp only[Fk]at h
  obtain⟨e,h1,h⟩:=ae h
  obtain⟨cg,fC,⟨rfl,rfl⟩,hle,hb,xD⟩:=hS o s.nx s.ρ s.κ e hn h1
  have ur:∀i,i<rs.length->(rs++[⟨j6 s.ρ s.κ o,e.1⟩])[i]?=rs[i]?:=fun i hi=>List.getElem?_append_left hi
  have xG:(rs++[(⟨j6 s.ρ s.κ o,e.1⟩)])[done.length]?=some ⟨j6 s.ρ s.κ o,e.1⟩:=by grind
  have j7:∀m,m<=done.length->acc ρ0 (fun i=>((rs++[(⟨j6 s.ρ s.κ o,e.1⟩)])[i]?.map (·.cg.dst)).getD []) (fun _=>true) m=acc ρ0 (fun i=>(rs[i]?.map (·.cg.dst)).getD []) (fun _=>true) m:=
   fun m hm=>sK _ _ _ m fun i hi=>by grind
  have lZ:∀m,m<=done.length->acc κ0 (fun i=>((rs++[(⟨j6 s.ρ s.κ o,e.1⟩)])[i]?.map (·.cg.box)).getD []) (fun _=>true) m=acc κ0 (fun i=>(rs[i]?.map (·.cg.box)).getD []) (fun _=>true) m:=
   fun m hm=>sK _ _ _ m fun i hi=>by grind
  refine vN hS rest (done++[o]) (Fj s e) (rs++[⟨j6 s.ρ s.κ o,e.1⟩]) (by grind) (by simp[hlen]) (Nat.le_trans oP hle) (by simp[Fj,iV];exact pK hn hle hb) ?_ ?_ ?_ h
  ·simp only[Fj,iV]
   rw[ad1]
   simp[List.length_cons,List.length_nil,acc,if_true]
   rw[j7 _ (aei _),xG,<-he];rfl
  ·simp only[Fj,iV]
   rw[ad1]
   simp[List.length_cons,List.length_nil,acc,if_true]
   rw[lZ _ (aei _),xG,<-hk];rfl
  ·intro i r o' hr ny
   rcases ad8 i rs.length with ay|jd
   ·rw[ur i ay]at hr
    rw[j7 i (by omega),lZ i (by omega)]
    exact bK i r o' hr ny
   ·have hi:i=done.length:=by
     have:=(adP.1 hr).1
     simp at this;omega
    subst hi
    rw[xG]at hr
    injection hr with hr
    subst hr
    rw[LQ]at ny
    simp at ny
    subst ny
    rw[j7 _ (aei _),lZ _ (aei _),<-he,<-hk]
    exact⟨rfl,xD.lo oP⟩
end
section
variable {κ κ':Nat->az} {m:Nat}
theorem PA:∀N:Nat,(∀v:AV,SizeOf.sizeOf v<N->gE m κ κ' (j8 m κ v) v)/\(∀l:List AV,SizeOf.sizeOf l<N->dZ m κ κ' (nP m κ l) l):=by
 intro N
 induction N with
 |zero=>grind
 |succ N ih=>
  refine⟨fun v cb=>?_,fun l cb=>?_⟩
  ·cases v with
   |any=>exact trivial
   |dv d=>exact DV.Le.refl d
   |ptr i off=>rfl
   |fa i=>rfl
   |sle i k=>rfl
   |own i ver ep p=>
    cases hn:j8 m κ _ with
    |own j a b q=>
     assumption
    |any=>exact trivial
    |_=>
     grind [j8,Nat.beq,emp]
   |cz i ver=>
    cases hn:j8 m κ _ with
    |cz j a=>assumption
    |any=>exact trivial
    |_=>
     simp[j8]at hn
     split at hn
     ·rename_i v' e' d hk
      cases hb:Nat.beq ver v'<;>rw[hb]at hn<;>cases hn
     ·cases hn
   |loc i ver ep p a b c=>
    cases hn:j8 m κ _ with
    |loc j a b q x y z=>assumption
    |any=>exact trivial
    |_=>
     simp only[j8]at hn
     split at hn
     ·rename_i v' e' d hk
      cases hb:Nat.beq ver v'&&(emp p||Nat.beq ep e')<;>rw[hb]at hn<;>cases hn
     ·cases hn
   |pre i ver ep p a b c=>
    cases hn:j8 m κ _ with
    |pre j a b q x y z=>assumption
    |any=>exact trivial
    |_=>
     simp only[j8]at hn
     split at hn
     ·rename_i v' e' d hk
      cases hb:Nat.beq ver v'&&(emp p||Nat.beq ep e')<;>rw[hb]at hn<;>cases hn
     ·cases hn
   |fn f l=>exact⟨rfl,ih.2 l (by grind)⟩
   |ko f l=>exact⟨rfl,ih.2 l (by grind)⟩
   |agg l=>exact ih.2 l (by grind)
   |gm l=>exact ih.2 l (by grind)
   |opt g v=>exact trivial
  ·cases l with
   |nil=>exact trivial
   |cons v l=>exact⟨ih.1 v (by grind),ih.2 l (by grind)⟩
theorem rS(l:List AV):dZ m κ κ' (nP m κ l) l:=(PA (SizeOf.sizeOf l+1)).2 l (by omega)
theorem TR{i:Nat}:oQ m κ κ' i (κ i) (nB m κ i (κ i)):=by
 cases h:κ i with
 |none=>exact trivial
 |dead=>exact trivial
 |cells l=>exact rS l
 |tree v e d=>exact⟨rfl,rfl⟩
 |fz v d=>exact⟨rfl,DV.Le.refl d⟩
 |dw rc st l=>exact⟨rfl,rfl,rS l⟩
 |held=>exact trivial
 |lL _ _ _ _ _=>exact trivial
theorem KT:∀(l:List Nat),pd m κ κ' (nK m κ l)
 |[]=>trivial
 |i::r=>⟨TR,KT r⟩
end
section
variable {P:Program} {T:List TI} {n:Nat} {g:dY} {ρ:Nat->AV} {κ:Nat->az} {a:Act} {w:World} {G:Gh}
theorem CQ:∀{OF:List ResultVar} {lN:List AV} {q:List AV->Prop},IA T ρ κ OF=.ok lN->q lN->E0 T ρ κ OF q
 |[],lN,q,h,hq=>by injection h with h;subst h;exact hq
 |.tmp t::r,lN,q,h,hq=>by
  simp[IA]at h
  obtain⟨l,h1,h⟩:=ae h
  injection h with h;subst h
  simp[E0,force_eq]
  exact CQ h1 hq
 |.cell t ty::r,lN,q,h,hq=>by
  simp[IA]at h
  obtain⟨hb,h⟩:=aC h
  simp[E0,hb,cond_true]
  split at h
  ·rename_i i off hr
   split at h
   ·rename_i l hk
    obtain⟨v,h1,h⟩:=ae h
    obtain⟨vs,h2,h⟩:=ae h
    injection h with h;subst h
    simp[hr,hk]
    exact s7 h1 (CQ h2 hq)
   grind
  grind
theorem cA.out{m:Nat}{K:ad}{w0:World}{G0:Gh}(hg:g=⟨fun b=>∃i,cD G0 i (aa K i) b,w0,G0.M,m,G0.β,fun i p=>G0.H i 0 0 p⟩)(ak:cA g n ρ κ a w G){fuel:Nat}{lN:List AV}{us:List Value}{r:uM}(hx:TB fuel m κ lN=.ok r)(hrel:cC G lN us)
 {v:Value} (Aw:∀d u,r.1=[d]->us=[u]->v=u) (aaJ:us.length≠1->v=.tuple us.toArray):∃rs K' G',(rs=r.1/\K'=r.2.1)/\LX m r.2.2 (aa K) w0 G0 rs (aa K') w G' v:=by
 obtain⟨fM,hx⟩:=aC hx
 injection hx with hx;subst hx
 generalize hK:nK m κ _=K2 at*
 simp[pk,aep]at fM
 obtain⟨⟨⟨E3,OG⟩,eC⟩,ow⟩:=fM
 have Kq:=by
  have:=KT (m:=m) (κ:=κ) (κ':=aa K2) (Ix κ fuel (mA 0 m++AV.Ap (nP m κ lN)) [])
  rwa[hK]at this
 obtain⟨G2,_,Og,OC⟩:=ak.sub (by grind) E3 (fun i hi=>adX.2 (.inr hi)) eC ow Kq
 have aV:=Og _ lN us (rS lN) OG (fun i hi=>adX.2 (.inl hi)) hrel
 have j9:=OC (fun _=>.any) (fun _=>.any _)
 subst hg
 refine⟨_,_,G2,⟨rfl,rfl⟩,j9.fit,fun i hi=>mR E3 hi,?_,j9.mem,j9.fE,j9.wC,fun b hb hO=>⟨j9.zZ b hb (fun⟨i,h⟩=>hO i h),j9.nF b hb (fun⟨i,h⟩=>hO i h)⟩,j9.gJ,j9.os,j9.tape,j9.output,j9.grow⟩
 have uz:=aV.1.symm
 generalize w8:nP m κ lN=rs at*
 have many:us.length≠1->aI G2 (.gm rs) v:=by
  intro c6
  rw[aaJ c6]
  exact .gm rs us aV.1 aV.2
 match rs,aV,uz,many,Aw with
 |[],aV,uz,many,_=>exact many (by grind)
 |[d],aV,uz,_,Aw=>
  match us,uz,aV with
  |[u],_,aV=>rw[Aw d u rfl rfl];exact aV.2 0 d u rfl rfl
 |_::_::_,aV,uz,many,_=>exact many (by grind)
end
end
section
open Go.RowKit
variable [cq]
theorem uS:∀(env:Env),look env=aF (fun _=>.any) env
 |[]=>rfl
 |(i,b)::K=>by
  funext t
  simp only[look,aF,jq,uS K]
  by_cases h:t=i
  ·subst h;simp
  simp_all [beq_false]
def Ml(P:Program)(go:jm):Prop:=∀(r:Bool) (n:Nat) (c:Code) (s:XS) (e:AX) (s':XS),go r n c s=.ok (e,s')->∀(F:Fence),iO F->(r=true->F=Fence.wide)->∀(g:dY) (a:Act) (w:World) (R:Exit->Act->World->Prop),
 TQ g n s a w->(∀a w,TQ g n s' a w->R (ux e) a w)->c.wpIn F 0 P R a w
section
variable {P:Program} {T:List TI} {go:jm}
theorem yn(hT:fD P T)(Ew:Ml P go)(fg:∀(g:Nat) (fn:Func),P.funcs[g]?=some fn->(fn.name== "runtime.NumGoroutine")=false)(f g:Nat):TN (bU P g) (KH P T go f g):=by
 intro args m K r hx
 obtain⟨fn,hf,hx⟩:=ae hx
 obtain⟨c,hb,hx⟩:=ae hx
 have hf:=aS hf
 have hb:=aS hb
 obtain⟨cZ,hx⟩:=aC hx
 have hx:((go true fn.ntmps c (nQ m (dh 0 args) K)).bind fun q=>IC T f m fn q)=.ok r:=by
  unfold aaF at hx
  grind
 obtain⟨⟨e,s'⟩,bH,hx⟩:=ae hx
 refine⟨⟨fn,hf,fg g fn hf,by grind⟩,fun w G vs nM cY hr=>?_⟩
 refine(iB.calls (n:=0)).1 (callsIn_of_wp_marks hf hb trivial ?_)
 simp[aep,cJ.wf]at cZ
 obtain⟨hlen,hwB,hwE⟩:=cZ
 have hlen:vs.length<=fn.ntmps:=by rw[<-hr.1];simp_all
 let g0:dY:=⟨fun b=>∃i,cD G i (aa K i) b,w,G.M,m,G.β,fun i p=>G.H i 0 0 p⟩
 have ak:cA g0 fn.ntmps (look (dh 0 args)) (aa K) { tmps:=vs.toArray++Array.replicate (fn.ntmps-vs.toArray.size) undef,defers:=[] } w G:=by
  refine { fit:=cY,env:=fun t=>?_,size:=by grind,zZ:=fun _ _ _=>rfl,os:=rfl,tape:=rfl,output:=rfl,grow:=aei _,mem:=.refl G.M,nF:=fun _ _ _=>rfl,gJ:=fun i b ho=>.inr ⟨i,ho⟩,fE:=fun _ _=>rfl,wC:=fun _ _ _ _ hx=>hx,o7:=nM,ua:=⟨[],rfl,List.nodup_nil,by simp⟩ }
  rw[pt]
  simp only[ad3,if_true,Nat.sub_zero]
  split
  ·rename_i d hd
   have ht:t<vs.length:=by rw[<-hr.1];grind
   have:(vs.toArray++Array.replicate (fn.ntmps-vs.toArray.size) undef).getD t undef=vs[t]'ht:=by
    simp_all [adZ,Array.getElem?_append_left]
   rw[this]
   exact hr.2 t d _ hd (ace ht)
  ·exact .any _
 have Ev:TQ g0 fn.ntmps (nQ m (dh 0 args) K) { tmps:=vs.toArray++Array.replicate (fn.ntmps-vs.toArray.size) undef,defers:=[] } w:=by
  refine⟨⟨G,?_⟩,aei _,?_⟩
  ·grind [nQ,iV,uS,hZ]
  ·simp[nQ,iV,<-hZ];grind [mR]
 refine Ew true fn.ntmps c _ e s' bH Fence.wide iB (fun _=>rfl) g0 _ w _ Ev fun a w' hs=>?_
 obtain⟨⟨G1,jN⟩,_⟩:=hs
 have fin:((IA T s'.ρ s'.κ fn.results.toList).bind fun lN=>TB f m s'.κ lN)=.ok r->LeavesInM Fence.wide 0 P fn a.tmps (fun e w'=>∃v rs K' G',e=.returned v/\(rs=r.1/\K'=r.2.1)/\LX m r.2.2 (aa K) w G rs (aa K') w' G' v) a.defers .returning w':=by
  intro gK
  obtain⟨lN,h1,h2⟩:=ae gK
  obtain⟨D,hD,_⟩:=jN.ua
  rw[hD]
  refine cA.leave a.tmps (fun w2 mz=>?_) D w' (by rwa[<-hD])
  obtain⟨adB,us,hq,VM,hrel⟩:=w4 hT mz (CQ h1 rfl)
  subst hq
  refine⟨_,pw VM,?_⟩
  obtain⟨rs,K',G',e1,e2⟩:=cA.out rfl mz h2 hrel (v:=if h:us.toArray.size=1 then us.toArray[0]else .tuple us.toArray) (fun d u _ hu=>by grind) (fun c6=>by grind)
  exact⟨_,rs,K',G',rfl,e1,e2⟩
 unfold IC at hx
 cases e with
 |normal=>exact fin hx
 |ret=>exact fin hx
 |exit i=>grind
theorem Mm(Ew:Ml P go)(f:Nat):TN (dP P) (ID go f):=by
 intro args m K r hx
 unfold ID at hx
 split at hx
 ·rename_i rc l h0
  obtain⟨fM,hx⟩:=aC hx
  obtain⟨⟨e1,s1⟩,aaK,hx⟩:=ae hx
  intro w G vs nM cY hr
  simp[aep]at fM
  obtain⟨⟨⟨hal,kz⟩,Et⟩,Tu⟩:=fM
  have Et:=by simpa using Et
  have hb:=cY.box 0
  rw[h0]at hb
  obtain⟨b,fn,tmps,D,qT,hw,jT⟩:=hb
  have cb:=by have:=jT.1;simp at this;exact this.symm
  have hvl:vs.toArray.size=rc.ps.size:=by rw[List.size_toArray,<-hr.1];simp_all
  refine⟨b,qT,fn,_,rc.as,rc.bd,w,run_yield hw hvl,roundIn_of_wpIn trivial ?_⟩
  have OZ:(rc.ps.zip vs.toArray).foldl (fun tm (pv)=>tm.setIfInBounds pv.1 pv.2) tmps=(rc.ps.toList.zip vs).foldl (fun tm (pv)=>tm.setIfInBounds pv.1 pv.2) tmps:=by
   rw[<-Array.foldl_toList,Array.toList_zip]
  let g:dY:=⟨fun b=>∃i,cD G i (aa K i) b,w,G.M,m,G.β,fun i p=>G.H i 0 0 p⟩
  have Ig:∀t,aI G (look (uG 0 l) t) (tmps.getD t undef):=fun t=>by
   have:=uH l 0 t
   rw[Nat.zero_add]at this
   rw[this]
   split
   ·rename_i v hv
    refine jT.2 t v _ hv ?_
    rw[adZ,Array.getElem?_toList,aeo (by grind)];rfl
   ·exact .any _
  have ak:cA g l.length _ (aa K) { tmps:=(rc.ps.toList.zip vs).foldl (fun tm (pv)=>tm.setIfInBounds pv.1 pv.2) tmps,defers:=[] } w G:=
   {fit:=cY,env:=Cx (fun p hp=>by rw[cb];exact uI kz p hp) hr Ig,size:=by grind [Ba],zZ:=fun _ _ _=>rfl,os:=rfl,tape:=rfl,output:=rfl,grow:=aei _,mem:=.refl G.M,nF:=fun _ _ _=>rfl,gJ:=fun i b ho=>.inr ⟨i,ho⟩,fE:=fun _ _=>rfl,wC:=fun _ _ _ _ hx=>hx,o7:=nM,ua:=⟨[],rfl,List.nodup_nil,by simp⟩ }
  rw[OZ]
  have fy:∀i,m<=i->aa K i=.none:=fun i hi=>by
   rcases gn with h'|h'
   ·omega
   ·have:=c7 Tu i (aeg.2 ⟨_,h',rfl⟩);omega
  have Ev:TQ g l.length (nQ m (Cw rc.ps.toList args (uG 0 l)) K) { tmps:=(rc.ps.toList.zip vs).foldl (fun tm (pv)=>tm.setIfInBounds pv.1 pv.2) tmps,defers:=[] } w:=by
   refine⟨⟨G,?_⟩,aei _,?_⟩
   ·grind [nQ,iV,uS,hZ]
   simp_all [nQ,iV,hZ]
  refine Ew false l.length rc.as _ e1 s1 aaK _ (wide_round b) (nofun) g _ w _ Ev fun a1 w1 hs=>?_
  cases e1 with
  |ret=>grind
  |exit i=>grind
  |normal=>
   simp at hx
   unfold KJ at hx
   split at hx
   ·rename_i rc1 l1 qw
    obtain⟨⟨e2,s2⟩,aaL,hx⟩:=ae hx
    obtain⟨⟨G1,st1⟩,dD,N1⟩:=hs
    obtain⟨rr,SQ,SS,Tx,kZ,_⟩:=st1.uF qw (by rwa[st1.fE 0 Et])
    have O0:=kZ .busy
    have O1:({ rr with state:=zY.busy.st,pending:=zY.busy.Ai })={ rr with state:=.busy }:=by
     grind [zY.st,zY.Ai]
    rw[O1]at O0
    refine⟨_,(run_beginRound (P:=P) SQ SS),?_⟩
    refine Ew false l.length rc.bd _ e2 s2 aaL _ (wide_round b) (nofun) g _ _ _ ⟨⟨G1,by grind [rR]⟩,dD,fun i hi=>by
     simp[rR]
     grind [ai]⟩ fun a2 w2 lZ=>?_
    unfold KI at hx
    split at hx
    ·rename_i rc2 l2 SU
     obtain⟨⟨G2,st2⟩,_,_⟩:=lZ
     obtain⟨r2,VS,_,_,O2,_⟩:=st2.uF SU (by rwa[st2.fE 0 Et])
     rw[rR]at hx
     obtain⟨rs,K',G',q1,q2⟩:=cA.out rfl (O2 (vK e2)) hx (us:=[.bool _]) ⟨rfl,fun j d v hd hv=>by
      cases j with
      |zero=>simp at hd hv;subst hd;subst hv;exact .dv (.bool _)
      |succ j=>simp at hd⟩ (fun d u _ hu=>by injection hu) (nofun)
     have gZ:=run_endRound (P:=P) (sF e2) VS
     cases e2 with
     |normal=>exact⟨_,_,gZ,_,rs,K',G',rfl,q1,q2⟩
     |ret=>exact⟨_,_,gZ,_,rs,K',G',rfl,q1,q2⟩
     |exit i=>exact⟨_,_,gZ,_,rs,K',G',rfl,q1,q2⟩
    grind
   grind
 grind
end
end
section
open Go.RowKit
variable [cq]
section
variable {P:Program} {T:List TI} {go:jm}
theorem yp(hT:fD P T)(Ew:Ml P go)(fg:∀(g:Nat) (fn:Func),P.funcs[g]?=some fn->(fn.name== "runtime.NumGoroutine")=false){fuel n nx:Nat}{ρ:Nat->AV}{κ:Nat->az}{x:Operand}{ps:Array Tmp}{as bd:Code}{f:Nat}{bQ:List AV}{e:AX}{s':XS}
 (h:w6 P T go fuel nx ρ (SV κ nx (.dw ⟨ps,as,bd⟩ .ready (cn ρ 0 n))) f bQ=.ok (e,s')) {g:dY} {a:Act} {w:World} {R:Exit->Act->World->Prop} {G:Gh} (ak:cA g n ρ κ a w G) (dN:g.m<=nx) (hn:∀i,nx<=i->κ i=.none)
 {vs:List Value} (hx:a.eval x=.func (.func f) #[] vs.toArray) (jT:cC G bQ vs) (hR:∀a w,TQ g n s' a w->R (ux e) a w):(Code.rangeFunc x ps as bd).wpIn Fence.wide 0 P R a w:=by
 rw[rR]at h
 generalize hκ1:jq κ nx _=κ1 at h
 unfold w6 at h
 obtain⟨q,hq,h⟩:=ae h
 unfold sV Iz Iy at hq
 generalize Ix κ1 fuel _ []=σ at hq
 obtain⟨fM,hq⟩:=aC hq
 obtain⟨r,jS,hq⟩:=ae hq
 unfold Pd at hq
 obtain⟨hko,hq⟩:=aC hq
 injection hq with hq;subst hq
 have jR:=yn hT Ew fg fuel f _ _ _ r jS
 simp[aep]at fM
 refine wpIn_rangeFunc fun fn _=>?_
 obtain⟨st1,hle⟩:=ak.enterLoop (hn nx (aei _)) dN ⟨ps,as,bd⟩ fn
 rw[hκ1]at st1
 have B9:∀i,i<g.m->jq G.β nx (some (w.heap.size+1)) i=g.β i:=fun i hi=>by rw[ai _ _ (by omega)];exact ak.fE i hi
 have N1:∀i,nx+1<=i->κ1 i=.none:=fun i hi=>by rw[<-hκ1,ai _ _ (by omega)];grind
 have hrel:=by
  have h1:cC { G with β:=jq G.β nx _ } [.fa nx] [.func (.yield (w.heap.size+1)) #[] #[]]:=
   ⟨rfl,fun j d v hd hv=>by
    cases j with
    |zero=>simp at hd hv;subst hd;subst hv;exact .fa nx _ (bG _ _ _)
    |succ j=>grind⟩
  exact h1.append (jT.mono hle)
 obtain⟨β,_,bH⟩:=nN (hd:=none) (lj P f) jR.2 N1 (by grind) (qA _) (yg σ [] rfl) (fun rs K1 hr=>by grind) (sS fM.2) (aei _) (st1.upto (nx+1)) hrel (fun _ _=>rfl)
 refine⟨w.heap.size+1,[mark w.heap.size],_,⟨.fn (.func f) vs.toArray,#[.func (.yield (w.heap.size+1)) #[] #[]]⟩,((w.alloc (.deferred (some []))).alloc (.loop { state:=.ready,pending:=none,fn:=fn,tmps:=a.tmps,params:=ps,assign:=as,body:=bd,defers:=w.heap.size })),f,(Value.func (.yield (w.heap.size+1)) #[] #[]::vs).toArray,((w.alloc (.deferred (some []))).alloc (.loop { state:=.ready,pending:=none,fn:=fn,tmps:=a.tmps,params:=ps,assign:=as,body:=bd,defers:=w.heap.size })),run_enterLoop_outer fn a.tmps ps as bd,?_,fun _ _=>trivial,?_,(nofun),?_⟩
 ·simp_all [Array.map,Act.eval,resolve,rangeCall,Deferred.ofValue,Sem.run_pure]
 ·have:(#[Value.func (.yield (w.heap.size+1)) #[] #[]]++vs.toArray)=(Value.func (.yield (w.heap.size+1)) #[] #[]::vs).toArray:=by simp
  simp only[invoke]
  rw[this]
  exact iP jR.1 _ _
 ·refine(iB.calls).2 (Calls.mono bH ?_)
  rintro e2 w2 ⟨v,rs,K2,G3,rfl,⟨rfl,rfl⟩,Il,_⟩
  have Kd:∀i,nx+1+r.2.2<=i->aF κ1 (cd (sg σ (nx+1)) (kr κ1 σ) r.2.1++mu κ1 (eb κ1 (ec (sg σ (nx+1)) dG (L7 κ1 σ (.fa nx::bQ))) (.fa nx::bQ)++fc κ1 (cd (sg σ (nx+1)) dG (Xj κ1 σ 0 σ)))) i=.none:=by
   refine pK N1 (Nat.le_add_right _ _) fun p hp=>?_
   have Im:=by
    have:=hko
    simp[gr,aep]at this
    exact this.1.1.2
   have hσ1:=by
    have:=fM.1.1
    simp[gU,aep]at this
    exact(jt this.1.1.1.1.1.1).1
   rcases adX.1 hp with hp|hp
   ·obtain⟨j,h1,h2⟩:=mT hp
    have hj:=c7 Im j h1
    grind [Nat.lt_or_ge,mU,List.getElem_mem,sg,l7]
   ·have:=uB N1 hp;omega
  unfold KM at h
  simp[iV]at h
  generalize hκ3:aF κ1 (cd (sg σ (nx+1)) (kr κ1 σ) r.2.1++mu κ1 (eb κ1 (ec (sg σ (nx+1)) dG (L7 κ1 σ (.fa nx::bQ))) (.fa nx::bQ)++fc κ1 (cd (sg σ (nx+1)) dG (Xj κ1 σ 0 σ))))=κ3 at*
  have fin:∀(HU:RC) (st:zY) (l:List AV),κ3 nx=.dw HU st l->st.st≠.busy->st.Ai=sF e->s'=⟨nx+1+r.2.2,ρ,SV κ3 nx .dead⟩->rangePost Fence.wide 0 P (w.heap.size+1) R { a with defers:=[mark w.heap.size]++a.defers } (.returned v) w2:=by
   intro HU st l hk hb hp gB
   obtain⟨rr,h1,h2,h3,_,OW⟩:=Il.uF hk ((Il.fE nx (Nat.lt_succ_self nx)).trans (bG _ _ _))
   have st4:=(OW (.loop { rr with state:=.exhausted })).OV (Nat.le_succ_of_le dN) B9
   have hs4:TQ g n s' { a with defers:=[mark w.heap.size]++a.defers } (w2.putObj (w.heap.size+1) (.loop { rr with state:=.exhausted })):=by
    subst gB
    exact⟨⟨G3,by grind [rR]⟩,by grind,fun i hi=>by
     have SO:nx+1+r.2.2<=i:=hi
     simp[rR];grind [ai]⟩
   have po:=hR _ _ hs4
   refine⟨rr.pending,_,run_endLoop h1 (by grind),?_⟩
   have HV:=h3.trans hp
   rw[HV]at po
   rw[HV]
   cases e with
   |normal=>exact po
   |ret=>exact wpIn_ret po
   |exit i=>exact wpIn_exit po
  unfold Bg at h
  split at h
  ·rename_i HU st l hk
   split at h
   ·injection h with h
    injection h with h1 h2
    exact fin HU .ready l hk (by simp[zY.st]) (by rw[<-h1];rfl) h2.symm
   ·rename_i e'
    injection h with h
    injection h with h1 h2
    exact fin HU (.done e') l hk (by simp[zY.st]) (by rw[<-h1];rfl) h2.symm
   ·cases h
  grind
theorem Mn(hT:fD P T)(hm:P.follows .mixedOrders=true)(fg:∀(g:Nat) (fn:Func),P.funcs[g]?=some fn->(fn.name== "runtime.NumGoroutine")=false)(pol:Nat->Bool)(f:Nat)(Ew:Ml P go):Ml P (lz P T pol f go):=by
 intro r n c s e s' h F hF hr g a w R hs hR
 have Ko:∀(ops:List Oper) (d:Bool),fA P (fun _=>True) ops n (Fi T pol (Pn P T go f d) ops n):=fun ops d=>Pz hT (fun g=>yn hT Ew fg f g) (Mm Ew f) (eu P)
 cases c with
 |skip=>
  injection h with h;injection h with h1 h2;subst h1;subst h2
  exact wpIn_skip (hR a w hs)
 |region id ops draw=>
  simp[lz]at h
  cases draw with
  |false=>
   simp[KK]at h
   obtain⟨s1,h1,h⟩:=ae h
   injection h with h;injection h with e1 e2;subst e1;subst e2
   refine wpIn_region_list ?_
   have:=ym (Ko ops.toList false) trivial hF hR ops.toList s a w h1 hs
   simp_all
  |true=>
   simp[Fl]at h
   obtain⟨⟨s1,rs⟩,h1,h⟩:=ae h
   obtain⟨Cf,h⟩:=aC h
   injection h with h;injection h with e1 e2;subst e1;subst e2
   refine wpIn_region_any hm ?_
   obtain⟨hlen,oP,hn,he,hk,bK⟩:=vN (Ko ops.toList true) ops.toList [] s [] rfl rfl (aei _) hs.2.2 rfl rfl (by simp) h1
   have Cs:(fun i=>(Array.replicate ops.size false).getD i false)=fun _=>false:=by
    funext i
    simp[adZ,Array.getElem?_replicate]
    grind
   have OD:St g n s.ρ s.κ a { w with drawn:=w.drawn+1 }:=by
    obtain⟨G,h1⟩:=hs.1
    exact⟨G,h1.drawn _⟩
   have:=AW trivial hF hs.2.1 Cf hlen bK (fun a w ak=>hR a w ⟨by grind,Nat.le_trans hs.2.1 oP,hn⟩) ops.size (Array.replicate ops.size false) a { w with drawn:=w.drawn+1 } (by simp)
    (by grind [Cp,Array.replicate])
    (fun i o _ hi=>by rw[congrFun Cs i]at hi;grind)
    (by grind [sN])
   simp_all
 |seq x y=>
  simp[lz]at h
  obtain⟨⟨e1,s1⟩,h1,h⟩:=ae h
  refine wpIn_seq (Ew r n x s e1 s1 h1 F hF hr g a w _ hs fun a1 w1 j7=>?_)
  unfold aaH at h
  cases e1 with
  |normal=>exact Ew r n y s1 e s' h F hF hr g a1 w1 _ j7 hR
  |ret=>injection h with h;injection h with q1 q2;subst q1;subst q2;exact hR a1 w1 j7
  |exit i=>injection h with h;injection h with q1 q2;subst q1;subst q2;exact hR a1 w1 j7
 |cond x y z=>
  simp[lz]at h
  obtain⟨t,h1,h⟩:=ae h
  obtain⟨G,ak⟩:=hs.1
  have hv:=A9 (x:=x) s.ρ s.κ ⟨fun _ _=>rfl,fun _ _=>rfl⟩ g n a w G ak
  rw[(jx (aS h1))]at hv
  generalize hx:a.eval x=v at hv
  cases hv with|dv hv=>cases hv with|bool=>
  refine wpIn_cond_split hx (fun et=>?_) (fun et=>?_)
  ·subst et;exact Ew r n y s e s' h F hF hr g a w _ hs hR
  ·subst et;exact Ew r n z s e s' h F hF hr g a w _ hs hR
 |block id c=>
  simp[lz]at h
  obtain⟨⟨e1,s1⟩,h1,h⟩:=ae h
  refine wpIn_block (Ew r n c s e1 s1 h1 F hF hr g a w _ hs fun a1 w1 j7=>?_)
  unfold Po at h
  cases e1 with
  |normal=>injection h with h;injection h with q1 q2;subst q1;subst q2;exact hR a1 w1 j7
  |ret=>injection h with h;injection h with q1 q2;subst q1;subst q2;exact hR a1 w1 j7
  |exit i=>
   simp at h
   simp[ux,Exit.inBlock]
   cases hb:Nat.beq i id with
   |true=>
    rw[hb]at h
    injection h with h;injection h with q1 q2;subst q1;subst q2
    rw[if_pos (adS hb)];exact hR a1 w1 j7
   |false=>
    rw[hb]at h
    injection h with h;injection h with q1 q2;subst q1;subst q2
    rw[if_neg (fun e=>by simp_all)]
    exact hR a1 w1 j7
 |exit id=>
  injection h with h;injection h with h1 h2;subst h1;subst h2
  exact wpIn_exit (hR a w hs)
 |ret=>
  injection h with h;injection h with h1 h2;subst h1;subst h2
  exact wpIn_ret (hR a w hs)
 |scope c=>
  simp[lz]at h
  refine xS (Ew r n c s e s' h F hF hr g a w _ hs fun a1 w1 j7=>?_)
  cases e with
  |normal=>exact hR a1 w1 j7
  |ret=>exact hR a1 w1 j7
  |exit i=>exact hR a1 w1 j7
 |label l=>
  injection h with h;injection h with h1 h2;subst h1;subst h2
  exact wpIn_label (hR a w hs)
 |loop c=>
  simp[lz]at h
  have key:∀(k:Nat) (s:XS) (a:Act) (w:World),KL go r n c k s=.ok (e,s')->TQ g n s a w->Code.roundsIn F 0 P c R k a w:=by
   intro k
   induction k with
   |zero=>intro s a w h;cases h
   |succ k ih=>
    intro s a w h hs
    simp[KL]at h
    obtain⟨⟨e1,s1⟩,h1,h⟩:=ae h
    refine Ew r n c s e1 s1 h1 F hF hr g a w _ hs fun a1 w1 j7=>?_
    cases e1 with
    |normal=>exact ih s1 a1 w1 h j7
    |ret=>simp only at h;injection h with h;injection h with q1 q2;subst q1;subst q2;exact hR a1 w1 j7
    |exit i=>simp only at h;injection h with h;injection h with q1 q2;subst q1;subst q2;exact hR a1 w1 j7
  grind [wpIn_loop_rounds]
 |rangeFunc x ps as bd=>
  simp[lz]at h
  obtain⟨hrt,h⟩:=aC h
  have hFw:=hr hrt
  subst hFw
  obtain⟨⟨G,ak⟩,dN,hn⟩:=hs
  have hv:=A9 (x:=x) s.ρ s.κ ⟨fun _ _=>rfl,fun _ _=>rfl⟩ g n a w G ak
  unfold Pp KN at h
  generalize ev s.ρ s.κ x=vx at h hv
  generalize hx:a.eval x=y at hv
  split at h
  ·cases hv with|fn _ _ vs hl Tn=>exact yp hT Ew fg h ak dN hn hx ⟨hl,Tn⟩ hR
  ·split at h
   ·cases hv with|dv hd=>cases hd with|fn _ _ vs hl Tn=>exact yp hT Ew fg h ak dN hn hx (jw ⟨hl,Tn⟩) hR
   grind
  grind
 |goto l=>simp[lz]at h
 |refuse w=>simp[lz]at h
theorem Fw(hT:fD P T)(hm:P.follows .mixedOrders=true)(fg:∀(g:Nat) (fn:Func),P.funcs[g]?=some fn->(fn.name== "runtime.NumGoroutine")=false)(pol:Nat->Bool):∀f,Ml P (Pq P T pol f)
 |0=>by intro r n c s e s' h;cases h
 |f+1=>Mn hT hm fg pol f (Fw hT hm fg pol f)
theorem Mo(hT:fD P T)(hm:P.follows .mixedOrders=true)(fg:∀(g:Nat) (fn:Func),P.funcs[g]?=some fn->(fn.name== "runtime.NumGoroutine")=false){pol:Nat->Bool}{f g:Nat}{args:List AV}{m:Nat}{K:ad}{rs:List AV}{K':ad}{ex:Nat}(h:Xp P T pol f g args m K=.ok (rs,K',ex)):aj P g args m K ex rs K':=
 yn hT (Fw hT hm fg pol f) fg f g args m K (rs,K',ex) h
end
end
section
open Go.RowKit
variable [cq]
def xfz(r:XR (List AV×ad×Nat)):Option (List DV):=match r with
 |.ok q=>match uT (aa q.2.1) q.1 with
  |some p=>some p.1
  |none=>none
 |.no _=>none
section
variable {P:Program} {T:List TI}
theorem Fx{G:Gh}{ds:List DV}{vs:List Value}(h:fP G.M ds vs):cC G (yq ds) vs:=by
 refine⟨by rw[w9];simpa using h.1,fun j d v hd hv=>?_⟩
 rw[w9,adQ]at hd
 cases hj:ds[j]? with
 |none=>grind
 |some x=>
  rw[hj]at hd
  simp[Option.map_some,Option.some.injEq]at hd
  subst hd
  exact qu (h.2 j x v hj hv)
theorem qB(hT:fD P T)(hm:P.follows .mixedOrders=true)(fg:∀(g:Nat) (fn:Func),P.funcs[g]?=some fn->(fn.name== "runtime.NumGoroutine")=false){pol:Nat->Bool}{fuel f:Nat}{args rs:List DV}(h:xfz (Xp P T pol fuel f (yq args) 0 [])=some rs):aR P f args rs:=by
 cases hx:Xp P T pol fuel f (yq args) 0 []with
 |no y=>grind [xfz]
 |ok r=>
  obtain⟨rs0,K',ex⟩:=r
  rw[hx]at h
  simp[xfz]at h
  split at h
  ·rename_i p hp
   obtain⟨ds,ids⟩:=p
   injection h with h
   subst h
   have hc:=Mo hT hm fg hx
   obtain⟨jS,jR⟩:=hc
   refine⟨jS,fun w M vs dr nM hr=>?_⟩
   let G0:Gh:=⟨M,fun _=>none,fun _ _ _ _=>none,fun _ _=>False⟩
   have hc:=jR w G0 vs nM ⟨dr,fun i=>⟨rfl,fun _ _ _=>rfl⟩,fun i b ho=>ho.elim,fun i j b ho=>ho.elim⟩ (Fx hr)
   refine hc.mono ?_
   rintro e w' ⟨v,rs1,K1,G',rfl,⟨rfl,rfl⟩,out⟩
   have fy:∀i b,cD G' i _ b->w.heap.size<=b:=fun i b ho=>by
    rcases out.E6 i b ho with h|⟨j,h⟩
    ·grind
    ·exact h.elim
   let g:dY:=⟨fun b=>∃i,cD G' i (aa K1 i) b,w',G'.M,0,fun _=>none,fun _ _=>none⟩
   have ak:cA g 0 (fun _=>.any) (aa K1) { tmps:=#[],defers:=[] } w' G':=by
    refine { fit:=out.fit,env:=fun t=>.any _,size:=rfl,zZ:=fun _ _ _=>rfl,os:=rfl,tape:=rfl,output:=rfl,grow:=aei _,mem:=.refl _,nF:=fun _ _ _=>rfl,gJ:=fun i b ho=>.inr ⟨i,ho⟩,fE:=nofun,wC:=nofun,o7:=nM.mono out.le,ua:=⟨[],rfl,List.nodup_nil,by simp⟩ }
   obtain⟨G2,hle,_,_,_,lT⟩:=ak.qq ids (fun _ _=>rfl)
   refine⟨v,G2.M,rfl,⟨out.os,out.tape,out.output,out.size,fun b hb=>(out.frame b hb (fun i h=>h.elim)).1⟩,out.le.trans hle.mem,lT.fit.sub,fun b hb=>?_,?_⟩
   ·rw[(lT.nF b (Nat.lt_of_lt_of_le hb out.size) fun⟨i,ho⟩=>by grind)]
    exact(out.frame b hb (fun i h=>h.elim)).2
   ·have key:∀us,cC G' rs1 us->fP G2.M ds us:=fun us hu=>kA (fun _ _=>rfl) hle lT.fit hp (fun _ h=>h) hu
    have hv:=out.res
    match rs1,hv,key with
    |[],hv,key=>
     cases hv with|gm _ us hl hr=>
     have hd:=key us ⟨hl,hr⟩
     have:=by simpa using hl.symm
     subst this
     have:=by have:=hd.1;simpa using this
     subst this
     exact⟨[],rfl,hd⟩
    |[x],hv,key=>
     have hd:=key [v] ⟨rfl,fun j d u h1 h2=>by
      cases j with
      |zero=>simp at h1 h2;subst h1;subst h2;exact hv
      |succ j=>grind⟩
     match ds,hd with
     |[],hd=>have:=hd.1;grind
     |[d],hd=>exact hd.2 0 d v rfl rfl
     |_::_::_,hd=>have:=hd.1;grind
    |x::y::r,hv,key=>
     cases hv with|gm _ us hl hr=>
     have hd:=key us ⟨hl,hr⟩
     have h2:=hd.1
     match ds,hd,h2 with
     |[],hd,h2=>grind
     |[d],hd,h2=>grind
     |a::b::c,hd,h2=>exact⟨us,rfl,hd⟩
  grind
end
end
section
open Go.RowKit
variable [cq]
end
section
open Go.RowKit
variable [cq]
inductive Fy:az->az->Prop
 |refl (b:az):Fy b b
 |omap (v e:Nat) (ks:KS) {m m':List DV} (h:m.Perm m'):Fy (.tree v e (.omap ks m)) (.tree v e (.omap ks m'))
def Bm(k k':ad):Prop:=∀i,Fy (aa k i) (aa k' i)
theorem Bm.refl(k:ad):Bm k k:=fun _=>.refl _
theorem Bm.cons{i:Nat}{b b':az}{k k':ad}(h:Fy b b')(t:Bm k k'):Bm ((i,b)::k) ((i,b')::k'):=fun j=>by
 simp[aa]
 cases Nat.beq i j with
 |true=>grind
 |false=>exact t j
theorem Bn{ks:KS}{m m':List DV}(hu:UK m)(hp:m.Perm m')(s:PS)(r:List PS):get (.omap ks m) (s::r)=get (.omap ks m') (s::r):=by
 have hs:step (.omap ks m) s=step (.omap ks m') s:=by
  cases s with
  |el i j=>rfl
  |key k j=>simp[step,hu.mL hp k]
 grind [get]
theorem uU{ks:KS}{m m':List DV}(hu:UK m)(hp:m.Perm m'){p:List PS}{n:DV}(h:get (.omap ks m) p=some n)(hn:n.au=true):∃n',get (.omap ks m') p=some n'/\n'.au=true:=by
 cases p with
 |nil=>exact⟨_,rfl,rfl⟩
 |cons s r=>grind [Bn]
theorem bA.KU{M:Mem}{w:World}{H:List PS->Option Value}{ks:KS}{m m':List DV}(h:bA M w H (.omap ks m))(hp:m.Perm m'):UK m/\bA M w H (.omap ks m'):=by
 obtain⟨v,h1,h2,h3⟩:=h.2 [] _ rfl rfl
 have hu:=cI.uk h3
 refine⟨hu,rfl,fun p n hg hn=>?_⟩
 cases p with
 |nil=>
  have hg:=by simpa[get]using hg
  subst hg
  obtain⟨m0,q,rest⟩:=h3
  exact⟨v,h1,h2,m0,q.trans hp,rest⟩
 |cons s r=>
  rw[<-Bn hu hp]at hg
  exact h.2 _ n hg hn
theorem bO.KU{H:List PS->Option Value}{ks:KS}{m m':List DV}(hu:UK m)(hp:m.Perm m'){b:Nat}(h:bO H (.omap ks m) b):bO H (.omap ks m') b:=by
 obtain⟨p,n,v,h1,h2,h3,h4⟩:=h
 obtain⟨n',e1,e2⟩:=uU hu hp h1 h2
 exact⟨p,n',v,e1,e2,h3,h4⟩
theorem gA.aaM{G:Gh}{w:World}{i:Nat}{b c:az}(h:gA G w i b)(p:Fy b c):gA G w i c/\∀x,cD G i c x↔cD G i b x:=by
 cases p with
 |refl=>grind
 |omap v e ks hp=>
  obtain⟨h1,h2,h3,h4⟩:=h
  obtain⟨hu,ht⟩:=h1.KU hp
  have Z9:=hu.perm hp
  refine⟨⟨ht,fun p q n m u v b e1 e2 e3 e4 e5 e6 e7 e8=>?_,h3,h4⟩,fun x=>⟨fun o=>bO.KU Z9 hp.symm o,fun o=>bO.KU hu hp o⟩⟩
  obtain⟨n',a1,a2⟩:=uU Z9 hp.symm e1 e2
  obtain⟨m',b1,b2⟩:=uU Z9 hp.symm e5 e6
  exact h2 p q n' m' u v b a1 a2 e3 e4 b1 b2 e7 e8
theorem rT{P:Program}{f:Nat}{args:List AV}{m:Nat}{K:ad}{ex:Nat}{rs:List AV}{K0:ad}(h:bU P f args m K ex fun r k=>r=rs/\Bm k K0):aj P f args m K ex rs K0:=by
 refine⟨h.1,fun w G vs nM cY hr=>?_⟩
 refine Calls.mono (h.2 w G vs nM cY hr) ?_
 rintro e w' ⟨v,r,k,G',rfl,⟨rfl,hp⟩,hc⟩
 have hb:=fun i=>(hc.fit.box i).aaM (hp i)
 refine⟨v,r,K0,G',rfl,⟨rfl,rfl⟩,{ hc with fit:=⟨hc.fit.sub,fun i=>(hb i).1,fun i b o=>hc.fit.own i b (((hb i).2 b).1 o),fun i j b o o'=>hc.fit.inj i j b (((hb i).2 b).1 o) (((hb j).2 b).1 o')⟩,no:=fun i hi=>?_,E6:=fun i b o=>hc.E6 i b (((hb i).2 b).1 o) }⟩
 have h2:=hp i
 rw[(hc.no i hi)]at h2
 generalize aa K0 i=c at h2
 cases h2
 rfl
end
section
open Go.RowKit
theorem oA.gG{a p:Prop}(h:p):(a->a)/\p:=⟨id,h⟩
theorem oB.gG{b:Bool}{a p:Prop}(h:p):(a->b=false->bw b false=true)/\p:=⟨fun _ e=>by subst e;rfl,h⟩
theorem oC.gG{b:Bool}{a p:Prop}(h:p):(a->b=true->bw b true=true)/\p:=⟨fun _ e=>by subst e;rfl,h⟩
theorem oD.gG{a b:Bool}{p:Prop}(h:p):(a=true->a=true/\(b=true->(a&&bw b true)=true))/\p:=⟨fun c=>⟨c,fun e=>by subst c;subst e;rfl⟩,h⟩
theorem oE.gG{a b:Bool}{p:Prop}(h:p):(a=true->a=true/\(b=false->(a&&bw b false)=true))/\p:=⟨fun c=>⟨c,fun e=>by subst c;subst e;rfl⟩,h⟩
variable [cq]
mutual
theorem KV{m:Nat}{κ κ':Nat->az}:∀(v w:AV),j8 m κ v=w->gE m κ κ' w v
 |.any,_,rfl=>trivial
 |.dv d,_,rfl=>DV.Le.refl d
 |.ptr i o,_,rfl=>rfl
 |.own i v e p,w,h=>by
  simp only[j8]at h
  split at h
  ·rename_i v' e' d hk
   cases hb:Nat.beq v v'&&(emp p||Nat.beq e e')with
   |true=>rw[hb]at h;subst h;show j8 m κ (.own i v e p)=_;simp only[j8,hk,hb];rfl
   |false=>rw[hb]at h;subst h;exact trivial
  ·rename_i hk
   cases hb:Nat.beq v 0&&(emp p||Nat.beq e 0)with
   |true=>rw[hb]at h;subst h;show j8 m κ (.own i v e p)=_;simp only[j8,hk,hb];rfl
   |false=>rw[hb]at h;subst h;exact trivial
  ·subst h;exact trivial
 |.loc i v e p a b c,w,h=>by
  have h2:=h
  simp only[j8]at h
  split at h
  ·rename_i v' e' d hk
   cases hb:Nat.beq v v'&&(emp p||Nat.beq e e')with
   |true=>rw[hb]at h;subst h;exact h2
   |false=>rw[hb]at h;subst h;exact trivial
  ·subst h;exact trivial
 |.pre i v e p a b c,w,h=>by
  have h2:=h
  simp only[j8]at h
  split at h
  ·rename_i v' e' d hk
   cases hb:Nat.beq v v'&&(emp p||Nat.beq e e')with
   |true=>rw[hb]at h;subst h;exact h2
   |false=>rw[hb]at h;subst h;exact trivial
  ·subst h;exact trivial
 |.fn f l,_,rfl=>⟨rfl,gO l _ rfl⟩
 |.ko f l,_,rfl=>⟨rfl,gO l _ rfl⟩
 |.agg l,_,rfl=>gO l _ rfl
 |.gm l,_,rfl=>gO l _ rfl
 |.opt _ _,_,rfl=>trivial
 |.fa _,_,rfl=>rfl
 |.sle _ _,_,rfl=>rfl
 |.cz i v,w,h=>by
  have h2:=h
  simp only[j8]at h
  split at h
  ·rename_i v' e' d hk
   cases hb:Nat.beq v v' with
   |true=>rw[hb]at h;subst h;exact h2
   |false=>rw[hb]at h;subst h;exact trivial
  ·subst h;exact trivial
theorem gO{m:Nat}{κ κ':Nat->az}:∀(l r:List AV),nP m κ l=r->dZ m κ κ' r l
 |[],_,rfl=>trivial
 |v::l,_,rfl=>⟨KV v _ rfl,gO l _ rfl⟩
end
def Xx(m:Nat)(κ:Nat->az)(ρ:Nat->AV):Env->Env
 |[]=>[]
 |p::r=>(p.1,j8 m κ (ρ p.1))::Xx m κ ρ r
def aaN(m i:Nat)(κ:Nat->az):az->az
 |.cells l=>.cells (nP m κ l)
 |.tree V E d=>.tree (jD m i V E).1 (jD m i V E).2 d
 |.fz V d=>.fz (jD m i V 0).1 d
 |.dw rc st l=>.dw rc st (nP m κ l)
 |.dead=>.dead
 |.held=>.held
 |_=>.none
def Mp(m:Nat)(κ:Nat->az):ad->ad
 |[]=>[]
 |p::r=>(p.1,aaN m p.1 κ (κ p.1))::Mp m κ r
theorem KW{m:Nat}{κ κ':Nat->az}{ρ:Nat->AV}:∀{e e':Env},Xx m κ ρ e=e'->Ov m ρ κ κ' e'
 |[],_,rfl=>trivial
 |(t,v)::r,_,rfl=>⟨KV _ _ rfl,KW (e:=r) rfl⟩
theorem nV{m i:Nat}{κ κ':Nat->az}{b b':az}(h:aaN m i κ b=b'):oQ m κ κ' i b b':=by
 subst h
 cases b with
 |cells l=>exact gO l _ rfl
 |tree V E d=>exact⟨rfl,rfl⟩
 |fz V d=>exact⟨rfl,DV.Le.refl d⟩
 |dw rc st l=>exact⟨rfl,rfl,gO l _ rfl⟩
 |_=>exact trivial
theorem aZ{m:Nat}{κ κ':Nat->az}:∀{k k':ad},Mp m κ k=k'->pd m κ κ' k'
 |[],_,rfl=>trivial
 |(i,b)::r,_,rfl=>⟨nV rfl,aZ (k:=r) rfl⟩
theorem jn{m:Nat}{env:Env}{K:ad}{s:cJ}(h1:Xx m (aa K) (look env) s.env=s.env)(h2:Mp m (aa K) s.K=s.K)(h3:Ak (aa s.K) (A1 (look env) (aa K) s.env++fc (aa K) s.K)=true)(h4:vE (aa K) (aa s.K) m=true):cJ.sub m env K s:=
 ⟨KW h1,aZ h2,h3,h4⟩
theorem ext{m ex:Nat}{κ:Nat->az}{lN rs:List AV}{K':ad}(h0:pk m ex κ lN rs K'=true)(h1:nP m κ lN=rs)(h2:Mp m κ K'=K'):∃wF K'',(wF=rs/\K''=K')/\pk m ex κ lN wF K''=true/\dZ m κ (aa K'') wF lN/\pd m κ (aa K'') K'':=
 ⟨rs,K',⟨rfl,rfl⟩,h0,gO _ _ h1,aZ h2⟩
theorem cl{P:Program}{f:Nat}{n nx:Nat}{o:Oper}{g:Bool}{κ:Nat->az}{k:lQ->Nat->Prop}{args bT:List AV}{K0:ad}{ex:Nat}{rs:List AV}{K1:ad}(σ:List Nat)(hs:aj P f bT σ.length K0 ex rs K1)
 (h0:(gU κ σ nx args bT K0&&gr σ ex K0 K1 rs)=true) (h1:nP 0 κ args=ec (sg σ nx) dG bT) (h2:Mp 0 κ (cd (sg σ nx) dG K0)=cd (sg σ nx) dG K0)
 (h:pf (mK (sg σ nx) (kr κ σ) (qU rs)) fun v=>q9 v fun v=>pe (cd (sg σ nx) (kr κ σ) K1++mu κ (eb κ (ec (sg σ nx) dG bT) args++fc κ (cd (sg σ nx) dG K0))) fun bx=>xR bx fun bx=>
  yh n o g (nx+ex) k v bx (σ++(eb κ (ec (sg σ nx) dG bT) args++fc κ (cd (sg σ nx) dG K0))++mA nx ex)):ka none (bU P f) n o g nx κ k args:=by
 simp only[aep]at h0
 exact⟨σ,bT,K0,ex,rs,K1,hs,by rw[h0.1];rfl,h0.2,gO _ _ h1,aZ h2,h⟩
end
section
open Go.RowKit
variable [cq]
end
section
open Go.RowKit
variable [cq]
section
variable {g:dY} {n:Nat} {ρ:Nat->AV} {κ κ':Nat->az} {a:Act} {w w':World} {G:Gh}
end
end
section
open Go.RowKit
variable [cq]
end
section
open Go.RowKit
variable [cq]
inductive iW(i v e:Nat):List AV->List AV->Prop
 |nil:iW i v e [] []
 |same (x:AV) {l l':List AV} (h:iW i v e l l'):iW i v e (x::l) (x::l')
 |rU {l l':List AV} (h:iW i v e l l'):iW i v e (.own i 0 0 []::l) (.own i v e []::l')
inductive TS(i v e:Nat):az->az->Prop
 |refl (b:az):TS i v e b b
 |cells {l l':List AV} (h:iW i v e l l'):TS i v e (.cells l) (.cells l')
def acw(i v e:Nat)(k k':ad):Prop:=∃d,aa k i=.tree 0 0 d/\aa k' i=.tree v e d/\∀j,j≠i->TS i v e (aa k j) (aa k' j)
theorem iW.refl(i v e:Nat):∀l,iW i v e l l
 |[]=>.nil
 |x::l=>.same x (iW.refl i v e l)
theorem iW.len{i v e:Nat}{l l':List AV}(h:iW i v e l l'):l.length=l'.length:=by
 induction h with
 |nil=>rfl
 |same x _ ih=>grind
 |rU _ ih=>grind
theorem iW.ao{i v e:Nat}{l l':List AV}(h:iW i v e l l')(hc:∀v,v∈l->v.ao=true):∀v,v∈l'->v.ao=true:=by
 induction h with
 |nil=>grind
 |same x _ ih=>
  grind
 |rU _ ih=>
  intro y hy
  rcases adV.1 hy with rfl|hy
  ·rfl
  grind
theorem iW.at{i v e:Nat}{l l':List AV}(h:iW i v e l l'):∀(j:Nat) (d:AV),l'[j]?=some d->l[j]?=some d\/(l[j]?=some (.own i 0 0 [])/\d=.own i v e []):=by
 induction h with
 |nil=>grind
 |same x _ ih=>
  grind
 |rU _ ih=>
  grind
def Fz(H:Nat->Nat->Nat->List PS->Option Value)(i v e:Nat):Nat->Nat->Nat->List PS->Option Value:=
 fun j v' e' p=>if j=i/\v'=v/\e'=e then H i 0 0 p else H j v' e' p
def mY(G:Gh)(i v e:Nat):Gh:={ G with H:=Fz G.H i v e }
theorem II(H:Nat->Nat->Nat->List PS->Option Value)(i v e j v' e':Nat)(hn:j≠i):aV (Fz H i v e) j v' e'=aV H j v' e':=by
 funext p
 cases p with
 |nil=>show(if _ then _ else _)=_;rw[if_neg (fun h=>hn h.1)];rfl
 |cons s p=>show(if _ then _ else _)=_;rw[if_neg (fun h=>hn h.1)];rfl
theorem Mq(H:Nat->Nat->Nat->List PS->Option Value)(i v e j:Nat)(Wa:(v=0/\e=1)\/(v=1/\e=0)):aV (Fz H i v e) j 0 0=aV H j 0 0:=by
 funext p
 cases p with
 |nil=>show(if _ then _ else _)=_;rw[if_neg (fun h=>by omega)];rfl
 |cons s p=>show(if _ then _ else _)=_;rw[if_neg (fun h=>by omega)];rfl
theorem Bo(H:Nat->Nat->Nat->List PS->Option Value)(i v e:Nat)(Wa:(v=0/\e=1)\/(v=1/\e=0)):aV (Fz H i v e) i v e=aV H i 0 0:=by
 funext p
 cases p with
 |nil=>
  show(if i=i/\v=v/\0=e then H i 0 0 []else H i v 0 [])=H i 0 0 []
  grind
 |cons s p=>show(if i=i/\v=v/\e=e then _ else _)=_;rw[if_pos ⟨rfl,rfl,rfl⟩];rfl
theorem TT{G:Gh}{i v e:Nat}(Wa:(v=0/\e=1)\/(v=1/\e=0))(h1:∀v,0<v->∀e p,G.H i v e p=none)(h2:∀e,0<e->∀p,G.H i 0 e p=none):Gh.Le G (mY G i v e):=by
 refine⟨Mem.Le.refl _,fun _ _ h=>h,fun j v' e' p x hx=>?_⟩
 show(if j=i/\v'=v/\e'=e then _ else _)=_
 grind
theorem PB{G:Gh}{w:World}{i v e j:Nat}{b b':az}(Wa:(v=0/\e=1)\/(v=1/\e=0))(hle:Gh.Le G (mY G i v e))(hj:j≠i)(hb:gA G w j b)(hr:TS i v e b b'):
 gA (mY G i v e) w j b'/\∀x,cD (mY G i v e) j b' x↔cD G j b x:=by
 have fy:∀v' e' p,(mY G i v e).H j v' e' p=G.H j v' e' p:=fun v' e' p=>by
  show(if _ then _ else _)=_;grind
 have hh:∀v' e',aV (mY G i v e).H j v' e'=aV G.H j v' e':=fun v' e'=>II G.H i v e j v' e' hj
 cases hr with
 |cells h=>
  obtain⟨b,c,t,h1,h2,h3,h4,h5⟩:=hb
  refine⟨⟨b,c,t,h1,h2,by rw[h3];exact h.len,h.ao h4,fun q d u hd hu=>?_⟩,fun x=>Iff.rfl⟩
  rcases h.at q d hd with h6|⟨h6,rfl⟩
  ·exact(h5 q d u h6 hu).mono hle
  ·cases(h5 q _ u h6 hu)with
   |own _ _ _ _ _ h8 h9=>
    refine .own _ _ _ _ _ ?_ h9
    show aV (Fz G.H i v e) i v e []=_
    simp_all [Bo]
 |refl=>
  cases b with
  |none=>exact⟨⟨hb.1,fun v' e' p=>by rw[fy];exact hb.2 v' e' p⟩,fun x=>Iff.rfl⟩
  |dead=>exact⟨tv,fun x=>Iff.rfl⟩
  |cells l=>
   obtain⟨b,c,t,h1,h2,h3,h4,h5⟩:=hb
   exact⟨⟨b,c,t,h1,h2,h3,h4,fun q d u hd hu=>(h5 q d u hd hu).mono hle⟩,fun x=>Iff.rfl⟩
  |tree ver ep d=>
   obtain⟨h1,h2,h3,h4⟩:=hb
   refine⟨⟨by rwa[hh],by grind,fun v' hv e' p=>by grind,fun e' he p=>by grind⟩,fun x=>?_⟩
   show bO _ d x↔bO _ d x
   grind
  |fz ver d=>
   obtain⟨u,h1,h2,h3⟩:=hb
   exact⟨⟨u,by grind,h2,h3⟩,fun x=>Iff.rfl⟩
  |dw rc st l=>
   obtain⟨b,fn,tmps,D,h1,h2,h3⟩:=hb
   exact⟨⟨b,fn,tmps,D,h1,h2,h3.mono hle⟩,fun x=>Iff.rfl⟩
  |held=>exact⟨⟨fun v' hv e' p=>by rw[fy];exact hb.1 v' hv e' p,fun e' he p=>by rw[fy];exact hb.2 e' he p⟩,fun x=>Iff.rfl⟩
  |lL k p d left cur=>
   have h0:aV (mY G i v e).H k 0 0=aV G.H k 0 0:=Mq G.H i v e k Wa
   obtain⟨r,mb,es,clock,seen,ks,m,hi⟩:=hb
   refine⟨⟨r,mb,es,clock,seen,ks,m,hi.fE,hi.it,by rw[h0];exact hi.tree,by rw[h0];exact hi.inj,hi.node,by rw[h0];exact hi.head,hi.map,hi.left,hi.cur⟩,fun x=>?_⟩
   show(bO _ d x\/_)↔_
   rw[h0];rfl
end
section
open Go.RowKit
variable [cq]
end
section
open Go.RowKit
variable [cq]
def IJ:List AV->Bool
 |[]=>true
 |.dv _::r=>IJ r
 |_=>false
theorem Bp:∀{l:List AV},IJ l=true->∀(j:Nat) (d:AV),l[j]?=some d->∃x,d=.dv x
 |.dv x::r,h,0,d,hd=>by grind
 |.dv x::r,h,j+1,d,hd=>Bp (l:=r) h j d (by grind)
def CR:List AV->Bool
 |[]=>true
 |.dv _::r=>CR r
 |.ptr _ _::r=>CR r
 |_::_=>false
theorem uV:∀{l:List AV},CR l=true->∀(j:Nat) (d:AV),l[j]?=some d->(∃x,d=.dv x)\/∃i o,d=.ptr i o
 |.dv x::r,h,0,d,hd=>by grind
 |.dv x::r,h,j+1,d,hd=>uV (l:=r) h j d (by grind)
 |.ptr i o::r,h,0,d,hd=>by grind
 |.ptr i o::r,h,j+1,d,hd=>uV (l:=r) h j d (by grind)
def Bq(i:Nat):AV->Bool
 |.any=>true
 |.dv _=>true
 |.agg l=>IJ l
 |.ptr _ _=>true
 |.fa _=>true
 |.fn _ l=>CR l
 |.own j _ _ _=>!Nat.beq j i
 |_=>false
def yt(i:Nat):List AV->Bool
 |[]=>true
 |v::r=>Bq i v&&yt i r
def Xy(i:Nat):az->Bool
 |.none=>true
 |.dead=>true
 |.cells l=>yt i l
 |.tree _ _ _=>true
 |.dw _ _ l=>yt i l
 |_=>false
theorem rV{i:Nat}:∀{l:List AV},yt i l=true->∀v,v∈l->Bq i v=true
 |x::r,h,v,hv=>by
  simp[yt,aep]at h
  rcases adV.1 hv with rfl|hv
  ·grind
  ·exact rV h.2 v hv
abbrev vO:=Nat->Nat->List PS->Option Value
def iX(G:Gh)(i:Nat)(Hi:vO):Gh:={ G with H:=fun j=>if j=i then Hi else G.H j }
theorem iE{G:Gh}{i j:Nat}{Hi:vO}(h:j≠i):(iX G i Hi).H j=G.H j:=by
 show(if j=i then Hi else G.H j)=_;grind
theorem jy{G:Gh}{i:Nat}{Hi:vO}:(iX G i Hi).H i=Hi:=by
 show(if i=i then Hi else G.H i)=_;grind
theorem qC{G:Gh}{i j:Nat}{Hi:vO}(h:j≠i)(v e:Nat):aV (iX G i Hi).H j v e=aV G.H j v e:=by
 funext p
 cases p with
 |nil=>show(iX G i Hi).H j v 0 []=_;rw[iE h];rfl
 |cons s p=>show(iX G i Hi).H j v e _=_;rw[iE h];rfl
theorem yu{G:Gh}{i:Nat}{Hi:vO}{a:AV}{x:Value}(ha:Bq i a=true)(h:aI G a x):aI (iX G i Hi) a x:=by
 cases h with
 |dv hd=>exact .dv hd
 |agg l vs hl hr=>
  refine .agg l vs hl fun j d v hd hv=>?_
  obtain⟨x,rfl⟩:=Bp (ha) j d hd
  cases hr j _ v hd hv with|dv h=>exact .dv h
 |any=>exact .any _
 |fa j l h=>exact .fa j l h
 |fn f l vs hl hr=>
  refine .fn f l vs hl fun j d v hd hv=>?_
  rcases uV (ha) j d hd with⟨x,rfl⟩|⟨q,o,rfl⟩
  ·cases hr j _ v hd hv with|dv h=>exact .dv h
  ·cases hr j _ v hd hv with|ptr _ _ b hb=>exact .ptr _ _ b hb
 |ptr j off b hb=>exact .ptr j off b hb
 |own j ver ep p _ hv hc=>
  have hj:j≠i:=by
   rintro rfl
   grind [Bq,Bool.not_eq_true',Nat.beq_refl]
  exact .own j ver ep p _ (by rwa[qC hj]) hc
 |_=>cases ha
theorem TU{G:Gh}{w:World}{i j:Nat}{Hi:vO}{b:az}(hj:j≠i)(hb:Xy i b=true)(h:gA G w j b):gA (iX G i Hi) w j b:=by
 cases b with
 |none=>exact⟨h.1,fun v e p=>by rw[iE hj];exact h.2 v e p⟩
 |dead=>trivial
 |cells l=>
  obtain⟨b,c,t,h1,h2,h3,h4,h5⟩:=h
  exact⟨b,c,t,h1,h2,h3,h4,fun q d u hd hu=>yu (rV hb d (adR hd)) (h5 q d u hd hu)⟩
 |tree ver ep d=>
  obtain⟨h1,h2,h3,h4⟩:=h
  exact⟨by rwa[qC hj],by rwa[qC hj],fun v hv e p=>by simp_all [iE],fun e he p=>by simp_all [iE]⟩
 |dw rc st l=>
  obtain⟨b,fn,tmps,D,h1,h2,h3⟩:=h
  exact⟨b,fn,tmps,D,h1,h2,h3.1,fun q d u hd hu=>yu (rV hb d (adR hd)) (h3.2 q d u hd hu)⟩
 |_=>cases hb
theorem TV{G:Gh}{i j:Nat}{Hi:vO}{b:az}(hj:j≠i)(hb:Xy i b=true)(x:Nat):cD (iX G i Hi) j b x↔cD G j b x:=by
 cases b with
 |none=>rfl
 |dead=>rfl
 |cells l=>rfl
 |tree ver ep d=>show bO _ d x↔bO _ d x;rw[qC hj]
 |dw rc st l=>rfl
 |_=>cases hb
end
end Go.TM
