import Derived.Test.YtpbiiigpphehbaaGreatDoorFM24
import Derived.LoopNIn
set_option linter.all false
namespace Go.TM
section
open Go.RowKit
variable [cj]
theorem VE:∀N:Nat,(∀a b:DV,SizeOf.sizeOf a<N->MN a b=true->a=b)/\(∀l r:List DV,SizeOf.sizeOf l<N->Ak l r=true->l=r):=by
 intro N
 induction N with
 |zero=>exact⟨fun _ _ h=>by omega,fun _ _ h=>by omega⟩
 |succ N ih=>
  refine⟨fun a b aW h=>?_,fun l r aW h=>?_⟩
  ·cases a<;>cases b<;>simp only[MN]at h<;>(try cases h)<;>(try rfl)
   all_goals(try simp only[aca]at h)
   ·rename_i k lo hi k' WW zO
    rw[rA,rA]at h
    have h1:k=k':=by simpa using h.1
    have h2:lo=WW:=by simpa using h.2.1
    have h3:hi=zO:=by simpa using h.2.2
    rw[h1,h2,h3]
   ·rename_i k m k' m'
    rw[rA]at h
    have h1:k=k':=by simpa using h.1
    have h2:m=m':=by simpa using h.2
    rw[h1,h2]
   ·rename_i b b'
    have:b=b':=by simpa using h
    rw[this]
   ·rename_i s s'
    have:s=s':=by simpa using h
    rw[this]
   ·rename_i f l f' l'
    rw[abD h.1,ih.2 l l' (by simp at aW;omega) h.2]
   ·rename_i f l f' l'
    rw[abD h.1,ih.2 l l' (by simp at aW;omega) h.2]
   ·rename_i x o x' o'
    rw[ih.1 x x' (by simp at aW;omega) h.1,abD h.2]
   ·rename_i l l'
    rw[ih.2 l l' (by simp at aW;omega) h]
   ·rename_i f l f' l'
    rw[abD h.1,ih.2 l l' (by simp at aW;omega) h.2]
   ·rename_i x x'
    rw[ih.1 x x' (by simp at aW;omega) h]
   ·rename_i s l s' l'
    rw[J1 h.1,ih.2 l l' (by simp at aW;omega) h.2]
   ·rename_i x y x' y'
    rw[ih.1 x x' (by simp at aW;omega) h.1,ih.1 y y' (by simp at aW;omega) h.2]
  ·cases l with
   |nil=>cases r with
    |nil=>rfl
    |cons=>simp[Ak]at h
   |cons a l=>cases r with
    |nil=>simp[Ak]at h
    |cons b r=>
     simp only[Ak,aca]at h
     rw[ih.1 a b (by simp at aW;omega) h.1,ih.2 l r (by simp at aW;omega) h.2]
theorem CX{a b:DV}(h:MN a b=true):a=b:=(VE (SizeOf.sizeOf a+1)).1 a b (by omega) h
theorem Bf:∀{l r:List PS},uF l r=true->l=r
 |[],[],_=>rfl
 |a::l,b::r,h=>by
  simp only[uF,aca]at h
  have:a=b:=by
   have h1:=h.1
   cases a<;>cases b<;>simp only[Yy]at h1<;>(try cases h1)<;>simp only[aca]at h1
   ·rw[abD h1.1,abD h1.2]
   ·rw[CX h1.1,abD h1.2]
  rw[this,Bf h.2]
 |[],_::_,h=>by simp[uF]at h
 |_::_,[],h=>by simp[uF]at h
theorem VF:∀N:Nat,(∀a b:AV,SizeOf.sizeOf a<N->eqA a b=true->a=b)/\(∀l r:List AV,SizeOf.sizeOf l<N->Al l r=true->l=r):=by
 intro N
 induction N with
 |zero=>exact⟨fun _ _ h=>by omega,fun _ _ h=>by omega⟩
 |succ N ih=>
  refine⟨fun a b aW h=>?_,fun l r aW h=>?_⟩
  ·cases a<;>cases b<;>simp only[eqA]at h<;>(try cases h)<;>(try rfl)
   all_goals(try simp only[aca]at h)
   ·rw[CX h]
   ·rw[abD h.1,abD h.2]
   ·rw[abD h.1.1.1,abD h.1.1.2,abD h.1.2,Bf h.2]
   ·rename_i f l f' l'
    rw[abD h.1,ih.2 l l' (by simp at aW;omega) h.2]
   ·rename_i f l f' l'
    rw[abD h.1,ih.2 l l' (by simp at aW;omega) h.2]
   ·rename_i l l'
    rw[ih.2 l l' (by simp at aW;omega) h]
   ·rename_i l l'
    rw[ih.2 l l' (by simp at aW;omega) h]
   ·rw[abD h]
   ·rw[abD h.1,abD h.2]
   ·rw[abD h.1,abD h.2]
  ·cases l with
   |nil=>cases r with
    |nil=>rfl
    |cons=>simp[Al]at h
   |cons a l=>cases r with
    |nil=>simp[Al]at h
    |cons b r=>
     simp only[Al,aca]at h
     rw[ih.1 a b (by simp at aW;omega) h.1,ih.2 l r (by simp at aW;omega) h.2]
theorem OT{a b:ar}(h:Ba a b=true):a=b:=by
 cases a<;>cases b<;>simp only[Ba]at h<;>(try cases h)
 all_goals(try simp only[aca]at h)
 ·rename_i l l';rw[(VF (SizeOf.sizeOf l+1)).2 l l' (by omega) h]
 ·rw[abD h.1.1,abD h.1.2,CX h.2]
 ·rw[abD h.1,CX h.2]
theorem rE{γ:Type _}(f:Nat->γ){i:Nat}:∀{l:List (Nat×γ)},(∀p,p∈l->p.1≠i)->ay f l i=f i
 |[],_=>rfl
 |p::r,h=>by
  obtain⟨j,x⟩:=p
  simp only[ay]
  rw[ah _ _ (fun e=>h (j,x) (by simp) e.symm)]
  exact rE f fun q hq=>h q (by simp[hq])
theorem Bg:∀{l:List (Nat×ar)} {p:Nat×ar},p∈l->p.1∈eS l
 |[],p,h=>by simp at h
 |q::r,p,h=>by
  simp only[eS,abG]
  rcases abG.1 h with rfl|h
  ·exact .inl rfl
  ·exact .inr (Bg h)
theorem yA{κ:Nat->ar}{rd:List Nat}:∀{l:List (Nat×ar)} {p:Nat×ar},p∈yt κ rd l->p∈l
 |[],p,h=>by simp[yt]at h
 |q::r,p,h=>by
  simp only[yt]at h
  cases hb:iw q.1 rd&& !iw q.1 (eS r)&&Ba q.2 (κ q.1)with
  |true=>rw[hb]at h;exact abH _ (yA h)
  |false=>
   rw[hb]at h
   rcases abG.1 h with rfl|h
   ·simp
   ·exact abH _ (yA h)
theorem uJ{κ:Nat->ar}{rd:List Nat}:∀{l:List (Nat×ar)} {p:Nat×ar},p∈l->p∈yt κ rd l\/p.1∈rd
 |[],p,h=>by simp at h
 |q::r,p,h=>by
  simp only[yt]
  cases hb:iw q.1 rd&& !iw q.1 (eS r)&&Ba q.2 (κ q.1)with
  |true=>
   simp only[aca]at hb
   rcases abG.1 h with rfl|h
   ·exact .inr (mr hb.1.1)
   ·exact uJ h
  |false=>
   rcases abG.1 h with rfl|h
   ·exact .inl (by simp)
   ·rcases uJ (κ:=κ) (rd:=rd) h with h|h
    ·exact .inl (abH _ h)
    ·exact .inr h
theorem uK{κ κ':Nat->ar}{rd:List Nat}(ax:∀i,i∈rd->κ' i=κ i):∀(l:List (Nat×ar)),ay κ' (yt κ rd l)=ay κ' l
 |[]=>rfl
 |q::r=>by
  simp only[yt]
  cases hb:iw q.1 rd&& !iw q.1 (eS r)&&Ba q.2 (κ q.1)with
  |false=>obtain⟨j,x⟩:=q;simp only[cond_false,ay];rw[uK ax r]
  |true=>
   simp only[cond_true]
   rw[uK ax r]
   obtain⟨j,x⟩:=q
   simp only[aca,acd]at hb
   funext i
   simp only[ay]
   by_cases e:i=j
   ·subst e
    rw[bo,rE (i:=i) (l:=r) _ (fun p hp hpi=>fa hb.1.2 (by have:=Bg hp;rw[hpi]at this;exact this)),ax i (mr hb.1.1),OT hb.2]
   ·rw[ah _ _ e]
section
variable {P:Program} {C:dO->Prop} {T:List TI} {ops:List Oper} {n:Nat} {o:Oper} {nx:Nat} {ρ:Nat->AV} {κ:Nat->ar} {k:lj->Nat->Prop}
theorem Lz{e:EN}(h:Good P C ops n o nx ρ κ fun e' n'=>e'=e.1/\n'=e.2)(hk:k ⟨e.1.dst,yt κ e.1.reads e.1.box,e.1.reads⟩ e.2):Good P C ops n o nx ρ κ k:=by
 obtain⟨bp,dZ,⟨rfl,rfl⟩,h2,h3,h4⟩:=h
 refine⟨_,_,hk,h2,fun p hp=>h3 p (yA hp),fun F hF ρ' κ' ax g a w dz aj=>?_⟩
 have G5:DR ops o ρ ρ' κ κ' e.1.reads e.1.box:=⟨ax.bR,ax.rows,ax.reads,fun i b hb=>by
  rcases uJ (κ:=κ) (rd:=e.1.reads) hb with h|h
  ·exact ax.boxes i b h
  ·exact ax.reads i h⟩
 have:=h4 F hF ρ' κ' G5 g a w dz aj
 simp only[uK ax.reads]
 exact this
theorem LA{ρ':Nat->AV}{l:List (Nat×AV)}{g:dO}{κ':Nat->ar}{a:Act}{w:World}(h:St g n (ay ρ' l) κ' a w):St g n (ay ρ' (Lp l)) κ' a w:=by
 obtain⟨G,aj⟩:=h
 refine⟨G,{ aj with env:=fun t=>?_,tL:=aj.tL }⟩
 have key:∀(l:List (Nat×AV)) (x:Value),aH G (ay ρ' l t) x->aH G (ay ρ' (Lp l) t) x:=by
  intro l
  induction l with
  |nil=>intro x h;exact h
  |cons p r ih=>
   obtain⟨j,v⟩:=p
   intro x h
   simp only[Lp,ay]at h⊢
   by_cases e:t=j
   ·subst e;rw[bo]at h⊢;exact .opt true v x (fun _=>h) (by simp)
   ·rw[ah _ _ e]at h⊢;exact ih x h
 exact key l _ (aj.env t)
theorem H3{e:EN}(hg:b5 ρ ops o.guard=some true)(h:Good P C ops n { o with guard:=none } nx ρ κ fun e' n'=>e'=e.1/\n'=e.2)(hk:k ⟨Lp e.1.dst,e.1.box,e.1.reads⟩ e.2):Good P C ops n o nx ρ κ k:=by
 obtain⟨bp,dZ,⟨rfl,rfl⟩,h2,h3,h4⟩:=h
 refine⟨_,_,hk,h2,h3,fun F hF ρ' κ' ax g a w dz aj=>?_⟩
 have G5:DR ops { o with guard:=none } ρ ρ' κ κ' e.1.reads e.1.box:=⟨fun t ht=>ax.bR t (by
  unfold Oper.looksAt at ht⊢
  simp only[List.append_nil]at ht
  exact abI.2 (.inl ht)),ax.rows,ax.reads,ax.boxes⟩
 have aZ:=h4 F hF ρ' κ' G5 g a w dz aj
 obtain⟨G,iu⟩:=aj
 unfold lZ at aZ⊢
 rw[cy hg ax.bR iu,if_pos rfl]
 have hw:Region.wanted { o with guard:=none } (yielded ops.toArray a.tmps)=true:=rfl
 rw[hw,if_pos rfl]at aZ
 exact sw (o:=o) (fun a w h=>LA h) aZ
theorem LB{d:Option Nat}(hg:b5 ρ ops o.guard=some false){e:EN}(h:OE n nx o.dst=.ok e)(hk:k e.1 e.2):Good P C ops n o nx ρ κ k:=by
 unfold OE at h
 cases hd:o.dst with
 |none=>
  rw[hd]at h
  injection h with h;subst h
  refine⟨_,_,hk,ab3 _,by simp,fun F hF ρ' κ' ax g a w dz ⟨G,aj⟩=>?_⟩
  unfold lZ
  rw[cy hg ax.bR aj]
  simp only[Bool.false_eq_true,if_false,hd]
  exact⟨G,aj⟩
 |some d=>
  rw[hd]at h
  obtain⟨au,h⟩:=aA h
  injection h with h;subst h
  rw[Nat.blt_eq]at au
  refine⟨_,_,hk,ab3 _,by simp,fun F hF ρ' κ' ax g a w dz ⟨G,aj⟩=>?_⟩
  unfold lZ
  rw[cy hg ax.bR aj]
  simp only[Bool.false_eq_true,if_false,hd]
  exact⟨G,aj.put au (.opt false _ undef (by simp) (fun _=>rfl))⟩
def pt(P:Program)(C:dO->Prop)(ops:List Oper)(n:Nat)(S:sQ):Prop:=∀(o:Oper) (nx:Nat) (ρ:Nat->AV) (κ:Nat->ar) (e:EN),(∀i,nx<=i->κ i=.none)->S o nx ρ κ=.ok e->Good P C ops n o nx ρ κ fun e' n'=>e'=e.1/\n'=e.2
theorem yB(hT:eV P T){pol:Nat->Bool}{c:XC}(hX:∀f,RX (bV P f) (c.X f))(hY:RX (eh P) c.Y)(hR:c7 P C)(hn:∀i,nx<=i->κ i=.none){e:EN}(hg:o.guard=none)(h:Fc T pol c n o nx ρ κ=.ok e):
 Good P C ops n o nx ρ κ fun e' n'=>e'=e.1/\n'=e.2:=by
 unfold Fc at h
 obtain⟨r,h1,h⟩:=ad h
 obtain⟨e0,h2,h⟩:=ad h
 injection h with h;subst h
 have g0:Good P C ops n o nx ρ κ fun e' n'=>e'=e0.1/\n'=e0.2:=OS hT hX hY hR hn hg h1 h2 ⟨rfl,rfl⟩
 unfold TV
 cases c.drawn with
 |false=>exact g0
 |true=>exact Lz g0 ⟨rfl,rfl⟩
theorem OU(hT:eV P T){pol:Nat->Bool}{c:XC}(hX:∀f,RX (bV P f) (c.X f))(hY:RX (eh P) c.Y)(hR:c7 P C):pt P C ops n (Fe T pol c ops n):=by
 intro o nx ρ κ e hn h
 unfold Fe at h
 split at h
 ·rename_i hg;exact yB hT hX hY hR hn hg h
 ·rename_i g hg
  unfold OF at h
  split at h
  ·rename_i nb
   obtain⟨r,h1,h⟩:=ad h
   injection h with h;subst h
   rw[<-hg]at nb
   have Yb:Fc T pol c n { o with guard:=none } nx ρ κ=.ok r:=h1
   exact H3 nb (yB hT hX hY hR hn rfl Yb) ⟨rfl,rfl⟩
  ·rename_i nb
   rw[<-hg]at nb
   exact LB (d:=none) nb h ⟨rfl,rfl⟩
  ·cases h
end
end
section
open Go.RowKit
variable [cj]
theorem rF{γ:Type}(f:Nat->γ)(i:Nat)(x:γ):Q1 f i x=gM f i x:=by
 funext j
 simp only[Q1,gM]
 by_cases e:j=i
 ·subst e;simp
 ·have hb:Nat.beq j i=false:=by cases hb:Nat.beq j i with|false=>rfl|true=>exact absurd (abD hb) e
  rw[hb,if_neg e]
theorem iL{γ:Type}(f:Nat->γ):∀l:List (Nat×γ),CI f l=ay f l
 |[]=>rfl
 |(i,x)::r=>by simp only[CI,ay];rw[rF,iL f r]
def R3(g:dO)(n:Nat)(s:XS)(a:Act)(w:World):Prop:=St g n s.ρ s.κ a w/\g.m<=s.nx/\∀i,s.nx<=i->s.κ i=.none
theorem pw{nx dZ:Nat}{κ:Nat->ar}{bx:List (Nat×ar)}(hn:∀i,nx<=i->κ i=.none)(hle:nx<=dZ)(hb:∀p,p∈bx->p.1<dZ):∀i,dZ<=i->ay κ bx i=.none:=by
 intro i hi
 rw[rE _ (fun p hp e=>by have:=hb p hp;omega)]
 exact hn i (by omega)
section
variable {P:Program} {C:dO->Prop} {T:List TI} {ops:List Oper} {n:Nat} {g:dO}
theorem yC{S:sQ}(hS:pt P C ops n S)(Ct:C g){F:Fence}(hF:iz F){Q:Exit->Act->World->Prop}{s':XS}(hQ:∀a w,R3 g n s' a w->Q .normal a w):
 ∀(rest:List Oper) (s:XS) (a:Act) (w:World),OG S rest s=.ok s'->R3 g n s a w->wpListIn F 0 P ops.toArray Q rest a w
 |[],s,a,w,h,hs=>by simp only[OG]at h;injection h with h;subst h;exact hQ a w hs
 |o::rest,s,a,w,h,⟨hs,dz,hn⟩=>by
  simp only[OG]at h
  obtain⟨e,h1,h⟩:=ad h
  obtain⟨bp,dZ,⟨rfl,rfl⟩,hle,hb,um⟩:=hS o s.nx s.ρ s.κ e hn h1
  refine p7 hF (um F hF s.ρ s.κ ⟨fun _ _=>rfl,fun _ _=>rfl,fun _ _=>rfl,fun _ _ _=>rfl⟩ g a w ⟨dz,Ct⟩ hs) fun a' w' cY=>?_
  refine yC hS Ct hF hQ rest (CT s e) a' w' h ⟨?_,Nat.le_trans dz hle,?_⟩
  ·simp only[CT,iL];exact cY
  ·simp only[CT,iL];exact pw hn hle hb
theorem vI{S:sQ}(hS:pt P C ops n S){ρ0:Nat->AV}{κ0:Nat->ar}{lo:Nat}{s':XS}{vw:List Rec}:
 ∀(rest done:List Oper) (s:XS) (rs:List Rec),ops=done++rest->rs.length=done.length->lo<=s.nx->
  (∀i,s.nx<=i->s.κ i=.none)->
  s.ρ=acc ρ0 (fun i=>(rs[i]?.map (·.bp.dst)).getD []) (fun _=>true) done.length->s.κ=acc κ0 (fun i=>(rs[i]?.map (·.bp.box)).getD []) (fun _=>true) done.length->
  (∀i r o,rs[i]?=some r->ops[i]?=some o->r.rows=gJ (acc ρ0 (fun i=>(rs[i]?.map (·.bp.dst)).getD []) (fun _=>true) i) (acc κ0 (fun i=>(rs[i]?.map (·.bp.box)).getD []) (fun _=>true) i) o/\ML P C ops n lo o (acc ρ0 (fun i=>(rs[i]?.map (·.bp.dst)).getD []) (fun _=>true) i) (acc κ0 (fun i=>(rs[i]?.map (·.bp.box)).getD []) (fun _=>true) i) r.bp)->
  Ff S rest s rs=.ok (s',vw)->
  vw.length=ops.length/\lo<=s'.nx/\(∀i,s'.nx<=i->s'.κ i=.none)/\
   s'.ρ=acc ρ0 (fun i=>(vw[i]?.map (·.bp.dst)).getD []) (fun _=>true) ops.length/\s'.κ=acc κ0 (fun i=>(vw[i]?.map (·.bp.box)).getD []) (fun _=>true) ops.length/\
   ∀i r o,vw[i]?=some r->ops[i]?=some o->r.rows=gJ (acc ρ0 (fun i=>(vw[i]?.map (·.bp.dst)).getD []) (fun _=>true) i) (acc κ0 (fun i=>(vw[i]?.map (·.bp.box)).getD []) (fun _=>true) i) o/\ML P C ops n lo o (acc ρ0 (fun i=>(vw[i]?.map (·.bp.dst)).getD []) (fun _=>true) i) (acc κ0 (fun i=>(vw[i]?.map (·.bp.box)).getD []) (fun _=>true) i) r.bp
 |[],done,s,rs,Cu,hlen,mj,hn,he,hk,br,h=>by
  have:done.length=ops.length:=by rw[Cu];simp
  simp only[Ff]at h
  injection h with h
  injection h with h1 h2
  subst h1;subst h2
  exact⟨by omega,mj,hn,by rw[<-this];exact he,by rw[<-this];exact hk,br⟩
 |o::rest,done,s,rs,Cu,hlen,mj,hn,he,hk,br,h=>by
  simp only[Ff]at h
  obtain⟨e,h1,h⟩:=ad h
  obtain⟨bp,dZ,⟨rfl,rfl⟩,hle,hb,um⟩:=hS o s.nx s.ρ s.κ e hn h1
  have oJ:∀i,i<rs.length->(rs++[⟨gJ s.ρ s.κ o,e.1⟩])[i]?=rs[i]?:=fun i hi=>List.getElem?_append_left hi
  have xU:(rs++[(⟨gJ s.ρ s.κ o,e.1⟩:Rec)])[done.length]?=some ⟨gJ s.ρ s.κ o,e.1⟩:=by rw[<-hlen];simp
  have js:∀m,m<=done.length->acc ρ0 (fun i=>((rs++[(⟨gJ s.ρ s.κ o,e.1⟩:Rec)])[i]?.map (·.bp.dst)).getD []) (fun _=>true) m=acc ρ0 (fun i=>(rs[i]?.map (·.bp.dst)).getD []) (fun _=>true) m:=
   fun m hm=>sA _ _ _ m fun i hi=>by rw[oJ i (by omega)]
  have lJ:∀m,m<=done.length->acc κ0 (fun i=>((rs++[(⟨gJ s.ρ s.κ o,e.1⟩:Rec)])[i]?.map (·.bp.box)).getD []) (fun _=>true) m=acc κ0 (fun i=>(rs[i]?.map (·.bp.box)).getD []) (fun _=>true) m:=
   fun m hm=>sA _ _ _ m fun i hi=>by rw[oJ i (by omega)]
  refine vI hS rest (done++[o]) (CT s e) (rs++[⟨gJ s.ρ s.κ o,e.1⟩]) (by rw[Cu];simp) (by simp[hlen]) (Nat.le_trans mj hle) (by simp only[CT,iL];exact pw hn hle hb) ?_ ?_ ?_ h
  ·simp only[CT,iL]
   rw[abM]
   simp only[List.length_cons,List.length_nil,Nat.zero_add,acc,if_true]
   rw[js _ (ab3 _),xU,<-he];rfl
  ·simp only[CT,iL]
   rw[abM]
   simp only[List.length_cons,List.length_nil,Nat.zero_add,acc,if_true]
   rw[lJ _ (ab3 _),xU,<-hk];rfl
  ·intro i r o' hr ju
   rcases abT i rs.length with au|gG
   ·rw[oJ i au]at hr
    rw[js i (by omega),lJ i (by omega)]
    exact br i r o' hr ju
   ·have hi:i=done.length:=by
     have:=(abA.1 hr).1
     simp at this;omega
    subst hi
    rw[xU]at hr
    injection hr with hr
    subst hr
    rw[Cu]at ju
    simp at ju
    subst ju
    rw[js _ (ab3 _),lJ _ (ab3 _),<-he,<-hk]
    exact⟨rfl,um.lo mj⟩
end
section
variable {κ κ':Nat->ar} {m:Nat}
theorem OV:∀N:Nat,(∀v:AV,SizeOf.sizeOf v<N->fC m κ κ' (jU m κ v) v)/\(∀l:List AV,SizeOf.sizeOf l<N->dU m κ κ' (kS m κ l) l):=by
 intro N
 induction N with
 |zero=>exact⟨fun _ h=>by omega,fun _ h=>by omega⟩
 |succ N ih=>
  refine⟨fun v aW=>?_,fun l aW=>?_⟩
  ·cases v with
   |any=>exact trivial
   |dv d=>exact DV.Le.refl d
   |ptr i off=>exact rfl
   |eP i=>exact rfl
   |sle i k=>exact rfl
   |own i ver ep p=>
    cases hn:jU m κ (.own i ver ep p)with
    |own j a b q=>
     simp only[fC,CA,dn];exact hn
    |any=>exact trivial
    |_=>
     simp only[jU]at hn
     split at hn
     ·rename_i v' e' d hk
      cases hb:Nat.beq ver v'&&(emp p||Nat.beq ep e')<;>rw[hb]at hn<;>cases hn
     ·cases hb:Nat.beq ver 0&&(emp p||Nat.beq ep 0)<;>rw[hb]at hn<;>cases hn
     ·cases hn
   |cq i ver=>
    cases hn:jU m κ (.cq i ver)with
    |cq j a=>simp only[fC];exact hn
    |any=>exact trivial
    |_=>
     simp only[jU]at hn
     split at hn
     ·rename_i v' e' d hk
      cases hb:Nat.beq ver v'<;>rw[hb]at hn<;>cases hn
     ·cases hn
   |loc i ver ep p a b c=>
    cases hn:jU m κ (.loc i ver ep p a b c)with
    |loc j a b q x y z=>simp only[fC];exact hn
    |any=>exact trivial
    |_=>
     simp only[jU]at hn
     split at hn
     ·rename_i v' e' d hk
      cases hb:Nat.beq ver v'&&(emp p||Nat.beq ep e')<;>rw[hb]at hn<;>cases hn
     ·cases hn
   |pre i ver ep p a b c=>
    cases hn:jU m κ (.pre i ver ep p a b c)with
    |pre j a b q x y z=>simp only[fC];exact hn
    |any=>exact trivial
    |_=>
     simp only[jU]at hn
     split at hn
     ·rename_i v' e' d hk
      cases hb:Nat.beq ver v'&&(emp p||Nat.beq ep e')<;>rw[hb]at hn<;>cases hn
     ·cases hn
   |fn f l=>exact⟨rfl,ih.2 l (by simp at aW;omega)⟩
   |jQ f l=>exact⟨rfl,ih.2 l (by simp at aW;omega)⟩
   |agg l=>exact ih.2 l (by simp at aW;omega)
   |fO l=>exact ih.2 l (by simp at aW;omega)
   |opt g v=>exact trivial
  ·cases l with
   |nil=>exact trivial
   |cons v l=>exact⟨ih.1 v (by simp at aW;omega),ih.2 l (by simp at aW;omega)⟩
theorem rG(l:List AV):dU m κ κ' (kS m κ l) l:=(OV (SizeOf.sizeOf l+1)).2 l (by omega)
theorem R4{i:Nat}:oq m κ κ' i (κ i) (nB m κ i (κ i)):=by
 cases h:κ i with
 |none=>exact trivial
 |dead=>exact trivial
 |cells l=>exact rG l
 |tree v e d=>exact⟨rfl,rfl⟩
 |fz v d=>exact⟨rfl,DV.Le.refl d⟩
 |c5 rc st l=>exact⟨rfl,rfl,rG l⟩
 |held=>exact trivial
 |ka _ _ _ _ _=>exact trivial
theorem J4:∀(l:List Nat),ou m κ κ' (nK m κ l)
 |[]=>trivial
 |i::r=>⟨R4,J4 r⟩
end
section
variable {P:Program} {T:List TI} {n:Nat} {g:dO} {ρ:Nat->AV} {κ:Nat->ar} {a:Act} {w:World} {G:Gh}
theorem CY:∀{NT:List ResultVar} {jk:List AV} {q:List AV->Prop},E9 T ρ κ NT=.ok jk->q jk->CE T ρ κ NT q
 |[],jk,q,h,hq=>by simp only[E9]at h;injection h with h;subst h;exact hq
 |.tmp t::r,jk,q,h,hq=>by
  simp only[E9]at h
  obtain⟨l,h1,h⟩:=ad h
  injection h with h;subst h
  simp only[CE,force_eq]
  exact CY h1 hq
 |.cell t ty::r,jk,q,h,hq=>by
  simp only[E9]at h
  have hh:=aA h;clear h;obtain⟨hb,h⟩:=hh
  simp only[CE,hb,cond_true]
  split at h
  ·rename_i i off hr
   split at h
   ·rename_i l hk
    obtain⟨v,h1,h⟩:=ad h
    obtain⟨vs,h2,h⟩:=ad h
    injection h with h;subst h
    simp only[hr,hk]
    exact sT h1 (CY h2 hq)
   ·cases h
  ·cases h
theorem cu.out{m:Nat}{K:ae}{w0:World}{G0:Gh}(hg:g=⟨fun b=>∃i,cx G0 i (aa K i) b,w0,G0.M,m,G0.β,fun i p=>G0.H i 0 0 p⟩)(aj:cu g n ρ κ a w G){fuel:Nat}{jk:List AV}{us:List Value}{r:uE}(hx:Ox fuel m κ jk=.ok r)(hrel:cb G jk us)
 {v:Value} (wj:∀d u,r.1=[d]->us=[u]->v=u) (YE:us.length≠1->v=.tuple us.toArray):∃rs K' G',(rs=r.1/\K'=r.2.1)/\Lf m r.2.2 (aa K) w0 G0 rs (aa K') w G' v:=by
 unfold Ox TS at hx
 obtain⟨fh,hx⟩:=aA hx
 injection hx with hx;subst hx
 generalize hK:nK m κ (E8 κ fuel (kP 0 m++AV.uD (kS m κ jk)) [])=K2 at*
 simp only[pc,aca]at fh
 obtain⟨⟨⟨EX,NV⟩,ec⟩,og⟩:=fh
 have JG:ou m κ (aa K2) K2:=by
  have:=J4 (m:=m) (κ:=κ) (κ':=aa K2) (E8 κ fuel (kP 0 m++AV.uD (kS m κ jk)) [])
  rwa[hK]at this
 have dz:g.m<=m:=by rw[hg];exact ab3 _
 obtain⟨G2,_,KJ,NO⟩:=aj.sub (m:=m) dz (F:=dc κ (kS m κ jk) jk++dD κ K2) EX (fun i hi=>abI.2 (.inr hi)) ec og JG
 have aJ:=KJ (kS m κ jk) jk us (rG jk) NV (fun i hi=>abI.2 (.inl hi)) hrel
 have jW:=NO (fun _=>.any) (fun _=>.any _)
 subst hg
 refine⟨_,_,G2,⟨rfl,rfl⟩,⟨jW.fit,fun i hi=>mF EX hi,?_,jW.mem,jW.eX,jW.wv,fun b hb hO=>⟨jW.zQ b hb (fun⟨i,h⟩=>hO i h),jW.nL b hb (fun⟨i,h⟩=>hO i h)⟩,jW.gB,jW.os,jW.tape,jW.output,jW.grow⟩⟩
 have qR:us.length=(kS m κ jk).length:=aJ.1.symm
 generalize wm:kS m κ jk=rs at*
 have many:us.length≠1->aH G2 (.fO rs) v:=by
  intro ck
  rw[YE ck]
  exact .fO rs us aJ.1 aJ.2
 match rs,aJ,qR,many,wj with
 |[],aJ,qR,many,_=>exact many (by simp at qR;simp[qR])
 |[d],aJ,qR,_,wj=>
  match us,qR,aJ with
  |[u],_,aJ=>rw[wj d u rfl rfl];exact aJ.2 0 d u rfl rfl
 |_::_::_,aJ,qR,many,_=>exact many (by simp at qR;omega)
end
end
section
open Go.RowKit
variable [cj]
theorem uL:∀(env:Env),look env=ay (fun _=>.any) env
 |[]=>rfl
 |(i,b)::K=>by
  funext t
  simp only[look,ay,gM,uL K]
  by_cases h:t=i
  ·subst h;simp
  ·rw[if_neg h];simp[beq_false h]
def LC(P:Program)(go:iV):Prop:=∀(r:Bool) (n:Nat) (c:Code) (s:XS) (e:AX) (s':XS),go r n c s=.ok (e,s')->∀(F:Fence),iz F->(r=true->F=Fence.wide)->∀(g:dO) (a:Act) (w:World) (R:Exit->Act->World->Prop),
 R3 g n s a w->(∀a w,R3 g n s' a w->R (uv e) a w)->c.wpIn F 0 P R a w
section
variable {P:Program} {T:List TI} {go:iV}
theorem yD(hT:eV P T)(DY:LC P go)(eT:∀(g:Nat) (fn:Func),P.funcs[g]?=some fn->(fn.name== "runtime.NumGoroutine")=false)(f g:Nat):RX (bV P g) (Fg P T go f g):=by
 intro args m K r hx
 unfold Fg at hx
 obtain⟨fn,hf,hx⟩:=ad hx
 obtain⟨c,hb,hx⟩:=ad hx
 have hf:=aN hf
 have hb:=aN hb
 unfold TW at hx
 obtain⟨bW,hx⟩:=aA hx
 have hx:((go true fn.ntmps c (nQ m (de 0 args) K)).bind fun q=>HX T f m fn q)=.ok r:=by
  unfold Yz at hx
  split at hx
  ·rename_i q hq;rw[hq];exact hx
  ·cases hx
 obtain⟨⟨e,s'⟩,aZ,hx⟩:=ad hx
 refine⟨⟨fn,hf,eT g fn hf,by rw[hb];rfl⟩,fun w G vs na cL hr=>?_⟩
 refine(gY.calls (n:=0)).1 (callsIn_of_wp_marks hf hb trivial ?_)
 simp only[aca,cI.wf]at bW
 obtain⟨hlen,hwB,hwE⟩:=bW
 have hlen:vs.length<=fn.ntmps:=by rw[<-hr.1];exact Nat.le_of_ble_eq_true hlen
 let g0:dO:=⟨fun b=>∃i,cx G i (aa K i) b,w,G.M,m,G.β,fun i p=>G.H i 0 0 p⟩
 have aj:cu g0 fn.ntmps (look (de 0 args)) (aa K) { tmps:=vs.toArray++Array.replicate (fn.ntmps-vs.toArray.size) undef,defers:=[] } w G:=by
  refine { fit:=cL,env:=fun t=>?_,size:=by simp;omega,zQ:=fun _ _ _=>rfl,os:=rfl,tape:=rfl,output:=rfl,grow:=ab3 _,mem:=.refl G.M,nL:=fun _ _ _=>rfl,gB:=fun i b ho=>.inr ⟨i,ho⟩,eX:=fun _ _=>rfl,wv:=fun _ _ _ _ hx=>hx,oT:=na,tL:=⟨[],rfl,List.nodup_nil,by simp⟩ }
  rw[pe]
  simp only[abO,if_true,Nat.sub_zero]
  split
  ·rename_i d hd
   have ht:t<vs.length:=by rw[<-hr.1];exact(abA.1 hd).1
   have hv:vs[t]?=some (vs[t]'ht):=aaa ht
   have:(vs.toArray++Array.replicate (fn.ntmps-vs.toArray.size) undef).getD t undef=vs[t]'ht:=by
    rw[abK,Array.getElem?_append_left (by simpa using ht)]
    simp[hv]
   rw[this]
   exact hr.2 t d _ hd hv
  ·exact .any _
 have DU:R3 g0 fn.ntmps (nQ m (de 0 args) K) { tmps:=vs.toArray++Array.replicate (fn.ntmps-vs.toArray.size) undef,defers:=[] } w:=by
  refine⟨⟨G,?_⟩,ab3 _,?_⟩
  ·simp only[nQ,iL,<-uL,<-gQ];exact aj
  ·simp only[nQ,iL,<-gQ];exact fun i hi=>mF hwB hi
 refine DY true fn.ntmps c _ e s' aZ Fence.wide gY (fun _=>rfl) g0 _ w _ DU fun a w' hs=>?_
 obtain⟨⟨G1,iu⟩,_⟩:=hs
 have fin:((E9 T s'.ρ s'.κ fn.results.toList).bind fun jk=>Ox f m s'.κ jk)=.ok r->LeavesInM Fence.wide 0 P fn a.tmps (fun e w'=>∃v rs K' G',e=.returned v/\(rs=r.1/\K'=r.2.1)/\Lf m r.2.2 (aa K) w G rs (aa K') w' G' v) a.defers .returning w':=by
  intro iZ
  obtain⟨jk,h1,h2⟩:=ad iZ
  obtain⟨D,hD,_⟩:=iu.tL
  rw[hD]
  refine cu.leave (g:=g0) (n:=fn.ntmps) (ρ:=s'.ρ) (κ:=s'.κ) (G:=G1) a.tmps (fun w2 qY=>?_) D w' (by have:=iu;rw[<-hD];exact this)
  obtain⟨abo,us,hq,NU,hrel⟩:=wU hT qY (CY (q:=fun l=>l=jk) h1 rfl)
  subst hq
  refine⟨_,pf NU,?_⟩
  obtain⟨rs,K',G',e1,e2⟩:=cu.out (g:=g0) (m:=m) (K:=K) (w0:=w) (G0:=G) rfl qY h2 hrel (v:=if h:us.toArray.size=1 then us.toArray[0]else .tuple us.toArray) (fun d u _ hu=>by subst hu;rfl) (fun ck=>by rw[dif_neg (by simpa using ck)])
  exact⟨_,rs,K',G',rfl,e1,e2⟩
 unfold HX at hx
 cases e with
 |normal=>exact fin hx
 |ret=>exact fin hx
 |exit i=>cases hx
theorem LD(DY:LC P go)(f:Nat):RX (eh P) (HY go f):=by
 intro args m K r hx
 unfold HY at hx
 split at hx
 ·rename_i rc l h0
  unfold OH at hx
  have hh:=aA hx;clear hx;obtain⟨fh,hx⟩:=hh
  have hh:=ad hx;clear hx;obtain⟨⟨e1,s1⟩,YF,hx⟩:=hh
  intro w G vs na cL hr
  simp only[aca]at fh
  obtain⟨⟨⟨Vl,lu⟩,AU⟩,Ld⟩:=fh
  have Vl:=abD Vl
  have AU:0<m:=by simpa using AU
  have hb:=cL.box 0
  rw[h0]at hb
  obtain⟨b,fn,tmps,D,lk,hw,jr⟩:=hb
  have aW:tmps.size=l.length:=by have:=jr.1;simp at this;exact this.symm
  have Yp:vs.toArray.size=rc.ps.size:=by rw[List.size_toArray,<-hr.1];exact Vl
  refine⟨b,lk,fn,_,rc.as,rc.bd,w,run_yield hw Yp,roundIn_of_wpIn trivial ?_⟩
  have Oe:(rc.ps.zip vs.toArray).foldl (fun tm (pv:Nat×Value)=>tm.setIfInBounds pv.1 pv.2) tmps=(rc.ps.toList.zip vs).foldl (fun tm (pv:Nat×Value)=>tm.setIfInBounds pv.1 pv.2) tmps:=by
   rw[<-Array.foldl_toList,Array.toList_zip]
  have HN:(rc.ps.zip vs.toArray).foldl (fun tmps (t,a)=>tmps.setIfInBounds t a) tmps=(rc.ps.toList.zip vs).foldl (fun tm (pv:Nat×Value)=>tm.setIfInBounds pv.1 pv.2) tmps:=Oe
  let g:dO:=⟨fun b=>∃i,cx G i (aa K i) b,w,G.M,m,G.β,fun i p=>G.H i 0 0 p⟩
  have Hz:∀t,aH G (look (ru 0 l) t) (tmps.getD t undef):=fun t=>by
   have:=uz l 0 t
   rw[Nat.zero_add]at this
   rw[this]
   split
   ·rename_i v hv
    have ht:t<tmps.size:=by rw[aW];exact(abA.1 hv).1
    refine jr.2 t v _ hv ?_
    rw[abK,Array.getElem?_toList,ab9 ht];rfl
   ·exact .any _
  have aj:cu g l.length (look (Af rc.ps.toList args (ru 0 l))) (aa K) { tmps:=(rc.ps.toList.zip vs).foldl (fun tm (pv:Nat×Value)=>tm.setIfInBounds pv.1 pv.2) tmps,defers:=[] } w G:=
   {fit:=cL,env:=CH (fun p hp=>by rw[aW];exact uA lu p hp) hr Hz,size:=by rw[<-aW];exact A6 _ _,zQ:=fun _ _ _=>rfl,os:=rfl,tape:=rfl,output:=rfl,grow:=ab3 _,mem:=.refl G.M,nL:=fun _ _ _=>rfl,gB:=fun i b ho=>.inr ⟨i,ho⟩,eX:=fun _ _=>rfl,wv:=fun _ _ _ _ hx=>hx,oT:=na,tL:=⟨[],rfl,List.nodup_nil,by simp⟩ }
  rw[HN]
  have c6:∀i,m<=i->aa K i=.none:=fun i hi=>by
   rcases fY (K:=K) (i:=i)with h'|h'
   ·exact h'
   ·have:=cU Ld i (ab1.2 ⟨_,h',rfl⟩);omega
  have DU:R3 g l.length (nQ m (Af rc.ps.toList args (ru 0 l)) K) { tmps:=(rc.ps.toList.zip vs).foldl (fun tm (pv:Nat×Value)=>tm.setIfInBounds pv.1 pv.2) tmps,defers:=[] } w:=by
   refine⟨⟨G,?_⟩,ab3 _,?_⟩
   ·simp only[nQ,iL,<-uL,<-gQ];exact aj
   ·simp only[nQ,iL,<-gQ];exact c6
  refine DY false l.length rc.as _ e1 s1 YF _ (wide_round b) (fun h=>by cases h) g _ w _ DU fun a1 w1 hs=>?_
  cases e1 with
  |ret=>cases hx
  |exit i=>cases hx
  |normal=>
   simp only at hx
   unfold JW at hx
   split at hx
   ·rename_i rc1 l1 oP
    have hh:=ad hx;clear hx;obtain⟨⟨e2,s2⟩,YG,hx⟩:=hh
    obtain⟨⟨G1,st1⟩,dQ,La⟩:=hs
    have Vm:G1.β 0=some b:=by rw[st1.eX 0 AU];exact lk
    obtain⟨rr,QZ,Q0,Of,kD,_⟩:=st1.uy oP Vm
    have Vn:=run_beginRound (P:=P) QZ Q0
    have E5:=kD .busy
    have Og:({ rr with state:=zR.busy.st,pending:=zR.busy.Ae }:Loop)={ rr with state:=.busy }:=by
     have:rr.pending=none:=Of
     simp only[zR.st,zR.Ae,<-this]
    rw[Og]at E5
    refine⟨_,Vn,?_⟩
    refine DY false l.length rc.bd _ e2 s2 YG _ (wide_round b) (fun h=>by cases h) g _ _ _ ⟨⟨G1,by simp only[rF];exact E5⟩,dQ,fun i hi=>by
     have h1:m<=s1.nx:=dQ
     have h2:s1.nx<=i:=hi
     simp only[rF]
     rw[ah _ _ (by omega)];exact La i hi⟩ fun a2 w2 lJ=>?_
    unfold JV at hx
    split at hx
    ·rename_i rc2 l2 Lm
     obtain⟨⟨G2,st2⟩,_,_⟩:=lJ
     have wX:G2.β 0=some b:=by rw[st2.eX 0 AU];exact lk
     obtain⟨r2,TD,_,_,Oh,_⟩:=st2.uy Lm wX
     have EZ:=Oh (qC e2)
     rw[rF]at hx
     obtain⟨rs,K',G',q1,q2⟩:=cu.out (g:=g) (m:=m) (K:=K) (w0:=w) (G0:=G) rfl EZ hx (us:=[.bool (RK e2)]) ⟨rfl,fun j d v hd hv=>by
      cases j with
      |zero=>simp at hd hv;subst hd;subst hv;exact .dv (.bool _)
      |succ j=>simp at hd⟩ (v:=.bool (RK e2)) (fun d u _ hu=>by injection hu) (fun ck=>absurd rfl ck)
     have iW:=run_endRound (P:=P) (nM e2) TD
     cases e2 with
     |normal=>exact⟨_,_,iW,_,rs,K',G',rfl,q1,q2⟩
     |ret=>exact⟨_,_,iW,_,rs,K',G',rfl,q1,q2⟩
     |exit i=>exact⟨_,_,iW,_,rs,K',G',rfl,q1,q2⟩
    ·cases hx
   ·cases hx
 ·cases hx
end
end
section
open Go.RowKit
variable [cj]
section
variable {P:Program} {T:List TI} {go:iV}
theorem yE(hT:eV P T)(DY:LC P go)(eT:∀(g:Nat) (fn:Func),P.funcs[g]?=some fn->(fn.name== "runtime.NumGoroutine")=false){fuel n nx:Nat}{ρ:Nat->AV}{κ:Nat->ar}{x:Operand}{ps:Array Tmp}{as bd:Code}{f:Nat}{bK:List AV}{e:AX}{s':XS}
 (h:wY P T go fuel nx ρ (Q1 κ nx (.c5 ⟨ps,as,bd⟩ .ready (bR ρ 0 n))) f bK=.ok (e,s')) {g:dO} {a:Act} {w:World} {R:Exit->Act->World->Prop} {G:Gh} (aj:cu g n ρ κ a w G) (dz:g.m<=nx) (hn:∀i,nx<=i->κ i=.none)
 {vs:List Value} (hx:a.eval x=.func (.func f) #[] vs.toArray) (jr:cb G bK vs) (hR:∀a w,R3 g n s' a w->R (uv e) a w):(Code.rangeFunc x ps as bd).wpIn Fence.wide 0 P R a w:=by
 rw[rF]at h
 generalize hκ1:gM κ nx (.c5 ⟨ps,as,bd⟩ .ready (bR ρ 0 n))=κ1 at h
 unfold wY at h
 obtain⟨q,hq,h⟩:=ad h
 unfold sM HV HU at hq
 generalize E8 κ1 fuel (hdL none++AV.uD (.eP nx::bK)) []=σ at hq
 obtain⟨fh,hq⟩:=aA hq
 obtain⟨r,jx,hq⟩:=ad hq
 unfold HS at hq
 obtain⟨W8,hq⟩:=aA hq
 injection hq with hq;subst hq
 have jE:=yD hT DY eT fuel f _ _ _ r jx
 simp only[aca]at fh
 refine wpIn_rangeFunc fun fn _=>?_
 obtain⟨st1,hle⟩:=aj.enterLoop (hn nx (ab3 _)) dz ⟨ps,as,bd⟩ fn
 rw[hκ1]at st1
 have st2:=st1.upto (nx+1)
 have Cz:∀i,i<g.m->gM G.β nx (some (w.heap.size+1)) i=g.β i:=fun i hi=>by rw[ah _ _ (by omega)];exact aj.eX i hi
 have La:∀i,nx+1<=i->κ1 i=.none:=fun i hi=>by rw[<-hκ1,ah _ _ (by omega)];exact hn i (by omega)
 have hrel:cb { G with β:=gM G.β nx (some (w.heap.size+1)) } (.eP nx::bK) (.func (.yield (w.heap.size+1)) #[] #[]::vs):=by
  have h1:cb { G with β:=gM G.β nx (some (w.heap.size+1)) } [.eP nx] [.func (.yield (w.heap.size+1)) #[] #[]]:=
   ⟨rfl,fun j d v hd hv=>by
    cases j with
    |zero=>simp at hd hv;subst hd;subst hv;exact .eP nx _ (bo _ _ _)
    |succ j=>simp at hd⟩
  exact h1.append (jr.mono hle)
 obtain⟨β,_,aZ⟩:=nN (hd:=none) (nx:=nx+1) (κ:=κ1) (kQ P f) jE.2 La (by simp only[aca];exact⟨fh.1.1,rfl⟩) (qd _) (yz σ [] rfl) (fun rs K1 hr=>by obtain⟨rfl,rfl⟩:=hr;exact W8) (sL fh.2) (ab3 _) st2 hrel (fun _ _=>rfl)
 refine⟨w.heap.size+1,[mark w.heap.size],((w.alloc (.deferred (some []))).alloc (.loop { state:=.ready,pending:=none,fn:=fn,tmps:=a.tmps,params:=ps,assign:=as,body:=bd,defers:=w.heap.size })),⟨.fn (.func f) vs.toArray,#[.func (.yield (w.heap.size+1)) #[] #[]]⟩,((w.alloc (.deferred (some []))).alloc (.loop { state:=.ready,pending:=none,fn:=fn,tmps:=a.tmps,params:=ps,assign:=as,body:=bd,defers:=w.heap.size })),f,(Value.func (.yield (w.heap.size+1)) #[] #[]::vs).toArray,((w.alloc (.deferred (some []))).alloc (.loop { state:=.ready,pending:=none,fn:=fn,tmps:=a.tmps,params:=ps,assign:=as,body:=bd,defers:=w.heap.size })),run_enterLoop_outer fn a.tmps ps as bd,?_,fun _ _=>trivial,?_,(fun h=>by cases h),?_⟩
 ·have h0:(#[]++Array.map a.eval #[Operand.const (Value.func (Fn.yield (w.heap.size+1)) #[] #[])])=#[Value.func (Fn.yield (w.heap.size+1)) #[] #[]]:=by simp[Act.eval]
  simp only[resolve,rangeCall,hx,Deferred.ofValue,Sem.run_pure]
  rw[h0]
 ·have:(#[Value.func (.yield (w.heap.size+1)) #[] #[]]++vs.toArray)=(Value.func (.yield (w.heap.size+1)) #[] #[]::vs).toArray:=by simp
  simp only[invoke]
  rw[this]
  exact iE jE.1 _ _
 ·refine(gY.calls).2 (Calls.mono aZ ?_)
  rintro e2 w2 ⟨v,rs,K2,G3,rfl,⟨rfl,rfl⟩,EZ,_⟩
  have AZ:∀i,nx+1+r.2.2<=i->ay κ1 (bX (sg σ (nx+1)) (jV κ1 σ) r.2.1++kl κ1 (dc κ1 (dw (sg σ (nx+1)) di (Lo κ1 σ (.eP nx::bK))) (.eP nx::bK)++dD κ1 (bX (sg σ (nx+1)) di (Vu κ1 σ 0 σ)))) i=.none:=by
   refine pw La (Nat.le_add_right _ _) fun p hp=>?_
   have HH:l9 (σ.length+r.2.2) r.2.1=true:=by
    have:=W8
    simp only[fZ,aca]at this
    exact this.1.1.2
   have hσ1:∀i,i∈σ->i<nx+1:=by
    have:=fh.1.1
    simp only[gH,aca]at this
    exact(jc this.1.1.1.1.1.1).1
   rcases abI.1 hp with hp|hp
   ·obtain⟨j,h1,h2⟩:=mK (i:=p.1) (b:=p.2) hp
    have hj:=cU HH j h1
    rw[h2]
    rcases abT j σ.length with au|gG
    ·have:=hσ1 _ (by rw[jZ au];exact ab6 au:sg σ (nx+1) j∈σ);omega
    ·rw[jC gG];omega
   ·have:=tW La hp;omega
  unfold JZ at h
  simp only[iL]at h
  generalize hκ3:ay κ1 (bX (sg σ (nx+1)) (jV κ1 σ) r.2.1++kl κ1 (dc κ1 (dw (sg σ (nx+1)) di (Lo κ1 σ (.eP nx::bK))) (.eP nx::bK)++dD κ1 (bX (sg σ (nx+1)) di (Vu κ1 σ 0 σ))))=κ3 at*
  have wO:G3.β nx=some (w.heap.size+1):=(EZ.eX nx (Nat.lt_succ_self nx)).trans (bo _ _ _)
  have fin:∀(GM:RC) (st:zR) (l:List AV),κ3 nx=.c5 GM st l->st.st≠.busy->st.Ae=nM e->s'=⟨nx+1+r.2.2,ρ,Q1 κ3 nx .dead⟩->rangePost Fence.wide 0 P (w.heap.size+1) R { a with defers:=[mark w.heap.size]++a.defers } (.returned v) w2:=by
   intro GM st l hk hb hp cY
   obtain⟨rr,h1,h2,h3,_,Ob⟩:=EZ.uy hk wO
   have st4:=(Ob (.loop { rr with state:=.exhausted })).Oa (Nat.le_succ_of_le dz) Cz
   have hs4:R3 g n s' { a with defers:=[mark w.heap.size]++a.defers } (w2.putObj (w.heap.size+1) (.loop { rr with state:=.exhausted })):=by
    subst cY
    exact⟨⟨G3,by simp only[rF];exact st4⟩,by show g.m<=nx+1+r.2.2;omega,fun i hi=>by
     have zO:nx+1+r.2.2<=i:=hi
     simp only[rF];rw[ah _ _ (by omega)];exact AZ i zO⟩
   have ow:=hR _ _ hs4
   refine⟨rr.pending,_,run_endLoop h1 (by rw[h2];exact hb),?_⟩
   have A5:rr.pending=nM e:=h3.trans hp
   rw[A5]at ow
   rw[A5]
   cases e with
   |normal=>exact ow
   |ret=>exact wpIn_ret ow
   |exit i=>exact wpIn_exit ow
  unfold Bb at h
  split at h
  ·rename_i GM st l hk
   split at h
   ·injection h with h
    injection h with h1 h2
    exact fin GM .ready l hk (by simp[zR.st]) (by rw[<-h1];rfl) h2.symm
   ·rename_i e'
    injection h with h
    injection h with h1 h2
    exact fin GM (.done e') l hk (by simp[zR.st]) (by rw[<-h1];rfl) h2.symm
   ·cases h
  ·cases h
theorem LF(hT:eV P T)(hm:P.follows .mixedOrders=true)(eT:∀(g:Nat) (fn:Func),P.funcs[g]?=some fn->(fn.name== "runtime.NumGoroutine")=false)(pol:Nat->Bool)(f:Nat)(DY:LC P go):LC P (gR P T pol f go):=by
 intro r n c s e s' h F hF hr g a w R hs hR
 have JD:∀(ops:List Oper) (d:Bool),pt P (fun _=>True) ops n (Fe T pol (OI P T go f d) ops n):=fun ops d=>OU hT (fun g=>yD hT DY eT f g) (LD DY f) (eU P)
 cases c with
 |skip=>
  simp only[gR]at h
  injection h with h;injection h with h1 h2;subst h1;subst h2
  exact wpIn_skip (hR a w hs)
 |region id ops draw=>
  simp only[gR]at h
  cases draw with
  |false=>
   simp only[cond_false,JX]at h
   obtain⟨s1,h1,h⟩:=ad h
   injection h with h;injection h with e1 e2;subst e1;subst e2
   refine wpIn_region_list ?_
   have:=yC (P:=P) (ops:=ops.toList) (g:=g) (Q:=R) (JD ops.toList false) trivial hF hR ops.toList s a w h1 hs
   simpa using this
  |true=>
   simp only[cond_true,Fh]at h
   obtain⟨⟨s1,rs⟩,h1,h⟩:=ad h
   obtain⟨nJ,h⟩:=aA h
   injection h with h;injection h with e1 e2;subst e1;subst e2
   refine wpIn_region_any hm ?_
   obtain⟨hlen,mj,hn,he,hk,br⟩:=vI (P:=P) (n:=n) (JD ops.toList true) (ρ0:=s.ρ) (κ0:=s.κ) (lo:=s.nx) ops.toList [] s [] rfl rfl (ab3 _) hs.2.2 rfl rfl (by simp) h1
   have rn:(fun i=>(Array.replicate ops.size false).getD i false)=fun _=>false:=by
    funext i
    simp only[abK,Array.getElem?_replicate]
    split<;>rfl
   have CD:St g n s.ρ s.κ a { w with drawn:=w.drawn+1 }:=by
    obtain⟨G,h1⟩:=hs.1
    exact⟨G,h1.drawn _⟩
   have:=AS (P:=P) (C:=fun _=>True) (ops:=ops.toList) (n:=n) (g:=g) (Q:=R) trivial hF hs.2.1 nJ hlen br (fun a w aj=>hR a w ⟨by rw[he,hk];exact aj,Nat.le_trans hs.2.1 mj,hn⟩) ops.size (Array.replicate ops.size false) a { w with drawn:=w.drawn+1 } (by simp)
    (by have:=wT (fun i=>(Array.replicate ops.size false).getD i false) ops.toList.length;simpa using this)
    (fun i o _ hi=>by rw[congrFun rn i]at hi;cases hi)
    (by rw[rn,kM,kM];exact CD)
   simpa using this
 |seq x y=>
  simp only[gR]at h
  obtain⟨⟨e1,s1⟩,h1,h⟩:=ad h
  refine wpIn_seq (DY r n x s e1 s1 h1 F hF hr g a w _ hs fun a1 w1 js=>?_)
  unfold YA at h
  cases e1 with
  |normal=>exact DY r n y s1 e s' h F hF hr g a1 w1 _ js hR
  |ret=>simp only at h;injection h with h;injection h with q1 q2;subst q1;subst q2;exact hR a1 w1 js
  |exit i=>simp only at h;injection h with h;injection h with q1 q2;subst q1;subst q2;exact hR a1 w1 js
 |cond x y z=>
  simp only[gR]at h
  obtain⟨t,h1,h⟩:=ad h
  have ht:=je (aN h1)
  obtain⟨G,aj⟩:=hs.1
  have hv:=AO (ρ:=s.ρ) (κ:=s.κ) (x:=x) s.ρ s.κ ⟨fun _ _=>rfl,fun _ _=>rfl⟩ g n a w G aj
  rw[ht]at hv
  generalize hx:a.eval x=v at hv
  cases hv with|dv hv=>cases hv with|bool=>
  refine wpIn_cond_split hx (fun et=>?_) (fun et=>?_)
  ·subst et;exact DY r n y s e s' h F hF hr g a w _ hs hR
  ·subst et;exact DY r n z s e s' h F hF hr g a w _ hs hR
 |block id c=>
  simp only[gR]at h
  obtain⟨⟨e1,s1⟩,h1,h⟩:=ad h
  refine wpIn_block (DY r n c s e1 s1 h1 F hF hr g a w _ hs fun a1 w1 js=>?_)
  unfold OJ at h
  cases e1 with
  |normal=>simp only at h;injection h with h;injection h with q1 q2;subst q1;subst q2;exact hR a1 w1 js
  |ret=>simp only at h;injection h with h;injection h with q1 q2;subst q1;subst q2;exact hR a1 w1 js
  |exit i=>
   simp only at h
   simp only[uv,Exit.inBlock]
   cases hb:Nat.beq i id with
   |true=>
    rw[hb]at h
    simp only[cond_true]at h
    injection h with h;injection h with q1 q2;subst q1;subst q2
    rw[if_pos (abD hb)];exact hR a1 w1 js
   |false=>
    rw[hb]at h
    simp only[cond_false]at h
    injection h with h;injection h with q1 q2;subst q1;subst q2
    rw[if_neg (fun e=>by rw[e,Nat.beq_refl]at hb;cases hb)]
    exact hR a1 w1 js
 |exit id=>
  simp only[gR]at h
  injection h with h;injection h with h1 h2;subst h1;subst h2
  exact wpIn_exit (hR a w hs)
 |ret=>
  simp only[gR]at h
  injection h with h;injection h with h1 h2;subst h1;subst h2
  exact wpIn_ret (hR a w hs)
 |scope c=>
  simp only[gR]at h
  refine ya (DY r n c s e s' h F hF hr g a w _ hs fun a1 w1 js=>?_)
  cases e with
  |normal=>exact hR a1 w1 js
  |ret=>exact hR a1 w1 js
  |exit i=>exact hR a1 w1 js
 |label l=>
  simp only[gR]at h
  injection h with h;injection h with h1 h2;subst h1;subst h2
  exact wpIn_label (hR a w hs)
 |loop c=>
  simp only[gR]at h
  have key:∀(k:Nat) (s:XS) (a:Act) (w:World),JY go r n c k s=.ok (e,s')->R3 g n s a w->Code.roundsIn F 0 P c R k a w:=by
   intro k
   induction k with
   |zero=>intro s a w h;cases h
   |succ k ih=>
    intro s a w h hs
    simp only[JY]at h
    obtain⟨⟨e1,s1⟩,h1,h⟩:=ad h
    refine DY r n c s e1 s1 h1 F hF hr g a w _ hs fun a1 w1 js=>?_
    cases e1 with
    |normal=>exact ih s1 a1 w1 h js
    |ret=>simp only at h;injection h with h;injection h with q1 q2;subst q1;subst q2;exact hR a1 w1 js
    |exit i=>simp only at h;injection h with h;injection h with q1 q2;subst q1;subst q2;exact hR a1 w1 js
  exact wpIn_loop_rounds f (key f s a w h hs)
 |rangeFunc x ps as bd=>
  simp only[gR]at h
  have hh:=aA h;clear h;obtain⟨hrt,h⟩:=hh
  have hFw:=hr hrt
  subst hFw
  obtain⟨⟨G,aj⟩,dz,hn⟩:=hs
  have hv:=AO (ρ:=s.ρ) (κ:=s.κ) (x:=x) s.ρ s.κ ⟨fun _ _=>rfl,fun _ _=>rfl⟩ g n a w G aj
  unfold OK J0 at h
  generalize ev s.ρ s.κ x=vx at h hv
  generalize hx:a.eval x=y at hv
  split at h
  ·cases hv with|fn _ _ vs hl U4=>exact yE hT DY eT h aj dz hn hx ⟨hl,U4⟩ hR
  ·split at h
   ·cases hv with|dv hd=>cases hd with|fn _ _ vs hl U4=>exact yE hT DY eT h aj dz hn hx (iX ⟨hl,U4⟩) hR
   ·cases h
  ·cases h
 |goto l=>simp[gR]at h
 |refuse w=>simp[gR]at h
theorem Fp(hT:eV P T)(hm:P.follows .mixedOrders=true)(eT:∀(g:Nat) (fn:Func),P.funcs[g]?=some fn->(fn.name== "runtime.NumGoroutine")=false)(pol:Nat->Bool):∀f,LC P (OL P T pol f)
 |0=>by intro r n c s e s' h;cases h
 |f+1=>LF hT hm eT pol f (Fp hT hm eT pol f)
theorem LG(hT:eV P T)(hm:P.follows .mixedOrders=true)(eT:∀(g:Nat) (fn:Func),P.funcs[g]?=some fn->(fn.name== "runtime.NumGoroutine")=false){pol:Nat->Bool}{f g:Nat}{args:List AV}{m:Nat}{K:ae}{rs:List AV}{K':ae}{ex:Nat}(h:Vz P T pol f g args m K=.ok (rs,K',ex)):aq P g args m K ex rs K':=
 yD hT (Fp hT hm eT pol f) eT f g args m K (rs,K',ex) h
end
end
end Go.TM
