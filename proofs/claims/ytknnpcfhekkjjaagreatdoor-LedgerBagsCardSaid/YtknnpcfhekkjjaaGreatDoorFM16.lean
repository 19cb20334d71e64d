import Derived.Test.YtknnpcfhekkjjaaGreatDoorFM15
import Derived.WideKeyRuns
import Derived.Laws.StructEq
set_option linter.all false
namespace Go.TM
section
open Go.RowKit
variable [cn]
theorem x7:∀{s k i:Nat},s<=i->i<s+k->i∈kX s k
 |s,0,i,h1,h2=>by omega
 |s,k+1,i,h1,h2=>by
  simp only[kX,abO]
  by_cases e:i=s
  ·exact .inl e
  ·exact .inr (x7 (by omega) (by omega))
def wX(I:Inv):Prop:=∀β vs w (R R':Ending->World->Prop),(∀e w,R e w->R' e w)->I β vs w R->I β vs w R'
theorem kY(P:Program)(f:Nat):wX (JB P f):=fun _ _ _ _ _ h hc=>Calls.mono hc h
theorem Hs(P:Program):wX (JC P):=by
 intro β vs w R R' h hc
 obtain⟨l,h1,fn,tmps,assign,body,w1,h2,h3⟩:=hc
 exact⟨l,h1,fn,tmps,assign,body,w1,h2,RoundIn.mono h3 h⟩
theorem KY{i nx:Nat}{σ:List Nat}(h:Ht (some i) σ=true):0<σ.length/\sg σ nx 0=i:=by
 cases σ with
 |nil=>simp[Ht]at h
 |cons x r=>
  simp only[Ht]at h
  exact⟨by simp,(abL h).symm⟩
section
variable {P:Program} {C:dP->Prop} {T:List TI} {ops:List Oper} {n:Nat} {o:Oper} {nx:Nat} {ρ:Nat->AV} {κ:Nat->aq} {k:kN->Nat->Prop} {gd:Bool}
def NJ(P:Program)(ops:List Oper)(n:Nat)(o:Oper)(ρ:Nat->AV)(κ:Nat->aq)(gd:Bool)(hd:Option Nat)(C:dP->Prop)(m:Nat)(I:Inv)(l:List AV):Prop:=
 ∀ρ' κ' rd bx,DT ops o ρ ρ' κ κ' rd bx->∀(g:dP) (a:Act) (w:World) (G:Gh),C g->cy g n ρ' κ' a w G->gd=true->
  ∃vs:List Value,cj G l vs/\∀F,iq F->∀β:Nat->Option Nat,(∀i,hd=some i->β 0=G.β i)->∀K:Act->World->Prop,
   I β vs w (fun e w'=>∃v,e=.returned v/\K (a.put o.dst v) w')->o.wpIn F 0 P a w K (fun _ _ _=>False)
theorem nG{hd:Option Nat}{I:Inv}{l:List AV}{σ:List Nat}{bP:List AV}{K0:ae}{ex:Nat}{R:List AV->ae->Prop}(hI:wX I)(jJ:uz I bP σ.length K0 ex R)
 (hn:∀i,nx<=i->κ i=.none) (fo:(gI κ σ nx l bP K0&&Ht hd σ)=true) (Vg:dT 0 κ (aa (bW (sg σ nx) dp K0)) (dA (sg σ nx) dp bP) l) (Jx:oB 0 κ (aa (bW (sg σ nx) dp K0)) (bW (sg σ nx) dp K0))
 (fT:∀rs K1,R rs K1->fZ σ ex K0 K1 rs=true) (b7:∀j,j<σ.length->(aa K0 j).pass=true)
 {ρ':Nat->AV} {κ':Nat->aq} {g:dP} {a:Act} {w:World} {G:Gh} (dz:g.m<=nx) (ai:cy g n ρ' κ' a w G) {vs:List Value} (hrel:cj G l vs)
 (aw:∀i,i∈σ++(dh κ (dA (sg σ nx) dp bP) l++dG κ (bW (sg σ nx) dp K0))++kX nx ex->κ' i=κ i):
 ∃β:Nat->Option Nat,(∀i,hd=some i->β 0=G.β i)/\I β vs w fun e w2=>∃v rs K1 G3,e=.returned v/\R rs K1/\
  cy g n ρ' (ay κ' (bW (sg σ nx) (j5 κ σ) K1++kB κ (dh κ (dA (sg σ nx) dp bP) l++dG κ (bW (sg σ nx) dp K0)))) a w2 G3/\aG G3 (mn (sg σ nx) (j5 κ σ) (qv rs)) v:=by
 simp only[acj]at fo
 obtain⟨fo,Ty⟩:=fo
 simp only[gI,acj]at fo
 obtain⟨⟨⟨⟨⟨⟨aau,KT⟩,X7⟩,abq⟩,X8⟩,aav⟩,dQ⟩:=fo
 obtain⟨hσ1,hσ2⟩:=ji aau
 have gn:=NC (nx:=nx) hσ1 hσ2
 have wD:∀j (h:j<σ.length),sg σ nx j∈σ:=fun j h=>by rw[kf h];exact acf h
 simp only[cG.wf,acj]at X7 X8
 have TG:∀j,j<σ.length->(aa K0 j).gN=false:=fun j hj=>by
  have:=b7 j hj
  cases h:aa K0 j<;>rw[h]at this<;>first|rfl|cases this
 have X9:∀j,j∈keys K0->∀a b c d e,aa K0 j≠.kz a b c d e:=fun j hj a b c d e h=>by
  have:=b7 j (c5 KT j hj)
  rw[h]at this;cases this
 have Ya:∀j,j∈keys K0->aa K0 j≠.held:=fun j hj h=>by
  have:=b7 j (c5 KT j hj)
  rw[h]at this;cases this
 have NK:∀j,j<σ.length->j∈keys K0:=fun j hj=>by
  refine Classical.byContradiction fun hn=>?_
  have:=TG j hj;rw[gY hn]at this;cases this
 have Yb:∀j,aa (bW (sg σ nx) dp K0) (sg σ nx j)=if j∈keys K0 then sI (sg σ nx) dp j (aa K0 j)else .none:=fun j=>by
  rw[gP (bW (sg σ nx) dp K0)];exact qa gn _ K0 j
 have Vh:∀j,j<σ.length->(aa (bW (sg σ nx) dp K0) (sg σ nx j)).gN=false:=fun j hj=>by
  rw[Yb,if_pos (NK j hj)]
  cases aa K0 j<;>rfl
 have aaw:∀i,(aa (bW (sg σ nx) dp K0) i).gN=false->i∈σ:=fun i hi=>by
  rcases fY (K:=bW (sg σ nx) dp K0) (i:=i)with h|h
  ·rw[h]at hi;cases hi
  ·obtain⟨j,h1,rfl⟩:=mG h
   exact wD j (c5 KT j h1)
 have awσ:∀i,i∈σ->κ' i=κ i:=fun i hi=>aw i (abQ.2 (.inl (abQ.2 (.inl hi))))
 have RE:∀i,i∈dh κ (dA (sg σ nx) dp bP) l++dG κ (bW (sg σ nx) dp K0)->κ' i=κ i:=fun i hi=>aw i (abQ.2 (.inl (abQ.2 (.inr hi))))
 have aax:∀i,nx<=i->i<nx+ex->κ' i=.none:=fun i h1 h2=>(aw i (abQ.2 (.inr (x7 h1 h2)))).trans (hn i h1)
 generalize hFd:dh κ (dA (sg σ nx) dp bP) l++dG κ (bW (sg σ nx) dp K0)=F at*
 obtain⟨G1,f1,f2,f3,f4,st1⟩:=ai.pX (κ:=κ) F RE
 have hs:∀i,Et 0 κ (aa (bW (sg σ nx) dp K0)) F i:=by
  intro i
  rcases fY (K:=bW (sg σ nx) dp K0) (i:=i)with h|h
  ·unfold Et;rw[h];exact⟨tv,rfl,by simp[vI]⟩
  ·exact⟨(mC Jx i _ h).1,(sG X8.1 i _ h).2,fun j hj=>by rw[<-hFd];exact abQ.2 (.inr ((mC Jx i _ h).2 j hj))⟩
 obtain⟨Yc,Vi⟩:=Tx (m:=0) (κ:=κ) (κc:=κ') ai.fit f1 f2 f3 f4 RE (fun i hi=>awσ i (aaw i hi)) st1.fit dQ hs
 have bN:=(oY (m:=0) (κ:=κ) (κ':=aa (bW (sg σ nx) dp K0)) (w:=w) f1 f2 f3 RE st1.fit (SizeOf.sizeOf (dA (sg σ nx) dp bP)+1)).2 _ l vs (by omega) Vg aav (fun i hi=>by rw[<-hFd];exact abQ.2 (.inl hi)) hrel
 obtain⟨Yd,JA⟩:=RD gn Yc (fun j hj h=>by have:=TG j (c5 KT j hj);rw[h]at this;cases this) X9 Ya (fun j c hc=>by
  rcases fY (K:=K0) (i:=j)with h|h
  ·rw[h]at hc;cases hc
  ·have:=(sG X7.1 j _ h).2
   rw[hc]at this
   simp only[aq.W9,acj]at this
   exact this.2)
 have Vj:=(ND (r:=sg σ nx) (SizeOf.sizeOf bP+1)).2 bP vs (by omega) bN
 have hβ0:∀j,j<σ.length->(pull (sg σ nx) (dR 0 κ (aa (bW (sg σ nx) dp K0)) G1)).β j=G1.β (sg σ nx j):=fun j hj=>by
  simp only[pull,dR,reβ,Vh j hj]
 refine⟨(pull (sg σ nx) (dR 0 κ (aa (bW (sg σ nx) dp K0)) G1)).β,fun i hi=>?_,hI _ _ _ _ _ ?_ (jJ w _ vs (ai.oK.mono (ai.mem.trans f1.mem)) Yd Vj)⟩
 ·subst hi
  obtain⟨h1,h2⟩:=KY (nx:=nx) Ty
  rw[hβ0 0 h1,f2,h2]
 ·rintro e w2 ⟨v,rs,K1,G2,rfl,hRr,hC⟩
  have hκ1:=oZ (κ:=κ) (κ':=κ') (ids:=F) RE
  obtain⟨t1,t2,t3⟩:=KW (κ:=κ) (κ1:=ay κ' (kB κ F)) (G1:=G1) (nx:=nx) hσ1 hσ2 (fun i h1 h2=>by
   rw[hκ1,hn i h1,aax i h1 h2];simp[aq.eU]) st1.fit
   (fun i hi V E d hk=>by
    have hb:=ai.fit.box i
    rw[awσ i hi,hk]at hb
    rw[f3];exact⟨hb.2.2.1,hb.2.2.2⟩)
   (fun i hi hk v e p=>by
    have hb:=ai.fit.box i
    rw[awσ i hi,hk]at hb
    rw[f3];exact hb.2 v e p)
   (fun j hj V E d hk=>by
    have cW:=Vh j hj
    have hz:jh 0 (sg σ nx j) V E=(0,0):=wS (by omega)
    have key:∀p,aH (wR 0 κ (aa (bW (sg σ nx) dp K0)) G1.H) (sg σ nx j) 0 0 p=aH G1.H (sg σ nx j) V E p:=fun p=>by
     have:=oX (m:=0) (H:=G1.H) hk cW p
     rw[hz]at this;exact this
    refine⟨fun x hx=>?_,fun s q x hx=>?_⟩
    ·have:=key [];simp only[aH]at this;simp only[pull,dR];rw[this];exact hx
    ·have:=key (s::q);simp only[aH]at this;simp only[pull,dR];rw[this];exact hx)
   (fun j hj V d hk=>by
    have hb:=st1.fit.box (sg σ nx j)
    have ph:ay κ' (kB κ F) (sg σ nx j)=.fz V d:=by rw[hκ1,awσ _ (wD j hj),hk];simp[aq.eU]
    rw[ph]at hb
    obtain⟨x,h1,_⟩:=hb
    refine⟨x,h1,?_⟩
    simp only[pull,dR,wR,Vh j hj,hk]
    have:=(kU 0 (G1.H (sg σ nx j)) (sg σ nx j) V 0 (.el 0 0) []).1
    rw[wS (by omega)]at this
    rw[this];exact h1)
   hβ0 rfl
   (fun j b ho=>by
    obtain⟨h1,h2⟩:=JA j b ho
    exact⟨c5 KT j h1,Vi _ b h2⟩)
   (fun j hj=>by
    obtain⟨hx,_,_⟩:=hs (sg σ nx j)
    rw[Yb,if_pos (NK j hj)]at hx
    refine⟨fun v e d h0=>?_,fun v d h0=>?_⟩
    ·rw[h0]at hx
     cases hk:κ (sg σ nx j)with
     |tree V E d=>exact .inl ⟨_,_,_,rfl⟩
     |none=>exact .inr rfl
     |_=>rw[hk]at hx;exact hx.elim
    ·rw[h0]at hx
     cases hk:κ (sg σ nx j)with
     |tree V E d=>exact .inl ⟨_,_,_,rfl⟩
     |fz V d=>exact .inr ⟨_,_,rfl⟩
     |_=>rw[hk]at hx;exact hx.elim)
   (fT rs K1 hRr) hC
  have ED:=st1.sn t1 (fun i hi=>t2 i (by omega))
  refine⟨v,rs,K1,_,rfl,hRr,ED.congr ?_,t3⟩
  rw[vM]
theorem AP{hd:Option Nat}{S:List AV->Nat->ae->Nat->(List AV->ae->Prop)->Prop}{I:Nat->Inv}{ok:Nat->Prop}{l:List AV}(hS:∀args m K ex R,S args m K ex R->ok m/\uz (I m) args m K ex R)(hI:∀m,wX (I m))(dj:∀c,o.op≠.defer c)
 (hn:∀i,nx<=i->κ i=.none) (hg:bZ ρ ops o.guard=some gd) (bJ:∀m,ok m->NJ P ops n o ρ κ gd hd C m (I m) l) (h:jX hd S n o gd nx κ k l):Good P C ops n o nx ρ κ k:=by
 obtain⟨σ,bP,K0,ex,rs,K1,jJ,fo,fT,Vg,Jx,hk⟩:=h
 rw[(gf (SizeOf.sizeOf (mn (sg σ nx) (j5 κ σ) (qv rs))+1)).1 _ _ (by omega),x8,mJ,sJ]at hk
 have TH:=fT
 simp only[fZ,acj]at TH
 obtain⟨⟨⟨fO,Hu⟩,_⟩,_⟩:=TH
 have hσ1:∀i,i∈σ->i<nx:=by
  have:=fo
  simp only[gI,acj]at this
  exact(ji this.1.1.1.1.1.1.1).1
 have ez:∀p,p∈bW (sg σ nx) (j5 κ σ) K1++kB κ (dh κ (dA (sg σ nx) dp bP) l++dG κ (bW (sg σ nx) dp K0))->p.1<nx+ex:=by
  intro p hp
  rcases abQ.1 hp with hp|hp
  ·obtain⟨j,h1,h2⟩:=mG (i:=p.1) (b:=p.2) hp
   have hj:=c5 Hu j h1
   rw[h2]
   rcases ab1 j σ.length with au|gH
   ·have:=hσ1 _ (by rw[kf au];exact acf au:sg σ nx j∈σ);omega
   ·rw[jH gH];omega
  ·have:=uc hn hp;omega
 refine EE dj hg hk (Nat.le_add_right _ _) ez fun ρ' κ' aw Fn hF g a w G dz ai aN K hK=>?_
 obtain⟨vs,hrel,jD⟩:=bJ σ.length (hS _ _ _ _ _ jJ).1 ρ' κ' _ _ aw g a w G dz.2 ai aN
 obtain⟨β,hβ,aX⟩:=nG (hd:=hd) (hI _) (hS _ _ _ _ _ jJ).2 hn fo Vg Jx (fun vF K1' hR=>by obtain⟨rfl,rfl⟩:=hR;exact fT) (fun j hj=>by
  rcases jI fO j hj with⟨_,_,h,_⟩|⟨_,_,_,_,_,_,h,_⟩|⟨_,_,_,h,_⟩|⟨_,_,_,h,_⟩<;>rw[h]<;>rfl) dz.1 ai hrel aw.reads
 refine jD Fn hF β hβ K (hI _ _ _ _ _ _ ?_ aX)
 rintro e w2 ⟨v,vF,K1',G3,rfl,⟨rfl,rfl⟩,h1,h2⟩
 exact⟨v,rfl,hK v w2 G3 h1 h2⟩
theorem x9{f:Nat}{l:List AV}(bJ:ua P ops o ρ κ gd f l)(hc:fQ P f)(m:Nat):NJ P ops n o ρ κ gd none C m (JB P f) l:=by
 intro ρ' κ' rd bx aw g a w G _ ai aN
 obtain⟨vs,aX,hrel⟩:=bJ.2 ρ' κ' rd bx aw g n a w G ai aN hc
 exact⟨vs,hrel,fun F hF β _ K hI=>ub hF bJ.1 aX hI⟩
theorem EF{c:Call}{t i:Nat}{l:List AV}(ho:o.op=.call c)(hc:c.callee=.value (.tmp t))(hv:bz ρ κ gd (.tmp t) (.eN i))(bJ:lL ρ κ gd c.args.toList l)(m:Nat):NJ P ops n o ρ κ gd (some i) C m (JC P) l:=by
 intro ρ' κ' rd bx aw g a w G _ ai aN
 have hrel:=lL.rel ai aN bJ (fun x hx=>aw.op (by rw[ho];simp only[Op.operands,Call.operands,hc];exact Array.mem_append.2 (.inr (by simpa using hx))))
 have qq:=hv ρ' κ' (aw.op (by rw[ho];simp only[Op.operands,Call.operands,hc];exact Array.mem_append.2 (.inl (by simp)))) g n a w G ai aN
 have bN:(List.map a.eval c.args.toList).toArray=c.args.map a.eval:=by rw[<-Array.toList_map,Array.toArray_toList]
 generalize hx:a.eval (.tmp t)=x at qq
 cases qq with|eN _ b hb=>
 refine⟨_,hrel,fun F hF β hβ K hI=>?_⟩
 obtain⟨l',h1,fn,tmps,assign,body,w1,h2,h3⟩:=hI
 rw[hβ i rfl,hb]at h1
 injection h1 with h1
 subst h1
 rw[bN]at h2
 have aX:(execOp a.eval o).run P w=.ok (.round b fn tmps assign body) w1:=by
  rw[<-h2]
  simp[execOp,ho,resolve,hc,hx,Deferred.ofValue,invoke]
 refine⟨fun f _=>hF.fn f,?_⟩
 rw[Oper.semAt_plain F _ _ (fun c=>by rw[ho];simp),aX,Oper.uponIn_round]
 refine⟨fun h=>(by rw[hF.depth]at h;cases h),hF.round.2 (RoundIn.mono h3 ?_)⟩
 rintro e w' ⟨v,rfl,hk⟩
 exact hk
theorem eW(P:Program):dc P (fun _=>True):=by
 intro ops n o nx ρ κ k hn
 refine⟨fun {gd f l} hg bJ h=>?_,fun hg ho hc hv bJ h=>?_⟩
 ·have hcb:fQ P f:=by obtain⟨_,_,_,_,_,_,jJ,_⟩:=h;exact jJ.1
  exact AP (I:=fun _=>JB P f) (ok:=fun _=>True) (fun _ _ _ _ _ hs=>⟨tv,hs.2⟩) (fun _=>kY P _) bJ.1 hn hg (fun m _=>x9 bJ hcb m) h
 ·exact AP (I:=fun _=>JC P) (ok:=fun _=>True) (fun _ _ _ _ _ hs=>⟨tv,hs⟩) (fun _=>Hs P) (fun c=>by rw[ho];simp) hn hg (fun m _=>EF ho hc hv bJ m) h
end
end
section
open Go.RowKit
variable [cn]
section
variable {P:Program} {C:dP->Prop} {T:List TI}
theorem ya{kt:Nat}{d:TypeDesc}{s:KS}(hd:P.underlying kt=some d)(h:∀k v,s.ok k=true->bT k=some v->MapKept.IsKey d v):uA P kt s where
 check w em v:=fun⟨k,h1,h2⟩=>MapKept.run_checkKey hd (h k v h1 h2) em 9999
 find w x:=fun⟨k,h1,h2⟩ es wU=>by
  rcases MapKept.findNow_spec (h k x h1 h2) es 0 (fun e he=>let⟨k',X3,XA⟩:=wU e he;h k' _ X3 XA)with⟨q1,q2⟩|⟨j,e,q1,q2,q3⟩
  ·exact .inl ⟨MapKept.run_findKey hd q1,q2⟩
  ·exact .inr ⟨j,e,by simpa using MapKept.run_findKey (P:=P) (w:=w) hd q1,q2,q3⟩
 stays w v:=fun⟨k,h1,h2⟩=>MapKept.run_keyThatStays (h k v h1 h2)
def cH:KS:=⟨false,[.int .i64]⟩
def Vk:KS:=⟨false,[.str]⟩
theorem EG(hT:fb P T){kt:Nat}(h:((nth T kt).ok&&(nth T kt).GR==some .i64)=true):uA P kt cH:=by
 simp only[acj,beq_iff_eq]at h
 obtain⟨i,u,z,tf⟩:=hT.facts h.1
 have hu:u=.int .i64:=by
  have:=tf.GR
  rw[h.2]at this
  cases u<;>simp[D5]at this
  rw[this]
 refine ya (d:=.int .i64) (by rw[tf.AD,hu]) fun k v hk hv=>?_
 cases k<;>simp[KS.ok,cH,si]at hk
 subst hk
 simp[bT,DV.val?]at hv
 subst hv
 rfl
theorem NL(hT:fb P T){kt:Nat}(h:((nth T kt).ok&&(nth T kt).isStr)=true):uA P kt Vk:=by
 simp only[acj]at h
 obtain⟨i,u,z,tf⟩:=hT.facts h.1
 refine ya (d:=.string) (tf.string h.2) fun k v hk hv=>?_
 cases k<;>simp[KS.ok,Vk,si]at hk
 simp[bT,DV.val?]at hv
 subst hv
 trivial
def eX:KS:=⟨true,[.int .i64,.int .i64]⟩
theorem KZ{k:DV}{v:Value}(h:eX.ok k=true)(hv:bT k=some v):∃a b:Int,v=.agg #[.int .i64 a,.int .i64 b]:=by
 cases k with
 |agg l=>
  match l,h with
  |[x,y],h=>
   cases x<;>simp[KS.ok,eX,kL,si]at h
   cases y<;>simp[si]at h
   obtain⟨rfl,rfl⟩:=h
   simp[bT,DV.gV,DV.val?]at hv
   exact⟨_,_,hv.symm⟩
  |[],h=>simp[KS.ok,eX,kL]at h
  |[_],h=>simp[KS.ok,eX,kL]at h
  |_::_::_::_,h=>simp[KS.ok,eX,kL]at h
 |_=>simp[KS.ok,eX]at h
theorem sK{t:Option TypeDesc}(h:AQ t=true):t=some (.int .i64):=by
 cases t with
 |none=>simp[AQ]at h
 |some d=>cases d<;>simp[AQ]at h;rename_i k;cases k<;>simp[AQ]at h;rfl
theorem fA{w:World}{e:TypeId}(he:P.underlying e=some (.int .i64)){xs:Array Value}{off:Nat}{v:Value}(hx:xs[off]?=some v):(part e xs off).run P w=.ok v w:=by
 simp[part,isAgg,run_underlying he,hx]
theorem Hv{kt:Nat}{fs:Array Field}(hu:P.underlying kt=some (.struct fs))(hp:EH P fs.toList=true)(hs:P.stoodInHeld kt=false)(w:World)(a b c d:Int):
 (Op.equal kt (.agg #[.int .i64 a,.int .i64 b]) (.agg #[.int .i64 c,.int .i64 d])).run P w=.ok (a==c&&b==d) w:=by
 have hf:P.fieldsOf kt=fs:=by simp[Program.fieldsOf,hu]
 have key:∀D,(Op.equalIn (D+2) kt (.agg #[.int .i64 a,.int .i64 b]) (.agg #[.int .i64 c,.int .i64 d])).run P w=.ok (a==c&&b==d) w:=by
  intro D
  rw[run_equalIn_struct w (D+1) kt _ _ (by rw[hf];exact hu) hs,hf]
  match hl:fs.toList,hp with
  |[x,y],hp=>
   simp only[hl,EH,acj,bne_iff_ne]at hp
   obtain⟨⟨⟨⟨⟨n1,n2⟩,o1⟩,o2⟩,i1⟩,i2⟩:=hp
   have o1:=abL o1
   have o2:=abL o2
   have i1:=sK i1
   have i2:=sK i2
   simp only[Op.eqFields,n1,n2,ne_eq,not_false_eq_true,if_true,Sem.run_bind,o1,o2]
   rw[fA (v:=.int .i64 a) i1 (by simp)]
   simp only[Result.andThen_ok]
   rw[fA (v:=.int .i64 c) i1 (by simp)]
   simp only[Result.andThen_ok]
   rw[run_equalIn_int w D x.type .i64 .i64 a c i1]
   simp only[Result.andThen_ok]
   cases hac:a==c with
   |false=>simp
   |true=>
    simp only[Bool.not_true,Bool.false_eq_true,if_false,Sem.run_bind]
    rw[fA (v:=.int .i64 b) i2 (by simp)]
    simp only[Result.andThen_ok]
    rw[fA (v:=.int .i64 d) i2 (by simp)]
    simp only[Result.andThen_ok]
    rw[run_equalIn_int w D y.type .i64 .i64 b d i2]
    simp only[Result.andThen_ok]
    cases Ja:b==d<;>simp
 simp only[Op.equal,Op.maxDepth,key 9998]
theorem AR(hT:fb P T){kt:Nat}(h:((nth T kt).ok&&(nth T kt).pair)=true):uA P kt eX:=by
 simp only[acj]at h
 obtain⟨i,u,z,tf⟩:=hT.facts h.1
 have hp:=tf.pair
 rw[h.2]at hp
 have hp:=hp.symm
 simp only[acj,acm]at hp
 obtain⟨fs,rfl⟩:∃fs,u=.struct fs:=by
  cases u<;>simp[Hw]at hp
  exact⟨_,rfl⟩
 have hl:EH P fs.toList=true:=hp.1
 have hu:=tf.AD
 have hv:∀{v:Value},(∃d,eX.ok d=true/\bT d=some v)->∃a b:Int,v=.agg #[.int .i64 a,.int .i64 b]:=fun⟨d,h1,h2⟩=>KZ h1 h2
 refine⟨fun w em v hk=>?_,fun w x hx es wU=>?_,fun w v hk=>?_⟩
 ·obtain⟨a,b,rfl⟩:=hv hk
  have key:∀D,(Instr.checkKey em (D+2) kt (.agg #[.int .i64 a,.int .i64 b])).run P w=.ok () w:=by
   intro D
   match hf:fs,hl with
   |⟨[x,y]⟩,hl=>
    simp only[EH,acj,bne_iff_ne]at hl
    obtain⟨⟨⟨⟨⟨n1,n2⟩,o1⟩,o2⟩,i1⟩,i2⟩:=hl
    have o1:=abL o1
    have o2:=abL o2
    have i1:=sK i1
    have i2:=sK i2
    have c1:∀(E:Nat) (n:Int),(Instr.checkKey em (E+1) x.type (.int .i64 n)).run P w=.ok () w:=fun E n=>by simp[Instr.checkKey,run_underlying i1]
    have c2:∀(E:Nat) (n:Int),(Instr.checkKey em (E+1) y.type (.int .i64 n)).run P w=.ok () w:=fun E n=>by simp[Instr.checkKey,run_underlying i2]
    rw[Instr.checkKey]
    simp only[Sem.run_bind,run_underlying hu,Result.andThen_ok]
    simp[n1,n2,o1,o2,fA (v:=.int .i64 a) i1,fA (v:=.int .i64 b) i2,c1,c2]
  exact key 9998
 ·have hw:(match P.underlying kt with|some (.array _ _)|some (.struct _)=>true|_=>false)=true:=by rw[hu]
  obtain⟨a,b,rfl⟩:=hv hx
  have key:∀(es:List MapEntry) (i:Nat),(∀e,e∈es->∃d,eX.ok d=true/\bT d=some e.key)->
   ((Instr.findAsking kt (.agg #[.int .i64 a,.int .i64 b]) es i).run P w=.ok none w/\∀e,e∈es->e.key≠.agg #[.int .i64 a,.int .i64 b])\/
   ∃j e,(Instr.findAsking kt (.agg #[.int .i64 a,.int .i64 b]) es i).run P w=.ok (some (i+j,e.val)) w/\es[j]?=some e/\e.key=.agg #[.int .i64 a,.int .i64 b]:=by
   intro es
   induction es with
   |nil=>intro i _;exact .inl ⟨by simp[Instr.findAsking],by simp⟩
   |cons e r ih=>
    intro i wU
    obtain⟨c,d,hk⟩:=hv (wU e (by simp))
    have heq:=Hv hu hl hp.2 w a b c d
    rw[<-hk]at heq
    cases hb:(a==c&&b==d)with
    |true=>
     rw[hb]at heq
     simp only[acj,beq_iff_eq]at hb
     refine .inr ⟨0,e,?_,rfl,by rw[hk,hb.1,hb.2]⟩
     simp only[Instr.findAsking,Sem.run_bind,heq,Result.andThen_ok,if_true,Sem.run_pure,Nat.add_zero]
    |false=>
     rw[hb]at heq
     have b7:e.key≠.agg #[.int .i64 a,.int .i64 b]:=by
      rw[hk]
      intro e'
      simp only[Value.agg.injEq,Array.mk.injEq,List.cons.injEq,Value.int.injEq,true_and,and_true]at e'
      obtain⟨rfl,rfl⟩:=e'
      simp at hb
     have aX:(Instr.findAsking kt (.agg #[.int .i64 a,.int .i64 b]) (e::r) i).run P w=(Instr.findAsking kt (.agg #[.int .i64 a,.int .i64 b]) r (i+1)).run P w:=by
      simp only[Instr.findAsking,Sem.run_bind,heq,Result.andThen_ok,Bool.false_eq_true,if_false]
     rcases ih (i+1) (fun e he=>wU e (by simp[he]))with⟨q1,q2⟩|⟨j,e',q1,q2,q3⟩
     ·exact .inl ⟨aX.trans q1,fun e0 Vl=>by rcases abO.1 Vl with rfl|Vl;exact b7;exact q2 _ Vl⟩
     ·exact .inr ⟨j+1,e',by rw[aX,q1];congr 3;omega,by simpa using q2,q3⟩
  rw[run_findKey_eq w hw]
  rcases key es 0 wU with h1|⟨j,e,q1,q2,q3⟩
  ·exact .inl h1
  ·exact .inr ⟨j,e,by simpa using q1,q2,q3⟩
 ·obtain⟨a,b,rfl⟩:=hv hk
  have:Instr.sameBits 10000 (.agg #[.int .i64 a,.int .i64 b]) (.agg #[.int .i64 a,.int .i64 b])=true:=by simp[Instr.sameBits]
  simp[Instr.keyThatStays,this]
end
end
section
open Go.RowKit
variable [cn]
theorem sL(ρ:Nat->AV):∀(k s:Nat),(bQ ρ s k).length=k
 |0,_=>rfl
 |k+1,s=>by simp[bQ,sL ρ k]
theorem AS(ρ:Nat->AV):∀(k s j:Nat) (v:AV),(bQ ρ s k)[j]?=some v->v=ρ (s+j)
 |0,_,j,v,h=>by simp[bQ]at h
 |k+1,s,0,v,h=>by simp[bQ]at h;exact h.symm
 |k+1,s,j+1,v,h=>by
  simp only[bQ,List.getElem?_cons_succ]at h
  rw[AS ρ k (s+1) j v h,Nat.add_right_comm,Nat.add_assoc]
section
variable {g:dP} {n:Nat} {ρ:Nat->AV} {κ:Nat->aq} {a:Act} {w:World} {G:Gh}
theorem cy.NM(h:cy g n ρ κ a w G){i b:Nat}{o:Obj}{bx:aq}(gw:cx G i (κ i) b)(Ye:∀c,cx G i bx c->c=b)(ux:fM G (w.putObj b o) i bx):
 cy g n ρ (iS κ i bx) a (w.putObj b o) G:=by
 have au:b<w.heap.size:=gw.lt h.fit
 have hMl:G.M b=none:=h.fit.own i b gw
 refine h.sn (C:=fun j=>j=i) ⟨.refl G,fun _ _=>rfl,fun j hj=>ah _ _ hj,fun _ _=>⟨fun _ q=>q,fun _ _ _ _ q=>q⟩,fun c hc cW=>⟨ga _ _ (fun e=>cW i rfl (by rw[e];exact gw)),rfl⟩,fun c o' hc=>?_,?_,?_,fun _ _ _ h1 h2 _ _=>h1.trans h2.symm,by rw[putObj_size];exact acb _,rfl,rfl,rfl⟩ (fun _ _=>rfl)
 ·rw[ga _ _ (fun e=>by rw[e,hMl]at hc;cases hc)];exact h.fit.sub c o' hc
 ·rintro j rfl
  rw[bl];exact ux
 ·rintro j c rfl ho
  rw[bl]at ho
  have:=Ye c ho
  subst this
  exact⟨.inr ⟨j,rfl,gw⟩,hMl⟩
theorem cy.uB(h:cy g n ρ κ a w G){i b:Nat}{rc:RC}{st:zK}{l:List AV}(hi:κ i=.c8 rc st l)(hb:G.β i=some b):
 ∃r:Loop,w.heap[b]?=some (.loop r)/\r.state=st.st/\r.pending=st.zV/\(∀TE:zK,cy g n ρ (iS κ i (.c8 rc TE l)) a (w.putObj b (.loop { r with state:=TE.st,pending:=TE.zV })) G)/\
  ∀o,cy g n ρ (iS κ i .dead) a (w.putObj b o) G:=by
 have hx:=h.fit.box i
 rw[hi]at hx
 obtain⟨b',fn,tmps,D,h1,h2,h3⟩:=hx
 rw[hb]at h1;injection h1 with h1;subst h1
 have au:b<w.heap.size:=(abV.1 h2).1
 have gw:cx G i (κ i) b:=by rw[hi];exact hb
 refine⟨_,h2,rfl,rfl,fun TE=>h.NM gw (fun c hc=>?_) ⟨b,fn,tmps,D,hb,World.putObj_heap_same au,h3⟩,fun o=>h.NM gw (fun c hc=>hc.elim) trivial⟩
 have oh:G.β i=some c:=hc
 rw[hb]at oh;injection oh with oh;exact oh.symm
def dP.upto(g:dP)(m:Nat)(β:Nat->Option Nat):dP:={ g with m:=m,β:=β,H:=fun i p=>if i<g.m then g.H i p else none }
theorem cy.upto(h:cy g n ρ κ a w G)(m:Nat):cy (g.upto m G.β) n ρ κ a w G:=by
 refine⟨h.fit,h.env,h.size,h.zL,h.os,h.tape,h.output,h.grow,h.mem,h.nu,h.gB,fun _ _=>rfl,fun i _ p x hx=>?_,h.oK,h.tR⟩
 have Ac:(if i<g.m then g.H i p else none)=some x:=hx
 split at Ac
 ·rename_i hi;exact h.wz i hi p x Ac
 ·cases Ac
theorem cy.NN{β:Nat->Option Nat}{m:Nat}(h:cy (g.upto m β) n ρ κ a w G)(hm:g.m<=m)(hβ:∀i,i<g.m->β i=g.β i):cy g n ρ κ a w G:=by
 refine⟨h.fit,h.env,h.size,h.zL,h.os,h.tape,h.output,h.grow,h.mem,h.nu,h.gB,fun i hi=>(h.fe i (Nat.lt_of_lt_of_le hi hm)).trans (hβ i hi),fun i hi p x hx=>h.wz i (Nat.lt_of_lt_of_le hi hm) p x ?_,h.oK,h.tR⟩
 show(if i<g.m then g.H i p else none)=some x
 rw[if_pos hi];exact hx
theorem cy.enterLoop(h:cy g n ρ κ a w G){nx:Nat}(hn:κ nx=.none)(dz:g.m<=nx)(rc:RC)(fn:FuncId):
 cy g n ρ (iS κ nx (.c8 rc .ready (bQ ρ 0 n))) { a with defers:=mark w.heap.size::a.defers } ((w.alloc (.deferred (some []))).alloc (.loop { state:=.ready,pending:=none,fn:=fn,tmps:=a.tmps,params:=rc.ps,assign:=rc.as,body:=rc.bd,defers:=w.heap.size })) { G with β:=iS G.β nx (some (w.heap.size+1)) }/\
  Gh.Le G { G with β:=iS G.β nx (some (w.heap.size+1)) }:=by
 have Hl:=h.fit.box nx
 rw[hn]at Hl
 generalize hr:({ state:=.ready,pending:=none,fn:=fn,tmps:=a.tmps,params:=rc.ps,assign:=rc.as,body:=rc.bd,defers:=w.heap.size }:Loop)=r
 have hle:Gh.Le G { G with β:=iS G.β nx (some (w.heap.size+1)) }:=
  ⟨Mem.Le.refl _,fun i b hb=>by
   by_cases e:i=nx
   ·subst e;rw[Hl.1]at hb;cases hb
   ·show iS G.β nx _ i=some b
    rw[ah _ _ e];exact hb,fun _ _ _ _ _ q=>q⟩
 have aV:((w.alloc (.deferred (some []))).alloc (.loop r)).heap.size=w.heap.size+2:=by rw[World.size_alloc,World.size_alloc]
 have zW:∀b,b<w.heap.size->((w.alloc (.deferred (some []))).alloc (.loop r)).heap[b]?=w.heap[b]?:=fun b hb=>by
  rw[bC _ _ (by rw[World.size_alloc];omega),bC _ _ hb]
 have U0:((w.alloc (.deferred (some []))).alloc (.loop r)).heap[w.heap.size]?=some (.deferred (some [])):=by
  rw[bC _ _ (by rw[World.size_alloc];omega)];exact cJ _ _
 have aay:((w.alloc (.deferred (some []))).alloc (.loop r)).heap[w.heap.size+1]?=some (.loop r):=by
  have:=cJ (w.alloc (.deferred (some []))) (.loop r)
  rwa[World.size_alloc]at this
 have aaz:G.M.In ((w.alloc (.deferred (some []))).alloc (.loop r)):=(h.fit.sub.alloc _).alloc _
 have Yf:∀b,w.heap.size<=b->G.M b=none:=fun b hb=>Mem.In.so h.fit.sub hb
 have jB:cj { G with β:=iS G.β nx (some (w.heap.size+1)) } (bQ ρ 0 n) a.tmps.toList:=by
  refine⟨by rw[sL];simp[h.size],fun j d v hd hv=>?_⟩
  have:=AS ρ n 0 j d hd
  rw[Nat.zero_add]at this
  subst this
  have he:=(h.env j).mono hle
  have lH:a.tmps.getD j undef=v:=by
   rw[abS]
   rw[Array.getElem?_toList]at hv
   rw[hv];rfl
  rw[lH]at he;exact he
 have st:=h.sn (κ':=iS κ nx (.c8 rc .ready (bQ ρ 0 n))) (G':={ G with β:=iS G.β nx (some (w.heap.size+1)) }) (w':=(w.alloc (.deferred (some []))).alloc (.loop r)) (C:=fun j=>j=nx)
  ⟨hle,fun _ _=>rfl,fun j hj=>ah _ _ hj,fun j hj=>⟨fun x hx=>by
   have:iS G.β nx (some (w.heap.size+1)) j=some x:=hx
   rwa[ah _ _ hj]at this,fun _ _ _ _ q=>q⟩,fun b hb _=>⟨zW b hb,rfl⟩,aaz,by
   rintro j rfl
   rw[bl]
   exact⟨w.heap.size+1,fn,a.tmps,w.heap.size,bl _ _ _,by rw[aay,<-hr];rfl,jB⟩,by
   rintro j b rfl ho
   rw[bl]at ho
   have hb:some (w.heap.size+1)=some b:=by
    have:iS G.β j (some (w.heap.size+1)) j=some b:=ho
    rwa[bl]at this
   injection hb with hb
   exact⟨.inl (by omega),Yf b (by omega)⟩,fun _ _ _ h1 h2 _ _=>h1.trans h2.symm,by rw[aV];omega,rfl,rfl,rfl⟩
  (fun i hi=>by
   show iS G.β nx _ i=G.β i
   exact ah _ _ (by omega))
 refine⟨{ st with tR:=?_ },hle⟩
 obtain⟨D,h1,h2,h3⟩:=h.tR
 have Vm:∀q,q∈D->q<w.heap.size:=fun q hq=>(abV.1 (h3 q hq).1).1
 have key:∀i,∀q,q<=w.heap.size->cx { G with β:=iS G.β nx (some (w.heap.size+1)) } i (iS κ nx (.c8 rc .ready (bQ ρ 0 n)) i) q->cx G i (κ i) q:=by
  intro i q hq ho
  by_cases e:i=nx
  ·subst e
   rw[bl]at ho
   have:iS G.β i (some (w.heap.size+1)) i=some q:=ho
   rw[bl]at this
   injection this with this
   omega
  ·rw[ah _ _ e]at ho
   cases hk:κ i with
   |cells l=>rw[hk]at ho;have:iS G.β nx (some (w.heap.size+1)) i=some q:=ho;rwa[ah _ _ e]at this
   |c8 rc st l=>rw[hk]at ho;have:iS G.β nx (some (w.heap.size+1)) i=some q:=ho;rwa[ah _ _ e]at this
   |kz a b c d f=>rw[hk]at ho;exact ho.imp id fun ho=>by have:iS G.β nx (some (w.heap.size+1)) i=some q:=ho;rwa[ah _ _ e]at this
   |_=>rw[hk]at ho;exact ho
 refine⟨w.heap.size::D,by rw[List.map_cons,<-h1],List.nodup_cons.2 ⟨fun hm=>Nat.lt_irrefl _ (Vm _ hm),h2⟩,fun q hq=>?_⟩
 rcases abO.1 hq with rfl|hq
 ·exact⟨U0,fun i ho=>Nat.lt_irrefl _ ((key i _ (acb _) ho).lt h.fit),Yf _ (acb _),h.grow⟩
 ·obtain⟨a1,a2,a3,a4⟩:=h3 q hq
  exact⟨by rw[zW q (Vm q hq)];exact a1,fun i ho=>a2 i (key i q (Nat.le_of_lt (Vm q hq)) ho),a3,a4⟩
end
end
section
open Go.RowKit
variable [cn]
theorem fU(i:Nat)(b:aq)(K:ae):aa ((i,b)::K)=iS (aa K) i b:=by
 funext t
 simp only[aa,iS]
 by_cases h:t=i
 ·subst h;simp
 ·rw[if_neg h];simp[beq_false h]
theorem sM{κ:Nat->aq}:∀{m:Nat},Xa κ m=true->∀j,j<m->(κ j).pass=true
 |0,_,j,hj=>by omega
 |m+1,h,j,hj=>by
  simp only[Xa,acj]at h
  rcases ab1 j m with au|gH
  ·exact sM h.2 j au
  ·have:j=m:=by omega
   subst this;exact h.1
theorem Hx(P:Program):AM P:=by
 intro g n nx env K a w x ps assign body Q R h hs hR
 obtain⟨rc,rfl,h⟩:=h
 obtain⟨⟨G,ai⟩,dz,hn⟩:=hs
 have core:∀(f:Nat) (bK:List AV) (vs:List Value),a.eval x=.func (.func f) #[] vs.toArray->cj G bK vs->
  Cn P nx env ((nx,.c8 ⟨ps,assign,body⟩ .ready (bQ (look env) 0 n))::K) f bK Q->(Code.rangeFunc x ps assign body).wpIn Fence.wide 0 P R a w:=by
  intro f bK vs hx jB hh
  obtain⟨σ,bP,K0,ex,R0,jJ,fo,Vg,Jx,fT⟩:=hh
  refine wpIn_rangeFunc fun fn _=>?_
  obtain⟨st1,hle⟩:=ai.enterLoop (hn nx (acb _)) dz ⟨ps,assign,body⟩ fn
  rw[<-fU]at st1
  have st2:=st1.upto (nx+1)
  have BX:∀i,i<g.m->iS G.β nx (some (w.heap.size+1)) i=g.β i:=fun i hi=>by rw[ah _ _ (by omega)];exact ai.fe i hi
  simp only[acj]at fo
  have hrel:cj { G with β:=iS G.β nx (some (w.heap.size+1)) } (.eN nx::bK) (.func (.yield (w.heap.size+1)) #[] #[]::vs):=by
   have h1:cj { G with β:=iS G.β nx (some (w.heap.size+1)) } [.eN nx] [.func (.yield (w.heap.size+1)) #[] #[]]:=
    ⟨rfl,fun j d v hd hv=>by
     cases j with
     |zero=>simp at hd hv;subst hd;subst hv;exact .eN nx _ (bl _ _ _)
     |succ j=>simp at hd⟩
   exact h1.append (jB.mono hle)
  obtain⟨β,_,aX⟩:=nG (hd:=none) (nx:=nx+1) (κ:=aa ((nx,.c8 ⟨ps,assign,body⟩ .ready (bQ (look env) 0 n))::K)) (kY P f) jJ.2
   (fun i hi=>by rw[fU,ah _ _ (by omega)];exact hn i (by omega)) (by simp only[acj];exact⟨fo.1,rfl⟩) Vg Jx (fun rs K1 hr=>(fT rs K1 hr).1) (sM fo.2) (acb _) st2 hrel (fun _ _=>rfl)
  refine⟨w.heap.size+1,[mark w.heap.size],((w.alloc (.deferred (some []))).alloc (.loop { state:=.ready,pending:=none,fn:=fn,tmps:=a.tmps,params:=ps,assign:=assign,body:=body,defers:=w.heap.size })),⟨.fn (.func f) vs.toArray,#[.func (.yield (w.heap.size+1)) #[] #[]]⟩,((w.alloc (.deferred (some []))).alloc (.loop { state:=.ready,pending:=none,fn:=fn,tmps:=a.tmps,params:=ps,assign:=assign,body:=body,defers:=w.heap.size })),f,(Value.func (.yield (w.heap.size+1)) #[] #[]::vs).toArray,((w.alloc (.deferred (some []))).alloc (.loop { state:=.ready,pending:=none,fn:=fn,tmps:=a.tmps,params:=ps,assign:=assign,body:=body,defers:=w.heap.size })),run_enterLoop_outer fn a.tmps ps assign body,?_,fun _ _=>trivial,?_,(fun h=>by cases h),?_⟩
  ·have h0:(#[]++Array.map a.eval #[Operand.const (Value.func (Fn.yield (w.heap.size+1)) #[] #[])])=#[Value.func (Fn.yield (w.heap.size+1)) #[] #[]]:=by simp[Act.eval]
   simp only[resolve,rangeCall,hx,Deferred.ofValue,Sem.run_pure]
   rw[h0]
  ·have:(#[Value.func (.yield (w.heap.size+1)) #[] #[]]++vs.toArray)=(Value.func (.yield (w.heap.size+1)) #[] #[]::vs).toArray:=by simp
   simp only[invoke]
   rw[this]
   exact iB jJ.1 _ _
  ·refine(gX.calls).2 (Calls.mono aX ?_)
   rintro e w2 ⟨v,rs,K2,G3,rfl,Yg,ED,_⟩
   obtain⟨Xe,hq⟩:=fT rs K2 Yg
   rw[mJ]at hq
   rw[<-fR]at ED
   have AA:∀i,nx+1+ex<=i->aa (wC (bW (sg σ (nx+1)) (j5 (aa ((nx,.c8 ⟨ps,assign,body⟩ .ready (bQ (look env) 0 n))::K)) σ) K2++kB (aa ((nx,.c8 ⟨ps,assign,body⟩ .ready (bQ (look env) 0 n))::K)) (dh (aa ((nx,.c8 ⟨ps,assign,body⟩ .ready (bQ (look env) 0 n))::K)) (dA (sg σ (nx+1)) dp bP) (.eN nx::bK)++dG (aa ((nx,.c8 ⟨ps,assign,body⟩ .ready (bQ (look env) 0 n))::K)) (bW (sg σ (nx+1)) dp K0))) ((nx,.c8 ⟨ps,assign,body⟩ .ready (bQ (look env) 0 n))::K)) i=.none:=by
    have KM:∀i,nx+1<=i->aa ((nx,.c8 ⟨ps,assign,body⟩ .ready (bQ (look env) 0 n))::K) i=.none:=fun i hi=>by rw[fU,ah _ _ (by omega)];exact hn i (by omega)
    refine kQ KM (Nat.le_add_right _ _) fun p hp=>?_
    have Hu:l9 (σ.length+ex) K2=true:=by
     have:=Xe
     simp only[fZ,acj]at this
     exact this.1.1.2
    have hσ1:∀i,i∈σ->i<nx+1:=by
     have:=fo.1
     simp only[gI,acj]at this
     exact(ji this.1.1.1.1.1.1).1
    rcases abQ.1 hp with hp|hp
    ·obtain⟨j,h1,h2⟩:=mG (i:=p.1) (b:=p.2) hp
     have hj:=c5 Hu j h1
     rw[h2]
     rcases ab1 j σ.length with au|gH
     ·have:=hσ1 _ (by rw[kf au];exact acf au:sg σ (nx+1) j∈σ);omega
     ·rw[jH gH];omega
    ·have:=uc KM hp;omega
   generalize hK3:wC (bW (sg σ (nx+1)) (j5 (aa ((nx,.c8 ⟨ps,assign,body⟩ .ready (bQ (look env) 0 n))::K)) σ) K2++kB (aa ((nx,.c8 ⟨ps,assign,body⟩ .ready (bQ (look env) 0 n))::K)) (dh (aa ((nx,.c8 ⟨ps,assign,body⟩ .ready (bQ (look env) 0 n))::K)) (dA (sg σ (nx+1)) dp bP) (.eN nx::bK)++dG (aa ((nx,.c8 ⟨ps,assign,body⟩ .ready (bQ (look env) 0 n))::K)) (bW (sg σ (nx+1)) dp K0))) ((nx,.c8 ⟨ps,assign,body⟩ .ready (bQ (look env) 0 n))::K)=K3 at*
   have vz:G3.β nx=some (w.heap.size+1):=(ED.fe nx (Nat.lt_succ_self nx)).trans (bl _ _ _)
   have fin:∀(GJ:RC) (st:zK) (l:List AV) (e:AX),aa K3 nx=.c8 GJ st l->st.st≠.busy->st.zV=nt e->Q e (nx+1+ex) env ((nx,.dead)::K3)->rangePost Fence.wide 0 P (w.heap.size+1) R { a with defers:=[mark w.heap.size]++a.defers } (.returned v) w2:=by
    intro GJ st l e hk hb hp hq
    obtain⟨r,h1,h2,h3,_,NO⟩:=ED.uB hk vz
    have st4:=(NO (.loop { r with state:=.exhausted })).NN (Nat.le_succ_of_le dz) BX
    have hs4:AH g n (nx+1+ex) env ((nx,.dead)::K3) { a with defers:=[mark w.heap.size]++a.defers } (w2.putObj (w.heap.size+1) (.loop { r with state:=.exhausted })):=
     ⟨⟨G3,by rw[fU];exact st4⟩,by omega,fun i hi=>by rw[fU,ah _ _ (by omega)];exact AA i hi⟩
    have oC:=hR e _ _ _ _ _ hq hs4
    refine⟨r.pending,_,run_endLoop h1 (by rw[h2];exact hb),?_⟩
    have EI:r.pending=nt e:=h3.trans hp
    rw[EI]at oC
    rw[EI]
    cases e with
    |normal=>exact oC
    |ret=>exact wpIn_ret oC
    |exit i=>exact wpIn_exit oC
   unfold Ev at hq
   split at hq
   ·rename_i GJ l hk;exact fin GJ .ready l .normal hk (by simp[zK.st]) rfl hq
   ·rename_i GJ e l hk;exact fin GJ (.done e) l e hk (by simp[zK.st]) rfl hq
   ·exact hq.elim
 have hv:=AG (ρ:=look env) (κ:=aa K) (x:=x) (look env) (aa K) ⟨fun _ _=>rfl,fun _ _=>rfl⟩ g n a w G ai
 generalize hx:a.eval x=y at hv
 split at h
 ·rename_i f bK he
  rw[he]at hv
  cases hv with|fn _ _ vs hl hr=>exact core f bK vs hx ⟨hl,hr⟩ h
 ·rename_i f bK he
  rw[he]at hv
  cases hv with|dv hd=>cases hd with|fn _ _ vs hl hr=>exact core f _ vs hx (jd ⟨hl,hr⟩) h
 ·exact h.elim
theorem Hy{n:Nat}{o:Oper}{q:Nat×List Operand}(h:Jr n o=some q):∃c:Call,o.op=.call c/\c.callee=.value (.func q.1)/\c.args.toList=q.2/\o.guard=none/\∀t,o.dst=some t->t<n:=by
 unfold Jr at h
 split at h
 ·rename_i c e1 e2
  split at h
  ·rename_i f e3 e4
   injection h with h;subst h
   exact⟨c,e1,e3,rfl,e2,fun t ht=>by rw[e4]at ht;cases ht⟩
  ·rename_i f t e3 e4
   have hh:=U8 h;clear h;obtain⟨hb,h⟩:=hh
   injection h with h;subst h
   exact⟨c,e1,e3,rfl,e2,fun t' ht=>by rw[e4]at ht;injection ht with ht;subst ht;simpa using hb⟩
  ·cases h
 ·cases h
theorem RF(P:Program):Hm P:=by
 intro g ops n nx env K a w o q k ho h hs F hF
 obtain⟨c,hop,qq,DR,aN,aaA⟩:=Hy ho
 refine⟨aN,?_⟩
 obtain⟨⟨G,ai⟩,dz,hn⟩:=hs
 obtain⟨l,⟨σ,bP,K0,ex,R,jJ,fo,Vg,Jx,fT⟩,bJ⟩:=kD h
 rw[<-DR]at bJ
 have aaB:=vA (P:=P) (ops:=ops) (o:=o) hop qq bJ
 simp only[acj]at fo
 obtain⟨vs,hrel,jD⟩:=x9 (C:=fun _=>True) (n:=n) aaB jJ.1 0 (look env) (aa K) [] [] ⟨fun _ _=>rfl,fun _ _=>rfl,fun _ _=>rfl,fun _ _ _=>rfl⟩ g a w G trivial ai rfl
 obtain⟨β,hβ,aX⟩:=nG (hd:=none) (nx:=nx) (kY P q.1) jJ.2 hn (by simp only[acj];exact⟨fo.1,rfl⟩) Vg Jx (fun rs K1 hr=>(fT rs K1 hr).1) (sM fo.2) dz ai hrel (fun _ _=>rfl)
 refine jD F hF β hβ _ (kY P q.1 _ _ _ _ _ ?_ aX)
 rintro e w2 ⟨v,rs,K1,G3,rfl,hR,ED,hv⟩
 obtain⟨Xe,hq⟩:=fT rs K1 hR
 rw[(gf (SizeOf.sizeOf (mn (sg σ nx) (j5 (aa K) σ) (qv rs))+1)).1 _ _ (by omega),x8,mJ,sJ]at hq
 refine⟨v,rfl,_,_,_,hq,⟨G3,?_⟩,Nat.le_trans dz (Nat.le_add_right _ _),kQ hn (Nat.le_add_right _ _) fun p hp=>?_⟩
 ·rw[<-fR]at ED
  cases hd:o.dst with
  |none=>exact ED
  |some t=>
   have:=ED.put (aaA t hd) hv
   have e:look (U6 (some t) (mn (sg σ nx) (j5 (aa K) σ) (qv rs)) env)=iS (look env) t (mn (sg σ nx) (j5 (aa K) σ) (qv rs)):=by
    have:=kE [(t,mn (sg σ nx) (j5 (aa K) σ) (qv rs))] env
    simpa[Ek,ay,U6]using this
   rw[e];exact this
 ·have Hu:l9 (σ.length+ex) K1=true:=by
   have:=Xe
   simp only[fZ,acj]at this
   exact this.1.1.2
  have hσ1:∀i,i∈σ->i<nx:=by
   have:=fo.1
   simp only[gI,acj]at this
   exact(ji this.1.1.1.1.1.1).1
  rcases abQ.1 hp with hp|hp
  ·obtain⟨j,h1,h2⟩:=mG (i:=p.1) (b:=p.2) hp
   have hj:=c5 Hu j h1
   rw[h2]
   rcases ab1 j σ.length with au|gH
   ·have:=hσ1 _ (by rw[kf au];exact acf au:sg σ nx j∈σ);omega
   ·rw[jH gH];omega
  ·have:=uc hn hp;omega
theorem fB(P:Program):jF P:=⟨Hx P,RF P⟩
end
section
open Go.RowKit
variable [cn]
def ru:Nat->List AV->Env
 |_,[]=>[]
 |s,.any::r=>ru (s+1) r
 |s,v::r=>(s,v)::ru (s+1) r
theorem JD:∀(l:List AV) (s t:Nat),t<s->look (ru s l) t=.any
 |[],_,_,_=>rfl
 |v::r,s,t,h=>by
  have ih:=JD r (s+1) t (by omega)
  cases v<;>simp only[ru,look]<;>first|exact ih|(rw[beq_false (by omega)];exact ih)
theorem uC:∀(l:List AV) (s j:Nat),look (ru s l) (s+j)=match l[j]? with|some v=>v|none=>.any
 |[],s,j=>by simp[ru,look]
 |v::r,s,0=>by
  have h0:=JD r (s+1) s (by omega)
  cases v<;>simp only[ru,look,Nat.add_zero,Nat.beq_refl,cond_true,List.getElem?_cons_zero]<;>exact h0
 |v::r,s,j+1=>by
  have ih:=uC r (s+1) j
  have e:s+(j+1)=s+1+j:=by omega
  cases v<;>simp only[ru,look,List.getElem?_cons_succ]<;>rw[e]<;>first|exact ih|(rw[beq_false (by omega)];exact ih)
def Ad:List Nat->List AV->Env->Env
 |p::ps,v::vs,env=>Ad ps vs ((p,v)::env)
 |_,_,env=>env
def EJ(n:Nat):List Nat->Bool
 |[]=>true
 |p::r=>Nat.blt p n&&EJ n r
theorem uD{n:Nat}:∀{l:List Nat},EJ n l=true->∀p,p∈l->p<n
 |[],_,p,h=>by simp at h
 |q::r,h,p,hp=>by
  simp only[EJ,acj,Nat.blt_eq]at h
  rcases abO.1 hp with rfl|hp
  ·exact h.1
  ·exact uD h.2 p hp
theorem Cu{G:Gh}:∀{ps:List Nat} {jt:List AV} {vs:List Value} {env:Env} {tmps:Array Value},(∀p,p∈ps->p<tmps.size)->cj G jt vs->(∀t,aG G (look env t) (tmps.getD t undef))->
 ∀t,aG G (look (Ad ps jt env) t) (((ps.zip vs).foldl (fun tm (pv:Nat×Value)=>tm.setIfInBounds pv.1 pv.2) tmps).getD t undef)
 |[],jt,vs,env,tmps,_,_,h,t=>by cases jt<;>simpa[Ad]using h t
 |p::ps,[],vs,env,tmps,_,hr,h,t=>by
  have:vs=[]:=by have:=hr.1;simpa using this.symm
  subst this
  simpa[Ad]using h t
 |p::ps,v::jt,[],env,tmps,_,hr,h,t=>by have:=hr.1;simp at this
 |p::ps,v::jt,x::vs,env,tmps,hp,hr,h,t=>by
  simp only[Ad,List.zip_cons_cons,List.foldl_cons]
  refine Cu (fun q hq=>by rw[Array.size_setIfInBounds];exact hp q (by simp[hq])) ⟨by simpa using hr.1,fun j d y hd hy=>hr.2 (j+1) d y (by simpa using hd) (by simpa using hy)⟩ (fun t=>?_) t
  simp only[look]
  by_cases e:t=p
  ·subst e
   have:=hp t (by simp)
   simp only[Nat.beq_refl,cond_true,abS]
   rw[Array.getElem?_setIfInBounds_self_of_lt this]
   exact hr.2 0 v x rfl rfl
  ·rw[beq_false e,abS,Array.getElem?_setIfInBounds_ne (fun h=>e h.symm),<-abS]
   exact h t
theorem AT(ps:List (Nat×Value)):∀(tmps:Array Value),((ps.foldl (fun tm (pv:Nat×Value)=>tm.setIfInBounds pv.1 pv.2) tmps)).size=tmps.size:=by
 induction ps with
 |nil=>intro t;rfl
 |cons p r ih=>intro t;simp only[List.foldl_cons];rw[ih,Array.size_setIfInBounds]
def RH:AX->Bool
 |.normal=>true
 |_=>false
def qG:AX->zK
 |.normal=>.ready
 |e=>.done e
def NP(m ex:Nat)(R:List AV->ae->Prop)(e:AX)(_nx:Nat)(_env:Env)(K:ae):Prop:=match aa K 0 with
 |.c8 rc .busy l=>∃rs K',R rs K'/\o9 m ex (aa ((0,.c8 rc (qG e) l)::K)) [.dv (.bool (RH e))] rs K'=true/\
  dT m (aa ((0,.c8 rc (qG e) l)::K)) (aa K') rs [.dv (.bool (RH e))]/\oB m (aa ((0,.c8 rc (qG e) l)::K)) (aa K') K'
 |_=>False
def NQ(P:Program)(T:List TI)(n m ex:Nat)(bd:Code)(R:List AV->ae->Prop)(e:AX)(nx:Nat)(env:Env)(K:ae):Prop:=match e with
 |.normal=>match aa K 0 with
  |.c8 rc .ready l=>fm P T .round n m bd (NP m ex R) nx env ((0,.c8 rc .busy l)::K)
  |_=>False
 |_=>False
section
variable {P:Program} {T:List TI}
theorem AU(hT:fb P T)(hm:P.follows .mixedOrders=true){rc:RC}{l args:List AV}{m ex:Nat}{K:ae}{R:List AV->ae->Prop}(h0:aa K 0=.c8 rc .ready l)
 (fo:(Nat.beq args.length rc.ps.size&&EJ l.length rc.ps.toList&&Nat.blt 0 m&&l9 m K)=true) (h:fm P T .round l.length m rc.as (NQ P T l.length m ex rc.bd R) m (Ad rc.ps.toList args (ru 0 l)) K):
 eC P args m K ex R:=by
 intro w G vs nF cP hr
 simp only[acj]at fo
 obtain⟨⟨⟨TJ,lP⟩,DU⟩,KT⟩:=fo
 have TJ:=abL TJ
 have DU:0<m:=by simpa using DU
 have hb:=cP.box 0
 rw[h0]at hb
 obtain⟨b,fn,tmps,D,lC,hw,jB⟩:=hb
 have aV:tmps.size=l.length:=by have:=jB.1;simp at this;exact this.symm
 have Yh:vs.toArray.size=rc.ps.size:=by rw[List.size_toArray,<-hr.1];exact TJ
 refine⟨b,lC,fn,_,rc.as,rc.bd,w,run_yield hw Yh,roundIn_of_wpIn trivial ?_⟩
 have NR:(rc.ps.zip vs.toArray).foldl (fun tm (pv:Nat×Value)=>tm.setIfInBounds pv.1 pv.2) tmps=(rc.ps.toList.zip vs).foldl (fun tm (pv:Nat×Value)=>tm.setIfInBounds pv.1 pv.2) tmps:=by
  rw[<-Array.foldl_toList,Array.toList_zip]
 have Hz:(rc.ps.zip vs.toArray).foldl (fun tmps (t,a)=>tmps.setIfInBounds t a) tmps=(rc.ps.toList.zip vs).foldl (fun tm (pv:Nat×Value)=>tm.setIfInBounds pv.1 pv.2) tmps:=NR
 let g:dP:=⟨fun b=>∃i,cx G i (aa K i) b,w,G.M,m,G.β,fun i p=>G.H i 0 0 p⟩
 have Hn:∀t,aG G (look (ru 0 l) t) (tmps.getD t undef):=fun t=>by
  have:=uC l 0 t
  rw[Nat.zero_add]at this
  rw[this]
  split
  ·rename_i v hv
   have ht:t<tmps.size:=by rw[aV];exact(abI.1 hv).1
   refine jB.2 t v _ hv ?_
   rw[abS,Array.getElem?_toList,aci ht];rfl
  ·exact .any _
 have ai:cy g l.length (look (Ad rc.ps.toList args (ru 0 l))) (aa K) { tmps:=(rc.ps.toList.zip vs).foldl (fun tm (pv:Nat×Value)=>tm.setIfInBounds pv.1 pv.2) tmps,defers:=[] } w G:=
  {fit:=cP,env:=Cu (fun p hp=>by rw[aV];exact uD lP p hp) hr Hn,size:=by rw[<-aV];exact AT _ _,zL:=fun _ _ _=>rfl,os:=rfl,tape:=rfl,output:=rfl,grow:=acb _,mem:=.refl G.M,nu:=fun _ _ _=>rfl,gB:=fun i b ho=>.inr ⟨i,ho⟩,fe:=fun _ _=>rfl,wz:=fun _ _ _ _ hx=>hx,oK:=nF,tR:=⟨[],rfl,List.nodup_nil,by simp⟩ }
 rw[Hz]
 have cW:∀i,m<=i->aa K i=.none:=fun i hi=>by
  rcases fY (K:=K) (i:=i)with h'|h'
  ·exact h'
  ·have:=c5 KT i (ab9.2 ⟨_,h',rfl⟩);omega
 refine lO (g:=g) (C:=fun _=>True) hT hm (eW P) (fB P) trivial (wide_round b) (r:=.round) (fun h=>by cases h) (m:=m) (acb _) rc.as h ⟨⟨G,ai⟩,acb _,cW⟩ fun e nx abr K1 a1 w1 hq hs=>?_
 cases e with
 |ret=>exact hq.elim
 |exit i=>exact hq.elim
 |normal=>
  simp only[NQ]at hq
  split at hq
  ·rename_i rc1 l1 ph
   obtain⟨⟨G1,st1⟩,dZ,KM⟩:=hs
   have Vn:G1.β 0=some b:=by rw[st1.fe 0 DU];exact lC
   obtain⟨r,Q7,uE,NT,j3,_⟩:=st1.uB ph Vn
   have Vo:=run_beginRound (P:=P) Q7 uE
   have EK:=j3 .busy
   have NU:({ r with state:=zK.busy.st,pending:=zK.busy.zV }:Loop)={ r with state:=.busy }:=by
    have:r.pending=none:=NT
    simp only[zK.st,zK.zV,<-this]
   rw[NU]at EK
   refine⟨_,Vo,?_⟩
   refine lO (g:=g) (C:=fun _=>True) hT hm (eW P) (fB P) trivial (wide_round b) (r:=.round) (fun h=>by cases h) (m:=m) (acb _) rc.bd hq ⟨⟨G1,by rw[fU];exact EK⟩,dZ,fun i hi=>by
    have:m<=nx:=dZ
    rw[fU,ah _ _ (by omega)];exact KM i hi⟩ fun e nx2 abt K2 a2 w2 hq hs=>?_
   simp only[NP]at hq
   split at hq
   ·rename_i rc2 l2 K4
    obtain⟨rs,K3,hR,fT,hsV,Jx⟩:=hq
    obtain⟨⟨G2,st2⟩,_,_⟩:=hs
    have wY:G2.β 0=some b:=by rw[st2.fe 0 DU];exact lC
    obtain⟨r2,TK,_,_,NV,_⟩:=st2.uB K4 wY
    have ED:=NV (qG e)
    rw[<-fU]at ED
    simp only[o9,acj]at fT
    obtain⟨⟨⟨EA,Nx⟩,dQ⟩,oj⟩:=fT
    obtain⟨G3,_,KB,j6⟩:=ED.sub (m:=m) (acb _) (F:=dh (aa ((0,.c8 rc2 (qG e) l2)::K2)) rs [.dv (.bool (RH e))]++dG (aa ((0,.c8 rc2 (qG e) l2)::K2)) K3) EA (fun i hi=>abQ.2 (.inr hi)) dQ oj Jx
    have aH:=KB rs [.dv (.bool (RH e))] [.bool (RH e)] hsV Nx (fun i hi=>abQ.2 (.inl hi)) ⟨rfl,fun j d v hd hv=>by
     cases j with
     |zero=>simp at hd hv;subst hd;subst hv;exact .dv (.bool _)
     |succ j=>simp at hd⟩
    have NW:=j6 (fun _=>.any) (fun _=>.any _)
    have fin:∃v rs K' G',Ending.returned (.bool (RH e))=.returned v/\R rs K'/\KU m ex (aa K) w G rs (aa K') (w2.putObj b (.loop { r2 with state:=(qG e).st,pending:=(qG e).zV })) G' v:=by
     refine⟨_,rs,K3,G3,rfl,hR,⟨NW.fit,fun i hi=>mD EA hi,?_,NW.mem,NW.fe,NW.wz,fun b hb hO=>⟨NW.zL b hb (fun⟨i,h⟩=>hO i h),NW.nu b hb (fun⟨i,h⟩=>hO i h)⟩,NW.gB,NW.os,NW.tape,NW.output,NW.grow⟩⟩
     match rs,aH with
     |[d],aH=>exact aH.2 0 d _ rfl rfl
     |[],aH=>have:=aH.1;simp at this
     |_::_::_,aH=>have:=aH.1;simp at this
    have gu:=run_endRound (P:=P) (nt e) TK
    cases e with
    |normal=>exact⟨_,_,gu,fin⟩
    |ret=>exact⟨_,_,gu,fin⟩
    |exit i=>exact⟨_,_,gu,fin⟩
   ·exact hq.elim
  ·exact hq.elim
end
end
end Go.TM
