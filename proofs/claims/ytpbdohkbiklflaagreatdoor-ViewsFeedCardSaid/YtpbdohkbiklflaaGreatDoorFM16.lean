import Derived.Test.YtpbdohkbiklflaaGreatDoorFM15
import Derived.WideKeyRuns
import Derived.Laws.StructEq
set_option linter.unusedVariables false
set_option linter.unusedSimpArgs false
set_option linter.unusedSectionVars false
namespace Go.TM
open Go.RowKit
variable [cu]
theorem vD:∀{s k i:Nat},s≤i→i<s+k→i∈ly s k
 | s,0,i,h1,h2=>by omega
 | s,k+1,i,h1,h2=>by
  simp only [ly,List.mem_cons]
  by_cases e:i=s
  ·exact .inl e
  ·exact .inr (vD (by omega) (by omega))
def tY (I:Inv):Prop:=∀β vs w (R R':Ending→World→Prop),(∀e w,R e w→R' e w)→I β vs w R→I β vs w R'
theorem jB (P:Program) (f:Nat):tY (Ge P f):=fun _ _ _ _ _ h hc=>Calls.mono hc h
theorem Eh (P:Program):tY (Gf P):=by
 intro β vs w R R' h hc
 obtain ⟨l,h1,fn,tmps,assign,body,w1,h2,h3⟩:=hc
 exact ⟨l,h1,fn,tmps,assign,body,w1,h2,RoundIn.mono h3 h⟩
theorem HB {i nx:Nat} {σ:List Nat} (h:HC (some i) σ=true):0<σ.length∧sg σ nx 0=i:=by
 cases σ with
 | nil=>simp [HC] at h
 | cons x r =>
  simp only [HC] at h
  exact ⟨by simp,(Nat.eq_of_beq_eq_true h).symm⟩
section
variable {P:Program} {C:dw→Prop} {T:List TI} {ops:List Oper} {n:Nat} {o:Oper} {nx:Nat} {ρ:Nat→AV} {κ:Nat→ao} {k:jo→Nat→Prop} {gd:Bool}
def JR (P:Program) (ops:List Oper) (n:Nat) (o:Oper) (ρ:Nat→AV) (κ:Nat→ao) (gd:Bool) (hd:Option Nat) (C:dw→Prop) (m:Nat) (I:Inv) (l:List AV):Prop :=
 ∀ρ' κ' rd bx,Bd ops o ρ ρ' κ κ' rd bx→∀(g:dw) (a:Act) (w:World) (G:Gh),C g→bX g n ρ' κ' a w G→gd=true →
  ∃vs:List Value,bR G l vs∧∀F,fU F→∀β:Nat→Option Nat,(∀i,hd=some i→β 0=G.β i)→∀K:Act→World→Prop,
   I β vs w (fun e w'=>∃v,e=.returned v∧K (a.put o.dst v) w')→o.wpIn F 0 P a w K (fun _ _ _=>False)
theorem lz {hd:Option Nat} {I:Inv} {l:List AV} {σ:List Nat} {ck:List AV} {K0:ah} {ex:Nat} {R:List AV→ah→Prop} (hI:tY I) (cL:zX I ck σ.length K0 ex R)
  (hn:∀i,nx≤i→κ i=.none) (eQ:(gV κ σ nx l ck K0 && HC hd σ)=true) (PQ:ef 0 κ (aa (bU (sg σ nx) dA K0)) (dE (sg σ nx) dA ck) l) (IV:pc 0 κ (aa (bU (sg σ nx) dA K0)) (bU (sg σ nx) dA K0))
  (gm:∀rs K1,R rs K1→gk σ ex K0 K1 rs=true) (bD:∀j,j<σ.length→(aa K0 j).pass=true)
  {ρ':Nat→AV} {κ':Nat→ao} {g:dw} {a:Act} {w:World} {G:Gh} (dg:g.m≤nx) (aj:bX g n ρ' κ' a w G) {vs:List Value} (dt:bR G l vs)
  (au:∀i,i∈σ++(dz κ (dE (sg σ nx) dA ck) l++eg κ (bU (sg σ nx) dA K0))++ly nx ex→κ' i=κ i) :
  ∃β:Nat→Option Nat,(∀i,hd=some i→β 0=G.β i)∧I β vs w fun e w2=>∃v rs K1 G3,e=.returned v∧R rs K1 ∧
   bX g n ρ' (aw κ' (bU (sg σ nx) (jw κ σ) K1++jS κ (dz κ (dE (sg σ nx) dA ck) l++eg κ (bU (sg σ nx) dA K0)))) a w2 G3∧aE G3 (ld (sg σ nx) (jw κ σ) (ia rs)) v:=by
 simp only [Bool.and_eq_true] at eQ
 obtain ⟨eQ,Hv⟩:=eQ
 simp only [gV,Bool.and_eq_true] at eQ
 obtain ⟨⟨⟨⟨⟨⟨U5,Ed⟩,R7⟩,X3⟩,R8⟩,U6⟩,fy⟩:=eQ
 obtain ⟨hσ1,hσ2⟩:=gP U5
 have dr:=JK (nx:=nx) hσ1 hσ2
 have BS:∀j (h:j<σ.length),sg σ nx j∈σ:=fun j h=>by rw [iJ h]; exact List.getElem_mem h
 simp only [bh.wf,Bool.and_eq_true] at R7 R8
 have On:∀j,j<σ.length→(aa K0 j).fA=false:=fun j hj=>by
  have:=bD j hj
  cases h:aa K0 j <;> rw [h] at this <;> first | rfl | cases this
 have R9:∀j,j∈keys K0→∀a b c d e,aa K0 j ≠ .jb a b c d e:=fun j hj a b c d e h=>by
  have:=bD j (c9 Ed j hj)
  rw [h] at this; cases this
 have Sa:∀j,j∈keys K0→aa K0 j ≠ .held:=fun j hj h=>by
  have:=bD j (c9 Ed j hj)
  rw [h] at this; cases this
 have JS:∀j,j<σ.length→j∈keys K0:=fun j hj=>by
  refine Classical.byContradiction fun hn=>?_
  have:=On j hj; rw [fM hn] at this; cases this
 have Sb:∀j,aa (bU (sg σ nx) dA K0) (sg σ nx j)=if j∈keys K0 then qv (sg σ nx) dA j (aa K0 j) else .none:=fun j=>by
  rw [fC (bU (sg σ nx) dA K0)]; exact n7 dr _ K0 j
 have PR:∀j,j<σ.length→(aa (bU (sg σ nx) dA K0) (sg σ nx j)).fA=false:=fun j hj=>by
  rw [Sb,if_pos (JS j hj)]
  cases aa K0 j <;> rfl
 have U7:∀i,(aa (bU (sg σ nx) dA K0) i).fA=false→i∈σ:=fun i hi=>by
  rcases fJ (K:=bU (sg σ nx) dA K0) (i:=i) with h | h
  ·rw [h] at hi; cases hi
  ·obtain ⟨j,h1,rfl⟩:=kE h
   exact BS j (c9 Ed j h1)
 have auσ:∀i,i∈σ→κ' i=κ i:=fun i hi=>au i (List.mem_append.2 (.inl (List.mem_append.2 (.inl hi))))
 have MC:∀i,i∈dz κ (dE (sg σ nx) dA ck) l++eg κ (bU (sg σ nx) dA K0)→κ' i=κ i:=fun i hi=>au i (List.mem_append.2 (.inl (List.mem_append.2 (.inr hi))))
 have U8:∀i,nx≤i→i<nx+ex→κ' i=.none:=fun i h1 h2=>(au i (List.mem_append.2 (.inr (vD h1 h2)))).trans (hn i h1)
 generalize WG:dz κ (dE (sg σ nx) dA ck) l++eg κ (bU (sg σ nx) dA K0)=F at *
 obtain ⟨G1,f1,f2,f3,f4,mw⟩:=aj.nV (κ:=κ) F MC
 have hs:∀i,BK 0 κ (aa (bU (sg σ nx) dA K0)) F i:=by
  intro i
  rcases fJ (K:=bU (sg σ nx) dA K0) (i:=i) with h | h
  ·unfold BK; rw [h]; exact ⟨tv,rfl,by simp [sY]⟩
  ·exact ⟨(kC IV i _ h).1,(qq R8.1 i _ h).2,fun j hj=>by rw [←WG]; exact List.mem_append.2 (.inr ((kC IV i _ h).2 j hj))⟩
 obtain ⟨Sc,PT⟩:=Oh (m:=0) (κ:=κ) (κc:=κ') aj.fit f1 f2 f3 f4 MC (fun i hi=>auσ i (U7 i hi)) mw.fit fy hs
 have bM:=(mR (m:=0) (κ:=κ) (κ':=aa (bU (sg σ nx) dA K0)) (w:=w) f1 f2 f3 MC mw.fit (SizeOf.sizeOf (dE (sg σ nx) dA ck)+1)).2 _ l vs (by omega) PQ U6 (fun i hi=>by rw [←WG]; exact List.mem_append.2 (.inl hi)) dt
 obtain ⟨Sd,s9⟩:=MB dr Sc (fun j hj h=>by have:=On j (c9 Ed j hj); rw [h] at this; cases this) R9 Sa (fun j c hc=>by
  rcases fJ (K:=K0) (i:=j) with h | h
  ·rw [h] at hc; cases hc
  ·have:=(qq R7.1 j _ h).2
   rw [hc] at this
   simp only [ao.Rm,Bool.and_eq_true] at this
   exact this.2)
 have PU:=(JL (r:=sg σ nx) (SizeOf.sizeOf ck+1)).2 ck vs (by omega) bM
 have hβ0:∀j,j<σ.length→(pull (sg σ nx) (dy 0 κ (aa (bU (sg σ nx) dA K0)) G1)).β j=G1.β (sg σ nx j):=fun j hj=>by
  simp only [pull,dy,reβ,PR j hj]
 refine ⟨(pull (sg σ nx) (dy 0 κ (aa (bU (sg σ nx) dA K0)) G1)).β,fun i hi=>?_,hI _ _ _ _ _ ?_ (cL w _ vs (aj.ou.mono (aj.mem.trans f1.mem)) Sd PU)⟩
 ·subst hi
  obtain ⟨h1,h2⟩:=HB (nx:=nx) Hv
  rw [hβ0 0 h1,f2,h2]
 ·rintro e w2 ⟨v,rs,K1,G2,rfl,WH,hC⟩
  have hκ1:=mT (κ:=κ) (κ':=κ') (ids:=F) MC
  obtain ⟨t1,t2,t3⟩:=Hz (κ:=κ) (κ1:=aw κ' (jS κ F)) (G1:=G1) (nx:=nx) hσ1 hσ2 (fun i h1 h2=>by
    rw [hκ1,hn i h1,U8 i h1 h2]; simp [ao.dQ]) mw.fit
   (fun i hi V E d hk=>by
    have hb:=aj.fit.box i
    rw [auσ i hi,hk] at hb
    rw [f3]; exact ⟨hb.2.2.1,hb.2.2.2⟩)
   (fun i hi hk v e p=>by
    have hb:=aj.fit.box i
    rw [auσ i hi,hk] at hb
    rw [f3]; exact hb.2 v e p)
   (fun j hj V E d hk=>by
    have dm:=PR j hj
    have hz:iz 0 (sg σ nx j) V E=(0,0):=tT (by omega)
    have key:∀p,aB (tS 0 κ (aa (bU (sg σ nx) dA K0)) G1.H) (sg σ nx j) 0 0 p=aB G1.H (sg σ nx j) V E p:=fun p=>by
     have:=mQ (m:=0) (H:=G1.H) hk dm p
     rw [hz] at this; exact this
    refine ⟨fun x hx=>?_,fun s q x hx=>?_⟩
    ·have:=key []; simp only [aB] at this; simp only [pull,dy]; rw [this]; exact hx
    ·have:=key (s::q); simp only [aB] at this; simp only [pull,dy]; rw [this]; exact hx)
   (fun j hj V d hk=>by
    have hb:=mw.fit.box (sg σ nx j)
    have HD:aw κ' (jS κ F) (sg σ nx j)=.fz V d:=by rw [hκ1,auσ _ (BS j hj),hk]; simp [ao.dQ]
    rw [HD] at hb
    obtain ⟨x,h1,_⟩:=hb
    refine ⟨x,h1,?_⟩
    simp only [pull,dy,tS,PR j hj,hk]
    have:=(jv 0 (G1.H (sg σ nx j)) (sg σ nx j) V 0 (.el 0 0) []).1
    rw [tT (by omega)] at this
    rw [this]; exact h1)
   hβ0 rfl
   (fun j b ho=>by
    obtain ⟨h1,h2⟩:=s9 j b ho
    exact ⟨c9 Ed j h1,PT _ b h2⟩)
   (fun j hj=>by
    obtain ⟨hx,_,_⟩:=hs (sg σ nx j)
    rw [Sb,if_pos (JS j hj)] at hx
    refine ⟨fun v e d h0=>?_,fun v d h0=>?_⟩
    ·rw [h0] at hx
     cases hk:κ (sg σ nx j) with
     | tree V E d=>exact .inl ⟨_,_,_,rfl⟩
     | none=>exact .inr rfl
     | _=>rw [hk] at hx; exact hx.elim
    ·rw [h0] at hx
     cases hk:κ (sg σ nx j) with
     | tree V E d=>exact .inl ⟨_,_,_,rfl⟩
     | fz V d=>exact .inr ⟨_,_,rfl⟩
     | _=>rw [hk] at hx; exact hx.elim)
   (gm rs K1 WH) hC
  have Gg:=mw.oY t1 (fun i hi=>t2 i (by omega))
  refine ⟨v,rs,K1,_,rfl,WH,Gg.congr ?_,t3⟩
  rw [s7]
theorem yi {hd:Option Nat} {S:List AV→Nat→ah→Nat→(List AV→ah→Prop)→Prop} {I:Nat→Inv} {ok:Nat→Prop} {l:List AV} (hS:∀args m K ex R,S args m K ex R→ok m∧zX (I m) args m K ex R) (hI:∀m,tY (I m)) (c6:∀c,o.op ≠ .defer c)
  (hn:∀i,nx≤i→κ i=.none) (hg:bK ρ ops o.guard=some gd) (bs:∀m,ok m→JR P ops n o ρ κ gd hd C m (I m) l) (h:kg hd S n o gd nx κ k l):Good P C ops n o nx ρ κ k:=by
 obtain ⟨σ,ck,K0,ex,rs,K1,cL,eQ,gm,PQ,IV,hk⟩:=h
 rw [(eV (SizeOf.sizeOf (ld (sg σ nx) (jw κ σ) (ia rs))+1)).1 _ _ (by omega),vE,kG,qx] at hk
 have Oo:=gm
 simp only [gk,Bool.and_eq_true] at Oo
 obtain ⟨⟨⟨ec,Ei⟩,_⟩,_⟩:=Oo
 have hσ1:∀i,i∈σ→i<nx:=by
  have:=eQ
  simp only [gV,Bool.and_eq_true] at this
  exact (gP this.1.1.1.1.1.1.1).1
 have dJ:∀p,p∈bU (sg σ nx) (jw κ σ) K1++jS κ (dz κ (dE (sg σ nx) dA ck) l++eg κ (bU (sg σ nx) dA K0))→p.1<nx+ex:=by
  intro p hp
  rcases List.mem_append.1 hp with hp | hp
  ·obtain ⟨j,h1,h2⟩:=kE (i:=p.1) (b:=p.2) hp
   have hj:=c9 Ei j h1
   rw [h2]
   rcases Nat.lt_or_ge j σ.length with aK | dk
   ·have:=hσ1 _ (by rw [iJ aK]; exact List.getElem_mem aK:sg σ nx j∈σ); omega
   ·rw [ie dk]; omega
  ·have:=rC hn hp; omega
 refine BT c6 hg hk (Nat.le_add_right _ _) dJ fun ρ' κ' au Fn hF g a w G dg aj aM K hK=>?_
 obtain ⟨vs,dt,jZ⟩:=bs σ.length (hS _ _ _ _ _ cL).1 ρ' κ' _ _ au g a w G dg.2 aj aM
 obtain ⟨β,hβ,bc⟩:=lz (hd:=hd) (hI _) (hS _ _ _ _ _ cL).2 hn eQ PQ IV (fun pa X4 hR=>by obtain ⟨rfl,rfl⟩:=hR; exact gm) (fun j hj=>by
  rcases ig ec j hj with ⟨_,_,h,_⟩ | ⟨_,_,_,_,_,_,h,_⟩ | ⟨_,_,_,h,_⟩ | ⟨_,_,_,h,_⟩ <;> rw [h] <;> rfl) dg.1 aj dt au.reads
 refine jZ Fn hF β hβ K (hI _ _ _ _ _ _ ?_ bc)
 rintro e w2 ⟨v,pa,X4,G3,rfl,⟨rfl,rfl⟩,h1,h2⟩
 exact ⟨v,rfl,hK v w2 G3 h1 h2⟩
theorem vF {f:Nat} {l:List AV} (bs:rz P ops o ρ κ gd f l) (hc:hJ P f) (m:Nat):JR P ops n o ρ κ gd none C m (Ge P f) l:=by
 intro ρ' κ' rd bx au g a w G _ aj aM
 obtain ⟨vs,bc,dt⟩:=bs.2 ρ' κ' rd bx au g n a w G aj aM hc
 exact ⟨vs,dt,fun F hF β _ K hI=>rA hF bs.1 bc hI⟩
theorem BU {c:Call} {t i:Nat} {l:List AV} (ho:o.op=.call c) (hc:c.callee=.value (.tmp t)) (hv:bo ρ κ gd (.tmp t) (.fw i)) (bs:jY ρ κ gd c.args.toList l) (m:Nat):JR P ops n o ρ κ gd (some i) C m (Gf P) l:=by
 intro ρ' κ' rd bx au g a w G _ aj aM
 have dt:=jY.rel aj aM bs (fun x hx=>au.op (by rw [ho]; simp only [Op.operands,Call.operands,hc]; exact Array.mem_append.2 (.inr (by simpa using hx))))
 have uM:=hv ρ' κ' (au.op (by rw [ho]; simp only [Op.operands,Call.operands,hc]; exact Array.mem_append.2 (.inl (by simp)))) g n a w G aj aM
 have bM:(List.map a.eval c.args.toList).toArray=c.args.map a.eval:=by rw [←Array.toList_map,Array.toArray_toList]
 generalize hx:a.eval (.tmp t)=x at uM
 cases uM with | fw _ b hb =>
 refine ⟨_,dt,fun F hF β hβ K hI=>?_⟩
 obtain ⟨l',h1,fn,tmps,assign,body,w1,h2,h3⟩:=hI
 rw [hβ i rfl,hb] at h1
 injection h1 with h1
 subst h1
 rw [bM] at h2
 have bc:(execOp a.eval o).run P w=.ok (.round b fn tmps assign body) w1:=by
  rw [←h2]
  simp [execOp,ho,resolve,hc,hx,Deferred.ofValue,invoke]
 refine ⟨fun f _=>hF.fn f,?_⟩
 rw [Oper.semAt_plain F _ _ (fun c=>by rw [ho]; simp),bc,Oper.uponIn_round]
 refine ⟨fun h=>(by rw [hF.depth] at h; cases h),hF.round.2 (RoundIn.mono h3 ?_)⟩
 rintro e w' ⟨v,rfl,hk⟩
 exact hk
theorem aq (P:Program):cV P (fun _=>True):=by
 intro ops n o nx ρ κ k hn
 refine ⟨fun {gd f l} hg bs h=>?_,fun hg ho hc hv bs h=>?_⟩
 ·have TR:hJ P f:=by obtain ⟨_,_,_,_,_,_,cL,_⟩:=h; exact cL.1
  exact yi (I:=fun _=>Ge P f) (ok:=fun _=>True) (fun _ _ _ _ _ hs=>⟨tv,hs.2⟩) (fun _=>jB P _) bs.1 hn hg (fun m _=>vF bs TR m) h
 ·exact yi (I:=fun _=>Gf P) (ok:=fun _=>True) (fun _ _ _ _ _ hs=>⟨tv,hs⟩) (fun _=>Eh P) (fun c=>by rw [ho]; simp) hn hg (fun m _=>BU ho hc hv bs m) h
end
end Go.TM
namespace Go.TM
open Go.RowKit
variable [cu]
section
variable {P:Program} {C:dw→Prop} {T:List TI}
theorem vG {kt:Nat} {d:TypeDesc} {s:KS} (hd:P.underlying kt=some d) (h:∀k v,s.ok k=true→bA k=some v→MapKept.IsKey d v):rR P kt s where
 check w em v:=fun ⟨k,h1,h2⟩=>MapKept.run_checkKey hd (h k v h1 h2) em 9999
 find w x:=fun ⟨k,h1,h2⟩ es tV=>by
  rcases MapKept.findNow_spec (h k x h1 h2) es 0 (fun e he=>let ⟨k',R2,DL⟩:=tV e he; h k' _ R2 DL) with ⟨q1,q2⟩ | ⟨j,e,q1,q2,q3⟩
  ·exact .inl ⟨MapKept.run_findKey hd q1,q2⟩
  ·exact .inr ⟨j,e,by simpa using MapKept.run_findKey (P:=P) (w:=w) hd q1,q2,q3⟩
 stays w v:=fun ⟨k,h1,h2⟩=>MapKept.run_keyThatStays (h k v h1 h2)
def HE:KS:=⟨false,[.int .i64]⟩
def PV:KS:=⟨false,[.str]⟩
theorem BV (hT:ed P T) {kt:Nat} (h:((nth T kt).ok && (nth T kt).DN == some .i64)=true):rR P kt HE:=by
 simp only [Bool.and_eq_true,beq_iff_eq] at h
 obtain ⟨i,u,z,tf⟩:=hT.facts h.1
 have hu:u=.int .i64:=by
  have:=tf.DN
  rw [h.2] at this
  cases u <;> simp [Bp] at this
  rw [this]
 refine vG (d:=.int .i64) (by rw [tf.x6,hu]) fun k v hk hv=>?_
 cases k <;> simp [KS.ok,HE,pV] at hk
 subst hk
 simp [bA,DV.val?] at hv
 subst hv
 rfl
theorem JT (hT:ed P T) {kt:Nat} (h:((nth T kt).ok && (nth T kt).isStr)=true):rR P kt PV:=by
 simp only [Bool.and_eq_true] at h
 obtain ⟨i,u,z,tf⟩:=hT.facts h.1
 refine vG (d:=.string) (tf.string h.2) fun k v hk hv=>?_
 cases k <;> simp [KS.ok,PV,pV] at hk
 simp [bA,DV.val?] at hv
 subst hv
 trivial
def eh:KS:=⟨true,[.int .i64,.int .i64]⟩
theorem HF {k:DV} {v:Value} (h:eh.ok k=true) (hv:bA k=some v):∃a b:Int,v=.agg #[.int .i64 a,.int .i64 b]:=by
 cases k with
 | agg l =>
  match l,h with
  | [x,y],h =>
   cases x <;> simp [KS.ok,eh,jn,pV] at h
   cases y <;> simp [pV] at h
   obtain ⟨rfl,rfl⟩:=h
   simp [bA,DV.fH,DV.val?] at hv
   exact ⟨_,_,hv.symm⟩
  | [],h=>simp [KS.ok,eh,jn] at h
  | [_],h=>simp [KS.ok,eh,jn] at h
  | _::_::_::_,h=>simp [KS.ok,eh,jn] at h
 | _=>simp [KS.ok,eh] at h
theorem qy {t:Option TypeDesc} (h:yj t=true):t=some (.int .i64):=by
 cases t with
 | none=>simp [yj] at h
 | some d=>cases d <;> simp [yj] at h; rename_i k; cases k <;> simp [yj] at h; rfl
theorem eC {w:World} {e:TypeId} (he:P.underlying e=some (.int .i64)) {xs:Array Value} {off:Nat} {v:Value} (hx:xs[off]?=some v):(part e xs off).run P w=.ok v w:=by
 simp [part,isAgg,run_underlying he,hx]
theorem Ej {kt:Nat} {fs:Array Field} (hu:P.underlying kt=some (.struct fs)) (hp:BW P fs.toList=true) (hs:P.stoodInHeld kt=false) (w:World) (a b c d:Int) :
  (Op.equal kt (.agg #[.int .i64 a,.int .i64 b]) (.agg #[.int .i64 c,.int .i64 d])).run P w=.ok (a == c && b == d) w:=by
 have hf:P.fieldsOf kt=fs:=by simp [Program.fieldsOf,hu]
 have key:∀D,(Op.equalIn (D+2) kt (.agg #[.int .i64 a,.int .i64 b]) (.agg #[.int .i64 c,.int .i64 d])).run P w=.ok (a == c && b == d) w:=by
  intro D
  rw [run_equalIn_struct w (D+1) kt _ _ (by rw [hf]; exact hu) hs,hf]
  match hl:fs.toList,hp with
  | [x,y],hp =>
   simp only [hl,BW,Bool.and_eq_true,bne_iff_ne] at hp
   obtain ⟨⟨⟨⟨⟨n1,n2⟩,o1⟩,o2⟩,i1⟩,i2⟩:=hp
   have o1:=Nat.eq_of_beq_eq_true o1
   have o2:=Nat.eq_of_beq_eq_true o2
   have i1:=qy i1
   have i2:=qy i2
   simp only [Op.eqFields,n1,n2,ne_eq,not_false_eq_true,if_true,Sem.run_bind,o1,o2]
   rw [eC (v:=.int .i64 a) i1 (by simp)]
   simp only [Result.andThen_ok]
   rw [eC (v:=.int .i64 c) i1 (by simp)]
   simp only [Result.andThen_ok]
   rw [run_equalIn_int w D x.type .i64 .i64 a c i1]
   simp only [Result.andThen_ok]
   cases Rr:a == c with
   | false=>simp
   | true =>
    simp only [Bool.not_true,Bool.false_eq_true,if_false,Sem.run_bind]
    rw [eC (v:=.int .i64 b) i2 (by simp)]
    simp only [Result.andThen_ok]
    rw [eC (v:=.int .i64 d) i2 (by simp)]
    simp only [Result.andThen_ok]
    rw [run_equalIn_int w D y.type .i64 .i64 b d i2]
    simp only [Result.andThen_ok]
    cases Hl:b == d <;> simp
 simp only [Op.equal,Op.maxDepth,key 9998]
theorem yk (hT:ed P T) {kt:Nat} (h:((nth T kt).ok && (nth T kt).pair)=true):rR P kt eh:=by
 simp only [Bool.and_eq_true] at h
 obtain ⟨i,u,z,tf⟩:=hT.facts h.1
 have hp:=tf.pair
 rw [h.2] at hp
 have hp:=hp.symm
 simp only [Bool.and_eq_true,Bool.not_eq_true'] at hp
 obtain ⟨fs,rfl⟩:∃fs,u=.struct fs:=by
  cases u <;> simp [Ek] at hp
  exact ⟨_,rfl⟩
 have hl:BW P fs.toList=true:=hp.1
 have hu:=tf.x6
 have hv:∀{v:Value},(∃d,eh.ok d=true∧bA d=some v)→∃a b:Int,v=.agg #[.int .i64 a,.int .i64 b]:=fun ⟨d,h1,h2⟩=>HF h1 h2
 refine ⟨fun w em v hk=>?_,fun w x hx es tV=>?_,fun w v hk=>?_⟩
 ·obtain ⟨a,b,rfl⟩:=hv hk
  have key:∀D,(Instr.checkKey em (D+2) kt (.agg #[.int .i64 a,.int .i64 b])).run P w=.ok () w:=by
   intro D
   match hf:fs,hl with
   | ⟨[x,y]⟩,hl =>
    simp only [BW,Bool.and_eq_true,bne_iff_ne] at hl
    obtain ⟨⟨⟨⟨⟨n1,n2⟩,o1⟩,o2⟩,i1⟩,i2⟩:=hl
    have o1:=Nat.eq_of_beq_eq_true o1
    have o2:=Nat.eq_of_beq_eq_true o2
    have i1:=qy i1
    have i2:=qy i2
    have c1:∀(E:Nat) (n:Int),(Instr.checkKey em (E+1) x.type (.int .i64 n)).run P w=.ok () w:=fun E n=>by simp [Instr.checkKey,run_underlying i1]
    have c2:∀(E:Nat) (n:Int),(Instr.checkKey em (E+1) y.type (.int .i64 n)).run P w=.ok () w:=fun E n=>by simp [Instr.checkKey,run_underlying i2]
    rw [Instr.checkKey]
    simp only [Sem.run_bind,run_underlying hu,Result.andThen_ok]
    simp [n1,n2,o1,o2,eC (v:=.int .i64 a) i1,eC (v:=.int .i64 b) i2,c1,c2]
  exact key 9998
 ·have hw:(match P.underlying kt with | some (.array _ _) | some (.struct _)=>true | _=>false)=true:=by rw [hu]
  obtain ⟨a,b,rfl⟩:=hv hx
  have key:∀(es:List MapEntry) (i:Nat),(∀e,e∈es→∃d,eh.ok d=true∧bA d=some e.key) →
    ((Instr.findAsking kt (.agg #[.int .i64 a,.int .i64 b]) es i).run P w=.ok none w∧∀e,e∈es→e.key ≠ .agg #[.int .i64 a,.int .i64 b]) ∨
    ∃j e,(Instr.findAsking kt (.agg #[.int .i64 a,.int .i64 b]) es i).run P w=.ok (some (i+j,e.val)) w∧es[j]?=some e∧e.key=.agg #[.int .i64 a,.int .i64 b]:=by
   intro es
   induction es with
   | nil=>intro i _; exact .inl ⟨by simp [Instr.findAsking],by simp⟩
   | cons e r ih =>
    intro i tV
    obtain ⟨c,d,hk⟩:=hv (tV e (by simp))
    have heq:=Ej hu hl hp.2 w a b c d
    rw [←hk] at heq
    cases hb:(a == c && b == d) with
    | true =>
     rw [hb] at heq
     simp only [Bool.and_eq_true,beq_iff_eq] at hb
     refine .inr ⟨0,e,?_,rfl,by rw [hk,hb.1,hb.2]⟩
     simp only [Instr.findAsking,Sem.run_bind,heq,Result.andThen_ok,if_true,Sem.run_pure,Nat.add_zero]
    | false =>
     rw [hb] at heq
     have bD:e.key ≠ .agg #[.int .i64 a,.int .i64 b]:=by
      rw [hk]
      intro e'
      simp only [Value.agg.injEq,Array.mk.injEq,List.cons.injEq,Value.int.injEq,true_and,and_true] at e'
      obtain ⟨rfl,rfl⟩:=e'
      simp at hb
     have bc:(Instr.findAsking kt (.agg #[.int .i64 a,.int .i64 b]) (e::r) i).run P w=(Instr.findAsking kt (.agg #[.int .i64 a,.int .i64 b]) r (i+1)).run P w:=by
      simp only [Instr.findAsking,Sem.run_bind,heq,Result.andThen_ok,Bool.false_eq_true,if_false]
     rcases ih (i+1) (fun e he=>tV e (by simp [he])) with ⟨q1,q2⟩ | ⟨j,e',q1,q2,q3⟩
     ·exact .inl ⟨bc.trans q1,fun e0 MD=>by rcases List.mem_cons.1 MD with rfl | MD; exact bD; exact q2 _ MD⟩
     ·exact .inr ⟨j+1,e',by rw [bc,q1]; congr 3; omega,by simpa using q2,q3⟩
  rw [run_findKey_eq w hw]
  rcases key es 0 tV with h1 | ⟨j,e,q1,q2,q3⟩
  ·exact .inl h1
  ·exact .inr ⟨j,e,by simpa using q1,q2,q3⟩
 ·obtain ⟨a,b,rfl⟩:=hv hk
  have:Instr.sameBits 10000 (.agg #[.int .i64 a,.int .i64 b]) (.agg #[.int .i64 a,.int .i64 b])=true:=by simp [Instr.sameBits]
  simp [Instr.keyThatStays,this]
end
end Go.TM
namespace Go.TM
open Go.RowKit
variable [cu]
theorem qz (ρ:Nat→AV):∀(k s:Nat),(bt ρ s k).length=k
 | 0,_=>rfl
 | k+1,s=>by simp [bt,qz ρ k]
theorem yl (ρ:Nat→AV):∀(k s j:Nat) (v:AV),(bt ρ s k)[j]?=some v→v=ρ (s+j)
 | 0,_,j,v,h=>by simp [bt] at h
 | k+1,s,0,v,h=>by simp [bt] at h; exact h.symm
 | k+1,s,j+1,v,h=>by
  simp only [bt,List.getElem?_cons_succ] at h
  rw [yl ρ k (s+1) j v h,Nat.add_right_comm,Nat.add_assoc]
section
variable {g:dw} {n:Nat} {ρ:Nat→AV} {κ:Nat→ao} {a:Act} {w:World} {G:Gh}
theorem bX.JU (h:bX g n ρ κ a w G) {i b:Nat} {o:Obj} {bx:ao} (gG:bI G i (κ i) b) (Se:∀c,bI G i bx c→c=b) (rQ:fI G (w.putObj b o) i bx) :
  bX g n ρ (gC κ i bx) a (w.putObj b o) G:=by
 have aK:b<w.heap.size:=gG.lt h.fit
 have WI:G.M b=none:=h.fit.own i b gG
 refine h.oY (C:=fun j=>j=i) ⟨.refl G,fun _ _=>rfl,fun j hj=>ae _ _ hj,fun _ _=>⟨fun _ q=>q,fun _ _ _ _ q=>q⟩,fun c hc dm=>⟨eU _ _ (fun e=>dm i rfl (by rw [e]; exact gG)),rfl⟩,fun c o' hc=>?_,?_,?_,fun _ _ _ h1 h2 _ _=>h1.trans h2.symm,by rw [putObj_size]; exact Nat.le_refl _,rfl,rfl,rfl⟩ (fun _ _=>rfl)
 ·rw [eU _ _ (fun e=>by rw [e,WI] at hc; cases hc)]; exact h.fit.sub c o' hc
 ·rintro j rfl
  rw [aX]; exact rQ
 ·rintro j c rfl ho
  rw [aX] at ho
  have:=Se c ho
  subst this
  exact ⟨.inr ⟨j,rfl,gG⟩,WI⟩
theorem bX.zY (h:bX g n ρ κ a w G) {i b:Nat} {rc:RC} {st:Bc} {l:List AV} (hi:κ i=.eA rc st l) (hb:G.β i=some b) :
  ∃r:Loop,w.heap[b]?=some (.loop r)∧r.state=st.st∧r.pending=st.DK∧(∀Ol:Bc,bX g n ρ (gC κ i (.eA rc Ol l)) a (w.putObj b (.loop { r with state:=Ol.st,pending:=Ol.DK })) G) ∧
   ∀o,bX g n ρ (gC κ i .dead) a (w.putObj b o) G:=by
 have hx:=h.fit.box i
 rw [hi] at hx
 obtain ⟨b',fn,tmps,D,h1,h2,h3⟩:=hx
 rw [hb] at h1; injection h1 with h1; subst h1
 have aK:b<w.heap.size:=(Array.getElem?_eq_some_iff.1 h2).1
 have gG:bI G i (κ i) b:=by rw [hi]; exact hb
 refine ⟨_,h2,rfl,rfl,fun Ol=>h.JU gG (fun c hc=>?_) ⟨b,fn,tmps,D,hb,World.putObj_heap_same aK,h3⟩,fun o=>h.JU gG (fun c hc=>hc.elim) trivial⟩
 have mu:G.β i=some c:=hc
 rw [hb] at mu; injection mu with mu; exact mu.symm
def dw.upto (g:dw) (m:Nat) (β:Nat→Option Nat):dw:={ g with m:=m,β:=β,H:=fun i p=>if i<g.m then g.H i p else none }
theorem bX.upto (h:bX g n ρ κ a w G) (m:Nat):bX (g.upto m G.β) n ρ κ a w G:=by
 refine ⟨h.fit,h.env,h.size,h.x3,h.os,h.tape,h.output,h.grow,h.mem,h.mG,h.ga,fun _ _=>rfl,fun i _ p x hx=>?_,h.ou,h.ru⟩
 have xh:(if i<g.m then g.H i p else none)=some x:=hx
 split at xh
 ·rename_i hi; exact h.rp i hi p x xh
 ·cases xh
theorem bX.JV {β:Nat→Option Nat} {m:Nat} (h:bX (g.upto m β) n ρ κ a w G) (hm:g.m≤m) (hβ:∀i,i<g.m→β i=g.β i):bX g n ρ κ a w G:=by
 refine ⟨h.fit,h.env,h.size,h.x3,h.os,h.tape,h.output,h.grow,h.mem,h.mG,h.ga,fun i hi=>(h.jU i (Nat.lt_of_lt_of_le hi hm)).trans (hβ i hi),fun i hi p x hx=>h.rp i (Nat.lt_of_lt_of_le hi hm) p x ?_,h.ou,h.ru⟩
 show (if i<g.m then g.H i p else none)=some x
 rw [if_pos hi]; exact hx
theorem bX.enterLoop (h:bX g n ρ κ a w G) {nx:Nat} (hn:κ nx=.none) (dg:g.m≤nx) (rc:RC) (fn:FuncId) :
  bX g n ρ (gC κ nx (.eA rc .ready (bt ρ 0 n))) { a with defers:=mark w.heap.size::a.defers } ((w.alloc (.deferred (some []))).alloc (.loop { state:=.ready,pending:=none,fn:=fn,tmps:=a.tmps,params:=rc.ps,assign:=rc.as,body:=rc.bd,defers:=w.heap.size })) { G with β:=gC G.β nx (some (w.heap.size+1)) } ∧
   Gh.Le G { G with β:=gC G.β nx (some (w.heap.size+1)) }:=by
 have PH:=h.fit.box nx
 rw [hn] at PH
 generalize hr:({ state:=.ready,pending:=none,fn:=fn,tmps:=a.tmps,params:=rc.ps,assign:=rc.as,body:=rc.bd,defers:=w.heap.size }:Loop)=r
 have hle:Gh.Le G { G with β:=gC G.β nx (some (w.heap.size+1)) } :=
  ⟨Mem.Le.refl _,fun i b hb=>by
   by_cases e:i=nx
   ·subst e; rw [PH.1] at hb; cases hb
   ·show gC G.β nx _ i=some b
    rw [ae _ _ e]; exact hb,fun _ _ _ _ _ q=>q⟩
 have aT:((w.alloc (.deferred (some []))).alloc (.loop r)).heap.size=w.heap.size+2:=by rw [World.size_alloc,World.size_alloc]
 have xt:∀b,b<w.heap.size→((w.alloc (.deferred (some []))).alloc (.loop r)).heap[b]?=w.heap[b]?:=fun b hb=>by
  rw [aV _ _ (by rw [World.size_alloc]; omega),aV _ _ hb]
 have Px:((w.alloc (.deferred (some []))).alloc (.loop r)).heap[w.heap.size]?=some (.deferred (some [])):=by
  rw [aV _ _ (by rw [World.size_alloc]; omega)]; exact cj _ _
 have U9:((w.alloc (.deferred (some []))).alloc (.loop r)).heap[w.heap.size+1]?=some (.loop r):=by
  have:=cj (w.alloc (.deferred (some []))) (.loop r)
  rwa [World.size_alloc] at this
 have Va:G.M.In ((w.alloc (.deferred (some []))).alloc (.loop r)):=(h.fit.sub.alloc _).alloc _
 have Sf:∀b,w.heap.size≤b→G.M b=none:=fun b hb=>Mem.In.pZ h.fit.sub hb
 have oI:bR { G with β:=gC G.β nx (some (w.heap.size+1)) } (bt ρ 0 n) a.tmps.toList:=by
  refine ⟨by rw [qz]; simp [h.size],fun j d v hd hv=>?_⟩
  have:=yl ρ n 0 j d hd
  rw [Nat.zero_add] at this
  subst this
  have he:=(h.env j).mono hle
  have ja:a.tmps.getD j undef=v:=by
   rw [Array.getD_eq_getD_getElem?]
   rw [Array.getElem?_toList] at hv
   rw [hv]; rfl
  rw [ja] at he; exact he
 have st:=h.oY (κ':=gC κ nx (.eA rc .ready (bt ρ 0 n))) (G':={ G with β:=gC G.β nx (some (w.heap.size+1)) }) (w':=(w.alloc (.deferred (some []))).alloc (.loop r)) (C:=fun j=>j=nx)
  ⟨hle,fun _ _=>rfl,fun j hj=>ae _ _ hj,fun j hj=>⟨fun x hx=>by
    have:gC G.β nx (some (w.heap.size+1)) j=some x:=hx
    rwa [ae _ _ hj] at this,fun _ _ _ _ q=>q⟩,fun b hb _=>⟨xt b hb,rfl⟩,Va,by
    rintro j rfl
    rw [aX]
    exact ⟨w.heap.size+1,fn,a.tmps,w.heap.size,aX _ _ _,by rw [U9,←hr]; rfl,oI⟩,by
    rintro j b rfl ho
    rw [aX] at ho
    have hb:some (w.heap.size+1)=some b:=by
     have:gC G.β j (some (w.heap.size+1)) j=some b:=ho
     rwa [aX] at this
    injection hb with hb
    exact ⟨.inl (by omega),Sf b (by omega)⟩,fun _ _ _ h1 h2 _ _=>h1.trans h2.symm,by rw [aT]; omega,rfl,rfl,rfl⟩
  (fun i hi=>by
   show gC G.β nx _ i=G.β i
   exact ae _ _ (by omega))
 refine ⟨{ st with ru:=?_ },hle⟩
 obtain ⟨D,h1,h2,h3⟩:=h.ru
 have PW:∀q,q∈D→q<w.heap.size:=fun q hq=>(Array.getElem?_eq_some_iff.1 (h3 q hq).1).1
 have key:∀i,∀q,q≤w.heap.size→bI { G with β:=gC G.β nx (some (w.heap.size+1)) } i (gC κ nx (.eA rc .ready (bt ρ 0 n)) i) q→bI G i (κ i) q:=by
  intro i q hq ho
  by_cases e:i=nx
  ·subst e
   rw [aX] at ho
   have:gC G.β i (some (w.heap.size+1)) i=some q:=ho
   rw [aX] at this
   injection this with this
   omega
  ·rw [ae _ _ e] at ho
   cases hk:κ i with
   | cells l=>rw [hk] at ho; have:gC G.β nx (some (w.heap.size+1)) i=some q:=ho; rwa [ae _ _ e] at this
   | eA rc st l=>rw [hk] at ho; have:gC G.β nx (some (w.heap.size+1)) i=some q:=ho; rwa [ae _ _ e] at this
   | jb a b c d f=>rw [hk] at ho; exact ho.imp id fun ho=>by have:gC G.β nx (some (w.heap.size+1)) i=some q:=ho; rwa [ae _ _ e] at this
   | _=>rw [hk] at ho; exact ho
 refine ⟨w.heap.size::D,by rw [List.map_cons,←h1],List.nodup_cons.2 ⟨fun hm=>Nat.lt_irrefl _ (PW _ hm),h2⟩,fun q hq=>?_⟩
 rcases List.mem_cons.1 hq with rfl | hq
 ·exact ⟨Px,fun i ho=>Nat.lt_irrefl _ ((key i _ (Nat.le_refl _) ho).lt h.fit),Sf _ (Nat.le_refl _),h.grow⟩
 ·obtain ⟨a1,a2,a3,a4⟩:=h3 q hq
  exact ⟨by rw [xt q (PW q hq)]; exact a1,fun i ho=>a2 i (key i q (Nat.le_of_lt (PW q hq)) ho),a3,a4⟩
end
end Go.TM
namespace Go.TM
open Go.RowKit
variable [cu]
theorem jC (i:Nat) (b:ao) (K:ah):aa ((i,b)::K)=gC (aa K) i b:=by
 funext t
 simp only [aa,gC]
 by_cases h:t=i
 ·subst h; simp
 ·rw [if_neg h]; simp [beq_false h]
theorem qA {κ:Nat→ao}:∀{m:Nat},Ro κ m=true→∀j,j<m→(κ j).pass=true
 | 0,_,j,hj=>by omega
 | m+1,h,j,hj=>by
  simp only [Ro,Bool.and_eq_true] at h
  rcases Nat.lt_or_ge j m with aK | dk
  ·exact qA h.2 j aK
  ·have:j=m:=by omega
   subst this; exact h.1
theorem El (P:Program):ye P:=by
 intro g n nx env K a w x ps assign body Q R h hs hR
 obtain ⟨rc,rfl,h⟩:=h
 obtain ⟨⟨G,aj⟩,dg,hn⟩:=hs
 have core:∀(f:Nat) (br:List AV) (vs:List Value),a.eval x=.func (.func f) #[] vs.toArray→bR G br vs →
   zO P nx env ((nx,.eA ⟨ps,assign,body⟩ .ready (bt (look env) 0 n))::K) f br Q→(Code.rangeFunc x ps assign body).wpIn Fence.wide 0 P R a w:=by
  intro f br vs hx oI hh
  obtain ⟨σ,ck,K0,ex,R0,cL,eQ,PQ,IV,gm⟩:=hh
  refine wpIn_rangeFunc fun fn _=>?_
  obtain ⟨mw,hle⟩:=aj.enterLoop (hn nx (Nat.le_refl _)) dg ⟨ps,assign,body⟩ fn
  rw [←jC] at mw
  have Em:=mw.upto (nx+1)
  have zk:∀i,i<g.m→gC G.β nx (some (w.heap.size+1)) i=g.β i:=fun i hi=>by rw [ae _ _ (by omega)]; exact aj.jU i hi
  simp only [Bool.and_eq_true] at eQ
  have dt:bR { G with β:=gC G.β nx (some (w.heap.size+1)) } (.fw nx::br) (.func (.yield (w.heap.size+1)) #[] #[]::vs):=by
   have h1:bR { G with β:=gC G.β nx (some (w.heap.size+1)) } [.fw nx] [.func (.yield (w.heap.size+1)) #[] #[]] :=
    ⟨rfl,fun j d v hd hv=>by
     cases j with
     | zero=>simp at hd hv; subst hd; subst hv; exact .fw nx _ (aX _ _ _)
     | succ j=>simp at hd⟩
   exact h1.append (oI.mono hle)
  obtain ⟨β,_,bc⟩:=lz (hd:=none) (nx:=nx+1) (κ:=aa ((nx,.eA ⟨ps,assign,body⟩ .ready (bt (look env) 0 n))::K)) (jB P f) cL.2
   (fun i hi=>by rw [jC,ae _ _ (by omega)]; exact hn i (by omega)) (by simp only [Bool.and_eq_true]; exact ⟨eQ.1,rfl⟩) PQ IV (fun rs K1 hr=>(gm rs K1 hr).1) (qA eQ.2) (Nat.le_refl _) Em dt (fun _ _=>rfl)
  refine ⟨w.heap.size+1,[mark w.heap.size],((w.alloc (.deferred (some []))).alloc (.loop { state:=.ready,pending:=none,fn:=fn,tmps:=a.tmps,params:=ps,assign:=assign,body:=body,defers:=w.heap.size })),⟨.fn (.func f) vs.toArray,#[.func (.yield (w.heap.size+1)) #[] #[]]⟩,((w.alloc (.deferred (some []))).alloc (.loop { state:=.ready,pending:=none,fn:=fn,tmps:=a.tmps,params:=ps,assign:=assign,body:=body,defers:=w.heap.size })),f,(Value.func (.yield (w.heap.size+1)) #[] #[]::vs).toArray,((w.alloc (.deferred (some []))).alloc (.loop { state:=.ready,pending:=none,fn:=fn,tmps:=a.tmps,params:=ps,assign:=assign,body:=body,defers:=w.heap.size })),run_enterLoop_outer fn a.tmps ps assign body,?_,fun _ _=>trivial,?_,(fun h=>by cases h),?_⟩
  ·have h0:(#[]++Array.map a.eval #[Operand.const (Value.func (Fn.yield (w.heap.size+1)) #[] #[])])=#[Value.func (Fn.yield (w.heap.size+1)) #[] #[]]:=by simp [Act.eval]
   simp only [resolve,rangeCall,hx,Deferred.ofValue,Sem.run_pure]
   rw [h0]
  ·have:(#[Value.func (.yield (w.heap.size+1)) #[] #[]]++vs.toArray)=(Value.func (.yield (w.heap.size+1)) #[] #[]::vs).toArray:=by simp
   simp only [invoke]
   rw [this]
   exact gf cL.1 _ _
  ·refine (fL.calls).2 (Calls.mono bc ?_)
   rintro e w2 ⟨v,rs,K2,G3,rfl,X5,Gg,_⟩
   obtain ⟨Rs,hq⟩:=gm rs K2 X5
   rw [kG] at hq
   rw [←eO] at Gg
   have x4:∀i,nx+1+ex≤i→aa (tH (bU (sg σ (nx+1)) (jw (aa ((nx,.eA ⟨ps,assign,body⟩ .ready (bt (look env) 0 n))::K)) σ) K2++jS (aa ((nx,.eA ⟨ps,assign,body⟩ .ready (bt (look env) 0 n))::K)) (dz (aa ((nx,.eA ⟨ps,assign,body⟩ .ready (bt (look env) 0 n))::K)) (dE (sg σ (nx+1)) dA ck) (.fw nx::br)++eg (aa ((nx,.eA ⟨ps,assign,body⟩ .ready (bt (look env) 0 n))::K)) (bU (sg σ (nx+1)) dA K0))) ((nx,.eA ⟨ps,assign,body⟩ .ready (bt (look env) 0 n))::K)) i=.none:=by
    have Ht:∀i,nx+1≤i→aa ((nx,.eA ⟨ps,assign,body⟩ .ready (bt (look env) 0 n))::K) i=.none:=fun i hi=>by rw [jC,ae _ _ (by omega)]; exact hn i (by omega)
    refine jr Ht (Nat.le_add_right _ _) fun p hp=>?_
    have Ei:lx (σ.length+ex) K2=true:=by
     have:=Rs
     simp only [gk,Bool.and_eq_true] at this
     exact this.1.1.2
    have hσ1:∀i,i∈σ→i<nx+1:=by
     have:=eQ.1
     simp only [gV,Bool.and_eq_true] at this
     exact (gP this.1.1.1.1.1.1).1
    rcases List.mem_append.1 hp with hp | hp
    ·obtain ⟨j,h1,h2⟩:=kE (i:=p.1) (b:=p.2) hp
     have hj:=c9 Ei j h1
     rw [h2]
     rcases Nat.lt_or_ge j σ.length with aK | dk
     ·have:=hσ1 _ (by rw [iJ aK]; exact List.getElem_mem aK:sg σ (nx+1) j∈σ); omega
     ·rw [ie dk]; omega
    ·have:=rC Ht hp; omega
   generalize ME:tH (bU (sg σ (nx+1)) (jw (aa ((nx,.eA ⟨ps,assign,body⟩ .ready (bt (look env) 0 n))::K)) σ) K2++jS (aa ((nx,.eA ⟨ps,assign,body⟩ .ready (bt (look env) 0 n))::K)) (dz (aa ((nx,.eA ⟨ps,assign,body⟩ .ready (bt (look env) 0 n))::K)) (dE (sg σ (nx+1)) dA ck) (.fw nx::br)++eg (aa ((nx,.eA ⟨ps,assign,body⟩ .ready (bt (look env) 0 n))::K)) (bU (sg σ (nx+1)) dA K0))) ((nx,.eA ⟨ps,assign,body⟩ .ready (bt (look env) 0 n))::K)=K3 at *
   have xe:G3.β nx=some (w.heap.size+1):=(Gg.jU nx (Nat.lt_succ_self nx)).trans (aX _ _ _)
   have fin:∀(DC:RC) (st:Bc) (l:List AV) (e:AX),aa K3 nx=.eA DC st l→st.st ≠ .busy→st.DK=nS e→Q e (nx+1+ex) env ((nx,.dead)::K3)→rangePost Fence.wide 0 P (w.heap.size+1) R { a with defers:=[mark w.heap.size]++a.defers } (.returned v) w2:=by
    intro DC st l e hk hb hp hq
    obtain ⟨r,h1,h2,h3,_,JW⟩:=Gg.zY hk xe
    have Vb:=(JW (.loop { r with state:=.exhausted })).JV (Nat.le_succ_of_le dg) zk
    have Vc:ya g n (nx+1+ex) env ((nx,.dead)::K3) { a with defers:=[mark w.heap.size]++a.defers } (w2.putObj (w.heap.size+1) (.loop { r with state:=.exhausted })) :=
     ⟨⟨G3,by rw [jC]; exact Vb⟩,by omega,fun i hi=>by rw [jC,ae _ _ (by omega)]; exact x4 i hi⟩
    have my:=hR e _ _ _ _ _ hq Vc
    refine ⟨r.pending,_,run_endLoop h1 (by rw [h2]; exact hb),?_⟩
    have Be:r.pending=nS e:=h3.trans hp
    rw [Be] at my
    rw [Be]
    cases e with
    | normal=>exact my
    | ret=>exact wpIn_ret my
    | exit i=>exact wpIn_exit my
   unfold BN at hq
   split at hq
   ·rename_i DC l hk; exact fin DC .ready l .normal hk (by simp [Bc.st]) rfl hq
   ·rename_i DC e l hk; exact fin DC (.done e) l e hk (by simp [Bc.st]) rfl hq
   ·exact hq.elim
 have hv:=x9 (ρ:=look env) (κ:=aa K) (x:=x) (look env) (aa K) ⟨fun _ _=>rfl,fun _ _=>rfl⟩ g n a w G aj
 generalize hx:a.eval x=y at hv
 split at h
 ·rename_i f br he
  rw [he] at hv
  cases hv with | fn _ _ vs hl hr=>exact core f br vs hx ⟨hl,hr⟩ h
 ·rename_i f br he
  rw [he] at hv
  cases hv with | dv hd=>cases hd with | fn _ _ vs hl hr=>exact core f _ vs hx (gN ⟨hl,hr⟩) h
 ·exact h.elim
theorem En {n:Nat} {o:Oper} {q:Nat × List Operand} (h:F7 n o=some q):∃c:Call,o.op=.call c∧c.callee=.value (.func q.1)∧c.args.toList=q.2∧o.guard=none∧∀t,o.dst=some t→t<n:=by
 unfold F7 at h
 split at h
 ·rename_i c e1 e2
  split at h
  ·rename_i f e3 e4
   injection h with h; subst h
   exact ⟨c,e1,e3,rfl,e2,fun t ht=>by rw [e4] at ht; cases ht⟩
  ·rename_i f t e3 e4
   have hh:=PE h; clear h; obtain ⟨hb,h⟩:=hh
   injection h with h; subst h
   exact ⟨c,e1,e3,rfl,e2,fun t' ht=>by rw [e4] at ht; injection ht with ht; subst ht; simpa using hb⟩
  ·cases h
 ·cases h
theorem MF (P:Program):Ec P:=by
 intro g ops n nx env K a w o q k ho h hs F hF
 obtain ⟨c,Vd,uM,Dz,aM,Ve⟩:=En ho
 refine ⟨aM,?_⟩
 obtain ⟨⟨G,aj⟩,dg,hn⟩:=hs
 obtain ⟨l,⟨σ,ck,K0,ex,R,cL,eQ,PQ,IV,gm⟩,bs⟩:=jg h
 rw [←Dz] at bs
 have Vf:=sP (P:=P) (ops:=ops) (o:=o) Vd uM bs
 simp only [Bool.and_eq_true] at eQ
 obtain ⟨vs,dt,jZ⟩:=vF (C:=fun _=>True) (n:=n) Vf cL.1 0 (look env) (aa K) [] [] ⟨fun _ _=>rfl,fun _ _=>rfl,fun _ _=>rfl,fun _ _ _=>rfl⟩ g a w G trivial aj rfl
 obtain ⟨β,hβ,bc⟩:=lz (hd:=none) (nx:=nx) (jB P q.1) cL.2 hn (by simp only [Bool.and_eq_true]; exact ⟨eQ.1,rfl⟩) PQ IV (fun rs K1 hr=>(gm rs K1 hr).1) (qA eQ.2) dg aj dt (fun _ _=>rfl)
 refine jZ F hF β hβ _ (jB P q.1 _ _ _ _ _ ?_ bc)
 rintro e w2 ⟨v,rs,K1,G3,rfl,hR,Gg,hv⟩
 obtain ⟨Rs,hq⟩:=gm rs K1 hR
 rw [(eV (SizeOf.sizeOf (ld (sg σ nx) (jw (aa K) σ) (ia rs))+1)).1 _ _ (by omega),vE,kG,qx] at hq
 refine ⟨v,rfl,_,_,_,hq,⟨G3,?_⟩,Nat.le_trans dg (Nat.le_add_right _ _),jr hn (Nat.le_add_right _ _) fun p hp=>?_⟩
 ·rw [←eO] at Gg
  cases hd:o.dst with
  | none=>exact Gg
  | some t =>
   have:=Gg.put (Ve t hd) hv
   have e:look (PD (some t) (ld (sg σ nx) (jw (aa K) σ) (ia rs)) env)=gC (look env) t (ld (sg σ nx) (jw (aa K) σ) (ia rs)):=by
    have:=jh [(t,ld (sg σ nx) (jw (aa K) σ) (ia rs))] env
    simpa [BC,aw,PD] using this
   rw [e]; exact this
 ·have Ei:lx (σ.length+ex) K1=true:=by
   have:=Rs
   simp only [gk,Bool.and_eq_true] at this
   exact this.1.1.2
  have hσ1:∀i,i∈σ→i<nx:=by
   have:=eQ.1
   simp only [gV,Bool.and_eq_true] at this
   exact (gP this.1.1.1.1.1.1).1
  rcases List.mem_append.1 hp with hp | hp
  ·obtain ⟨j,h1,h2⟩:=kE (i:=p.1) (b:=p.2) hp
   have hj:=c9 Ei j h1
   rw [h2]
   rcases Nat.lt_or_ge j σ.length with aK | dk
   ·have:=hσ1 _ (by rw [iJ aK]; exact List.getElem_mem aK:sg σ nx j∈σ); omega
   ·rw [ie dk]; omega
  ·have:=rC hn hp; omega
theorem ar (P:Program):ib P:=⟨El P,MF P⟩
end Go.TM
namespace Go.TM
open Go.RowKit
variable [cu]
def tJ:Nat→List AV→Env
 | _,[]=>[]
 | s,.any::r=>tJ (s+1) r
 | s,v::r=>(s,v)::tJ (s+1) r
theorem Gi:∀(l:List AV) (s t:Nat),t<s→look (tJ s l) t=.any
 | [],_,_,_=>rfl
 | v::r,s,t,h=>by
  have ih:=Gi r (s+1) t (by omega)
  cases v <;> simp only [tJ,look] <;> first | exact ih | (rw [beq_false (by omega)]; exact ih)
theorem ym:∀(l:List AV) (s j:Nat),look (tJ s l) (s+j)=match l[j]? with | some v=>v | none=>.any
 | [],s,j=>by simp [tJ,look]
 | v::r,s,0=>by
  have h0:=Gi r (s+1) s (by omega)
  cases v <;> simp only [tJ,look,Nat.add_zero,Nat.beq_refl,cond_true,List.getElem?_cons_zero] <;> exact h0
 | v::r,s,j+1=>by
  have ih:=ym r (s+1) j
  have e:s+(j+1)=s+1+j:=by omega
  cases v <;> simp only [tJ,look,List.getElem?_cons_succ] <;> rw [e] <;> first | exact ih | (rw [beq_false (by omega)]; exact ih)
def BX:List Nat→List AV→Env→Env
 | p::ps,v::vs,env=>BX ps vs ((p,v)::env)
 | _,_,env=>env
def Gj (n:Nat):List Nat→Bool
 | []=>true
 | p::r=>Nat.blt p n && Gj n r
theorem yn {n:Nat}:∀{l:List Nat},Gj n l=true→∀p,p∈l→p<n
 | [],_,p,h=>by simp at h
 | q::r,h,p,hp=>by
  simp only [Gj,Bool.and_eq_true,Nat.blt_eq] at h
  rcases List.mem_cons.1 hp with rfl | hp
  ·exact h.1
  ·exact yn h.2 p hp
theorem Gk {G:Gh}:∀{ps:List Nat} {iW:List AV} {vs:List Value} {env:Env} {tmps:Array Value},(∀p,p∈ps→p<tmps.size)→bR G iW vs→(∀t,aE G (look env t) (tmps.getD t undef)) →
  ∀t,aE G (look (BX ps iW env) t) (((ps.zip vs).foldl (fun tm (pv:Nat × Value)=>tm.setIfInBounds pv.1 pv.2) tmps).getD t undef)
 | [],iW,vs,env,tmps,_,_,h,t=>by cases iW <;> simpa [BX] using h t
 | p::ps,[],vs,env,tmps,_,hr,h,t=>by
  have:vs=[]:=by have:=hr.1; simpa using this.symm
  subst this
  simpa [BX] using h t
 | p::ps,v::iW,[],env,tmps,_,hr,h,t=>by have:=hr.1; simp at this
 | p::ps,v::iW,x::vs,env,tmps,hp,hr,h,t=>by
  simp only [BX,List.zip_cons_cons,List.foldl_cons]
  refine Gk (fun q hq=>by rw [Array.size_setIfInBounds]; exact hp q (by simp [hq])) ⟨by simpa using hr.1,fun j d y hd hy=>hr.2 (j+1) d y (by simpa using hd) (by simpa using hy)⟩ (fun t=>?_) t
  simp only [look]
  by_cases e:t=p
  ·subst e
   have:=hp t (by simp)
   simp only [Nat.beq_refl,cond_true,Array.getD_eq_getD_getElem?]
   rw [Array.getElem?_setIfInBounds_self_of_lt this]
   exact hr.2 0 v x rfl rfl
  ·rw [beq_false e,Array.getD_eq_getD_getElem?,Array.getElem?_setIfInBounds_ne (fun h=>e h.symm),←Array.getD_eq_getD_getElem?]
   exact h t
theorem HG (ps:List (Nat × Value)):∀(tmps:Array Value),((ps.foldl (fun tm (pv:Nat × Value)=>tm.setIfInBounds pv.1 pv.2) tmps)).size=tmps.size:=by
 induction ps with
 | nil=>intro t; rfl
 | cons p r ih=>intro t; simp only [List.foldl_cons]; rw [ih,Array.size_setIfInBounds]
def Vg:AX→Bool
 | .normal=>true
 | _=>false
def Oq:AX→Bc
 | .normal=>.ready
 | e=>.done e
section
variable {P:Program} {T:List TI}
end
end Go.TM
namespace Go.TM
open Go.RowKit
variable [cu]
def Ma {γ:Type} (f:Nat→γ) (i:Nat) (x:γ):Nat→γ:=fun j=>Bool.casesOn (Nat.beq j i) (f j) x
def zZ {γ:Type} (f:Nat→γ):List (Nat × γ)→Nat→γ
 | []=>f
 | p::r=>Ma (zZ f r) p.1 p.2
inductive XR (α:Type):Type
 | ok (a:α)
 | no (T1:List Nat)
def XR.bind {α β:Type} (x:XR α) (f:α→XR β):XR β:=XR.casesOn x f .no
def dO {α:Type} (b:Bool) (T1:Nat) (x:XR α):XR α:=Bool.casesOn b (.no [T1]) x
def cZ {α:Type} (x:Option α) (T1:Nat):XR α:=Option.casesOn x (.no [T1]) .ok
def tK (a b:Int):Bool:=Int.casesOn a (fun m=>Int.casesOn b (fun n=>Nat.blt m n) (fun _=>false)) (fun m=>Int.casesOn b (fun _=>true) (fun n=>Nat.blt n m))
def MG (a b:Int):Bool:=!(tK b a)
def Gl (a b:Int):Bool:=Int.casesOn a (fun m=>Int.casesOn b (fun n=>Nat.beq m n) (fun _=>false)) (fun m=>Int.casesOn b (fun _=>false) (fun n=>Nat.beq m n))
def Mb (a:Int):Bool:=Int.casesOn a (fun _=>true) (fun _=>false)
def xE {α:Type}:List α→Nat→Option α
 | [],_=>none
 | x::r,i=>Nat.casesOn i (some x) (fun i=>xE r i)
abbrev EN:=jo × Nat
def Ot (κ:Nat→ao) (v:AV):XR AV:=match v with
 | .opt g v=>dO g 1 (.ok (res κ v))
 | v=>.ok v
def kl (ρ:Nat→AV) (κ:Nat→ao) (x:Operand):XR AV:=Ot κ (ev ρ κ x)
def BY (ρ:Nat→AV) (κ:Nat→ao):List Operand→XR (List AV)
 | []=>.ok []
 | x::r=>(kl ρ κ x).bind fun v=>(BY ρ κ r).bind fun l=>.ok (v::l)
def rS (ρ:Nat→AV) (κ:Nat→ao):List (Nat × Operand)→XR (List (Nat × AV))
 | []=>.ok []
 | p::r=>(kl ρ κ p.2).bind fun v=>(rS ρ κ r).bind fun l=>.ok ((p.1,v)::l)
structure XV where
 v:AV
 bx:List (Nat × ao)
 rd:List Nat
 nx:Nat
def fe (nx:Nat) (v:AV):XR XV:=.ok ⟨v,[],[],nx⟩
def mA (n:Nat) (dst:Option Nat) (r:XV):XR EN:=match dst with
 | none=>.ok (⟨[],r.bx,r.rd⟩,r.nx)
 | some d=>dO (Nat.blt d n) 2 (.ok (⟨[(d,r.v)],r.bx,r.rd⟩,r.nx))
def Gm (n:Int):Bool:=Int.casesOn n (fun m=>Nat.ble m 9223372036854775807) (fun m=>Nat.ble m 9223372036854775807)
def pj (k:IntKind) (n:Int):XR AV:=match k with
 | .i64=>dO (Gm n) 3 (.ok (.dv (.int .i64 n)))
 | k=>.ok (.dv (.int k (k.wrap n)))
def fN (b:Bool):XR AV:=.ok (.dv (.bool b))
def Ou (op:BinOp) (k:IntKind) (a b:Int):XR AV:=match op with
 | .add=>pj k (a+b)
 | .sub=>pj k (a - b)
 | .mul=>pj k (a * b)
 | .quo=>dO (!(Gl b 0)) 5 (pj k (a.tdiv b))
 | .rem=>dO (!(Gl b 0)) 5 (.ok (.dv (.int k (a.tmod b))))
 | .eql=>fN (Gl a b)
 | .neq=>fN (!(Gl a b))
 | .lss=>fN (tK a b)
 | .leq=>fN (MG a b)
 | .gtr=>fN (tK b a)
 | .geq=>fN (MG b a)
 | _=>.no [6]
def Ov (op:BinOp) (p q:Bool):XR AV:=match op with
 | .eql=>fN (p == q)
 | .neq=>fN (!(p == q))
 | _=>.no [8]
def Ow (op:BinOp) (s t:ByteArray):XR AV:=match op with
 | .eql=>fN (s.toList == t.toList)
 | .neq=>fN (!(s.toList == t.toList))
 | .add=>dO (decide (((s.size+t.size:Nat):Int)≤9223372036854775807)) 9 (.ok (.dv (.str (s++t))))
 | _=>.no [10]
def vH (op:BinOp) (same:Bool):XR AV:=match op with
 | .eql=>fN same
 | .neq=>fN (!same)
 | _=>.no [12]
def DV.int?:DV→Option (IntKind × Int)
 | .int k n=>some (k,n)
 | _=>none
def AV.int?:AV→Option (IntKind × Int)
 | .dv d=>d.int?
 | _=>none
def DV.bool?:DV→Option Bool
 | .bool b=>some b
 | _=>none
def AV.bool?:AV→Option Bool
 | .dv d=>d.bool?
 | _=>none
def DV.z5:DV→Option ByteArray
 | .str s=>some s
 | _=>none
def AV.z5:AV→Option ByteArray
 | .dv d=>d.z5
 | _=>none
def DV.m9:DV→Bool
 | .di=>true
 | _=>false
def AV.m9:AV→Bool
 | .dv d=>d.m9
 | _=>false
def DV.Eo:DV→Option (IntKind × Int × Int)
 | .xX k lo hi=>some (k,lo,hi)
 | _=>none
def AV.Eo:AV→Option (IntKind × Int × Int)
 | .dv d=>d.Eo
 | _=>none
def PX (op:BinOp) (lo hi b:Int):Option Bool:=match op with
 | .lss=>xF (tK hi b) (!(tK lo b))
 | .leq=>xF (!(tK b hi)) (tK b lo)
 | .gtr=>xF (tK b lo) (!(tK b hi))
 | .geq=>xF (!(tK lo b)) (tK hi b)
 | .eql=>bif tK b lo || tK hi b then some false else none
 | .neq=>bif tK b lo || tK hi b then some true else none
 | _=>none
def PY (ti:TI) (op:BinOp) (x y:AV):XR AV:=match x.int? with
 | some a=>(cZ y.int? 4).bind fun b=>dO (a.1 == b.1) 4 (Ou op a.1 a.2 b.2)
 | none=>match x.Eo with
  | some t=>(cZ y.int? 14).bind fun b=>dO (t.1 == b.1) 14 ((cZ (PX op t.2.1 t.2.2 b.2) 14).bind fN)
  | none=>match x.bool? with
   | some p=>(cZ y.bool? 7).bind fun q=>dO (ti.ok && Nat.beq ti.kind 1) 7 (Ov op p q)
   | none=>match x.z5 with
    | some s=>(cZ y.z5 11).bind fun t=>Ow op s t
    | none=>dO (y.m9 && (ti.ok && Nat.beq ti.kind 5)) 13 (match x.m9 with
     | true=>vH op true
     | false=>dO (oK x) 15 (vH op false))
def ta:DV→List PS→XR DV
 | d,[]=>.ok d
 | d,s::p=>match step d s with
  | some c=>ta c p
  | none=>.no [18]
def tc:DV→List PS→DV→XR DV
 | _,[],n=>.ok n
 | d,s::p,n=>match step d s with
  | some c=>(tc c p n).bind fun c'=>.ok (put d s c')
  | none=>.no [25]
def JX (κ:Nat→ao) (i ver ep:Nat) (p:List PS):XR (Nat × DV):=match κ i with
 | .tree aZ bF d=>dO (Nat.beq ver aZ && (emp p || Nat.beq ep bF)) 32 (.ok (bF,d))
 | _=>.no [33]
structure XN where
 ep:Nat
 d:DV
 n:DV
def kH (κ:Nat→ao) (i ver ep:Nat) (p:List PS):XR XN:=(JX κ i ver ep p).bind fun t=>(ta t.2 p).bind fun n=>.ok ⟨t.1,t.2,n⟩
def DV.Ep:DV→Option (Nat × List DV)
 | .ay sz l=>some (sz,l)
 | _=>none
def DV.Gn:DV→Option (KS × List DV)
 | .omap s m=>some (s,m)
 | _=>none
def DV.JY:DV→Option DV
 | .cN x=>some x
 | _=>none
def vI (agg:Bool) (l:List AV) (off n:Nat):XR AV:=match agg with
 | true=>dO (Nat.ble (off+n) l.length) 16 (.ok (.agg ((l.drop off).take n)))
 | false=>cZ (xE l off) 17
def ne {α:Type}:List α→Bool
 | []=>false
 | _::_=>true
def lA (x:DV):Bool:=x.cells.all fun d=>!d.af
def ji:List DV→Bool
 | []=>true
 | x::r=>lA x && ji r
structure XL where
 sz:Nat
 l:List DV
 rd:List Nat
 kill:List Nat
def JZ (d:DV):XR (Option XL):=match d with
 | .sl sz l=>.ok (some ⟨sz,l,[],[]⟩)
 | .aH=>.ok none
 | _=>.no [36]
def J0 (κ:Nat→ao) (v:AV):XR (Option XL):=match v with
 | .dv d=>JZ d
 | .own i ver ep p=>(kH κ i ver ep p).bind fun t=>(cZ t.n.Ep 35).bind fun q=>match ji q.2 with
  | true=>.ok (some ⟨q.1,q.2,[i],[]⟩)
  | false=>dO (emp p) 34 (.ok (some ⟨q.1,q.2,[i],[i]⟩))
 | _=>.no [36]
def BZ (ti:TI) (n:Nat):Bool:=Nat.ble (n * ti.bytes) 140737488355328 && Nat.ble n 9223372036854775807
def isFull:AV→Bool
 | .bS _ _=>true
 | _=>false
def z7 (ti:TI) (nx:Nat) (x:Option XL):XR XV:=match x with
 | none=>fe nx (.dv .aH)
 | some q=>dO (Nat.beq q.sz ti.size && BZ ti q.l.length) 38 (.ok ⟨.own nx 0 0 [],(nx,.tree 0 0 (.ay q.sz q.l))::dU q.kill,nx::q.rd,nx+1⟩)
def J1 (ti:TI) (nx i ver:Nat) (p:List PS) (t:XN) (sz:Nat) (l:List DV) (q:XL):XR XV:=dO (!fV i q.rd) 41 (match p with
 | []=>.ok ⟨.own i (ver+1) 0 [],(i,.tree (ver+1) 0 (.ay sz (l++q.l)))::dU q.kill,i::q.rd,nx⟩
 | s::p=>(tc t.d (s::p) .any).bind fun d'=>.ok ⟨.own nx 1 0 [],(nx,.tree 1 0 (.ay sz (l++q.l)))::(i,.tree ver (t.ep+1) d')::dU q.kill,nx::i::q.rd,nx+1⟩)
def J2 (nx i ver:Nat) (p:List PS) (t:XN) (sz:Nat) (l:List DV):XR XV:=match p with
 | []=>.ok ⟨.own i (ver+1) 0 [],[(i,.tree (ver+1) 0 (.ay sz l))],[i],nx⟩
 | s::p=>(tc t.d (s::p) .any).bind fun d'=>.ok ⟨.own nx 0 0 [],[(nx,.tree 0 0 (.ay sz l)),(i,.tree ver (t.ep+1) d')],[nx,i],nx+1⟩
def Gp (ti:TI) (nx:Nat) (full:Bool) (i ver:Nat) (p:List PS) (t:XN) (sz:Nat) (l:List DV) (x:Option XL):XR XV:=match x with
 | none=>J2 nx i ver p t sz l
 | some q=>dO (Nat.beq q.sz sz && BZ ti (l.length+q.l.length)) 40 (match full && ne q.l && !ne q.kill && ji l && ji q.l with
  | true=>.ok ⟨.own nx 0 0 [],[(nx,.tree 0 0 (.ay sz (l++q.l)))],nx::i::q.rd,nx+1⟩
  | false=>J1 ti nx i ver p t sz l q)
def iC:DV→Bool
 | .aH=>true
 | _=>false
def z8 (ti te:TI) (nx:Nat) (κ:Nat→ao) (s x:AV):XR XV :=
 dO (ti.ok && ti.isSl && te.ok && Nat.blt 0 te.size) 37 ((J0 κ (dn x)).bind fun src=>match dn s with
  | .dv d=>dO (iC d) 43 (z7 te nx src)
  | .own i ver ep p=>(kH κ i ver ep p).bind fun t=>(cZ t.n.Ep 42).bind fun q=>dO (Nat.beq q.1 te.size) 39 (Gp te nx (isFull s) i ver p t q.1 q.2 src)
  | _=>.no [43])
def Ox (ti:TI) (d:DV):XR Nat:=match d with
 | .sl _ l=>dO (ti.ok && ti.isSl) 44 (.ok l.length)
 | .aH=>dO (ti.ok && ti.isSl) 44 (.ok 0)
 | .str s=>dO (ti.ok && ti.isStr) 44 (.ok s.size)
 | _=>.no [46]
def Oy (ti:TI) (n:DV):XR Nat:=match n with
 | .ay _ l=>dO (ti.ok && ti.isSl) 44 (.ok l.length)
 | .omap _ m=>dO (ti.ok && Nat.beq ti.kind 6) 44 (.ok m.length)
 | _=>.no [45]
def J3 (nx:Nat) (n:Nat) (rd:List Nat):XR XV:=.ok ⟨.dv (.int .i64 n),[],rd,nx⟩
def PZ (ti:TI) (nx:Nat) (κ:Nat→ao) (v:AV):XR XV:=match v with
 | .dv d=>(Ox ti d).bind fun n=>J3 nx n []
 | .own i ver ep p=>(kH κ i ver ep p).bind fun t=>(Oy ti t.n).bind fun n=>J3 nx n [i]
 | .sle _ m=>dO (ti.ok && ti.isSl) 44 (J3 nx m [])
 | _=>.no [46]
def Oz (d:DV):XR Bool:=match d with
 | .aH=>.ok true
 | .sl _ l=>dO (ne l) 88 (.ok false)
 | _=>.no [88]
def P0 (ti:TI) (κ:Nat→ao) (v:AV):XR (Bool × List Nat):=dO (ti.ok && ti.isSl) 87 (match v with
 | .dv d=>(Oz d).bind fun b=>.ok (b,[])
 | .own i ver ep p=>(kH κ i ver ep p).bind fun t=>(cZ t.n.Ep 88).bind fun q=>dO (ne q.2) 88 (.ok (false,[i]))
 | .bS _ _=>.ok (false,[])
 | .sle _ _=>.ok (false,[])
 | _=>.no [89])
def pk (i ver ep:Nat) (p:List PS) (sz idx:Nat) (nd:DV):XR (List AV):=match nd with
 | .ay o7 l=>dO (Nat.beq sz o7) 47 ((cZ (xE l idx) 48).bind fun x=>.ok (jD i ver ep p idx 0 x.cells))
 | .cN x=>dO (Nat.beq idx 0) 49 (.ok (jD i ver ep p 0 0 x.cells))
 | _=>.no [50]
def Aa (x:DV) (off:Nat) (ds:List DV):XR DV:=match x with
 | .agg l=>dO (Nat.ble (off+ds.length) l.length) 51 (.ok (.agg (lB l off ds)))
 | _=>match off,ds with
  | 0,[d]=>.ok d
  | _,_=>.no [52]
def Er (sz idx off:Nat) (nd:DV) (ds:List DV):XR (List DV × DV):=match nd with
 | .ay o7 l=>dO (Nat.beq sz o7) 53 ((cZ (xE l idx) 54).bind fun x=>(Aa x off ds).bind fun y=>.ok ((x.cells.drop off).take ds.length,.ay o7 (l.set idx y)))
 | .cN x=>dO (Nat.beq idx 0) 55 ((Aa x off ds).bind fun y=>.ok ((x.cells.drop off).take ds.length,.cN y))
 | _=>.no [56]
def Ab (nx:Nat) (κ:Nat→ao) (i ver ep:Nat) (p:List PS) (sz idx off:Nat) (vs:List AV):XR XV :=
 (kH κ i ver ep p).bind fun t=>(cZ (qB κ vs) 58).bind fun q=>dO (!(fV i q.2 || !eG q.2)) 57 ((Er sz idx off t.n q.1).bind fun on=>(tc t.d p on.2).bind fun d' =>
  .ok ⟨.any,(i,.tree ver (bif eH on.1 || eH q.1 then t.ep+1 else t.ep) d')::oL κ q.2,i::q.2,nx⟩)
def AV.xG (v:AV):Option Int:=match v.int? with
 | some (.i64,n)=>some n
 | _=>none
def xI (ρ:Nat→AV) (κ:Nat→ao) (x:Option Operand):XR (Option Int):=match x with
 | none=>.ok none
 | some x=>(kl ρ κ x).bind fun v=>(cZ v.xG 59).bind fun n=>.ok (some n)
def J4 (lo hi:Option Int) (len:Nat):Bool:=Mb (lo.getD 0) && MG (lo.getD 0) (hi.getD len) && MG (hi.getD len) len
def Sg (lo hi:Option Int) (l:List DV):List DV:=(l.take (hi.getD l.length).toNat).drop (lo.getD 0).toNat
def Gq (ti:TI) (xi nx:Nat) (d:DV) (lo hi:Option Int):XR XV:=match d with
 | .sl sz l=>dO (ti.isSl && Nat.beq sz xi && J4 lo hi l.length) 60 (fe nx (.dv (.sl sz (Sg lo hi l))))
 | .str s=>dO (ti.isStr && J4 lo hi s.size) 63 (fe nx (.dv (.str (s.extract (lo.getD 0).toNat (hi.getD s.size).toNat))))
 | _=>.no [64]
def Ac (ti:TI) (xi nx:Nat) (κ:Nat→ao) (v:AV) (lo hi:Option Int):XR XV:=match v with
 | .dv d=>Gq ti xi nx d lo hi
 | .own i ver ep p=>dO (emp p) 62 ((kH κ i ver ep []).bind fun t=>(cZ t.n.Ep 62).bind fun q=>dO (ti.isSl && Nat.beq q.1 xi && J4 lo hi q.2.length) 61 (
   .ok ⟨.own i (ver+1) 0 [],[(i,.tree (ver+1) 0 (.ay q.1 (Sg lo hi q.2)))],[i],nx⟩))
 | _=>.no [64]
def P1 (ti:TI):Option KS:=bif ti.ok && ti.DN == some .i64 then some HE else bif ti.ok && ti.isStr then some PV else bif ti.ok && ti.pair then some eh else none
def J5:uE→uE→Bool
 | .int k,.int k'=>k == k'
 | .bool,.bool=>true
 | .str,.str=>true
 | _,_=>false
def rT:List uE→List uE→Bool
 | [],[]=>true
 | a::l,b::r=>J5 a b && rT l r
 | _,_=>false
def MH (a b:KS):Bool:=(a.agg == b.agg) && rT a.tags b.tags
def Gr (ti:TI) (s:KS):Bool:=match P1 ti with
 | some s'=>MH s s'
 | none=>false
def yp:List AV→Option (List DV)
 | []=>some []
 | .dv d::r=>match yp r with
  | some l=>some (d::l)
  | none=>none
 | _=>none
def HH:AV→Option DV
 | .dv d=>bif d.isAgg then none else some d
 | .agg l=>match yp l with
  | some ds=>some (.agg ds)
  | none=>none
 | _=>none
def Ad (te:TI) (i ver ep:Nat) (p:List PS) (key:DV) (c b:Bool) (x:DV) (nx:Nat):XR XV:=dO (x.isAgg == te.agg) 66 (
 .ok ⟨bif c then .eL [eW.oM te.agg (jE i ver ep p key 0 x.cells),.dv (.bool b)] else eW.oM te.agg (jE i ver ep p key 0 x.cells),[],[i],nx⟩)
def Ae (tk te:TI) (nx:Nat) (κ:Nat→ao) (v kv:AV) (c:Bool):XR XV:=match v with
 | .own i ver ep p=>(kH κ i ver ep p).bind fun t=>(cZ t.n.Gn 68).bind fun q=>(cZ (HH kv) 68).bind fun key=>dO (Gr tk q.1 && q.1.ok key) 65 (match bH q.2 key with
  | some x=>Ad te i ver t.ep p key c true x nx
  | none=>Ad te i ver t.ep p key c false te.vJ nx)
 | _=>.no [69]
def lC:AV→Bool
 | .agg _=>true
 | _=>false
def n8 (m:List DV) (key:DV):Bool:=match bH m key with
 | some x=>lA x
 | none=>true
def Af (tk:TI) (nx:Nat) (κ:Nat→ao) (v kv u:AV):XR XV:=match v with
 | .own i ver ep p=>(kH κ i ver ep p).bind fun t=>(cZ t.n.Gn 74).bind fun q=>(cZ (HH kv) 74).bind fun key=>dO (Gr tk q.1 && q.1.ok key) 70 (
   (cZ (qB κ (cellsOf u)) 73).bind fun w=>dO (!(fV i w.2 || !eG w.2 || !bP (cellsOf u))) 71 (
    dO ((gJ (lC u) w.1).isAgg == lC u && Nat.beq (gJ (lC u) w.1).cells.length w.1.length) 72 (
     (tc t.d p (.omap q.1 (ez q.2 key (gJ (lC u) w.1)))).bind fun d' =>
      .ok ⟨.any,(i,.tree ver (bif lA (gJ (lC u) w.1) && n8 q.2 key then t.ep else t.ep+1) d')::dU w.2,i::w.2,nx⟩)))
 | _=>.no [75]
def xH (agg:Bool) (sz:Nat):Nat→List DV→List DV
 | 0,_=>[]
 | k+1,l=>gJ agg (l.take sz)::xH agg sz k (l.drop sz)
end Go.TM
