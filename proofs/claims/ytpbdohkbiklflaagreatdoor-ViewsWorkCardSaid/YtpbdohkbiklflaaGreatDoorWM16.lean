import Derived.Test.YtpbdohkbiklflaaGreatDoorWM15
import Derived.WideKeyRuns
import Derived.Laws.StructEq
set_option linter.unusedVariables false
set_option linter.unusedSimpArgs false
set_option linter.unusedSectionVars false
namespace Go.TM
open Go.RowKit
variable [ct]
theorem vh:∀{s k i:Nat},s≤i→i<s+k→i∈lu s k
 | s,0,i,h1,h2=>by omega
 | s,k+1,i,h1,h2=>by
  simp only [lu,List.mem_cons]
  by_cases e:i=s
  ·exact .inl e
  ·exact .inr (vh (by omega) (by omega))
def tM (I:Inv):Prop:=∀β vs w (R R':Ending→World→Prop),(∀e w,R e w→R' e w)→I β vs w R→I β vs w R'
theorem jy (P:Program) (f:Nat):tM (FH P f):=fun _ _ _ _ _ h hc=>Calls.mono hc h
theorem DM (P:Program):tM (FI P):=by
 intro β vs w R R' h hc
 obtain ⟨l,h1,fn,tmps,assign,body,w1,h2,h3⟩:=hc
 exact ⟨l,h1,fn,tmps,assign,body,w1,h2,RoundIn.mono h3 h⟩
theorem GU {i nx:Nat} {σ:List Nat} (h:GV (some i) σ=true):0<σ.length∧sg σ nx 0=i:=by
 cases σ with
 | nil=>simp [GV] at h
 | cons x r =>
  simp only [GV] at h
  exact ⟨by simp,(Nat.eq_of_beq_eq_true h).symm⟩
section
variable {P:Program} {C:dx→Prop} {T:List TI} {ops:List Oper} {n:Nat} {o:Oper} {nx:Nat} {ρ:Nat→AV} {κ:Nat→ao} {k:jl→Nat→Prop} {gd:Bool}
def Jd (P:Program) (ops:List Oper) (n:Nat) (o:Oper) (ρ:Nat→AV) (κ:Nat→ao) (gd:Bool) (hd:Option Nat) (C:dx→Prop) (m:Nat) (I:Inv) (l:List AV):Prop :=
 ∀ρ' κ' rd bx,AJ ops o ρ ρ' κ κ' rd bx→∀(g:dx) (a:Act) (w:World) (G:Gh),C g→bY g n ρ' κ' a w G→gd=true →
  ∃vs:List Value,bP G l vs∧∀F,fQ F→∀β:Nat→Option Nat,(∀i,hd=some i→β 0=G.β i)→∀K:Act→World→Prop,
   I β vs w (fun e w'=>∃v,e=.returned v∧K (a.put o.dst v) w')→o.wpIn F 0 P a w K (fun _ _ _=>False)
theorem lx {hd:Option Nat} {I:Inv} {l:List AV} {σ:List Nat} {cj:List AV} {K0:ah} {ex:Nat} {R:List AV→ah→Prop} (hI:tM I) (cK:zy I cj σ.length K0 ex R)
  (hn:∀i,nx≤i→κ i=.none) (eP:(gR κ σ nx l cj K0 && GV hd σ)=true) (Pb:ed 0 κ (aa (bV (sg σ nx) dB K0)) (dF (sg σ nx) dB cj) l) (Ic:oW 0 κ (aa (bV (sg σ nx) dB K0)) (bV (sg σ nx) dB K0))
  (gh:∀rs K1,R rs K1→ga σ ex K0 K1 rs=true) (bB:∀j,j<σ.length→(aa K0 j).pass=true)
  {ρ':Nat→AV} {κ':Nat→ao} {g:dx} {a:Act} {w:World} {G:Gh} (dg:g.m≤nx) (aj:bY g n ρ' κ' a w G) {vs:List Value} (dt:bP G l vs)
  (au:∀i,i∈σ++(dA κ (dF (sg σ nx) dB cj) l++ef κ (bV (sg σ nx) dB K0))++lu nx ex→κ' i=κ i) :
  ∃β:Nat→Option Nat,(∀i,hd=some i→β 0=G.β i)∧I β vs w fun e w2=>∃v rs K1 G3,e=.returned v∧R rs K1 ∧
   bY g n ρ' (aw κ' (bV (sg σ nx) (ju κ σ) K1++jQ κ (dA κ (dF (sg σ nx) dB cj) l++ef κ (bV (sg σ nx) dB K0)))) a w2 G3∧aD G3 (kZ (sg σ nx) (ju κ σ) (hU rs)) v:=by
 simp only [Bool.and_eq_true] at eP
 obtain ⟨eP,GO⟩:=eP
 simp only [gR,Bool.and_eq_true] at eP
 obtain ⟨⟨⟨⟨⟨⟨Ui,DI⟩,Rn⟩,Xh⟩,Ro⟩,Uj⟩,gI⟩:=eP
 obtain ⟨hσ1,hσ2⟩:=gL Ui
 have dr:=I6 (nx:=nx) hσ1 hσ2
 have Bs:∀j (h:j<σ.length),sg σ nx j∈σ:=fun j h=>by rw [iH h]; exact List.getElem_mem h
 simp only [br.wf,Bool.and_eq_true] at Rn Ro
 have NN:∀j,j<σ.length→(aa K0 j).fv=false:=fun j hj=>by
  have:=bB j hj
  cases h:aa K0 j <;> rw [h] at this <;> first | rfl | cases this
 have Rp:∀j,j∈keys K0→∀a b c d e,aa K0 j ≠ .iZ a b c d e:=fun j hj a b c d e h=>by
  have:=bB j (c9 DI j hj)
  rw [h] at this; cases this
 have Rq:∀j,j∈keys K0→aa K0 j ≠ .held:=fun j hj h=>by
  have:=bB j (c9 DI j hj)
  rw [h] at this; cases this
 have Je:∀j,j<σ.length→j∈keys K0:=fun j hj=>by
  refine Classical.byContradiction fun hn=>?_
  have:=NN j hj; rw [fJ hn] at this; cases this
 have Rr:∀j,aa (bV (sg σ nx) dB K0) (sg σ nx j)=if j∈keys K0 then qg (sg σ nx) dB j (aa K0 j) else .none:=fun j=>by
  rw [fy (bV (sg σ nx) dB K0)]; exact nV dr _ K0 j
 have Pc:∀j,j<σ.length→(aa (bV (sg σ nx) dB K0) (sg σ nx j)).fv=false:=fun j hj=>by
  rw [Rr,if_pos (Je j hj)]
  cases aa K0 j <;> rfl
 have Uk:∀i,(aa (bV (sg σ nx) dB K0) i).fv=false→i∈σ:=fun i hi=>by
  rcases fG (K:=bV (sg σ nx) dB K0) (i:=i) with h | h
  ·rw [h] at hi; cases hi
  ·obtain ⟨j,h1,rfl⟩:=kE h
   exact Bs j (c9 DI j h1)
 have auσ:∀i,i∈σ→κ' i=κ i:=fun i hi=>au i (List.mem_append.2 (.inl (List.mem_append.2 (.inl hi))))
 have L1:∀i,i∈dA κ (dF (sg σ nx) dB cj) l++ef κ (bV (sg σ nx) dB K0)→κ' i=κ i:=fun i hi=>au i (List.mem_append.2 (.inl (List.mem_append.2 (.inr hi))))
 have Ul:∀i,nx≤i→i<nx+ex→κ' i=.none:=fun i h1 h2=>(au i (List.mem_append.2 (.inr (vh h1 h2)))).trans (hn i h1)
 generalize VV:dA κ (dF (sg σ nx) dB cj) l++ef κ (bV (sg σ nx) dB K0)=F at *
 obtain ⟨G1,f1,f2,f3,f4,mq⟩:=aj.nN (κ:=κ) F L1
 have hs:∀i,Bk 0 κ (aa (bV (sg σ nx) dB K0)) F i:=by
  intro i
  rcases fG (K:=bV (sg σ nx) dB K0) (i:=i) with h | h
  ·unfold Bk; rw [h]; exact ⟨tv,rfl,by simp [sN]⟩
  ·exact ⟨(kC Ic i _ h).1,(qc Ro.1 i _ h).2,fun j hj=>by rw [←VV]; exact List.mem_append.2 (.inr ((kC Ic i _ h).2 j hj))⟩
 obtain ⟨Rs,Pd⟩:=NH (m:=0) (κ:=κ) (κc:=κ') aj.fit f1 f2 f3 f4 L1 (fun i hi=>auσ i (Uk i hi)) mq.fit gI hs
 have bK:=(mO (m:=0) (κ:=κ) (κ':=aa (bV (sg σ nx) dB K0)) (w:=w) f1 f2 f3 L1 mq.fit (SizeOf.sizeOf (dF (sg σ nx) dB cj)+1)).2 _ l vs (by omega) Pb Uj (fun i hi=>by rw [←VV]; exact List.mem_append.2 (.inl hi)) dt
 obtain ⟨Rt,sV⟩:=L0 dr Rs (fun j hj h=>by have:=NN j (c9 DI j hj); rw [h] at this; cases this) Rp Rq (fun j c hc=>by
  rcases fG (K:=K0) (i:=j) with h | h
  ·rw [h] at hc; cases hc
  ·have:=(qc Rn.1 j _ h).2
   rw [hc] at this
   simp only [ao.QC,Bool.and_eq_true] at this
   exact this.2)
 have Pe:=(I7 (r:=sg σ nx) (SizeOf.sizeOf cj+1)).2 cj vs (by omega) bK
 have hβ0:∀j,j<σ.length→(pull (sg σ nx) (dz 0 κ (aa (bV (sg σ nx) dB K0)) G1)).β j=G1.β (sg σ nx j):=fun j hj=>by
  simp only [pull,dz,reβ,Pc j hj]
 refine ⟨(pull (sg σ nx) (dz 0 κ (aa (bV (sg σ nx) dB K0)) G1)).β,fun i hi=>?_,hI _ _ _ _ _ ?_ (cK w _ vs (aj.oa.mono (aj.mem.trans f1.mem)) Rt Pe)⟩
 ·subst hi
  obtain ⟨h1,h2⟩:=GU (nx:=nx) GO
  rw [hβ0 0 h1,f2,h2]
 ·rintro e w2 ⟨v,rs,K1,G2,rfl,VW,hC⟩
  have hκ1:=mQ (κ:=κ) (κ':=κ') (ids:=F) L1
  obtain ⟨t1,t2,t3⟩:=GR (κ:=κ) (κ1:=aw κ' (jQ κ F)) (G1:=G1) (nx:=nx) hσ1 hσ2 (fun i h1 h2=>by
    rw [hκ1,hn i h1,Ul i h1 h2]; simp [ao.dP]) mq.fit
   (fun i hi V E d hk=>by
    have hb:=aj.fit.box i
    rw [auσ i hi,hk] at hb
    rw [f3]; exact ⟨hb.2.2.1,hb.2.2.2⟩)
   (fun i hi hk v e p=>by
    have hb:=aj.fit.box i
    rw [auσ i hi,hk] at hb
    rw [f3]; exact hb.2 v e p)
   (fun j hj V E d hk=>by
    have dk:=Pc j hj
    have hz:iw 0 (sg σ nx j) V E=(0,0):=tI (by omega)
    have key:∀p,aA (tH 0 κ (aa (bV (sg σ nx) dB K0)) G1.H) (sg σ nx j) 0 0 p=aA G1.H (sg σ nx j) V E p:=fun p=>by
     have:=mN (m:=0) (H:=G1.H) hk dk p
     rw [hz] at this; exact this
    refine ⟨fun x hx=>?_,fun s q x hx=>?_⟩
    ·have:=key []; simp only [aA] at this; simp only [pull,dz]; rw [this]; exact hx
    ·have:=key (s::q); simp only [aA] at this; simp only [pull,dz]; rw [this]; exact hx)
   (fun j hj V d hk=>by
    have hb:=mq.fit.box (sg σ nx j)
    have Lv:aw κ' (jQ κ F) (sg σ nx j)=.fz V d:=by rw [hκ1,auσ _ (Bs j hj),hk]; simp [ao.dP]
    rw [Lv] at hb
    obtain ⟨x,h1,_⟩:=hb
    refine ⟨x,h1,?_⟩
    simp only [pull,dz,tH,Pc j hj,hk]
    have:=(jt 0 (G1.H (sg σ nx j)) (sg σ nx j) V 0 (.el 0 0) []).1
    rw [tI (by omega)] at this
    rw [this]; exact h1)
   hβ0 rfl
   (fun j b ho=>by
    obtain ⟨h1,h2⟩:=sV j b ho
    exact ⟨c9 DI j h1,Pd _ b h2⟩)
   (fun j hj=>by
    obtain ⟨hx,_,_⟩:=hs (sg σ nx j)
    rw [Rr,if_pos (Je j hj)] at hx
    refine ⟨fun v e d h0=>?_,fun v d h0=>?_⟩
    ·rw [h0] at hx
     cases hk:κ (sg σ nx j) with
     | tree V E d=>exact .inl ⟨_,_,_,rfl⟩
     | none=>exact .inr rfl
     | _=>rw [hk] at hx; exact hx.elim
    ·rw [h0] at hx
     cases hk:κ (sg σ nx j) with
     | tree V E d=>exact .inl ⟨_,_,_,rfl⟩
     | fz V d=>exact .inr ⟨_,_,rfl⟩
     | _=>rw [hk] at hx; exact hx.elim)
   (gh rs K1 VW) hC
  have FJ:=mq.oK t1 (fun i hi=>t2 i (by omega))
  refine ⟨v,rs,K1,_,rfl,VW,FJ.congr ?_,t3⟩
  rw [sS]
theorem xR {hd:Option Nat} {S:List AV→Nat→ah→Nat→(List AV→ah→Prop)→Prop} {I:Nat→Inv} {ok:Nat→Prop} {l:List AV} (hS:∀args m K ex R,S args m K ex R→ok m∧zy (I m) args m K ex R) (hI:∀m,tM (I m)) (c6:∀c,o.op ≠ .defer c)
  (hn:∀i,nx≤i→κ i=.none) (hg:bJ ρ ops o.guard=some gd) (bp:∀m,ok m→Jd P ops n o ρ κ gd hd C m (I m) l) (h:kf hd S n o gd nx κ k l):Good P C ops n o nx ρ κ k:=by
 obtain ⟨σ,cj,K0,ex,rs,K1,cK,eP,gh,Pb,Ic,hk⟩:=h
 rw [(eW (SizeOf.sizeOf (kZ (sg σ nx) (ju κ σ) (hU rs))+1)).1 _ _ (by omega),vj,kG,qi] at hk
 have NO:=gh
 simp only [ga,Bool.and_eq_true] at NO
 obtain ⟨⟨⟨eb,DN⟩,_⟩,_⟩:=NO
 have hσ1:∀i,i∈σ→i<nx:=by
  have:=eP
  simp only [gR,Bool.and_eq_true] at this
  exact (gL this.1.1.1.1.1.1.1).1
 have dI:∀p,p∈bV (sg σ nx) (ju κ σ) K1++jQ κ (dA κ (dF (sg σ nx) dB cj) l++ef κ (bV (sg σ nx) dB K0))→p.1<nx+ex:=by
  intro p hp
  rcases List.mem_append.1 hp with hp | hp
  ·obtain ⟨j,h1,h2⟩:=kE (i:=p.1) (b:=p.2) hp
   have hj:=c9 DN j h1
   rw [h2]
   rcases Nat.lt_or_ge j σ.length with aJ | du
   ·have:=hσ1 _ (by rw [iH aJ]; exact List.getElem_mem aJ:sg σ nx j∈σ); omega
   ·rw [ib du]; omega
  ·have:=rh hn hp; omega
 refine Bt c6 hg hk (Nat.le_add_right _ _) dI fun ρ' κ' au Fn hF g a w G dg aj aL K hK=>?_
 obtain ⟨vs,dt,jW⟩:=bp σ.length (hS _ _ _ _ _ cK).1 ρ' κ' _ _ au g a w G dg.2 aj aL
 obtain ⟨β,hβ,aZ⟩:=lx (hd:=hd) (hI _) (hS _ _ _ _ _ cK).2 hn eP Pb Ic (fun oU Xi hR=>by obtain ⟨rfl,rfl⟩:=hR; exact gh) (fun j hj=>by
  rcases ic eb j hj with ⟨_,_,h,_⟩ | ⟨_,_,_,_,_,_,h,_⟩ | ⟨_,_,_,h,_⟩ | ⟨_,_,_,h,_⟩ <;> rw [h] <;> rfl) dg.1 aj dt au.reads
 refine jW Fn hF β hβ K (hI _ _ _ _ _ _ ?_ aZ)
 rintro e w2 ⟨v,oU,Xi,G3,rfl,⟨rfl,rfl⟩,h1,h2⟩
 exact ⟨v,rfl,hK v w2 G3 h1 h2⟩
theorem vk {f:Nat} {l:List AV} (bp:q9 P ops o ρ κ gd f l) (hc:gZ P f) (m:Nat):Jd P ops n o ρ κ gd none C m (FH P f) l:=by
 intro ρ' κ' rd bx au g a w G _ aj aL
 obtain ⟨vs,aZ,dt⟩:=bp.2 ρ' κ' rd bx au g n a w G aj aL hc
 exact ⟨vs,dt,fun F hF β _ K hI=>ra hF bp.1 aZ hI⟩
theorem Bu {c:Call} {t i:Nat} {l:List AV} (ho:o.op=.call c) (hc:c.callee=.value (.tmp t)) (hv:bk ρ κ gd (.tmp t) (.fq i)) (bp:jV ρ κ gd c.args.toList l) (m:Nat):Jd P ops n o ρ κ gd (some i) C m (FI P) l:=by
 intro ρ' κ' rd bx au g a w G _ aj aL
 have dt:=jV.rel aj aL bp (fun x hx=>au.op (by rw [ho]; simp only [Op.operands,Call.operands,hc]; exact Array.mem_append.2 (.inr (by simpa using hx))))
 have uy:=hv ρ' κ' (au.op (by rw [ho]; simp only [Op.operands,Call.operands,hc]; exact Array.mem_append.2 (.inl (by simp)))) g n a w G aj aL
 have bK:(List.map a.eval c.args.toList).toArray=c.args.map a.eval:=by rw [←Array.toList_map,Array.toArray_toList]
 generalize hx:a.eval (.tmp t)=x at uy
 cases uy with | fq _ b hb =>
 refine ⟨_,dt,fun F hF β hβ K hI=>?_⟩
 obtain ⟨l',h1,fn,tmps,assign,body,w1,h2,h3⟩:=hI
 rw [hβ i rfl,hb] at h1
 injection h1 with h1
 subst h1
 rw [bK] at h2
 have aZ:(execOp a.eval o).run P w=.ok (.round b fn tmps assign body) w1:=by
  rw [←h2]
  simp [execOp,ho,resolve,hc,hx,Deferred.ofValue,invoke]
 refine ⟨fun f _=>hF.fn f,?_⟩
 rw [Oper.semAt_plain F _ _ (fun c=>by rw [ho]; simp),aZ,Oper.uponIn_round]
 refine ⟨fun h=>(by rw [hF.depth] at h; cases h),hF.round.2 (RoundIn.mono h3 ?_)⟩
 rintro e w' ⟨v,rfl,hk⟩
 exact hk
theorem aq (P:Program):cU P (fun _=>True):=by
 intro ops n o nx ρ κ k hn
 refine ⟨fun {gd f l} hg bp h=>?_,fun hg ho hc hv bp h=>?_⟩
 ·have S4:gZ P f:=by obtain ⟨_,_,_,_,_,_,cK,_⟩:=h; exact cK.1
  exact xR (I:=fun _=>FH P f) (ok:=fun _=>True) (fun _ _ _ _ _ hs=>⟨tv,hs.2⟩) (fun _=>jy P _) bp.1 hn hg (fun m _=>vk bp S4 m) h
 ·exact xR (I:=fun _=>FI P) (ok:=fun _=>True) (fun _ _ _ _ _ hs=>⟨tv,hs⟩) (fun _=>DM P) (fun c=>by rw [ho]; simp) hn hg (fun m _=>Bu ho hc hv bp m) h
end
end Go.TM
namespace Go.TM
open Go.RowKit
variable [ct]
section
variable {P:Program} {C:dx→Prop} {T:List TI}
theorem vl {kt:Nat} {d:TypeDesc} {s:KS} (hd:P.underlying kt=some d) (h:∀k v,s.ok k=true→bz k=some v→MapKept.IsKey d v):rH P kt s where
 check w em v:=fun ⟨k,h1,h2⟩=>MapKept.run_checkKey hd (h k v h1 h2) em 9999
 find w x:=fun ⟨k,h1,h2⟩ es sQ=>by
  rcases MapKept.findNow_spec (h k x h1 h2) es 0 (fun e he=>let ⟨k',Rg,Dg⟩:=sQ e he; h k' _ Rg Dg) with ⟨q1,q2⟩ | ⟨j,e,q1,q2,q3⟩
  ·exact .inl ⟨MapKept.run_findKey hd q1,q2⟩
  ·exact .inr ⟨j,e,by simpa using MapKept.run_findKey (P:=P) (w:=w) hd q1,q2,q3⟩
 stays w v:=fun ⟨k,h1,h2⟩=>MapKept.run_keyThatStays (h k v h1 h2)
def GW:KS:=⟨false,[.int .i64]⟩
def Pf:KS:=⟨false,[.str]⟩
theorem Bv (hT:ec P T) {kt:Nat} (h:((nth T kt).ok && (nth T kt).Di == some .i64)=true):rH P kt GW:=by
 simp only [Bool.and_eq_true,beq_iff_eq] at h
 obtain ⟨i,u,z,tf⟩:=hT.facts h.1
 have hu:u=.int .i64:=by
  have:=tf.Di
  rw [h.2] at this
  cases u <;> simp [AW] at this
  rw [this]
 refine vl (d:=.int .i64) (by rw [tf.xE,hu]) fun k v hk hv=>?_
 cases k <;> simp [KS.ok,GW,pI] at hk
 subst hk
 simp [bz,DV.val?] at hv
 subst hv
 rfl
theorem Jf (hT:ec P T) {kt:Nat} (h:((nth T kt).ok && (nth T kt).isStr)=true):rH P kt Pf:=by
 simp only [Bool.and_eq_true] at h
 obtain ⟨i,u,z,tf⟩:=hT.facts h.1
 refine vl (d:=.string) (tf.string h.2) fun k v hk hv=>?_
 cases k <;> simp [KS.ok,Pf,pI] at hk
 simp [bz,DV.val?] at hv
 subst hv
 trivial
def eg:KS:=⟨true,[.int .i64,.int .i64]⟩
theorem GX {k:DV} {v:Value} (h:eg.ok k=true) (hv:bz k=some v):∃a b:Int,v=.agg #[.int .i64 a,.int .i64 b]:=by
 cases k with
 | agg l =>
  match l,h with
  | [x,y],h =>
   cases x <;> simp [KS.ok,eg,jk,pI] at h
   cases y <;> simp [pI] at h
   obtain ⟨rfl,rfl⟩:=h
   simp [bz,DV.fE,DV.val?] at hv
   exact ⟨_,_,hv.symm⟩
  | [],h=>simp [KS.ok,eg,jk] at h
  | [_],h=>simp [KS.ok,eg,jk] at h
  | _::_::_::_,h=>simp [KS.ok,eg,jk] at h
 | _=>simp [KS.ok,eg] at h
theorem qj {t:Option TypeDesc} (h:xS t=true):t=some (.int .i64):=by
 cases t with
 | none=>simp [xS] at h
 | some d=>cases d <;> simp [xS] at h; rename_i k; cases k <;> simp [xS] at h; rfl
theorem eB {w:World} {e:TypeId} (he:P.underlying e=some (.int .i64)) {xs:Array Value} {off:Nat} {v:Value} (hx:xs[off]?=some v):(part e xs off).run P w=.ok v w:=by
 simp [part,isAgg,run_underlying he,hx]
theorem DO {kt:Nat} {fs:Array Field} (hu:P.underlying kt=some (.struct fs)) (hp:Bw P fs.toList=true) (hs:P.stoodInHeld kt=false) (w:World) (a b c d:Int) :
  (Op.equal kt (.agg #[.int .i64 a,.int .i64 b]) (.agg #[.int .i64 c,.int .i64 d])).run P w=.ok (a == c && b == d) w:=by
 have hf:P.fieldsOf kt=fs:=by simp [Program.fieldsOf,hu]
 have key:∀D,(Op.equalIn (D+2) kt (.agg #[.int .i64 a,.int .i64 b]) (.agg #[.int .i64 c,.int .i64 d])).run P w=.ok (a == c && b == d) w:=by
  intro D
  rw [run_equalIn_struct w (D+1) kt _ _ (by rw [hf]; exact hu) hs,hf]
  match hl:fs.toList,hp with
  | [x,y],hp =>
   simp only [hl,Bw,Bool.and_eq_true,bne_iff_ne] at hp
   obtain ⟨⟨⟨⟨⟨n1,n2⟩,o1⟩,o2⟩,i1⟩,i2⟩:=hp
   have o1:=Nat.eq_of_beq_eq_true o1
   have o2:=Nat.eq_of_beq_eq_true o2
   have i1:=qj i1
   have i2:=qj i2
   simp only [Op.eqFields,n1,n2,ne_eq,not_false_eq_true,if_true,Sem.run_bind,o1,o2]
   rw [eB (v:=.int .i64 a) i1 (by simp)]
   simp only [Result.andThen_ok]
   rw [eB (v:=.int .i64 c) i1 (by simp)]
   simp only [Result.andThen_ok]
   rw [run_equalIn_int w D x.type .i64 .i64 a c i1]
   simp only [Result.andThen_ok]
   cases QH:a == c with
   | false=>simp
   | true =>
    simp only [Bool.not_true,Bool.false_eq_true,if_false,Sem.run_bind]
    rw [eB (v:=.int .i64 b) i2 (by simp)]
    simp only [Result.andThen_ok]
    rw [eB (v:=.int .i64 d) i2 (by simp)]
    simp only [Result.andThen_ok]
    rw [run_equalIn_int w D y.type .i64 .i64 b d i2]
    simp only [Result.andThen_ok]
    cases GD:b == d <;> simp
 simp only [Op.equal,Op.maxDepth,key 9998]
theorem xT (hT:ec P T) {kt:Nat} (h:((nth T kt).ok && (nth T kt).pair)=true):rH P kt eg:=by
 simp only [Bool.and_eq_true] at h
 obtain ⟨i,u,z,tf⟩:=hT.facts h.1
 have hp:=tf.pair
 rw [h.2] at hp
 have hp:=hp.symm
 simp only [Bool.and_eq_true,Bool.not_eq_true'] at hp
 obtain ⟨fs,rfl⟩:∃fs,u=.struct fs:=by
  cases u <;> simp [DP] at hp
  exact ⟨_,rfl⟩
 have hl:Bw P fs.toList=true:=hp.1
 have hu:=tf.xE
 have hv:∀{v:Value},(∃d,eg.ok d=true∧bz d=some v)→∃a b:Int,v=.agg #[.int .i64 a,.int .i64 b]:=fun ⟨d,h1,h2⟩=>GX h1 h2
 refine ⟨fun w em v hk=>?_,fun w x hx es sQ=>?_,fun w v hk=>?_⟩
 ·obtain ⟨a,b,rfl⟩:=hv hk
  have key:∀D,(Instr.checkKey em (D+2) kt (.agg #[.int .i64 a,.int .i64 b])).run P w=.ok () w:=by
   intro D
   match hf:fs,hl with
   | ⟨[x,y]⟩,hl =>
    simp only [Bw,Bool.and_eq_true,bne_iff_ne] at hl
    obtain ⟨⟨⟨⟨⟨n1,n2⟩,o1⟩,o2⟩,i1⟩,i2⟩:=hl
    have o1:=Nat.eq_of_beq_eq_true o1
    have o2:=Nat.eq_of_beq_eq_true o2
    have i1:=qj i1
    have i2:=qj i2
    have c1:∀(E:Nat) (n:Int),(Instr.checkKey em (E+1) x.type (.int .i64 n)).run P w=.ok () w:=fun E n=>by simp [Instr.checkKey,run_underlying i1]
    have c2:∀(E:Nat) (n:Int),(Instr.checkKey em (E+1) y.type (.int .i64 n)).run P w=.ok () w:=fun E n=>by simp [Instr.checkKey,run_underlying i2]
    rw [Instr.checkKey]
    simp only [Sem.run_bind,run_underlying hu,Result.andThen_ok]
    simp [n1,n2,o1,o2,eB (v:=.int .i64 a) i1,eB (v:=.int .i64 b) i2,c1,c2]
  exact key 9998
 ·have hw:(match P.underlying kt with | some (.array _ _) | some (.struct _)=>true | _=>false)=true:=by rw [hu]
  obtain ⟨a,b,rfl⟩:=hv hx
  have key:∀(es:List MapEntry) (i:Nat),(∀e,e∈es→∃d,eg.ok d=true∧bz d=some e.key) →
    ((Instr.findAsking kt (.agg #[.int .i64 a,.int .i64 b]) es i).run P w=.ok none w∧∀e,e∈es→e.key ≠ .agg #[.int .i64 a,.int .i64 b]) ∨
    ∃j e,(Instr.findAsking kt (.agg #[.int .i64 a,.int .i64 b]) es i).run P w=.ok (some (i+j,e.val)) w∧es[j]?=some e∧e.key=.agg #[.int .i64 a,.int .i64 b]:=by
   intro es
   induction es with
   | nil=>intro i _; exact .inl ⟨by simp [Instr.findAsking],by simp⟩
   | cons e r ih =>
    intro i sQ
    obtain ⟨c,d,hk⟩:=hv (sQ e (by simp))
    have heq:=DO hu hl hp.2 w a b c d
    rw [←hk] at heq
    cases hb:(a == c && b == d) with
    | true =>
     rw [hb] at heq
     simp only [Bool.and_eq_true,beq_iff_eq] at hb
     refine .inr ⟨0,e,?_,rfl,by rw [hk,hb.1,hb.2]⟩
     simp only [Instr.findAsking,Sem.run_bind,heq,Result.andThen_ok,if_true,Sem.run_pure,Nat.add_zero]
    | false =>
     rw [hb] at heq
     have bB:e.key ≠ .agg #[.int .i64 a,.int .i64 b]:=by
      rw [hk]
      intro e'
      simp only [Value.agg.injEq,Array.mk.injEq,List.cons.injEq,Value.int.injEq,true_and,and_true] at e'
      obtain ⟨rfl,rfl⟩:=e'
      simp at hb
     have aZ:(Instr.findAsking kt (.agg #[.int .i64 a,.int .i64 b]) (e::r) i).run P w=(Instr.findAsking kt (.agg #[.int .i64 a,.int .i64 b]) r (i+1)).run P w:=by
      simp only [Instr.findAsking,Sem.run_bind,heq,Result.andThen_ok,Bool.false_eq_true,if_false]
     rcases ih (i+1) (fun e he=>sQ e (by simp [he])) with ⟨q1,q2⟩ | ⟨j,e',q1,q2,q3⟩
     ·exact .inl ⟨aZ.trans q1,fun e0 L2=>by rcases List.mem_cons.1 L2 with rfl | L2; exact bB; exact q2 _ L2⟩
     ·exact .inr ⟨j+1,e',by rw [aZ,q1]; congr 3; omega,by simpa using q2,q3⟩
  rw [run_findKey_eq w hw]
  rcases key es 0 sQ with h1 | ⟨j,e,q1,q2,q3⟩
  ·exact .inl h1
  ·exact .inr ⟨j,e,by simpa using q1,q2,q3⟩
 ·obtain ⟨a,b,rfl⟩:=hv hk
  have:Instr.sameBits 10000 (.agg #[.int .i64 a,.int .i64 b]) (.agg #[.int .i64 a,.int .i64 b])=true:=by simp [Instr.sameBits]
  simp [Instr.keyThatStays,this]
end
end Go.TM
namespace Go.TM
open Go.RowKit
variable [ct]
theorem qk (ρ:Nat→AV):∀(k s:Nat),(bs ρ s k).length=k
 | 0,_=>rfl
 | k+1,s=>by simp [bs,qk ρ k]
theorem xU (ρ:Nat→AV):∀(k s j:Nat) (v:AV),(bs ρ s k)[j]?=some v→v=ρ (s+j)
 | 0,_,j,v,h=>by simp [bs] at h
 | k+1,s,0,v,h=>by simp [bs] at h; exact h.symm
 | k+1,s,j+1,v,h=>by
  simp only [bs,List.getElem?_cons_succ] at h
  rw [xU ρ k (s+1) j v h,Nat.add_right_comm,Nat.add_assoc]
section
variable {g:dx} {n:Nat} {ρ:Nat→AV} {κ:Nat→ao} {a:Act} {w:World} {G:Gh}
theorem bY.Jg (h:bY g n ρ κ a w G) {i b:Nat} {o:Obj} {bx:ao} (gB:bG G i (κ i) b) (Ru:∀c,bG G i bx c→c=b) (rG:fF G (w.putObj b o) i bx) :
  bY g n ρ (gx κ i bx) a (w.putObj b o) G:=by
 have aJ:b<w.heap.size:=gB.lt h.fit
 have VX:G.M b=none:=h.fit.own i b gB
 refine h.oK (C:=fun j=>j=i) ⟨.refl G,fun _ _=>rfl,fun j hj=>ae _ _ hj,fun _ _=>⟨fun _ q=>q,fun _ _ _ _ q=>q⟩,fun c hc dk=>⟨eV _ _ (fun e=>dk i rfl (by rw [e]; exact gB)),rfl⟩,fun c o' hc=>?_,?_,?_,fun _ _ _ h1 h2 _ _=>h1.trans h2.symm,by rw [putObj_size]; exact Nat.le_refl _,rfl,rfl,rfl⟩ (fun _ _=>rfl)
 ·rw [eV _ _ (fun e=>by rw [e,VX] at hc; cases hc)]; exact h.fit.sub c o' hc
 ·rintro j rfl
  rw [aW]; exact rG
 ·rintro j c rfl ho
  rw [aW] at ho
  have:=Ru c ho
  subst this
  exact ⟨.inr ⟨j,rfl,gB⟩,VX⟩
theorem bY.zA (h:bY g n ρ κ a w G) {i b:Nat} {rc:RC} {st:AH} {l:List AV} (hi:κ i=.ey rc st l) (hb:G.β i=some b) :
  ∃r:Loop,w.heap[b]?=some (.loop r)∧r.state=st.st∧r.pending=st.Df∧(∀NL:AH,bY g n ρ (gx κ i (.ey rc NL l)) a (w.putObj b (.loop { r with state:=NL.st,pending:=NL.Df })) G) ∧
   ∀o,bY g n ρ (gx κ i .dead) a (w.putObj b o) G:=by
 have hx:=h.fit.box i
 rw [hi] at hx
 obtain ⟨b',fn,tmps,D,h1,h2,h3⟩:=hx
 rw [hb] at h1; injection h1 with h1; subst h1
 have aJ:b<w.heap.size:=(Array.getElem?_eq_some_iff.1 h2).1
 have gB:bG G i (κ i) b:=by rw [hi]; exact hb
 refine ⟨_,h2,rfl,rfl,fun NL=>h.Jg gB (fun c hc=>?_) ⟨b,fn,tmps,D,hb,World.putObj_heap_same aJ,h3⟩,fun o=>h.Jg gB (fun c hc=>hc.elim) trivial⟩
 have mo:G.β i=some c:=hc
 rw [hb] at mo; injection mo with mo; exact mo.symm
def dx.upto (g:dx) (m:Nat) (β:Nat→Option Nat):dx:={ g with m:=m,β:=β,H:=fun i p=>if i<g.m then g.H i p else none }
theorem bY.upto (h:bY g n ρ κ a w G) (m:Nat):bY (g.upto m G.β) n ρ κ a w G:=by
 refine ⟨h.fit,h.env,h.size,h.xB,h.os,h.tape,h.output,h.grow,h.mem,h.mD,h.fV,fun _ _=>rfl,fun i _ p x hx=>?_,h.oa,h.q7⟩
 have wR:(if i<g.m then g.H i p else none)=some x:=hx
 split at wR
 ·rename_i hi; exact h.q6 i hi p x wR
 ·cases wR
theorem bY.Jh {β:Nat→Option Nat} {m:Nat} (h:bY (g.upto m β) n ρ κ a w G) (hm:g.m≤m) (hβ:∀i,i<g.m→β i=g.β i):bY g n ρ κ a w G:=by
 refine ⟨h.fit,h.env,h.size,h.xB,h.os,h.tape,h.output,h.grow,h.mem,h.mD,h.fV,fun i hi=>(h.jR i (Nat.lt_of_lt_of_le hi hm)).trans (hβ i hi),fun i hi p x hx=>h.q6 i (Nat.lt_of_lt_of_le hi hm) p x ?_,h.oa,h.q7⟩
 show (if i<g.m then g.H i p else none)=some x
 rw [if_pos hi]; exact hx
theorem bY.enterLoop (h:bY g n ρ κ a w G) {nx:Nat} (hn:κ nx=.none) (dg:g.m≤nx) (rc:RC) (fn:FuncId) :
  bY g n ρ (gx κ nx (.ey rc .ready (bs ρ 0 n))) { a with defers:=mark w.heap.size::a.defers } ((w.alloc (.deferred (some []))).alloc (.loop { state:=.ready,pending:=none,fn:=fn,tmps:=a.tmps,params:=rc.ps,assign:=rc.as,body:=rc.bd,defers:=w.heap.size })) { G with β:=gx G.β nx (some (w.heap.size+1)) } ∧
   Gh.Le G { G with β:=gx G.β nx (some (w.heap.size+1)) }:=by
 have O2:=h.fit.box nx
 rw [hn] at O2
 generalize hr:({ state:=.ready,pending:=none,fn:=fn,tmps:=a.tmps,params:=rc.ps,assign:=rc.as,body:=rc.bd,defers:=w.heap.size }:Loop)=r
 have hle:Gh.Le G { G with β:=gx G.β nx (some (w.heap.size+1)) } :=
  ⟨Mem.Le.refl _,fun i b hb=>by
   by_cases e:i=nx
   ·subst e; rw [O2.1] at hb; cases hb
   ·show gx G.β nx _ i=some b
    rw [ae _ _ e]; exact hb,fun _ _ _ _ _ q=>q⟩
 have aT:((w.alloc (.deferred (some []))).alloc (.loop r)).heap.size=w.heap.size+2:=by rw [World.size_alloc,World.size_alloc]
 have wX:∀b,b<w.heap.size→((w.alloc (.deferred (some []))).alloc (.loop r)).heap[b]?=w.heap[b]?:=fun b hb=>by
  rw [aU _ _ (by rw [World.size_alloc]; omega),aU _ _ hb]
 have OS:((w.alloc (.deferred (some []))).alloc (.loop r)).heap[w.heap.size]?=some (.deferred (some [])):=by
  rw [aU _ _ (by rw [World.size_alloc]; omega)]; exact cg _ _
 have Um:((w.alloc (.deferred (some []))).alloc (.loop r)).heap[w.heap.size+1]?=some (.loop r):=by
  have:=cg (w.alloc (.deferred (some []))) (.loop r)
  rwa [World.size_alloc] at this
 have Un:G.M.In ((w.alloc (.deferred (some []))).alloc (.loop r)):=(h.fit.sub.alloc _).alloc _
 have Rv:∀b,w.heap.size≤b→G.M b=none:=fun b hb=>Mem.In.pM h.fit.sub hb
 have ov:bP { G with β:=gx G.β nx (some (w.heap.size+1)) } (bs ρ 0 n) a.tmps.toList:=by
  refine ⟨by rw [qk]; simp [h.size],fun j d v hd hv=>?_⟩
  have:=xU ρ n 0 j d hd
  rw [Nat.zero_add] at this
  subst this
  have he:=(h.env j).mono hle
  have iY:a.tmps.getD j undef=v:=by
   rw [Array.getD_eq_getD_getElem?]
   rw [Array.getElem?_toList] at hv
   rw [hv]; rfl
  rw [iY] at he; exact he
 have st:=h.oK (κ':=gx κ nx (.ey rc .ready (bs ρ 0 n))) (G':={ G with β:=gx G.β nx (some (w.heap.size+1)) }) (w':=(w.alloc (.deferred (some []))).alloc (.loop r)) (C:=fun j=>j=nx)
  ⟨hle,fun _ _=>rfl,fun j hj=>ae _ _ hj,fun j hj=>⟨fun x hx=>by
    have:gx G.β nx (some (w.heap.size+1)) j=some x:=hx
    rwa [ae _ _ hj] at this,fun _ _ _ _ q=>q⟩,fun b hb _=>⟨wX b hb,rfl⟩,Un,by
    rintro j rfl
    rw [aW]
    exact ⟨w.heap.size+1,fn,a.tmps,w.heap.size,aW _ _ _,by rw [Um,←hr]; rfl,ov⟩,by
    rintro j b rfl ho
    rw [aW] at ho
    have hb:some (w.heap.size+1)=some b:=by
     have:gx G.β j (some (w.heap.size+1)) j=some b:=ho
     rwa [aW] at this
    injection hb with hb
    exact ⟨.inl (by omega),Rv b (by omega)⟩,fun _ _ _ h1 h2 _ _=>h1.trans h2.symm,by rw [aT]; omega,rfl,rfl,rfl⟩
  (fun i hi=>by
   show gx G.β nx _ i=G.β i
   exact ae _ _ (by omega))
 refine ⟨{ st with q7:=?_ },hle⟩
 obtain ⟨D,h1,h2,h3⟩:=h.q7
 have Pg:∀q,q∈D→q<w.heap.size:=fun q hq=>(Array.getElem?_eq_some_iff.1 (h3 q hq).1).1
 have key:∀i,∀q,q≤w.heap.size→bG { G with β:=gx G.β nx (some (w.heap.size+1)) } i (gx κ nx (.ey rc .ready (bs ρ 0 n)) i) q→bG G i (κ i) q:=by
  intro i q hq ho
  by_cases e:i=nx
  ·subst e
   rw [aW] at ho
   have:gx G.β i (some (w.heap.size+1)) i=some q:=ho
   rw [aW] at this
   injection this with this
   omega
  ·rw [ae _ _ e] at ho
   cases hk:κ i with
   | cells l=>rw [hk] at ho; have:gx G.β nx (some (w.heap.size+1)) i=some q:=ho; rwa [ae _ _ e] at this
   | ey rc st l=>rw [hk] at ho; have:gx G.β nx (some (w.heap.size+1)) i=some q:=ho; rwa [ae _ _ e] at this
   | iZ a b c d f=>rw [hk] at ho; exact ho.imp id fun ho=>by have:gx G.β nx (some (w.heap.size+1)) i=some q:=ho; rwa [ae _ _ e] at this
   | _=>rw [hk] at ho; exact ho
 refine ⟨w.heap.size::D,by rw [List.map_cons,←h1],List.nodup_cons.2 ⟨fun hm=>Nat.lt_irrefl _ (Pg _ hm),h2⟩,fun q hq=>?_⟩
 rcases List.mem_cons.1 hq with rfl | hq
 ·exact ⟨OS,fun i ho=>Nat.lt_irrefl _ ((key i _ (Nat.le_refl _) ho).lt h.fit),Rv _ (Nat.le_refl _),h.grow⟩
 ·obtain ⟨a1,a2,a3,a4⟩:=h3 q hq
  exact ⟨by rw [wX q (Pg q hq)]; exact a1,fun i ho=>a2 i (key i q (Nat.le_of_lt (Pg q hq)) ho),a3,a4⟩
end
end Go.TM
namespace Go.TM
open Go.RowKit
variable [ct]
theorem jz (i:Nat) (b:ao) (K:ah):aa ((i,b)::K)=gx (aa K) i b:=by
 funext t
 simp only [aa,gx]
 by_cases h:t=i
 ·subst h; simp
 ·rw [if_neg h]; simp [beq_false h]
theorem ql {κ:Nat→ao}:∀{m:Nat},QE κ m=true→∀j,j<m→(κ j).pass=true
 | 0,_,j,hj=>by omega
 | m+1,h,j,hj=>by
  simp only [QE,Bool.and_eq_true] at h
  rcases Nat.lt_or_ge j m with aJ | du
  ·exact ql h.2 j aJ
  ·have:j=m:=by omega
   subst this; exact h.1
theorem DQ (P:Program):xN P:=by
 intro g n nx env K a w x ps assign body Q R h hs hR
 obtain ⟨rc,rfl,h⟩:=h
 obtain ⟨⟨G,aj⟩,dg,hn⟩:=hs
 have core:∀(f:Nat) (bo:List AV) (vs:List Value),a.eval x=.func (.func f) #[] vs.toArray→bP G bo vs →
   zo P nx env ((nx,.ey ⟨ps,assign,body⟩ .ready (bs (look env) 0 n))::K) f bo Q→(Code.rangeFunc x ps assign body).wpIn Fence.wide 0 P R a w:=by
  intro f bo vs hx ov hh
  obtain ⟨σ,cj,K0,ex,R0,cK,eP,Pb,Ic,gh⟩:=hh
  refine wpIn_rangeFunc fun fn _=>?_
  obtain ⟨mq,hle⟩:=aj.enterLoop (hn nx (Nat.le_refl _)) dg ⟨ps,assign,body⟩ fn
  rw [←jz] at mq
  have DR:=mq.upto (nx+1)
  have yS:∀i,i<g.m→gx G.β nx (some (w.heap.size+1)) i=g.β i:=fun i hi=>by rw [ae _ _ (by omega)]; exact aj.jR i hi
  simp only [Bool.and_eq_true] at eP
  have dt:bP { G with β:=gx G.β nx (some (w.heap.size+1)) } (.fq nx::bo) (.func (.yield (w.heap.size+1)) #[] #[]::vs):=by
   have h1:bP { G with β:=gx G.β nx (some (w.heap.size+1)) } [.fq nx] [.func (.yield (w.heap.size+1)) #[] #[]] :=
    ⟨rfl,fun j d v hd hv=>by
     cases j with
     | zero=>simp at hd hv; subst hd; subst hv; exact .fq nx _ (aW _ _ _)
     | succ j=>simp at hd⟩
   exact h1.append (ov.mono hle)
  obtain ⟨β,_,aZ⟩:=lx (hd:=none) (nx:=nx+1) (κ:=aa ((nx,.ey ⟨ps,assign,body⟩ .ready (bs (look env) 0 n))::K)) (jy P f) cK.2
   (fun i hi=>by rw [jz,ae _ _ (by omega)]; exact hn i (by omega)) (by simp only [Bool.and_eq_true]; exact ⟨eP.1,rfl⟩) Pb Ic (fun rs K1 hr=>(gh rs K1 hr).1) (ql eP.2) (Nat.le_refl _) DR dt (fun _ _=>rfl)
  refine ⟨w.heap.size+1,[mark w.heap.size],((w.alloc (.deferred (some []))).alloc (.loop { state:=.ready,pending:=none,fn:=fn,tmps:=a.tmps,params:=ps,assign:=assign,body:=body,defers:=w.heap.size })),⟨.fn (.func f) vs.toArray,#[.func (.yield (w.heap.size+1)) #[] #[]]⟩,((w.alloc (.deferred (some []))).alloc (.loop { state:=.ready,pending:=none,fn:=fn,tmps:=a.tmps,params:=ps,assign:=assign,body:=body,defers:=w.heap.size })),f,(Value.func (.yield (w.heap.size+1)) #[] #[]::vs).toArray,((w.alloc (.deferred (some []))).alloc (.loop { state:=.ready,pending:=none,fn:=fn,tmps:=a.tmps,params:=ps,assign:=assign,body:=body,defers:=w.heap.size })),run_enterLoop_outer fn a.tmps ps assign body,?_,fun _ _=>trivial,?_,(fun h=>by cases h),?_⟩
  ·have h0:(#[]++Array.map a.eval #[Operand.const (Value.func (Fn.yield (w.heap.size+1)) #[] #[])])=#[Value.func (Fn.yield (w.heap.size+1)) #[] #[]]:=by simp [Act.eval]
   simp only [resolve,rangeCall,hx,Deferred.ofValue,Sem.run_pure]
   rw [h0]
  ·have:(#[Value.func (.yield (w.heap.size+1)) #[] #[]]++vs.toArray)=(Value.func (.yield (w.heap.size+1)) #[] #[]::vs).toArray:=by simp
   simp only [invoke]
   rw [this]
   exact fW cK.1 _ _
  ·refine (fI.calls).2 (Calls.mono aZ ?_)
   rintro e w2 ⟨v,rs,K2,G3,rfl,Xj,FJ,_⟩
   obtain ⟨QI,hq⟩:=gh rs K2 Xj
   rw [kG] at hq
   rw [←eN] at FJ
   have xC:∀i,nx+1+ex≤i→aa (tw (bV (sg σ (nx+1)) (ju (aa ((nx,.ey ⟨ps,assign,body⟩ .ready (bs (look env) 0 n))::K)) σ) K2++jQ (aa ((nx,.ey ⟨ps,assign,body⟩ .ready (bs (look env) 0 n))::K)) (dA (aa ((nx,.ey ⟨ps,assign,body⟩ .ready (bs (look env) 0 n))::K)) (dF (sg σ (nx+1)) dB cj) (.fq nx::bo)++ef (aa ((nx,.ey ⟨ps,assign,body⟩ .ready (bs (look env) 0 n))::K)) (bV (sg σ (nx+1)) dB K0))) ((nx,.ey ⟨ps,assign,body⟩ .ready (bs (look env) 0 n))::K)) i=.none:=by
    have GM:∀i,nx+1≤i→aa ((nx,.ey ⟨ps,assign,body⟩ .ready (bs (look env) 0 n))::K) i=.none:=fun i hi=>by rw [jz,ae _ _ (by omega)]; exact hn i (by omega)
    refine jo GM (Nat.le_add_right _ _) fun p hp=>?_
    have DN:lr (σ.length+ex) K2=true:=by
     have:=QI
     simp only [ga,Bool.and_eq_true] at this
     exact this.1.1.2
    have hσ1:∀i,i∈σ→i<nx+1:=by
     have:=eP.1
     simp only [gR,Bool.and_eq_true] at this
     exact (gL this.1.1.1.1.1.1).1
    rcases List.mem_append.1 hp with hp | hp
    ·obtain ⟨j,h1,h2⟩:=kE (i:=p.1) (b:=p.2) hp
     have hj:=c9 DN j h1
     rw [h2]
     rcases Nat.lt_or_ge j σ.length with aJ | du
     ·have:=hσ1 _ (by rw [iH aJ]; exact List.getElem_mem aJ:sg σ (nx+1) j∈σ); omega
     ·rw [ib du]; omega
    ·have:=rh GM hp; omega
   generalize L3:tw (bV (sg σ (nx+1)) (ju (aa ((nx,.ey ⟨ps,assign,body⟩ .ready (bs (look env) 0 n))::K)) σ) K2++jQ (aa ((nx,.ey ⟨ps,assign,body⟩ .ready (bs (look env) 0 n))::K)) (dA (aa ((nx,.ey ⟨ps,assign,body⟩ .ready (bs (look env) 0 n))::K)) (dF (sg σ (nx+1)) dB cj) (.fq nx::bo)++ef (aa ((nx,.ey ⟨ps,assign,body⟩ .ready (bs (look env) 0 n))::K)) (bV (sg σ (nx+1)) dB K0))) ((nx,.ey ⟨ps,assign,body⟩ .ready (bs (look env) 0 n))::K)=K3 at *
   have wO:G3.β nx=some (w.heap.size+1):=(FJ.jR nx (Nat.lt_succ_self nx)).trans (aW _ _ _)
   have fin:∀(C6:RC) (st:AH) (l:List AV) (e:AX),aa K3 nx=.ey C6 st l→st.st ≠ .busy→st.Df=nM e→Q e (nx+1+ex) env ((nx,.dead)::K3)→rangePost Fence.wide 0 P (w.heap.size+1) R { a with defers:=[mark w.heap.size]++a.defers } (.returned v) w2:=by
    intro C6 st l e hk hb hp hq
    obtain ⟨r,h1,h2,h3,_,Ji⟩:=FJ.zA hk wO
    have Uo:=(Ji (.loop { r with state:=.exhausted })).Jh (Nat.le_succ_of_le dg) yS
    have Up:xJ g n (nx+1+ex) env ((nx,.dead)::K3) { a with defers:=[mark w.heap.size]++a.defers } (w2.putObj (w.heap.size+1) (.loop { r with state:=.exhausted })) :=
     ⟨⟨G3,by rw [jz]; exact Uo⟩,by omega,fun i hi=>by rw [jz,ae _ _ (by omega)]; exact xC i hi⟩
    have mr:=hR e _ _ _ _ _ hq Up
    refine ⟨r.pending,_,run_endLoop h1 (by rw [h2]; exact hb),?_⟩
    have AK:r.pending=nM e:=h3.trans hp
    rw [AK] at mr
    rw [AK]
    cases e with
    | normal=>exact mr
    | ret=>exact wpIn_ret mr
    | exit i=>exact wpIn_exit mr
   unfold Bn at hq
   split at hq
   ·rename_i C6 l hk; exact fin C6 .ready l .normal hk (by simp [AH.st]) rfl hq
   ·rename_i C6 e l hk; exact fin C6 (.done e) l e hk (by simp [AH.st]) rfl hq
   ·exact hq.elim
 have hv:=xH (ρ:=look env) (κ:=aa K) (x:=x) (look env) (aa K) ⟨fun _ _=>rfl,fun _ _=>rfl⟩ g n a w G aj
 generalize hx:a.eval x=y at hv
 split at h
 ·rename_i f bo he
  rw [he] at hv
  cases hv with | fn _ _ vs hl hr=>exact core f bo vs hx ⟨hl,hr⟩ h
 ·rename_i f bo he
  rw [he] at hv
  cases hv with | dv hd=>cases hd with | fn _ _ vs hl hr=>exact core f _ vs hx (gJ ⟨hl,hr⟩) h
 ·exact h.elim
theorem DS {n:Nat} {o:Oper} {q:Nat × List Operand} (h:FA n o=some q):∃c:Call,o.op=.call c∧c.callee=.value (.func q.1)∧c.args.toList=q.2∧o.guard=none∧∀t,o.dst=some t→t<n:=by
 unfold FA at h
 split at h
 ·rename_i c e1 e2
  split at h
  ·rename_i f e3 e4
   injection h with h; subst h
   exact ⟨c,e1,e3,rfl,e2,fun t ht=>by rw [e4] at ht; cases ht⟩
  ·rename_i f t e3 e4
   have hh:=OZ h; clear h; obtain ⟨hb,h⟩:=hh
   injection h with h; subst h
   exact ⟨c,e1,e3,rfl,e2,fun t' ht=>by rw [e4] at ht; injection ht with ht; subst ht; simpa using hb⟩
  ·cases h
 ·cases h
theorem L4 (P:Program):DH P:=by
 intro g ops n nx env K a w o q k ho h hs F hF
 obtain ⟨c,Uq,uy,C3,aL,Ur⟩:=DS ho
 refine ⟨aL,?_⟩
 obtain ⟨⟨G,aj⟩,dg,hn⟩:=hs
 obtain ⟨l,⟨σ,cj,K0,ex,R,cK,eP,Pb,Ic,gh⟩,bp⟩:=jd h
 rw [←C3] at bp
 have Us:=sF (P:=P) (ops:=ops) (o:=o) Uq uy bp
 simp only [Bool.and_eq_true] at eP
 obtain ⟨vs,dt,jW⟩:=vk (C:=fun _=>True) (n:=n) Us cK.1 0 (look env) (aa K) [] [] ⟨fun _ _=>rfl,fun _ _=>rfl,fun _ _=>rfl,fun _ _ _=>rfl⟩ g a w G trivial aj rfl
 obtain ⟨β,hβ,aZ⟩:=lx (hd:=none) (nx:=nx) (jy P q.1) cK.2 hn (by simp only [Bool.and_eq_true]; exact ⟨eP.1,rfl⟩) Pb Ic (fun rs K1 hr=>(gh rs K1 hr).1) (ql eP.2) dg aj dt (fun _ _=>rfl)
 refine jW F hF β hβ _ (jy P q.1 _ _ _ _ _ ?_ aZ)
 rintro e w2 ⟨v,rs,K1,G3,rfl,hR,FJ,hv⟩
 obtain ⟨QI,hq⟩:=gh rs K1 hR
 rw [(eW (SizeOf.sizeOf (kZ (sg σ nx) (ju (aa K) σ) (hU rs))+1)).1 _ _ (by omega),vj,kG,qi] at hq
 refine ⟨v,rfl,_,_,_,hq,⟨G3,?_⟩,Nat.le_trans dg (Nat.le_add_right _ _),jo hn (Nat.le_add_right _ _) fun p hp=>?_⟩
 ·rw [←eN] at FJ
  cases hd:o.dst with
  | none=>exact FJ
  | some t =>
   have:=FJ.put (Ur t hd) hv
   have e:look (OY (some t) (kZ (sg σ nx) (ju (aa K) σ) (hU rs)) env)=gx (look env) t (kZ (sg σ nx) (ju (aa K) σ) (hU rs)):=by
    have:=je [(t,kZ (sg σ nx) (ju (aa K) σ) (hU rs))] env
    simpa [Bc,aw,OY] using this
   rw [e]; exact this
 ·have DN:lr (σ.length+ex) K1=true:=by
   have:=QI
   simp only [ga,Bool.and_eq_true] at this
   exact this.1.1.2
  have hσ1:∀i,i∈σ→i<nx:=by
   have:=eP.1
   simp only [gR,Bool.and_eq_true] at this
   exact (gL this.1.1.1.1.1.1).1
  rcases List.mem_append.1 hp with hp | hp
  ·obtain ⟨j,h1,h2⟩:=kE (i:=p.1) (b:=p.2) hp
   have hj:=c9 DN j h1
   rw [h2]
   rcases Nat.lt_or_ge j σ.length with aJ | du
   ·have:=hσ1 _ (by rw [iH aJ]; exact List.getElem_mem aJ:sg σ nx j∈σ); omega
   ·rw [ib du]; omega
  ·have:=rh hn hp; omega
theorem ar (P:Program):hZ P:=⟨DQ P,L4 P⟩
end Go.TM
namespace Go.TM
open Go.RowKit
variable [ct]
def tx:Nat→List AV→Env
 | _,[]=>[]
 | s,.any::r=>tx (s+1) r
 | s,v::r=>(s,v)::tx (s+1) r
theorem FK:∀(l:List AV) (s t:Nat),t<s→look (tx s l) t=.any
 | [],_,_,_=>rfl
 | v::r,s,t,h=>by
  have ih:=FK r (s+1) t (by omega)
  cases v <;> simp only [tx,look] <;> first | exact ih | (rw [beq_false (by omega)]; exact ih)
theorem xV:∀(l:List AV) (s j:Nat),look (tx s l) (s+j)=match l[j]? with | some v=>v | none=>.any
 | [],s,j=>by simp [tx,look]
 | v::r,s,0=>by
  have h0:=FK r (s+1) s (by omega)
  cases v <;> simp only [tx,look,Nat.add_zero,Nat.beq_refl,cond_true,List.getElem?_cons_zero] <;> exact h0
 | v::r,s,j+1=>by
  have ih:=xV r (s+1) j
  have e:s+(j+1)=s+1+j:=by omega
  cases v <;> simp only [tx,look,List.getElem?_cons_succ] <;> rw [e] <;> first | exact ih | (rw [beq_false (by omega)]; exact ih)
def Bx:List Nat→List AV→Env→Env
 | p::ps,v::vs,env=>Bx ps vs ((p,v)::env)
 | _,_,env=>env
def FL (n:Nat):List Nat→Bool
 | []=>true
 | p::r=>Nat.blt p n && FL n r
theorem xW {n:Nat}:∀{l:List Nat},FL n l=true→∀p,p∈l→p<n
 | [],_,p,h=>by simp at h
 | q::r,h,p,hp=>by
  simp only [FL,Bool.and_eq_true,Nat.blt_eq] at h
  rcases List.mem_cons.1 hp with rfl | hp
  ·exact h.1
  ·exact xW h.2 p hp
theorem FM {G:Gh}:∀{ps:List Nat} {iT:List AV} {vs:List Value} {env:Env} {tmps:Array Value},(∀p,p∈ps→p<tmps.size)→bP G iT vs→(∀t,aD G (look env t) (tmps.getD t undef)) →
  ∀t,aD G (look (Bx ps iT env) t) (((ps.zip vs).foldl (fun tm (pv:Nat × Value)=>tm.setIfInBounds pv.1 pv.2) tmps).getD t undef)
 | [],iT,vs,env,tmps,_,_,h,t=>by cases iT <;> simpa [Bx] using h t
 | p::ps,[],vs,env,tmps,_,hr,h,t=>by
  have:vs=[]:=by have:=hr.1; simpa using this.symm
  subst this
  simpa [Bx] using h t
 | p::ps,v::iT,[],env,tmps,_,hr,h,t=>by have:=hr.1; simp at this
 | p::ps,v::iT,x::vs,env,tmps,hp,hr,h,t=>by
  simp only [Bx,List.zip_cons_cons,List.foldl_cons]
  refine FM (fun q hq=>by rw [Array.size_setIfInBounds]; exact hp q (by simp [hq])) ⟨by simpa using hr.1,fun j d y hd hy=>hr.2 (j+1) d y (by simpa using hd) (by simpa using hy)⟩ (fun t=>?_) t
  simp only [look]
  by_cases e:t=p
  ·subst e
   have:=hp t (by simp)
   simp only [Nat.beq_refl,cond_true,Array.getD_eq_getD_getElem?]
   rw [Array.getElem?_setIfInBounds_self_of_lt this]
   exact hr.2 0 v x rfl rfl
  ·rw [beq_false e,Array.getD_eq_getD_getElem?,Array.getElem?_setIfInBounds_ne (fun h=>e h.symm),←Array.getD_eq_getD_getElem?]
   exact h t
theorem GY (ps:List (Nat × Value)):∀(tmps:Array Value),((ps.foldl (fun tm (pv:Nat × Value)=>tm.setIfInBounds pv.1 pv.2) tmps)).size=tmps.size:=by
 induction ps with
 | nil=>intro t; rfl
 | cons p r ih=>intro t; simp only [List.foldl_cons]; rw [ih,Array.size_setIfInBounds]
def Ut:AX→Bool
 | .normal=>true
 | _=>false
def NP:AX→AH
 | .normal=>.ready
 | e=>.done e
section
variable {P:Program} {T:List TI}
end
end Go.TM
namespace Go.TM
open Go.RowKit
variable [ct]
def Lw {γ:Type} (f:Nat→γ) (i:Nat) (x:γ):Nat→γ:=fun j=>Bool.casesOn (Nat.beq j i) (f j) x
def zB {γ:Type} (f:Nat→γ):List (Nat × γ)→Nat→γ
 | []=>f
 | p::r=>Lw (zB f r) p.1 p.2
inductive XR (α:Type):Type
 | ok (a:α)
 | no (Te:List Nat)
def XR.bind {α β:Type} (x:XR α) (f:α→XR β):XR β:=XR.casesOn x f .no
def dN {α:Type} (b:Bool) (Te:Nat) (x:XR α):XR α:=Bool.casesOn b (.no [Te]) x
def cY {α:Type} (x:Option α) (Te:Nat):XR α:=Option.casesOn x (.no [Te]) .ok
def tz (a b:Int):Bool:=Int.casesOn a (fun m=>Int.casesOn b (fun n=>Nat.blt m n) (fun _=>false)) (fun m=>Int.casesOn b (fun _=>true) (fun n=>Nat.blt n m))
def L5 (a b:Int):Bool:=!(tz b a)
def FN (a b:Int):Bool:=Int.casesOn a (fun m=>Int.casesOn b (fun n=>Nat.beq m n) (fun _=>false)) (fun m=>Int.casesOn b (fun _=>false) (fun n=>Nat.beq m n))
def Lx (a:Int):Bool:=Int.casesOn a (fun _=>true) (fun _=>false)
def xa {α:Type}:List α→Nat→Option α
 | [],_=>none
 | x::r,i=>Nat.casesOn i (some x) (fun i=>xa r i)
abbrev EN:=jl × Nat
def NQ (κ:Nat→ao) (v:AV):XR AV:=match v with
 | .opt g v=>dN g 1 (.ok (res κ v))
 | v=>.ok v
def kj (ρ:Nat→AV) (κ:Nat→ao) (x:Operand):XR AV:=NQ κ (ev ρ κ x)
def By (ρ:Nat→AV) (κ:Nat→ao):List Operand→XR (List AV)
 | []=>.ok []
 | x::r=>(kj ρ κ x).bind fun v=>(By ρ κ r).bind fun l=>.ok (v::l)
def rI (ρ:Nat→AV) (κ:Nat→ao):List (Nat × Operand)→XR (List (Nat × AV))
 | []=>.ok []
 | p::r=>(kj ρ κ p.2).bind fun v=>(rI ρ κ r).bind fun l=>.ok ((p.1,v)::l)
structure XV where
 v:AV
 bx:List (Nat × ao)
 rd:List Nat
 nx:Nat
def fe (nx:Nat) (v:AV):XR XV:=.ok ⟨v,[],[],nx⟩
def mw (n:Nat) (dst:Option Nat) (r:XV):XR EN:=match dst with
 | none=>.ok (⟨[],r.bx,r.rd⟩,r.nx)
 | some d=>dN (Nat.blt d n) 2 (.ok (⟨[(d,r.v)],r.bx,r.rd⟩,r.nx))
def FO (n:Int):Bool:=Int.casesOn n (fun m=>Nat.ble m 9223372036854775807) (fun m=>Nat.ble m 9223372036854775807)
def o4 (k:IntKind) (n:Int):XR AV:=match k with
 | .i64=>dN (FO n) 3 (.ok (.dv (.int .i64 n)))
 | k=>.ok (.dv (.int k (k.wrap n)))
def fK (b:Bool):XR AV:=.ok (.dv (.bool b))
def NR (op:BinOp) (k:IntKind) (a b:Int):XR AV:=match op with
 | .add=>o4 k (a+b)
 | .sub=>o4 k (a - b)
 | .mul=>o4 k (a * b)
 | .quo=>dN (!(FN b 0)) 5 (o4 k (a.tdiv b))
 | .rem=>dN (!(FN b 0)) 5 (.ok (.dv (.int k (a.tmod b))))
 | .eql=>fK (FN a b)
 | .neq=>fK (!(FN a b))
 | .lss=>fK (tz a b)
 | .leq=>fK (L5 a b)
 | .gtr=>fK (tz b a)
 | .geq=>fK (L5 b a)
 | _=>.no [6]
def NS (op:BinOp) (p q:Bool):XR AV:=match op with
 | .eql=>fK (p == q)
 | .neq=>fK (!(p == q))
 | _=>.no [8]
def NT (op:BinOp) (s t:ByteArray):XR AV:=match op with
 | .eql=>fK (s.toList == t.toList)
 | .neq=>fK (!(s.toList == t.toList))
 | .add=>dN (decide (((s.size+t.size:Nat):Int)≤9223372036854775807)) 9 (.ok (.dv (.str (s++t))))
 | _=>.no [10]
def vm (op:BinOp) (same:Bool):XR AV:=match op with
 | .eql=>fK same
 | .neq=>fK (!same)
 | _=>.no [12]
def DV.int?:DV→Option (IntKind × Int)
 | .int k n=>some (k,n)
 | _=>none
def AV.int?:AV→Option (IntKind × Int)
 | .dv d=>d.int?
 | _=>none
def DV.bool?:DV→Option Bool
 | .bool b=>some b
 | _=>none
def AV.bool?:AV→Option Bool
 | .dv d=>d.bool?
 | _=>none
def DV.zC:DV→Option ByteArray
 | .str s=>some s
 | _=>none
def AV.zC:AV→Option ByteArray
 | .dv d=>d.zC
 | _=>none
def DV.mZ:DV→Bool
 | .di=>true
 | _=>false
def AV.mZ:AV→Bool
 | .dv d=>d.mZ
 | _=>false
def DV.DT:DV→Option (IntKind × Int × Int)
 | .xy k lo hi=>some (k,lo,hi)
 | _=>none
def AV.DT:AV→Option (IntKind × Int × Int)
 | .dv d=>d.DT
 | _=>none
def Ph (op:BinOp) (lo hi b:Int):Option Bool:=match op with
 | .lss=>xb (tz hi b) (!(tz lo b))
 | .leq=>xb (!(tz b hi)) (tz b lo)
 | .gtr=>xb (tz b lo) (!(tz b hi))
 | .geq=>xb (!(tz lo b)) (tz hi b)
 | .eql=>bif tz b lo || tz hi b then some false else none
 | .neq=>bif tz b lo || tz hi b then some true else none
 | _=>none
def Pj (ti:TI) (op:BinOp) (x y:AV):XR AV:=match x.int? with
 | some a=>(cY y.int? 4).bind fun b=>dN (a.1 == b.1) 4 (NR op a.1 a.2 b.2)
 | none=>match x.DT with
  | some t=>(cY y.int? 14).bind fun b=>dN (t.1 == b.1) 14 ((cY (Ph op t.2.1 t.2.2 b.2) 14).bind fK)
  | none=>match x.bool? with
   | some p=>(cY y.bool? 7).bind fun q=>dN (ti.ok && Nat.beq ti.kind 1) 7 (NS op p q)
   | none=>match x.zC with
    | some s=>(cY y.zC 11).bind fun t=>NT op s t
    | none=>dN (y.mZ && (ti.ok && Nat.beq ti.kind 5)) 13 (match x.mZ with
     | true=>vm op true
     | false=>dN (oz x) 15 (vm op false))
def sW:DV→List PS→XR DV
 | d,[]=>.ok d
 | d,s::p=>match step d s with
  | some c=>sW c p
  | none=>.no [18]
def sX:DV→List PS→DV→XR DV
 | _,[],n=>.ok n
 | d,s::p,n=>match step d s with
  | some c=>(sX c p n).bind fun c'=>.ok (put d s c')
  | none=>.no [25]
def Jj (κ:Nat→ao) (i ver ep:Nat) (p:List PS):XR (Nat × DV):=match κ i with
 | .tree aY bE d=>dN (Nat.beq ver aY && (emp p || Nat.beq ep bE)) 32 (.ok (bE,d))
 | _=>.no [33]
structure XN where
 ep:Nat
 d:DV
 n:DV
def kH (κ:Nat→ao) (i ver ep:Nat) (p:List PS):XR XN:=(Jj κ i ver ep p).bind fun t=>(sW t.2 p).bind fun n=>.ok ⟨t.1,t.2,n⟩
def DV.DU:DV→Option (Nat × List DV)
 | .ax sz l=>some (sz,l)
 | _=>none
def DV.FP:DV→Option (KS × List DV)
 | .omap s m=>some (s,m)
 | _=>none
def DV.Jk:DV→Option DV
 | .cQ x=>some x
 | _=>none
def vn (agg:Bool) (l:List AV) (off n:Nat):XR AV:=match agg with
 | true=>dN (Nat.ble (off+n) l.length) 16 (.ok (.agg ((l.drop off).take n)))
 | false=>cY (xa l off) 17
def ne {α:Type}:List α→Bool
 | []=>false
 | _::_=>true
def ly (x:DV):Bool:=x.cells.all fun d=>!d.af
def jf:List DV→Bool
 | []=>true
 | x::r=>ly x && jf r
structure XL where
 sz:Nat
 l:List DV
 rd:List Nat
 kill:List Nat
def Jl (d:DV):XR (Option XL):=match d with
 | .sl sz l=>.ok (some ⟨sz,l,[],[]⟩)
 | .aG=>.ok none
 | _=>.no [36]
def Jm (κ:Nat→ao) (v:AV):XR (Option XL):=match v with
 | .dv d=>Jl d
 | .own i ver ep p=>(kH κ i ver ep p).bind fun t=>(cY t.n.DU 35).bind fun q=>match jf q.2 with
  | true=>.ok (some ⟨q.1,q.2,[i],[]⟩)
  | false=>dN (emp p) 34 (.ok (some ⟨q.1,q.2,[i],[i]⟩))
 | _=>.no [36]
def Bz (ti:TI) (n:Nat):Bool:=Nat.ble (n * ti.bytes) 140737488355328 && Nat.ble n 9223372036854775807
def isFull:AV→Bool
 | .bS _ _=>true
 | _=>false
def zD (ti:TI) (nx:Nat) (x:Option XL):XR XV:=match x with
 | none=>fe nx (.dv .aG)
 | some q=>dN (Nat.beq q.sz ti.size && Bz ti q.l.length) 38 (.ok ⟨.own nx 0 0 [],(nx,.tree 0 0 (.ax q.sz q.l))::dS q.kill,nx::q.rd,nx+1⟩)
def Jn (ti:TI) (nx i ver:Nat) (p:List PS) (t:XN) (sz:Nat) (l:List DV) (q:XL):XR XV:=dN (!fR i q.rd) 41 (match p with
 | []=>.ok ⟨.own i (ver+1) 0 [],(i,.tree (ver+1) 0 (.ax sz (l++q.l)))::dS q.kill,i::q.rd,nx⟩
 | s::p=>(sX t.d (s::p) .any).bind fun d'=>.ok ⟨.own nx 1 0 [],(nx,.tree 1 0 (.ax sz (l++q.l)))::(i,.tree ver (t.ep+1) d')::dS q.kill,nx::i::q.rd,nx+1⟩)
def Jo (nx i ver:Nat) (p:List PS) (t:XN) (sz:Nat) (l:List DV):XR XV:=match p with
 | []=>.ok ⟨.own i (ver+1) 0 [],[(i,.tree (ver+1) 0 (.ax sz l))],[i],nx⟩
 | s::p=>(sX t.d (s::p) .any).bind fun d'=>.ok ⟨.own nx 0 0 [],[(nx,.tree 0 0 (.ax sz l)),(i,.tree ver (t.ep+1) d')],[nx,i],nx+1⟩
def FQ (ti:TI) (nx:Nat) (full:Bool) (i ver:Nat) (p:List PS) (t:XN) (sz:Nat) (l:List DV) (x:Option XL):XR XV:=match x with
 | none=>Jo nx i ver p t sz l
 | some q=>dN (Nat.beq q.sz sz && Bz ti (l.length+q.l.length)) 40 (match full && ne q.l && !ne q.kill && jf l && jf q.l with
  | true=>.ok ⟨.own nx 0 0 [],[(nx,.tree 0 0 (.ax sz (l++q.l)))],nx::i::q.rd,nx+1⟩
  | false=>Jn ti nx i ver p t sz l q)
def iA:DV→Bool
 | .aG=>true
 | _=>false
def zE (ti te:TI) (nx:Nat) (κ:Nat→ao) (s x:AV):XR XV :=
 dN (ti.ok && ti.isSl && te.ok && Nat.blt 0 te.size) 37 ((Jm κ (dn x)).bind fun src=>match dn s with
  | .dv d=>dN (iA d) 43 (zD te nx src)
  | .own i ver ep p=>(kH κ i ver ep p).bind fun t=>(cY t.n.DU 42).bind fun q=>dN (Nat.beq q.1 te.size) 39 (FQ te nx (isFull s) i ver p t q.1 q.2 src)
  | _=>.no [43])
def NU (ti:TI) (d:DV):XR Nat:=match d with
 | .sl _ l=>dN (ti.ok && ti.isSl) 44 (.ok l.length)
 | .aG=>dN (ti.ok && ti.isSl) 44 (.ok 0)
 | .str s=>dN (ti.ok && ti.isStr) 44 (.ok s.size)
 | _=>.no [46]
def NV (ti:TI) (n:DV):XR Nat:=match n with
 | .ax _ l=>dN (ti.ok && ti.isSl) 44 (.ok l.length)
 | .omap _ m=>dN (ti.ok && Nat.beq ti.kind 6) 44 (.ok m.length)
 | _=>.no [45]
def Jp (nx:Nat) (n:Nat) (rd:List Nat):XR XV:=.ok ⟨.dv (.int .i64 n),[],rd,nx⟩
def Pk (ti:TI) (nx:Nat) (κ:Nat→ao) (v:AV):XR XV:=match v with
 | .dv d=>(NU ti d).bind fun n=>Jp nx n []
 | .own i ver ep p=>(kH κ i ver ep p).bind fun t=>(NV ti t.n).bind fun n=>Jp nx n [i]
 | .sle _ m=>dN (ti.ok && ti.isSl) 44 (Jp nx m [])
 | _=>.no [46]
def NW (d:DV):XR Bool:=match d with
 | .aG=>.ok true
 | .sl _ l=>dN (ne l) 88 (.ok false)
 | _=>.no [88]
def Pl (ti:TI) (κ:Nat→ao) (v:AV):XR (Bool × List Nat):=dN (ti.ok && ti.isSl) 87 (match v with
 | .dv d=>(NW d).bind fun b=>.ok (b,[])
 | .own i ver ep p=>(kH κ i ver ep p).bind fun t=>(cY t.n.DU 88).bind fun q=>dN (ne q.2) 88 (.ok (false,[i]))
 | .bS _ _=>.ok (false,[])
 | .sle _ _=>.ok (false,[])
 | _=>.no [89])
def o5 (i ver ep:Nat) (p:List PS) (sz idx:Nat) (nd:DV):XR (List AV):=match nd with
 | .ax oR l=>dN (Nat.beq sz oR) 47 ((cY (xa l idx) 48).bind fun x=>.ok (jA i ver ep p idx 0 x.cells))
 | .cQ x=>dN (Nat.beq idx 0) 49 (.ok (jA i ver ep p 0 0 x.cells))
 | _=>.no [50]
def zF (x:DV) (off:Nat) (ds:List DV):XR DV:=match x with
 | .agg l=>dN (Nat.ble (off+ds.length) l.length) 51 (.ok (.agg (lz l off ds)))
 | _=>match off,ds with
  | 0,[d]=>.ok d
  | _,_=>.no [52]
def DW (sz idx off:Nat) (nd:DV) (ds:List DV):XR (List DV × DV):=match nd with
 | .ax oR l=>dN (Nat.beq sz oR) 53 ((cY (xa l idx) 54).bind fun x=>(zF x off ds).bind fun y=>.ok ((x.cells.drop off).take ds.length,.ax oR (l.set idx y)))
 | .cQ x=>dN (Nat.beq idx 0) 55 ((zF x off ds).bind fun y=>.ok ((x.cells.drop off).take ds.length,.cQ y))
 | _=>.no [56]
def zG (nx:Nat) (κ:Nat→ao) (i ver ep:Nat) (p:List PS) (sz idx off:Nat) (vs:List AV):XR XV :=
 (kH κ i ver ep p).bind fun t=>(cY (qm κ vs) 58).bind fun q=>dN (!(fR i q.2 || !eF q.2)) 57 ((DW sz idx off t.n q.1).bind fun on=>(sX t.d p on.2).bind fun d' =>
  .ok ⟨.any,(i,.tree ver (bif eG on.1 || eG q.1 then t.ep+1 else t.ep) d')::oA κ q.2,i::q.2,nx⟩)
def AV.xc (v:AV):Option Int:=match v.int? with
 | some (.i64,n)=>some n
 | _=>none
def xI (ρ:Nat→AV) (κ:Nat→ao) (x:Option Operand):XR (Option Int):=match x with
 | none=>.ok none
 | some x=>(kj ρ κ x).bind fun v=>(cY v.xc 59).bind fun n=>.ok (some n)
def Jq (lo hi:Option Int) (len:Nat):Bool:=Lx (lo.getD 0) && L5 (lo.getD 0) (hi.getD len) && L5 (hi.getD len) len
def Rw (lo hi:Option Int) (l:List DV):List DV:=(l.take (hi.getD l.length).toNat).drop (lo.getD 0).toNat
def FR (ti:TI) (wS nx:Nat) (d:DV) (lo hi:Option Int):XR XV:=match d with
 | .sl sz l=>dN (ti.isSl && Nat.beq sz wS && Jq lo hi l.length) 60 (fe nx (.dv (.sl sz (Rw lo hi l))))
 | .str s=>dN (ti.isStr && Jq lo hi s.size) 63 (fe nx (.dv (.str (s.extract (lo.getD 0).toNat (hi.getD s.size).toNat))))
 | _=>.no [64]
def zH (ti:TI) (wS nx:Nat) (κ:Nat→ao) (v:AV) (lo hi:Option Int):XR XV:=match v with
 | .dv d=>FR ti wS nx d lo hi
 | .own i ver ep p=>dN (emp p) 62 ((kH κ i ver ep []).bind fun t=>(cY t.n.DU 62).bind fun q=>dN (ti.isSl && Nat.beq q.1 wS && Jq lo hi q.2.length) 61 (
   .ok ⟨.own i (ver+1) 0 [],[(i,.tree (ver+1) 0 (.ax q.1 (Rw lo hi q.2)))],[i],nx⟩))
 | _=>.no [64]
def Pm (ti:TI):Option KS:=bif ti.ok && ti.Di == some .i64 then some GW else bif ti.ok && ti.isStr then some Pf else bif ti.ok && ti.pair then some eg else none
def Jr:uh→uh→Bool
 | .int k,.int k'=>k == k'
 | .bool,.bool=>true
 | .str,.str=>true
 | _,_=>false
def rJ:List uh→List uh→Bool
 | [],[]=>true
 | a::l,b::r=>Jr a b && rJ l r
 | _,_=>false
def L6 (a b:KS):Bool:=(a.agg == b.agg) && rJ a.tags b.tags
def FT (ti:TI) (s:KS):Bool:=match Pm ti with
 | some s'=>L6 s s'
 | none=>false
def xX:List AV→Option (List DV)
 | []=>some []
 | .dv d::r=>match xX r with
  | some l=>some (d::l)
  | none=>none
 | _=>none
def GZ:AV→Option DV
 | .dv d=>bif d.isAgg then none else some d
 | .agg l=>match xX l with
  | some ds=>some (.agg ds)
  | none=>none
 | _=>none
def zI (te:TI) (i ver ep:Nat) (p:List PS) (key:DV) (c b:Bool) (x:DV) (nx:Nat):XR XV:=dN (x.isAgg == te.agg) 66 (
 .ok ⟨bif c then .eK [eX.oB te.agg (jB i ver ep p key 0 x.cells),.dv (.bool b)] else eX.oB te.agg (jB i ver ep p key 0 x.cells),[],[i],nx⟩)
def zJ (tk te:TI) (nx:Nat) (κ:Nat→ao) (v kv:AV) (c:Bool):XR XV:=match v with
 | .own i ver ep p=>(kH κ i ver ep p).bind fun t=>(cY t.n.FP 68).bind fun q=>(cY (GZ kv) 68).bind fun key=>dN (FT tk q.1 && q.1.ok key) 65 (match bH q.2 key with
  | some x=>zI te i ver t.ep p key c true x nx
  | none=>zI te i ver t.ep p key c false te.vp nx)
 | _=>.no [69]
def lA:AV→Bool
 | .agg _=>true
 | _=>false
def nW (m:List DV) (key:DV):Bool:=match bH m key with
 | some x=>ly x
 | none=>true
def zK (tk:TI) (nx:Nat) (κ:Nat→ao) (v kv u:AV):XR XV:=match v with
 | .own i ver ep p=>(kH κ i ver ep p).bind fun t=>(cY t.n.FP 74).bind fun q=>(cY (GZ kv) 74).bind fun key=>dN (FT tk q.1 && q.1.ok key) 70 (
   (cY (qm κ (cellsOf u)) 73).bind fun w=>dN (!(fR i w.2 || !eF w.2 || !bN (cellsOf u))) 71 (
    dN ((gE (lA u) w.1).isAgg == lA u && Nat.beq (gE (lA u) w.1).cells.length w.1.length) 72 (
     (sX t.d p (.omap q.1 (eu q.2 key (gE (lA u) w.1)))).bind fun d' =>
      .ok ⟨.any,(i,.tree ver (bif ly (gE (lA u) w.1) && nW q.2 key then t.ep else t.ep+1) d')::dS w.2,i::w.2,nx⟩)))
 | _=>.no [75]
def xd (agg:Bool) (sz:Nat):Nat→List DV→List DV
 | 0,_=>[]
 | k+1,l=>gE agg (l.take sz)::xd agg sz k (l.drop sz)
end Go.TM
