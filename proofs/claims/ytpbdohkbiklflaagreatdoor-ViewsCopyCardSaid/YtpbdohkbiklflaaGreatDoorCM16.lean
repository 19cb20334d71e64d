import Derived.Test.YtpbdohkbiklflaaGreatDoorCM15
import Derived.WideKeyRuns
import Derived.Laws.StructEq
set_option linter.unusedVariables false
set_option linter.unusedSimpArgs false
set_option linter.unusedSectionVars false
namespace Go.TM
open Go.RowKit
variable [cu]
theorem wx:∀{s k i:Nat},s≤i→i<s+k→i∈lV s k
 | s,0,i,h1,h2=>by omega
 | s,k+1,i,h1,h2=>by
  simp only [lV,List.mem_cons]
  by_cases e:i=s
  ·exact .inl e
  ·exact .inr (wx (by omega) (by omega))
def uT (I:Inv):Prop:=∀β vs w (R R':Ending→World→Prop),(∀e w,R e w→R' e w)→I β vs w R→I β vs w R'
theorem jU (P:Program) (f:Nat):uT (HD P f):=fun _ _ _ _ _ h hc=>Calls.mono hc h
theorem Fq (P:Program):uT (HE P):=by
 intro β vs w R R' h hc
 obtain ⟨l,h1,fn,tmps,assign,body,w1,h2,h3⟩:=hc
 exact ⟨l,h1,fn,tmps,assign,body,w1,h2,RoundIn.mono h3 h⟩
theorem I5 {i nx:Nat} {σ:List Nat} (h:I6 (some i) σ=true):0<σ.length∧sg σ nx 0=i:=by
 cases σ with
 | nil=>simp [I6] at h
 | cons x r =>
  simp only [I6] at h
  exact ⟨by simp,(Nat.eq_of_beq_eq_true h).symm⟩
section
variable {P:Program} {C:dD→Prop} {T:List TI} {ops:List Oper} {n:Nat} {o:Oper} {nx:Nat} {ρ:Nat→AV} {κ:Nat→ar} {k:jH→Nat→Prop} {gd:Bool}
def Lp (P:Program) (ops:List Oper) (n:Nat) (o:Oper) (ρ:Nat→AV) (κ:Nat→ar) (gd:Bool) (hd:Option Nat) (C:dD→Prop) (m:Nat) (I:Inv) (l:List AV):Prop :=
 ∀ρ' κ' rd bx,Ca ops o ρ ρ' κ κ' rd bx→∀(g:dD) (a:Act) (w:World) (G:Gh),C g→cf g n ρ' κ' a w G→gd=true →
  ∃vs:List Value,bU G l vs∧∀F,gr F→∀β:Nat→Option Nat,(∀i,hd=some i→β 0=G.β i)→∀K:Act→World→Prop,
   I β vs w (fun e w'=>∃v,e=.returned v∧K (a.put o.dst v) w')→o.wpIn F 0 P a w K (fun _ _ _=>False)
theorem lW {hd:Option Nat} {I:Inv} {l:List AV} {σ:List Nat} {cq:List AV} {K0:aj} {ex:Nat} {R:List AV→aj→Prop} (hI:uT I) (cV:AQ I cq σ.length K0 ex R)
  (hn:∀i,nx≤i→κ i=.none) (fc:(im κ σ nx l cq K0 && I6 hd σ)=true) (RF:eu 0 κ (aa (bZ (sg σ nx) dH K0)) (dL (sg σ nx) dH cq) l) (Kk:pT 0 κ (aa (bZ (sg σ nx) dH K0)) (bZ (sg σ nx) dH K0))
  (gG:∀rs K1,R rs K1→gE σ ex K0 K1 rs=true) (bJ:∀j,j<σ.length→(aa K0 j).pass=true)
  {ρ':Nat→AV} {κ':Nat→ar} {g:dD} {a:Act} {w:World} {G:Gh} (dq:g.m≤nx) (ak:cf g n ρ' κ' a w G) {vs:List Value} (dg:bU G l vs)
  (ax:∀i,i∈σ++(dG κ (dL (sg σ nx) dH cq) l++ey κ (bZ (sg σ nx) dH K0))++lV nx ex→κ' i=κ i) :
  ∃β:Nat→Option Nat,(∀i,hd=some i→β 0=G.β i)∧I β vs w fun e w2=>∃v rs K1 G3,e=.returned v∧R rs K1 ∧
   cf g n ρ' (az κ' (bZ (sg σ nx) (jP κ σ) K1++kg κ (dG κ (dL (sg σ nx) dH cq) l++ey κ (bZ (sg σ nx) dH K0)))) a w2 G3∧aH G3 (lK (sg σ nx) (jP κ σ) (hU rs)) v:=by
 simp only [Bool.and_eq_true] at fc
 obtain ⟨fc,I0⟩:=fc
 simp only [im,Bool.and_eq_true] at fc
 obtain ⟨⟨⟨⟨⟨⟨W4,Fl⟩,T3⟩,Z7⟩,T4⟩,W5⟩,fA⟩:=fc
 obtain ⟨hσ1,hσ2⟩:=hZ W4
 have dB:=Li (nx:=nx) hσ1 hσ2
 have yl:∀j (h:j<σ.length),sg σ nx j∈σ:=fun j h=>by rw [jc h]; exact List.getElem_mem h
 simp only [aY.wf,Bool.and_eq_true] at T3 T4
 have Qf:∀j,j<σ.length→(aa K0 j).fO=false:=fun j hj=>by
  have:=bJ j hj
  cases h:aa K0 j <;> rw [h] at this <;> first | rfl | cases this
 have T5:∀j,j∈keys K0→∀a b c d e,aa K0 j ≠ .jw a b c d e:=fun j hj a b c d e h=>by
  have:=bJ j (di Fl j hj)
  rw [h] at this; cases this
 have T6:∀j,j∈keys K0→aa K0 j ≠ .held:=fun j hj h=>by
  have:=bJ j (di Fl j hj)
  rw [h] at this; cases this
 have Lq:∀j,j<σ.length→j∈keys K0:=fun j hj=>by
  refine Classical.byContradiction fun hn=>?_
  have:=Qf j hj; rw [ga hn] at this; cases this
 have T7:∀j,aa (bZ (sg σ nx) dH K0) (sg σ nx j)=if j∈keys K0 then ra (sg σ nx) dH j (aa K0 j) else .none:=fun j=>by
  rw [fQ (bZ (sg σ nx) dH K0)]; exact oJ dB _ K0 j
 have RG:∀j,j<σ.length→(aa (bZ (sg σ nx) dH K0) (sg σ nx j)).fO=false:=fun j hj=>by
  rw [T7,if_pos (Lq j hj)]
  cases aa K0 j <;> rfl
 have W6:∀i,(aa (bZ (sg σ nx) dH K0) i).fO=false→i∈σ:=fun i hi=>by
  rcases fX (K:=bZ (sg σ nx) dH K0) (i:=i) with h | h
  ·rw [h] at hi; cases hi
  ·obtain ⟨j,h1,rfl⟩:=lg h
   exact yl j (di Fl j h1)
 have axσ:∀i,i∈σ→κ' i=κ i:=fun i hi=>ax i (List.mem_append.2 (.inl (List.mem_append.2 (.inl hi))))
 have Ol:∀i,i∈dG κ (dL (sg σ nx) dH cq) l++ey κ (bZ (sg σ nx) dH K0)→κ' i=κ i:=fun i hi=>ax i (List.mem_append.2 (.inl (List.mem_append.2 (.inr hi))))
 have W7:∀i,nx≤i→i<nx+ex→κ' i=.none:=fun i h1 h2=>(ax i (List.mem_append.2 (.inr (wx h1 h2)))).trans (hn i h1)
 generalize YN:dG κ (dL (sg σ nx) dH cq) l++ey κ (bZ (sg σ nx) dH K0)=F at *
 obtain ⟨G1,f1,f2,f3,f4,mW⟩:=ak.oA (κ:=κ) F Ol
 have hs:∀i,CH 0 κ (aa (bZ (sg σ nx) dH K0)) F i:=by
  intro i
  rcases fX (K:=bZ (sg σ nx) dH K0) (i:=i) with h | h
  ·unfold CH; rw [h]; exact ⟨tv,rfl,by simp [tL]⟩
  ·exact ⟨(la Kk i _ h).1,(q7 T4.1 i _ h).2,fun j hj=>by rw [←YN]; exact List.mem_append.2 (.inr ((la Kk i _ h).2 j hj))⟩
 obtain ⟨T8,RH⟩:=P7 (m:=0) (κ:=κ) (κc:=κ') ak.fit f1 f2 f3 f4 Ol (fun i hi=>axσ i (W6 i hi)) mW.fit fA hs
 have bM:=(nA (m:=0) (κ:=κ) (κ':=aa (bZ (sg σ nx) dH K0)) (w:=w) f1 f2 f3 Ol mW.fit (SizeOf.sizeOf (dL (sg σ nx) dH cq)+1)).2 _ l vs (by omega) RF W5 (fun i hi=>by rw [←YN]; exact List.mem_append.2 (.inl hi)) dg
 obtain ⟨T9,tR⟩:=Ok dB T8 (fun j hj h=>by have:=Qf j (di Fl j hj); rw [h] at this; cases this) T5 T6 (fun j c hc=>by
  rcases fX (K:=K0) (i:=j) with h | h
  ·rw [h] at hc; cases hc
  ·have:=(q7 T3.1 j _ h).2
   rw [hc] at this
   simp only [ar.Tn,Bool.and_eq_true] at this
   exact this.2)
 have RI:=(Lj (r:=sg σ nx) (SizeOf.sizeOf cq+1)).2 cq vs (by omega) bM
 have hβ0:∀j,j<σ.length→(pull (sg σ nx) (dF 0 κ (aa (bZ (sg σ nx) dH K0)) G1)).β j=G1.β (sg σ nx j):=fun j hj=>by
  simp only [pull,dF,reβ,RG j hj]
 refine ⟨(pull (sg σ nx) (dF 0 κ (aa (bZ (sg σ nx) dH K0)) G1)).β,fun i hi=>?_,hI _ _ _ _ _ ?_ (cV w _ vs (ak.nk.mono (ak.mem.trans f1.mem)) T9 RI)⟩
 ·subst hi
  obtain ⟨h1,h2⟩:=I5 (nx:=nx) I0
  rw [hβ0 0 h1,f2,h2]
 ·rintro e w2 ⟨v,rs,K1,G2,rfl,YO,hC⟩
  have hκ1:=nD (κ:=κ) (κ':=κ') (ids:=F) Ol
  obtain ⟨t1,t2,t3⟩:=I3 (κ:=κ) (κ1:=az κ' (kg κ F)) (G1:=G1) (nx:=nx) hσ1 hσ2 (fun i h1 h2=>by
    rw [hκ1,hn i h1,W7 i h1 h2]; simp [ar.dZ]) mW.fit
   (fun i hi V E d hk=>by
    have hb:=ak.fit.box i
    rw [axσ i hi,hk] at hb
    rw [f3]; exact ⟨hb.2.2.1,hb.2.2.2⟩)
   (fun i hi hk v e p=>by
    have hb:=ak.fit.box i
    rw [axσ i hi,hk] at hb
    rw [f3]; exact hb.2 v e p)
   (fun j hj V E d hk=>by
    have dj:=RG j hj
    have hz:iV 0 (sg σ nx j) V E=(0,0):=uN (by omega)
    have key:∀p,aB (uM 0 κ (aa (bZ (sg σ nx) dH K0)) G1.H) (sg σ nx j) 0 0 p=aB G1.H (sg σ nx j) V E p:=fun p=>by
     have:=nz (m:=0) (H:=G1.H) hk dj p
     rw [hz] at this; exact this
    refine ⟨fun x hx=>?_,fun s q x hx=>?_⟩
    ·have:=key []; simp only [aB] at this; simp only [pull,dF]; rw [this]; exact hx
    ·have:=key (s::q); simp only [aB] at this; simp only [pull,dF]; rw [this]; exact hx)
   (fun j hj V d hk=>by
    have hb:=mW.fit.box (sg σ nx j)
    have I7:az κ' (kg κ F) (sg σ nx j)=.fz V d:=by rw [hκ1,axσ _ (yl j hj),hk]; simp [ar.dZ]
    rw [I7] at hb
    obtain ⟨x,h1,_⟩:=hb
    refine ⟨x,h1,?_⟩
    simp only [pull,dF,uM,RG j hj,hk]
    have:=(jO 0 (G1.H (sg σ nx j)) (sg σ nx j) V 0 (.el 0 0) []).1
    rw [uN (by omega)] at this
    rw [this]; exact h1)
   hβ0 rfl
   (fun j b ho=>by
    obtain ⟨h1,h2⟩:=tR j b ho
    exact ⟨di Fl j h1,RH _ b h2⟩)
   (fun j hj=>by
    obtain ⟨hx,_,_⟩:=hs (sg σ nx j)
    rw [T7,if_pos (Lq j hj)] at hx
    refine ⟨fun v e d h0=>?_,fun v d h0=>?_⟩
    ·rw [h0] at hx
     cases hk:κ (sg σ nx j) with
     | tree V E d=>exact .inl ⟨_,_,_,rfl⟩
     | none=>exact .inr rfl
     | _=>rw [hk] at hx; exact hx.elim
    ·rw [h0] at hx
     cases hk:κ (sg σ nx j) with
     | tree V E d=>exact .inl ⟨_,_,_,rfl⟩
     | fz V d=>exact .inr ⟨_,_,rfl⟩
     | _=>rw [hk] at hx; exact hx.elim)
   (gG rs K1 YO) hC
  have HF:=mW.pI t1 (fun i hi=>t2 i (by omega))
  refine ⟨v,rs,K1,_,rfl,YO,HF.congr ?_,t3⟩
  rw [tP]
theorem y3 {hd:Option Nat} {S:List AV→Nat→aj→Nat→(List AV→aj→Prop)→Prop} {I:Nat→Inv} {ok:Nat→Prop} {l:List AV} (hS:∀args m K ex R,S args m K ex R→ok m∧AQ (I m) args m K ex R) (hI:∀m,uT (I m)) (c9:∀c,o.op ≠ .defer c)
  (hn:∀i,nx≤i→κ i=.none) (hg:bR ρ ops o.guard=some gd) (bB:∀m,ok m→Lp P ops n o ρ κ gd hd C m (I m) l) (h:kH hd S n o gd nx κ k l):Good P C ops n o nx ρ κ k:=by
 obtain ⟨σ,cq,K0,ex,rs,K1,cV,fc,gG,RF,Kk,hk⟩:=h
 rw [(fp (SizeOf.sizeOf (lK (sg σ nx) (jP κ σ) (hU rs))+1)).1 _ _ (by omega),wy,lj,rh] at hk
 have Qg:=gG
 simp only [gE,Bool.and_eq_true] at Qg
 obtain ⟨⟨⟨eo,Fs⟩,_⟩,_⟩:=Qg
 have hσ1:∀i,i∈σ→i<nx:=by
  have:=fc
  simp only [im,Bool.and_eq_true] at this
  exact (hZ this.1.1.1.1.1.1.1).1
 have dQ:∀p,p∈bZ (sg σ nx) (jP κ σ) K1++kg κ (dG κ (dL (sg σ nx) dH cq) l++ey κ (bZ (sg σ nx) dH K0))→p.1<nx+ex:=by
  intro p hp
  rcases List.mem_append.1 hp with hp | hp
  ·obtain ⟨j,h1,h2⟩:=lg (i:=p.1) (b:=p.2) hp
   have hj:=di Fs j h1
   rw [h2]
   rcases Nat.lt_or_ge j σ.length with aK | dy
   ·have:=hσ1 _ (by rw [jc aK]; exact List.getElem_mem aK:sg σ nx j∈σ); omega
   ·rw [iI dy]; omega
  ·have:=sn hn hp; omega
 refine CP c9 hg hk (Nat.le_add_right _ _) dQ fun ρ' κ' ax Fn hF g a w G dq ak aR K hK=>?_
 obtain ⟨vs,dg,ko⟩:=bB σ.length (hS _ _ _ _ _ cV).1 ρ' κ' _ _ ax g a w G dq.2 ak aR
 obtain ⟨β,hβ,bj⟩:=lW (hd:=hd) (hI _) (hS _ _ _ _ _ cV).2 hn fc RF Kk (fun pR Z8 hR=>by obtain ⟨rfl,rfl⟩:=hR; exact gG) (fun j hj=>by
  rcases iJ eo j hj with ⟨_,_,h,_⟩ | ⟨_,_,_,_,_,_,h,_⟩ | ⟨_,_,_,h,_⟩ | ⟨_,_,_,h,_⟩ <;> rw [h] <;> rfl) dq.1 ak dg ax.reads
 refine ko Fn hF β hβ K (hI _ _ _ _ _ _ ?_ bj)
 rintro e w2 ⟨v,pR,Z8,G3,rfl,⟨rfl,rfl⟩,h1,h2⟩
 exact ⟨v,rfl,hK v w2 G3 h1 h2⟩
theorem wz {f:Nat} {l:List AV} (bB:si P ops o ρ κ gd f l) (hc:gA P f) (m:Nat):Lp P ops n o ρ κ gd none C m (HD P f) l:=by
 intro ρ' κ' rd bx ax g a w G _ ak aR
 obtain ⟨vs,bj,dg⟩:=bB.2 ρ' κ' rd bx ax g n a w G ak aR hc
 exact ⟨vs,dg,fun F hF β _ K hI=>sk hF bB.1 bj hI⟩
theorem CQ {c:Call} {t i:Nat} {l:List AV} (ho:o.op=.call c) (hc:c.callee=.value (.tmp t)) (hv:bu ρ κ gd (.tmp t) (.fN i)) (bB:kn ρ κ gd c.args.toList l) (m:Nat):Lp P ops n o ρ κ gd (some i) C m (HE P) l:=by
 intro ρ' κ' rd bx ax g a w G _ ak aR
 have dg:=kn.rel ak aR bB (fun x hx=>ax.op (by rw [ho]; simp only [Op.operands,Call.operands,hc]; exact Array.mem_append.2 (.inr (by simpa using hx))))
 have sj:=hv ρ' κ' (ax.op (by rw [ho]; simp only [Op.operands,Call.operands,hc]; exact Array.mem_append.2 (.inl (by simp)))) g n a w G ak aR
 have bM:(List.map a.eval c.args.toList).toArray=c.args.map a.eval:=by rw [←Array.toList_map,Array.toArray_toList]
 generalize hx:a.eval (.tmp t)=x at sj
 cases sj with | fN _ b hb =>
 refine ⟨_,dg,fun F hF β hβ K hI=>?_⟩
 obtain ⟨l',h1,fn,tmps,assign,body,w1,h2,h3⟩:=hI
 rw [hβ i rfl,hb] at h1
 injection h1 with h1
 subst h1
 rw [bM] at h2
 have bj:(execOp a.eval o).run P w=.ok (.round b fn tmps assign body) w1:=by
  rw [←h2]
  simp [execOp,ho,resolve,hc,hx,Deferred.ofValue,invoke]
 refine ⟨fun f _=>hF.fn f,?_⟩
 rw [Oper.semAt_plain F _ _ (fun c=>by rw [ho]; simp),bj,Oper.uponIn_round]
 refine ⟨fun h=>(by rw [hF.depth] at h; cases h),hF.round.2 (RoundIn.mono h3 ?_)⟩
 rintro e w' ⟨v,rfl,hk⟩
 exact hk
theorem af (P:Program):c5 P (fun _=>True):=by
 intro ops n o nx ρ κ k hn
 refine ⟨fun {gd f l} hg bB h=>?_,fun hg ho hc hv bB h=>?_⟩
 ·have VP:gA P f:=by obtain ⟨_,_,_,_,_,_,cV,_⟩:=h; exact cV.1
  exact y3 (I:=fun _=>HD P f) (ok:=fun _=>True) (fun _ _ _ _ _ hs=>⟨tv,hs.2⟩) (fun _=>jU P _) bB.1 hn hg (fun m _=>wz bB VP m) h
 ·exact y3 (I:=fun _=>HE P) (ok:=fun _=>True) (fun _ _ _ _ _ hs=>⟨tv,hs⟩) (fun _=>Fq P) (fun c=>by rw [ho]; simp) hn hg (fun m _=>CQ ho hc hv bB m) h
end
end Go.TM
namespace Go.TM
open Go.RowKit
variable [cu]
section
variable {P:Program} {C:dD→Prop} {T:List TI}
theorem wA {kt:Nat} {d:TypeDesc} {s:KS} (hd:P.underlying kt=some d) (h:∀k v,s.ok k=true→bF k=some v→MapKept.IsKey d v):sG P kt s where
 check w em v:=fun ⟨k,h1,h2⟩=>MapKept.run_checkKey hd (h k v h1 h2) em 9999
 find w x:=fun ⟨k,h1,h2⟩ es uP=>by
  rcases MapKept.findNow_spec (h k x h1 h2) es 0 (fun e he=>let ⟨k',Qc,B9⟩:=uP e he; h k' _ Qc B9) with ⟨q1,q2⟩ | ⟨j,e,q1,q2,q3⟩
  ·exact .inl ⟨MapKept.run_findKey hd q1,q2⟩
  ·exact .inr ⟨j,e,by simpa using MapKept.run_findKey (P:=P) (w:=w) hd q1,q2,q3⟩
 stays w v:=fun ⟨k,h1,h2⟩=>MapKept.run_keyThatStays (h k v h1 h2)
def I8:KS:=⟨false,[.int .i64]⟩
def RJ:KS:=⟨false,[.str]⟩
theorem CR (hT:er P T) {kt:Nat} (h:((nth T kt).ok && (nth T kt).EW == some .i64)=true):sG P kt I8:=by
 simp only [Bool.and_eq_true,beq_iff_eq] at h
 obtain ⟨i,u,z,tf⟩:=hT.facts h.1
 have hu:u=.int .i64:=by
  have:=tf.EW
  rw [h.2] at this
  cases u <;> simp [Cl] at this
  rw [this]
 refine wA (d:=.int .i64) (by rw [tf.yQ,hu]) fun k v hk hv=>?_
 cases k <;> simp [KS.ok,I8,qH] at hk
 subst hk
 simp [bF,DV.val?] at hv
 subst hv
 rfl
theorem Lr (hT:er P T) {kt:Nat} (h:((nth T kt).ok && (nth T kt).isStr)=true):sG P kt RJ:=by
 simp only [Bool.and_eq_true] at h
 obtain ⟨i,u,z,tf⟩:=hT.facts h.1
 refine wA (d:=.string) (tf.string h.2) fun k v hk hv=>?_
 cases k <;> simp [KS.ok,RJ,qH] at hk
 simp [bF,DV.val?] at hv
 subst hv
 trivial
def dw:KS:=⟨true,[.int .i64,.int .i64]⟩
theorem I9 {k:DV} {v:Value} (h:dw.ok k=true) (hv:bF k=some v):∃a b:Int,v=.agg #[.int .i64 a,.int .i64 b]:=by
 cases k with
 | agg l =>
  match l,h with
  | [x,y],h =>
   cases x <;> simp [KS.ok,dw,jG,qH] at h
   cases y <;> simp [qH] at h
   obtain ⟨rfl,rfl⟩:=h
   simp [bF,DV.fW,DV.val?] at hv
   exact ⟨_,_,hv.symm⟩
  | [],h=>simp [KS.ok,dw,jG] at h
  | [_],h=>simp [KS.ok,dw,jG] at h
  | _::_::_::_,h=>simp [KS.ok,dw,jG] at h
 | _=>simp [KS.ok,dw] at h
theorem ri {t:Option TypeDesc} (h:y4 t=true):t=some (.int .i64):=by
 cases t with
 | none=>simp [y4] at h
 | some d=>cases d <;> simp [y4] at h; rename_i k; cases k <;> simp [y4] at h; rfl
theorem eL {w:World} {e:TypeId} (he:P.underlying e=some (.int .i64)) {xs:Array Value} {off:Nat} {v:Value} (hx:xs[off]?=some v):(part e xs off).run P w=.ok v w:=by
 simp [part,isAgg,run_underlying he,hx]
theorem Ft {kt:Nat} {fs:Array Field} (hu:P.underlying kt=some (.struct fs)) (hp:CS P fs.toList=true) (hs:P.stoodInHeld kt=false) (w:World) (a b c d:Int) :
  (Op.equal kt (.agg #[.int .i64 a,.int .i64 b]) (.agg #[.int .i64 c,.int .i64 d])).run P w=.ok (a == c && b == d) w:=by
 have hf:P.fieldsOf kt=fs:=by simp [Program.fieldsOf,hu]
 have key:∀D,(Op.equalIn (D+2) kt (.agg #[.int .i64 a,.int .i64 b]) (.agg #[.int .i64 c,.int .i64 d])).run P w=.ok (a == c && b == d) w:=by
  intro D
  rw [run_equalIn_struct w (D+1) kt _ _ (by rw [hf]; exact hu) hs,hf]
  match hl:fs.toList,hp with
  | [x,y],hp =>
   simp only [hl,CS,Bool.and_eq_true,bne_iff_ne] at hp
   obtain ⟨⟨⟨⟨⟨n1,n2⟩,o1⟩,o2⟩,i1⟩,i2⟩:=hp
   have o1:=Nat.eq_of_beq_eq_true o1
   have o2:=Nat.eq_of_beq_eq_true o2
   have i1:=ri i1
   have i2:=ri i2
   simp only [Op.eqFields,n1,n2,ne_eq,not_false_eq_true,if_true,Sem.run_bind,o1,o2]
   rw [eL (v:=.int .i64 a) i1 (by simp)]
   simp only [Result.andThen_ok]
   rw [eL (v:=.int .i64 c) i1 (by simp)]
   simp only [Result.andThen_ok]
   rw [run_equalIn_int w D x.type .i64 .i64 a c i1]
   simp only [Result.andThen_ok]
   cases Tr:a == c with
   | false=>simp
   | true =>
    simp only [Bool.not_true,Bool.false_eq_true,if_false,Sem.run_bind]
    rw [eL (v:=.int .i64 b) i2 (by simp)]
    simp only [Result.andThen_ok]
    rw [eL (v:=.int .i64 d) i2 (by simp)]
    simp only [Result.andThen_ok]
    rw [run_equalIn_int w D y.type .i64 .i64 b d i2]
    simp only [Result.andThen_ok]
    cases IP:b == d <;> simp
 simp only [Op.equal,Op.maxDepth,key 9998]
theorem y5 (hT:er P T) {kt:Nat} (h:((nth T kt).ok && (nth T kt).pair)=true):sG P kt dw:=by
 simp only [Bool.and_eq_true] at h
 obtain ⟨i,u,z,tf⟩:=hT.facts h.1
 have hp:=tf.pair
 rw [h.2] at hp
 have hp:=hp.symm
 simp only [Bool.and_eq_true,Bool.not_eq_true'] at hp
 obtain ⟨fs,rfl⟩:∃fs,u=.struct fs:=by
  cases u <;> simp [Fu] at hp
  exact ⟨_,rfl⟩
 have hl:CS P fs.toList=true:=hp.1
 have hu:=tf.yQ
 have hv:∀{v:Value},(∃d,dw.ok d=true∧bF d=some v)→∃a b:Int,v=.agg #[.int .i64 a,.int .i64 b]:=fun ⟨d,h1,h2⟩=>I9 h1 h2
 refine ⟨fun w em v hk=>?_,fun w x hx es uP=>?_,fun w v hk=>?_⟩
 ·obtain ⟨a,b,rfl⟩:=hv hk
  have key:∀D,(Instr.checkKey em (D+2) kt (.agg #[.int .i64 a,.int .i64 b])).run P w=.ok () w:=by
   intro D
   match hf:fs,hl with
   | ⟨[x,y]⟩,hl =>
    simp only [CS,Bool.and_eq_true,bne_iff_ne] at hl
    obtain ⟨⟨⟨⟨⟨n1,n2⟩,o1⟩,o2⟩,i1⟩,i2⟩:=hl
    have o1:=Nat.eq_of_beq_eq_true o1
    have o2:=Nat.eq_of_beq_eq_true o2
    have i1:=ri i1
    have i2:=ri i2
    have c1:∀(E:Nat) (n:Int),(Instr.checkKey em (E+1) x.type (.int .i64 n)).run P w=.ok () w:=fun E n=>by simp [Instr.checkKey,run_underlying i1]
    have c2:∀(E:Nat) (n:Int),(Instr.checkKey em (E+1) y.type (.int .i64 n)).run P w=.ok () w:=fun E n=>by simp [Instr.checkKey,run_underlying i2]
    rw [Instr.checkKey]
    simp only [Sem.run_bind,run_underlying hu,Result.andThen_ok]
    simp [n1,n2,o1,o2,eL (v:=.int .i64 a) i1,eL (v:=.int .i64 b) i2,c1,c2]
  exact key 9998
 ·have hw:(match P.underlying kt with | some (.array _ _) | some (.struct _)=>true | _=>false)=true:=by rw [hu]
  obtain ⟨a,b,rfl⟩:=hv hx
  have key:∀(es:List MapEntry) (i:Nat),(∀e,e∈es→∃d,dw.ok d=true∧bF d=some e.key) →
    ((Instr.findAsking kt (.agg #[.int .i64 a,.int .i64 b]) es i).run P w=.ok none w∧∀e,e∈es→e.key ≠ .agg #[.int .i64 a,.int .i64 b]) ∨
    ∃j e,(Instr.findAsking kt (.agg #[.int .i64 a,.int .i64 b]) es i).run P w=.ok (some (i+j,e.val)) w∧es[j]?=some e∧e.key=.agg #[.int .i64 a,.int .i64 b]:=by
   intro es
   induction es with
   | nil=>intro i _; exact .inl ⟨by simp [Instr.findAsking],by simp⟩
   | cons e r ih =>
    intro i uP
    obtain ⟨c,d,hk⟩:=hv (uP e (by simp))
    have heq:=Ft hu hl hp.2 w a b c d
    rw [←hk] at heq
    cases hb:(a == c && b == d) with
    | true =>
     rw [hb] at heq
     simp only [Bool.and_eq_true,beq_iff_eq] at hb
     refine .inr ⟨0,e,?_,rfl,by rw [hk,hb.1,hb.2]⟩
     simp only [Instr.findAsking,Sem.run_bind,heq,Result.andThen_ok,if_true,Sem.run_pure,Nat.add_zero]
    | false =>
     rw [hb] at heq
     have bJ:e.key ≠ .agg #[.int .i64 a,.int .i64 b]:=by
      rw [hk]
      intro e'
      simp only [Value.agg.injEq,Array.mk.injEq,List.cons.injEq,Value.int.injEq,true_and,and_true] at e'
      obtain ⟨rfl,rfl⟩:=e'
      simp at hb
     have bj:(Instr.findAsking kt (.agg #[.int .i64 a,.int .i64 b]) (e::r) i).run P w=(Instr.findAsking kt (.agg #[.int .i64 a,.int .i64 b]) r (i+1)).run P w:=by
      simp only [Instr.findAsking,Sem.run_bind,heq,Result.andThen_ok,Bool.false_eq_true,if_false]
     rcases ih (i+1) (fun e he=>uP e (by simp [he])) with ⟨q1,q2⟩ | ⟨j,e',q1,q2,q3⟩
     ·exact .inl ⟨bj.trans q1,fun e0 Om=>by rcases List.mem_cons.1 Om with rfl | Om; exact bJ; exact q2 _ Om⟩
     ·exact .inr ⟨j+1,e',by rw [bj,q1]; congr 3; omega,by simpa using q2,q3⟩
  rw [run_findKey_eq w hw]
  rcases key es 0 uP with h1 | ⟨j,e,q1,q2,q3⟩
  ·exact .inl h1
  ·exact .inr ⟨j,e,by simpa using q1,q2,q3⟩
 ·obtain ⟨a,b,rfl⟩:=hv hk
  have:Instr.sameBits 10000 (.agg #[.int .i64 a,.int .i64 b]) (.agg #[.int .i64 a,.int .i64 b])=true:=by simp [Instr.sameBits]
  simp [Instr.keyThatStays,this]
end
end Go.TM
namespace Go.TM
open Go.RowKit
variable [cu]
theorem rj (ρ:Nat→AV):∀(k s:Nat),(bC ρ s k).length=k
 | 0,_=>rfl
 | k+1,s=>by simp [bC,rj ρ k]
theorem y6 (ρ:Nat→AV):∀(k s j:Nat) (v:AV),(bC ρ s k)[j]?=some v→v=ρ (s+j)
 | 0,_,j,v,h=>by simp [bC] at h
 | k+1,s,0,v,h=>by simp [bC] at h; exact h.symm
 | k+1,s,j+1,v,h=>by
  simp only [bC,List.getElem?_cons_succ] at h
  rw [y6 ρ k (s+1) j v h,Nat.add_right_comm,Nat.add_assoc]
section
variable {g:dD} {n:Nat} {ρ:Nat→AV} {κ:Nat→ar} {a:Act} {w:World} {G:Gh}
theorem cf.Ls (h:cf g n ρ κ a w G) {i b:Nat} {o:Obj} {bx:ar} (fo:bL G i (κ i) b) (Ua:∀c,bL G i bx c→c=b) (sF:eY G (w.putObj b o) i bx) :
  cf g n ρ (gv κ i bx) a (w.putObj b o) G:=by
 have aK:b<w.heap.size:=fo.lt h.fit
 have YP:G.M b=none:=h.fit.own i b fo
 refine h.pI (C:=fun j=>j=i) ⟨.refl G,fun _ _=>rfl,fun j hj=>ae _ _ hj,fun _ _=>⟨fun _ q=>q,fun _ _ _ _ q=>q⟩,fun c hc dj=>⟨fm _ _ (fun e=>dj i rfl (by rw [e]; exact fo)),rfl⟩,fun c o' hc=>?_,?_,?_,fun _ _ _ h1 h2 _ _=>h1.trans h2.symm,by rw [putObj_size]; exact Nat.le_refl _,rfl,rfl,rfl⟩ (fun _ _=>rfl)
 ·rw [fm _ _ (fun e=>by rw [e,YP] at hc; cases hc)]; exact h.fit.sub c o' hc
 ·rintro j rfl
  rw [aZ]; exact sF
 ·rintro j c rfl ho
  rw [aZ] at ho
  have:=Ua c ho
  subst this
  exact ⟨.inr ⟨j,rfl,fo⟩,YP⟩
theorem cf.AR (h:cf g n ρ κ a w G) {i b:Nat} {rc:RC} {st:B8} {l:List AV} (hi:κ i=.eI rc st l) (hb:G.β i=some b) :
  ∃r:Loop,w.heap[b]?=some (.loop r)∧r.state=st.st∧r.pending=st.EU∧(∀Qd:B8,cf g n ρ (gv κ i (.eI rc Qd l)) a (w.putObj b (.loop { r with state:=Qd.st,pending:=Qd.EU })) G) ∧
   ∀o,cf g n ρ (gv κ i .dead) a (w.putObj b o) G:=by
 have hx:=h.fit.box i
 rw [hi] at hx
 obtain ⟨b',fn,tmps,D,h1,h2,h3⟩:=hx
 rw [hb] at h1; injection h1 with h1; subst h1
 have aK:b<w.heap.size:=(Array.getElem?_eq_some_iff.1 h2).1
 have fo:bL G i (κ i) b:=by rw [hi]; exact hb
 refine ⟨_,h2,rfl,rfl,fun Qd=>h.Ls fo (fun c hc=>?_) ⟨b,fn,tmps,D,hb,World.putObj_heap_same aK,h3⟩,fun o=>h.Ls fo (fun c hc=>hc.elim) trivial⟩
 have mV:G.β i=some c:=hc
 rw [hb] at mV; injection mV with mV; exact mV.symm
def dD.upto (g:dD) (m:Nat) (β:Nat→Option Nat):dD:={ g with m:=m,β:=β,H:=fun i p=>if i<g.m then g.H i p else none }
theorem cf.upto (h:cf g n ρ κ a w G) (m:Nat):cf (g.upto m G.β) n ρ κ a w G:=by
 refine ⟨h.fit,h.env,h.size,h.x3,h.os,h.tape,h.output,h.grow,h.mem,h.lL,h.fE,fun _ _=>rfl,fun i _ p x hx=>?_,h.nk,h.r8⟩
 have x7:(if i<g.m then g.H i p else none)=some x:=hx
 split at x7
 ·rename_i hi; exact h.pH i hi p x x7
 ·cases x7
theorem cf.Lt {β:Nat→Option Nat} {m:Nat} (h:cf (g.upto m β) n ρ κ a w G) (hm:g.m≤m) (hβ:∀i,i<g.m→β i=g.β i):cf g n ρ κ a w G:=by
 refine ⟨h.fit,h.env,h.size,h.x3,h.os,h.tape,h.output,h.grow,h.mem,h.lL,h.fE,fun i hi=>(h.jg i (Nat.lt_of_lt_of_le hi hm)).trans (hβ i hi),fun i hi p x hx=>h.pH i (Nat.lt_of_lt_of_le hi hm) p x ?_,h.nk,h.r8⟩
 show (if i<g.m then g.H i p else none)=some x
 rw [if_pos hi]; exact hx
theorem cf.enterLoop (h:cf g n ρ κ a w G) {nx:Nat} (hn:κ nx=.none) (dq:g.m≤nx) (rc:RC) (fn:FuncId) :
  cf g n ρ (gv κ nx (.eI rc .ready (bC ρ 0 n))) { a with defers:=mark w.heap.size::a.defers } ((w.alloc (.deferred (some []))).alloc (.loop { state:=.ready,pending:=none,fn:=fn,tmps:=a.tmps,params:=rc.ps,assign:=rc.as,body:=rc.bd,defers:=w.heap.size })) { G with β:=gv G.β nx (some (w.heap.size+1)) } ∧
   Gh.Le G { G with β:=gv G.β nx (some (w.heap.size+1)) }:=by
 have Rw:=h.fit.box nx
 rw [hn] at Rw
 generalize hr:({ state:=.ready,pending:=none,fn:=fn,tmps:=a.tmps,params:=rc.ps,assign:=rc.as,body:=rc.bd,defers:=w.heap.size }:Loop)=r
 have hle:Gh.Le G { G with β:=gv G.β nx (some (w.heap.size+1)) } :=
  ⟨Mem.Le.refl _,fun i b hb=>by
   by_cases e:i=nx
   ·subst e; rw [Rw.1] at hb; cases hb
   ·show gv G.β nx _ i=some b
    rw [ae _ _ e]; exact hb,fun _ _ _ _ _ q=>q⟩
 have aU:((w.alloc (.deferred (some []))).alloc (.loop r)).heap.size=w.heap.size+2:=by rw [World.size_alloc,World.size_alloc]
 have yb:∀b,b<w.heap.size→((w.alloc (.deferred (some []))).alloc (.loop r)).heap[b]?=w.heap[b]?:=fun b hb=>by
  rw [aV _ _ (by rw [World.size_alloc]; omega),aV _ _ hb]
 have Rm:((w.alloc (.deferred (some []))).alloc (.loop r)).heap[w.heap.size]?=some (.deferred (some [])):=by
  rw [aV _ _ (by rw [World.size_alloc]; omega)]; exact bY _ _
 have W8:((w.alloc (.deferred (some []))).alloc (.loop r)).heap[w.heap.size+1]?=some (.loop r):=by
  have:=bY (w.alloc (.deferred (some []))) (.loop r)
  rwa [World.size_alloc] at this
 have W9:G.M.In ((w.alloc (.deferred (some []))).alloc (.loop r)):=(h.fit.sub.alloc _).alloc _
 have Ub:∀b,w.heap.size≤b→G.M b=none:=fun b hb=>Mem.In.qK h.fit.sub hb
 have pk:bU { G with β:=gv G.β nx (some (w.heap.size+1)) } (bC ρ 0 n) a.tmps.toList:=by
  refine ⟨by rw [rj]; simp [h.size],fun j d v hd hv=>?_⟩
  have:=y6 ρ n 0 j d hd
  rw [Nat.zero_add] at this
  subst this
  have he:=(h.env j).mono hle
  have jv:a.tmps.getD j undef=v:=by
   rw [Array.getD_eq_getD_getElem?]
   rw [Array.getElem?_toList] at hv
   rw [hv]; rfl
  rw [jv] at he; exact he
 have st:=h.pI (κ':=gv κ nx (.eI rc .ready (bC ρ 0 n))) (G':={ G with β:=gv G.β nx (some (w.heap.size+1)) }) (w':=(w.alloc (.deferred (some []))).alloc (.loop r)) (C:=fun j=>j=nx)
  ⟨hle,fun _ _=>rfl,fun j hj=>ae _ _ hj,fun j hj=>⟨fun x hx=>by
    have:gv G.β nx (some (w.heap.size+1)) j=some x:=hx
    rwa [ae _ _ hj] at this,fun _ _ _ _ q=>q⟩,fun b hb _=>⟨yb b hb,rfl⟩,W9,by
    rintro j rfl
    rw [aZ]
    exact ⟨w.heap.size+1,fn,a.tmps,w.heap.size,aZ _ _ _,by rw [W8,←hr]; rfl,pk⟩,by
    rintro j b rfl ho
    rw [aZ] at ho
    have hb:some (w.heap.size+1)=some b:=by
     have:gv G.β j (some (w.heap.size+1)) j=some b:=ho
     rwa [aZ] at this
    injection hb with hb
    exact ⟨.inl (by omega),Ub b (by omega)⟩,fun _ _ _ h1 h2 _ _=>h1.trans h2.symm,by rw [aU]; omega,rfl,rfl,rfl⟩
  (fun i hi=>by
   show gv G.β nx _ i=G.β i
   exact ae _ _ (by omega))
 refine ⟨{ st with r8:=?_ },hle⟩
 obtain ⟨D,h1,h2,h3⟩:=h.r8
 have RK:∀q,q∈D→q<w.heap.size:=fun q hq=>(Array.getElem?_eq_some_iff.1 (h3 q hq).1).1
 have key:∀i,∀q,q≤w.heap.size→bL { G with β:=gv G.β nx (some (w.heap.size+1)) } i (gv κ nx (.eI rc .ready (bC ρ 0 n)) i) q→bL G i (κ i) q:=by
  intro i q hq ho
  by_cases e:i=nx
  ·subst e
   rw [aZ] at ho
   have:gv G.β i (some (w.heap.size+1)) i=some q:=ho
   rw [aZ] at this
   injection this with this
   omega
  ·rw [ae _ _ e] at ho
   cases hk:κ i with
   | cells l=>rw [hk] at ho; have:gv G.β nx (some (w.heap.size+1)) i=some q:=ho; rwa [ae _ _ e] at this
   | eI rc st l=>rw [hk] at ho; have:gv G.β nx (some (w.heap.size+1)) i=some q:=ho; rwa [ae _ _ e] at this
   | jw a b c d f=>rw [hk] at ho; exact ho.imp id fun ho=>by have:gv G.β nx (some (w.heap.size+1)) i=some q:=ho; rwa [ae _ _ e] at this
   | _=>rw [hk] at ho; exact ho
 refine ⟨w.heap.size::D,by rw [List.map_cons,←h1],List.nodup_cons.2 ⟨fun hm=>Nat.lt_irrefl _ (RK _ hm),h2⟩,fun q hq=>?_⟩
 rcases List.mem_cons.1 hq with rfl | hq
 ·exact ⟨Rm,fun i ho=>Nat.lt_irrefl _ ((key i _ (Nat.le_refl _) ho).lt h.fit),Ub _ (Nat.le_refl _),h.grow⟩
 ·obtain ⟨a1,a2,a3,a4⟩:=h3 q hq
  exact ⟨by rw [yb q (RK q hq)]; exact a1,fun i ho=>a2 i (key i q (Nat.le_of_lt (RK q hq)) ho),a3,a4⟩
end
end Go.TM
namespace Go.TM
open Go.RowKit
variable [cu]
theorem jV (i:Nat) (b:ar) (K:aj):aa ((i,b)::K)=gv (aa K) i b:=by
 funext t
 simp only [aa,gv]
 by_cases h:t=i
 ·subst h; simp
 ·rw [if_neg h]; simp [beq_false h]
theorem rn {κ:Nat→ar}:∀{m:Nat},To κ m=true→∀j,j<m→(κ j).pass=true
 | 0,_,j,hj=>by omega
 | m+1,h,j,hj=>by
  simp only [To,Bool.and_eq_true] at h
  rcases Nat.lt_or_ge j m with aK | dy
  ·exact rn h.2 j aK
  ·have:j=m:=by omega
   subst this; exact h.1
theorem Fv (P:Program):yY P:=by
 intro g n nx env K a w x ps assign body Q R h hs hR
 obtain ⟨rc,rfl,h⟩:=h
 obtain ⟨⟨G,ak⟩,dq,hn⟩:=hs
 have core:∀(f:Nat) (bA:List AV) (vs:List Value),a.eval x=.func (.func f) #[] vs.toArray→bU G bA vs →
   AG P nx env ((nx,.eI ⟨ps,assign,body⟩ .ready (bC (look env) 0 n))::K) f bA Q→(Code.rangeFunc x ps assign body).wpIn Fence.wide 0 P R a w:=by
  intro f bA vs hx pk hh
  obtain ⟨σ,cq,K0,ex,R0,cV,fc,RF,Kk,gG⟩:=hh
  refine wpIn_rangeFunc fun fn _=>?_
  obtain ⟨mW,hle⟩:=ak.enterLoop (hn nx (Nat.le_refl _)) dq ⟨ps,assign,body⟩ fn
  rw [←jV] at mW
  have Fw:=mW.upto (nx+1)
  have Af:∀i,i<g.m→gv G.β nx (some (w.heap.size+1)) i=g.β i:=fun i hi=>by rw [ae _ _ (by omega)]; exact ak.jg i hi
  simp only [Bool.and_eq_true] at fc
  have dg:bU { G with β:=gv G.β nx (some (w.heap.size+1)) } (.fN nx::bA) (.func (.yield (w.heap.size+1)) #[] #[]::vs):=by
   have h1:bU { G with β:=gv G.β nx (some (w.heap.size+1)) } [.fN nx] [.func (.yield (w.heap.size+1)) #[] #[]] :=
    ⟨rfl,fun j d v hd hv=>by
     cases j with
     | zero=>simp at hd hv; subst hd; subst hv; exact .fN nx _ (aZ _ _ _)
     | succ j=>simp at hd⟩
   exact h1.append (pk.mono hle)
  obtain ⟨β,_,bj⟩:=lW (hd:=none) (nx:=nx+1) (κ:=aa ((nx,.eI ⟨ps,assign,body⟩ .ready (bC (look env) 0 n))::K)) (jU P f) cV.2
   (fun i hi=>by rw [jV,ae _ _ (by omega)]; exact hn i (by omega)) (by simp only [Bool.and_eq_true]; exact ⟨fc.1,rfl⟩) RF Kk (fun rs K1 hr=>(gG rs K1 hr).1) (rn fc.2) (Nat.le_refl _) Fw dg (fun _ _=>rfl)
  refine ⟨w.heap.size+1,[mark w.heap.size],((w.alloc (.deferred (some []))).alloc (.loop { state:=.ready,pending:=none,fn:=fn,tmps:=a.tmps,params:=ps,assign:=assign,body:=body,defers:=w.heap.size })),⟨.fn (.func f) vs.toArray,#[.func (.yield (w.heap.size+1)) #[] #[]]⟩,((w.alloc (.deferred (some []))).alloc (.loop { state:=.ready,pending:=none,fn:=fn,tmps:=a.tmps,params:=ps,assign:=assign,body:=body,defers:=w.heap.size })),f,(Value.func (.yield (w.heap.size+1)) #[] #[]::vs).toArray,((w.alloc (.deferred (some []))).alloc (.loop { state:=.ready,pending:=none,fn:=fn,tmps:=a.tmps,params:=ps,assign:=assign,body:=body,defers:=w.heap.size })),run_enterLoop_outer fn a.tmps ps assign body,?_,fun _ _=>trivial,?_,(fun h=>by cases h),?_⟩
  ·have h0:(#[]++Array.map a.eval #[Operand.const (Value.func (Fn.yield (w.heap.size+1)) #[] #[])])=#[Value.func (Fn.yield (w.heap.size+1)) #[] #[]]:=by simp [Act.eval]
   simp only [resolve,rangeCall,hx,Deferred.ofValue,Sem.run_pure]
   rw [h0]
  ·have:(#[Value.func (.yield (w.heap.size+1)) #[] #[]]++vs.toArray)=(Value.func (.yield (w.heap.size+1)) #[] #[]::vs).toArray:=by simp
   simp only [invoke]
   rw [this]
   exact gz cV.1 _ _
  ·refine (fZ.calls).2 (Calls.mono bj ?_)
   rintro e w2 ⟨v,rs,K2,G3,rfl,Z9,HF,_⟩
   obtain ⟨Ts,hq⟩:=gG rs K2 Z9
   rw [lj] at hq
   rw [←fa] at HF
   have yO:∀i,nx+1+ex≤i→aa (uD (bZ (sg σ (nx+1)) (jP (aa ((nx,.eI ⟨ps,assign,body⟩ .ready (bC (look env) 0 n))::K)) σ) K2++kg (aa ((nx,.eI ⟨ps,assign,body⟩ .ready (bC (look env) 0 n))::K)) (dG (aa ((nx,.eI ⟨ps,assign,body⟩ .ready (bC (look env) 0 n))::K)) (dL (sg σ (nx+1)) dH cq) (.fN nx::bA)++ey (aa ((nx,.eI ⟨ps,assign,body⟩ .ready (bC (look env) 0 n))::K)) (bZ (sg σ (nx+1)) dH K0))) ((nx,.eI ⟨ps,assign,body⟩ .ready (bC (look env) 0 n))::K)) i=.none:=by
    have IY:∀i,nx+1≤i→aa ((nx,.eI ⟨ps,assign,body⟩ .ready (bC (look env) 0 n))::K) i=.none:=fun i hi=>by rw [jV,ae _ _ (by omega)]; exact hn i (by omega)
    refine jK IY (Nat.le_add_right _ _) fun p hp=>?_
    have Fs:lU (σ.length+ex) K2=true:=by
     have:=Ts
     simp only [gE,Bool.and_eq_true] at this
     exact this.1.1.2
    have hσ1:∀i,i∈σ→i<nx+1:=by
     have:=fc.1
     simp only [im,Bool.and_eq_true] at this
     exact (hZ this.1.1.1.1.1.1).1
    rcases List.mem_append.1 hp with hp | hp
    ·obtain ⟨j,h1,h2⟩:=lg (i:=p.1) (b:=p.2) hp
     have hj:=di Fs j h1
     rw [h2]
     rcases Nat.lt_or_ge j σ.length with aK | dy
     ·have:=hσ1 _ (by rw [jc aK]; exact List.getElem_mem aK:sg σ (nx+1) j∈σ); omega
     ·rw [iI dy]; omega
    ·have:=sn IY hp; omega
   generalize On:uD (bZ (sg σ (nx+1)) (jP (aa ((nx,.eI ⟨ps,assign,body⟩ .ready (bC (look env) 0 n))::K)) σ) K2++kg (aa ((nx,.eI ⟨ps,assign,body⟩ .ready (bC (look env) 0 n))::K)) (dG (aa ((nx,.eI ⟨ps,assign,body⟩ .ready (bC (look env) 0 n))::K)) (dL (sg σ (nx+1)) dH cq) (.fN nx::bA)++ey (aa ((nx,.eI ⟨ps,assign,body⟩ .ready (bC (look env) 0 n))::K)) (bZ (sg σ (nx+1)) dH K0))) ((nx,.eI ⟨ps,assign,body⟩ .ready (bC (look env) 0 n))::K)=K3 at *
   have x5:G3.β nx=some (w.heap.size+1):=(HF.jg nx (Nat.lt_succ_self nx)).trans (aZ _ _ _)
   have fin:∀(EH:RC) (st:B8) (l:List AV) (e:AX),aa K3 nx=.eI EH st l→st.st ≠ .busy→st.EU=ow e→Q e (nx+1+ex) env ((nx,.dead)::K3)→rangePost Fence.wide 0 P (w.heap.size+1) R { a with defers:=[mark w.heap.size]++a.defers } (.returned v) w2:=by
    intro EH st l e hk hb hp hq
    obtain ⟨r,h1,h2,h3,_,Lu⟩:=HF.AR hk x5
    have Xa:=(Lu (.loop { r with state:=.exhausted })).Lt (Nat.le_succ_of_le dq) Af
    have Xb:yU g n (nx+1+ex) env ((nx,.dead)::K3) { a with defers:=[mark w.heap.size]++a.defers } (w2.putObj (w.heap.size+1) (.loop { r with state:=.exhausted })) :=
     ⟨⟨G3,by rw [jV]; exact Xa⟩,by omega,fun i hi=>by rw [jV,ae _ _ (by omega)]; exact yO i hi⟩
    have kL:=hR e _ _ _ _ _ hq Xb
    refine ⟨r.pending,_,run_endLoop h1 (by rw [h2]; exact hb),?_⟩
    have y7:r.pending=ow e:=h3.trans hp
    rw [y7] at kL
    rw [y7]
    cases e with
    | normal=>exact kL
    | ret=>exact wpIn_ret kL
    | exit i=>exact wpIn_exit kL
   unfold CK at hq
   split at hq
   ·rename_i EH l hk; exact fin EH .ready l .normal hk (by simp [B8.st]) rfl hq
   ·rename_i EH e l hk; exact fin EH (.done e) l e hk (by simp [B8.st]) rfl hq
   ·exact hq.elim
 have hv:=yT (ρ:=look env) (κ:=aa K) (x:=x) (look env) (aa K) ⟨fun _ _=>rfl,fun _ _=>rfl⟩ g n a w G ak
 generalize hx:a.eval x=y at hv
 split at h
 ·rename_i f bA he
  rw [he] at hv
  cases hv with | fn _ _ vs hl hr=>exact core f bA vs hx ⟨hl,hr⟩ h
 ·rename_i f bA he
  rw [he] at hv
  cases hv with | dv hd=>cases hd with | fn _ _ vs hl hr=>exact core f _ vs hx (hJ ⟨hl,hr⟩) h
 ·exact h.elim
theorem Fx {n:Nat} {o:Oper} {q:Nat × List Operand} (h:Hv n o=some q):∃c:Call,o.op=.call c∧c.callee=.value (.func q.1)∧c.args.toList=q.2∧o.guard=none∧∀t,o.dst=some t→t<n:=by
 unfold Hv at h
 split at h
 ·rename_i c e1 e2
  split at h
  ·rename_i f e3 e4
   injection h with h; subst h
   exact ⟨c,e1,e3,rfl,e2,fun t ht=>by rw [e4] at ht; cases ht⟩
  ·rename_i f t e3 e4
   have hh:=Rs h; clear h; obtain ⟨hb,h⟩:=hh
   injection h with h; subst h
   exact ⟨c,e1,e3,rfl,e2,fun t' ht=>by rw [e4] at ht; injection ht with ht; subst ht; simpa using hb⟩
  ·cases h
 ·cases h
theorem Oo (P:Program):Fk P:=by
 intro g ops n nx env K a w o q k ho h hs F hF
 obtain ⟨c,Xc,sj,EE,aR,Xd⟩:=Fx ho
 refine ⟨aR,?_⟩
 obtain ⟨⟨G,ak⟩,dq,hn⟩:=hs
 obtain ⟨l,⟨σ,cq,K0,ex,R,cV,fc,RF,Kk,gG⟩,bB⟩:=jB h
 rw [←EE] at bB
 have Xe:=tD (P:=P) (ops:=ops) (o:=o) Xc sj bB
 simp only [Bool.and_eq_true] at fc
 obtain ⟨vs,dg,ko⟩:=wz (C:=fun _=>True) (n:=n) Xe cV.1 0 (look env) (aa K) [] [] ⟨fun _ _=>rfl,fun _ _=>rfl,fun _ _=>rfl,fun _ _ _=>rfl⟩ g a w G trivial ak rfl
 obtain ⟨β,hβ,bj⟩:=lW (hd:=none) (nx:=nx) (jU P q.1) cV.2 hn (by simp only [Bool.and_eq_true]; exact ⟨fc.1,rfl⟩) RF Kk (fun rs K1 hr=>(gG rs K1 hr).1) (rn fc.2) dq ak dg (fun _ _=>rfl)
 refine ko F hF β hβ _ (jU P q.1 _ _ _ _ _ ?_ bj)
 rintro e w2 ⟨v,rs,K1,G3,rfl,hR,HF,hv⟩
 obtain ⟨Ts,hq⟩:=gG rs K1 hR
 rw [(fp (SizeOf.sizeOf (lK (sg σ nx) (jP (aa K) σ) (hU rs))+1)).1 _ _ (by omega),wy,lj,rh] at hq
 refine ⟨v,rfl,_,_,_,hq,⟨G3,?_⟩,Nat.le_trans dq (Nat.le_add_right _ _),jK hn (Nat.le_add_right _ _) fun p hp=>?_⟩
 ·rw [←fa] at HF
  cases hd:o.dst with
  | none=>exact HF
  | some t =>
   have:=HF.put (Xd t hd) hv
   have e:look (Rr (some t) (lK (sg σ nx) (jP (aa K) σ) (hU rs)) env)=gv (look env) t (lK (sg σ nx) (jP (aa K) σ) (hU rs)):=by
    have:=jC [(t,lK (sg σ nx) (jP (aa K) σ) (hU rs))] env
    simpa [Cz,az,Rr] using this
   rw [e]; exact this
 ·have Fs:lU (σ.length+ex) K1=true:=by
   have:=Ts
   simp only [gE,Bool.and_eq_true] at this
   exact this.1.1.2
  have hσ1:∀i,i∈σ→i<nx:=by
   have:=fc.1
   simp only [im,Bool.and_eq_true] at this
   exact (hZ this.1.1.1.1.1.1).1
  rcases List.mem_append.1 hp with hp | hp
  ·obtain ⟨j,h1,h2⟩:=lg (i:=p.1) (b:=p.2) hp
   have hj:=di Fs j h1
   rw [h2]
   rcases Nat.lt_or_ge j σ.length with aK | dy
   ·have:=hσ1 _ (by rw [jc aK]; exact List.getElem_mem aK:sg σ nx j∈σ); omega
   ·rw [iI dy]; omega
  ·have:=sn hn hp; omega
theorem ai (P:Program):iG P:=⟨Fv P,Oo P⟩
end Go.TM
namespace Go.TM
open Go.RowKit
variable [cu]
def uE:Nat→List AV→Env
 | _,[]=>[]
 | s,.any::r=>uE (s+1) r
 | s,v::r=>(s,v)::uE (s+1) r
theorem HG:∀(l:List AV) (s t:Nat),t<s→look (uE s l) t=.any
 | [],_,_,_=>rfl
 | v::r,s,t,h=>by
  have ih:=HG r (s+1) t (by omega)
  cases v <;> simp only [uE,look] <;> first | exact ih | (rw [beq_false (by omega)]; exact ih)
theorem y8:∀(l:List AV) (s j:Nat),look (uE s l) (s+j)=match l[j]? with | some v=>v | none=>.any
 | [],s,j=>by simp [uE,look]
 | v::r,s,0=>by
  have h0:=HG r (s+1) s (by omega)
  cases v <;> simp only [uE,look,Nat.add_zero,Nat.beq_refl,cond_true,List.getElem?_cons_zero] <;> exact h0
 | v::r,s,j+1=>by
  have ih:=y8 r (s+1) j
  have e:s+(j+1)=s+1+j:=by omega
  cases v <;> simp only [uE,look,List.getElem?_cons_succ] <;> rw [e] <;> first | exact ih | (rw [beq_false (by omega)]; exact ih)
def CT:List Nat→List AV→Env→Env
 | p::ps,v::vs,env=>CT ps vs ((p,v)::env)
 | _,_,env=>env
def HH (n:Nat):List Nat→Bool
 | []=>true
 | p::r=>Nat.blt p n && HH n r
theorem y9 {n:Nat}:∀{l:List Nat},HH n l=true→∀p,p∈l→p<n
 | [],_,p,h=>by simp at h
 | q::r,h,p,hp=>by
  simp only [HH,Bool.and_eq_true,Nat.blt_eq] at h
  rcases List.mem_cons.1 hp with rfl | hp
  ·exact h.1
  ·exact y9 h.2 p hp
theorem HI {G:Gh}:∀{ps:List Nat} {jq:List AV} {vs:List Value} {env:Env} {tmps:Array Value},(∀p,p∈ps→p<tmps.size)→bU G jq vs→(∀t,aH G (look env t) (tmps.getD t undef)) →
  ∀t,aH G (look (CT ps jq env) t) (((ps.zip vs).foldl (fun tm (pv:Nat × Value)=>tm.setIfInBounds pv.1 pv.2) tmps).getD t undef)
 | [],jq,vs,env,tmps,_,_,h,t=>by cases jq <;> simpa [CT] using h t
 | p::ps,[],vs,env,tmps,_,hr,h,t=>by
  have:vs=[]:=by have:=hr.1; simpa using this.symm
  subst this
  simpa [CT] using h t
 | p::ps,v::jq,[],env,tmps,_,hr,h,t=>by have:=hr.1; simp at this
 | p::ps,v::jq,x::vs,env,tmps,hp,hr,h,t=>by
  simp only [CT,List.zip_cons_cons,List.foldl_cons]
  refine HI (fun q hq=>by rw [Array.size_setIfInBounds]; exact hp q (by simp [hq])) ⟨by simpa using hr.1,fun j d y hd hy=>hr.2 (j+1) d y (by simpa using hd) (by simpa using hy)⟩ (fun t=>?_) t
  simp only [look]
  by_cases e:t=p
  ·subst e
   have:=hp t (by simp)
   simp only [Nat.beq_refl,cond_true,Array.getD_eq_getD_getElem?]
   rw [Array.getElem?_setIfInBounds_self_of_lt this]
   exact hr.2 0 v x rfl rfl
  ·rw [beq_false e,Array.getD_eq_getD_getElem?,Array.getElem?_setIfInBounds_ne (fun h=>e h.symm),←Array.getD_eq_getD_getElem?]
   exact h t
theorem Ja (ps:List (Nat × Value)):∀(tmps:Array Value),((ps.foldl (fun tm (pv:Nat × Value)=>tm.setIfInBounds pv.1 pv.2) tmps)).size=tmps.size:=by
 induction ps with
 | nil=>intro t; rfl
 | cons p r ih=>intro t; simp only [List.foldl_cons]; rw [ih,Array.size_setIfInBounds]
def Xf:AX→Bool
 | .normal=>true
 | _=>false
def Qh:AX→B8
 | .normal=>.ready
 | e=>.done e
section
variable {P:Program} {T:List TI}
end
end Go.TM
namespace Go.TM
open Go.RowKit
variable [cu]
def NQ {γ:Type} (f:Nat→γ) (i:Nat) (x:γ):Nat→γ:=fun j=>Bool.casesOn (Nat.beq j i) (f j) x
def AS {γ:Type} (f:Nat→γ):List (Nat × γ)→Nat→γ
 | []=>f
 | p::r=>NQ (AS f r) p.1 p.2
inductive XR (α:Type):Type
 | ok (a:α)
 | no (VZ:List Nat)
def XR.bind {α β:Type} (x:XR α) (f:α→XR β):XR β:=XR.casesOn x f .no
def dX {α:Type} (b:Bool) (VZ:Nat) (x:XR α):XR α:=Bool.casesOn b (.no [VZ]) x
def da {α:Type} (x:Option α) (VZ:Nat):XR α:=Option.casesOn x (.no [VZ]) .ok
def uF (a b:Int):Bool:=Int.casesOn a (fun m=>Int.casesOn b (fun n=>Nat.blt m n) (fun _=>false)) (fun m=>Int.casesOn b (fun _=>true) (fun n=>Nat.blt n m))
def Oq (a b:Int):Bool:=!(uF b a)
def HJ (a b:Int):Bool:=Int.casesOn a (fun m=>Int.casesOn b (fun n=>Nat.beq m n) (fun _=>false)) (fun m=>Int.casesOn b (fun _=>false) (fun n=>Nat.beq m n))
def NR (a:Int):Bool:=Int.casesOn a (fun _=>true) (fun _=>false)
def ym {α:Type}:List α→Nat→Option α
 | [],_=>none
 | x::r,i=>Nat.casesOn i (some x) (fun i=>ym r i)
abbrev EN:=jH × Nat
def Qi (κ:Nat→ar) (v:AV):XR AV:=match v with
 | .opt g v=>dX g 1 (.ok (res κ v))
 | v=>.ok v
def kN (ρ:Nat→AV) (κ:Nat→ar) (x:Operand):XR AV:=Qi κ (ev ρ κ x)
def CU (ρ:Nat→AV) (κ:Nat→ar):List Operand→XR (List AV)
 | []=>.ok []
 | x::r=>(kN ρ κ x).bind fun v=>(CU ρ κ r).bind fun l=>.ok (v::l)
def sH (ρ:Nat→AV) (κ:Nat→ar):List (Nat × Operand)→XR (List (Nat × AV))
 | []=>.ok []
 | p::r=>(kN ρ κ p.2).bind fun v=>(sH ρ κ r).bind fun l=>.ok ((p.1,v)::l)
structure XV where
 v:AV
 bx:List (Nat × ar)
 rd:List Nat
 nx:Nat
def fB (nx:Nat) (v:AV):XR XV:=.ok ⟨v,[],[],nx⟩
def mZ (n:Nat) (dst:Option Nat) (r:XV):XR EN:=match dst with
 | none=>.ok (⟨[],r.bx,r.rd⟩,r.nx)
 | some d=>dX (Nat.blt d n) 2 (.ok (⟨[(d,r.v)],r.bx,r.rd⟩,r.nx))
def HK (n:Int):Bool:=Int.casesOn n (fun m=>Nat.ble m 9223372036854775807) (fun m=>Nat.ble m 9223372036854775807)
def pZ (k:IntKind) (n:Int):XR AV:=match k with
 | .i64=>dX (HK n) 3 (.ok (.dv (.int .i64 n)))
 | k=>.ok (.dv (.int k (k.wrap n)))
def gf (b:Bool):XR AV:=.ok (.dv (.bool b))
def Qj (op:BinOp) (k:IntKind) (a b:Int):XR AV:=match op with
 | .add=>pZ k (a+b)
 | .sub=>pZ k (a - b)
 | .mul=>pZ k (a * b)
 | .quo=>dX (!(HJ b 0)) 5 (pZ k (a.tdiv b))
 | .rem=>dX (!(HJ b 0)) 5 (.ok (.dv (.int k (a.tmod b))))
 | .eql=>gf (HJ a b)
 | .neq=>gf (!(HJ a b))
 | .lss=>gf (uF a b)
 | .leq=>gf (Oq a b)
 | .gtr=>gf (uF b a)
 | .geq=>gf (Oq b a)
 | _=>.no [6]
def Qk (op:BinOp) (p q:Bool):XR AV:=match op with
 | .eql=>gf (p == q)
 | .neq=>gf (!(p == q))
 | _=>.no [8]
def Ql (op:BinOp) (s t:ByteArray):XR AV:=match op with
 | .eql=>gf (s.toList == t.toList)
 | .neq=>gf (!(s.toList == t.toList))
 | .add=>dX (decide (((s.size+t.size:Nat):Int)≤9223372036854775807)) 9 (.ok (.dv (.str (s++t))))
 | _=>.no [10]
def wB (op:BinOp) (same:Bool):XR AV:=match op with
 | .eql=>gf same
 | .neq=>gf (!same)
 | _=>.no [12]
def DV.int?:DV→Option (IntKind × Int)
 | .int k n=>some (k,n)
 | _=>none
def AV.int?:AV→Option (IntKind × Int)
 | .dv d=>d.int?
 | _=>none
def DV.bool?:DV→Option Bool
 | .bool b=>some b
 | _=>none
def AV.bool?:AV→Option Bool
 | .dv d=>d.bool?
 | _=>none
def DV.AT:DV→Option ByteArray
 | .str s=>some s
 | _=>none
def AV.AT:AV→Option ByteArray
 | .dv d=>d.AT
 | _=>none
def DV.nM:DV→Bool
 | .dr=>true
 | _=>false
def AV.nM:AV→Bool
 | .dv d=>d.nM
 | _=>false
def DV.Fy:DV→Option (IntKind × Int × Int)
 | .qG k lo hi=>some (k,lo,hi)
 | _=>none
def AV.Fy:AV→Option (IntKind × Int × Int)
 | .dv d=>d.Fy
 | _=>none
def RL (op:BinOp) (lo hi b:Int):Option Bool:=match op with
 | .lss=>yn (uF hi b) (!(uF lo b))
 | .leq=>yn (!(uF b hi)) (uF b lo)
 | .gtr=>yn (uF b lo) (!(uF b hi))
 | .geq=>yn (!(uF lo b)) (uF hi b)
 | .eql=>bif uF b lo || uF hi b then some false else none
 | .neq=>bif uF b lo || uF hi b then some true else none
 | _=>none
def RN (ti:TI) (op:BinOp) (x y:AV):XR AV:=match x.int? with
 | some a=>(da y.int? 4).bind fun b=>dX (a.1 == b.1) 4 (Qj op a.1 a.2 b.2)
 | none=>match x.Fy with
  | some t=>(da y.int? 14).bind fun b=>dX (t.1 == b.1) 14 ((da (RL op t.2.1 t.2.2 b.2) 14).bind gf)
  | none=>match x.bool? with
   | some p=>(da y.bool? 7).bind fun q=>dX (ti.ok && Nat.beq ti.kind 1) 7 (Qk op p q)
   | none=>match x.AT with
    | some s=>(da y.AT 11).bind fun t=>Ql op s t
    | none=>dX (y.nM && (ti.ok && Nat.beq ti.kind 5)) 13 (match x.nM with
     | true=>wB op true
     | false=>dX (po x) 15 (wB op false))
def tS:DV→List PS→XR DV
 | d,[]=>.ok d
 | d,s::p=>match step d s with
  | some c=>tS c p
  | none=>.no [18]
def tT:DV→List PS→DV→XR DV
 | _,[],n=>.ok n
 | d,s::p,n=>match step d s with
  | some c=>(tT c p n).bind fun c'=>.ok (put d s c')
  | none=>.no [25]
def Lv (κ:Nat→ar) (i ver ep:Nat) (p:List PS):XR (Nat × DV):=match κ i with
 | .tree bg bN d=>dX (Nat.beq ver bg && (emp p || Nat.beq ep bN)) 32 (.ok (bN,d))
 | _=>.no [33]
structure XN where
 ep:Nat
 d:DV
 n:DV
def lk (κ:Nat→ar) (i ver ep:Nat) (p:List PS):XR XN:=(Lv κ i ver ep p).bind fun t=>(tS t.2 p).bind fun n=>.ok ⟨t.1,t.2,n⟩
def DV.Fz:DV→Option (Nat × List DV)
 | .aw sz l=>some (sz,l)
 | _=>none
def DV.HL:DV→Option (KS × List DV)
 | .omap s m=>some (s,m)
 | _=>none
def DV.Lw:DV→Option DV
 | .cB x=>some x
 | _=>none
def wC (agg:Bool) (l:List AV) (off n:Nat):XR AV:=match agg with
 | true=>dX (Nat.ble (off+n) l.length) 16 (.ok (.agg ((l.drop off).take n)))
 | false=>da (ym l off) 17
def ne {α:Type}:List α→Bool
 | []=>false
 | _::_=>true
def lX (x:DV):Bool:=x.cells.all fun d=>!d.ah
def jD:List DV→Bool
 | []=>true
 | x::r=>lX x && jD r
structure XL where
 sz:Nat
 l:List DV
 rd:List Nat
 kill:List Nat
def Lx (d:DV):XR (Option XL):=match d with
 | .sl sz l=>.ok (some ⟨sz,l,[],[]⟩)
 | .aG=>.ok none
 | _=>.no [36]
def Ly (κ:Nat→ar) (v:AV):XR (Option XL):=match v with
 | .dv d=>Lx d
 | .own i ver ep p=>(lk κ i ver ep p).bind fun t=>(da t.n.Fz 35).bind fun q=>match jD q.2 with
  | true=>.ok (some ⟨q.1,q.2,[i],[]⟩)
  | false=>dX (emp p) 34 (.ok (some ⟨q.1,q.2,[i],[i]⟩))
 | _=>.no [36]
def CV (ti:TI) (n:Nat):Bool:=Nat.ble (n * ti.bytes) 140737488355328 && Nat.ble n 9223372036854775807
def isFull:AV→Bool
 | .bX _ _=>true
 | _=>false
def AU (ti:TI) (nx:Nat) (x:Option XL):XR XV:=match x with
 | none=>fB nx (.dv .aG)
 | some q=>dX (Nat.beq q.sz ti.size && CV ti q.l.length) 38 (.ok ⟨.own nx 0 0 [],(nx,.tree 0 0 (.aw q.sz q.l))::ec q.kill,nx::q.rd,nx+1⟩)
def LA (ti:TI) (nx i ver:Nat) (p:List PS) (t:XN) (sz:Nat) (l:List DV) (q:XL):XR XV:=dX (!gu i q.rd) 41 (match p with
 | []=>.ok ⟨.own i (ver+1) 0 [],(i,.tree (ver+1) 0 (.aw sz (l++q.l)))::ec q.kill,i::q.rd,nx⟩
 | s::p=>(tT t.d (s::p) .any).bind fun d'=>.ok ⟨.own nx 1 0 [],(nx,.tree 1 0 (.aw sz (l++q.l)))::(i,.tree ver (t.ep+1) d')::ec q.kill,nx::i::q.rd,nx+1⟩)
def LB (nx i ver:Nat) (p:List PS) (t:XN) (sz:Nat) (l:List DV):XR XV:=match p with
 | []=>.ok ⟨.own i (ver+1) 0 [],[(i,.tree (ver+1) 0 (.aw sz l))],[i],nx⟩
 | s::p=>(tT t.d (s::p) .any).bind fun d'=>.ok ⟨.own nx 0 0 [],[(nx,.tree 0 0 (.aw sz l)),(i,.tree ver (t.ep+1) d')],[nx,i],nx+1⟩
def HN (ti:TI) (nx:Nat) (full:Bool) (i ver:Nat) (p:List PS) (t:XN) (sz:Nat) (l:List DV) (x:Option XL):XR XV:=match x with
 | none=>LB nx i ver p t sz l
 | some q=>dX (Nat.beq q.sz sz && CV ti (l.length+q.l.length)) 40 (match full && ne q.l && !ne q.kill && jD l && jD q.l with
  | true=>.ok ⟨.own nx 0 0 [],[(nx,.tree 0 0 (.aw sz (l++q.l)))],nx::i::q.rd,nx+1⟩
  | false=>LA ti nx i ver p t sz l q)
def iW:DV→Bool
 | .aG=>true
 | _=>false
def AW (ti te:TI) (nx:Nat) (κ:Nat→ar) (s x:AV):XR XV :=
 dX (ti.ok && ti.isSl && te.ok && Nat.blt 0 te.size) 37 ((Ly κ (dn x)).bind fun src=>match dn s with
  | .dv d=>dX (iW d) 43 (AU te nx src)
  | .own i ver ep p=>(lk κ i ver ep p).bind fun t=>(da t.n.Fz 42).bind fun q=>dX (Nat.beq q.1 te.size) 39 (HN te nx (isFull s) i ver p t q.1 q.2 src)
  | _=>.no [43])
def Qm (ti:TI) (d:DV):XR Nat:=match d with
 | .sl _ l=>dX (ti.ok && ti.isSl) 44 (.ok l.length)
 | .aG=>dX (ti.ok && ti.isSl) 44 (.ok 0)
 | .str s=>dX (ti.ok && ti.isStr) 44 (.ok s.size)
 | _=>.no [46]
def Qn (ti:TI) (n:DV):XR Nat:=match n with
 | .aw _ l=>dX (ti.ok && ti.isSl) 44 (.ok l.length)
 | .omap _ m=>dX (ti.ok && Nat.beq ti.kind 6) 44 (.ok m.length)
 | _=>.no [45]
def LC (nx:Nat) (n:Nat) (rd:List Nat):XR XV:=.ok ⟨.dv (.int .i64 n),[],rd,nx⟩
def RO (ti:TI) (nx:Nat) (κ:Nat→ar) (v:AV):XR XV:=match v with
 | .dv d=>(Qm ti d).bind fun n=>LC nx n []
 | .own i ver ep p=>(lk κ i ver ep p).bind fun t=>(Qn ti t.n).bind fun n=>LC nx n [i]
 | .sle _ m=>dX (ti.ok && ti.isSl) 44 (LC nx m [])
 | _=>.no [46]
def Qo (d:DV):XR Bool:=match d with
 | .aG=>.ok true
 | .sl _ l=>dX (ne l) 88 (.ok false)
 | _=>.no [88]
def RP (ti:TI) (κ:Nat→ar) (v:AV):XR (Bool × List Nat):=dX (ti.ok && ti.isSl) 87 (match v with
 | .dv d=>(Qo d).bind fun b=>.ok (b,[])
 | .own i ver ep p=>(lk κ i ver ep p).bind fun t=>(da t.n.Fz 88).bind fun q=>dX (ne q.2) 88 (.ok (false,[i]))
 | .bX _ _=>.ok (false,[])
 | .sle _ _=>.ok (false,[])
 | _=>.no [89])
def qa (i ver ep:Nat) (p:List PS) (sz idx:Nat) (nd:DV):XR (List AV):=match nd with
 | .aw pO l=>dX (Nat.beq sz pO) 47 ((da (ym l idx) 48).bind fun x=>.ok (jW i ver ep p idx 0 x.cells))
 | .cB x=>dX (Nat.beq idx 0) 49 (.ok (jW i ver ep p 0 0 x.cells))
 | _=>.no [50]
def AY (x:DV) (off:Nat) (ds:List DV):XR DV:=match x with
 | .agg l=>dX (Nat.ble (off+ds.length) l.length) 51 (.ok (.agg (lY l off ds)))
 | _=>match off,ds with
  | 0,[d]=>.ok d
  | _,_=>.no [52]
def FA (sz idx off:Nat) (nd:DV) (ds:List DV):XR (List DV × DV):=match nd with
 | .aw pO l=>dX (Nat.beq sz pO) 53 ((da (ym l idx) 54).bind fun x=>(AY x off ds).bind fun y=>.ok ((x.cells.drop off).take ds.length,.aw pO (l.set idx y)))
 | .cB x=>dX (Nat.beq idx 0) 55 ((AY x off ds).bind fun y=>.ok ((x.cells.drop off).take ds.length,.cB y))
 | _=>.no [56]
def AZ (nx:Nat) (κ:Nat→ar) (i ver ep:Nat) (p:List PS) (sz idx off:Nat) (vs:List AV):XR XV :=
 (lk κ i ver ep p).bind fun t=>(da (rp κ vs) 58).bind fun q=>dX (!(gu i q.2 || !eP q.2)) 57 ((FA sz idx off t.n q.1).bind fun on=>(tT t.d p on.2).bind fun d' =>
  .ok ⟨.any,(i,.tree ver (bif eS on.1 || eS q.1 then t.ep+1 else t.ep) d')::pq κ q.2,i::q.2,nx⟩)
def AV.yp (v:AV):Option Int:=match v.int? with
 | some (.i64,n)=>some n
 | _=>none
def xI (ρ:Nat→AV) (κ:Nat→ar) (x:Option Operand):XR (Option Int):=match x with
 | none=>.ok none
 | some x=>(kN ρ κ x).bind fun v=>(da v.yp 59).bind fun n=>.ok (some n)
def LD (lo hi:Option Int) (len:Nat):Bool:=NR (lo.getD 0) && Oq (lo.getD 0) (hi.getD len) && Oq (hi.getD len) len
def Uc (lo hi:Option Int) (l:List DV):List DV:=(l.take (hi.getD l.length).toNat).drop (lo.getD 0).toNat
def HO (ti:TI) (x8 nx:Nat) (d:DV) (lo hi:Option Int):XR XV:=match d with
 | .sl sz l=>dX (ti.isSl && Nat.beq sz x8 && LD lo hi l.length) 60 (fB nx (.dv (.sl sz (Uc lo hi l))))
 | .str s=>dX (ti.isStr && LD lo hi s.size) 63 (fB nx (.dv (.str (s.extract (lo.getD 0).toNat (hi.getD s.size).toNat))))
 | _=>.no [64]
def A0 (ti:TI) (x8 nx:Nat) (κ:Nat→ar) (v:AV) (lo hi:Option Int):XR XV:=match v with
 | .dv d=>HO ti x8 nx d lo hi
 | .own i ver ep p=>dX (emp p) 62 ((lk κ i ver ep []).bind fun t=>(da t.n.Fz 62).bind fun q=>dX (ti.isSl && Nat.beq q.1 x8 && LD lo hi q.2.length) 61 (
   .ok ⟨.own i (ver+1) 0 [],[(i,.tree (ver+1) 0 (.aw q.1 (Uc lo hi q.2)))],[i],nx⟩))
 | _=>.no [64]
def RQ (ti:TI):Option KS:=bif ti.ok && ti.EW == some .i64 then some I8 else bif ti.ok && ti.isStr then some RJ else bif ti.ok && ti.pair then some dw else none
def LF:vq→vq→Bool
 | .int k,.int k'=>k == k'
 | .bool,.bool=>true
 | .str,.str=>true
 | _,_=>false
def sI:List vq→List vq→Bool
 | [],[]=>true
 | a::l,b::r=>LF a b && sI l r
 | _,_=>false
def Ot (a b:KS):Bool:=(a.agg == b.agg) && sI a.tags b.tags
def HP (ti:TI) (s:KS):Bool:=match RQ ti with
 | some s'=>Ot s s'
 | none=>false
def za:List AV→Option (List DV)
 | []=>some []
 | .dv d::r=>match za r with
  | some l=>some (d::l)
  | none=>none
 | _=>none
def Jb:AV→Option DV
 | .dv d=>bif d.isAgg then none else some d
 | .agg l=>match za l with
  | some ds=>some (.agg ds)
  | none=>none
 | _=>none
def A3 (te:TI) (i ver ep:Nat) (p:List PS) (key:DV) (c b:Bool) (x:DV) (nx:Nat):XR XV:=dX (x.isAgg == te.agg) 66 (
 .ok ⟨bif c then .eV [fq.pt te.agg (jX i ver ep p key 0 x.cells),.dv (.bool b)] else fq.pt te.agg (jX i ver ep p key 0 x.cells),[],[i],nx⟩)
def A4 (tk te:TI) (nx:Nat) (κ:Nat→ar) (v kv:AV) (c:Bool):XR XV:=match v with
 | .own i ver ep p=>(lk κ i ver ep p).bind fun t=>(da t.n.HL 68).bind fun q=>(da (Jb kv) 68).bind fun key=>dX (HP tk q.1 && q.1.ok key) 65 (match bn q.2 key with
  | some x=>A3 te i ver t.ep p key c true x nx
  | none=>A3 te i ver t.ep p key c false te.wD nx)
 | _=>.no [69]
def lZ:AV→Bool
 | .agg _=>true
 | _=>false
def oK (m:List DV) (key:DV):Bool:=match bn m key with
 | some x=>lX x
 | none=>true
def A5 (tk:TI) (nx:Nat) (κ:Nat→ar) (v kv u:AV):XR XV:=match v with
 | .own i ver ep p=>(lk κ i ver ep p).bind fun t=>(da t.n.HL 74).bind fun q=>(da (Jb kv) 74).bind fun key=>dX (HP tk q.1 && q.1.ok key) 70 (
   (da (rp κ (cellsOf u)) 73).bind fun w=>dX (!(gu i w.2 || !eP w.2 || !bV (cellsOf u))) 71 (
    dX ((gY (lZ u) w.1).isAgg == lZ u && Nat.beq (gY (lZ u) w.1).cells.length w.1.length) 72 (
     (tT t.d p (.omap q.1 (eH q.2 key (gY (lZ u) w.1)))).bind fun d' =>
      .ok ⟨.any,(i,.tree ver (bif lX (gY (lZ u) w.1) && oK q.2 key then t.ep else t.ep+1) d')::ec w.2,i::w.2,nx⟩)))
 | _=>.no [75]
def yq (agg:Bool) (sz:Nat):Nat→List DV→List DV
 | 0,_=>[]
 | k+1,l=>gY agg (l.take sz)::yq agg sz k (l.drop sz)
end Go.TM
