import Derived.Test.YtpbdohkbiklflaaGreatDoorPM15
import Derived.WideKeyRuns
import Derived.Laws.StructEq
set_option linter.unusedVariables false
set_option linter.unusedSimpArgs false
set_option linter.unusedSectionVars false
namespace Go.TM
open Go.RowKit
variable [ct]
theorem vu:∀{s k i:Nat},s≤i→i<s+k→i∈lD s k
 | s,0,i,h1,h2=>by omega
 | s,k+1,i,h1,h2=>by
  simp only [lD,List.mem_cons]
  by_cases e:i=s
  ·exact .inl e
  ·exact .inr (vu (by omega) (by omega))
def tT (I:Inv):Prop:=∀β vs w (R R':Ending→World→Prop),(∀e w,R e w→R' e w)→I β vs w R→I β vs w R'
theorem jC (P:Program) (f:Nat):tT (F4 P f):=fun _ _ _ _ _ h hc=>Calls.mono hc h
theorem Eb (P:Program):tT (F5 P):=by
 intro β vs w R R' h hc
 obtain ⟨l,h1,fn,tmps,assign,body,w1,h2,h3⟩:=hc
 exact ⟨l,h1,fn,tmps,assign,body,w1,h2,RoundIn.mono h3 h⟩
theorem Hm {i nx:Nat} {σ:List Nat} (h:Hn (some i) σ=true):0<σ.length∧sg σ nx 0=i:=by
 cases σ with
 | nil=>simp [Hn] at h
 | cons x r =>
  simp only [Hn] at h
  exact ⟨by simp,(Nat.eq_of_beq_eq_true h).symm⟩
section
variable {P:Program} {C:dy→Prop} {T:List TI} {ops:List Oper} {n:Nat} {o:Oper} {nx:Nat} {ρ:Nat→AV} {κ:Nat→ao} {k:jo→Nat→Prop} {gd:Bool}
def JF (P:Program) (ops:List Oper) (n:Nat) (o:Oper) (ρ:Nat→AV) (κ:Nat→ao) (gd:Bool) (hd:Option Nat) (C:dy→Prop) (m:Nat) (I:Inv) (l:List AV):Prop :=
 ∀ρ' κ' rd bx,A8 ops o ρ ρ' κ κ' rd bx→∀(g:dy) (a:Act) (w:World) (G:Gh),C g→bZ g n ρ' κ' a w G→gd=true →
  ∃vs:List Value,bR G l vs∧∀F,fT F→∀β:Nat→Option Nat,(∀i,hd=some i→β 0=G.β i)→∀K:Act→World→Prop,
   I β vs w (fun e w'=>∃v,e=.returned v∧K (a.put o.dst v) w')→o.wpIn F 0 P a w K (fun _ _ _=>False)
theorem lE {hd:Option Nat} {I:Inv} {l:List AV} {σ:List Nat} {ck:List AV} {K0:ah} {ex:Nat} {R:List AV→ah→Prop} (hI:tT I) (cM:zQ I ck σ.length K0 ex R)
  (hn:∀i,nx≤i→κ i=.none) (eV:(gV κ σ nx l ck K0 && Hn hd σ)=true) (PF:eg 0 κ (aa (bV (sg σ nx) dC K0)) (dG (sg σ nx) dC ck) l) (IE:o7 0 κ (aa (bV (sg σ nx) dC K0)) (bV (sg σ nx) dC K0))
  (gm:∀rs K1,R rs K1→gk σ ex K0 K1 rs=true) (bD:∀j,j<σ.length→(aa K0 j).pass=true)
  {ρ':Nat→AV} {κ':Nat→ao} {g:dy} {a:Act} {w:World} {G:Gh} (dh:g.m≤nx) (ai:bZ g n ρ' κ' a w G) {vs:List Value} (du:bR G l vs)
  (au:∀i,i∈σ++(dB κ (dG (sg σ nx) dC ck) l++eh κ (bV (sg σ nx) dC K0))++lD nx ex→κ' i=κ i) :
  ∃β:Nat→Option Nat,(∀i,hd=some i→β 0=G.β i)∧I β vs w fun e w2=>∃v rs K1 G3,e=.returned v∧R rs K1 ∧
   bZ g n ρ' (aw κ' (bV (sg σ nx) (jy κ σ) K1++jV κ (dB κ (dG (sg σ nx) dC ck) l++eh κ (bV (sg σ nx) dC K0)))) a w2 G3∧aE G3 (ln (sg σ nx) (jy κ σ) (ic rs)) v:=by
 simp only [Bool.and_eq_true] at eV
 obtain ⟨eV,Hh⟩:=eV
 simp only [gV,Bool.and_eq_true] at eV
 obtain ⟨⟨⟨⟨⟨⟨UY,D7⟩,RW⟩,XY⟩,RX⟩,UZ⟩,gI⟩:=eV
 obtain ⟨hσ1,hσ2⟩:=gO UY
 have dt:=Jy (nx:=nx) hσ1 hσ2
 have BL:∀j (h:j<σ.length),sg σ nx j∈σ:=fun j h=>by rw [iK h]; exact List.getElem_mem h
 simp only [bo.wf,Bool.and_eq_true] at RW RX
 have Oe:∀j,j<σ.length→(aa K0 j).fA=false:=fun j hj=>by
  have:=bD j hj
  cases h:aa K0 j <;> rw [h] at this <;> first | rfl | cases this
 have RY:∀j,j∈keys K0→∀a b c d e,aa K0 j ≠ .jd a b c d e:=fun j hj a b c d e h=>by
  have:=bD j (db D7 j hj)
  rw [h] at this; cases this
 have RZ:∀j,j∈keys K0→aa K0 j ≠ .held:=fun j hj h=>by
  have:=bD j (db D7 j hj)
  rw [h] at this; cases this
 have JG:∀j,j<σ.length→j∈keys K0:=fun j hj=>by
  refine Classical.byContradiction fun hn=>?_
  have:=Oe j hj; rw [fN hn] at this; cases this
 have R1:∀j,aa (bV (sg σ nx) dC K0) (sg σ nx j)=if j∈keys K0 then qp (sg σ nx) dC j (aa K0 j) else .none:=fun j=>by
  rw [fC (bV (sg σ nx) dC K0)]; exact n3 dt _ K0 j
 have PG:∀j,j<σ.length→(aa (bV (sg σ nx) dC K0) (sg σ nx j)).fA=false:=fun j hj=>by
  rw [R1,if_pos (JG j hj)]
  cases aa K0 j <;> rfl
 have U0:∀i,(aa (bV (sg σ nx) dC K0) i).fA=false→i∈σ:=fun i hi=>by
  rcases fK (K:=bV (sg σ nx) dC K0) (i:=i) with h | h
  ·rw [h] at hi; cases hi
  ·obtain ⟨j,h1,rfl⟩:=kK h
   exact BL j (db D7 j h1)
 have auσ:∀i,i∈σ→κ' i=κ i:=fun i hi=>au i (List.mem_append.2 (.inl (List.mem_append.2 (.inl hi))))
 have Mu:∀i,i∈dB κ (dG (sg σ nx) dC ck) l++eh κ (bV (sg σ nx) dC K0)→κ' i=κ i:=fun i hi=>au i (List.mem_append.2 (.inl (List.mem_append.2 (.inr hi))))
 have U1:∀i,nx≤i→i<nx+ex→κ' i=.none:=fun i h1 h2=>(au i (List.mem_append.2 (.inr (vu h1 h2)))).trans (hn i h1)
 generalize WC:dB κ (dG (sg σ nx) dC ck) l++eh κ (bV (sg σ nx) dC K0)=F at *
 obtain ⟨G1,f1,f2,f3,f4,mA⟩:=ai.nS (κ:=κ) F Mu
 have hs:∀i,BD 0 κ (aa (bV (sg σ nx) dC K0)) F i:=by
  intro i
  rcases fK (K:=bV (sg σ nx) dC K0) (i:=i) with h | h
  ·unfold BD; rw [h]; exact ⟨tv,rfl,by simp [sS]⟩
  ·exact ⟨(kI IE i _ h).1,(qm RX.1 i _ h).2,fun j hj=>by rw [←WC]; exact List.mem_append.2 (.inr ((kI IE i _ h).2 j hj))⟩
 obtain ⟨R2,PH⟩:=N8 (m:=0) (κ:=κ) (κc:=κ') ai.fit f1 f2 f3 f4 Mu (fun i hi=>auσ i (U0 i hi)) mA.fit gI hs
 have bM:=(mU (m:=0) (κ:=κ) (κ':=aa (bV (sg σ nx) dC K0)) (w:=w) f1 f2 f3 Mu mA.fit (SizeOf.sizeOf (dG (sg σ nx) dC ck)+1)).2 _ l vs (by omega) PF UZ (fun i hi=>by rw [←WC]; exact List.mem_append.2 (.inl hi)) du
 obtain ⟨R3,sZ⟩:=Mt dt R2 (fun j hj h=>by have:=Oe j (db D7 j hj); rw [h] at this; cases this) RY RZ (fun j c hc=>by
  rcases fK (K:=K0) (i:=j) with h | h
  ·rw [h] at hc; cases hc
  ·have:=(qm RW.1 j _ h).2
   rw [hc] at this
   simp only [ao.Q8,Bool.and_eq_true] at this
   exact this.2)
 have PI:=(Jz (r:=sg σ nx) (SizeOf.sizeOf ck+1)).2 ck vs (by omega) bM
 have hβ0:∀j,j<σ.length→(pull (sg σ nx) (dA 0 κ (aa (bV (sg σ nx) dC K0)) G1)).β j=G1.β (sg σ nx j):=fun j hj=>by
  simp only [pull,dA,reβ,PG j hj]
 refine ⟨(pull (sg σ nx) (dA 0 κ (aa (bV (sg σ nx) dC K0)) G1)).β,fun i hi=>?_,hI _ _ _ _ _ ?_ (cM w _ vs (ai.oh.mono (ai.mem.trans f1.mem)) R3 PI)⟩
 ·subst hi
  obtain ⟨h1,h2⟩:=Hm (nx:=nx) Hh
  rw [hβ0 0 h1,f2,h2]
 ·rintro e w2 ⟨v,rs,K1,G2,rfl,WD,hC⟩
  have hκ1:=mW (κ:=κ) (κ':=κ') (ids:=F) Mu
  obtain ⟨t1,t2,t3⟩:=Hk (κ:=κ) (κ1:=aw κ' (jV κ F)) (G1:=G1) (nx:=nx) hσ1 hσ2 (fun i h1 h2=>by
    rw [hκ1,hn i h1,U1 i h1 h2]; simp [ao.dR]) mA.fit
   (fun i hi V E d hk=>by
    have hb:=ai.fit.box i
    rw [auσ i hi,hk] at hb
    rw [f3]; exact ⟨hb.2.2.1,hb.2.2.2⟩)
   (fun i hi hk v e p=>by
    have hb:=ai.fit.box i
    rw [auσ i hi,hk] at hb
    rw [f3]; exact hb.2 v e p)
   (fun j hj V E d hk=>by
    have dm:=PG j hj
    have hz:iA 0 (sg σ nx j) V E=(0,0):=tO (by omega)
    have key:∀p,az (tN 0 κ (aa (bV (sg σ nx) dC K0)) G1.H) (sg σ nx j) 0 0 p=az G1.H (sg σ nx j) V E p:=fun p=>by
     have:=mT (m:=0) (H:=G1.H) hk dm p
     rw [hz] at this; exact this
    refine ⟨fun x hx=>?_,fun s q x hx=>?_⟩
    ·have:=key []; simp only [az] at this; simp only [pull,dA]; rw [this]; exact hx
    ·have:=key (s::q); simp only [az] at this; simp only [pull,dA]; rw [this]; exact hx)
   (fun j hj V d hk=>by
    have hb:=mA.fit.box (sg σ nx j)
    have L1:aw κ' (jV κ F) (sg σ nx j)=.fz V d:=by rw [hκ1,auσ _ (BL j hj),hk]; simp [ao.dR]
    rw [L1] at hb
    obtain ⟨x,h1,_⟩:=hb
    refine ⟨x,h1,?_⟩
    simp only [pull,dA,tN,PG j hj,hk]
    have:=(jx 0 (G1.H (sg σ nx j)) (sg σ nx j) V 0 (.el 0 0) []).1
    rw [tO (by omega)] at this
    rw [this]; exact h1)
   hβ0 rfl
   (fun j b ho=>by
    obtain ⟨h1,h2⟩:=sZ j b ho
    exact ⟨db D7 j h1,PH _ b h2⟩)
   (fun j hj=>by
    obtain ⟨hx,_,_⟩:=hs (sg σ nx j)
    rw [R1,if_pos (JG j hj)] at hx
    refine ⟨fun v e d h0=>?_,fun v d h0=>?_⟩
    ·rw [h0] at hx
     cases hk:κ (sg σ nx j) with
     | tree V E d=>exact .inl ⟨_,_,_,rfl⟩
     | none=>exact .inr rfl
     | _=>rw [hk] at hx; exact hx.elim
    ·rw [h0] at hx
     cases hk:κ (sg σ nx j) with
     | tree V E d=>exact .inl ⟨_,_,_,rfl⟩
     | fz V d=>exact .inr ⟨_,_,rfl⟩
     | _=>rw [hk] at hx; exact hx.elim)
   (gm rs K1 WD) hC
  have F6:=mA.oS t1 (fun i hi=>t2 i (by omega))
  refine ⟨v,rs,K1,_,rfl,WD,F6.congr ?_,t3⟩
  rw [sX]
theorem x7 {hd:Option Nat} {S:List AV→Nat→ah→Nat→(List AV→ah→Prop)→Prop} {I:Nat→Inv} {ok:Nat→Prop} {l:List AV} (hS:∀args m K ex R,S args m K ex R→ok m∧zQ (I m) args m K ex R) (hI:∀m,tT (I m)) (c8:∀c,o.op ≠ .defer c)
  (hn:∀i,nx≤i→κ i=.none) (hg:bL ρ ops o.guard=some gd) (br:∀m,ok m→JF P ops n o ρ κ gd hd C m (I m) l) (h:kn hd S n o gd nx κ k l):Good P C ops n o nx ρ κ k:=by
 obtain ⟨σ,ck,K0,ex,rs,K1,cM,eV,gm,PF,IE,hk⟩:=h
 rw [(eY (SizeOf.sizeOf (ln (sg σ nx) (jy κ σ) (ic rs))+1)).1 _ _ (by omega),vw,kN,qs] at hk
 have Of:=gm
 simp only [gk,Bool.and_eq_true] at Of
 obtain ⟨⟨⟨ed,Ec⟩,_⟩,_⟩:=Of
 have hσ1:∀i,i∈σ→i<nx:=by
  have:=eV
  simp only [gV,Bool.and_eq_true] at this
  exact (gO this.1.1.1.1.1.1.1).1
 have dJ:∀p,p∈bV (sg σ nx) (jy κ σ) K1++jV κ (dB κ (dG (sg σ nx) dC ck) l++eh κ (bV (sg σ nx) dC K0))→p.1<nx+ex:=by
  intro p hp
  rcases List.mem_append.1 hp with hp | hp
  ·obtain ⟨j,h1,h2⟩:=kK (i:=p.1) (b:=p.2) hp
   have hj:=db Ec j h1
   rw [h2]
   rcases Nat.lt_or_ge j σ.length with aJ | dw
   ·have:=hσ1 _ (by rw [iK aJ]; exact List.getElem_mem aJ:sg σ nx j∈σ); omega
   ·rw [ij dw]; omega
  ·have:=rA hn hp; omega
 refine BM c8 hg hk (Nat.le_add_right _ _) dJ fun ρ' κ' au Fn hF g a w G dh ai aN K hK=>?_
 obtain ⟨vs,du,j5⟩:=br σ.length (hS _ _ _ _ _ cM).1 ρ' κ' _ _ au g a w G dh.2 ai aN
 obtain ⟨β,hβ,bc⟩:=lE (hd:=hd) (hI _) (hS _ _ _ _ _ cM).2 hn eV PF IE (fun o4 XZ hR=>by obtain ⟨rfl,rfl⟩:=hR; exact gm) (fun j hj=>by
  rcases ik ed j hj with ⟨_,_,h,_⟩ | ⟨_,_,_,_,_,_,h,_⟩ | ⟨_,_,_,h,_⟩ | ⟨_,_,_,h,_⟩ <;> rw [h] <;> rfl) dh.1 ai du au.reads
 refine j5 Fn hF β hβ K (hI _ _ _ _ _ _ ?_ bc)
 rintro e w2 ⟨v,o4,XZ,G3,rfl,⟨rfl,rfl⟩,h1,h2⟩
 exact ⟨v,rfl,hK v w2 G3 h1 h2⟩
theorem vz {f:Nat} {l:List AV} (br:ru P ops o ρ κ gd f l) (hc:hZ P f) (m:Nat):JF P ops n o ρ κ gd none C m (F4 P f) l:=by
 intro ρ' κ' rd bx au g a w G _ ai aN
 obtain ⟨vs,bc,du⟩:=br.2 ρ' κ' rd bx au g n a w G ai aN hc
 exact ⟨vs,du,fun F hF β _ K hI=>ry hF br.1 bc hI⟩
theorem BN {c:Call} {t i:Nat} {l:List AV} (ho:o.op=.call c) (hc:c.callee=.value (.tmp t)) (hv:bn ρ κ gd (.tmp t) (.fy i)) (br:j4 ρ κ gd c.args.toList l) (m:Nat):JF P ops n o ρ κ gd (some i) C m (F5 P) l:=by
 intro ρ' κ' rd bx au g a w G _ ai aN
 have du:=j4.rel ai aN br (fun x hx=>au.op (by rw [ho]; simp only [Op.operands,Call.operands,hc]; exact Array.mem_append.2 (.inr (by simpa using hx))))
 have uG:=hv ρ' κ' (au.op (by rw [ho]; simp only [Op.operands,Call.operands,hc]; exact Array.mem_append.2 (.inl (by simp)))) g n a w G ai aN
 have bM:(List.map a.eval c.args.toList).toArray=c.args.map a.eval:=by rw [←Array.toList_map,Array.toArray_toList]
 generalize hx:a.eval (.tmp t)=x at uG
 cases uG with | fy _ b hb =>
 refine ⟨_,du,fun F hF β hβ K hI=>?_⟩
 obtain ⟨l',h1,fn,tmps,assign,body,w1,h2,h3⟩:=hI
 rw [hβ i rfl,hb] at h1
 injection h1 with h1
 subst h1
 rw [bM] at h2
 have bc:(execOp a.eval o).run P w=.ok (.round b fn tmps assign body) w1:=by
  rw [←h2]
  simp [execOp,ho,resolve,hc,hx,Deferred.ofValue,invoke]
 refine ⟨fun f _=>hF.fn f,?_⟩
 rw [Oper.semAt_plain F _ _ (fun c=>by rw [ho]; simp),bc,Oper.uponIn_round]
 refine ⟨fun h=>(by rw [hF.depth] at h; cases h),hF.round.2 (RoundIn.mono h3 ?_)⟩
 rintro e w' ⟨v,rfl,hk⟩
 exact hk
theorem aq (P:Program):cX P (fun _=>True):=by
 intro ops n o nx ρ κ k hn
 refine ⟨fun {gd f l} hg br h=>?_,fun hg ho hc hv br h=>?_⟩
 ·have TG:hZ P f:=by obtain ⟨_,_,_,_,_,_,cM,_⟩:=h; exact cM.1
  exact x7 (I:=fun _=>F4 P f) (ok:=fun _=>True) (fun _ _ _ _ _ hs=>⟨tv,hs.2⟩) (fun _=>jC P _) br.1 hn hg (fun m _=>vz br TG m) h
 ·exact x7 (I:=fun _=>F5 P) (ok:=fun _=>True) (fun _ _ _ _ _ hs=>⟨tv,hs⟩) (fun _=>Eb P) (fun c=>by rw [ho]; simp) hn hg (fun m _=>BN ho hc hv br m) h
end
end Go.TM
namespace Go.TM
open Go.RowKit
variable [ct]
section
variable {P:Program} {C:dy→Prop} {T:List TI}
theorem vA {kt:Nat} {d:TypeDesc} {s:KS} (hd:P.underlying kt=some d) (h:∀k v,s.ok k=true→bA k=some v→MapKept.IsKey d v):rP P kt s where
 check w em v:=fun ⟨k,h1,h2⟩=>MapKept.run_checkKey hd (h k v h1 h2) em 9999
 find w x:=fun ⟨k,h1,h2⟩ es tQ=>by
  rcases MapKept.findNow_spec (h k x h1 h2) es 0 (fun e he=>let ⟨k',RQ,DF⟩:=tQ e he; h k' _ RQ DF) with ⟨q1,q2⟩ | ⟨j,e,q1,q2,q3⟩
  ·exact .inl ⟨MapKept.run_findKey hd q1,q2⟩
  ·exact .inr ⟨j,e,by simpa using MapKept.run_findKey (P:=P) (w:=w) hd q1,q2,q3⟩
 stays w v:=fun ⟨k,h1,h2⟩=>MapKept.run_keyThatStays (h k v h1 h2)
def Ho:KS:=⟨false,[.int .i64]⟩
def PJ:KS:=⟨false,[.str]⟩
theorem BO (hT:ef P T) {kt:Nat} (h:((nth T kt).ok && (nth T kt).DH == some .i64)=true):rP P kt Ho:=by
 simp only [Bool.and_eq_true,beq_iff_eq] at h
 obtain ⟨i,u,z,tf⟩:=hT.facts h.1
 have hu:u=.int .i64:=by
  have:=tf.DH
  rw [h.2] at this
  cases u <;> simp [Bi] at this
  rw [this]
 refine vA (d:=.int .i64) (by rw [tf.xS,hu]) fun k v hk hv=>?_
 cases k <;> simp [KS.ok,Ho,pR] at hk
 subst hk
 simp [bA,DV.val?] at hv
 subst hv
 rfl
theorem JH (hT:ef P T) {kt:Nat} (h:((nth T kt).ok && (nth T kt).isStr)=true):rP P kt PJ:=by
 simp only [Bool.and_eq_true] at h
 obtain ⟨i,u,z,tf⟩:=hT.facts h.1
 refine vA (d:=.string) (tf.string h.2) fun k v hk hv=>?_
 cases k <;> simp [KS.ok,PJ,pR] at hk
 simp [bA,DV.val?] at hv
 subst hv
 trivial
def ei:KS:=⟨true,[.int .i64,.int .i64]⟩
theorem Hp {k:DV} {v:Value} (h:ei.ok k=true) (hv:bA k=some v):∃a b:Int,v=.agg #[.int .i64 a,.int .i64 b]:=by
 cases k with
 | agg l =>
  match l,h with
  | [x,y],h =>
   cases x <;> simp [KS.ok,ei,jn,pR] at h
   cases y <;> simp [pR] at h
   obtain ⟨rfl,rfl⟩:=h
   simp [bA,DV.fI,DV.val?] at hv
   exact ⟨_,_,hv.symm⟩
  | [],h=>simp [KS.ok,ei,jn] at h
  | [_],h=>simp [KS.ok,ei,jn] at h
  | _::_::_::_,h=>simp [KS.ok,ei,jn] at h
 | _=>simp [KS.ok,ei] at h
theorem qu {t:Option TypeDesc} (h:x8 t=true):t=some (.int .i64):=by
 cases t with
 | none=>simp [x8] at h
 | some d=>cases d <;> simp [x8] at h; rename_i k; cases k <;> simp [x8] at h; rfl
theorem eE {w:World} {e:TypeId} (he:P.underlying e=some (.int .i64)) {xs:Array Value} {off:Nat} {v:Value} (hx:xs[off]?=some v):(part e xs off).run P w=.ok v w:=by
 simp [part,isAgg,run_underlying he,hx]
theorem Ed {kt:Nat} {fs:Array Field} (hu:P.underlying kt=some (.struct fs)) (hp:BP P fs.toList=true) (hs:P.stoodInHeld kt=false) (w:World) (a b c d:Int) :
  (Op.equal kt (.agg #[.int .i64 a,.int .i64 b]) (.agg #[.int .i64 c,.int .i64 d])).run P w=.ok (a == c && b == d) w:=by
 have hf:P.fieldsOf kt=fs:=by simp [Program.fieldsOf,hu]
 have key:∀D,(Op.equalIn (D+2) kt (.agg #[.int .i64 a,.int .i64 b]) (.agg #[.int .i64 c,.int .i64 d])).run P w=.ok (a == c && b == d) w:=by
  intro D
  rw [run_equalIn_struct w (D+1) kt _ _ (by rw [hf]; exact hu) hs,hf]
  match hl:fs.toList,hp with
  | [x,y],hp =>
   simp only [hl,BP,Bool.and_eq_true,bne_iff_ne] at hp
   obtain ⟨⟨⟨⟨⟨n1,n2⟩,o1⟩,o2⟩,i1⟩,i2⟩:=hp
   have o1:=Nat.eq_of_beq_eq_true o1
   have o2:=Nat.eq_of_beq_eq_true o2
   have i1:=qu i1
   have i2:=qu i2
   simp only [Op.eqFields,n1,n2,ne_eq,not_false_eq_true,if_true,Sem.run_bind,o1,o2]
   rw [eE (v:=.int .i64 a) i1 (by simp)]
   simp only [Result.andThen_ok]
   rw [eE (v:=.int .i64 c) i1 (by simp)]
   simp only [Result.andThen_ok]
   rw [run_equalIn_int w D x.type .i64 .i64 a c i1]
   simp only [Result.andThen_ok]
   cases Rd:a == c with
   | false=>simp
   | true =>
    simp only [Bool.not_true,Bool.false_eq_true,if_false,Sem.run_bind]
    rw [eE (v:=.int .i64 b) i2 (by simp)]
    simp only [Result.andThen_ok]
    rw [eE (v:=.int .i64 d) i2 (by simp)]
    simp only [Result.andThen_ok]
    rw [run_equalIn_int w D y.type .i64 .i64 b d i2]
    simp only [Result.andThen_ok]
    cases G7:b == d <;> simp
 simp only [Op.equal,Op.maxDepth,key 9998]
theorem x9 (hT:ef P T) {kt:Nat} (h:((nth T kt).ok && (nth T kt).pair)=true):rP P kt ei:=by
 simp only [Bool.and_eq_true] at h
 obtain ⟨i,u,z,tf⟩:=hT.facts h.1
 have hp:=tf.pair
 rw [h.2] at hp
 have hp:=hp.symm
 simp only [Bool.and_eq_true,Bool.not_eq_true'] at hp
 obtain ⟨fs,rfl⟩:∃fs,u=.struct fs:=by
  cases u <;> simp [Ee] at hp
  exact ⟨_,rfl⟩
 have hl:BP P fs.toList=true:=hp.1
 have hu:=tf.xS
 have hv:∀{v:Value},(∃d,ei.ok d=true∧bA d=some v)→∃a b:Int,v=.agg #[.int .i64 a,.int .i64 b]:=fun ⟨d,h1,h2⟩=>Hp h1 h2
 refine ⟨fun w em v hk=>?_,fun w x hx es tQ=>?_,fun w v hk=>?_⟩
 ·obtain ⟨a,b,rfl⟩:=hv hk
  have key:∀D,(Instr.checkKey em (D+2) kt (.agg #[.int .i64 a,.int .i64 b])).run P w=.ok () w:=by
   intro D
   match hf:fs,hl with
   | ⟨[x,y]⟩,hl =>
    simp only [BP,Bool.and_eq_true,bne_iff_ne] at hl
    obtain ⟨⟨⟨⟨⟨n1,n2⟩,o1⟩,o2⟩,i1⟩,i2⟩:=hl
    have o1:=Nat.eq_of_beq_eq_true o1
    have o2:=Nat.eq_of_beq_eq_true o2
    have i1:=qu i1
    have i2:=qu i2
    have c1:∀(E:Nat) (n:Int),(Instr.checkKey em (E+1) x.type (.int .i64 n)).run P w=.ok () w:=fun E n=>by simp [Instr.checkKey,run_underlying i1]
    have c2:∀(E:Nat) (n:Int),(Instr.checkKey em (E+1) y.type (.int .i64 n)).run P w=.ok () w:=fun E n=>by simp [Instr.checkKey,run_underlying i2]
    rw [Instr.checkKey]
    simp only [Sem.run_bind,run_underlying hu,Result.andThen_ok]
    simp [n1,n2,o1,o2,eE (v:=.int .i64 a) i1,eE (v:=.int .i64 b) i2,c1,c2]
  exact key 9998
 ·have hw:(match P.underlying kt with | some (.array _ _) | some (.struct _)=>true | _=>false)=true:=by rw [hu]
  obtain ⟨a,b,rfl⟩:=hv hx
  have key:∀(es:List MapEntry) (i:Nat),(∀e,e∈es→∃d,ei.ok d=true∧bA d=some e.key) →
    ((Instr.findAsking kt (.agg #[.int .i64 a,.int .i64 b]) es i).run P w=.ok none w∧∀e,e∈es→e.key ≠ .agg #[.int .i64 a,.int .i64 b]) ∨
    ∃j e,(Instr.findAsking kt (.agg #[.int .i64 a,.int .i64 b]) es i).run P w=.ok (some (i+j,e.val)) w∧es[j]?=some e∧e.key=.agg #[.int .i64 a,.int .i64 b]:=by
   intro es
   induction es with
   | nil=>intro i _; exact .inl ⟨by simp [Instr.findAsking],by simp⟩
   | cons e r ih =>
    intro i tQ
    obtain ⟨c,d,hk⟩:=hv (tQ e (by simp))
    have heq:=Ed hu hl hp.2 w a b c d
    rw [←hk] at heq
    cases hb:(a == c && b == d) with
    | true =>
     rw [hb] at heq
     simp only [Bool.and_eq_true,beq_iff_eq] at hb
     refine .inr ⟨0,e,?_,rfl,by rw [hk,hb.1,hb.2]⟩
     simp only [Instr.findAsking,Sem.run_bind,heq,Result.andThen_ok,if_true,Sem.run_pure,Nat.add_zero]
    | false =>
     rw [hb] at heq
     have bD:e.key ≠ .agg #[.int .i64 a,.int .i64 b]:=by
      rw [hk]
      intro e'
      simp only [Value.agg.injEq,Array.mk.injEq,List.cons.injEq,Value.int.injEq,true_and,and_true] at e'
      obtain ⟨rfl,rfl⟩:=e'
      simp at hb
     have bc:(Instr.findAsking kt (.agg #[.int .i64 a,.int .i64 b]) (e::r) i).run P w=(Instr.findAsking kt (.agg #[.int .i64 a,.int .i64 b]) r (i+1)).run P w:=by
      simp only [Instr.findAsking,Sem.run_bind,heq,Result.andThen_ok,Bool.false_eq_true,if_false]
     rcases ih (i+1) (fun e he=>tQ e (by simp [he])) with ⟨q1,q2⟩ | ⟨j,e',q1,q2,q3⟩
     ·exact .inl ⟨bc.trans q1,fun e0 Mw=>by rcases List.mem_cons.1 Mw with rfl | Mw; exact bD; exact q2 _ Mw⟩
     ·exact .inr ⟨j+1,e',by rw [bc,q1]; congr 3; omega,by simpa using q2,q3⟩
  rw [run_findKey_eq w hw]
  rcases key es 0 tQ with h1 | ⟨j,e,q1,q2,q3⟩
  ·exact .inl h1
  ·exact .inr ⟨j,e,by simpa using q1,q2,q3⟩
 ·obtain ⟨a,b,rfl⟩:=hv hk
  have:Instr.sameBits 10000 (.agg #[.int .i64 a,.int .i64 b]) (.agg #[.int .i64 a,.int .i64 b])=true:=by simp [Instr.sameBits]
  simp [Instr.keyThatStays,this]
end
end Go.TM
namespace Go.TM
open Go.RowKit
variable [ct]
theorem qv (ρ:Nat→AV):∀(k s:Nat),(bt ρ s k).length=k
 | 0,_=>rfl
 | k+1,s=>by simp [bt,qv ρ k]
theorem ya (ρ:Nat→AV):∀(k s j:Nat) (v:AV),(bt ρ s k)[j]?=some v→v=ρ (s+j)
 | 0,_,j,v,h=>by simp [bt] at h
 | k+1,s,0,v,h=>by simp [bt] at h; exact h.symm
 | k+1,s,j+1,v,h=>by
  simp only [bt,List.getElem?_cons_succ] at h
  rw [ya ρ k (s+1) j v h,Nat.add_right_comm,Nat.add_assoc]
section
variable {g:dy} {n:Nat} {ρ:Nat→AV} {κ:Nat→ao} {a:Act} {w:World} {G:Gh}
theorem bZ.JI (h:bZ g n ρ κ a w G) {i b:Nat} {o:Obj} {bx:ao} (gF:bI G i (κ i) b) (R4:∀c,bI G i bx c→c=b) (rO:fJ G (w.putObj b o) i bx) :
  bZ g n ρ (gA κ i bx) a (w.putObj b o) G:=by
 have aJ:b<w.heap.size:=gF.lt h.fit
 have WE:G.M b=none:=h.fit.own i b gF
 refine h.oS (C:=fun j=>j=i) ⟨.refl G,fun _ _=>rfl,fun j hj=>ae _ _ hj,fun _ _=>⟨fun _ q=>q,fun _ _ _ _ q=>q⟩,fun c hc dm=>⟨eX _ _ (fun e=>dm i rfl (by rw [e]; exact gF)),rfl⟩,fun c o' hc=>?_,?_,?_,fun _ _ _ h1 h2 _ _=>h1.trans h2.symm,by rw [putObj_size]; exact Nat.le_refl _,rfl,rfl,rfl⟩ (fun _ _=>rfl)
 ·rw [eX _ _ (fun e=>by rw [e,WE] at hc; cases hc)]; exact h.fit.sub c o' hc
 ·rintro j rfl
  rw [aW]; exact rO
 ·rintro j c rfl ho
  rw [aW] at ho
  have:=R4 c ho
  subst this
  exact ⟨.inr ⟨j,rfl,gF⟩,WE⟩
theorem bZ.zR (h:bZ g n ρ κ a w G) {i b:Nat} {rc:RC} {st:A6} {l:List AV} (hi:κ i=.eA rc st l) (hb:G.β i=some b) :
  ∃r:Loop,w.heap[b]?=some (.loop r)∧r.state=st.st∧r.pending=st.DE∧(∀Oc:A6,bZ g n ρ (gA κ i (.eA rc Oc l)) a (w.putObj b (.loop { r with state:=Oc.st,pending:=Oc.DE })) G) ∧
   ∀o,bZ g n ρ (gA κ i .dead) a (w.putObj b o) G:=by
 have hx:=h.fit.box i
 rw [hi] at hx
 obtain ⟨b',fn,tmps,D,h1,h2,h3⟩:=hx
 rw [hb] at h1; injection h1 with h1; subst h1
 have aJ:b<w.heap.size:=(Array.getElem?_eq_some_iff.1 h2).1
 have gF:bI G i (κ i) b:=by rw [hi]; exact hb
 refine ⟨_,h2,rfl,rfl,fun Oc=>h.JI gF (fun c hc=>?_) ⟨b,fn,tmps,D,hb,World.putObj_heap_same aJ,h3⟩,fun o=>h.JI gF (fun c hc=>hc.elim) trivial⟩
 have mz:G.β i=some c:=hc
 rw [hb] at mz; injection mz with mz; exact mz.symm
def dy.upto (g:dy) (m:Nat) (β:Nat→Option Nat):dy:={ g with m:=m,β:=β,H:=fun i p=>if i<g.m then g.H i p else none }
theorem bZ.upto (h:bZ g n ρ κ a w G) (m:Nat):bZ (g.upto m G.β) n ρ κ a w G:=by
 refine ⟨h.fit,h.env,h.size,h.xP,h.os,h.tape,h.output,h.grow,h.mem,h.mK,h.ga,fun _ _=>rfl,fun i _ p x hx=>?_,h.oh,h.rn⟩
 have w7:(if i<g.m then g.H i p else none)=some x:=hx
 split at w7
 ·rename_i hi; exact h.rj i hi p x w7
 ·cases w7
theorem bZ.JJ {β:Nat→Option Nat} {m:Nat} (h:bZ (g.upto m β) n ρ κ a w G) (hm:g.m≤m) (hβ:∀i,i<g.m→β i=g.β i):bZ g n ρ κ a w G:=by
 refine ⟨h.fit,h.env,h.size,h.xP,h.os,h.tape,h.output,h.grow,h.mem,h.mK,h.ga,fun i hi=>(h.jW i (Nat.lt_of_lt_of_le hi hm)).trans (hβ i hi),fun i hi p x hx=>h.rj i (Nat.lt_of_lt_of_le hi hm) p x ?_,h.oh,h.rn⟩
 show (if i<g.m then g.H i p else none)=some x
 rw [if_pos hi]; exact hx
theorem bZ.enterLoop (h:bZ g n ρ κ a w G) {nx:Nat} (hn:κ nx=.none) (dh:g.m≤nx) (rc:RC) (fn:FuncId) :
  bZ g n ρ (gA κ nx (.eA rc .ready (bt ρ 0 n))) { a with defers:=mark w.heap.size::a.defers } ((w.alloc (.deferred (some []))).alloc (.loop { state:=.ready,pending:=none,fn:=fn,tmps:=a.tmps,params:=rc.ps,assign:=rc.as,body:=rc.bd,defers:=w.heap.size })) { G with β:=gA G.β nx (some (w.heap.size+1)) } ∧
   Gh.Le G { G with β:=gA G.β nx (some (w.heap.size+1)) }:=by
 have Px:=h.fit.box nx
 rw [hn] at Px
 generalize hr:({ state:=.ready,pending:=none,fn:=fn,tmps:=a.tmps,params:=rc.ps,assign:=rc.as,body:=rc.bd,defers:=w.heap.size }:Loop)=r
 have hle:Gh.Le G { G with β:=gA G.β nx (some (w.heap.size+1)) } :=
  ⟨Mem.Le.refl _,fun i b hb=>by
   by_cases e:i=nx
   ·subst e; rw [Px.1] at hb; cases hb
   ·show gA G.β nx _ i=some b
    rw [ae _ _ e]; exact hb,fun _ _ _ _ _ q=>q⟩
 have aT:((w.alloc (.deferred (some []))).alloc (.loop r)).heap.size=w.heap.size+2:=by rw [World.size_alloc,World.size_alloc]
 have xd:∀b,b<w.heap.size→((w.alloc (.deferred (some []))).alloc (.loop r)).heap[b]?=w.heap[b]?:=fun b hb=>by
  rw [aU _ _ (by rw [World.size_alloc]; omega),aU _ _ hb]
 have Pm:((w.alloc (.deferred (some []))).alloc (.loop r)).heap[w.heap.size]?=some (.deferred (some [])):=by
  rw [aU _ _ (by rw [World.size_alloc]; omega)]; exact cj _ _
 have U2:((w.alloc (.deferred (some []))).alloc (.loop r)).heap[w.heap.size+1]?=some (.loop r):=by
  have:=cj (w.alloc (.deferred (some []))) (.loop r)
  rwa [World.size_alloc] at this
 have U3:G.M.In ((w.alloc (.deferred (some []))).alloc (.loop r)):=(h.fit.sub.alloc _).alloc _
 have R5:∀b,w.heap.size≤b→G.M b=none:=fun b hb=>Mem.In.pV h.fit.sub hb
 have oE:bR { G with β:=gA G.β nx (some (w.heap.size+1)) } (bt ρ 0 n) a.tmps.toList:=by
  refine ⟨by rw [qv]; simp [h.size],fun j d v hd hv=>?_⟩
  have:=ya ρ n 0 j d hd
  rw [Nat.zero_add] at this
  subst this
  have he:=(h.env j).mono hle
  have jc:a.tmps.getD j undef=v:=by
   rw [Array.getD_eq_getD_getElem?]
   rw [Array.getElem?_toList] at hv
   rw [hv]; rfl
  rw [jc] at he; exact he
 have st:=h.oS (κ':=gA κ nx (.eA rc .ready (bt ρ 0 n))) (G':={ G with β:=gA G.β nx (some (w.heap.size+1)) }) (w':=(w.alloc (.deferred (some []))).alloc (.loop r)) (C:=fun j=>j=nx)
  ⟨hle,fun _ _=>rfl,fun j hj=>ae _ _ hj,fun j hj=>⟨fun x hx=>by
    have:gA G.β nx (some (w.heap.size+1)) j=some x:=hx
    rwa [ae _ _ hj] at this,fun _ _ _ _ q=>q⟩,fun b hb _=>⟨xd b hb,rfl⟩,U3,by
    rintro j rfl
    rw [aW]
    exact ⟨w.heap.size+1,fn,a.tmps,w.heap.size,aW _ _ _,by rw [U2,←hr]; rfl,oE⟩,by
    rintro j b rfl ho
    rw [aW] at ho
    have hb:some (w.heap.size+1)=some b:=by
     have:gA G.β j (some (w.heap.size+1)) j=some b:=ho
     rwa [aW] at this
    injection hb with hb
    exact ⟨.inl (by omega),R5 b (by omega)⟩,fun _ _ _ h1 h2 _ _=>h1.trans h2.symm,by rw [aT]; omega,rfl,rfl,rfl⟩
  (fun i hi=>by
   show gA G.β nx _ i=G.β i
   exact ae _ _ (by omega))
 refine ⟨{ st with rn:=?_ },hle⟩
 obtain ⟨D,h1,h2,h3⟩:=h.rn
 have PK:∀q,q∈D→q<w.heap.size:=fun q hq=>(Array.getElem?_eq_some_iff.1 (h3 q hq).1).1
 have key:∀i,∀q,q≤w.heap.size→bI { G with β:=gA G.β nx (some (w.heap.size+1)) } i (gA κ nx (.eA rc .ready (bt ρ 0 n)) i) q→bI G i (κ i) q:=by
  intro i q hq ho
  by_cases e:i=nx
  ·subst e
   rw [aW] at ho
   have:gA G.β i (some (w.heap.size+1)) i=some q:=ho
   rw [aW] at this
   injection this with this
   omega
  ·rw [ae _ _ e] at ho
   cases hk:κ i with
   | cells l=>rw [hk] at ho; have:gA G.β nx (some (w.heap.size+1)) i=some q:=ho; rwa [ae _ _ e] at this
   | eA rc st l=>rw [hk] at ho; have:gA G.β nx (some (w.heap.size+1)) i=some q:=ho; rwa [ae _ _ e] at this
   | jd a b c d f=>rw [hk] at ho; exact ho.imp id fun ho=>by have:gA G.β nx (some (w.heap.size+1)) i=some q:=ho; rwa [ae _ _ e] at this
   | _=>rw [hk] at ho; exact ho
 refine ⟨w.heap.size::D,by rw [List.map_cons,←h1],List.nodup_cons.2 ⟨fun hm=>Nat.lt_irrefl _ (PK _ hm),h2⟩,fun q hq=>?_⟩
 rcases List.mem_cons.1 hq with rfl | hq
 ·exact ⟨Pm,fun i ho=>Nat.lt_irrefl _ ((key i _ (Nat.le_refl _) ho).lt h.fit),R5 _ (Nat.le_refl _),h.grow⟩
 ·obtain ⟨a1,a2,a3,a4⟩:=h3 q hq
  exact ⟨by rw [xd q (PK q hq)]; exact a1,fun i ho=>a2 i (key i q (Nat.le_of_lt (PK q hq)) ho),a3,a4⟩
end
end Go.TM
namespace Go.TM
open Go.RowKit
variable [ct]
theorem jD (i:Nat) (b:ao) (K:ah):aa ((i,b)::K)=gA (aa K) i b:=by
 funext t
 simp only [aa,gA]
 by_cases h:t=i
 ·subst h; simp
 ·rw [if_neg h]; simp [beq_false h]
theorem qw {κ:Nat→ao}:∀{m:Nat},Ra κ m=true→∀j,j<m→(κ j).pass=true
 | 0,_,j,hj=>by omega
 | m+1,h,j,hj=>by
  simp only [Ra,Bool.and_eq_true] at h
  rcases Nat.lt_or_ge j m with aJ | dw
  ·exact qw h.2 j aJ
  ·have:j=m:=by omega
   subst this; exact h.1
theorem Ef (P:Program):x3 P:=by
 intro g n nx env K a w x ps assign body Q R h hs hR
 obtain ⟨rc,rfl,h⟩:=h
 obtain ⟨⟨G,ai⟩,dh,hn⟩:=hs
 have core:∀(f:Nat) (bq:List AV) (vs:List Value),a.eval x=.func (.func f) #[] vs.toArray→bR G bq vs →
   zH P nx env ((nx,.eA ⟨ps,assign,body⟩ .ready (bt (look env) 0 n))::K) f bq Q→(Code.rangeFunc x ps assign body).wpIn Fence.wide 0 P R a w:=by
  intro f bq vs hx oE hh
  obtain ⟨σ,ck,K0,ex,R0,cM,eV,PF,IE,gm⟩:=hh
  refine wpIn_rangeFunc fun fn _=>?_
  obtain ⟨mA,hle⟩:=ai.enterLoop (hn nx (Nat.le_refl _)) dh ⟨ps,assign,body⟩ fn
  rw [←jD] at mA
  have Eg:=mA.upto (nx+1)
  have za:∀i,i<g.m→gA G.β nx (some (w.heap.size+1)) i=g.β i:=fun i hi=>by rw [ae _ _ (by omega)]; exact ai.jW i hi
  simp only [Bool.and_eq_true] at eV
  have du:bR { G with β:=gA G.β nx (some (w.heap.size+1)) } (.fy nx::bq) (.func (.yield (w.heap.size+1)) #[] #[]::vs):=by
   have h1:bR { G with β:=gA G.β nx (some (w.heap.size+1)) } [.fy nx] [.func (.yield (w.heap.size+1)) #[] #[]] :=
    ⟨rfl,fun j d v hd hv=>by
     cases j with
     | zero=>simp at hd hv; subst hd; subst hv; exact .fy nx _ (aW _ _ _)
     | succ j=>simp at hd⟩
   exact h1.append (oE.mono hle)
  obtain ⟨β,_,bc⟩:=lE (hd:=none) (nx:=nx+1) (κ:=aa ((nx,.eA ⟨ps,assign,body⟩ .ready (bt (look env) 0 n))::K)) (jC P f) cM.2
   (fun i hi=>by rw [jD,ae _ _ (by omega)]; exact hn i (by omega)) (by simp only [Bool.and_eq_true]; exact ⟨eV.1,rfl⟩) PF IE (fun rs K1 hr=>(gm rs K1 hr).1) (qw eV.2) (Nat.le_refl _) Eg du (fun _ _=>rfl)
  refine ⟨w.heap.size+1,[mark w.heap.size],((w.alloc (.deferred (some []))).alloc (.loop { state:=.ready,pending:=none,fn:=fn,tmps:=a.tmps,params:=ps,assign:=assign,body:=body,defers:=w.heap.size })),⟨.fn (.func f) vs.toArray,#[.func (.yield (w.heap.size+1)) #[] #[]]⟩,((w.alloc (.deferred (some []))).alloc (.loop { state:=.ready,pending:=none,fn:=fn,tmps:=a.tmps,params:=ps,assign:=assign,body:=body,defers:=w.heap.size })),f,(Value.func (.yield (w.heap.size+1)) #[] #[]::vs).toArray,((w.alloc (.deferred (some []))).alloc (.loop { state:=.ready,pending:=none,fn:=fn,tmps:=a.tmps,params:=ps,assign:=assign,body:=body,defers:=w.heap.size })),run_enterLoop_outer fn a.tmps ps assign body,?_,fun _ _=>trivial,?_,(fun h=>by cases h),?_⟩
  ·have h0:(#[]++Array.map a.eval #[Operand.const (Value.func (Fn.yield (w.heap.size+1)) #[] #[])])=#[Value.func (Fn.yield (w.heap.size+1)) #[] #[]]:=by simp [Act.eval]
   simp only [resolve,rangeCall,hx,Deferred.ofValue,Sem.run_pure]
   rw [h0]
  ·have:(#[Value.func (.yield (w.heap.size+1)) #[] #[]]++vs.toArray)=(Value.func (.yield (w.heap.size+1)) #[] #[]::vs).toArray:=by simp
   simp only [invoke]
   rw [this]
   exact gf cM.1 _ _
  ·refine (fM.calls).2 (Calls.mono bc ?_)
   rintro e w2 ⟨v,rs,K2,G3,rfl,X0,F6,_⟩
   obtain ⟨Re,hq⟩:=gm rs K2 X0
   rw [kN] at hq
   rw [←eT] at F6
   have xQ:∀i,nx+1+ex≤i→aa (tD (bV (sg σ (nx+1)) (jy (aa ((nx,.eA ⟨ps,assign,body⟩ .ready (bt (look env) 0 n))::K)) σ) K2++jV (aa ((nx,.eA ⟨ps,assign,body⟩ .ready (bt (look env) 0 n))::K)) (dB (aa ((nx,.eA ⟨ps,assign,body⟩ .ready (bt (look env) 0 n))::K)) (dG (sg σ (nx+1)) dC ck) (.fy nx::bq)++eh (aa ((nx,.eA ⟨ps,assign,body⟩ .ready (bt (look env) 0 n))::K)) (bV (sg σ (nx+1)) dC K0))) ((nx,.eA ⟨ps,assign,body⟩ .ready (bt (look env) 0 n))::K)) i=.none:=by
    have Hf:∀i,nx+1≤i→aa ((nx,.eA ⟨ps,assign,body⟩ .ready (bt (look env) 0 n))::K) i=.none:=fun i hi=>by rw [jD,ae _ _ (by omega)]; exact hn i (by omega)
    refine jt Hf (Nat.le_add_right _ _) fun p hp=>?_
    have Ec:lC (σ.length+ex) K2=true:=by
     have:=Re
     simp only [gk,Bool.and_eq_true] at this
     exact this.1.1.2
    have hσ1:∀i,i∈σ→i<nx+1:=by
     have:=eV.1
     simp only [gV,Bool.and_eq_true] at this
     exact (gO this.1.1.1.1.1.1).1
    rcases List.mem_append.1 hp with hp | hp
    ·obtain ⟨j,h1,h2⟩:=kK (i:=p.1) (b:=p.2) hp
     have hj:=db Ec j h1
     rw [h2]
     rcases Nat.lt_or_ge j σ.length with aJ | dw
     ·have:=hσ1 _ (by rw [iK aJ]; exact List.getElem_mem aJ:sg σ (nx+1) j∈σ); omega
     ·rw [ij dw]; omega
    ·have:=rA Hf hp; omega
   generalize Mx:tD (bV (sg σ (nx+1)) (jy (aa ((nx,.eA ⟨ps,assign,body⟩ .ready (bt (look env) 0 n))::K)) σ) K2++jV (aa ((nx,.eA ⟨ps,assign,body⟩ .ready (bt (look env) 0 n))::K)) (dB (aa ((nx,.eA ⟨ps,assign,body⟩ .ready (bt (look env) 0 n))::K)) (dG (sg σ (nx+1)) dC ck) (.fy nx::bq)++eh (aa ((nx,.eA ⟨ps,assign,body⟩ .ready (bt (look env) 0 n))::K)) (bV (sg σ (nx+1)) dC K0))) ((nx,.eA ⟨ps,assign,body⟩ .ready (bt (look env) 0 n))::K)=K3 at *
   have w4:G3.β nx=some (w.heap.size+1):=(F6.jW nx (Nat.lt_succ_self nx)).trans (aW _ _ _)
   have fin:∀(Dv:RC) (st:A6) (l:List AV) (e:AX),aa K3 nx=.eA Dv st l→st.st ≠ .busy→st.DE=nR e→Q e (nx+1+ex) env ((nx,.dead)::K3)→rangePost Fence.wide 0 P (w.heap.size+1) R { a with defers:=[mark w.heap.size]++a.defers } (.returned v) w2:=by
    intro Dv st l e hk hb hp hq
    obtain ⟨r,h1,h2,h3,_,JK⟩:=F6.zR hk w4
    have U4:=(JK (.loop { r with state:=.exhausted })).JJ (Nat.le_succ_of_le dh) za
    have U5:xW g n (nx+1+ex) env ((nx,.dead)::K3) { a with defers:=[mark w.heap.size]++a.defers } (w2.putObj (w.heap.size+1) (.loop { r with state:=.exhausted })) :=
     ⟨⟨G3,by rw [jD]; exact U4⟩,by omega,fun i hi=>by rw [jD,ae _ _ (by omega)]; exact xQ i hi⟩
    have mB:=hR e _ _ _ _ _ hq U5
    refine ⟨r.pending,_,run_endLoop h1 (by rw [h2]; exact hb),?_⟩
    have yb:r.pending=nR e:=h3.trans hp
    rw [yb] at mB
    rw [yb]
    cases e with
    | normal=>exact mB
    | ret=>exact wpIn_ret mB
    | exit i=>exact wpIn_exit mB
   unfold BG at hq
   split at hq
   ·rename_i Dv l hk; exact fin Dv .ready l .normal hk (by simp [A6.st]) rfl hq
   ·rename_i Dv e l hk; exact fin Dv (.done e) l e hk (by simp [A6.st]) rfl hq
   ·exact hq.elim
 have hv:=xV (ρ:=look env) (κ:=aa K) (x:=x) (look env) (aa K) ⟨fun _ _=>rfl,fun _ _=>rfl⟩ g n a w G ai
 generalize hx:a.eval x=y at hv
 split at h
 ·rename_i f bq he
  rw [he] at hv
  cases hv with | fn _ _ vs hl hr=>exact core f bq vs hx ⟨hl,hr⟩ h
 ·rename_i f bq he
  rw [he] at hv
  cases hv with | dv hd=>cases hd with | fn _ _ vs hl hr=>exact core f _ vs hx (gM ⟨hl,hr⟩) h
 ·exact h.elim
theorem Eh {n:Nat} {o:Oper} {q:Nat × List Operand} (h:FX n o=some q):∃c:Call,o.op=.call c∧c.callee=.value (.func q.1)∧c.args.toList=q.2∧o.guard=none∧∀t,o.dst=some t→t<n:=by
 unfold FX at h
 split at h
 ·rename_i c e1 e2
  split at h
  ·rename_i f e3 e4
   injection h with h; subst h
   exact ⟨c,e1,e3,rfl,e2,fun t ht=>by rw [e4] at ht; cases ht⟩
  ·rename_i f t e3 e4
   have hh:=Pt h; clear h; obtain ⟨hb,h⟩:=hh
   injection h with h; subst h
   exact ⟨c,e1,e3,rfl,e2,fun t' ht=>by rw [e4] at ht; injection ht with ht; subst ht; simpa using hb⟩
  ·cases h
 ·cases h
theorem My (P:Program):D6 P:=by
 intro g ops n nx env K a w o q k ho h hs F hF
 obtain ⟨c,U6,uG,Ds,aN,U7⟩:=Eh ho
 refine ⟨aN,?_⟩
 obtain ⟨⟨G,ai⟩,dh,hn⟩:=hs
 obtain ⟨l,⟨σ,ck,K0,ex,R,cM,eV,PF,IE,gm⟩,br⟩:=jh h
 rw [←Ds] at br
 have U8:=sK (P:=P) (ops:=ops) (o:=o) U6 uG br
 simp only [Bool.and_eq_true] at eV
 obtain ⟨vs,du,j5⟩:=vz (C:=fun _=>True) (n:=n) U8 cM.1 0 (look env) (aa K) [] [] ⟨fun _ _=>rfl,fun _ _=>rfl,fun _ _=>rfl,fun _ _ _=>rfl⟩ g a w G trivial ai rfl
 obtain ⟨β,hβ,bc⟩:=lE (hd:=none) (nx:=nx) (jC P q.1) cM.2 hn (by simp only [Bool.and_eq_true]; exact ⟨eV.1,rfl⟩) PF IE (fun rs K1 hr=>(gm rs K1 hr).1) (qw eV.2) dh ai du (fun _ _=>rfl)
 refine j5 F hF β hβ _ (jC P q.1 _ _ _ _ _ ?_ bc)
 rintro e w2 ⟨v,rs,K1,G3,rfl,hR,F6,hv⟩
 obtain ⟨Re,hq⟩:=gm rs K1 hR
 rw [(eY (SizeOf.sizeOf (ln (sg σ nx) (jy (aa K) σ) (ic rs))+1)).1 _ _ (by omega),vw,kN,qs] at hq
 refine ⟨v,rfl,_,_,_,hq,⟨G3,?_⟩,Nat.le_trans dh (Nat.le_add_right _ _),jt hn (Nat.le_add_right _ _) fun p hp=>?_⟩
 ·rw [←eT] at F6
  cases hd:o.dst with
  | none=>exact F6
  | some t =>
   have:=F6.put (U7 t hd) hv
   have e:look (Ps (some t) (ln (sg σ nx) (jy (aa K) σ) (ic rs)) env)=gA (look env) t (ln (sg σ nx) (jy (aa K) σ) (ic rs)):=by
    have:=ji [(t,ln (sg σ nx) (jy (aa K) σ) (ic rs))] env
    simpa [Bv,aw,Ps] using this
   rw [e]; exact this
 ·have Ec:lC (σ.length+ex) K1=true:=by
   have:=Re
   simp only [gk,Bool.and_eq_true] at this
   exact this.1.1.2
  have hσ1:∀i,i∈σ→i<nx:=by
   have:=eV.1
   simp only [gV,Bool.and_eq_true] at this
   exact (gO this.1.1.1.1.1.1).1
  rcases List.mem_append.1 hp with hp | hp
  ·obtain ⟨j,h1,h2⟩:=kK (i:=p.1) (b:=p.2) hp
   have hj:=db Ec j h1
   rw [h2]
   rcases Nat.lt_or_ge j σ.length with aJ | dw
   ·have:=hσ1 _ (by rw [iK aJ]; exact List.getElem_mem aJ:sg σ nx j∈σ); omega
   ·rw [ij dw]; omega
  ·have:=rA hn hp; omega
theorem ar (P:Program):ie P:=⟨Ef P,My P⟩
end Go.TM
namespace Go.TM
open Go.RowKit
variable [ct]
def tE:Nat→List AV→Env
 | _,[]=>[]
 | s,.any::r=>tE (s+1) r
 | s,v::r=>(s,v)::tE (s+1) r
theorem F7:∀(l:List AV) (s t:Nat),t<s→look (tE s l) t=.any
 | [],_,_,_=>rfl
 | v::r,s,t,h=>by
  have ih:=F7 r (s+1) t (by omega)
  cases v <;> simp only [tE,look] <;> first | exact ih | (rw [beq_false (by omega)]; exact ih)
theorem yc:∀(l:List AV) (s j:Nat),look (tE s l) (s+j)=match l[j]? with | some v=>v | none=>.any
 | [],s,j=>by simp [tE,look]
 | v::r,s,0=>by
  have h0:=F7 r (s+1) s (by omega)
  cases v <;> simp only [tE,look,Nat.add_zero,Nat.beq_refl,cond_true,List.getElem?_cons_zero] <;> exact h0
 | v::r,s,j+1=>by
  have ih:=yc r (s+1) j
  have e:s+(j+1)=s+1+j:=by omega
  cases v <;> simp only [tE,look,List.getElem?_cons_succ] <;> rw [e] <;> first | exact ih | (rw [beq_false (by omega)]; exact ih)
def BQ:List Nat→List AV→Env→Env
 | p::ps,v::vs,env=>BQ ps vs ((p,v)::env)
 | _,_,env=>env
def F8 (n:Nat):List Nat→Bool
 | []=>true
 | p::r=>Nat.blt p n && F8 n r
theorem yd {n:Nat}:∀{l:List Nat},F8 n l=true→∀p,p∈l→p<n
 | [],_,p,h=>by simp at h
 | q::r,h,p,hp=>by
  simp only [F8,Bool.and_eq_true,Nat.blt_eq] at h
  rcases List.mem_cons.1 hp with rfl | hp
  ·exact h.1
  ·exact yd h.2 p hp
theorem F9 {G:Gh}:∀{ps:List Nat} {iX:List AV} {vs:List Value} {env:Env} {tmps:Array Value},(∀p,p∈ps→p<tmps.size)→bR G iX vs→(∀t,aE G (look env t) (tmps.getD t undef)) →
  ∀t,aE G (look (BQ ps iX env) t) (((ps.zip vs).foldl (fun tm (pv:Nat × Value)=>tm.setIfInBounds pv.1 pv.2) tmps).getD t undef)
 | [],iX,vs,env,tmps,_,_,h,t=>by cases iX <;> simpa [BQ] using h t
 | p::ps,[],vs,env,tmps,_,hr,h,t=>by
  have:vs=[]:=by have:=hr.1; simpa using this.symm
  subst this
  simpa [BQ] using h t
 | p::ps,v::iX,[],env,tmps,_,hr,h,t=>by have:=hr.1; simp at this
 | p::ps,v::iX,x::vs,env,tmps,hp,hr,h,t=>by
  simp only [BQ,List.zip_cons_cons,List.foldl_cons]
  refine F9 (fun q hq=>by rw [Array.size_setIfInBounds]; exact hp q (by simp [hq])) ⟨by simpa using hr.1,fun j d y hd hy=>hr.2 (j+1) d y (by simpa using hd) (by simpa using hy)⟩ (fun t=>?_) t
  simp only [look]
  by_cases e:t=p
  ·subst e
   have:=hp t (by simp)
   simp only [Nat.beq_refl,cond_true,Array.getD_eq_getD_getElem?]
   rw [Array.getElem?_setIfInBounds_self_of_lt this]
   exact hr.2 0 v x rfl rfl
  ·rw [beq_false e,Array.getD_eq_getD_getElem?,Array.getElem?_setIfInBounds_ne (fun h=>e h.symm),←Array.getD_eq_getD_getElem?]
   exact h t
theorem Hq (ps:List (Nat × Value)):∀(tmps:Array Value),((ps.foldl (fun tm (pv:Nat × Value)=>tm.setIfInBounds pv.1 pv.2) tmps)).size=tmps.size:=by
 induction ps with
 | nil=>intro t; rfl
 | cons p r ih=>intro t; simp only [List.foldl_cons]; rw [ih,Array.size_setIfInBounds]
def U9:AX→Bool
 | .normal=>true
 | _=>false
def Og:AX→A6
 | .normal=>.ready
 | e=>.done e
section
variable {P:Program} {T:List TI}
end
end Go.TM
namespace Go.TM
open Go.RowKit
variable [ct]
def L2 {γ:Type} (f:Nat→γ) (i:Nat) (x:γ):Nat→γ:=fun j=>Bool.casesOn (Nat.beq j i) (f j) x
def zS {γ:Type} (f:Nat→γ):List (Nat × γ)→Nat→γ
 | []=>f
 | p::r=>L2 (zS f r) p.1 p.2
inductive XR (α:Type):Type
 | ok (a:α)
 | no (TS:List Nat)
def XR.bind {α β:Type} (x:XR α) (f:α→XR β):XR β:=XR.casesOn x f .no
def dP {α:Type} (b:Bool) (TS:Nat) (x:XR α):XR α:=Bool.casesOn b (.no [TS]) x
def c6 {α:Type} (x:Option α) (TS:Nat):XR α:=Option.casesOn x (.no [TS]) .ok
def tF (a b:Int):Bool:=Int.casesOn a (fun m=>Int.casesOn b (fun n=>Nat.blt m n) (fun _=>false)) (fun m=>Int.casesOn b (fun _=>true) (fun n=>Nat.blt n m))
def Mz (a b:Int):Bool:=!(tF b a)
def Ga (a b:Int):Bool:=Int.casesOn a (fun m=>Int.casesOn b (fun n=>Nat.beq m n) (fun _=>false)) (fun m=>Int.casesOn b (fun _=>false) (fun n=>Nat.beq m n))
def L3 (a:Int):Bool:=Int.casesOn a (fun _=>true) (fun _=>false)
def xq {α:Type}:List α→Nat→Option α
 | [],_=>none
 | x::r,i=>Nat.casesOn i (some x) (fun i=>xq r i)
abbrev EN:=jo × Nat
def Oh (κ:Nat→ao) (v:AV):XR AV:=match v with
 | .opt g v=>dP g 1 (.ok (res κ v))
 | v=>.ok v
def kr (ρ:Nat→AV) (κ:Nat→ao) (x:Operand):XR AV:=Oh κ (ev ρ κ x)
def BR (ρ:Nat→AV) (κ:Nat→ao):List Operand→XR (List AV)
 | []=>.ok []
 | x::r=>(kr ρ κ x).bind fun v=>(BR ρ κ r).bind fun l=>.ok (v::l)
def rQ (ρ:Nat→AV) (κ:Nat→ao):List (Nat × Operand)→XR (List (Nat × AV))
 | []=>.ok []
 | p::r=>(kr ρ κ p.2).bind fun v=>(rQ ρ κ r).bind fun l=>.ok ((p.1,v)::l)
structure XV where
 v:AV
 bx:List (Nat × ao)
 rd:List Nat
 nx:Nat
def fj (nx:Nat) (v:AV):XR XV:=.ok ⟨v,[],[],nx⟩
def mD (n:Nat) (dst:Option Nat) (r:XV):XR EN:=match dst with
 | none=>.ok (⟨[],r.bx,r.rd⟩,r.nx)
 | some d=>dP (Nat.blt d n) 2 (.ok (⟨[(d,r.v)],r.bx,r.rd⟩,r.nx))
def Gb (n:Int):Bool:=Int.casesOn n (fun m=>Nat.ble m 9223372036854775807) (fun m=>Nat.ble m 9223372036854775807)
def pd (k:IntKind) (n:Int):XR AV:=match k with
 | .i64=>dP (Gb n) 3 (.ok (.dv (.int .i64 n)))
 | k=>.ok (.dv (.int k (k.wrap n)))
def fO (b:Bool):XR AV:=.ok (.dv (.bool b))
def Oi (op:BinOp) (k:IntKind) (a b:Int):XR AV:=match op with
 | .add=>pd k (a+b)
 | .sub=>pd k (a - b)
 | .mul=>pd k (a * b)
 | .quo=>dP (!(Ga b 0)) 5 (pd k (a.tdiv b))
 | .rem=>dP (!(Ga b 0)) 5 (.ok (.dv (.int k (a.tmod b))))
 | .eql=>fO (Ga a b)
 | .neq=>fO (!(Ga a b))
 | .lss=>fO (tF a b)
 | .leq=>fO (Mz a b)
 | .gtr=>fO (tF b a)
 | .geq=>fO (Mz b a)
 | _=>.no [6]
def Oj (op:BinOp) (p q:Bool):XR AV:=match op with
 | .eql=>fO (p == q)
 | .neq=>fO (!(p == q))
 | _=>.no [8]
def Ok (op:BinOp) (s t:ByteArray):XR AV:=match op with
 | .eql=>fO (s.toList == t.toList)
 | .neq=>fO (!(s.toList == t.toList))
 | .add=>dP (decide (((s.size+t.size:Nat):Int)≤9223372036854775807)) 9 (.ok (.dv (.str (s++t))))
 | _=>.no [10]
def vB (op:BinOp) (same:Bool):XR AV:=match op with
 | .eql=>fO same
 | .neq=>fO (!same)
 | _=>.no [12]
def DV.int?:DV→Option (IntKind × Int)
 | .int k n=>some (k,n)
 | _=>none
def AV.int?:AV→Option (IntKind × Int)
 | .dv d=>d.int?
 | _=>none
def DV.bool?:DV→Option Bool
 | .bool b=>some b
 | _=>none
def AV.bool?:AV→Option Bool
 | .dv d=>d.bool?
 | _=>none
def DV.zT:DV→Option ByteArray
 | .str s=>some s
 | _=>none
def AV.zT:AV→Option ByteArray
 | .dv d=>d.zT
 | _=>none
def DV.ng:DV→Bool
 | .dj=>true
 | _=>false
def AV.ng:AV→Bool
 | .dv d=>d.ng
 | _=>false
def DV.Ei:DV→Option (IntKind × Int × Int)
 | .rb k lo hi=>some (k,lo,hi)
 | _=>none
def AV.Ei:AV→Option (IntKind × Int × Int)
 | .dv d=>d.Ei
 | _=>none
def PL (op:BinOp) (lo hi b:Int):Option Bool:=match op with
 | .lss=>xt (tF hi b) (!(tF lo b))
 | .leq=>xt (!(tF b hi)) (tF b lo)
 | .gtr=>xt (tF b lo) (!(tF b hi))
 | .geq=>xt (!(tF lo b)) (tF hi b)
 | .eql=>bif tF b lo || tF hi b then some false else none
 | .neq=>bif tF b lo || tF hi b then some true else none
 | _=>none
def PM (ti:TI) (op:BinOp) (x y:AV):XR AV:=match x.int? with
 | some a=>(c6 y.int? 4).bind fun b=>dP (a.1 == b.1) 4 (Oi op a.1 a.2 b.2)
 | none=>match x.Ei with
  | some t=>(c6 y.int? 14).bind fun b=>dP (t.1 == b.1) 14 ((c6 (PL op t.2.1 t.2.2 b.2) 14).bind fO)
  | none=>match x.bool? with
   | some p=>(c6 y.bool? 7).bind fun q=>dP (ti.ok && Nat.beq ti.kind 1) 7 (Oj op p q)
   | none=>match x.zT with
    | some s=>(c6 y.zT 11).bind fun t=>Ok op s t
    | none=>dP (y.ng && (ti.ok && Nat.beq ti.kind 5)) 13 (match x.ng with
     | true=>vB op true
     | false=>dP (oG x) 15 (vB op false))
def s5:DV→List PS→XR DV
 | d,[]=>.ok d
 | d,s::p=>match step d s with
  | some c=>s5 c p
  | none=>.no [18]
def s6:DV→List PS→DV→XR DV
 | _,[],n=>.ok n
 | d,s::p,n=>match step d s with
  | some c=>(s6 c p n).bind fun c'=>.ok (put d s c')
  | none=>.no [25]
def JL (κ:Nat→ao) (i ver ep:Nat) (p:List PS):XR (Nat × DV):=match κ i with
 | .tree aY bG d=>dP (Nat.beq ver aY && (emp p || Nat.beq ep bG)) 32 (.ok (bG,d))
 | _=>.no [33]
structure XN where
 ep:Nat
 d:DV
 n:DV
def kO (κ:Nat→ao) (i ver ep:Nat) (p:List PS):XR XN:=(JL κ i ver ep p).bind fun t=>(s5 t.2 p).bind fun n=>.ok ⟨t.1,t.2,n⟩
def DV.Ej:DV→Option (Nat × List DV)
 | .ay sz l=>some (sz,l)
 | _=>none
def DV.Gc:DV→Option (KS × List DV)
 | .omap s m=>some (s,m)
 | _=>none
def DV.JM:DV→Option DV
 | .cT x=>some x
 | _=>none
def vD (agg:Bool) (l:List AV) (off n:Nat):XR AV:=match agg with
 | true=>dP (Nat.ble (off+n) l.length) 16 (.ok (.agg ((l.drop off).take n)))
 | false=>c6 (xq l off) 17
def ne {α:Type}:List α→Bool
 | []=>false
 | _::_=>true
def lF (x:DV):Bool:=x.cells.all fun d=>!d.af
def jk:List DV→Bool
 | []=>true
 | x::r=>lF x && jk r
structure XL where
 sz:Nat
 l:List DV
 rd:List Nat
 kill:List Nat
def JN (d:DV):XR (Option XL):=match d with
 | .sl sz l=>.ok (some ⟨sz,l,[],[]⟩)
 | .aG=>.ok none
 | _=>.no [36]
def JO (κ:Nat→ao) (v:AV):XR (Option XL):=match v with
 | .dv d=>JN d
 | .own i ver ep p=>(kO κ i ver ep p).bind fun t=>(c6 t.n.Ej 35).bind fun q=>match jk q.2 with
  | true=>.ok (some ⟨q.1,q.2,[i],[]⟩)
  | false=>dP (emp p) 34 (.ok (some ⟨q.1,q.2,[i],[i]⟩))
 | _=>.no [36]
def BS (ti:TI) (n:Nat):Bool:=Nat.ble (n * ti.bytes) 140737488355328 && Nat.ble n 9223372036854775807
def isFull:AV→Bool
 | .bT _ _=>true
 | _=>false
def zU (ti:TI) (nx:Nat) (x:Option XL):XR XV:=match x with
 | none=>fj nx (.dv .aG)
 | some q=>dP (Nat.beq q.sz ti.size && BS ti q.l.length) 38 (.ok ⟨.own nx 0 0 [],(nx,.tree 0 0 (.ay q.sz q.l))::dV q.kill,nx::q.rd,nx+1⟩)
def JP (ti:TI) (nx i ver:Nat) (p:List PS) (t:XN) (sz:Nat) (l:List DV) (q:XL):XR XV:=dP (!fU i q.rd) 41 (match p with
 | []=>.ok ⟨.own i (ver+1) 0 [],(i,.tree (ver+1) 0 (.ay sz (l++q.l)))::dV q.kill,i::q.rd,nx⟩
 | s::p=>(s6 t.d (s::p) .any).bind fun d'=>.ok ⟨.own nx 1 0 [],(nx,.tree 1 0 (.ay sz (l++q.l)))::(i,.tree ver (t.ep+1) d')::dV q.kill,nx::i::q.rd,nx+1⟩)
def JQ (nx i ver:Nat) (p:List PS) (t:XN) (sz:Nat) (l:List DV):XR XV:=match p with
 | []=>.ok ⟨.own i (ver+1) 0 [],[(i,.tree (ver+1) 0 (.ay sz l))],[i],nx⟩
 | s::p=>(s6 t.d (s::p) .any).bind fun d'=>.ok ⟨.own nx 0 0 [],[(nx,.tree 0 0 (.ay sz l)),(i,.tree ver (t.ep+1) d')],[nx,i],nx+1⟩
def Gd (ti:TI) (nx:Nat) (full:Bool) (i ver:Nat) (p:List PS) (t:XN) (sz:Nat) (l:List DV) (x:Option XL):XR XV:=match x with
 | none=>JQ nx i ver p t sz l
 | some q=>dP (Nat.beq q.sz sz && BS ti (l.length+q.l.length)) 40 (match full && ne q.l && !ne q.kill && jk l && jk q.l with
  | true=>.ok ⟨.own nx 0 0 [],[(nx,.tree 0 0 (.ay sz (l++q.l)))],nx::i::q.rd,nx+1⟩
  | false=>JP ti nx i ver p t sz l q)
def iC:DV→Bool
 | .aG=>true
 | _=>false
def zV (ti te:TI) (nx:Nat) (κ:Nat→ao) (s x:AV):XR XV :=
 dP (ti.ok && ti.isSl && te.ok && Nat.blt 0 te.size) 37 ((JO κ (dn x)).bind fun src=>match dn s with
  | .dv d=>dP (iC d) 43 (zU te nx src)
  | .own i ver ep p=>(kO κ i ver ep p).bind fun t=>(c6 t.n.Ej 42).bind fun q=>dP (Nat.beq q.1 te.size) 39 (Gd te nx (isFull s) i ver p t q.1 q.2 src)
  | _=>.no [43])
def Ol (ti:TI) (d:DV):XR Nat:=match d with
 | .sl _ l=>dP (ti.ok && ti.isSl) 44 (.ok l.length)
 | .aG=>dP (ti.ok && ti.isSl) 44 (.ok 0)
 | .str s=>dP (ti.ok && ti.isStr) 44 (.ok s.size)
 | _=>.no [46]
def Om (ti:TI) (n:DV):XR Nat:=match n with
 | .ay _ l=>dP (ti.ok && ti.isSl) 44 (.ok l.length)
 | .omap _ m=>dP (ti.ok && Nat.beq ti.kind 6) 44 (.ok m.length)
 | _=>.no [45]
def JR (nx:Nat) (n:Nat) (rd:List Nat):XR XV:=.ok ⟨.dv (.int .i64 n),[],rd,nx⟩
def PN (ti:TI) (nx:Nat) (κ:Nat→ao) (v:AV):XR XV:=match v with
 | .dv d=>(Ol ti d).bind fun n=>JR nx n []
 | .own i ver ep p=>(kO κ i ver ep p).bind fun t=>(Om ti t.n).bind fun n=>JR nx n [i]
 | .sle _ m=>dP (ti.ok && ti.isSl) 44 (JR nx m [])
 | _=>.no [46]
def On (d:DV):XR Bool:=match d with
 | .aG=>.ok true
 | .sl _ l=>dP (ne l) 88 (.ok false)
 | _=>.no [88]
def PO (ti:TI) (κ:Nat→ao) (v:AV):XR (Bool × List Nat):=dP (ti.ok && ti.isSl) 87 (match v with
 | .dv d=>(On d).bind fun b=>.ok (b,[])
 | .own i ver ep p=>(kO κ i ver ep p).bind fun t=>(c6 t.n.Ej 88).bind fun q=>dP (ne q.2) 88 (.ok (false,[i]))
 | .bT _ _=>.ok (false,[])
 | .sle _ _=>.ok (false,[])
 | _=>.no [89])
def pe (i ver ep:Nat) (p:List PS) (sz idx:Nat) (nd:DV):XR (List AV):=match nd with
 | .ay oZ l=>dP (Nat.beq sz oZ) 47 ((c6 (xq l idx) 48).bind fun x=>.ok (jE i ver ep p idx 0 x.cells))
 | .cT x=>dP (Nat.beq idx 0) 49 (.ok (jE i ver ep p 0 0 x.cells))
 | _=>.no [50]
def zW (x:DV) (off:Nat) (ds:List DV):XR DV:=match x with
 | .agg l=>dP (Nat.ble (off+ds.length) l.length) 51 (.ok (.agg (lG l off ds)))
 | _=>match off,ds with
  | 0,[d]=>.ok d
  | _,_=>.no [52]
def Ek (sz idx off:Nat) (nd:DV) (ds:List DV):XR (List DV × DV):=match nd with
 | .ay oZ l=>dP (Nat.beq sz oZ) 53 ((c6 (xq l idx) 54).bind fun x=>(zW x off ds).bind fun y=>.ok ((x.cells.drop off).take ds.length,.ay oZ (l.set idx y)))
 | .cT x=>dP (Nat.beq idx 0) 55 ((zW x off ds).bind fun y=>.ok ((x.cells.drop off).take ds.length,.cT y))
 | _=>.no [56]
def zX (nx:Nat) (κ:Nat→ao) (i ver ep:Nat) (p:List PS) (sz idx off:Nat) (vs:List AV):XR XV :=
 (kO κ i ver ep p).bind fun t=>(c6 (qx κ vs) 58).bind fun q=>dP (!(fU i q.2 || !eI q.2)) 57 ((Ek sz idx off t.n q.1).bind fun on=>(s6 t.d p on.2).bind fun d' =>
  .ok ⟨.any,(i,.tree ver (bif eK on.1 || eK q.1 then t.ep+1 else t.ep) d')::oH κ q.2,i::q.2,nx⟩)
def AV.xu (v:AV):Option Int:=match v.int? with
 | some (.i64,n)=>some n
 | _=>none
def xI (ρ:Nat→AV) (κ:Nat→ao) (x:Option Operand):XR (Option Int):=match x with
 | none=>.ok none
 | some x=>(kr ρ κ x).bind fun v=>(c6 v.xu 59).bind fun n=>.ok (some n)
def JS (lo hi:Option Int) (len:Nat):Bool:=L3 (lo.getD 0) && Mz (lo.getD 0) (hi.getD len) && Mz (hi.getD len) len
def R6 (lo hi:Option Int) (l:List DV):List DV:=(l.take (hi.getD l.length).toNat).drop (lo.getD 0).toNat
def Ge (ti:TI) (w8 nx:Nat) (d:DV) (lo hi:Option Int):XR XV:=match d with
 | .sl sz l=>dP (ti.isSl && Nat.beq sz w8 && JS lo hi l.length) 60 (fj nx (.dv (.sl sz (R6 lo hi l))))
 | .str s=>dP (ti.isStr && JS lo hi s.size) 63 (fj nx (.dv (.str (s.extract (lo.getD 0).toNat (hi.getD s.size).toNat))))
 | _=>.no [64]
def zY (ti:TI) (w8 nx:Nat) (κ:Nat→ao) (v:AV) (lo hi:Option Int):XR XV:=match v with
 | .dv d=>Ge ti w8 nx d lo hi
 | .own i ver ep p=>dP (emp p) 62 ((kO κ i ver ep []).bind fun t=>(c6 t.n.Ej 62).bind fun q=>dP (ti.isSl && Nat.beq q.1 w8 && JS lo hi q.2.length) 61 (
   .ok ⟨.own i (ver+1) 0 [],[(i,.tree (ver+1) 0 (.ay q.1 (R6 lo hi q.2)))],[i],nx⟩))
 | _=>.no [64]
def PQ (ti:TI):Option KS:=bif ti.ok && ti.DH == some .i64 then some Ho else bif ti.ok && ti.isStr then some PJ else bif ti.ok && ti.pair then some ei else none
def JT:uy→uy→Bool
 | .int k,.int k'=>k == k'
 | .bool,.bool=>true
 | .str,.str=>true
 | _,_=>false
def rR:List uy→List uy→Bool
 | [],[]=>true
 | a::l,b::r=>JT a b && rR l r
 | _,_=>false
def MA (a b:KS):Bool:=(a.agg == b.agg) && rR a.tags b.tags
def Gf (ti:TI) (s:KS):Bool:=match PQ ti with
 | some s'=>MA s s'
 | none=>false
def ye:List AV→Option (List DV)
 | []=>some []
 | .dv d::r=>match ye r with
  | some l=>some (d::l)
  | none=>none
 | _=>none
def Hr:AV→Option DV
 | .dv d=>bif d.isAgg then none else some d
 | .agg l=>match ye l with
  | some ds=>some (.agg ds)
  | none=>none
 | _=>none
def zZ (te:TI) (i ver ep:Nat) (p:List PS) (key:DV) (c b:Bool) (x:DV) (nx:Nat):XR XV:=dP (x.isAgg == te.agg) 66 (
 .ok ⟨bif c then .eP [eZ.oI te.agg (jF i ver ep p key 0 x.cells),.dv (.bool b)] else eZ.oI te.agg (jF i ver ep p key 0 x.cells),[],[i],nx⟩)
def z5 (tk te:TI) (nx:Nat) (κ:Nat→ao) (v kv:AV) (c:Bool):XR XV:=match v with
 | .own i ver ep p=>(kO κ i ver ep p).bind fun t=>(c6 t.n.Gc 68).bind fun q=>(c6 (Hr kv) 68).bind fun key=>dP (Gf tk q.1 && q.1.ok key) 65 (match bJ q.2 key with
  | some x=>zZ te i ver t.ep p key c true x nx
  | none=>zZ te i ver t.ep p key c false te.vE nx)
 | _=>.no [69]
def lH:AV→Bool
 | .agg _=>true
 | _=>false
def n5 (m:List DV) (key:DV):Bool:=match bJ m key with
 | some x=>lF x
 | none=>true
def z7 (tk:TI) (nx:Nat) (κ:Nat→ao) (v kv u:AV):XR XV:=match v with
 | .own i ver ep p=>(kO κ i ver ep p).bind fun t=>(c6 t.n.Gc 74).bind fun q=>(c6 (Hr kv) 74).bind fun key=>dP (Gf tk q.1 && q.1.ok key) 70 (
   (c6 (qx κ (cellsOf u)) 73).bind fun w=>dP (!(fU i w.2 || !eI w.2 || !bQ (cellsOf u))) 71 (
    dP ((gJ (lH u) w.1).isAgg == lH u && Nat.beq (gJ (lH u) w.1).cells.length w.1.length) 72 (
     (s6 t.d p (.omap q.1 (ez q.2 key (gJ (lH u) w.1)))).bind fun d' =>
      .ok ⟨.any,(i,.tree ver (bif lF (gJ (lH u) w.1) && n5 q.2 key then t.ep else t.ep+1) d')::dV w.2,i::w.2,nx⟩)))
 | _=>.no [75]
def xw (agg:Bool) (sz:Nat):Nat→List DV→List DV
 | 0,_=>[]
 | k+1,l=>gJ agg (l.take sz)::xw agg sz k (l.drop sz)
end Go.TM
