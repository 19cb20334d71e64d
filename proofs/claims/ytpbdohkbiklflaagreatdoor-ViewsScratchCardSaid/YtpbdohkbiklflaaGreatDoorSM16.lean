import Derived.Test.YtpbdohkbiklflaaGreatDoorSM15
import Derived.WideKeyRuns
import Derived.Laws.StructEq
set_option linter.unusedVariables false
set_option linter.unusedSimpArgs false
set_option linter.unusedSectionVars false
namespace Go.TM
open Go.RowKit
variable [cj]
theorem uc:∀{s k i:Nat},s≤i→i<s+k→i∈kQ s k
 | s,0,i,h1,h2=>by omega
 | s,k+1,i,h1,h2=>by
  simp only [kQ,List.mem_cons]
  by_cases e:i=s
  ·exact .inl e
  ·exact .inr (uc (by omega) (by omega))
def sN (I:Inv):Prop:=∀β vs w (R R':Ending→World→Prop),(∀e w,R e w→R' e w)→I β vs w R→I β vs w R'
theorem jb (P:Program) (f:Nat):sN (Ef P f):=fun _ _ _ _ _ h hc=>Calls.mono hc h
theorem Cz (P:Program):sN (Eg P):=by
 intro β vs w R R' h hc
 obtain ⟨l,h1,fn,tmps,assign,body,w1,h2,h3⟩:=hc
 exact ⟨l,h1,fn,tmps,assign,body,w1,h2,RoundIn.mono h3 h⟩
theorem Fp {i nx:Nat} {σ:List Nat} (h:Fq (some i) σ=true):0<σ.length∧sg σ nx 0=i:=by
 cases σ with
 | nil=>simp [Fq] at h
 | cons x r =>
  simp only [Fq] at h
  exact ⟨by simp,(Nat.eq_of_beq_eq_true h).symm⟩
section
variable {P:Program} {C:df→Prop} {T:List TI} {ops:List Oper} {n:Nat} {o:Oper} {nx:Nat} {ρ:Nat→AV} {κ:Nat→ak} {k:iP→Nat→Prop} {gd:Bool}
def HI (P:Program) (ops:List Oper) (n:Nat) (o:Oper) (ρ:Nat→AV) (κ:Nat→ak) (gd:Bool) (hd:Option Nat) (C:df→Prop) (m:Nat) (I:Inv) (l:List AV):Prop :=
 ∀ρ' κ' rd bx,zC ops o ρ ρ' κ κ' rd bx→∀(g:df) (a:Act) (w:World) (G:Gh),C g→bT g n ρ' κ' a w G→gd=true →
  ∃vs:List Value,bJ G l vs∧∀F,fI F→∀β:Nat→Option Nat,(∀i,hd=some i→β 0=G.β i)→∀K:Act→World→Prop,
   I β vs w (fun e w'=>∃v,e=.returned v∧K (a.put o.dst v) w')→o.wpIn F 0 P a w K (fun _ _ _=>False)
theorem kR {hd:Option Nat} {I:Inv} {l:List AV} {σ:List Nat} {ca:List AV} {K0:af} {ex:Nat} {R:List AV→af→Prop} (hI:sN I) (cD:yv I ca σ.length K0 ex R)
  (hn:∀i,nx≤i→κ i=.none) (eG:(gF κ σ nx l ca K0 && Fq hd σ)=true) (Nu:dW 0 κ (aa (bP (sg σ nx) dm K0)) (du (sg σ nx) dm ca) l) (GD:om 0 κ (aa (bP (sg σ nx) dm K0)) (bP (sg σ nx) dm K0))
  (fX:∀rs K1,R rs K1→fV σ ex K0 K1 rs=true) (bA:∀j,j<σ.length→(aa K0 j).pass=true)
  {ρ':Nat→AV} {κ':Nat→ak} {g:df} {a:Act} {w:World} {G:Gh} (c5:g.m≤nx) (ai:bT g n ρ' κ' a w G) {vs:List Value} (dr:bJ G l vs)
  (ao:∀i,i∈σ++(di κ (du (sg σ nx) dm ca) l++dX κ (bP (sg σ nx) dm K0))++kQ nx ex→κ' i=κ i) :
  ∃β:Nat→Option Nat,(∀i,hd=some i→β 0=G.β i)∧I β vs w fun e w2=>∃v rs K1 G3,e=.returned v∧R rs K1 ∧
   bT g n ρ' (aq κ' (bP (sg σ nx) (iX κ σ) K1++js κ (di κ (du (sg σ nx) dm ca) l++dX κ (bP (sg σ nx) dm K0)))) a w2 G3∧aC G3 (kB (sg σ nx) (iX κ σ) (ic rs)) v:=by
 simp only [Bool.and_eq_true] at eG
 obtain ⟨eG,Fi⟩:=eG
 simp only [gF,Bool.and_eq_true] at eG
 obtain ⟨⟨⟨⟨⟨⟨Sq,Cv⟩,PF⟩,Vh⟩,PG⟩,Sr⟩,jv⟩:=eG
 obtain ⟨hσ1,hσ2⟩:=gz Sq
 have dk:=HB (nx:=nx) hσ1 hσ2
 have Am:∀j (h:j<σ.length),sg σ nx j∈σ:=fun j h=>by rw [ig h]; exact List.getElem_mem h
 simp only [bN.wf,Bool.and_eq_true] at PF PG
 have Ma:∀j,j<σ.length→(aa K0 j).fe=false:=fun j hj=>by
  have:=bA j hj
  cases h:aa K0 j <;> rw [h] at this <;> first | rfl | cases this
 have PH:∀j,j∈keys K0→∀a b c d e,aa K0 j ≠ .iF a b c d e:=fun j hj a b c d e h=>by
  have:=bA j (cV Cv j hj)
  rw [h] at this; cases this
 have PI:∀j,j∈keys K0→aa K0 j ≠ .held:=fun j hj h=>by
  have:=bA j (cV Cv j hj)
  rw [h] at this; cases this
 have HJ:∀j,j<σ.length→j∈keys K0:=fun j hj=>by
  refine Classical.byContradiction fun hn=>?_
  have:=Ma j hj; rw [fA hn] at this; cases this
 have PJ:∀j,aa (bP (sg σ nx) dm K0) (sg σ nx j)=if j∈keys K0 then pE (sg σ nx) dm j (aa K0 j) else .none:=fun j=>by
  rw [fh (bP (sg σ nx) dm K0)]; exact np dk _ K0 j
 have Nv:∀j,j<σ.length→(aa (bP (sg σ nx) dm K0) (sg σ nx j)).fe=false:=fun j hj=>by
  rw [PJ,if_pos (HJ j hj)]
  cases aa K0 j <;> rfl
 have Ss:∀i,(aa (bP (sg σ nx) dm K0) i).fe=false→i∈σ:=fun i hi=>by
  rcases fv (K:=bP (sg σ nx) dm K0) (i:=i) with h | h
  ·rw [h] at hi; cases hi
  ·obtain ⟨j,h1,rfl⟩:=ke h
   exact Am j (cV Cv j h1)
 have aoσ:∀i,i∈σ→κ' i=κ i:=fun i hi=>ao i (List.mem_append.2 (.inl (List.mem_append.2 (.inl hi))))
 have Kq:∀i,i∈di κ (du (sg σ nx) dm ca) l++dX κ (bP (sg σ nx) dm K0)→κ' i=κ i:=fun i hi=>ao i (List.mem_append.2 (.inl (List.mem_append.2 (.inr hi))))
 have Su:∀i,nx≤i→i<nx+ex→κ' i=.none:=fun i h1 h2=>(ao i (List.mem_append.2 (.inr (uc h1 h2)))).trans (hn i h1)
 generalize T0:di κ (du (sg σ nx) dm ca) l++dX κ (bP (sg σ nx) dm K0)=F at *
 obtain ⟨G1,f1,f2,f3,f4,lR⟩:=ai.m8 (κ:=κ) F Kq
 have hs:∀i,Ae 0 κ (aa (bP (sg σ nx) dm K0)) F i:=by
  intro i
  rcases fv (K:=bP (sg σ nx) dm K0) (i:=i) with h | h
  ·unfold Ae; rw [h]; exact ⟨tv,rfl,by simp [rQ]⟩
  ·exact ⟨(j9 GD i _ h).1,(pB PG.1 i _ h).2,fun j hj=>by rw [←T0]; exact List.mem_append.2 (.inr ((j9 GD i _ h).2 j hj))⟩
 obtain ⟨PK,Nw⟩:=L4 (m:=0) (κ:=κ) (κc:=κ') ai.fit f1 f2 f3 f4 Kq (fun i hi=>aoσ i (Ss i hi)) lR.fit jv hs
 have bG:=(mi (m:=0) (κ:=κ) (κ':=aa (bP (sg σ nx) dm K0)) (w:=w) f1 f2 f3 Kq lR.fit (SizeOf.sizeOf (du (sg σ nx) dm ca)+1)).2 _ l vs (by omega) Nu Sr (fun i hi=>by rw [←T0]; exact List.mem_append.2 (.inl hi)) dr
 obtain ⟨PL,rX⟩:=Kp dk PK (fun j hj h=>by have:=Ma j (cV Cv j hj); rw [h] at this; cases this) PH PI (fun j c hc=>by
  rcases fv (K:=K0) (i:=j) with h | h
  ·rw [h] at hc; cases hc
  ·have:=(pB PF.1 j _ h).2
   rw [hc] at this
   simp only [ak.OU,Bool.and_eq_true] at this
   exact this.2)
 have Nx:=(HC (r:=sg σ nx) (SizeOf.sizeOf ca+1)).2 ca vs (by omega) bG
 have hβ0:∀j,j<σ.length→(pull (sg σ nx) (dh 0 κ (aa (bP (sg σ nx) dm K0)) G1)).β j=G1.β (sg σ nx j):=fun j hj=>by
  simp only [pull,dh,reβ,Nv j hj]
 refine ⟨(pull (sg σ nx) (dh 0 κ (aa (bP (sg σ nx) dm K0)) G1)).β,fun i hi=>?_,hI _ _ _ _ _ ?_ (cD w _ vs (ai.nA.mono (ai.mem.trans f1.mem)) PL Nx)⟩
 ·subst hi
  obtain ⟨h1,h2⟩:=Fp (nx:=nx) Fi
  rw [hβ0 0 h1,f2,h2]
 ·rintro e w2 ⟨v,rs,K1,G2,rfl,T1,hC⟩
  have hκ1:=mn (κ:=κ) (κ':=κ') (ids:=F) Kq
  obtain ⟨t1,t2,t3⟩:=Fm (κ:=κ) (κ1:=aq κ' (js κ F)) (G1:=G1) (nx:=nx) hσ1 hσ2 (fun i h1 h2=>by
    rw [hκ1,hn i h1,Su i h1 h2]; simp [ak.dI]) lR.fit
   (fun i hi V E d hk=>by
    have hb:=ai.fit.box i
    rw [aoσ i hi,hk] at hb
    rw [f3]; exact ⟨hb.2.2.1,hb.2.2.2⟩)
   (fun i hi hk v e p=>by
    have hb:=ai.fit.box i
    rw [aoσ i hi,hk] at hb
    rw [f3]; exact hb.2 v e p)
   (fun j hj V E d hk=>by
    have dj:=Nv j hj
    have hz:hP 0 (sg σ nx j) V E=(0,0):=sI (by omega)
    have key:∀p,az (sH 0 κ (aa (bP (sg σ nx) dm K0)) G1.H) (sg σ nx j) 0 0 p=az G1.H (sg σ nx j) V E p:=fun p=>by
     have:=mg (m:=0) (H:=G1.H) hk dj p
     rw [hz] at this; exact this
    refine ⟨fun x hx=>?_,fun s q x hx=>?_⟩
    ·have:=key []; simp only [az] at this; simp only [pull,dh]; rw [this]; exact hx
    ·have:=key (s::q); simp only [az] at this; simp only [pull,dh]; rw [this]; exact hx)
   (fun j hj V d hk=>by
    have hb:=lR.fit.box (sg σ nx j)
    have Kr:aq κ' (js κ F) (sg σ nx j)=.fz V d:=by rw [hκ1,aoσ _ (Am j hj),hk]; simp [ak.dI]
    rw [Kr] at hb
    obtain ⟨x,h1,_⟩:=hb
    refine ⟨x,h1,?_⟩
    simp only [pull,dh,sH,Nv j hj,hk]
    have:=(iW 0 (G1.H (sg σ nx j)) (sg σ nx j) V 0 (.el 0 0) []).1
    rw [sI (by omega)] at this
    rw [this]; exact h1)
   hβ0 rfl
   (fun j b ho=>by
    obtain ⟨h1,h2⟩:=rX j b ho
    exact ⟨cV Cv j h1,Nw _ b h2⟩)
   (fun j hj=>by
    obtain ⟨hx,_,_⟩:=hs (sg σ nx j)
    rw [PJ,if_pos (HJ j hj)] at hx
    refine ⟨fun v e d h0=>?_,fun v d h0=>?_⟩
    ·rw [h0] at hx
     cases hk:κ (sg σ nx j) with
     | tree V E d=>exact .inl ⟨_,_,_,rfl⟩
     | none=>exact .inr rfl
     | _=>rw [hk] at hx; exact hx.elim
    ·rw [h0] at hx
     cases hk:κ (sg σ nx j) with
     | tree V E d=>exact .inl ⟨_,_,_,rfl⟩
     | fz V d=>exact .inr ⟨_,_,rfl⟩
     | _=>rw [hk] at hx; exact hx.elim)
   (fX rs K1 T1) hC
  have Eh:=lR.n3 t1 (fun i hi=>t2 i (by omega))
  refine ⟨v,rs,K1,_,rfl,T1,Eh.congr ?_,t3⟩
  rw [rV]
theorem wX {hd:Option Nat} {S:List AV→Nat→af→Nat→(List AV→af→Prop)→Prop} {I:Nat→Inv} {ok:Nat→Prop} {l:List AV} (hS:∀args m K ex R,S args m K ex R→ok m∧yv (I m) args m K ex R) (hI:∀m,sN (I m)) (cT:∀c,o.op ≠ .defer c)
  (hn:∀i,nx≤i→κ i=.none) (hg:bF ρ ops o.guard=some gd) (bj:∀m,ok m→HI P ops n o ρ κ gd hd C m (I m) l) (h:jQ hd S n o gd nx κ k l):Good P C ops n o nx ρ κ k:=by
 obtain ⟨σ,ca,K0,ex,rs,K1,cD,eG,fX,Nu,GD,hk⟩:=h
 rw [(eM (SizeOf.sizeOf (kB (sg σ nx) (iX κ σ) (ic rs))+1)).1 _ _ (by omega),uf,kg,pF] at hk
 have Mb:=fX
 simp only [fV,Bool.and_eq_true] at Mb
 obtain ⟨⟨⟨dU,CA⟩,_⟩,_⟩:=Mb
 have hσ1:∀i,i∈σ→i<nx:=by
  have:=eG
  simp only [gF,Bool.and_eq_true] at this
  exact (gz this.1.1.1.1.1.1.1).1
 have dz:∀p,p∈bP (sg σ nx) (iX κ σ) K1++js κ (di κ (du (sg σ nx) dm ca) l++dX κ (bP (sg σ nx) dm K0))→p.1<nx+ex:=by
  intro p hp
  rcases List.mem_append.1 hp with hp | hp
  ·obtain ⟨j,h1,h2⟩:=ke (i:=p.1) (b:=p.2) hp
   have hj:=cV CA j h1
   rw [h2]
   rcases Nat.lt_or_ge j σ.length with aK | db
   ·have:=hσ1 _ (by rw [ig aK]; exact List.getElem_mem aK:sg σ nx j∈σ); omega
   ·rw [gR db]; omega
  ·have:=qu hn hp; omega
 refine An cT hg hk (Nat.le_add_right _ _) dz fun ρ' κ' ao Fn hF g a w G c5 ai aI K hK=>?_
 obtain ⟨vs,dr,jC⟩:=bj σ.length (hS _ _ _ _ _ cD).1 ρ' κ' _ _ ao g a w G c5.2 ai aI
 obtain ⟨β,hβ,aV⟩:=kR (hd:=hd) (hI _) (hS _ _ _ _ _ cD).2 hn eG Nu GD (fun oi Vi hR=>by obtain ⟨rfl,rfl⟩:=hR; exact fX) (fun j hj=>by
  rcases gT dU j hj with ⟨_,_,h,_⟩ | ⟨_,_,_,_,_,_,h,_⟩ | ⟨_,_,_,h,_⟩ | ⟨_,_,_,h,_⟩ <;> rw [h] <;> rfl) c5.1 ai dr ao.reads
 refine jC Fn hF β hβ K (hI _ _ _ _ _ _ ?_ aV)
 rintro e w2 ⟨v,oi,Vi,G3,rfl,⟨rfl,rfl⟩,h1,h2⟩
 exact ⟨v,rfl,hK v w2 G3 h1 h2⟩
theorem ug {f:Nat} {l:List AV} (bj:qp P ops o ρ κ gd f l) (hc:gM P f) (m:Nat):HI P ops n o ρ κ gd none C m (Ef P f) l:=by
 intro ρ' κ' rd bx ao g a w G _ ai aI
 obtain ⟨vs,aV,dr⟩:=bj.2 ρ' κ' rd bx ao g n a w G ai aI hc
 exact ⟨vs,dr,fun F hF β _ K hI=>qq hF bj.1 aV hI⟩
theorem Ao {c:Call} {t i:Nat} {l:List AV} (ho:o.op=.call c) (hc:c.callee=.value (.tmp t)) (hv:bf ρ κ gd (.tmp t) (.fc i)) (bj:jB ρ κ gd c.args.toList l) (m:Nat):HI P ops n o ρ κ gd (some i) C m (Eg P) l:=by
 intro ρ' κ' rd bx ao g a w G _ ai aI
 have dr:=jB.rel ai aI bj (fun x hx=>ao.op (by rw [ho]; simp only [Op.operands,Call.operands,hc]; exact Array.mem_append.2 (.inr (by simpa using hx))))
 have tn:=hv ρ' κ' (ao.op (by rw [ho]; simp only [Op.operands,Call.operands,hc]; exact Array.mem_append.2 (.inl (by simp)))) g n a w G ai aI
 have bG:(List.map a.eval c.args.toList).toArray=c.args.map a.eval:=by rw [←Array.toList_map,Array.toArray_toList]
 generalize hx:a.eval (.tmp t)=x at tn
 cases tn with | fc _ b hb =>
 refine ⟨_,dr,fun F hF β hβ K hI=>?_⟩
 obtain ⟨l',h1,fn,tmps,assign,body,w1,h2,h3⟩:=hI
 rw [hβ i rfl,hb] at h1
 injection h1 with h1
 subst h1
 rw [bG] at h2
 have aV:(execOp a.eval o).run P w=.ok (.round b fn tmps assign body) w1:=by
  rw [←h2]
  simp [execOp,ho,resolve,hc,hx,Deferred.ofValue,invoke]
 refine ⟨fun f _=>hF.fn f,?_⟩
 rw [Oper.semAt_plain F _ _ (fun c=>by rw [ho]; simp),aV,Oper.uponIn_round]
 refine ⟨fun h=>(by rw [hF.depth] at h; cases h),hF.round.2 (RoundIn.mono h3 ?_)⟩
 rintro e w' ⟨v,rfl,hk⟩
 exact hk
theorem aw (P:Program):cK P (fun _=>True):=by
 intro ops n o nx ρ κ k hn
 refine ⟨fun {gd f l} hg bj h=>?_,fun hg ho hc hv bj h=>?_⟩
 ·have Q7:gM P f:=by obtain ⟨_,_,_,_,_,_,cD,_⟩:=h; exact cD.1
  exact wX (I:=fun _=>Ef P f) (ok:=fun _=>True) (fun _ _ _ _ _ hs=>⟨tv,hs.2⟩) (fun _=>jb P _) bj.1 hn hg (fun m _=>ug bj Q7 m) h
 ·exact wX (I:=fun _=>Eg P) (ok:=fun _=>True) (fun _ _ _ _ _ hs=>⟨tv,hs⟩) (fun _=>Cz P) (fun c=>by rw [ho]; simp) hn hg (fun m _=>Ao ho hc hv bj m) h
end
end Go.TM
namespace Go.TM
open Go.RowKit
variable [cj]
section
variable {P:Program} {C:df→Prop} {T:List TI}
theorem uh {kt:Nat} {d:TypeDesc} {s:KS} (hd:P.underlying kt=some d) (h:∀k v,s.ok k=true→bo k=some v→MapKept.IsKey d v):qJ P kt s where
 check w em v:=fun ⟨k,h1,h2⟩=>MapKept.run_checkKey hd (h k v h1 h2) em 9999
 find w x:=fun ⟨k,h1,h2⟩ es sK=>by
  rcases MapKept.findNow_spec (h k x h1 h2) es 0 (fun e he=>let ⟨k',Pz,B4⟩:=sK e he; h k' _ Pz B4) with ⟨q1,q2⟩ | ⟨j,e,q1,q2,q3⟩
  ·exact .inl ⟨MapKept.run_findKey hd q1,q2⟩
  ·exact .inr ⟨j,e,by simpa using MapKept.run_findKey (P:=P) (w:=w) hd q1,q2,q3⟩
 stays w v:=fun ⟨k,h1,h2⟩=>MapKept.run_keyThatStays (h k v h1 h2)
def Fs:KS:=⟨false,[.int .i64]⟩
def Ny:KS:=⟨false,[.str]⟩
theorem Ap (hT:dV P T) {kt:Nat} (h:((nth T kt).ok && (nth T kt).B6 == some .i64)=true):qJ P kt Fs:=by
 simp only [Bool.and_eq_true,beq_iff_eq] at h
 obtain ⟨i,u,z,tf⟩:=hT.facts h.1
 have hu:u=.int .i64:=by
  have:=tf.B6
  rw [h.2] at this
  cases u <;> simp [zM] at this
  rw [this]
 refine uh (d:=.int .i64) (by rw [tf.wL,hu]) fun k v hk hv=>?_
 cases k <;> simp [KS.ok,Fs,o0] at hk
 subst hk
 simp [bo,DV.val?] at hv
 subst hv
 rfl
theorem HK (hT:dV P T) {kt:Nat} (h:((nth T kt).ok && (nth T kt).isStr)=true):qJ P kt Ny:=by
 simp only [Bool.and_eq_true] at h
 obtain ⟨i,u,z,tf⟩:=hT.facts h.1
 refine uh (d:=.string) (tf.string h.2) fun k v hk hv=>?_
 cases k <;> simp [KS.ok,Ny,o0] at hk
 simp [bo,DV.val?] at hv
 subst hv
 trivial
def dL:KS:=⟨true,[.int .i64,.int .i64]⟩
theorem Ft {k:DV} {v:Value} (h:dL.ok k=true) (hv:bo k=some v):∃a b:Int,v=.agg #[.int .i64 a,.int .i64 b]:=by
 cases k with
 | agg l =>
  match l,h with
  | [x,y],h =>
   cases x <;> simp [KS.ok,dL,iO,o0] at h
   cases y <;> simp [o0] at h
   obtain ⟨rfl,rfl⟩:=h
   simp [bo,DV.fq,DV.val?] at hv
   exact ⟨_,_,hv.symm⟩
  | [],h=>simp [KS.ok,dL,iO] at h
  | [_],h=>simp [KS.ok,dL,iO] at h
  | _::_::_::_,h=>simp [KS.ok,dL,iO] at h
 | _=>simp [KS.ok,dL] at h
theorem pG {t:Option TypeDesc} (h:wY t=true):t=some (.int .i64):=by
 cases t with
 | none=>simp [wY] at h
 | some d=>cases d <;> simp [wY] at h; rename_i k; cases k <;> simp [wY] at h; rfl
theorem ek {w:World} {e:TypeId} (he:P.underlying e=some (.int .i64)) {xs:Array Value} {off:Nat} {v:Value} (hx:xs[off]?=some v):(part e xs off).run P w=.ok v w:=by
 simp [part,isAgg,run_underlying he,hx]
theorem CB {kt:Nat} {fs:Array Field} (hu:P.underlying kt=some (.struct fs)) (hp:Aq P fs.toList=true) (hs:P.stoodInHeld kt=false) (w:World) (a b c d:Int) :
  (Op.equal kt (.agg #[.int .i64 a,.int .i64 b]) (.agg #[.int .i64 c,.int .i64 d])).run P w=.ok (a == c && b == d) w:=by
 have hf:P.fieldsOf kt=fs:=by simp [Program.fieldsOf,hu]
 have key:∀D,(Op.equalIn (D+2) kt (.agg #[.int .i64 a,.int .i64 b]) (.agg #[.int .i64 c,.int .i64 d])).run P w=.ok (a == c && b == d) w:=by
  intro D
  rw [run_equalIn_struct w (D+1) kt _ _ (by rw [hf]; exact hu) hs,hf]
  match hl:fs.toList,hp with
  | [x,y],hp =>
   simp only [hl,Aq,Bool.and_eq_true,bne_iff_ne] at hp
   obtain ⟨⟨⟨⟨⟨n1,n2⟩,o1⟩,o2⟩,i1⟩,i2⟩:=hp
   have o1:=Nat.eq_of_beq_eq_true o1
   have o2:=Nat.eq_of_beq_eq_true o2
   have i1:=pG i1
   have i2:=pG i2
   simp only [Op.eqFields,n1,n2,ne_eq,not_false_eq_true,if_true,Sem.run_bind,o1,o2]
   rw [ek (v:=.int .i64 a) i1 (by simp)]
   simp only [Result.andThen_ok]
   rw [ek (v:=.int .i64 c) i1 (by simp)]
   simp only [Result.andThen_ok]
   rw [run_equalIn_int w D x.type .i64 .i64 a c i1]
   simp only [Result.andThen_ok]
   cases T2:a == c with
   | false=>simp
   | true =>
    simp only [Bool.not_true,Bool.false_eq_true,if_false,Sem.run_bind]
    rw [ek (v:=.int .i64 b) i2 (by simp)]
    simp only [Result.andThen_ok]
    rw [ek (v:=.int .i64 d) i2 (by simp)]
    simp only [Result.andThen_ok]
    rw [run_equalIn_int w D y.type .i64 .i64 b d i2]
    simp only [Result.andThen_ok]
    cases JY:b == d <;> simp
 simp only [Op.equal,Op.maxDepth,key 9998]
theorem wZ (hT:dV P T) {kt:Nat} (h:((nth T kt).ok && (nth T kt).pair)=true):qJ P kt dL:=by
 simp only [Bool.and_eq_true] at h
 obtain ⟨i,u,z,tf⟩:=hT.facts h.1
 have hp:=tf.pair
 rw [h.2] at hp
 have hp:=hp.symm
 simp only [Bool.and_eq_true,Bool.not_eq_true'] at hp
 obtain ⟨fs,rfl⟩:∃fs,u=.struct fs:=by
  cases u <;> simp [CC] at hp
  exact ⟨_,rfl⟩
 have hl:Aq P fs.toList=true:=hp.1
 have hu:=tf.wL
 have hv:∀{v:Value},(∃d,dL.ok d=true∧bo d=some v)→∃a b:Int,v=.agg #[.int .i64 a,.int .i64 b]:=fun ⟨d,h1,h2⟩=>Ft h1 h2
 refine ⟨fun w em v hk=>?_,fun w x hx es sK=>?_,fun w v hk=>?_⟩
 ·obtain ⟨a,b,rfl⟩:=hv hk
  have key:∀D,(Instr.checkKey em (D+2) kt (.agg #[.int .i64 a,.int .i64 b])).run P w=.ok () w:=by
   intro D
   match hf:fs,hl with
   | ⟨[x,y]⟩,hl =>
    simp only [Aq,Bool.and_eq_true,bne_iff_ne] at hl
    obtain ⟨⟨⟨⟨⟨n1,n2⟩,o1⟩,o2⟩,i1⟩,i2⟩:=hl
    have o1:=Nat.eq_of_beq_eq_true o1
    have o2:=Nat.eq_of_beq_eq_true o2
    have i1:=pG i1
    have i2:=pG i2
    have c1:∀(E:Nat) (n:Int),(Instr.checkKey em (E+1) x.type (.int .i64 n)).run P w=.ok () w:=fun E n=>by simp [Instr.checkKey,run_underlying i1]
    have c2:∀(E:Nat) (n:Int),(Instr.checkKey em (E+1) y.type (.int .i64 n)).run P w=.ok () w:=fun E n=>by simp [Instr.checkKey,run_underlying i2]
    rw [Instr.checkKey]
    simp only [Sem.run_bind,run_underlying hu,Result.andThen_ok]
    simp [n1,n2,o1,o2,ek (v:=.int .i64 a) i1,ek (v:=.int .i64 b) i2,c1,c2]
  exact key 9998
 ·have hw:(match P.underlying kt with | some (.array _ _) | some (.struct _)=>true | _=>false)=true:=by rw [hu]
  obtain ⟨a,b,rfl⟩:=hv hx
  have key:∀(es:List MapEntry) (i:Nat),(∀e,e∈es→∃d,dL.ok d=true∧bo d=some e.key) →
    ((Instr.findAsking kt (.agg #[.int .i64 a,.int .i64 b]) es i).run P w=.ok none w∧∀e,e∈es→e.key ≠ .agg #[.int .i64 a,.int .i64 b]) ∨
    ∃j e,(Instr.findAsking kt (.agg #[.int .i64 a,.int .i64 b]) es i).run P w=.ok (some (i+j,e.val)) w∧es[j]?=some e∧e.key=.agg #[.int .i64 a,.int .i64 b]:=by
   intro es
   induction es with
   | nil=>intro i _; exact .inl ⟨by simp [Instr.findAsking],by simp⟩
   | cons e r ih =>
    intro i sK
    obtain ⟨c,d,hk⟩:=hv (sK e (by simp))
    have heq:=CB hu hl hp.2 w a b c d
    rw [←hk] at heq
    cases hb:(a == c && b == d) with
    | true =>
     rw [hb] at heq
     simp only [Bool.and_eq_true,beq_iff_eq] at hb
     refine .inr ⟨0,e,?_,rfl,by rw [hk,hb.1,hb.2]⟩
     simp only [Instr.findAsking,Sem.run_bind,heq,Result.andThen_ok,if_true,Sem.run_pure,Nat.add_zero]
    | false =>
     rw [hb] at heq
     have bA:e.key ≠ .agg #[.int .i64 a,.int .i64 b]:=by
      rw [hk]
      intro e'
      simp only [Value.agg.injEq,Array.mk.injEq,List.cons.injEq,Value.int.injEq,true_and,and_true] at e'
      obtain ⟨rfl,rfl⟩:=e'
      simp at hb
     have aV:(Instr.findAsking kt (.agg #[.int .i64 a,.int .i64 b]) (e::r) i).run P w=(Instr.findAsking kt (.agg #[.int .i64 a,.int .i64 b]) r (i+1)).run P w:=by
      simp only [Instr.findAsking,Sem.run_bind,heq,Result.andThen_ok,Bool.false_eq_true,if_false]
     rcases ih (i+1) (fun e he=>sK e (by simp [he])) with ⟨q1,q2⟩ | ⟨j,e',q1,q2,q3⟩
     ·exact .inl ⟨aV.trans q1,fun e0 Ks=>by rcases List.mem_cons.1 Ks with rfl | Ks; exact bA; exact q2 _ Ks⟩
     ·exact .inr ⟨j+1,e',by rw [aV,q1]; congr 3; omega,by simpa using q2,q3⟩
  rw [run_findKey_eq w hw]
  rcases key es 0 sK with h1 | ⟨j,e,q1,q2,q3⟩
  ·exact .inl h1
  ·exact .inr ⟨j,e,by simpa using q1,q2,q3⟩
 ·obtain ⟨a,b,rfl⟩:=hv hk
  have:Instr.sameBits 10000 (.agg #[.int .i64 a,.int .i64 b]) (.agg #[.int .i64 a,.int .i64 b])=true:=by simp [Instr.sameBits]
  simp [Instr.keyThatStays,this]
end
end Go.TM
namespace Go.TM
open Go.RowKit
variable [cj]
theorem pH (ρ:Nat→AV):∀(k s:Nat),(bl ρ s k).length=k
 | 0,_=>rfl
 | k+1,s=>by simp [bl,pH ρ k]
theorem w3 (ρ:Nat→AV):∀(k s j:Nat) (v:AV),(bl ρ s k)[j]?=some v→v=ρ (s+j)
 | 0,_,j,v,h=>by simp [bl] at h
 | k+1,s,0,v,h=>by simp [bl] at h; exact h.symm
 | k+1,s,j+1,v,h=>by
  simp only [bl,List.getElem?_cons_succ] at h
  rw [w3 ρ k (s+1) j v h,Nat.add_right_comm,Nat.add_assoc]
section
variable {g:df} {n:Nat} {ρ:Nat→AV} {κ:Nat→ak} {a:Act} {w:World} {G:Gh}
theorem bT.HL (h:bT g n ρ κ a w G) {i b:Nat} {o:Obj} {bx:ak} (gS:bE G i (κ i) b) (PM:∀c,bE G i bx c→c=b) (qI:fP G (w.putObj b o) i bx) :
  bT g n ρ (gl κ i bx) a (w.putObj b o) G:=by
 have aK:b<w.heap.size:=gS.lt h.fit
 have T3:G.M b=none:=h.fit.own i b gS
 refine h.n3 (C:=fun j=>j=i) ⟨.refl G,fun _ _=>rfl,fun j hj=>ad _ _ hj,fun _ _=>⟨fun _ q=>q,fun _ _ _ _ q=>q⟩,fun c hc dj=>⟨eL _ _ (fun e=>dj i rfl (by rw [e]; exact gS)),rfl⟩,fun c o' hc=>?_,?_,?_,fun _ _ _ h1 h2 _ _=>h1.trans h2.symm,by rw [putObj_size]; exact Nat.le_refl _,rfl,rfl,rfl⟩ (fun _ _=>rfl)
 ·rw [eL _ _ (fun e=>by rw [e,T3] at hc; cases hc)]; exact h.fit.sub c o' hc
 ·rintro j rfl
  rw [aR]; exact qI
 ·rintro j c rfl ho
  rw [aR] at ho
  have:=PM c ho
  subst this
  exact ⟨.inr ⟨j,rfl,gS⟩,T3⟩
theorem bT.yw (h:bT g n ρ κ a w G) {i b:Nat} {rc:RC} {st:zA} {l:List AV} (hi:κ i=.eg rc st l) (hb:G.β i=some b) :
  ∃r:Loop,w.heap[b]?=some (.loop r)∧r.state=st.st∧r.pending=st.B3∧(∀L8:zA,bT g n ρ (gl κ i (.eg rc L8 l)) a (w.putObj b (.loop { r with state:=L8.st,pending:=L8.B3 })) G) ∧
   ∀o,bT g n ρ (gl κ i .dead) a (w.putObj b o) G:=by
 have hx:=h.fit.box i
 rw [hi] at hx
 obtain ⟨b',fn,tmps,D,h1,h2,h3⟩:=hx
 rw [hb] at h1; injection h1 with h1; subst h1
 have aK:b<w.heap.size:=(Array.getElem?_eq_some_iff.1 h2).1
 have gS:bE G i (κ i) b:=by rw [hi]; exact hb
 refine ⟨_,h2,rfl,rfl,fun L8=>h.HL gS (fun c hc=>?_) ⟨b,fn,tmps,D,hb,World.putObj_heap_same aK,h3⟩,fun o=>h.HL gS (fun c hc=>hc.elim) trivial⟩
 have lQ:G.β i=some c:=hc
 rw [hb] at lQ; injection lQ with lQ; exact lQ.symm
def df.upto (g:df) (m:Nat) (β:Nat→Option Nat):df:={ g with m:=m,β:=β,H:=fun i p=>if i<g.m then g.H i p else none }
theorem bT.upto (h:bT g n ρ κ a w G) (m:Nat):bT (g.upto m G.β) n ρ κ a w G:=by
 refine ⟨h.fit,h.env,h.size,h.wI,h.os,h.tape,h.output,h.grow,h.mem,h.lZ,h.fQ,fun _ _=>rfl,fun i _ p x hx=>?_,h.nA,h.qn⟩
 have vO:(if i<g.m then g.H i p else none)=some x:=hx
 split at vO
 ·rename_i hi; exact h.rE i hi p x vO
 ·cases vO
theorem bT.HN {β:Nat→Option Nat} {m:Nat} (h:bT (g.upto m β) n ρ κ a w G) (hm:g.m≤m) (hβ:∀i,i<g.m→β i=g.β i):bT g n ρ κ a w G:=by
 refine ⟨h.fit,h.env,h.size,h.wI,h.os,h.tape,h.output,h.grow,h.mem,h.lZ,h.fQ,fun i hi=>(h.ju i (Nat.lt_of_lt_of_le hi hm)).trans (hβ i hi),fun i hi p x hx=>h.rE i (Nat.lt_of_lt_of_le hi hm) p x ?_,h.nA,h.qn⟩
 show (if i<g.m then g.H i p else none)=some x
 rw [if_pos hi]; exact hx
theorem bT.enterLoop (h:bT g n ρ κ a w G) {nx:Nat} (hn:κ nx=.none) (c5:g.m≤nx) (rc:RC) (fn:FuncId) :
  bT g n ρ (gl κ nx (.eg rc .ready (bl ρ 0 n))) { a with defers:=mark w.heap.size::a.defers } ((w.alloc (.deferred (some []))).alloc (.loop { state:=.ready,pending:=none,fn:=fn,tmps:=a.tmps,params:=rc.ps,assign:=rc.as,body:=rc.bd,defers:=w.heap.size })) { G with β:=gl G.β nx (some (w.heap.size+1)) } ∧
   Gh.Le G { G with β:=gl G.β nx (some (w.heap.size+1)) }:=by
 have Nn:=h.fit.box nx
 rw [hn] at Nn
 generalize hr:({ state:=.ready,pending:=none,fn:=fn,tmps:=a.tmps,params:=rc.ps,assign:=rc.as,body:=rc.bd,defers:=w.heap.size }:Loop)=r
 have hle:Gh.Le G { G with β:=gl G.β nx (some (w.heap.size+1)) } :=
  ⟨Mem.Le.refl _,fun i b hb=>by
   by_cases e:i=nx
   ·subst e; rw [Nn.1] at hb; cases hb
   ·show gl G.β nx _ i=some b
    rw [ad _ _ e]; exact hb,fun _ _ _ _ _ q=>q⟩
 have aN:((w.alloc (.deferred (some []))).alloc (.loop r)).heap.size=w.heap.size+2:=by rw [World.size_alloc,World.size_alloc]
 have vU:∀b,b<w.heap.size→((w.alloc (.deferred (some []))).alloc (.loop r)).heap[b]?=w.heap[b]?:=fun b hb=>by
  rw [aP _ _ (by rw [World.size_alloc]; omega),aP _ _ hb]
 have M9:((w.alloc (.deferred (some []))).alloc (.loop r)).heap[w.heap.size]?=some (.deferred (some [])):=by
  rw [aP _ _ (by rw [World.size_alloc]; omega)]; exact bZ _ _
 have Sv:((w.alloc (.deferred (some []))).alloc (.loop r)).heap[w.heap.size+1]?=some (.loop r):=by
  have:=bZ (w.alloc (.deferred (some []))) (.loop r)
  rwa [World.size_alloc] at this
 have Sw:G.M.In ((w.alloc (.deferred (some []))).alloc (.loop r)):=(h.fit.sub.alloc _).alloc _
 have PN:∀b,w.heap.size≤b→G.M b=none:=fun b hb=>Mem.In.o7 h.fit.sub hb
 have nN:bJ { G with β:=gl G.β nx (some (w.heap.size+1)) } (bl ρ 0 n) a.tmps.toList:=by
  refine ⟨by rw [pH]; simp [h.size],fun j d v hd hv=>?_⟩
  have:=w3 ρ n 0 j d hd
  rw [Nat.zero_add] at this
  subst this
  have he:=(h.env j).mono hle
  have iE:a.tmps.getD j undef=v:=by
   rw [Array.getD_eq_getD_getElem?]
   rw [Array.getElem?_toList] at hv
   rw [hv]; rfl
  rw [iE] at he; exact he
 have st:=h.n3 (κ':=gl κ nx (.eg rc .ready (bl ρ 0 n))) (G':={ G with β:=gl G.β nx (some (w.heap.size+1)) }) (w':=(w.alloc (.deferred (some []))).alloc (.loop r)) (C:=fun j=>j=nx)
  ⟨hle,fun _ _=>rfl,fun j hj=>ad _ _ hj,fun j hj=>⟨fun x hx=>by
    have:gl G.β nx (some (w.heap.size+1)) j=some x:=hx
    rwa [ad _ _ hj] at this,fun _ _ _ _ q=>q⟩,fun b hb _=>⟨vU b hb,rfl⟩,Sw,by
    rintro j rfl
    rw [aR]
    exact ⟨w.heap.size+1,fn,a.tmps,w.heap.size,aR _ _ _,by rw [Sv,←hr]; rfl,nN⟩,by
    rintro j b rfl ho
    rw [aR] at ho
    have hb:some (w.heap.size+1)=some b:=by
     have:gl G.β j (some (w.heap.size+1)) j=some b:=ho
     rwa [aR] at this
    injection hb with hb
    exact ⟨.inl (by omega),PN b (by omega)⟩,fun _ _ _ h1 h2 _ _=>h1.trans h2.symm,by rw [aN]; omega,rfl,rfl,rfl⟩
  (fun i hi=>by
   show gl G.β nx _ i=G.β i
   exact ad _ _ (by omega))
 refine ⟨{ st with qn:=?_ },hle⟩
 obtain ⟨D,h1,h2,h3⟩:=h.qn
 have Nz:∀q,q∈D→q<w.heap.size:=fun q hq=>(Array.getElem?_eq_some_iff.1 (h3 q hq).1).1
 have key:∀i,∀q,q≤w.heap.size→bE { G with β:=gl G.β nx (some (w.heap.size+1)) } i (gl κ nx (.eg rc .ready (bl ρ 0 n)) i) q→bE G i (κ i) q:=by
  intro i q hq ho
  by_cases e:i=nx
  ·subst e
   rw [aR] at ho
   have:gl G.β i (some (w.heap.size+1)) i=some q:=ho
   rw [aR] at this
   injection this with this
   omega
  ·rw [ad _ _ e] at ho
   cases hk:κ i with
   | cells l=>rw [hk] at ho; have:gl G.β nx (some (w.heap.size+1)) i=some q:=ho; rwa [ad _ _ e] at this
   | eg rc st l=>rw [hk] at ho; have:gl G.β nx (some (w.heap.size+1)) i=some q:=ho; rwa [ad _ _ e] at this
   | iF a b c d f=>rw [hk] at ho; exact ho.imp id fun ho=>by have:gl G.β nx (some (w.heap.size+1)) i=some q:=ho; rwa [ad _ _ e] at this
   | _=>rw [hk] at ho; exact ho
 refine ⟨w.heap.size::D,by rw [List.map_cons,←h1],List.nodup_cons.2 ⟨fun hm=>Nat.lt_irrefl _ (Nz _ hm),h2⟩,fun q hq=>?_⟩
 rcases List.mem_cons.1 hq with rfl | hq
 ·exact ⟨M9,fun i ho=>Nat.lt_irrefl _ ((key i _ (Nat.le_refl _) ho).lt h.fit),PN _ (Nat.le_refl _),h.grow⟩
 ·obtain ⟨a1,a2,a3,a4⟩:=h3 q hq
  exact ⟨by rw [vU q (Nz q hq)]; exact a1,fun i ho=>a2 i (key i q (Nat.le_of_lt (Nz q hq)) ho),a3,a4⟩
end
end Go.TM
namespace Go.TM
open Go.RowKit
variable [cj]
theorem jc (i:Nat) (b:ak) (K:af):aa ((i,b)::K)=gl (aa K) i b:=by
 funext t
 simp only [aa,gl]
 by_cases h:t=i
 ·subst h; simp
 ·rw [if_neg h]; simp [beq_false h]
theorem pI {κ:Nat→ak}:∀{m:Nat},OV κ m=true→∀j,j<m→(κ j).pass=true
 | 0,_,j,hj=>by omega
 | m+1,h,j,hj=>by
  simp only [OV,Bool.and_eq_true] at h
  rcases Nat.lt_or_ge j m with aK | db
  ·exact pI h.2 j aK
  ·have:j=m:=by omega
   subst this; exact h.1
theorem CD (P:Program):wT P:=by
 intro g n nx env K a w x ps assign body Q R h hs hR
 obtain ⟨rc,rfl,h⟩:=h
 obtain ⟨⟨G,ai⟩,c5,hn⟩:=hs
 have core:∀(f:Nat) (bh:List AV) (vs:List Value),a.eval x=.func (.func f) #[] vs.toArray→bJ G bh vs →
   yk P nx env ((nx,.eg ⟨ps,assign,body⟩ .ready (bl (look env) 0 n))::K) f bh Q→(Code.rangeFunc x ps assign body).wpIn Fence.wide 0 P R a w:=by
  intro f bh vs hx nN hh
  obtain ⟨σ,ca,K0,ex,R0,cD,eG,Nu,GD,fX⟩:=hh
  refine wpIn_rangeFunc fun fn _=>?_
  obtain ⟨lR,hle⟩:=ai.enterLoop (hn nx (Nat.le_refl _)) c5 ⟨ps,assign,body⟩ fn
  rw [←jc] at lR
  have CE:=lR.upto (nx+1)
  have xR:∀i,i<g.m→gl G.β nx (some (w.heap.size+1)) i=g.β i:=fun i hi=>by rw [ad _ _ (by omega)]; exact ai.ju i hi
  simp only [Bool.and_eq_true] at eG
  have dr:bJ { G with β:=gl G.β nx (some (w.heap.size+1)) } (.fc nx::bh) (.func (.yield (w.heap.size+1)) #[] #[]::vs):=by
   have h1:bJ { G with β:=gl G.β nx (some (w.heap.size+1)) } [.fc nx] [.func (.yield (w.heap.size+1)) #[] #[]] :=
    ⟨rfl,fun j d v hd hv=>by
     cases j with
     | zero=>simp at hd hv; subst hd; subst hv; exact .fc nx _ (aR _ _ _)
     | succ j=>simp at hd⟩
   exact h1.append (nN.mono hle)
  obtain ⟨β,_,aV⟩:=kR (hd:=none) (nx:=nx+1) (κ:=aa ((nx,.eg ⟨ps,assign,body⟩ .ready (bl (look env) 0 n))::K)) (jb P f) cD.2
   (fun i hi=>by rw [jc,ad _ _ (by omega)]; exact hn i (by omega)) (by simp only [Bool.and_eq_true]; exact ⟨eG.1,rfl⟩) Nu GD (fun rs K1 hr=>(fX rs K1 hr).1) (pI eG.2) (Nat.le_refl _) CE dr (fun _ _=>rfl)
  refine ⟨w.heap.size+1,[mark w.heap.size],((w.alloc (.deferred (some []))).alloc (.loop { state:=.ready,pending:=none,fn:=fn,tmps:=a.tmps,params:=ps,assign:=assign,body:=body,defers:=w.heap.size })),⟨.fn (.func f) vs.toArray,#[.func (.yield (w.heap.size+1)) #[] #[]]⟩,((w.alloc (.deferred (some []))).alloc (.loop { state:=.ready,pending:=none,fn:=fn,tmps:=a.tmps,params:=ps,assign:=assign,body:=body,defers:=w.heap.size })),f,(Value.func (.yield (w.heap.size+1)) #[] #[]::vs).toArray,((w.alloc (.deferred (some []))).alloc (.loop { state:=.ready,pending:=none,fn:=fn,tmps:=a.tmps,params:=ps,assign:=assign,body:=body,defers:=w.heap.size })),run_enterLoop_outer fn a.tmps ps assign body,?_,fun _ _=>trivial,?_,(fun h=>by cases h),?_⟩
  ·have h0:(#[]++Array.map a.eval #[Operand.const (Value.func (Fn.yield (w.heap.size+1)) #[] #[])])=#[Value.func (Fn.yield (w.heap.size+1)) #[] #[]]:=by simp [Act.eval]
   simp only [resolve,rangeCall,hx,Deferred.ofValue,Sem.run_pure]
   rw [h0]
  ·have:(#[Value.func (.yield (w.heap.size+1)) #[] #[]]++vs.toArray)=(Value.func (.yield (w.heap.size+1)) #[] #[]::vs).toArray:=by simp
   simp only [invoke]
   rw [this]
   exact fR cD.1 _ _
  ·refine (fy.calls).2 (Calls.mono aV ?_)
   rintro e w2 ⟨v,rs,K2,G3,rfl,Vj,Eh,_⟩
   obtain ⟨OZ,hq⟩:=fX rs K2 Vj
   rw [kg] at hq
   rw [←eE] at Eh
   have wJ:∀i,nx+1+ex≤i→aa (sy (bP (sg σ (nx+1)) (iX (aa ((nx,.eg ⟨ps,assign,body⟩ .ready (bl (look env) 0 n))::K)) σ) K2++js (aa ((nx,.eg ⟨ps,assign,body⟩ .ready (bl (look env) 0 n))::K)) (di (aa ((nx,.eg ⟨ps,assign,body⟩ .ready (bl (look env) 0 n))::K)) (du (sg σ (nx+1)) dm ca) (.fc nx::bh)++dX (aa ((nx,.eg ⟨ps,assign,body⟩ .ready (bl (look env) 0 n))::K)) (bP (sg σ (nx+1)) dm K0))) ((nx,.eg ⟨ps,assign,body⟩ .ready (bl (look env) 0 n))::K)) i=.none:=by
    have Fg:∀i,nx+1≤i→aa ((nx,.eg ⟨ps,assign,body⟩ .ready (bl (look env) 0 n))::K) i=.none:=fun i hi=>by rw [jc,ad _ _ (by omega)]; exact hn i (by omega)
    refine iS Fg (Nat.le_add_right _ _) fun p hp=>?_
    have CA:kO (σ.length+ex) K2=true:=by
     have:=OZ
     simp only [fV,Bool.and_eq_true] at this
     exact this.1.1.2
    have hσ1:∀i,i∈σ→i<nx+1:=by
     have:=eG.1
     simp only [gF,Bool.and_eq_true] at this
     exact (gz this.1.1.1.1.1.1).1
    rcases List.mem_append.1 hp with hp | hp
    ·obtain ⟨j,h1,h2⟩:=ke (i:=p.1) (b:=p.2) hp
     have hj:=cV CA j h1
     rw [h2]
     rcases Nat.lt_or_ge j σ.length with aK | db
     ·have:=hσ1 _ (by rw [ig aK]; exact List.getElem_mem aK:sg σ (nx+1) j∈σ); omega
     ·rw [gR db]; omega
    ·have:=qu Fg hp; omega
   generalize Kt:sy (bP (sg σ (nx+1)) (iX (aa ((nx,.eg ⟨ps,assign,body⟩ .ready (bl (look env) 0 n))::K)) σ) K2++js (aa ((nx,.eg ⟨ps,assign,body⟩ .ready (bl (look env) 0 n))::K)) (di (aa ((nx,.eg ⟨ps,assign,body⟩ .ready (bl (look env) 0 n))::K)) (du (sg σ (nx+1)) dm ca) (.fc nx::bh)++dX (aa ((nx,.eg ⟨ps,assign,body⟩ .ready (bl (look env) 0 n))::K)) (bP (sg σ (nx+1)) dm K0))) ((nx,.eg ⟨ps,assign,body⟩ .ready (bl (look env) 0 n))::K)=K3 at *
   have vM:G3.β nx=some (w.heap.size+1):=(Eh.ju nx (Nat.lt_succ_self nx)).trans (aR _ _ _)
   have fin:∀(BU:RC) (st:zA) (l:List AV) (e:AX),aa K3 nx=.eg BU st l→st.st ≠ .busy→st.B3=mZ e→Q e (nx+1+ex) env ((nx,.dead)::K3)→rangePost Fence.wide 0 P (w.heap.size+1) R { a with defers:=[mark w.heap.size]++a.defers } (.returned v) w2:=by
    intro BU st l e hk hb hp hq
    obtain ⟨r,h1,h2,h3,_,HO⟩:=Eh.yw hk vM
    have Sx:=(HO (.loop { r with state:=.exhausted })).HN (Nat.le_succ_of_le c5) xR
    have Sy:wP g n (nx+1+ex) env ((nx,.dead)::K3) { a with defers:=[mark w.heap.size]++a.defers } (w2.putObj (w.heap.size+1) (.loop { r with state:=.exhausted })) :=
     ⟨⟨G3,by rw [jc]; exact Sx⟩,by omega,fun i hi=>by rw [jc,ad _ _ (by omega)]; exact wJ i hi⟩
    have lS:=hR e _ _ _ _ _ hq Sy
    refine ⟨r.pending,_,run_endLoop h1 (by rw [h2]; exact hb),?_⟩
    have zE:r.pending=mZ e:=h3.trans hp
    rw [zE] at lS
    rw [zE]
    cases e with
    | normal=>exact lS
    | ret=>exact wpIn_ret lS
    | exit i=>exact wpIn_exit lS
   unfold Ah at hq
   split at hq
   ·rename_i BU l hk; exact fin BU .ready l .normal hk (by simp [zA.st]) rfl hq
   ·rename_i BU e l hk; exact fin BU (.done e) l e hk (by simp [zA.st]) rfl hq
   ·exact hq.elim
 have hv:=wO (ρ:=look env) (κ:=aa K) (x:=x) (look env) (aa K) ⟨fun _ _=>rfl,fun _ _=>rfl⟩ g n a w G ai
 generalize hx:a.eval x=y at hv
 split at h
 ·rename_i f bh he
  rw [he] at hv
  cases hv with | fn _ _ vs hl hr=>exact core f bh vs hx ⟨hl,hr⟩ h
 ·rename_i f bh he
  rw [he] at hv
  cases hv with | dv hd=>cases hd with | fn _ _ vs hl hr=>exact core f _ vs hx (gx ⟨hl,hr⟩) h
 ·exact h.elim
theorem CF {n:Nat} {o:Oper} {q:Nat × List Operand} (h:D7 n o=some q):∃c:Call,o.op=.call c∧c.callee=.value (.func q.1)∧c.args.toList=q.2∧o.guard=none∧∀t,o.dst=some t→t<n:=by
 unfold D7 at h
 split at h
 ·rename_i c e1 e2
  split at h
  ·rename_i f e3 e4
   injection h with h; subst h
   exact ⟨c,e1,e3,rfl,e2,fun t ht=>by rw [e4] at ht; cases ht⟩
  ·rename_i f t e3 e4
   have hh:=Nh h; clear h; obtain ⟨hb,h⟩:=hh
   injection h with h; subst h
   exact ⟨c,e1,e3,rfl,e2,fun t' ht=>by rw [e4] at ht; injection ht with ht; subst ht; simpa using hb⟩
  ·cases h
 ·cases h
theorem Ku (P:Program):Cu P:=by
 intro g ops n nx env K a w o q k ho h hs F hF
 obtain ⟨c,Sz,tn,BR,aI,SA⟩:=CF ho
 refine ⟨aI,?_⟩
 obtain ⟨⟨G,ai⟩,c5,hn⟩:=hs
 obtain ⟨l,⟨σ,ca,K0,ex,R,cD,eG,Nu,GD,fX⟩,bj⟩:=iJ h
 rw [←BR] at bj
 have SB:=rI (P:=P) (ops:=ops) (o:=o) Sz tn bj
 simp only [Bool.and_eq_true] at eG
 obtain ⟨vs,dr,jC⟩:=ug (C:=fun _=>True) (n:=n) SB cD.1 0 (look env) (aa K) [] [] ⟨fun _ _=>rfl,fun _ _=>rfl,fun _ _=>rfl,fun _ _ _=>rfl⟩ g a w G trivial ai rfl
 obtain ⟨β,hβ,aV⟩:=kR (hd:=none) (nx:=nx) (jb P q.1) cD.2 hn (by simp only [Bool.and_eq_true]; exact ⟨eG.1,rfl⟩) Nu GD (fun rs K1 hr=>(fX rs K1 hr).1) (pI eG.2) c5 ai dr (fun _ _=>rfl)
 refine jC F hF β hβ _ (jb P q.1 _ _ _ _ _ ?_ aV)
 rintro e w2 ⟨v,rs,K1,G3,rfl,hR,Eh,hv⟩
 obtain ⟨OZ,hq⟩:=fX rs K1 hR
 rw [(eM (SizeOf.sizeOf (kB (sg σ nx) (iX (aa K) σ) (ic rs))+1)).1 _ _ (by omega),uf,kg,pF] at hq
 refine ⟨v,rfl,_,_,_,hq,⟨G3,?_⟩,Nat.le_trans c5 (Nat.le_add_right _ _),iS hn (Nat.le_add_right _ _) fun p hp=>?_⟩
 ·rw [←eE] at Eh
  cases hd:o.dst with
  | none=>exact Eh
  | some t =>
   have:=Eh.put (SA t hd) hv
   have e:look (Ng (some t) (kB (sg σ nx) (iX (aa K) σ) (ic rs)) env)=gl (look env) t (kB (sg σ nx) (iX (aa K) σ) (ic rs)):=by
    have:=iK [(t,kB (sg σ nx) (iX (aa K) σ) (ic rs))] env
    simpa [zZ,aq,Ng] using this
   rw [e]; exact this
 ·have CA:kO (σ.length+ex) K1=true:=by
   have:=OZ
   simp only [fV,Bool.and_eq_true] at this
   exact this.1.1.2
  have hσ1:∀i,i∈σ→i<nx:=by
   have:=eG.1
   simp only [gF,Bool.and_eq_true] at this
   exact (gz this.1.1.1.1.1.1).1
  rcases List.mem_append.1 hp with hp | hp
  ·obtain ⟨j,h1,h2⟩:=ke (i:=p.1) (b:=p.2) hp
   have hj:=cV CA j h1
   rw [h2]
   rcases Nat.lt_or_ge j σ.length with aK | db
   ·have:=hσ1 _ (by rw [ig aK]; exact List.getElem_mem aK:sg σ nx j∈σ); omega
   ·rw [gR db]; omega
  ·have:=qu hn hp; omega
theorem ay (P:Program):gP P:=⟨CD P,Ku P⟩
end Go.TM
namespace Go.TM
open Go.RowKit
variable [cj]
def sA:Nat→List AV→Env
 | _,[]=>[]
 | s,.any::r=>sA (s+1) r
 | s,v::r=>(s,v)::sA (s+1) r
theorem Ei:∀(l:List AV) (s t:Nat),t<s→look (sA s l) t=.any
 | [],_,_,_=>rfl
 | v::r,s,t,h=>by
  have ih:=Ei r (s+1) t (by omega)
  cases v <;> simp only [sA,look] <;> first | exact ih | (rw [beq_false (by omega)]; exact ih)
theorem w4:∀(l:List AV) (s j:Nat),look (sA s l) (s+j)=match l[j]? with | some v=>v | none=>.any
 | [],s,j=>by simp [sA,look]
 | v::r,s,0=>by
  have h0:=Ei r (s+1) s (by omega)
  cases v <;> simp only [sA,look,Nat.add_zero,Nat.beq_refl,cond_true,List.getElem?_cons_zero] <;> exact h0
 | v::r,s,j+1=>by
  have ih:=w4 r (s+1) j
  have e:s+(j+1)=s+1+j:=by omega
  cases v <;> simp only [sA,look,List.getElem?_cons_succ] <;> rw [e] <;> first | exact ih | (rw [beq_false (by omega)]; exact ih)
def Ar:List Nat→List AV→Env→Env
 | p::ps,v::vs,env=>Ar ps vs ((p,v)::env)
 | _,_,env=>env
def Ej (n:Nat):List Nat→Bool
 | []=>true
 | p::r=>Nat.blt p n && Ej n r
theorem w5 {n:Nat}:∀{l:List Nat},Ej n l=true→∀p,p∈l→p<n
 | [],_,p,h=>by simp at h
 | q::r,h,p,hp=>by
  simp only [Ej,Bool.and_eq_true,Nat.blt_eq] at h
  rcases List.mem_cons.1 hp with rfl | hp
  ·exact h.1
  ·exact w5 h.2 p hp
theorem Ek {G:Gh}:∀{ps:List Nat} {iA:List AV} {vs:List Value} {env:Env} {tmps:Array Value},(∀p,p∈ps→p<tmps.size)→bJ G iA vs→(∀t,aC G (look env t) (tmps.getD t undef)) →
  ∀t,aC G (look (Ar ps iA env) t) (((ps.zip vs).foldl (fun tm (pv:Nat × Value)=>tm.setIfInBounds pv.1 pv.2) tmps).getD t undef)
 | [],iA,vs,env,tmps,_,_,h,t=>by cases iA <;> simpa [Ar] using h t
 | p::ps,[],vs,env,tmps,_,hr,h,t=>by
  have:vs=[]:=by have:=hr.1; simpa using this.symm
  subst this
  simpa [Ar] using h t
 | p::ps,v::iA,[],env,tmps,_,hr,h,t=>by have:=hr.1; simp at this
 | p::ps,v::iA,x::vs,env,tmps,hp,hr,h,t=>by
  simp only [Ar,List.zip_cons_cons,List.foldl_cons]
  refine Ek (fun q hq=>by rw [Array.size_setIfInBounds]; exact hp q (by simp [hq])) ⟨by simpa using hr.1,fun j d y hd hy=>hr.2 (j+1) d y (by simpa using hd) (by simpa using hy)⟩ (fun t=>?_) t
  simp only [look]
  by_cases e:t=p
  ·subst e
   have:=hp t (by simp)
   simp only [Nat.beq_refl,cond_true,Array.getD_eq_getD_getElem?]
   rw [Array.getElem?_setIfInBounds_self_of_lt this]
   exact hr.2 0 v x rfl rfl
  ·rw [beq_false e,Array.getD_eq_getD_getElem?,Array.getElem?_setIfInBounds_ne (fun h=>e h.symm),←Array.getD_eq_getD_getElem?]
   exact h t
theorem Fu (ps:List (Nat × Value)):∀(tmps:Array Value),((ps.foldl (fun tm (pv:Nat × Value)=>tm.setIfInBounds pv.1 pv.2) tmps)).size=tmps.size:=by
 induction ps with
 | nil=>intro t; rfl
 | cons p r ih=>intro t; simp only [List.foldl_cons]; rw [ih,Array.size_setIfInBounds]
def SC:AX→Bool
 | .normal=>true
 | _=>false
def Mc:AX→zA
 | .normal=>.ready
 | e=>.done e
section
variable {P:Program} {T:List TI}
end
end Go.TM
namespace Go.TM
open Go.RowKit
variable [cj]
def J0 {γ:Type} (f:Nat→γ) (i:Nat) (x:γ):Nat→γ:=fun j=>Bool.casesOn (Nat.beq j i) (f j) x
def yx {γ:Type} (f:Nat→γ):List (Nat × γ)→Nat→γ
 | []=>f
 | p::r=>J0 (yx f r) p.1 p.2
inductive XR (α:Type):Type
 | ok (a:α)
 | no (Rh:List Nat)
def XR.bind {α β:Type} (x:XR α) (f:α→XR β):XR β:=XR.casesOn x f .no
def dF {α:Type} (b:Bool) (Rh:Nat) (x:XR α):XR α:=Bool.casesOn b (.no [Rh]) x
def cP {α:Type} (x:Option α) (Rh:Nat):XR α:=Option.casesOn x (.no [Rh]) .ok
def sB (a b:Int):Bool:=Int.casesOn a (fun m=>Int.casesOn b (fun n=>Nat.blt m n) (fun _=>false)) (fun m=>Int.casesOn b (fun _=>true) (fun n=>Nat.blt n m))
def Kv (a b:Int):Bool:=!(sB b a)
def El (a b:Int):Bool:=Int.casesOn a (fun m=>Int.casesOn b (fun n=>Nat.beq m n) (fun _=>false)) (fun m=>Int.casesOn b (fun _=>false) (fun n=>Nat.beq m n))
def J1 (a:Int):Bool:=Int.casesOn a (fun _=>true) (fun _=>false)
def wg {α:Type}:List α→Nat→Option α
 | [],_=>none
 | x::r,i=>Nat.casesOn i (some x) (fun i=>wg r i)
abbrev EN:=iP × Nat
def Md (κ:Nat→ak) (v:AV):XR AV:=match v with
 | .opt g v=>dF g 1 (.ok (res κ v))
 | v=>.ok v
def jU (ρ:Nat→AV) (κ:Nat→ak) (x:Operand):XR AV:=Md κ (ev ρ κ x)
def As (ρ:Nat→AV) (κ:Nat→ak):List Operand→XR (List AV)
 | []=>.ok []
 | x::r=>(jU ρ κ x).bind fun v=>(As ρ κ r).bind fun l=>.ok (v::l)
def qK (ρ:Nat→AV) (κ:Nat→ak):List (Nat × Operand)→XR (List (Nat × AV))
 | []=>.ok []
 | p::r=>(jU ρ κ p.2).bind fun v=>(qK ρ κ r).bind fun l=>.ok ((p.1,v)::l)
structure XV where
 v:AV
 bx:List (Nat × ak)
 rd:List Nat
 nx:Nat
def eU (nx:Nat) (v:AV):XR XV:=.ok ⟨v,[],[],nx⟩
def lU (n:Nat) (dst:Option Nat) (r:XV):XR EN:=match dst with
 | none=>.ok (⟨[],r.bx,r.rd⟩,r.nx)
 | some d=>dF (Nat.blt d n) 2 (.ok (⟨[(d,r.v)],r.bx,r.rd⟩,r.nx))
def Em (n:Int):Bool:=Int.casesOn n (fun m=>Nat.ble m 9223372036854775807) (fun m=>Nat.ble m 9223372036854775807)
def oz (k:IntKind) (n:Int):XR AV:=match k with
 | .i64=>dF (Em n) 3 (.ok (.dv (.int .i64 n)))
 | k=>.ok (.dv (.int k (k.wrap n)))
def fB (b:Bool):XR AV:=.ok (.dv (.bool b))
def Me (op:BinOp) (k:IntKind) (a b:Int):XR AV:=match op with
 | .add=>oz k (a+b)
 | .sub=>oz k (a - b)
 | .mul=>oz k (a * b)
 | .quo=>dF (!(El b 0)) 5 (oz k (a.tdiv b))
 | .rem=>dF (!(El b 0)) 5 (.ok (.dv (.int k (a.tmod b))))
 | .eql=>fB (El a b)
 | .neq=>fB (!(El a b))
 | .lss=>fB (sB a b)
 | .leq=>fB (Kv a b)
 | .gtr=>fB (sB b a)
 | .geq=>fB (Kv b a)
 | _=>.no [6]
def Mf (op:BinOp) (p q:Bool):XR AV:=match op with
 | .eql=>fB (p == q)
 | .neq=>fB (!(p == q))
 | _=>.no [8]
def Mg (op:BinOp) (s t:ByteArray):XR AV:=match op with
 | .eql=>fB (s.toList == t.toList)
 | .neq=>fB (!(s.toList == t.toList))
 | .add=>dF (decide (((s.size+t.size:Nat):Int)≤9223372036854775807)) 9 (.ok (.dv (.str (s++t))))
 | _=>.no [10]
def um (op:BinOp) (same:Bool):XR AV:=match op with
 | .eql=>fB same
 | .neq=>fB (!same)
 | _=>.no [12]
def DV.int?:DV→Option (IntKind × Int)
 | .int k n=>some (k,n)
 | _=>none
def AV.int?:AV→Option (IntKind × Int)
 | .dv d=>d.int?
 | _=>none
def DV.bool?:DV→Option Bool
 | .bool b=>some b
 | _=>none
def AV.bool?:AV→Option Bool
 | .dv d=>d.bool?
 | _=>none
def DV.yz:DV→Option ByteArray
 | .str s=>some s
 | _=>none
def AV.yz:AV→Option ByteArray
 | .dv d=>d.yz
 | _=>none
def DV.mA:DV→Bool
 | .c8=>true
 | _=>false
def AV.mA:AV→Bool
 | .dv d=>d.mA
 | _=>false
def DV.CG:DV→Option (IntKind × Int × Int)
 | .wF k lo hi=>some (k,lo,hi)
 | _=>none
def AV.CG:AV→Option (IntKind × Int × Int)
 | .dv d=>d.CG
 | _=>none
def NA (op:BinOp) (lo hi b:Int):Option Bool:=match op with
 | .lss=>wh (sB hi b) (!(sB lo b))
 | .leq=>wh (!(sB b hi)) (sB b lo)
 | .gtr=>wh (sB b lo) (!(sB b hi))
 | .geq=>wh (!(sB lo b)) (sB hi b)
 | .eql=>bif sB b lo || sB hi b then some false else none
 | .neq=>bif sB b lo || sB hi b then some true else none
 | _=>none
def NB (ti:TI) (op:BinOp) (x y:AV):XR AV:=match x.int? with
 | some a=>(cP y.int? 4).bind fun b=>dF (a.1 == b.1) 4 (Me op a.1 a.2 b.2)
 | none=>match x.CG with
  | some t=>(cP y.int? 14).bind fun b=>dF (t.1 == b.1) 14 ((cP (NA op t.2.1 t.2.2 b.2) 14).bind fB)
  | none=>match x.bool? with
   | some p=>(cP y.bool? 7).bind fun q=>dF (ti.ok && Nat.beq ti.kind 1) 7 (Mf op p q)
   | none=>match x.yz with
    | some s=>(cP y.yz 11).bind fun t=>Mg op s t
    | none=>dF (y.mA && (ti.ok && Nat.beq ti.kind 5)) 13 (match x.mA with
     | true=>um op true
     | false=>dF (nP x) 15 (um op false))
def rY:DV→List PS→XR DV
 | d,[]=>.ok d
 | d,s::p=>match step d s with
  | some c=>rY c p
  | none=>.no [18]
def rZ:DV→List PS→DV→XR DV
 | _,[],n=>.ok n
 | d,s::p,n=>match step d s with
  | some c=>(rZ c p n).bind fun c'=>.ok (put d s c')
  | none=>.no [25]
def HP (κ:Nat→ak) (i ver ep:Nat) (p:List PS):XR (Nat × DV):=match κ i with
 | .tree aT bz d=>dF (Nat.beq ver aT && (emp p || Nat.beq ep bz)) 32 (.ok (bz,d))
 | _=>.no [33]
structure XN where
 ep:Nat
 d:DV
 n:DV
def kh (κ:Nat→ak) (i ver ep:Nat) (p:List PS):XR XN:=(HP κ i ver ep p).bind fun t=>(rY t.2 p).bind fun n=>.ok ⟨t.1,t.2,n⟩
def DV.CH:DV→Option (Nat × List DV)
 | .ar sz l=>some (sz,l)
 | _=>none
def DV.En:DV→Option (KS × List DV)
 | .omap s m=>some (s,m)
 | _=>none
def DV.HQ:DV→Option DV
 | .dG x=>some x
 | _=>none
def uo (agg:Bool) (l:List AV) (off n:Nat):XR AV:=match agg with
 | true=>dF (Nat.ble (off+n) l.length) 16 (.ok (.agg ((l.drop off).take n)))
 | false=>cP (wg l off) 17
def ne {α:Type}:List α→Bool
 | []=>false
 | _::_=>true
def kS (x:DV):Bool:=x.cells.all fun d=>!d.ae
def iL:List DV→Bool
 | []=>true
 | x::r=>kS x && iL r
structure XL where
 sz:Nat
 l:List DV
 rd:List Nat
 kill:List Nat
def HR (d:DV):XR (Option XL):=match d with
 | .sl sz l=>.ok (some ⟨sz,l,[],[]⟩)
 | .aD=>.ok none
 | _=>.no [36]
def HS (κ:Nat→ak) (v:AV):XR (Option XL):=match v with
 | .dv d=>HR d
 | .own i ver ep p=>(kh κ i ver ep p).bind fun t=>(cP t.n.CH 35).bind fun q=>match iL q.2 with
  | true=>.ok (some ⟨q.1,q.2,[i],[]⟩)
  | false=>dF (emp p) 34 (.ok (some ⟨q.1,q.2,[i],[i]⟩))
 | _=>.no [36]
def At (ti:TI) (n:Nat):Bool:=Nat.ble (n * ti.bytes) 140737488355328 && Nat.ble n 9223372036854775807
def isFull:AV→Bool
 | .bM _ _=>true
 | _=>false
def yA (ti:TI) (nx:Nat) (x:Option XL):XR XV:=match x with
 | none=>eU nx (.dv .aD)
 | some q=>dF (Nat.beq q.sz ti.size && At ti q.l.length) 38 (.ok ⟨.own nx 0 0 [],(nx,.tree 0 0 (.ar q.sz q.l))::dM q.kill,nx::q.rd,nx+1⟩)
def HU (ti:TI) (nx i ver:Nat) (p:List PS) (t:XN) (sz:Nat) (l:List DV) (q:XL):XR XV:=dF (!fJ i q.rd) 41 (match p with
 | []=>.ok ⟨.own i (ver+1) 0 [],(i,.tree (ver+1) 0 (.ar sz (l++q.l)))::dM q.kill,i::q.rd,nx⟩
 | s::p=>(rZ t.d (s::p) .any).bind fun d'=>.ok ⟨.own nx 1 0 [],(nx,.tree 1 0 (.ar sz (l++q.l)))::(i,.tree ver (t.ep+1) d')::dM q.kill,nx::i::q.rd,nx+1⟩)
def HV (nx i ver:Nat) (p:List PS) (t:XN) (sz:Nat) (l:List DV):XR XV:=match p with
 | []=>.ok ⟨.own i (ver+1) 0 [],[(i,.tree (ver+1) 0 (.ar sz l))],[i],nx⟩
 | s::p=>(rZ t.d (s::p) .any).bind fun d'=>.ok ⟨.own nx 0 0 [],[(nx,.tree 0 0 (.ar sz l)),(i,.tree ver (t.ep+1) d')],[nx,i],nx+1⟩
def Eo (ti:TI) (nx:Nat) (full:Bool) (i ver:Nat) (p:List PS) (t:XN) (sz:Nat) (l:List DV) (x:Option XL):XR XV:=match x with
 | none=>HV nx i ver p t sz l
 | some q=>dF (Nat.beq q.sz sz && At ti (l.length+q.l.length)) 40 (match full && ne q.l && !ne q.kill && iL l && iL q.l with
  | true=>.ok ⟨.own nx 0 0 [],[(nx,.tree 0 0 (.ar sz (l++q.l)))],nx::i::q.rd,nx+1⟩
  | false=>HU ti nx i ver p t sz l q)
def ia:DV→Bool
 | .aD=>true
 | _=>false
def yB (ti te:TI) (nx:Nat) (κ:Nat→ak) (s x:AV):XR XV :=
 dF (ti.ok && ti.isSl && te.ok && Nat.blt 0 te.size) 37 ((HS κ (dn x)).bind fun src=>match dn s with
  | .dv d=>dF (ia d) 43 (yA te nx src)
  | .own i ver ep p=>(kh κ i ver ep p).bind fun t=>(cP t.n.CH 42).bind fun q=>dF (Nat.beq q.1 te.size) 39 (Eo te nx (isFull s) i ver p t q.1 q.2 src)
  | _=>.no [43])
def Mh (ti:TI) (d:DV):XR Nat:=match d with
 | .sl _ l=>dF (ti.ok && ti.isSl) 44 (.ok l.length)
 | .aD=>dF (ti.ok && ti.isSl) 44 (.ok 0)
 | .str s=>dF (ti.ok && ti.isStr) 44 (.ok s.size)
 | _=>.no [46]
def Mi (ti:TI) (n:DV):XR Nat:=match n with
 | .ar _ l=>dF (ti.ok && ti.isSl) 44 (.ok l.length)
 | .omap _ m=>dF (ti.ok && Nat.beq ti.kind 6) 44 (.ok m.length)
 | _=>.no [45]
def HW (nx:Nat) (n:Nat) (rd:List Nat):XR XV:=.ok ⟨.dv (.int .i64 n),[],rd,nx⟩
def NC (ti:TI) (nx:Nat) (κ:Nat→ak) (v:AV):XR XV:=match v with
 | .dv d=>(Mh ti d).bind fun n=>HW nx n []
 | .own i ver ep p=>(kh κ i ver ep p).bind fun t=>(Mi ti t.n).bind fun n=>HW nx n [i]
 | .sle _ m=>dF (ti.ok && ti.isSl) 44 (HW nx m [])
 | _=>.no [46]
def Mj (d:DV):XR Bool:=match d with
 | .aD=>.ok true
 | .sl _ l=>dF (ne l) 88 (.ok false)
 | _=>.no [88]
def ND (ti:TI) (κ:Nat→ak) (v:AV):XR (Bool × List Nat):=dF (ti.ok && ti.isSl) 87 (match v with
 | .dv d=>(Mj d).bind fun b=>.ok (b,[])
 | .own i ver ep p=>(kh κ i ver ep p).bind fun t=>(cP t.n.CH 88).bind fun q=>dF (ne q.2) 88 (.ok (false,[i]))
 | .bM _ _=>.ok (false,[])
 | .sle _ _=>.ok (false,[])
 | _=>.no [89])
def oA (i ver ep:Nat) (p:List PS) (sz idx:Nat) (nd:DV):XR (List AV):=match nd with
 | .ar oe l=>dF (Nat.beq sz oe) 47 ((cP (wg l idx) 48).bind fun x=>.ok (jd i ver ep p idx 0 x.cells))
 | .dG x=>dF (Nat.beq idx 0) 49 (.ok (jd i ver ep p 0 0 x.cells))
 | _=>.no [50]
def yC (x:DV) (off:Nat) (ds:List DV):XR DV:=match x with
 | .agg l=>dF (Nat.ble (off+ds.length) l.length) 51 (.ok (.agg (kT l off ds)))
 | _=>match off,ds with
  | 0,[d]=>.ok d
  | _,_=>.no [52]
def CI (sz idx off:Nat) (nd:DV) (ds:List DV):XR (List DV × DV):=match nd with
 | .ar oe l=>dF (Nat.beq sz oe) 53 ((cP (wg l idx) 54).bind fun x=>(yC x off ds).bind fun y=>.ok ((x.cells.drop off).take ds.length,.ar oe (l.set idx y)))
 | .dG x=>dF (Nat.beq idx 0) 55 ((yC x off ds).bind fun y=>.ok ((x.cells.drop off).take ds.length,.dG y))
 | _=>.no [56]
def yD (nx:Nat) (κ:Nat→ak) (i ver ep:Nat) (p:List PS) (sz idx off:Nat) (vs:List AV):XR XV :=
 (kh κ i ver ep p).bind fun t=>(cP (pJ κ vs) 58).bind fun q=>dF (!(fJ i q.2 || !ey q.2)) 57 ((CI sz idx off t.n q.1).bind fun on=>(rZ t.d p on.2).bind fun d' =>
  .ok ⟨.any,(i,.tree ver (bif ez on.1 || ez q.1 then t.ep+1 else t.ep) d')::nQ κ q.2,i::q.2,nx⟩)
def AV.wi (v:AV):Option Int:=match v.int? with
 | some (.i64,n)=>some n
 | _=>none
def xI (ρ:Nat→AV) (κ:Nat→ak) (x:Option Operand):XR (Option Int):=match x with
 | none=>.ok none
 | some x=>(jU ρ κ x).bind fun v=>(cP v.wi 59).bind fun n=>.ok (some n)
def HX (lo hi:Option Int) (len:Nat):Bool:=J1 (lo.getD 0) && Kv (lo.getD 0) (hi.getD len) && Kv (hi.getD len) len
def PO (lo hi:Option Int) (l:List DV):List DV:=(l.take (hi.getD l.length).toNat).drop (lo.getD 0).toNat
def Ep (ti:TI) (vP nx:Nat) (d:DV) (lo hi:Option Int):XR XV:=match d with
 | .sl sz l=>dF (ti.isSl && Nat.beq sz vP && HX lo hi l.length) 60 (eU nx (.dv (.sl sz (PO lo hi l))))
 | .str s=>dF (ti.isStr && HX lo hi s.size) 63 (eU nx (.dv (.str (s.extract (lo.getD 0).toNat (hi.getD s.size).toNat))))
 | _=>.no [64]
def yE (ti:TI) (vP nx:Nat) (κ:Nat→ak) (v:AV) (lo hi:Option Int):XR XV:=match v with
 | .dv d=>Ep ti vP nx d lo hi
 | .own i ver ep p=>dF (emp p) 62 ((kh κ i ver ep []).bind fun t=>(cP t.n.CH 62).bind fun q=>dF (ti.isSl && Nat.beq q.1 vP && HX lo hi q.2.length) 61 (
   .ok ⟨.own i (ver+1) 0 [],[(i,.tree (ver+1) 0 (.ar q.1 (PO lo hi q.2)))],[i],nx⟩))
 | _=>.no [64]
def NF (ti:TI):Option KS:=bif ti.ok && ti.B6 == some .i64 then some Fs else bif ti.ok && ti.isStr then some Ny else bif ti.ok && ti.pair then some dL else none
def HY:s7→s7→Bool
 | .int k,.int k'=>k == k'
 | .bool,.bool=>true
 | .str,.str=>true
 | _,_=>false
def qL:List s7→List s7→Bool
 | [],[]=>true
 | a::l,b::r=>HY a b && qL l r
 | _,_=>false
def Kw (a b:KS):Bool:=(a.agg == b.agg) && qL a.tags b.tags
def Er (ti:TI) (s:KS):Bool:=match NF ti with
 | some s'=>Kw s s'
 | none=>false
def w6:List AV→Option (List DV)
 | []=>some []
 | .dv d::r=>match w6 r with
  | some l=>some (d::l)
  | none=>none
 | _=>none
def Fv:AV→Option DV
 | .dv d=>bif d.isAgg then none else some d
 | .agg l=>match w6 l with
  | some ds=>some (.agg ds)
  | none=>none
 | _=>none
def yF (te:TI) (i ver ep:Nat) (p:List PS) (key:DV) (c b:Bool) (x:DV) (nx:Nat):XR XV:=dF (x.isAgg == te.agg) 66 (
 .ok ⟨bif c then .eJ [eN.nR te.agg (je i ver ep p key 0 x.cells),.dv (.bool b)] else eN.nR te.agg (je i ver ep p key 0 x.cells),[],[i],nx⟩)
def yG (tk te:TI) (nx:Nat) (κ:Nat→ak) (v kv:AV) (c:Bool):XR XV:=match v with
 | .own i ver ep p=>(kh κ i ver ep p).bind fun t=>(cP t.n.En 68).bind fun q=>(cP (Fv kv) 68).bind fun key=>dF (Er tk q.1 && q.1.ok key) 65 (match bC q.2 key with
  | some x=>yF te i ver t.ep p key c true x nx
  | none=>yF te i ver t.ep p key c false te.uq nx)
 | _=>.no [69]
def kU:AV→Bool
 | .agg _=>true
 | _=>false
def nr (m:List DV) (key:DV):Bool:=match bC m key with
 | some x=>kS x
 | none=>true
def yH (tk:TI) (nx:Nat) (κ:Nat→ak) (v kv u:AV):XR XV:=match v with
 | .own i ver ep p=>(kh κ i ver ep p).bind fun t=>(cP t.n.En 74).bind fun q=>(cP (Fv kv) 74).bind fun key=>dF (Er tk q.1 && q.1.ok key) 70 (
   (cP (pJ κ (cellsOf u)) 73).bind fun w=>dF (!(fJ i w.2 || !ey w.2 || !bI (cellsOf u))) 71 (
    dF ((gr (kU u) w.1).isAgg == kU u && Nat.beq (gr (kU u) w.1).cells.length w.1.length) 72 (
     (rZ t.d p (.omap q.1 (ef q.2 key (gr (kU u) w.1)))).bind fun d' =>
      .ok ⟨.any,(i,.tree ver (bif kS (gr (kU u) w.1) && nr q.2 key then t.ep else t.ep+1) d')::dM w.2,i::w.2,nx⟩)))
 | _=>.no [75]
def wj (agg:Bool) (sz:Nat):Nat→List DV→List DV
 | 0,_=>[]
 | k+1,l=>gr agg (l.take sz)::wj agg sz k (l.drop sz)
end Go.TM
