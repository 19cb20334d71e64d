import Derived.Test.YtmojfblpbcficaaGreatDoorUM40
import Derived.Test.YtmojfblpbcficaaGreatDoorUM42
set_option linter.all false
open Go.TM.oA Go.TM.oB Go.TM.oC Go.TM.oD Go.TM.oE
namespace Go.Proofs.YtmojfblpbcficaaGreatDoor
set_option maxRecDepth 100000
set_option maxHeartbeats 8000000
section
open Go.TM
def acG(R:RL):List AV:=.dv (I R.sh)::ed gE++[.own 8 0 0 [],.own 9 0 0 [],.own 10 0 0 []]
def UW(R:RL):ae:=[(7,.cells (acG R)),(8,.tree 0 0 (.aD 3 (R.st.map fB))),(9,.tree 0 0 (.aD 11 (R.fl.map aG))),(10,.tree 0 0 (.aD 7 (R.sp.map aC)))]
variable [bp]
theorem J6{P:PL}{R:RL}(h:Inv P R):aj Tryz.prog 18 [.ptr 0 0,.ptr 7 0] 11 (gY P++UW R) 0 [.dv (B true)] (gY P++UW R):=by
 have hG:=h.fj
 have kP:=hG.fl
 have ak:=hG.st
 have jv:=hG.sp
 have q1:=B4 P (by rw[h.sp];omega)
 rw[h.sp]at q1
 have q2:=BV R (by omega)
 have q3:=wy P (by rw[h.fl];omega) (by rw[h.fl];exact fun f hf=>by have:=hG.AP f hf;omega)
 rw[h.fl]at q3
 have q4:=Gv R.fl (by omega) fun f hf=>by have:=hG.AP f hf;omega
 have q5:=GH P (by rw[h.sp];omega) (by rw[h.sp];exact fun s hs=>⟨by have:=(h.YD s hs).1;omega,fun m hm=>by have:=(h.YD s hs).2 m hm;omega⟩)
 rw[h.sp]at q5
 have q6:=Jv R.sp (by omega) fun s hs=>⟨by have:=(h.YD s hs).1;omega,fun m hm=>by have:=(h.YD s hs).2 m hm;omega⟩
 have Io:P.st.length<=R.st.length:=by
  rw[h.perm.length_eq];exact List.length_filter_le _ _
 have ux:∀p∈P.st,p∈R.st:=fun p hp=>(List.mem_filter.1 (h.perm.mem_iff.1 hp)).1
 have q7:=JZ P (tM R.st) (fun l' h1 h2=>h.hold l' h1 h2) (by omega) fun p hp=>⟨by have:=(hG.nF p (ux p hp)).2;omega,fun x hx=>j5 ((hG.nF p (ux p hp)).1 x hx)⟩
 have q8:=JB R (by omega) fun p hp=>by have:=(hG.nF p hp).2;omega
 have q9:=Jx (tM R.st) (by
  have:=(He R.st).2.length_eq
  rw[WY]at this
  have h2:=List.length_filter_le (fun p:Ky×List Lt=>decide (br p.2≠0)) R.st
  omega)
 have e0:(eC R.sp !=eC R.sp)=false:=bne_self_eq_false _
 generalize eC R.sp=nw at*
 refine cO Tryz.func18 rfl (by kernel_rfl) ?_
 refine .inr (cl [0,1,2,3,4,5,6] q1 (by kernel_rfl) rfl rfl ?_)
 refine .inr (cl [7,8,9,10] q2 (by kernel_rfl) rfl rfl ?_)
 repeat refine gG ?_
 conv=>whnf
 rw[e0]
 refine .inr (cl [0,1,2,3,4,5,6] q3 (by kernel_rfl) rfl rfl ?_)
 refine⟨by kernel_rfl,?_⟩
 repeat refine gG ?_
 refine Or.inl (Or.inl ?_)
 refine⟨[B true],fun _=>⟨[.sl 11 (R.fl.map aG),.sl 11 (R.fl.map aG)],⟨rf,qi 11 (fun _=>rfl),tv⟩,q4⟩,rfl,?_⟩
 repeat refine gG ?_
 refine .inr (cl [0,1,2,3,4,5,6] q5 (by kernel_rfl) rfl rfl ?_)
 refine⟨by kernel_rfl,?_⟩
 repeat refine gG ?_
 refine Or.inl (Or.inl ?_)
 refine⟨[B true],fun _=>⟨[.sl 7 (R.sp.map aC),.sl 7 (R.sp.map aC)],⟨rf,qi 7 (fun _=>rfl),tv⟩,q6⟩,rfl,?_⟩
 repeat refine gG ?_
 refine .inr (cl [0,1,2,3,4,5,6] q7 (by kernel_rfl) rfl rfl ?_)
 refine⟨by kernel_rfl,?_⟩
 repeat refine gG ?_
 refine .inr (cl [7,8,9,10] q8 (by kernel_rfl) rfl rfl ?_)
 refine⟨by kernel_rfl,?_⟩
 repeat refine gG ?_
 conv=>whnf
 refine Or.inl ?_
 refine⟨_,fun _=>q9.ok,?_⟩
 repeat refine gG ?_
 refine⟨by kernel_rfl,T5 (fun h=>by cases h) fun _=>?_⟩
 have hk:=fun k=>hG.mB k
 have q10:∀a i,aj Tryz.prog 55 [.ptr 0 0,.dv (I a),.dv (I i)] 7 (gY P) 0 [.dv (I (br (aW R.st (a,i))))] (gY P):=fun a i=>by
  have:=Nr P a i (by rw[h.mB];have:=(hk (a,i)).2;omega) (by rw[h.mB];exact fun x hx=>j5 ((hk (a,i)).1 x hx))
  rw[h.mB,<-kq (dF (hk (a,i)).1 (by have:=(hk (a,i)).2;omega))]at this
  exact this
 have q11:=fun a i=>BT R a i (by omega) (by have:=(hk (a,i)).2;omega)
 have q12:∀a i,aj Tryz.prog 19 [.ptr 0 0,.dv (I a),.dv (I i)] 7 (gY P) 0 [.dv (aM (aW R.st (a,i)))] (gY P):=fun a i=>by
  have:=mE P a i (by rw[h.mB];have:=(hk (a,i)).2;omega)
  rw[h.mB]at this
  exact this
 have q13:=fun a i=>gj R a i (by omega)
 have q14:=fun a i=>kX (aW R.st (a,i)) (by have:=(hk (a,i)).2;omega)
 have q15:∀i,aj Tryz.prog 11 [.ptr 0 0,.dv (I i)] 7 (gY P) 0 [.dv (I (bK R.st i))] (gY P):=fun i=>by
  have:=wx P i
  rw[h.b9]at this
  exact this
 have q16:=fun i=>wi R i (by omega) fun p hp=>by have:=(hG.nF p hp).2;omega
 refine⟨Nat,fun a=>⟨11,[(0,.ptr 0 0),(1,.ptr 7 0),(5,.dv (I a))],gY P++UW R⟩,fun a=>a<=7,fun a=>7-a,0,fun _=>rfl,jn rfl rfl rfl rfl,by omega,?_⟩
 rintro a ha
 refine T5 (fun h=>?_) fun h=>?_
 rotate_left
 ·exact ext (by kernel_rfl) rfl rfl
 have au:a<7:=by have:=adz h;omega
 refine⟨Nat,fun i=>⟨11,[(0,.ptr 0 0),(1,.ptr 7 0),(5,.dv (I a)),(6,.dv (I ((i:Int)-1)))],gY P++UW R⟩,fun i=>i<=7,fun i=>7-i,0,fun _=>rfl,jn rfl rfl rfl rfl,by omega,?_⟩
 rintro i hi
 have BL:((y7 (I 2) (I 20)).length:Int)=5:=rfl
 refine⟨fun _=>by rw[BL];omega,T5 (fun h=>?_) fun h=>?_⟩
 rotate_left
 ·exact⟨fun _=>by omega,a+1,jn rfl rfl rfl rfl,by omega,mlt au⟩
 have iN:i<7:=by have:=adz h;rw[BL]at this;omega
 have nx:I ((i:Int)-1+1)=I (((i+1:Nat):Int)-1):=by congr 1;omega
 refine .inr (cl [0,1,2,3,4,5,6] (q10 a _) (by kernel_rfl) rfl rfl ?_)
 refine .inr (cl [7,8,9,10] (q11 a _) (by kernel_rfl) rfl rfl ?_)
 have e1:(br (aW R.st ((a:Int),(i:Int)-1))!=br (aW R.st ((a:Int),(i:Int)-1)))=false:=bne_self_eq_false _
 repeat refine gG ?_
 conv=>whnf
 rw[e1]
 refine .inr (cl [0,1,2,3,4,5,6] (q12 a _) (by kernel_rfl) rfl rfl ?_)
 refine⟨by kernel_rfl,?_⟩
 repeat refine gG ?_
 refine .inr (cl [7,8,9,10] (q13 a _) (by kernel_rfl) rfl rfl ?_)
 refine⟨by kernel_rfl,?_⟩
 repeat refine gG ?_
 conv=>whnf
 refine Or.inl ?_
 refine⟨_,fun _=>(q14 a _).ok,?_⟩
 repeat refine gG ?_
 cases e2:((a:Int)==0)with
 |true=>
  conv=>whnf
  refine .inr (cl [0,1,2,3,4,5,6] (q15 _) (by kernel_rfl) rfl rfl ?_)
  refine⟨by kernel_rfl,?_⟩
  repeat refine gG ?_
  refine .inr (cl [7,8,9,10] (q16 _) (by kernel_rfl) rfl rfl ?_)
  refine⟨by kernel_rfl,?_⟩
  repeat refine gG ?_
  have e3:(bK R.st ((i:Int)-1)!=bK R.st ((i:Int)-1))=false:=bne_self_eq_false _
  refine T5 (fun h=>?_) fun _=>?_
  ·rw[e3]at h;cases h
  exact⟨fun _=>by omega,i+1,jn (by simp only[nx];rfl) rfl rfl rfl,iN,mlt iN⟩
 |false=>
  conv=>whnf
  refine Or.inl ⟨by kernel_rfl,[I 0],(fun h=>by cases h),rfl,?_⟩
  repeat refine gG ?_
  conv=>whnf
  refine Or.inl ⟨by kernel_rfl,[I 0],(fun h=>by cases h),rfl,?_⟩
  repeat refine gG ?_
  refine T5 (fun h=>?_) fun _=>?_
  ·cases h
  exact⟨fun _=>by omega,i+1,jn (by simp only[nx];rfl) rfl rfl rfl,iN,mlt iN⟩
end
section
open Go.TM
def acH(sh:Int):ae:=abG sh++[(7,.cells (.dv (I sh)::ed gE++[.dv .ax,.dv .ax,.dv .ax]))]
theorem YM{sh:Int}(h:0<=sh/\sh<=11):Inv ⟨sh,[],[],[],[],[],[]⟩ ⟨sh,[],[],[]⟩where
 fj:=⟨h,by simp,by simp,List.nodup_nil,by simp,fun p hp=>(by cases hp),fun it=>(by simp[bK]),fun f hf=>(by cases hf)⟩
 sh:=rfl
 fl:=rfl
 sp:=rfl
 nk:=⟨List.nodup_nil,List.nodup_nil,List.nodup_nil,List.nodup_nil⟩
 ret g:=rfl
 dx:=⟨fun p hp=>(by cases hp),fun i f hf=>(by cases hf),fun f hf=>(by cases hf),fun f hf=>(by cases hf),fun p hp=>(by cases hp)⟩
 st k:=rfl
 b9 j:=rfl
 imp g:=rfl
 step f hf:=by cases hf
 ZE:=by simp
 YD s hs:=by cases hs
 now:=by simp[eC]
variable [bp]
theorem Cg(n:Int):aj Tryz.prog 13 [.dv (I n)] 0 [] 8 [.ptr 5 0,.ptr 7 0,.dv (B true)] (acH (fC n 12)):=by
 have hb:=qU n 12 (by omega)
 refine cO Tryz.func13 rfl (by kernel_rfl) ?_
 refine .inl ⟨_,fun _=>(wv n 12 (by omega) (by omega)).ok,?_⟩
 refine .inl ⟨_,fun _=>y8.ok,?_⟩
 refine .inr (cl [] (NN (fC n 12) ⟨hb.1,by omega⟩) (by kernel_rfl) rfl rfl ?_)
 refine .inl ⟨_,fun _=>y8.ok,?_⟩
 refine .inr (cl [] (No (fC n 12) ⟨hb.1,by omega⟩) (by kernel_rfl) rfl rfl ?_)
 repeat refine gG ?_
 exact ext (by kernel_rfl) rfl rfl
end
section
open Go.TM
def Ek(R:RL)(n k:List Int)(i:Nat):cJ:=if pick k i 5=0 then oK R n (6*i)else qo R n (6*i)
variable [bp]
theorem YN{P:PL}{R:RL}(h:Inv P R)(n k:List Int)(i:Nat):fA R (Ek R n k i):=by
 unfold Ek
 split
 ·exact Hh h.fj h.dx n _
 ·exact LZ (LY R n _ h.fj.sh)
inductive FO(P:PL)(R:RL)(s:cJ):PL->RL->Prop
 |no (e:Int):aj Tryz.prog 15 [.ptr 0 0,cH (aC s)] 7 (gY P) 0 [.dv (I 0),.dv (I e)] (gY P)->(aj Tryz.prog 16 [.ptr 0 0,cH (aC s)] 4 (de R) 0 [.dv (I 0),.dv (I e)] (de R)\/aj Tryz.prog 16 [.ptr 0 0,cH (aC s)] 4 (de R) 5 [.dv (I 0),.dv (I e)] (rlY R))->FO P R s P R
 |yes (a:Int) (P':PL) (R':RL):aj Tryz.prog 15 [.ptr 0 0,cH (aC s)] 7 (gY P) 0 [.dv (I a),.dv (I 0)] (zQ 1 1 P')->aj Tryz.prog 16 [.ptr 0 0,cH (aC s)] 4 (de R) 5 [.dv (I a),.dv (I 0)] (jG 1 1 1 R')->FO P R s P' R'
theorem El{P:PL}{R:RL}{i:Nat}(h:Inv P R)(jv:R.sp.length<=i)(hi:i<40){s:cJ}(hs:fA R s):∃x:PL×RL,Inv x.1 x.2/\x.2.sp.length<=i+1/\(x.2=R\/pj R s=0/\x.2=LW R s)/\FO P R s x.1 x.2:=by
 rcases qZ xG h (by omega) hs with⟨_,h1,h2⟩|⟨h0,P',hI,h1,h2⟩
 ·exact⟨(P,R),h,Nat.le_succ_of_le jv,.inl rfl,.no _ h1 h2⟩
 ·exact⟨(P',LW R s),hI,by show(R.sp++[_]).length<=_;rw[adv];show _+1<=_;omega,.inr ⟨h0,rfl⟩,.yes _ _ _ h1 h2⟩
end
section
open Go.TM
variable [bp]
theorem J7(R:RL)(n:List Int)(p:Int)(hp:0<=p/\p<=1000)(jv:R.sp.length<=40)(kP:R.fl.length<=160)(ak:R.st.length<=160)(Od:∀f∈R.fl,1<=f.n/\f.n<=1099511627776)(hs:∀q∈R.st,q.2.length<=160/\∀y∈q.2,1<=y.n/\y.n<=1099511627776/\0<=y.a/\y.a<=1099511627776):aj Tryz.prog 17 [.ptr 0 0,.dv (Ints n),.dv (I p)] 4 (de R) 0 [cH (aC (oK R n p))] (de R):=by
 have cW:=fun(l:List Int) (i:Int) {m:Int} (hm:1<=m)=>gC l i m hm
 have lp:(R.sp.map aC).length=R.sp.length:=WY ..
 have lf:(R.fl.map aG).length=R.fl.length:=WY ..
 have bt:0<=(R.sp.length:Int).tdiv 2/\(R.sp.length:Int).tdiv 2<=900000:=by rw[Int.tdiv_eq_ediv_of_nonneg (by omega)];omega
 unfold oK
 rw[<-lp]at bt⊢
 refine cO Tryz.func17 rfl (by kernel_rfl) ?_
 refine⟨fun _ h=>(by cases h),fun _=>by omega,?_⟩
 refine .inl ⟨_,fun _=>(aU n p 3 (by omega) (by omega)).ok,?_⟩
 refine T5 (fun h=>?_) fun h=>?_
 ·have hc:pick n p 3=0:=beq_iff_eq.1 h
  rw[if_pos hc]
  refine⟨Nat,fun i=>⟨6,[(0,.ptr 0 0),(1,.dv (Ints n)),(2,.dv (I p)),(6,.ptr 4 0),(7,.ptr 5 0),(8,.dv (I i))],de R++[(4,.cells (ed (nth kp 42).zero)),(5,.cells (ed (aC ⟨0,9,9,((R.sp.map aC).length:Int).tdiv 2,-1,0,Cd R.fl n p i⟩).cells))]⟩,fun i=>i<=R.fl.length,fun i=>R.fl.length-i,0,fun _=>rfl,?_,adx _,?_⟩
  ·refine⟨⟨rfl,rf,rf,rfl,rfl,rf,tv⟩,?_,rfl,rfl⟩
   repeat' first|exact trivial|rfl|exact rf|exact DV.aI 5|refine T5 ?_ ?_
  intro i hi
  refine T5 (fun h=>?_) fun h=>?_
  ·have au:i<R.fl.length:=by have:=adz h;omega
   obtain⟨f,hf⟩:∃f,R.fl[i]?=some f:=⟨_,IF au⟩
   have hm:=ab6 hf
   have im:(R.fl.map aG)[(i:Int).toNat]?=some (aG f):=by rw[abW];simp[hf]
   refine⟨fun _=>by omega,aG f,fun _=>im,?_⟩
   have hb:=Od f hm
   repeat refine gG ?_
   refine⟨fun _=>by omega,?_⟩
   repeat refine gG ?_
   refine⟨fun _ h=>(by cases h),?_⟩
   have b4:-4<(i:Int).tmod 4/\(i:Int).tmod 4<4:=⟨Int.lt_tmod_of_pos _ (by omega),Int.tmod_lt_of_pos _ (by omega)⟩
   repeat refine gG ?_
   refine⟨fun _=>by omega,?_⟩
   repeat refine gG ?_
   refine .inl ⟨_,fun _=>(aU n (p+1+(i:Int).tmod 4) 2 (by omega) (by omega)).ok,?_⟩
   repeat refine gG ?_
   refine T5 (fun hc=>?_) fun hc=>?_
   ·have e:=abr hf hc
    have q2:=cW n (p+2) hb.1
    have q3:=cW n (p+3) (m:=f.n-pick n (p+2) f.n) (by omega)
    have q4:=cW n (p+4) (m:=4) (by omega)
    refine⟨fun _=>by omega,?_⟩
    refine .inl ⟨_,fun _=>(aU n (p+2) f.n (by omega) (by omega)).ok,?_⟩
    refine⟨fun _=>by omega,fun _=>by omega,?_⟩
    refine .inl ⟨_,fun _=>(aU n (p+3) (f.n-pick n (p+2) f.n) (by omega) (by omega)).ok,?_⟩
    refine⟨fun _=>by omega,fun _=>by omega,?_⟩
    refine .inl ⟨_,fun _=>(aU n (p+4) 4 (by omega) (by omega)).ok,?_⟩
    refine⟨fun _=>by omega,?_⟩
    refine .inl ⟨[aA ⟨f.id,pick n (p+2) f.n,1+pick n (p+3) (f.n-pick n (p+2) f.n)⟩],rfl,⟨rf,rf,rf,tv⟩,(by simp;rfl),?_⟩
    refine .inl ⟨[ao (J0 f n p)],rfl,⟨rf,rf,rf,rf,rf,tv⟩,(by simp;rfl),?_⟩
    refine⟨by kernel_rfl,fun _=>by omega,i+1,jn rfl (by simp only[e];rfl) rfl rfl,au,mlt au⟩
   ·have e:=abt hf hc
    exact⟨fun _=>by omega,i+1,jn rfl (by simp only[e];rfl) rfl rfl,au,mlt au⟩
  ·obtain rfl:i=R.fl.length:=by have:=adA h;omega
   exact ext (by kernel_rfl) rfl rfl
 ·have hc:pick n p 3≠0:=beq_eq_false_iff_ne.1 h
  rw[if_neg hc]
  have ls:(R.st.map fB).length=R.st.length:=WY ..
  refine T5 (fun h=>?_) fun h=>?_
  ·have hz:R.st=[]:=by have:=beq_iff_eq.1 h;exact List.length_eq_zero_iff.1 (by omega)
   have e:SU R n p=[]:=by unfold SU;rw[hz];rfl
   rw[e]
   exact⟨_,_,⟨rfl,rfl⟩,by kernel_rfl,⟨⟨rf,rf,rf,rf,rf,rf,DV.aI 5,tv⟩,tv⟩,aV (k:=de R) rfl⟩
  have hn:1<=R.st.length:=by have:=beq_eq_false_iff_ne.1 h;omega
  have b1:=cW n (p+1) (m:=R.st.length) (by omega)
  obtain⟨⟨ky,l⟩,hq⟩:∃q,R.st[(pick n (p+1) R.st.length).toNat]?=some q:=⟨_,IF (by omega)⟩
  have iq:(R.st.map fB)[(pick n (p+1) R.st.length).toNat]?=some (fB (ky,l)):=by rw[abW,hq];rfl
  obtain⟨hl,hy⟩:=hs _ (ab6 hq)
  simp only at hl hy
  have e0:SU R n p=match l[(pick n (p+2) l.length).toNat]? with
   |none=>[]
   |some y=>[vE ky y n p]:=by unfold SU;rw[hq];rfl
  rw[<-ls]at b1 iq
  refine⟨fun _=>by omega,?_⟩
  refine .inl ⟨_,fun _=>(aU n (p+1) (R.st.map fB).length (by omega) (by omega)).ok,?_⟩
  refine⟨fun _=>by omega,fB (ky,l),fun _=>iq,?_⟩
  refine⟨by kernel_rfl,?_⟩
  have ll:(l.map aA).length=l.length:=WY ..
  refine T5 (fun h=>?_) fun h=>?_
  ·have hz:l=[]:=by have:=beq_iff_eq.1 h;exact List.length_eq_zero_iff.1 (by simp only at this;omega)
   have e:SU R n p=[]:=by rw[e0,hz];rfl
   rw[e]
   exact⟨_,_,⟨rfl,rfl⟩,by kernel_rfl,⟨⟨rf,rf,rf,rf,rf,rf,DV.aI 5,tv⟩,tv⟩,aV (k:=de R) rfl⟩
  have HU:1<=l.length:=by have:=beq_eq_false_iff_ne.1 h;simp only at this;omega
  have b2:=cW n (p+2) (m:=l.length) (by omega)
  obtain⟨y,SN⟩:∃y,l[(pick n (p+2) l.length).toNat]?=some y:=⟨_,IF (by omega)⟩
  have iy:(l.map aA)[(pick n (p+2) l.length).toNat]?=some (aA y):=by rw[abW,SN];rfl
  have e:SU R n p=[vE ky y n p]:=by rw[e0,SN]
  have hb:=hy y (ab6 SN)
  rw[e]
  rw[<-ll]at b2 iy
  refine⟨fun _=>by omega,?_⟩
  refine .inl ⟨_,fun _=>(aU n (p+2) (l.map aA).length (by omega) (by omega)).ok,?_⟩
  refine⟨aA y,fun _=>⟨by omega,iy⟩,?_⟩
  refine⟨by kernel_rfl,?_⟩
  have q3:=cW n (p+3) hb.1
  have q4:=cW n (p+4) (m:=y.n-pick n (p+3) y.n) (by omega)
  have q5:=cW n (p+5) (m:=4) (by omega)
  refine⟨fun _=>by omega,?_⟩
  refine .inl ⟨_,fun _=>(aU n (p+3) y.n (by omega) (by omega)).ok,?_⟩
  refine⟨fun _=>by omega,fun _=>by omega,?_⟩
  refine .inl ⟨_,fun _=>(aU n (p+4) (y.n-pick n (p+3) y.n) (by omega) (by omega)).ok,?_⟩
  refine⟨fun _=>by omega,fun _=>by omega,?_⟩
  refine .inl ⟨_,fun _=>(aU n (p+5) 4 (by omega) (by omega)).ok,?_⟩
  refine⟨fun _=>by omega,?_⟩
  refine .inl ⟨[aA ⟨y.f,y.a+pick n (p+3) y.n,1+pick n (p+4) (y.n-pick n (p+3) y.n)⟩],rfl,⟨rf,rf,rf,tv⟩,(by simp;rfl),?_⟩
  refine .inr (.inl ⟨[ao ⟨ky.1,pick n (p+5) 4,ky.2,1+pick n (p+4) (y.n-pick n (p+3) y.n),[⟨y.f,y.a+pick n (p+3) y.n,1+pick n (p+4) (y.n-pick n (p+3) y.n)⟩]⟩],rfl,⟨rf,rf,rf,rf,rf,tv⟩,(by simp;rfl),?_⟩)
  refine⟨by kernel_rfl,?_⟩
  refine⟨fun _=>⟨by omega,by simp⟩,_,fun _=>rfl,?_⟩
  refine⟨by kernel_rfl,?_⟩
  refine T5 (fun h=>?_) fun h=>?_
  ·have h:pick n (p+5) 4=ky.1:=beq_iff_eq.1 h
   have e2:vE ky y n p=⟨ky.1,0,ky.2,1+pick n (p+4) (y.n-pick n (p+3) y.n),[⟨y.f,y.a+pick n (p+3) y.n,1+pick n (p+4) (y.n-pick n (p+3) y.n)⟩]⟩:=by unfold vE;rw[if_pos h]
   rw[e2]
   refine⟨fun _=>⟨by omega,by simp⟩,[I 0],⟨rf,tv⟩,_,rfl,?_⟩
   exact⟨_,_,⟨rfl,rfl⟩,by kernel_rfl,⟨⟨rf,rf,rf,rf,rf,rf,rf,tv⟩,tv⟩,aV (k:=de R) rfl⟩
  ·have e2:vE ky y n p=⟨ky.1,pick n (p+5) 4,ky.2,1+pick n (p+4) (y.n-pick n (p+3) y.n),[⟨y.f,y.a+pick n (p+3) y.n,1+pick n (p+4) (y.n-pick n (p+3) y.n)⟩]⟩:=by unfold vE;rw[if_neg (beq_eq_false_iff_ne.1 h)]
   rw[e2]
   exact⟨_,_,⟨rfl,rfl⟩,by kernel_rfl,⟨⟨rf,rf,rf,rf,rf,rf,rf,tv⟩,tv⟩,aV (k:=de R) rfl⟩
end
section
open Go.TM
variable [bp]
theorem R3{P:PL}{R:RL}(h:Inv P R)(n:List Int)(p:Int)(hp:0<=p/\p<=1000):aj Tryz.prog 17 [.ptr 0 0,.dv (Ints n),.dv (I p)] 4 (de R) 0 [cH (aC (oK R n p))] (de R):=
 J7 R n p hp h.fj.sp h.fj.fl (by have:=h.fj.st;have:=h.fj.fl;omega) (fun f hf=>(h.dx.fn f hf).1) fun q hq=>⟨by have:=(h.fj.nF q hq).2;have:=h.fj.fl;omega,fun y hy=>by have:=ai.1 ((h.fj.nF q hq).1 y hy);omega⟩
end
end Go.Proofs.YtmojfblpbcficaaGreatDoor
