import Derived.Test.YtpbiiigpphehbaaGreatDoorFM47
import Derived.Test.YtpbiiigpphehbaaGreatDoorFM54
set_option linter.all false
namespace Go.Proofs.YtpbiiigpphehbaaGreatDoor
set_option maxRecDepth 100000
set_option maxHeartbeats 8000000
section
open Go.TM
def Z1(sh:Int):ae:=[(1,.tree 0 0 (.omap ey [])),(2,.tree 0 0 (.omap cC [])),(3,.tree 0 0 (.omap cC [])),(4,.tree 0 0 (.omap cC [])),(5,.cells (.dv (I sh)::eB iO++[.own 1 0 0 [],.own 2 0 0 [],.dv .az,.dv .az,.own 3 0 0 [],.own 4 0 0 []]))]
variable [bJ]
theorem Mz(sh:Int)(h:0<=sh/\sh<=11):aq Tryz.prog 16 [.dv (I sh),cJ FC] 0 [] 6 [.ptr 5 0,.dv (I 0)] (Z1 sh):=by
 refine cO Tryz.func16 rfl (by kernel_rfl) ?_
 repeat first|apply g1|apply g2|apply g3|apply g4|apply g5
 refine aby (fun hc=>?_) fun _=>?_
 ·simp[bw]at hc;omega
 refine .inl ⟨_,fun _=>yT.ok,?_⟩
 refine aby (fun h=>by cases h) fun _=>?_
 refine .inl ⟨_,fun _=>Br.ok,?_⟩
 refine⟨ey,cC,cC,cC,?_⟩
 refine⟨_,_,⟨rfl,rfl⟩,by kernel_rfl,⟨rfl,rf,tv⟩,?_⟩
 repeat' first|exact trivial|rfl|exact rf|exact zk|refine aby ?_ ?_
end
section
open Go.TM
def aa0(R:RL):List AV:=.dv (I R.sh)::eB iO++[.own 8 0 0 [],.own 9 0 0 [],.own 10 0 0 []]
def Tc(R:RL):ae:=[(7,.cells (aa0 R)),(8,.tree 0 0 (.aB 3 (R.st.map gy))),(9,.tree 0 0 (.aB 11 (R.fl.map aM))),(10,.tree 0 0 (.aB 7 (R.sp.map aC)))]
variable [bJ]
theorem rW{P:PL}{R:RL}(h:Inv P R):aq Tryz.prog 10 [.ptr 0 0,.ptr 7 0] 11 (fG P++Tc R) 0 [.dv (B true)] (fG P++Tc R):=by
 have hG:=h.mg
 have oe:=hG.fl
 have aj:=hG.st
 have l6:=hG.sp
 have q1:=BK P (by rw[h.sp];omega)
 rw[h.sp]at q1
 have q2:=BD R (by omega)
 have q3:=F3 P (by rw[h.fl];omega) (by rw[h.fl];exact fun f hf=>by have:=hG.MR f hf;omega)
 rw[h.fl]at q3
 have q4:=FT R.fl (by omega) fun f hf=>by have:=hG.MR f hf;omega
 have q5:=F4 P (by rw[h.sp];omega) (by rw[h.sp];exact fun s hs=>⟨by have:=(h.Wt s hs).1;omega,fun m hm=>by have:=(h.Wt s hs).2 m hm;omega⟩)
 rw[h.sp]at q5
 have q6:=Iy R.sp (by omega) fun s hs=>⟨by have:=(h.Wt s hs).1;omega,fun m hm=>by have:=(h.Wt s hs).2 m hm;omega⟩
 have Hx:P.st.length<=R.st.length:=by
  rw[h.perm.length_eq];exact List.length_filter_le _ _
 have si:∀p∈P.st,p∈R.st:=fun p hp=>(List.mem_filter.1 (h.perm.mem_iff.1 hp)).1
 have q7:=I0 P (tr R.st) (fun l' h1 h2=>h.hold l' h1 h2) (by omega) fun p hp=>⟨by have:=(hG.pD p (si p hp)).2;omega,fun x hx=>lR ((hG.pD p (si p hp)).1 x hx)⟩
 have q8:=ID R (by omega) fun p hp=>by have:=(hG.pD p hp).2;omega
 have q9:=IA (tr R.st) (by
  have:=(Gs R.st).2.length_eq
  rw[abz]at this
  have h2:=List.length_filter_le (fun p:Ky×List Lt=>decide (bQ p.2≠0)) R.st
  omega)
 have e0:(eC R.sp !=eC R.sp)=false:=bne_self_eq_false _
 generalize eC R.sp=nw at*
 refine cO Tryz.func10 rfl (by kernel_rfl) ?_
 refine .inr (cl [0,1,2,3,4,5,6] q1 (by kernel_rfl) rfl rfl ?_)
 refine .inr (cl [7,8,9,10] q2 (by kernel_rfl) rfl rfl ?_)
 repeat first|apply g1|apply g2|apply g3|apply g4|apply g5
 conv=>whnf
 rw[e0]
 refine .inr (cl [0,1,2,3,4,5,6] q3 (by kernel_rfl) rfl rfl ?_)
 refine⟨by kernel_rfl,?_⟩
 repeat first|apply g1|apply g2|apply g3|apply g4|apply g5
 refine Or.inl (Or.inl ?_)
 refine⟨[B true],fun _=>⟨[.sl 11 (R.fl.map aM),.sl 11 (R.fl.map aM)],⟨rf,pH 11 (fun _=>rfl),tv⟩,q4⟩,rfl,?_⟩
 repeat first|apply g1|apply g2|apply g3|apply g4|apply g5
 refine .inr (cl [0,1,2,3,4,5,6] q5 (by kernel_rfl) rfl rfl ?_)
 refine⟨by kernel_rfl,?_⟩
 repeat first|apply g1|apply g2|apply g3|apply g4|apply g5
 refine Or.inl (Or.inl ?_)
 refine⟨[B true],fun _=>⟨[.sl 7 (R.sp.map aC),.sl 7 (R.sp.map aC)],⟨rf,pH 7 (fun _=>rfl),tv⟩,q6⟩,rfl,?_⟩
 repeat first|apply g1|apply g2|apply g3|apply g4|apply g5
 refine .inr (cl [0,1,2,3,4,5,6] q7 (by kernel_rfl) rfl rfl ?_)
 refine⟨by kernel_rfl,?_⟩
 repeat first|apply g1|apply g2|apply g3|apply g4|apply g5
 refine .inr (cl [7,8,9,10] q8 (by kernel_rfl) rfl rfl ?_)
 refine⟨by kernel_rfl,?_⟩
 repeat first|apply g1|apply g2|apply g3|apply g4|apply g5
 conv=>whnf
 refine Or.inl ?_
 refine⟨_,fun _=>q9.ok,?_⟩
 repeat first|apply g1|apply g2|apply g3|apply g4|apply g5
 refine⟨by kernel_rfl,aby (fun h=>by cases h) fun _=>?_⟩
 have hk:=fun k=>hG.wG k
 have q10:∀a i,aq Tryz.prog 36 [.ptr 0 0,.dv (I a),.dv (I i)] 7 (fG P) 0 [.dv (I (bQ (cr R.st (a,i))))] (fG P):=fun a i=>by
  have:=Mh P a i (by rw[h.wG];have:=(hk (a,i)).2;omega) (by rw[h.wG];exact fun x hx=>lR ((hk (a,i)).1 x hx))
  rw[h.wG,<-pE (gK (hk (a,i)).1 (by have:=(hk (a,i)).2;omega))]at this
  exact this
 have q11:=fun a i=>BB R a i (by omega) (by have:=(hk (a,i)).2;omega)
 have q12:∀a i,aq Tryz.prog 38 [.ptr 0 0,.dv (I a),.dv (I i)] 7 (fG P) 0 [.dv (aS (cr R.st (a,i)))] (fG P):=fun a i=>by
  have:=pK P a i (by rw[h.wG];have:=(hk (a,i)).2;omega)
  rw[h.wG]at this
  exact this
 have q13:=fun a i=>fU R a i (by omega)
 have q14:=fun a i=>mT (cr R.st (a,i)) (by have:=(hk (a,i)).2;omega)
 have q15:∀i,aq Tryz.prog 40 [.ptr 0 0,.dv (I i)] 7 (fG P) 0 [.dv (I (dp R.st i))] (fG P):=fun i=>by
  have:=vU P i
  rw[h.b8]at this
  exact this
 have q16:=fun i=>vM R i (by omega) fun p hp=>by have:=(hG.pD p hp).2;omega
 refine⟨Nat,fun a=>⟨11,[(0,.ptr 0 0),(1,.ptr 7 0),(5,.dv (I a))],fG P++Tc R⟩,fun a=>a<=7,fun a=>7-a,0,fun _=>rfl,jn rfl rfl rfl rfl,by omega,?_⟩
 rintro a ha
 refine aby (fun h=>?_) fun h=>?_
 rotate_left
 ·exact ext (by kernel_rfl) rfl rfl
 have au:a<7:=by have:=abQ h;omega
 refine⟨Nat,fun i=>⟨11,[(0,.ptr 0 0),(1,.ptr 7 0),(5,.dv (I a)),(6,.dv (I ((i:Int)-1)))],fG P++Tc R⟩,fun i=>i<=7,fun i=>7-i,0,fun _=>rfl,jn rfl rfl rfl rfl,by omega,?_⟩
 rintro i hi
 have AE:((yR (I 2) (I 20)).length:Int)=5:=rfl
 refine⟨fun _=>by rw[AE];omega,aby (fun h=>?_) fun h=>?_⟩
 rotate_left
 ·exact⟨fun _=>⟨by omega,by omega⟩,a+1,jn rfl rfl rfl rfl,by omega,mlt au⟩
 have me:i<7:=by have:=abQ h;rw[AE]at this;omega
 have nx:I ((i:Int)-1+1)=I (((i+1:Nat):Int)-1):=by congr 1;omega
 refine .inr (cl [0,1,2,3,4,5,6] (q10 a _) (by kernel_rfl) rfl rfl ?_)
 refine .inr (cl [7,8,9,10] (q11 a _) (by kernel_rfl) rfl rfl ?_)
 have e1:(bQ (cr R.st ((a:Int),(i:Int)-1))!=bQ (cr R.st ((a:Int),(i:Int)-1)))=false:=bne_self_eq_false _
 repeat first|apply g1|apply g2|apply g3|apply g4|apply g5
 conv=>whnf
 rw[e1]
 refine .inr (cl [0,1,2,3,4,5,6] (q12 a _) (by kernel_rfl) rfl rfl ?_)
 refine⟨by kernel_rfl,?_⟩
 repeat first|apply g1|apply g2|apply g3|apply g4|apply g5
 refine .inr (cl [7,8,9,10] (q13 a _) (by kernel_rfl) rfl rfl ?_)
 refine⟨by kernel_rfl,?_⟩
 repeat first|apply g1|apply g2|apply g3|apply g4|apply g5
 conv=>whnf
 refine Or.inl ?_
 refine⟨_,fun _=>(q14 a _).ok,?_⟩
 repeat first|apply g1|apply g2|apply g3|apply g4|apply g5
 cases e2:((a:Int)==0)with
 |true=>
  conv=>whnf
  refine .inr (cl [0,1,2,3,4,5,6] (q15 _) (by kernel_rfl) rfl rfl ?_)
  refine⟨by kernel_rfl,?_⟩
  repeat first|apply g1|apply g2|apply g3|apply g4|apply g5
  refine .inr (cl [7,8,9,10] (q16 _) (by kernel_rfl) rfl rfl ?_)
  refine⟨by kernel_rfl,?_⟩
  repeat first|apply g1|apply g2|apply g3|apply g4|apply g5
  have e3:(dp R.st ((i:Int)-1)!=dp R.st ((i:Int)-1))=false:=bne_self_eq_false _
  refine aby (fun h=>?_) fun _=>?_
  ·rw[e3]at h;cases h
  exact⟨fun _=>⟨by omega,by omega⟩,i+1,jn (by simp only[nx];rfl) rfl rfl rfl,me,mlt me⟩
 |false=>
  conv=>whnf
  refine Or.inl ⟨by kernel_rfl,[I 0],(fun h=>by cases h),rfl,?_⟩
  repeat first|apply g1|apply g2|apply g3|apply g4|apply g5
  conv=>whnf
  refine Or.inl ⟨by kernel_rfl,[I 0],(fun h=>by cases h),rfl,?_⟩
  repeat first|apply g1|apply g2|apply g3|apply g4|apply g5
  refine aby (fun h=>?_) fun _=>?_
  ·cases h
  exact⟨fun _=>⟨by omega,by omega⟩,i+1,jn (by simp only[nx];rfl) rfl rfl rfl,me,mlt me⟩
end
section
open Go.TM
def aa1(sh:Int):ae:=Z1 sh++[(7,.cells (.dv (I sh)::eB iO++[.dv .az,.dv .az,.dv .az]))]
theorem Z2{sh:Int}(h:0<=sh/\sh<=11):Inv ⟨sh,[],[],[],[],[],[]⟩ ⟨sh,[],[],[]⟩where
 mg:=⟨h,by simp,by simp,List.nodup_nil,by simp,fun p hp=>(by cases hp),fun it=>(by simp[dp]),fun f hf=>(by cases hf)⟩
 sh:=rfl
 fl:=rfl
 sp:=rfl
 nk:=⟨List.nodup_nil,List.nodup_nil,List.nodup_nil⟩
 ret:=rfl
 st k:=rfl
 b8 j:=rfl
 imp g:=rfl
 step f hf:=by cases hf
 fll:=by simp
 Wt s hs:=by cases hs
 now:=by simp[eC]
variable [bJ]
theorem MA(n:Int):aq Tryz.prog 5 [.dv (I n)] 0 [] 8 [.ptr 5 0,.ptr 7 0,.dv (B true)] (aa1 (cV n 12)):=by
 have hb:=uY n 12 (by omega)
 refine cO Tryz.func5 rfl (by kernel_rfl) ?_
 refine .inl ⟨_,fun _=>(vR n 12 (by omega) (by omega)).ok,?_⟩
 refine .inl ⟨_,fun _=>yS.ok,?_⟩
 refine .inr (cl [] (Mz (cV n 12) ⟨hb.1,by omega⟩) (by kernel_rfl) rfl rfl ?_)
 refine .inl ⟨_,fun _=>yS.ok,?_⟩
 refine .inr (cl [] (Me (cV n 12) ⟨hb.1,by omega⟩) (by kernel_rfl) rfl rfl ?_)
 repeat first|apply g1|apply g2|apply g3|apply g4|apply g5
 exact ext (by kernel_rfl) rfl rfl
end
section
open Go.TM
def Out(sh g:Int):Prop:=0<=g/\g<=9223372036854775807/\(g-sh*4294967296<0\/1000<=g-sh*4294967296)
structure NX(sh:Int)(s:dJ):Prop where
 len:1<=s.mv.length/\s.mv.length<=3
 aD:oC s.aD
 mv:(s.kind=5/\∃m g,s.mv=[m]/\m.fr=0/\m.n=3/\m.ps=[⟨g,0,3⟩]/\Out sh g)\/(mc s.kind=false/\∀m∈s.mv,m.ps=[])
theorem NX.one{sh a t kd fr to it n:Int}(hk:mc kd=false):NX sh (u9 a t kd fr to it n []):=
 ⟨⟨by simp[u9],by simp[u9]⟩,by unfold oC;simp[u9],.inr ⟨hk,fun m hm=>by simp only[u9,abF]at hm;subst hm;rfl⟩⟩
theorem Td(R:RL)(n:List Int)(p:Int)(hs:0<=R.sh/\R.sh<=11):NX R.sh (zG R n p):=by
 unfold zG
 have b3:=Kr n (p+3) 4 (by omega)
 have b4:=Kr n (p+4) 9 (by omega)
 split
 ·exact⟨⟨by simp,by simp⟩,by unfold oC;simp,.inr ⟨rfl,fun m hm=>by
   simp only[abG,List.mem_nil_iff,or_false]at hm
   rcases hm with rfl|rfl<;>rfl⟩⟩
 split
 ·refine⟨⟨by simp,?_⟩,by unfold oC;simp,.inr ⟨rfl,fun m hm=>?_⟩⟩
  ·simp only[List.length_cons];split<;>simp
  ·simp only[abG]at hm
   rcases hm with rfl|hm
   ·rfl
   ·split at hm
    ·rw[abF]at hm;subst hm;rfl
    ·cases hm
 split
 ·exact NX.one rfl
 split
 ·exact NX.one rfl
 split
 ·have hr:1+pick n (p+3) 4=1\/1+pick n (p+3) 4=2\/1+pick n (p+3) 4=3\/1+pick n (p+3) 4=4:=by omega
  generalize 1+pick n (p+3) 4=r at hr
  have key:∀(r:Int) (f:Bool) (x:Sv),(r=1\/r=2\/r=3\/r=4)->x.tk.length+x.bk.length<=3/\x.tk.length+x.gv.length<=3/\1<=x.tk.length->∀a t tm,NX R.sh ⟨0,4,a,t,bif f then -2-r else r,tm,vS a tm x.tk++vT a tm (bif f then x.bk else x.gv)⟩:=by
   intro r f x hr h1 a t tm
   refine⟨⟨by simp[vS,vT];omega,by cases f<;>simp[vS,vT]<;>omega⟩,?_,.inr ⟨rfl,fun m hm=>?_⟩⟩
   ·unfold oC;cases f<;>simp<;>omega
   ·rcases abI.1 hm with hm|hm<;>(simp only[vS,vT,ab1]at hm;obtain⟨q,_,rfl⟩:=hm;rfl)
  rcases hr with rfl|rfl|rfl|rfl
  ·exact key 1 (bif (1:Int)==1 then pick n (p+4) 3==0 else false) (dT[1]'(by decide)) (.inl rfl) (by decide) _ _ _
  ·exact key 2 (bif (2:Int)==1 then pick n (p+4) 3==0 else false) (dT[2]'(by decide)) (.inr (.inl rfl)) (by decide) _ _ _
  ·exact key 3 (bif (3:Int)==1 then pick n (p+4) 3==0 else false) (dT[3]'(by decide)) (.inr (.inr (.inl rfl))) (by decide) _ _ _
  ·exact key 4 (bif (4:Int)==1 then pick n (p+4) 3==0 else false) (dT[4]'(by decide)) (.inr (.inr (.inr rfl))) (by decide) _ _ _
 split
 ·exact NX.one rfl
 ·refine⟨⟨by simp[u9],by simp[u9]⟩,by unfold oC;simp[u9],.inl ⟨rfl,_,_,rfl,rfl,rfl,rfl,?_⟩⟩
  have h1:(R.sh+1).tmod 12=R.sh+1/\R.sh<=10\/(R.sh+1).tmod 12=0/\R.sh=11:=by
   rw[Int.tmod_eq_emod_of_nonneg (by omega)];omega
  unfold Out
  rcases h1 with⟨h1,h2⟩|⟨h1,h2⟩<;>rw[h1]<;>omega
def WB(sh:Int)(s:dJ):Prop:=mc s.kind=false\/(∀m∈s.mv,m.ps=[])\/∀m∈s.mv,∃g,g<=9223372036854775807/\m.ps=[⟨g,0,3⟩]/\(s.kind=5\/m.fr=0/\Out sh g)
theorem xh{l:List dX}{i:Nat}{f:dX->dX}{m:dX}(hi:i<l.length)(h:m∈DK l i f):m∈l\/∃q∈l,m=f q:=by
 rcases List.mem_or_eq_of_mem_set h with h|h
 ·exact .inl h
 ·exact .inr ⟨_,zt hi,h⟩
theorem MC{sh:Int}{s:dJ}(h:NX sh s)(w:Int){y:Int}(hy:oC y):WB sh (pT s w y)/\(pT s w y).mv.length<=4/\oC (pT s w y).aD/\∀m∈(pT s w y).mv,m.ps.length<=20:=by
 have hl:=h.len
 have iC:∀(s':dJ),(s'.kind=5\/∀m'∈s'.mv,∃m∈s.mv,m'.fr=m.fr)->(s'.kind=s.kind\/s'.mv=s.mv)->s'.mv.length<=4->oC s'.aD->(∀m'∈s'.mv,∃m∈s.mv,m'.ps=m.ps)->(s'.kind=5\/∀m'∈s'.mv,∃m∈s.mv,m'.fr=m.fr/\m'.ps=m.ps)->WB sh s'/\s'.mv.length<=4/\oC s'.aD/\∀m∈s'.mv,m.ps.length<=20:=by
  intro s' _ _ h2 h3 h4 h5
  rcases h.mv with⟨hk,m,g,e,e1,e2,e3,e4⟩|⟨hk,hp⟩
  ·refine⟨.inr (.inr fun m' xa=>⟨g,e4.2.1,?_,?_⟩),h2,h3,fun m' xa=>?_⟩
   ·obtain⟨q,hq,eq⟩:=h4 m' xa
    rw[e,abF]at hq;subst hq;rw[eq,e3]
   ·refine h5.imp id fun h6=>?_
    obtain⟨q,hq,eq,_⟩:=h6 m' xa
    rw[e,abF]at hq;subst hq
    exact⟨by rw[eq,e1],e4⟩
   ·obtain⟨q,hq,eq⟩:=h4 m' xa
    rw[e,abF]at hq;subst hq;rw[eq,e3];simp
  ·have hz:∀m'∈s'.mv,m'.ps=[]:=fun m' xa=>by
    obtain⟨q,hq,eq⟩:=h4 m' xa
    rw[eq];exact hp q hq
   exact⟨.inr (.inl hz),h2,h3,fun m' xa=>by rw[hz m' xa];decide⟩
 have same:∀(s':dJ),s'.mv=s.mv->oC s'.aD->WB sh s'/\s'.mv.length<=4/\oC s'.aD/\∀m∈s'.mv,m.ps.length<=20:=fun s' e hr=>
  iC s' (.inr fun m hm=>⟨m,by rw[<-e];exact hm,rfl⟩) (.inr e) (by rw[e];omega) hr (fun m hm=>⟨m,by rw[<-e];exact hm,rfl⟩) (.inr fun m hm=>⟨m,by rw[<-e];exact hm,rfl,rfl⟩)
 have gM:∀(i:Nat) (f:dX->dX),i<s.mv.length->(∀q,(f q).ps=q.ps)->(s.kind=5\/∀q,(f q).fr=q.fr)->WB sh { s with mv:=DK s.mv i f }/\({ s with mv:=DK s.mv i f }:dJ).mv.length<=4/\oC s.aD/\∀m∈DK s.mv i f,m.ps.length<=20:=by
  intro i f hi hp hf
  have lu:∀m'∈DK s.mv i f,∃m∈s.mv,m'.ps=m.ps:=fun m' xa=>by
   rcases xh hi xa with h1|⟨q,h1,rfl⟩
   ·exact⟨_,h1,rfl⟩
   ·exact⟨q,h1,hp q⟩
  have h2:s.kind=5\/∀m'∈DK s.mv i f,∃m∈s.mv,m'.fr=m.fr/\m'.ps=m.ps:=hf.imp id fun hf m' xa=>by
   rcases xh hi xa with h1|⟨q,h1,rfl⟩
   ·exact⟨_,h1,rfl,rfl⟩
   ·exact⟨q,h1,hf q,hp q⟩
  exact iC { s with mv:=DK s.mv i f } (h2.imp id fun h m' xa=>(h m' xa).imp fun m h=>⟨h.1,h.2.1⟩) (.inl rfl) (by simp only[DK,List.length_set];omega) h.aD lu h2
 generalize cY:pT s w y=s'
 unfold pT at cY
 split at cY
 ·subst cY
  exact same { s with kind:=y } rfl h.aD
 split at cY
 ·subst cY
  exact same { s with gl:=y } rfl h.aD
 split at cY
 ·subst cY
  exact same { s with tick:=y } rfl h.aD
 split at cY
 ·subst cY
  exact same { s with aD:=y } rfl hy
 split at cY
 ·subst cY
  exact same { s with times:=y } rfl h.aD
 split at cY
 ·subst cY
  rcases h.mv with⟨hk,_⟩|⟨hk,_⟩
  ·exact gM _ _ (by omega) (fun _=>rfl) (.inl hk)
  ·refine⟨.inl hk,by simp only[DK,List.length_set];omega,h.aD,fun m hm=>?_⟩
   rcases h.mv with⟨h5,_⟩|⟨_,hp⟩
   ·rw[h5]at hk;cases hk
   ·rcases xh (f:=fun m=>{ m with fr:=y }) (by omega) (show m∈DK s.mv (s.mv.length-1) _ from hm)with h1|⟨q,h1,rfl⟩
    ·rw[hp m h1];decide
    ·rw[show(({ q with fr:=y }:dX).ps)=q.ps from rfl,hp q h1];decide
 split at cY
 ·subst cY
  exact gM _ _ (by omega) (fun _=>rfl) (.inr fun _=>rfl)
 split at cY
 ·subst cY
  exact gM _ _ (by omega) (fun _=>rfl) (.inr fun _=>rfl)
 split at cY
 ·subst cY
  exact gM _ _ (by omega) (fun _=>rfl) (.inr fun _=>rfl)
 split at cY
 ·subst cY
  have AU:s.mv.getD 0 m0∈s.mv:=zt (by omega)
  have dP:∀m∈s.mv++[s.mv.getD 0 m0],m∈s.mv:=fun m hm=>by
   rcases abI.1 hm with h1|h1
   ·exact h1
   ·rw[abF]at h1;rw[h1];exact AU
  exact iC { s with mv:=s.mv++[s.mv.getD 0 m0] } (.inr fun m hm=>⟨m,dP m hm,rfl⟩) (.inl rfl) (by simp only[abM,List.length_singleton];omega) h.aD (fun m hm=>⟨m,dP m hm,rfl⟩) (.inr fun m hm=>⟨m,dP m hm,rfl,rfl⟩)
 ·subst cY
  rcases h.mv with⟨hk,m,g,e,e1,e2,e3,e4⟩|⟨hk,hp⟩
  ·rw[e]
   refine⟨.inr (.inr fun m' xa=>⟨y,hy.2,?_,.inl hk⟩),by simp[DK],h.aD,fun m' xa=>?_⟩<;>(simp only[DK,List.getD_cons_zero,List.set_cons_zero,abF]at xa;subst xa;simp[e2])
  ·refine⟨.inl hk,by simp only[DK,List.length_set];omega,h.aD,fun m hm=>?_⟩
   rcases xh (f:=fun m=>{ m with ps:=[⟨y,0,m.n⟩] }) (by omega) (show m∈DK s.mv 0 _ from hm)with h1|⟨q,h1,rfl⟩
   ·rw[hp m h1];decide
   ·simp
theorem WC{sh:Int}{s:dJ}(h:NX sh s):WB sh s/\s.mv.length<=4/\oC s.aD/\∀m∈s.mv,m.ps.length<=20:=by
 have hl:=h.len
 rcases h.mv with⟨hk,m,g,e,e1,e2,e3,e4⟩|⟨hk,hp⟩
 ·refine⟨.inr (.inr fun m' xa=>?_),by omega,h.aD,fun m' xa=>?_⟩<;>(rw[e,abF]at xa;subst xa)
  ·exact⟨g,e4.2.1,e3,.inl hk⟩
  ·rw[e3];simp
 ·exact⟨.inl hk,by omega,h.aD,fun m hm=>by rw[hp m hm];decide⟩
theorem WD{sh now:Int}{s:dJ}(h:WB sh s)(hp:lC now s=true):∀m∈s.mv,Ma sh s m:=by
 intro m hm
 simp only[lC,aca]at hp
 have hv:=abY.1 hp.1.2 m hm
 unfold BF at hv
 rw[aca]at hv
 refine⟨hv.1,?_⟩
 have abe:=abQ hv.1
 cases hk:mc s.kind with
 |false=>
  rw[hk]at hv
  have hn:¬(s.kind=5\/s.kind=7\/s.kind=9):=abR hk
  exact .inr (.inr ⟨by omega,by omega,abQ hv.2⟩)
 |true=>
  rw[hk]at hv
  have hy:s.kind=5\/s.kind=7\/s.kind=9:=abQ hk
  have h2:=hv.2
  simp only[cond_true,aca,decide_eq_true_eq]at h2
  rcases h with h|h|h
  ·rw[h]at hk;cases hk
  ·have:=h2.1.2
   rw[h m hm,zb]at this
   omega
  ·obtain⟨g,g1,e,ho⟩:=h m hm
   have g0:0<=g:=by
    have:=(hZ h2.1.1).2 ⟨g,0,3⟩ (by rw[e];exact abF.2 rfl)
    exact(aw.1 this).1
   have Z3:lT s.kind m=true:=by
    have:=hp.2
    rw[abX (by omega),abX (by omega)]at this
    simp only[cond_false,aca]at this
    exact abY.1 this.1 m hm
   unfold lT at Z3
   rcases hy with h5|h7|h9
   ·rw[if_pos (.inr h5)]at Z3
    exact .inl ⟨h5,abQ Z3,g,g0,g1,e⟩
   ·rw[if_neg (by omega),if_neg (by omega),if_pos h7]at Z3
    have:=abQ Z3
    rcases ho with ho|ho<;>omega
   ·rcases ho with ho|ho
    ·omega
    ·exact .inr (.inl ⟨h9,ho.1,g,g0,g1,e,ho.2.2.2⟩)
theorem Te{R:RL}{s:dJ}(h:WB R.sh s/\s.mv.length<=4/\oC s.aD/\∀m∈s.mv,m.ps.length<=20):pt R s:=⟨h.2.2.1,h.2.1,h.2.2.2,fun hp=>WD h.1 hp⟩
end
end Go.Proofs.YtpbiiigpphehbaaGreatDoor
