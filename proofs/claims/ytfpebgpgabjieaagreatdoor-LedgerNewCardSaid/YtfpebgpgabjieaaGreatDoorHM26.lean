import Derived.Test.YtfpebgpgabjieaaGreatDoorHM25
import Derived.Test.YtfpebgpgabjieaaGreatDoorHM20
import Derived.Test.YtfpebgpgabjieaaGreatDoorHM23
import Derived.Test.YtfpebgpgabjieaaGreatDoorHM18
import Derived.Test.YtfpebgpgabjieaaGreatDoorHM21
set_option linter.all false
open Go.TM.oA Go.TM.oB Go.TM.oC Go.TM.oD Go.TM.oE
namespace Go.Proofs.YtfpebgpgabjieaaGreatDoor
set_option maxRecDepth 100000
set_option maxHeartbeats 4000000
section
open Go.TM
def fe(R:RL)(s:dI)(m:eS)(tk:List Lt)(md:List Int):j4:=⟨R.sh*4294967296+R.fl.length,R.sh*4294967296+R.sp.length,s.kind,s.tick,s.ko,m.fr,m.to,m.it,m.n,tk,md⟩
structure RB(R:RL):Prop where
 sh:0<=R.sh/\R.sh<=1000
 fl:R.fl.length<=900000
 sp:R.sp.length<=900000
variable [aW]
theorem Bq(R:RL)(s:dI)(m:eS)(e:Int)(tk:List Lt)(he:e≠0)(hb:RB R)(ht:aw Tryz.prog 127 [.ptr 0 0,.dv (I s.kind),cP (ay m)] 4 (gn R) 0 [.dv (aR tk),.dv (I e)] (gn R)):aw Tryz.prog 90 [.ptr 0 0,cP (aZ s),cP (ay m)] 4 (gn R) 0 [.dv (I e)] (gn R):=by
 obtain⟨fC,hf,hn⟩:=hb
 refine cO Tryz.func90 rfl (by kernel_rfl) ?_
 have lf:(R.fl.map bB).length=R.fl.length:=adi ..
 have lp:(R.sp.map aZ).length=R.sp.length:=adi ..
 have m1:-9223372036854775808<=R.sh*4294967296/\R.sh*4294967296<=9223372036854775807:=by omega
 have m2:-9223372036854775808<=R.sh*4294967296+((R.fl.map bB).length:Int)/\R.sh*4294967296+((R.fl.map bB).length:Int)<=9223372036854775807:=by omega
 have m3:-9223372036854775808<=R.sh*4294967296+((R.sp.map aZ).length:Int)/\R.sh*4294967296+((R.sp.map aZ).length:Int)<=9223372036854775807:=by omega
 refine⟨fun _=>m1,fun _=>m2,fun _=>m1,fun _=>m3,by kernel_rfl,?_⟩
 refine .inr (cl [0,1,2,3] ht (by kernel_rfl) rfl rfl ?_)
 refine adh (fun _=>?_) fun h=>by simp[he]at h
 exact ext (by kernel_rfl) rfl rfl
theorem Mi(R:RL)(st1:SM)(s:dI)(m:eS)(tk:List Lt)(fo:0<m.fr)(hb:RB R)(Zh:0<=m.n/\m.n<=1099511627776)(h1:st1.length<=100000)(hk:(bY st1 (m.to,m.it)).length<4096/\∀y∈bY st1 (m.to,m.it),0<=y.a/\y.a<=1099511627776/\0<=y.n/\y.n<=1099511627776)(ht:aw Tryz.prog 127 [.ptr 0 0,.dv (I s.kind),cP (ay m)] 4 (gn R) 0 [.dv (aR tk),.dv (I 0)] (j6 1 0 0 { R with st:=st1 })):aw Tryz.prog 90 [.ptr 0 0,cP (aZ s),cP (ay m)] 4 (gn R) 0 [.dv (I 0)] (j6 1 1 0 { R with st:=if 0<m.to then aN st1 (m.to,m.it) (aT (bY st1 (m.to,m.it)) ⟨R.sh*4294967296+R.fl.length,0,m.n⟩)else st1,fl:=R.fl++[fe R s m tk []] }):=by
 obtain⟨fC,hf,hn⟩:=hb
 refine cO Tryz.func90 rfl (by kernel_rfl) ?_
 have lf:(R.fl.map bB).length=R.fl.length:=adi ..
 have lp:(R.sp.map aZ).length=R.sp.length:=adi ..
 have m1:-9223372036854775808<=R.sh*4294967296/\R.sh*4294967296<=9223372036854775807:=by omega
 have m2:-9223372036854775808<=R.sh*4294967296+((R.fl.map bB).length:Int)/\R.sh*4294967296+((R.fl.map bB).length:Int)<=9223372036854775807:=by omega
 have m3:-9223372036854775808<=R.sh*4294967296+((R.sp.map aZ).length:Int)/\R.sh*4294967296+((R.sp.map aZ).length:Int)<=9223372036854775807:=by omega
 refine⟨fun _=>m1,fun _=>m2,fun _=>m1,fun _=>m3,by kernel_rfl,?_⟩
 refine .inr (cl [0,1,2,3] ht (by kernel_rfl) rfl rfl ?_)
 refine adh (fun h=>by cases h) fun _=>?_
 refine⟨Unit,fun _=>⟨7,[(0,.ptr 0 0),(4,.ptr 4 0),(5,.ptr 5 0),(7,.ptr 6 0),(10,.dv (I 0))],j6 1 0 0 { R with st:=st1 }++[(4,.cells (fp (aZ s).cells)),(5,.cells (fp (ay m).cells)),(6,.cells (fp [I (R.sh*4294967296+((R.fl.map bB).length:Int)),I (R.sh*4294967296+((R.sp.map aZ).length:Int)),I s.kind,I s.tick,I s.ko,I m.fr,I m.to,I m.it,I m.n,aR tk,.aH]))]⟩,fun _=>True,fun _=>0,(),fun _=>rfl,jn rfl rfl rfl rfl,tv,?_⟩
 rintro i-
 repeat refine gG ?_
 refine adh ?_ ?_
 ·intro h
  exact absurd h (by simp;omega)
 intro _
 have Uy:(m.fr==0)=false:=by simp;omega
 repeat refine gG ?_
 refine .inl ⟨by rw[Uy];rfl,[I 0],(fun h=>by rw[Uy]at h;cases h),rfl,?_⟩
 repeat refine gG ?_
 refine⟨fun h=>(by rw[Uy]at h;cases h),?_⟩
 repeat refine gG ?_
 refine⟨by kernel_rfl,adh (fun h=>(by rw[Uy]at h;cases h)) fun _=>?_⟩
 refine adh (fun kp=>?_) (fun kp=>?_)
 ·have kp:0<m.to:=adz kp
  rw[if_pos kp]
  refine .inr (cl [0,1,2,3] (j5 { R with st:=st1 } m.to m.it h1) (by kernel_rfl) rfl rfl ?_)
  have K8:=fb (bY st1 (m.to,m.it)) ⟨R.sh*4294967296+R.fl.length,0,m.n⟩
  have ha:=pJ (bY st1 (m.to,m.it)) ⟨R.sh*4294967296+R.fl.length,0,m.n⟩ (by omega) hk.2 Zh
  rw[<-lf]at ha K8⊢
  refine .inl ⟨_,fun _=>ha.ok,?_⟩
  generalize aT (bY st1 (m.to,m.it)) ⟨R.sh*4294967296+((R.fl.map bB).length:Int),0,m.n⟩=nx at*
  refine⟨by kernel_rfl,adh (fun h=>?_) fun _=>?_⟩
  ·have:=adz h;rw[adi]at this;omega
  refine .inr (cl [0,1,2,3] (nQ { R with st:=st1 } m.to m.it nx h1) (by kernel_rfl) rfl rfl ?_)
  refine .inl ⟨[bB (fe R s m tk [])],rfl,⟨aM (by rw[lf];rfl),aM (by rw[lp];rfl),rf,rf,rf,rf,rf,rf,rf,rf,DV.aY 1,tv⟩,(by simp;rfl),?_⟩
  refine .inr ⟨[bB (fe R s m tk [])],bW.refl _,bF (by simp[uQ];omega),by simp[uQ];omega,?_⟩
  refine⟨by kernel_rfl,ext (by kernel_rfl) rfl ?_⟩
  simp only[j6,adB]
  rfl
 ·have kp:¬0<m.to:=adA kp
  rw[if_neg kp]
  refine .inl ⟨[bB (fe R s m tk [])],rfl,⟨aM (by rw[lf];rfl),aM (by rw[lp];rfl),rf,rf,rf,rf,rf,rf,rf,rf,DV.aY 1,tv⟩,(by simp;rfl),?_⟩
  refine .inr ⟨[bB (fe R s m tk [])],bW.refl _,bF (by simp[uQ];omega),by simp[uQ];omega,?_⟩
  refine⟨by kernel_rfl,ext (by kernel_rfl) rfl ?_⟩
  simp only[j6,adB]
  rfl
end
section
open Go.TM
def q7(fl:List j4)(st:Int):List Int:=(fl.filter fun f=>f.step==st&&f.to==0).map (·.id)
def tx(k:Int):Bool:=k==4||k==10
theorem Qd{fl:List j4}{st:Int}{j:Nat}{f:j4}(h:fl[j]?=some f):q7 (fl.take (j+1)) st=q7 (fl.take j) st++bif f.step==st&&f.to==0 then[f.id]else[]:=by
 unfold q7
 rw[ads,h,List.filter_append,adB]
 congr 1
 cases hb:f.step==st&&f.to==0<;>simp[List.filter,hb]
theorem CX(fl:List j4)(st:Int):(q7 fl st).length<=fl.length:=by
 unfold q7;rw[adi];exact List.length_filter_le _ _
variable [aW]
theorem Mj(R:RL)(s:dI)(to it n:Int)(ps tk:List Lt)(hb:RB R)(Zh:0<=n/\n<=1099511627776)(h1:R.st.length<=1000)(hl:∀p∈R.st,p.2.length<=1000000)(hk:(bY R.st (to,it)).length<4096/\∀y∈bY R.st (to,it),0<=y.a/\y.a<=1099511627776/\0<=y.n/\y.n<=1099511627776)(kp:0<to)(e:Int)(he:e=if 1099511627776<b8 R.st it+n then 4 else 0)
 (ht:aw Tryz.prog 127 [.ptr 0 0,.dv (I s.kind),cP (ay ⟨0,to,it,n,ps⟩)] 4 (gn R) 0 [.dv (aR tk),.dv (I 0)] (gn R)):aw Tryz.prog 90 [.ptr 0 0,cP (aZ s),cP (ay ⟨0,to,it,n,ps⟩)] 4 (gn R) 0 [.dv (I e)] (if e=0 then j6 1 1 0 { R with st:=aN R.st (to,it) (aT (bY R.st (to,it)) ⟨R.sh*4294967296+R.fl.length,0,n⟩),fl:=R.fl++[fe R s ⟨0,to,it,n,ps⟩ tk (bif tx s.kind then q7 R.fl (R.sh*4294967296+R.sp.length)else[])] }else gn R):=by
 obtain⟨fC,hf,hn⟩:=hb
 refine cO Tryz.func90 rfl (by kernel_rfl) ?_
 have lf:(R.fl.map bB).length=R.fl.length:=adi ..
 have lp:(R.sp.map aZ).length=R.sp.length:=adi ..
 have m1:-9223372036854775808<=R.sh*4294967296/\R.sh*4294967296<=9223372036854775807:=by omega
 have m2:-9223372036854775808<=R.sh*4294967296+((R.fl.map bB).length:Int)/\R.sh*4294967296+((R.fl.map bB).length:Int)<=9223372036854775807:=by omega
 have m3:-9223372036854775808<=R.sh*4294967296+((R.sp.map aZ).length:Int)/\R.sh*4294967296+((R.sp.map aZ).length:Int)<=9223372036854775807:=by omega
 refine⟨fun _=>m1,fun _=>m2,fun _=>m1,fun _=>m3,by kernel_rfl,?_⟩
 refine .inr (cl [0,1,2,3] ht (by kernel_rfl) rfl rfl ?_)
 refine adh (fun h=>by cases h) fun _=>?_
 refine⟨Nat,fun i=>⟨8,[(0,.ptr 0 0),(4,.ptr 4 0),(5,.ptr 5 0),(7,.ptr 6 0),(10,.dv (I i))],[(0,.cells (rlC R)),(1,.tree 0 0 (.aI 3 (R.st.map kG))),(2,.tree 0 0 (.aI 11 (R.fl.map bB))),(3,.tree 0 0 (.aI 7 (R.sp.map aZ))),(4,.cells (fp (aZ s).cells)),(5,.cells (fp (ay ⟨0,to,it,n,ps⟩).cells)),(6,.cells ([.dv (I (R.sh*4294967296+((R.fl.map bB).length:Int))),.dv (I (R.sh*4294967296+((R.sp.map aZ).length:Int))),.dv (I s.kind),.dv (I s.tick),.dv (I s.ko),.dv (I 0),.dv (I to),.dv (I it),.dv (I n),.dv (aR tk),.own 7 0 0 []])),(7,.tree 0 0 (.aI 1 ((q7 (R.fl.take i) (R.sh*4294967296+((R.sp.map aZ).length:Int))).map I)))]⟩,fun i=>i<=R.fl.length/\(tx s.kind=false->i=0),fun i=>R.fl.length-i,0,fun _=>rfl,⟨⟨rfl,rfl,rfl,rfl,rf,tv⟩,⟨nO rfl,nO rfl,nO rfl,nO rfl,nO rfl,nO rfl,⟨rf,rf,rf,rf,rf,rf,rf,rf,rf,rf,⟨rfl,rfl,rfl,rfl,1,rfl⟩,tv⟩,⟨rfl,rfl,1,rfl⟩,tv⟩,rfl,rfl⟩,⟨adx _,fun _=>rfl⟩,?_⟩
 rintro i ⟨hi,FJ⟩
 repeat refine gG ?_
 refine adh ?_ ?_
 ·intro h
  have h:=bZ h
  have aB:i<R.fl.length:=by have:=adz (bZ h.1).1;omega
  have hm:tx s.kind=true:=by
   have h2:=h.2
   unfold tx
   revert h2
   cases(s.kind==4)<;>simp
  obtain⟨x,hx⟩:∃x,R.fl[i]?=some x:=⟨_,abK aB⟩
  have ix:(R.fl.map bB)[(i:Int).toNat]?=some (bB x):=by rw[adk];simp[hx]
  have ib:(0:Int)<=i/\(i:Int)<(R.fl.map bB).length:=(by omega)
  have fM:=Qd (st:=R.sh*4294967296+((R.sp.map aZ).length:Int)) hx
  have hml:=CX (R.fl.take i) (R.sh*4294967296+((R.sp.map aZ).length:Int))
  rw[adD]at hml
  refine⟨fun _=>ib,bB x,fun _=>ix,?_⟩
  repeat refine gG ?_
  refine⟨fun _=>ib,?_⟩
  repeat refine gG ?_
  refine⟨bB x,fun _=>ix,?_⟩
  repeat refine gG ?_
  refine⟨by kernel_rfl,adh (fun h=>?_) fun h=>?_⟩
  ·have e:(x.step==R.sh*4294967296+((R.sp.map aZ).length:Int)&&x.to==0)=true:=by
    have h:=bZ h
    rw[h.1,h.2];rfl
   rw[e]at fM
   refine⟨fun _=>ib,bB x,fun _=>ix,?_⟩
   refine .inl ⟨[I x.id],rfl,⟨rf,tv⟩,(by simp;rfl),?_⟩
   refine .inr ⟨[I x.id],bW.refl _,bI (by simp only[adi,adv,List.length_cons,List.length_nil,adD]at *; omega),by simp only[adi,adv,List.length_cons,List.length_nil,adD]at *; omega,?_⟩
   refine⟨by kernel_rfl,?_⟩
   exact⟨fun _=>by omega,i+1,jn rfl (by simp only[fM,adB];rfl) rfl rfl,⟨by omega,fun hc=>(by rw[hm]at hc;cases hc)⟩,mlt aB⟩
  ·have e:(x.step==R.sh*4294967296+((R.sp.map aZ).length:Int)&&x.to==0)=false:=by
    have h:=gI h
    rw[Bool.eq_false_iff];intro h2;exact h (by simpa using h2)
   rw[e]at fM
   have fM:q7 (R.fl.take (i+1)) (R.sh*4294967296+((R.sp.map aZ).length:Int))=q7 (R.fl.take i) (R.sh*4294967296+((R.sp.map aZ).length:Int)):=fM.trans (List.append_nil _)
   exact⟨fun _=>by omega,i+1,jn rfl (by simp only[fM];rfl) rfl rfl,⟨by omega,fun hc=>(by rw[hm]at hc;cases hc)⟩,mlt aB⟩
 intro h
 have hd:q7 (R.fl.take i) (R.sh*4294967296+((R.sp.map aZ).length:Int))=bif tx s.kind then q7 R.fl (R.sh*4294967296+((R.sp.map aZ).length:Int))else[]:=by
  cases hm:tx s.kind with
  |false=>rw[FJ hm];rfl
  |true=>
   have h:=gI h
   have:¬i<R.fl.length:=fun aB=>h ⟨by
    show(bif decide ((i:Int)<((R.fl.map bB).length:Nat))then true else false)=true
    rw[adF (by omega)];rfl,by
    show(bif s.kind==4 then true else s.kind==10)=true
    revert hm
    unfold tx
    cases(s.kind==4)<;>simp⟩
   rw[show i=R.fl.length by omega,ady];rfl
 have b1:=CS it R.st
 have b2:-9223372036854775808<=b8 R.st it+n/\b8 R.st it+n<=9223372036854775807:=by omega
 repeat refine gG ?_
 refine .inr (cl [0,1,2,3] (FC R it h1 hl) (by kernel_rfl) rfl rfl ?_)
 refine⟨rfl,?_⟩
 repeat refine gG ?_
 refine⟨fun _=>b2,?_⟩
 repeat refine gG ?_
 refine⟨by kernel_rfl,adh (fun hc=>?_) fun hc=>?_⟩
 ·have hc:1099511627776<b8 R.st it+n:=by simpa using hc
  rw[if_pos hc]at he
  subst he
  exact ext (by kernel_rfl) rfl rfl
 have hc:¬1099511627776<b8 R.st it+n:=by simpa using hc
 rw[if_neg hc]at he
 subst he
 rw[if_pos rfl]
 refine adh (fun _=>?_) fun h=>absurd kp (adA h)
 refine .inr (cl [0,1,2,3] (j5 R to it (by omega)) (by kernel_rfl) rfl rfl ?_)
 have K8:=fb (bY R.st (to,it)) ⟨R.sh*4294967296+R.fl.length,0,n⟩
 have ha:=pJ (bY R.st (to,it)) ⟨R.sh*4294967296+R.fl.length,0,n⟩ (by omega) hk.2 Zh
 rw[<-lf]at ha K8⊢
 refine .inl ⟨_,fun _=>ha.ok,?_⟩
 generalize aT (bY R.st (to,it)) ⟨R.sh*4294967296+((R.fl.map bB).length:Int),0,n⟩=nx at*
 refine⟨by kernel_rfl,adh (fun h=>?_) fun _=>?_⟩
 ·have:=adz h;rw[adi]at this;omega
 refine .inr (cl [0,1,2,3] (nQ R to it nx (by omega)) (by kernel_rfl) rfl rfl ?_)
 rw[hd]
 refine .inl ⟨[bB (fe R s ⟨0,to,it,n,ps⟩ tk (bif tx s.kind then q7 R.fl (R.sh*4294967296+((R.sp.map aZ).length:Int))else[]))],rfl,⟨aM (by rw[lf];rfl),aM (by rw[lp];rfl),rf,rf,rf,rf,rf,rf,rf,rf,DV.Le.of_eq (by
  show DV.sl 1 (wW ((bif tx s.kind then q7 R.fl (R.sh*4294967296+((R.sp.map aZ).length:Int))else[]).map I))=_
  rw[fq fun _=>rfl];rfl),tv⟩,(by simp;rfl),?_⟩
 refine .inr ⟨[bB (fe R s ⟨0,to,it,n,ps⟩ tk (bif tx s.kind then q7 R.fl (R.sh*4294967296+((R.sp.map aZ).length:Int))else[]))],bW.refl _,bF (by simp[uQ];omega),by simp[uQ];omega,?_⟩
 refine⟨by kernel_rfl,ext (by kernel_rfl) rfl ?_⟩
 rw[<-lp]
 simp only[j6,adB]
 rfl
end
section
open Go.TM
def Br(R:RL)(k:Int)(m:eS):Int×List Lt×SM:=
 if 0<m.fr then
  if m.ps=[]then bif decide (cT (bY R.st (m.fr,m.it))<m.n)then(10,[],R.st)else(0,(fJ (bY R.st (m.fr,m.it)) m.n (w6 m.it)).1,aN R.st (m.fr,m.it) (fJ (bY R.st (m.fr,m.it)) m.n (w6 m.it)).2)
  else bif rY m.ps (bY R.st (m.fr,m.it))then(0,m.ps,aN R.st (m.fr,m.it) (Im (bY R.st (m.fr,m.it)) m.ps))else(10,[],R.st)
 else(if k=5 then uS R.sh R.fl m.ps else if k=9 then tw R.fl m.it m.ps else 0,if k=5\/k=9 then m.ps else[],R.st)
def bz(R:RL)(s:dI)(m:eS):Int×RL:=
 if(Br R s.kind m).1≠0 then((Br R s.kind m).1,R)
 else if m.fr=0/\1099511627776<b8 R.st m.it+m.n then(4,R)
 else(0,{ R with
  st:=if 0<m.to then aN (Br R s.kind m).2.2 (m.to,m.it) (aT (bY (Br R s.kind m).2.2 (m.to,m.it)) ⟨R.sh*4294967296+R.fl.length,0,m.n⟩)else(Br R s.kind m).2.2
  fl:=R.fl++[fe R s m (Br R s.kind m).2.1 (if m.fr=0 then bif tx s.kind then q7 R.fl (R.sh*4294967296+R.sp.length)else[]else[])] })
structure RG(R:RL):Prop where
 sh:0<=R.sh/\R.sh<=1000
 fl:R.fl.length<=900000
 sp:R.sp.length<=900000
 st:R.st.length<=900
 yP:∀p∈R.st,(∀x∈p.2,aJ x=true)/\p.2.length<=4000
 ps:∀f∈R.fl,f.ps.length<=200
theorem CY{m:SM}{k:Ky}(h:bY m k≠[]):(k,bY m k)∈m:=by
 unfold bY at h⊢
 cases hg:aV m k with
 |none=>rw[hg]at h;exact absurd rfl h
 |some x=>exact mR hg
theorem RG.tz{R:RL}(h:RG R)(k:Ky):(∀x∈bY R.st k,aJ x=true)/\(bY R.st k).length<=4000:=by
 by_cases hs:bY R.st k=[]
 ·rw[hs];exact⟨fun x hx=>(by cases hx),adx _⟩
 ·exact h.yP _ (CY hs)
theorem RG.val{R:RL}(h:RG R)(k:Ky):bE (bY R.st k)=true:=by
 have:=h.tz k
 simp only[bE,adT,adH,decide_eq_true_eq]
 exact⟨this.1,by omega⟩
theorem jb(m:SM)(k k':Ky)(l:List Lt):bY (aN m k l) k'=if k=k' then l else bY m k':=by
 unfold bY;rw[iY];split<;>rfl
theorem yQ{κ β:Type}[DecidableEq κ](m:List (κ×β))(k:κ)(x:β):(aN m k x).length<=m.length+1:=by
 have:=congrArg List.length (uL m k x)
 rw[adi]at this
 split at this<;>simp at this<;>omega
variable [aW]
theorem Iv{f:Nat}{args rs:List AV}{K:ae}(R:RL)(h:aw Tryz.prog f args 4 K 0 rs (gn R)):aw Tryz.prog f args 4 K 0 rs (j6 1 1 0 R):=by
 refine rT (i:=2) (e0:=0) (K1:=j6 1 0 0 R) (rT (i:=1) (e0:=0) (K1:=gn R) h (by omega) ⟨_,rfl,rfl,fun j hj=>?_⟩) (by omega) ⟨_,rfl,rfl,fun j hj=>?_⟩
 ·match j,hj with
  |0,_=>exact .cells (.same _ (.same _ (.same _ (.same _ (.same _ (.qW (.same _ (.same _ .nil))))))))
  |2,_=>exact .refl _
  |3,_=>exact .refl _
  |j+4,_=>exact .refl _
 ·match j,hj with
  |0,_=>exact .cells (.same _ (.same _ (.same _ (.same _ (.same _ (.same _ (.qW (.same _ .nil))))))))
  |1,_=>exact .refl _
  |3,_=>exact .refl _
  |j+4,_=>exact .refl _
theorem yR(R:RL)(s:dI)(m:eS)(hR:RG R)(hm:dG m=true)(hp:m.ps.length<=20)(hb:s.kind=5->∀x∈m.ps,0<=x.f/\x.f<=9223372036854775807):aw Tryz.prog 90 [.ptr 0 0,cP (aZ s),cP (ay m)] 4 (gn R) 0 [.dv (I (bz R s m).1)] (j6 1 1 0 (bz R s m).2):=by
 have hB:RB R:=⟨hR.sh,hR.fl,hR.sp⟩
 have hbm:=adz hm
 have hs:=hR.tz (m.fr,m.it)
 have aq:=hR.tz (m.to,m.it)
 have bnd:∀y∈bY R.st (m.to,m.it),0<=y.a/\y.a<=1099511627776/\0<=y.n/\y.n<=1099511627776:=fun y hy=>by
  have:=ak.1 (aq.1 y hy);omega
 have hle:=hR.st
 by_cases fo:0<m.fr
 ·have dw:∀l,bY (aN R.st (m.fr,m.it) l) (m.to,m.it)=bY R.st (m.to,m.it):=fun l=>by
   rw[jb,if_neg];intro h;injection h with h1;omega
  have Uo:∀l,(aN R.st (m.fr,m.it) l).length<=100000:=fun l=>by have:=yQ R.st (m.fr,m.it) l;omega
  have fin:∀(tk l:List Lt),Br R s.kind m=(0,tk,aN R.st (m.fr,m.it) l)->aw Tryz.prog 127 [.ptr 0 0,.dv (I s.kind),cP (ay m)] 4 (gn R) 0 [.dv (aR tk),.dv (I 0)] (j6 1 0 0 (uQ R (m.fr,m.it) l))->aw Tryz.prog 90 [.ptr 0 0,cP (aZ s),cP (ay m)] 4 (gn R) 0 [.dv (I (bz R s m).1)] (j6 1 1 0 (bz R s m).2):=fun tk l e ht=>by
   have:=Mi R (aN R.st (m.fr,m.it) l) s m tk fo hB (by omega) (Uo l) (by rw[dw];exact⟨by omega,bnd⟩) ht
   unfold bz
   rw[e,if_neg (by simp),if_neg (by omega),if_neg (by omega:¬m.fr=0)]
   exact this
  have err:Br R s.kind m=(10,[],R.st)->aw Tryz.prog 127 [.ptr 0 0,.dv (I s.kind),cP (ay m)] 4 (gn R) 0 [.dv (aR []),.dv (I 10)] (gn R)->aw Tryz.prog 90 [.ptr 0 0,cP (aZ s),cP (ay m)] 4 (gn R) 0 [.dv (I (bz R s m).1)] (j6 1 1 0 (bz R s m).2):=fun e ht=>by
   unfold bz
   rw[e,if_pos (by simp)]
   exact Iv R (Bq R s m 10 [] (by omega) hB ht)
  by_cases mM:m.ps=[]
  ·have ht:=Mg R s.kind m fo mM (by omega) (by omega) (by omega) (hR.val _)
   have e:Br R s.kind m=bif decide (cT (bY R.st (m.fr,m.it))<m.n)then(10,[],R.st)else(0,(fJ (bY R.st (m.fr,m.it)) m.n (w6 m.it)).1,aN R.st (m.fr,m.it) (fJ (bY R.st (m.fr,m.it)) m.n (w6 m.it)).2):=by
    unfold Br;rw[if_pos fo,if_pos mM]
   cases hc:decide (cT (bY R.st (m.fr,m.it))<m.n)<;>rw[hc]at ht e
   ·exact fin _ _ e ht
   ·exact err e ht
  ·have hz:m.ps.length*((bY R.st (m.fr,m.it)).length+1)<=20*4001:=Nat.mul_le_mul hp (by omega)
   have hz2:(bY R.st (m.fr,m.it)).length*(m.ps.length+1)<=4000*21:=Nat.mul_le_mul (by omega) (by omega)
   have ht:=Mf R s.kind m fo mM (by omega) (by omega) (by omega) (by omega) (by omega)
   have e:Br R s.kind m=bif rY m.ps (bY R.st (m.fr,m.it))then(0,m.ps,aN R.st (m.fr,m.it) (Im (bY R.st (m.fr,m.it)) m.ps))else(10,[],R.st):=by
    unfold Br;rw[if_pos fo,if_neg mM]
   cases hc:rY m.ps (bY R.st (m.fr,m.it))<;>rw[hc]at ht e
   ·exact err e ht
   ·exact fin _ _ e ht
 ·have oH:m.fr=0:=by omega
  have ht:=Mh R s.kind m fo (by omega) (by have:=hR.fl;omega) hR.ps hb
  have e:Br R s.kind m=(if s.kind=5 then uS R.sh R.fl m.ps else if s.kind=9 then tw R.fl m.it m.ps else 0,if s.kind=5\/s.kind=9 then m.ps else[],R.st):=by
   unfold Br;rw[if_neg fo]
  generalize (if s.kind=5 then uS R.sh R.fl m.ps else if s.kind=9 then tw R.fl m.it m.ps else 0)=er at*
  generalize (if s.kind=5\/s.kind=9 then m.ps else[])=tk at*
  unfold bz
  rw[e]
  by_cases he:er=0
  ·subst he
   rcases m with⟨fr,to,it,n,ps⟩
   dsimp only at*
   subst oH
   have h0:=Mj R s to it n ps tk hB (by omega) (by omega) (fun p hp=>by have:=(hR.yP p hp).2;omega) ⟨by omega,bnd⟩ (by omega) _ rfl ht
   rw[if_neg (by simp)]
   by_cases hc:1099511627776<b8 R.st it+n
   ·rw[if_pos ⟨rfl,hc⟩]
    rw[if_pos hc,if_neg (by omega)]at h0
    exact Iv R h0
   ·rw[if_neg (fun h=>hc h.2),if_pos (by omega),if_pos rfl]
    rw[if_neg hc,if_pos rfl]at h0
    exact h0
  ·rw[if_pos he]
   exact Iv R (Bq R s m er tk he hB ht)
end
section
open Go.TM
variable [aW]
theorem Qe:eN.Le (.sl 9 (gh.map kl)):=DV.Vt rfl fun i x y hx hy=>by
 have hi:i<5:=(adj.1 hy).1
 have hc:∀d,d∈y.cells->d.ao=true:=by
  rw[adk]at hy
  cases hr:gh[i]? with
  |none=>rw[hr]at hy;cases hy
  |some r=>
   rw[hr]at hy;injection hy with hy;subst hy
   intro d hd
   simp only[kl,DV.cells,adp,List.mem_nil_iff,or_false]at hd
   rcases hd with rfl|rfl|rfl|rfl|rfl|rfl|rfl|rfl|rfl<;>rfl
 refine⟨?_,hc⟩
 match i,hi with
 |0,_=>injection hx with hx;injection hy with hy;subst hx;subst hy;exact⟨rf,rf,rf,rf,rf,rf,DV.aY 2,rf,DV.aY 2,tv⟩
 |1,_=>injection hx with hx;injection hy with hy;subst hx;subst hy;exact⟨rf,rf,rf,rf,rf,rf,rf,rf,rf,tv⟩
 |2,_=>injection hx with hx;injection hy with hy;subst hx;subst hy;exact⟨rf,rf,rf,rf,rf,rf,rf,rf,DV.aY 2,tv⟩
 |3,_=>injection hx with hx;injection hy with hy;subst hx;subst hy;exact⟨rf,rf,rf,rf,rf,rf,rf,rf,DV.aY 2,tv⟩
 |4,_=>injection hx with hx;injection hy with hy;subst hx;subst hy;exact⟨rf,rf,rf,rf,rf,rf,rf,rf,DV.aY 2,tv⟩
end
section
open Go.TM
variable [aW]
theorem bM{n:Nat}(h:n<=1000000):n*(nth jk (nth jk 49).elem).bytes<=140737488355328:=by
 rw[show(nth jk (nth jk 49).elem).bytes=56 by kernel_rfl];omega
end
section
open Go.TM
theorem Mk{l:List DV}{z x:DV}{i:Nat}(h:l[i]?=some x):(l.take i++List.replicate (l.length-i) z).set i x=l.take (i+1)++List.replicate (l.length-(i+1)) z:=by
 have hi:=(adj.1 h).1
 have:l.length-i=(l.length-(i+1))+1:=by omega
 rw[List.set_append,if_neg (by rw[adD];omega),ads,h,this,List.replicate_succ]
 simp[Nat.min_eq_left (Nat.le_of_lt hi)]
theorem Qf{l:List DV}{z:DV}{i:Nat}(h:i<l.length):(l.take i++List.replicate (l.length-i) z)[i]?=some z:=by
 rw[List.getElem?_append_right (by rw[adD];omega),List.getElem?_replicate,if_pos (by rw[adD];omega)]
theorem Qg(l:List DV)(z:DV)(i:Nat)(h:i<=l.length):(l.take i++List.replicate (l.length-i) z).length=l.length:=by simp;omega
variable [aW]
theorem X3{m:eS}:(DV.agg [I m.fr,I m.to,I m.it,I m.n,oT (.aI 3 (m.ps.map aD))]).Le (ay m):=DV.Le.of_eq (by
 show DV.agg [_,_,_,_,.sl 3 (wW (m.ps.map aD))]=_
 rw[fq fun _=>rfl];rfl)
theorem Iw{α:Type}(sz:Nat){e:α->DV}(h:∀x,oT (e x)=e x){l:List α}:(oT (.aI sz (l.map e))).Le (.sl sz (l.map e)):=DV.Le.of_eq (by
 show DV.sl sz (wW (l.map e))=_
 rw[fq h])
theorem Ml(m:eS)(hl:m.ps.length<=1000000):ai Tryz.prog 92 [ay m] [ay m]:=by
 refine pO Tryz.func92 rfl (by kernel_rfl) rfl ?_
 refine .inr (cl [] (fj m.ps hl) (by kernel_rfl) rfl rfl ?_)
 exact⟨X3,tv⟩
theorem aaW(l:List eS)(hl:l.length<=900000)(hp:∀m∈l,m.ps.length<=1000000):aw Tryz.prog 91 [.dv (.sl 5 (l.map ay)),.dv (.fn 92 [])] 0 [] 0 [.dv (.sl 5 (l.map ay))] []:=by
 have ll:(l.map ay).length=l.length:=adi ..
 refine cO Tryz.func91 rfl (by kernel_rfl) ?_
 refine adh (fun h=>?_) fun h=>?_
 ·have hz:l=[]:=by have:=beq_iff_eq.1 h;exact List.length_eq_zero_iff.1 (by omega)
  subst hz
  exact⟨_,_,⟨rfl,rfl⟩,by kernel_rfl,⟨DV.aY 5,tv⟩,tv⟩
 refine⟨.agg [I 0,I 0,I 0,I 0,.aH],⟨rf,rf,rf,rf,rf,tv⟩,by omega,by omega,?_,by omega,false,(fun h=>by cases h),?_⟩
 ·have hb:=bM (n:=l.length) (by omega)
  rw[ll];exact Int.le_trans (Int.le_of_eq (Int.natCast_mul _ _).symm) (Int.ofNat_le.2 hb)
 have e0:List.replicate (((l.map ay).length:Int)).toNat (.agg [I 0,I 0,I 0,I 0,.aH])=(l.map ay).take 0++List.replicate ((l.map ay).length-0) (.agg [I 0,I 0,I 0,I 0,.aH]):=by simp
 rw[e0]
 refine⟨Nat,fun i=>⟨1,[(1,.dv (.fn 92 [])),(5,.own 0 0 0 []),(14,.dv (.sl 5 (l.map ay))),(15,.dv (I l.length)),(16,.dv (I i))],[(0,.tree 0 0 (.aI 5 ((l.map ay).take i++List.replicate ((l.map ay).length-i) (.agg [I 0,I 0,I 0,I 0,.aH]))))]⟩,fun i=>i<=l.length,fun i=>l.length-i,0,fun _=>rfl,jn (by simp only[ll];rfl) rfl rfl rfl,adx _,?_⟩
 rintro i hi
 refine adh (fun h=>?_) fun h=>?_
 ·have aB:i<l.length:=by have:=adz h;omega
  obtain⟨x,hx⟩:∃x,l[i]?=some x:=⟨_,abK aB⟩
  have ix:(l.map ay)[(i:Int).toNat]?=some (ay x):=by rw[adk];simp[hx]
  have hlx:(l.map ay)[i]?=some (ay x):=by rw[adk,hx];rfl
  have hfn:=Mk (z:=.agg [I 0,I 0,I 0,I 0,.aH]) hlx
  have ou:=Qg (l.map ay) (.agg [I 0,I 0,I 0,I 0,.aH]) i (by omega)
  have hfg:=Qf (z:=.agg [I 0,I 0,I 0,I 0,.aH]) (show i<(l.map ay).length by omega)
  refine⟨ay x,fun _=>⟨by omega,ix⟩,?_⟩
  refine .inl ⟨_,fun _=>(Ml x (hp x (adl hx))).ok,?_⟩
  refine⟨fun _=>⟨by omega,by rw[ou];omega⟩,(ay x).cells,⟨rf,rf,rf,rf,rf,tv⟩,.agg [I 0,I 0,I 0,I 0,.aH],hfg,?_⟩
  exact⟨fun _=>by omega,i+1,jn rfl (by simp only[<-hfn];rfl) rfl rfl,aB,mlt aB⟩
 ·have he:i=l.length:=by have:=adA h;omega
  subst he
  have Mm:(l.map ay).take l.length++List.replicate ((l.map ay).length-l.length) (.agg [I 0,I 0,I 0,I 0,.aH])=(l.map ay):=by rw[<-ll,ady];simp
  rw[Mm]
  exact⟨_,_,⟨rfl,rfl⟩,by kernel_rfl,⟨Iw 5 (fun _=>rfl),tv⟩,tv⟩
theorem Bs(s:dI)(hl:s.mv.length<=900000)(hp:∀m∈s.mv,m.ps.length<=1000000):ai Tryz.prog 36 [aZ s] [aZ s]:=by
 refine pO Tryz.func36 rfl (by kernel_rfl) rfl ?_
 refine .inr ⟨[],[.dv (.sl 5 (s.mv.map ay)),.dv (.fn 92 [])],[],0,_,[],aaW s.mv hl hp,by kernel_rfl,by kernel_rfl,⟨rf,rf,tv⟩,tv,?_⟩
 exact⟨rf,tv⟩
end
section
open Go.TM
abbrev IM(β:Type):=List (Int×β)
structure PL where
 sh:Int
 st:SM
 cj:IM Int
 sp:List dI
 fl:List j4
 imp:IM (List Lt)
 ret:IM (List Lt)
def r5(k:Ky):DV:=.agg [I k.1,I k.2]
def eI(n:Int):DV:=I n
def qR(m:SM):List DV:=eM r5 (fun l:List Lt=>aR l) m
def oN(m:IM Int):List DV:=eM eI eI m
def pQ(m:IM (List Lt)):List DV:=eM eI (fun l:List Lt=>aR l) m
theorem jc(a b:Ky):sq (r5 a) (r5 b)=decide (a=b):=by
 obtain⟨a1,a2⟩:=a
 obtain⟨b1,b2⟩:=b
 rw[adO]
 simp[r5,sq,BK,BJ]
theorem jd(a b:Int):sq (eI a) (eI b)=decide (a=b):=by
 rw[adO]
 simp[eI,sq,BJ]
def plC(P:PL):List AV:=.dv (I P.sh)::fp oF++[.own 1 0 0 [],.own 2 0 0 [],.own 3 0 0 [],.own 4 0 0 [],.own 5 0 0 [],.own 6 0 0 []]
def mw(P:PL):ae:=[(0,.cells (plC P)),(1,.tree 0 0 (.omap eZ (qR P.st))),(2,.tree 0 0 (.omap cS (oN P.cj))),(3,.tree 0 0 (.aI 7 (P.sp.map aZ))),(4,.tree 0 0 (.aI 11 (P.fl.map bB))),(5,.tree 0 0 (.omap cS (pQ P.imp))),(6,.tree 0 0 (.omap cS (pQ P.ret)))]
def FK(m:IM Int)(it:Int):Int:=(aV m it).getD 0
variable [aW]
theorem mX:sI Tryz.prog 110 eZ:=AD aG rfl
theorem j7:sI Tryz.prog 3 cS:=EC aG rfl
theorem vL(P:PL)(a i:Int)(hl:(bY P.st (a,i)).length<=1000000):aw Tryz.prog 26 [.ptr 0 0,.dv (I a),.dv (I i)] 7 (mw P) 0 [.dv (aR (bY P.st (a,i)))] (mw P):=by
 have hg:=hU (ev:=fun l:List Lt=>aR l) jc P.st (a,i)
 refine cO Tryz.func26 rfl (by kernel_rfl) ?_
 refine⟨mX,r5 (a,i),rfl,rfl,?_⟩
 unfold bY at hl⊢
 cases h:aV P.st (a,i)with
 |none=>
  rw[h]at hg hl
  refine⟨.aH,false,fun _=>hg,fun _=>rfl,rfl,?_⟩
  refine .inr ⟨[],[.dv (aR [])],[],1,_,_,fj [] (by simp),by kernel_rfl,by kernel_rfl,⟨DV.aY 3,tv⟩,tv,?_⟩
  exact⟨_,_,⟨rfl,rfl⟩,by kernel_rfl,⟨nS _,tv⟩,bl (k:=mw P) rfl⟩
 |some l=>
  rw[h]at hg hl
  refine⟨aR l,true,fun _=>hg,fun h=>(by cases h),rfl,?_⟩
  refine .inr (cl [] (fj l hl) (by kernel_rfl) rfl rfl ?_)
  exact⟨_,_,⟨rfl,rfl⟩,by kernel_rfl,⟨nS _,tv⟩,bl (k:=mw P) rfl⟩
theorem FL(P:PL)(i:Int):aw Tryz.prog 18 [.ptr 0 0,.dv (I i)] 7 (mw P) 0 [.dv (I (FK P.cj i))] (mw P):=by
 have hg:=hU (ev:=eI) jd P.cj i
 refine cO Tryz.func18 rfl (by kernel_rfl) ?_
 refine⟨j7,eI i,rfl,rfl,?_⟩
 unfold FK
 cases h:aV P.cj i with
 |none=>
  rw[h]at hg
  refine⟨I 0,false,fun _=>hg,fun _=>rfl,rfl,?_⟩
  exact ext (by kernel_rfl) rfl rfl
 |some l=>
  rw[h]at hg
  refine⟨I l,true,fun _=>hg,fun h=>(by cases h),rfl,?_⟩
  exact ext (by kernel_rfl) rfl rfl
theorem Mn(P:PL)(hn:P.sp.length<=1000000):aw Tryz.prog 143 [.ptr 0 0] 7 (mw P) 0 [.dv (I (fw P.sp))] (mw P):=by
 have lp:(P.sp.map aZ).length=P.sp.length:=adi ..
 refine cO Tryz.func143 rfl (by kernel_rfl) ?_
 refine adh (fun h=>?_) fun h=>?_
 ·have hz:P.sp=[]:=by have:=beq_iff_eq.1 h;exact List.length_eq_zero_iff.1 (by omega)
  rw[show fw P.sp=0 by rw[hz];rfl]
  exact ext (by kernel_rfl) rfl rfl
 ·have dw:0<P.sp.length:=by have:=beq_eq_false_iff_ne.1 h;omega
  have hx:=abK (show P.sp.length-1<P.sp.length by omega)
  generalize P.sp[P.sp.length-1]=s at hx
  have ach:fw P.sp=s.tick:=by unfold fw;rw[List.getLast?_eq_getElem?,hx]
  have ix:(P.sp.map aZ)[((((P.sp.map aZ).length:Nat):Int)-1).toNat]?=some (aZ s):=by rw[adk,show((((P.sp.map aZ).length:Nat):Int)-1).toNat=P.sp.length-1 by omega,hx];rfl
  refine⟨fun _=>by omega,fun _=>by omega,aZ s,fun _=>ix,?_⟩
  rw[ach]
  exact⟨by kernel_rfl,ext (by kernel_rfl) rfl rfl⟩
end
section
open Go.TM
theorem Qh(a b:ByteArray):sq (.str a) (.str b)=decide (a=b):=by
 rw[adO]
 simp[sq,BJ]
theorem aaX(m:List (ByteArray×Bool))(k:ByteArray):∀x,ca (eM DV.str DV.bool m) (.str k)=some x->x.aQ:=by
 intro x hx
 rw[hU (ek:=DV.str) (ev:=DV.bool) Qh m k]at hx
 cases hq:aV m k with
 |none=>rw[hq]at hx;cases hx
 |some y=>rw[hq]at hx;injection hx with hx;subst hx;intro d hd;simp[DV.cells]at hd;subst hd;rfl
variable [aW]
theorem aaY:sI Tryz.prog 9 Lk:=ED aG rfl
theorem Ix(x:It):ai Tryz.prog 159 [fT x] [B (iw x.nm)]:=by
 refine pO Tryz.func159 rfl (by kernel_rfl) rfl ?_
 refine .inl ⟨_,fun _=>(Ii x.nm).ok,?_⟩
 exact⟨rf,tv⟩
theorem Qi(l:List It)(hl:l.length<=100):ai Tryz.prog 158 [.sl 7 (l.map fT),.fn 159 []] [B (l.all fun x=>iw x.nm)]:=by
 have ll:(l.map fT).length=l.length:=adi ..
 refine pO Tryz.func158 rfl (by kernel_rfl) rfl ?_
 refine⟨Nat,fun i=>⟨0,[(1,.dv (.fn 159 [])),(7,.dv (.sl 7 (l.map fT))),(8,.dv (I l.length)),(9,.dv (I i))],[]⟩,fun i=>i<=l.length/\((l.take i).all fun x=>iw x.nm)=true,fun i=>l.length-i,0,fun _=>rfl,jn (by simp only[ll];rfl) rfl rfl rfl,⟨adx _,rfl⟩,?_⟩
 rintro i ⟨hi,h0⟩
 refine adh (fun h=>?_) fun h=>?_
 ·have aB:i<l.length:=by have:=adz h;omega
  obtain⟨x,hx⟩:∃x,l[i]?=some x:=⟨_,abK aB⟩
  have ix:(l.map fT)[(i:Int).toNat]?=some (fT x):=by rw[adk];simp[hx]
  have ht:((l.take (i+1)).all fun x=>iw x.nm)=iw x.nm:=by
   rw[ads,hx,List.all_append,h0];simp
  refine⟨_,fun _=>⟨by omega,ix⟩,?_⟩
  refine .inl ⟨_,fun _=>(Ix x).ok,?_⟩
  cases hw:iw x.nm with
  |false=>
   refine adh (fun _=>?_) fun h=>by cases h
   have:(l.all fun x=>iw x.nm)=false:=List.all_eq_false.2 ⟨x,adl hx,by rw[hw];decide⟩
   rw[this]
   exact⟨rf,tv⟩
  |true=>
   refine adh (fun h=>by cases h) fun _=>?_
   exact⟨fun _=>by omega,i+1,jn rfl rfl rfl rfl,⟨aB,ht.trans hw⟩,mlt aB⟩
 ·have he:i=l.length:=by have:=adA h;omega
  subst he
  rw[ady]at h0
  rw[h0]
  exact⟨rf,tv⟩
theorem yS(x:It):ai Tryz.prog 165 [fT x] [.str x.nm]:=by
 refine pO Tryz.func165 rfl (by kernel_rfl) rfl ?_
 exact⟨rf,tv⟩
structure DfS where
 i:Nat
 m:List (ByteArray×Bool)
theorem Mo(l:List It)(hl:l.length<=100)(r:Bool)(hr:r=true↔(l.map It.nm).Nodup):ai Tryz.prog 164 [.sl 7 (l.map fT),.fn 165 []] [B r]:=by
 have ll:(l.map fT).length=l.length:=adi ..
 refine pO Tryz.func164 rfl (by kernel_rfl) rfl ?_
 refine⟨Lk,DfS,fun z=>⟨1,[(1,.dv (.fn 165 [])),(5,.own 0 0 0 []),(11,.dv (.sl 7 (l.map fT))),(12,.dv (I l.length)),(13,.dv (I z.i))],[(0,.tree 0 0 (.omap Lk (eM DV.str DV.bool z.m)))]⟩,fun z=>z.i<=l.length/\((l.map It.nm).take z.i).Nodup/\∀k,(k∈(l.map It.nm).take z.i->aV z.m k=some true)/\(k∉(l.map It.nm).take z.i->aV z.m k=none),fun z=>l.length-z.i,⟨0,[]⟩,fun _=>rfl,jn (by simp only[ll];rfl) rfl rfl rfl,⟨adx _,by simp,fun k=>by simp[aV]⟩,?_⟩
 rintro⟨i,m⟩ ⟨hi,h0,h1⟩
 dsimp only at hi h0 h1⊢
 refine adh (fun h=>?_) fun h=>?_
 ·have aB:i<l.length:=by have:=adz h;omega
  obtain⟨x,hx⟩:∃x,l[i]?=some x:=⟨_,abK aB⟩
  have ix:(l.map fT)[(i:Int).toNat]?=some (fT x):=by rw[adk];simp[hx]
  have ht:(l.map It.nm).take (i+1)=(l.map It.nm).take i++[x.nm]:=by
   rw[ads,adk,hx];rfl
  have hg:=hU (ek:=DV.str) (ev:=DV.bool) Qh m x.nm
  refine⟨_,fun _=>⟨by omega,ix⟩,?_⟩
  refine .inl ⟨_,fun _=>(yS x).ok,?_⟩
  refine⟨aaY,.str x.nm,rfl,rfl,?_⟩
  by_cases hm:x.nm∈(l.map It.nm).take i
  ·rw[(h1 x.nm).1 hm]at hg
   refine⟨B true,true,fun _=>hg,fun h=>(by cases h),rfl,?_⟩
   refine adh (fun _=>?_) fun h=>by cases h
   have:r=false:=Bool.eq_false_iff.2 fun h=>by
    have hn:=hr.1 h
    rw[<-List.take_append_drop (i+1) (l.map It.nm),ht,List.nodup_append]at hn
    have:=(List.nodup_append.1 hn.1).2.2 _ hm x.nm (by simp)
    exact this rfl
   rw[this]
   exact⟨rf,tv⟩
  ·rw[(h1 x.nm).2 hm]at hg
   refine⟨B false,false,fun _=>hg,fun _=>rfl,rfl,?_⟩
   refine adh (fun h=>by cases h) fun _=>?_
   refine .inl ⟨_,fun _=>(yS x).ok,?_⟩
   refine⟨aaY,.str x.nm,rfl,rfl,B true,⟨rf,tv⟩,rfl,false,fun _=>⟨aaX m _,fun d hd=>by simp[DV.cells]at hd;subst hd;rfl⟩,?_⟩
   rw[show dh (eM DV.str DV.bool m) (.str x.nm) (B true)=eM DV.str DV.bool (aN m x.nm true)from cY Qh m x.nm true]
   refine⟨fun _=>by omega,⟨i+1,aN m x.nm true⟩,jn rfl rfl rfl rfl,⟨aB,?_,fun k=>?_⟩,mlt aB⟩
   ·dsimp only
    rw[ht,List.nodup_append]
    exact⟨h0,by simp,fun a ha b hb e=>by rw[ado]at hb;subst hb;subst e;exact hm ha⟩
   ·dsimp only
    rw[iY,ht]
    by_cases e:x.nm=k
    ·subst e;exact⟨fun _=>if_pos rfl,fun h=>absurd (List.mem_append_right _ (ado.2 rfl)) h⟩
    ·rw[if_neg e]
     refine⟨fun h=>(h1 k).1 ?_,fun h=>(h1 k).2 fun h2=>h (List.mem_append_left _ h2)⟩
     rcases adr.1 h with h|h
     ·exact h
     ·exact absurd (ado.1 h).symm e
 ·have he:i=l.length:=by have:=adA h;omega
  subst he
  have:r=true:=hr.2 (by rw[<-adi (f:=It.nm),ady]at h0;exact h0)
  rw[this]
  exact⟨rf,tv⟩
end
section
open Go.TM
def vN(s:ByteArray):Int:=if iw s=false then 6 else if Kf (aj.map It.nm) s=true then 8 else 0
theorem Qj(s:ByteArray):((gC s).all fun x=>iw x.nm)=iw s:=by
 unfold gC
 rw[List.all_append,show(aj.all fun x=>iw x.nm)=true by kernel_rfl]
 simp[dV]
theorem Ks:(aj.map It.nm).Nodup:=by
 simp only[aj,List.map,List.nodup_cons,adp,List.not_mem_nil,or_false]
 decide
variable [aW]
theorem Mp(s:ByteArray):ai Tryz.prog 103 [bK (gC s)] [B (iw s)]:=by
 have h:=Qi (gC s) (by simp[gC,aj])
 rw[Qj]at h
 refine pO Tryz.func103 rfl (by kernel_rfl) rfl ?_
 refine .inl ⟨_,fun _=>h.ok,?_⟩
 repeat refine gG ?_
 refine .inl ⟨_,fun _=>Pp.ok,?_⟩
 repeat refine gG ?_
 refine .inl ⟨_,fun _=>Pq.ok,?_⟩
 repeat refine gG ?_
 refine .inl ⟨_,fun _=>Pr.ok,?_⟩
 repeat refine gG ?_
 cases iw s<;>exact⟨rf,tv⟩
theorem Bt(s:ByteArray)(r:Bool)(hr:r=true↔s∉aj.map It.nm):ai Tryz.prog 104 [bK (gC s)] [B r]:=by
 have h:=Mo (gC s) (by simp[gC,aj]) r (by
  rw[hr]
  show _↔((aj++[dV s]).map It.nm).Nodup
  rw[adB,List.nodup_append]
  constructor
  ·intro h
   exact⟨Ks,by simp,fun a ha b hb e=>by simp[dV]at hb;subst hb;subst e;exact h ha⟩
  ·intro h h2
   exact h.2.2 s h2 s (by simp[dV]) rfl)
 refine pO Tryz.func104 rfl (by kernel_rfl) rfl ?_
 refine .inl ⟨_,fun _=>h.ok,?_⟩
 repeat refine gG ?_
 refine .inl ⟨_,fun _=>Ps.ok,?_⟩
 repeat refine gG ?_
 refine .inl ⟨_,fun _=>Pt.ok,?_⟩
 repeat refine gG ?_
 refine .inl ⟨_,fun _=>Pu.ok,?_⟩
 repeat refine gG ?_
 cases r<;>exact⟨rf,tv⟩
theorem FM(s:ByteArray):ai Tryz.prog 63 [bK (gC s)] [I (vN s)]:=by
 unfold vN
 refine pO Tryz.func63 rfl (by kernel_rfl) rfl ?_
 refine .inl ⟨_,fun _=>(LO s).ok,?_⟩
 refine adh (fun h=>by cases h) fun _=>?_
 refine .inl ⟨_,fun _=>(Mp s).ok,?_⟩
 cases hw:iw s with
 |false=>
  refine adh (fun _=>?_) fun h=>by cases h
  rw[if_pos rfl]
  exact⟨rf,tv⟩
 |true=>
  rw[if_neg (by decide)]
  refine adh (fun h=>by cases h) fun _=>?_
  by_cases hm:s∈aj.map It.nm
  ·rw[if_pos (CD.2 hm)]
   refine .inl ⟨_,fun _=>(Bt s false ⟨fun h=>(by cases h),fun h=>absurd hm h⟩).ok,?_⟩
   refine adh (fun _=>?_) fun h=>by cases h
   exact⟨rf,tv⟩
  ·rw[if_neg fun h=>hm (CD.1 h)]
   refine .inl ⟨_,fun _=>(Bt s true ⟨fun _=>hm,fun _=>rfl⟩).ok,?_⟩
   refine adh (fun h=>by cases h) fun _=>?_
   refine .inl ⟨_,fun _=>(HP s).ok,?_⟩
   refine adh (fun h=>by cases h) fun _=>?_
   refine .inl ⟨_,fun _=>(Po s).ok,?_⟩
   refine adh (fun h=>by cases h) fun _=>?_
   exact⟨rf,tv⟩
end
section
open Go.TM
def cls(k:Nat):Int:=if k=1 then 0 else if k=3 then 1 else if k=4 then 2 else if k=5 then 3 else if k=7 then 4 else if k=2 then 5 else if k=6 then 6 else 7
def bk(b:UInt8):Nat:=jY.getD b.toNat 0
theorem yT{s:ByteArray}{i:Nat}{b:UInt8}(h:s[i]?=some b):kd s i=bk b:=by unfold kd;rw[h];rfl
def Wi(n:Nat):Bool:=[58,59,44,40,41,123,125,61,60,62,43,46].contains n
theorem Uz:((List.range 256).all fun n=>cls (jY.getD n 0)==(if n=32\/n=9\/n=10 then 0 else if n=95 then 3 else if Wi n=true then 4 else if n=35 then 5 else if n=45 then 6 else if 97<=n/\n<=122 then 1 else if 48<=n/\n<=57 then 2 else 7))=true:=by kernel_rfl
variable [aW]
theorem eO(b:UInt8):ai Tryz.prog 150 [.int .u8 b.toNat] [I (cls (bk b))]:=by
 have hl:=UInt8.toNat_lt b
 have hc:=adH.1 Uz b.toNat (adL.2 hl)
 rw[show cls (jY.getD b.toNat 0)=cls (bk b)from rfl,beq_iff_eq]at hc
 rw[hc]
 generalize b.toNat=n at hl
 clear hc
 refine pO Tryz.func150 rfl (by kernel_rfl) rfl ?_
 have e:∀{m:Nat},((n:Int)==(m:Int))=true->n=m:=fun h=>by have:=beq_iff_eq.1 h;omega
 have ne:∀{m:Nat},((n:Int)==(m:Int))=false->n≠m:=fun h=>by have:=beq_eq_false_iff_ne.1 h;omega
 refine adh (fun h=>?_) fun h1=>?_
 ·rw[e (m:=32) h];first|exact⟨rf,tv⟩|exact⟨fun _=>⟨rf,tv⟩,fun h=>Bool.noConfusion h⟩
 refine adh (fun h=>?_) fun h2=>?_
 ·rw[e (m:=9) h];first|exact⟨rf,tv⟩|exact⟨fun _=>⟨rf,tv⟩,fun h=>Bool.noConfusion h⟩
 refine adh (fun h=>?_) fun h3=>?_
 ·rw[e (m:=10) h];first|exact⟨rf,tv⟩|exact⟨fun _=>⟨rf,tv⟩,fun h=>Bool.noConfusion h⟩
 rw[if_neg (by have:=ne (m:=32) h1;have:=ne (m:=9) h2;have:=ne (m:=10) h3;omega)]
 refine adh (fun h=>?_) fun h4=>?_
 ·rw[e (m:=95) h];first|exact⟨rf,tv⟩|exact⟨fun _=>⟨rf,tv⟩,fun h=>Bool.noConfusion h⟩
 rw[if_neg (ne (m:=95) h4)]
 refine adh (fun h=>?_) fun s1=>?_
 ·rw[e (m:=58) h];first|exact⟨rf,tv⟩|exact⟨fun _=>⟨rf,tv⟩,fun h=>Bool.noConfusion h⟩
 refine adh (fun h=>?_) fun s2=>?_
 ·rw[e (m:=59) h];first|exact⟨rf,tv⟩|exact⟨fun _=>⟨rf,tv⟩,fun h=>Bool.noConfusion h⟩
 refine adh (fun h=>?_) fun s3=>?_
 ·rw[e (m:=44) h];first|exact⟨rf,tv⟩|exact⟨fun _=>⟨rf,tv⟩,fun h=>Bool.noConfusion h⟩
 refine adh (fun h=>?_) fun s4=>?_
 ·rw[e (m:=40) h];first|exact⟨rf,tv⟩|exact⟨fun _=>⟨rf,tv⟩,fun h=>Bool.noConfusion h⟩
 refine adh (fun h=>?_) fun s5=>?_
 ·rw[e (m:=41) h];first|exact⟨rf,tv⟩|exact⟨fun _=>⟨rf,tv⟩,fun h=>Bool.noConfusion h⟩
 refine adh (fun h=>?_) fun s6=>?_
 ·rw[e (m:=123) h];first|exact⟨rf,tv⟩|exact⟨fun _=>⟨rf,tv⟩,fun h=>Bool.noConfusion h⟩
 refine adh (fun h=>?_) fun s7=>?_
 ·rw[e (m:=125) h];first|exact⟨rf,tv⟩|exact⟨fun _=>⟨rf,tv⟩,fun h=>Bool.noConfusion h⟩
 refine adh (fun h=>?_) fun s8=>?_
 ·rw[e (m:=61) h];first|exact⟨rf,tv⟩|exact⟨fun _=>⟨rf,tv⟩,fun h=>Bool.noConfusion h⟩
 refine adh (fun h=>?_) fun s9=>?_
 ·rw[e (m:=60) h];first|exact⟨rf,tv⟩|exact⟨fun _=>⟨rf,tv⟩,fun h=>Bool.noConfusion h⟩
 refine adh (fun h=>?_) fun s10=>?_
 ·rw[e (m:=62) h];first|exact⟨rf,tv⟩|exact⟨fun _=>⟨rf,tv⟩,fun h=>Bool.noConfusion h⟩
 refine adh (fun h=>?_) fun s11=>?_
 ·rw[e (m:=43) h];first|exact⟨rf,tv⟩|exact⟨fun _=>⟨rf,tv⟩,fun h=>Bool.noConfusion h⟩
 refine adh (fun h=>?_) fun s12=>?_
 ·rw[e (m:=46) h];first|exact⟨rf,tv⟩|exact⟨fun _=>⟨rf,tv⟩,fun h=>Bool.noConfusion h⟩
 rw[if_neg (by
  have a1:=ne (m:=58) s1;have a2:=ne (m:=59) s2;have a3:=ne (m:=44) s3;have a4:=ne (m:=40) s4
  have a5:=ne (m:=41) s5;have a6:=ne (m:=123) s6;have a7:=ne (m:=125) s7;have a8:=ne (m:=61) s8
  have a9:=ne (m:=60) s9;have b1:=ne (m:=62) s10;have b2:=ne (m:=43) s11;have b3:=ne (m:=46) s12
  simp[*,Wi])]
 refine adh (fun h=>?_) fun h5=>?_
 ·rw[e (m:=35) h];first|exact⟨rf,tv⟩|exact⟨fun _=>⟨rf,tv⟩,fun h=>Bool.noConfusion h⟩
 rw[if_neg (ne (m:=35) h5)]
 refine adh (fun h=>?_) fun h6=>?_
 ·rw[e (m:=45) h];first|exact⟨rf,tv⟩|exact⟨fun _=>⟨rf,tv⟩,fun h=>Bool.noConfusion h⟩
 rw[if_neg (ne (m:=45) h6)]
 repeat refine gG ?_
 refine adh (fun h=>?_) fun h7=>?_
 ·have:=bZ h
  have a1:=adz this.1
  have a2:=adz this.2
  rw[if_pos (by omega)]
  exact⟨rf,tv⟩
 have h7:=gI h7
 rw[if_neg (fun hc=>h7 ⟨adF (by omega),adF (by omega)⟩)]
 repeat refine gG ?_
 refine adh (fun h=>?_) fun h8=>?_
 ·have:=bZ h
  have a1:=adz this.1
  have a2:=adz this.2
  rw[if_pos (by omega)]
  exact⟨rf,tv⟩
 have h8:=gI h8
 rw[if_neg (fun hc=>h8 ⟨adF (by omega),adF (by omega)⟩)]
 exact⟨rf,tv⟩
end
section
open Go.TM
def SV(b:UInt8)(c:Bool):Bool:=if b.toNat=10 then false else if b.toNat=35 then true else c
def Mq(s:ByteArray):Nat->Bool->Nat->Nat
 |0,_,a=>a
 |m+1,c,a=>match s[a]? with
  |none=>a
  |some b=>if SV b c=false/\cls (bk b)≠0 then a else Mq s m (SV b c) (a+1)
theorem CZ(s:ByteArray):∀(m a:Nat) (c:Bool),a<=s.size->a<=Mq s m c a/\Mq s m c a<=s.size
 |0,a,_,h=>⟨adM _,h⟩
 |m+1,a,c,h=>by
  unfold Mq
  split
  ·omega
  ·rename_i b hb
   have hl:a<s.size:=by
    by_cases hl:a<s.size
    ·exact hl
    ·rw[show s[a]?=none by simp;omega]at hb;cases hb
   split
   ·omega
   ·have:=CZ s m (a+1) (SV b c) (by omega);omega
structure RsS where
 m:Nat
 c:Bool
 a:Nat
variable [aW]
theorem yU(s:ByteArray)(a:Nat)(ha:a<=s.size)(hs:s.size<=8192):ai Tryz.prog 148 [.str s,I a] [I (Mq s (s.size+1) false a:Nat)]:=by
 obtain⟨R,hR⟩:∃R,R=Mq s (s.size+1) false a:=⟨_,rfl⟩
 rw[<-hR]
 refine pO Tryz.func148 rfl (by kernel_rfl) rfl ?_
 refine⟨RsS,fun z=>⟨0,[(0,.dv (.str s)),(1,.dv (I z.a)),(5,.dv (B z.c))],[]⟩,fun z=>z.a<=s.size/\Mq s z.m z.c z.a=R/\s.size-z.a<z.m,fun z=>s.size-z.a,⟨s.size+1,false,a⟩,fun _=>rfl,jn rfl rfl rfl rfl,⟨ha,hR.symm,by dsimp only;omega⟩,?_⟩
 rintro⟨m,c,k⟩ ⟨h1,h2,h3⟩
 dsimp only at h1 h2 h3⊢
 obtain⟨m,rfl⟩:∃n,m=n+1:=⟨m-1,by omega⟩
 unfold Mq at h2
 refine adh (fun h=>?_) fun h=>?_
 ·have hk:k<s.size:=by have:=adz h;omega
  obtain⟨b,hb⟩:∃b,s[k]?=some b:=⟨_,by simp[hk];rfl⟩
  have ib:(0:Int)<=k/\s[(k:Int).toNat]?=some b:=⟨by omega,hb⟩
  rw[hb]at h2
  dsimp only at h2
  have e:∀{m:Nat},((b.toNat:Int)==(m:Int))=true->b.toNat=m:=fun h=>by have:=beq_iff_eq.1 h;omega
  have ne:∀{m:Nat},((b.toNat:Int)==(m:Int))=false->b.toNat≠m:=fun h=>by have:=beq_eq_false_iff_ne.1 h;omega
  clear h
  refine⟨b,fun _=>ib,adh (fun h5=>?_) fun h5=>?_⟩
  ·refine⟨b,fun _=>ib,adh (fun h6=>?_) fun h6=>?_⟩
   ·have:=e (m:=35) h5;have:=e (m:=10) h6;omega
   ·have hc:SV b c=true:=by unfold SV;rw[if_neg (ne (m:=10) h6),if_pos (e (m:=35) h5)]
    rw[hc]at h2
    repeat refine gG ?_
    refine⟨b,fun _=>ib,?_⟩
    repeat refine gG ?_
    refine .inl ⟨_,fun _=>(eO b).ok,?_⟩
    repeat refine gG ?_
    refine adh (fun h=>?_) fun h=>?_
    ·have q1:=(bZ h).1
     have q2:=(bZ h).2
     rw[if_pos ⟨by simpa using q1,fun e=>by rw[e]at q2;cases q2⟩]at h2
     rw[<-h2]
     exact⟨rf,tv⟩
    ·have h:=gI h
     rw[if_neg (fun q=>h ⟨congrArg (fun x=>!x) q.1,bne_iff_ne.2 q.2⟩)]at h2
     exact⟨fun _=>by omega,⟨m,true,k+1⟩,jn rfl rfl rfl rfl,⟨hk,h2,by dsimp only;omega⟩,by dsimp only;omega⟩
  ·refine⟨b,fun _=>ib,adh (fun h6=>?_) fun h6=>?_⟩
   ·have hc:SV b c=false:=by unfold SV;rw[if_pos (e (m:=10) h6)]
    rw[hc]at h2
    repeat refine gG ?_
    refine⟨b,fun _=>ib,?_⟩
    repeat refine gG ?_
    refine .inl ⟨_,fun _=>(eO b).ok,?_⟩
    repeat refine gG ?_
    refine adh (fun h=>?_) fun h=>?_
    ·have q1:=(bZ h).1
     have q2:=(bZ h).2
     rw[if_pos ⟨by simpa using q1,fun e=>by rw[e]at q2;cases q2⟩]at h2
     rw[<-h2]
     exact⟨rf,tv⟩
    ·have h:=gI h
     rw[if_neg (fun q=>h ⟨congrArg (fun x=>!x) q.1,bne_iff_ne.2 q.2⟩)]at h2
     exact⟨fun _=>by omega,⟨m,false,k+1⟩,jn rfl rfl rfl rfl,⟨hk,h2,by dsimp only;omega⟩,by dsimp only;omega⟩
   ·have hc:SV b c=c:=by unfold SV;rw[if_neg (ne (m:=10) h6),if_neg (ne (m:=35) h5)]
    rw[hc]at h2
    repeat refine gG ?_
    refine⟨b,fun _=>ib,?_⟩
    repeat refine gG ?_
    refine .inl ⟨_,fun _=>(eO b).ok,?_⟩
    repeat refine gG ?_
    refine adh (fun h=>?_) fun h=>?_
    ·have q1:=(bZ h).1
     have q2:=(bZ h).2
     rw[if_pos ⟨by simpa using q1,fun e=>by rw[e]at q2;cases q2⟩]at h2
     rw[<-h2]
     exact⟨rf,tv⟩
    ·have h:=gI h
     rw[if_neg (fun q=>h ⟨congrArg (fun x=>!x) q.1,bne_iff_ne.2 q.2⟩)]at h2
     exact⟨fun _=>by omega,⟨m,c,k+1⟩,jn rfl rfl rfl rfl,⟨hk,h2,by dsimp only;omega⟩,by dsimp only;omega⟩
 ·have hk:k=s.size:=by have:=adA h;omega
  subst hk
  rw[show s[s.size]?=none by simp]at h2
  rw[<-h2]
  exact⟨rf,tv⟩
def cb(s:ByteArray)(a:Nat):Nat:=if kd s a=3 then wE s a else if kd s a=4 then dE s a else if kd s a=7 then a+1 else if kd s a=6 then(if s[a+1]?=some 62 then a+2 else a)else a
theorem w7(k:Nat):(cls k=1↔k=3)/\(cls k=2↔k=4)/\(cls k=4↔k=7)/\(cls k=6↔k=6):=by
 unfold cls
 repeat' split
 all_goals simp_all
theorem Qk(k:Nat):(decide (1<=cls k)&&decide (cls k<=3))=Pw k:=by
 unfold cls Pw
 repeat' split
 all_goals simp_all
theorem Mr(s:ByteArray)(a:Nat)(ha:a<s.size)(hs:s.size<=8192):ai Tryz.prog 149 [.str s,I a] [I (cb s a:Nat)]:=by
 obtain⟨R,hR⟩:∃R,R=cb s a:=⟨_,rfl⟩
 rw[<-hR]
 obtain⟨b,hb⟩:∃b,s[a]?=some b:=⟨_,by simp[ha];rfl⟩
 have S6:=yT hb
 obtain⟨c1,c2,c4,c6⟩:=w7 (bk b)
 have X4:∀k,k<s.size->∃b,s[k]?=some b:=fun k hk=>⟨_,by simp[hk];rfl⟩
 unfold cb at hR
 rw[S6]at hR
 refine pO Tryz.func149 rfl (by kernel_rfl) rfl ?_
 refine⟨fun _=>by omega,?_⟩
 refine⟨b,fun _=>⟨by omega,hb⟩,?_⟩
 refine .inl ⟨_,fun _=>(eO b).ok,?_⟩
 refine adh (fun h=>?_) fun h=>?_
 ·have e:=c1.1 (beq_iff_eq.1 h)
  rw[if_pos e]at hR
  clear h
  refine⟨Nat,fun k=>⟨0,[(0,.dv (.str s)),(1,.dv (I a)),(5,.dv (I k))],[]⟩,fun k=>a+1<=k/\k<=s.size/\∀j,a+1<=j->j<k->Pw (kd s j)=true,fun k=>s.size-k,a+1,fun _=>rfl,jn rfl rfl rfl rfl,⟨adM _,ha,fun j h1 h2=>by omega⟩,?_⟩
  rintro k ⟨h1,h2,h3⟩
  obtain⟨d,hd⟩:∃d,k<s.size->s[k]?=some d:=by
   by_cases h:k<s.size
   ·obtain⟨d,hd⟩:=X4 k h;exact⟨d,fun _=>hd⟩
   ·exact⟨0,fun h2=>absurd h2 h⟩
  have gk:∀h:bw (decide ((k:Int)<s.size)) true=true,(0:Int)<=k/\s[(k:Int).toNat]?=some d:=fun h=>by
   have:=adz (gL h);exact⟨by omega,hd (by omega)⟩
  repeat refine gG ?_
  refine⟨d,gk,?_⟩
  repeat refine gG ?_
  refine .inl ⟨_,fun _=>(eO d).ok,?_⟩
  repeat refine gG ?_
  refine⟨d,fun h=>gk (nP (bZ (gL h)).1),?_⟩
  repeat refine gG ?_
  refine .inl ⟨_,fun _=>(eO d).ok,?_⟩
  repeat refine gG ?_
  refine adh (fun h=>?_) fun h=>?_
  ·have q:=bZ h
   have q1:=bZ q.1
   have hk:k<s.size:=by have:=adz q1.1;omega
   have hw:Pw (kd s k)=true:=by rw[yT (hd hk),<-Qk,q1.2,q.2];rfl
   exact⟨fun _=>by omega,k+1,jn rfl rfl rfl rfl,⟨by omega,hk,fun j h4 h5=>if e:j=k then e▸hw else h3 j h4 (by omega)⟩,by dsimp only;omega⟩
  ·have hk:wE s a=k:=yu h1 (by omega) h3 fun aB=>by
    rw[yT (hd (by omega)),<-Qk,Bool.eq_false_iff]
    intro hc
    simp only[adT]at hc
    exact gI h ⟨by rw[adF (by omega),hc.1];rfl,hc.2⟩
   rw[hk]at hR
   subst hR
   exact⟨rf,tv⟩
 ·have e1:=fun e=>beq_eq_false_iff_ne.1 h (c1.2 e)
  rw[if_neg e1]at hR
  refine adh (fun h=>?_) fun h=>?_
  ·have e:=c2.1 (beq_iff_eq.1 h)
   rw[if_pos e]at hR
   clear h
   refine⟨Nat,fun k=>⟨0,[(0,.dv (.str s)),(1,.dv (I a)),(5,.dv (I k))],[]⟩,fun k=>a+1<=k/\k<=s.size/\∀j,a+1<=j->j<k->(kd s j==4)=true,fun k=>s.size-k,a+1,fun _=>rfl,jn rfl rfl rfl rfl,⟨adM _,ha,fun j h1 h2=>by omega⟩,?_⟩
   rintro k ⟨h1,h2,h3⟩
   obtain⟨d,hd⟩:∃d,k<s.size->s[k]?=some d:=by
    by_cases h:k<s.size
    ·obtain⟨d,hd⟩:=X4 k h;exact⟨d,fun _=>hd⟩
    ·exact⟨0,fun h2=>absurd h2 h⟩
   have gk:∀h:bw (decide ((k:Int)<s.size)) true=true,(0:Int)<=k/\s[(k:Int).toNat]?=some d:=fun h=>by
    have:=adz (gL h);exact⟨by omega,hd (by omega)⟩
   repeat refine gG ?_
   refine⟨d,gk,?_⟩
   repeat refine gG ?_
   refine .inl ⟨_,fun _=>(eO d).ok,?_⟩
   repeat refine gG ?_
   refine adh (fun h=>?_) fun h=>?_
   ·have q:=bZ h
    have hk:k<s.size:=by have:=adz q.1;omega
    have hw:(kd s k==4)=true:=by rw[yT (hd hk),(w7 _).2.1.1 (beq_iff_eq.1 q.2)];rfl
    exact⟨fun _=>by omega,k+1,jn rfl rfl rfl rfl,⟨by omega,hk,fun j h4 h5=>if e:j=k then e▸hw else h3 j h4 (by omega)⟩,by dsimp only;omega⟩
   ·have hk:dE s a=k:=yu h1 (by omega) h3 fun aB=>by
     rw[yT (hd (by omega)),Bool.eq_false_iff]
     intro hc
     exact gI h ⟨adF (by omega),beq_iff_eq.2 ((w7 _).2.1.2 (beq_iff_eq.1 hc))⟩
    rw[hk]at hR
    subst hR
    exact⟨rf,tv⟩
  ·have e2:=fun e=>beq_eq_false_iff_ne.1 h (c2.2 e)
   rw[if_neg e2]at hR
   refine adh (fun h=>?_) fun h=>?_
   ·have e:=c4.1 (beq_iff_eq.1 h)
    rw[if_pos e]at hR
    subst hR
    exact⟨rf,tv⟩
   ·have e4:=fun e=>beq_eq_false_iff_ne.1 h (c4.2 e)
    rw[if_neg e4]at hR
    refine adh (fun h=>?_) fun h=>?_
    ·have e:=c6.1 (beq_iff_eq.1 h)
     rw[if_pos e]at hR
     clear h
     obtain⟨d,hd⟩:∃d,a+1<s.size->s[a+1]?=some d:=by
      by_cases h:a+1<s.size
      ·obtain⟨d,hd⟩:=X4 _ h;exact⟨d,fun _=>hd⟩
      ·exact⟨0,fun h2=>absurd h2 h⟩
     repeat refine gG ?_
     refine⟨d,fun h=>by have:=adz (gL h);exact⟨by omega,hd (by omega)⟩,?_⟩
     repeat refine gG ?_
     refine adh (fun h=>?_) fun h=>?_
     ·have q:=bZ h
      have hl:a+1<s.size:=by have:=adz q.1;omega
      have h62:d=62:=UInt8.toNat_inj.1 (by have:=beq_iff_eq.1 q.2;show d.toNat=62;omega)
      rw[if_pos (by rw[hd hl,h62])]at hR
      subst hR
      exact⟨fun _=>by omega,rf,tv⟩
     ·rw[if_neg (fun hc=>?_)]at hR
      ·subst hR
       exact⟨rf,tv⟩
      ·by_cases hl:a+1<s.size
       ·rw[hd hl]at hc
        injection hc with hc
        subst hc
        exact gI h ⟨adF (by omega),rfl⟩
       ·rw[show s[a+1]?=none by simp;omega]at hc;cases hc
    ·have e6:=fun e=>beq_eq_false_iff_ne.1 h (c6.2 e)
     rw[if_neg e6]at hR
     subst hR
     exact⟨rf,tv⟩
def r6(s:ByteArray):Nat->Nat->Int->Int
 |0,_,n=>n
 |m+1,i,n=>r6 s m (i+1) (if 1099511627777<10*n+IntKind.i64.wrap (IntKind.u8.wrap ((((s[i]?).getD 0).toNat:Int)-48))then 1099511627777 else 10*n+IntKind.i64.wrap (IntKind.u8.wrap ((((s[i]?).getD 0).toNat:Int)-48)))
theorem aaZ(x:Int):0<=IntKind.i64.wrap (IntKind.u8.wrap x)/\IntKind.i64.wrap (IntKind.u8.wrap x)<=255:=by
 rw[IntKind.wrap_u8,IntKind.wrap_i64];omega
theorem Iy(s:ByteArray)(hs:s.size<=8192):ai Tryz.prog 151 [.str s] [I (r6 s s.size 0 0)]:=by
 obtain⟨R,hR⟩:∃R,R=r6 s s.size 0 0:=⟨_,rfl⟩
 rw[<-hR]
 refine pO Tryz.func151 rfl (by kernel_rfl) rfl ?_
 refine⟨DgS,fun z=>⟨0,[(0,.dv (.str s)),(3,.dv (I z.n)),(4,.dv (I z.i))],[]⟩,fun z=>z.i<=s.size/\0<=z.n/\z.n<=1099511627777/\r6 s (s.size-z.i) z.i z.n=R,fun z=>s.size-z.i,⟨0,0⟩,fun _=>rfl,jn rfl rfl rfl rfl,⟨adx _,by show(0:Int)<=0;omega,by show(0:Int)<=1099511627777;omega,hR.symm⟩,?_⟩
 rintro⟨i,n⟩ ⟨h1,h2,h3,h4⟩
 dsimp only at h1 h2 h3 h4⊢
 refine adh (fun h=>?_) fun h=>?_
 ·have hi:i<s.size:=by have:=adz h;omega
  obtain⟨b,hb⟩:∃b,s[i]?=some b:=⟨_,by simp[hi];rfl⟩
  have hw:=aaZ ((b.toNat:Int)-48)
  obtain⟨m,hm⟩:∃m,s.size-i=m+1:=⟨s.size-i-1,by omega⟩
  rw[hm]at h4
  unfold r6 at h4
  rw[hb]at h4
  dsimp only[Option.getD_some]at h4
  refine⟨fun _=>by omega,b,fun _=>⟨by omega,hb⟩,fun _=>by omega,fun _=>by omega,⟨i+1,if 1099511627777<10*n+IntKind.i64.wrap (IntKind.u8.wrap ((b.toNat:Int)-48))then 1099511627777 else 10*n+IntKind.i64.wrap (IntKind.u8.wrap ((b.toNat:Int)-48))⟩,jn rfl rfl rfl rfl,⟨hi,by dsimp only;split<;>omega,by dsimp only;split<;>omega,by dsimp only;rw[show s.size-(i+1)=m by omega];exact h4⟩,by dsimp only;omega⟩
 ·have hi:i=s.size:=by have:=adA h;omega
  subst hi
  rw[Nat.sub_self]at h4
  rw[<-h4]
  exact⟨rf,tv⟩
end
end Go.Proofs.YtfpebgpgabjieaaGreatDoor
