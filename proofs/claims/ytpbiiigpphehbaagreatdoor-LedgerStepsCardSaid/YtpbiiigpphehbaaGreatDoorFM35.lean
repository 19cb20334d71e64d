import Derived.Test.YtpbiiigpphehbaaGreatDoorFM33
import Derived.Test.YtpbiiigpphehbaaGreatDoorFM34
import Derived.Test.YtpbiiigpphehbaaGreatDoorFM29
set_option linter.all false
namespace Go.Proofs.YtpbiiigpphehbaaGreatDoor
set_option maxRecDepth 100000
set_option maxHeartbeats 4000000
section
open Go.TM
def gF(R:RL)(s:dJ)(m:dX)(tk:List Lt)(md:List Int):oj:=⟨R.sh*4294967296+R.fl.length,R.sh*4294967296+R.sp.length,s.kind,s.tick,s.gl,m.fr,m.to,m.it,m.n,tk,md⟩
structure RB(R:RL):Prop where
 sh:0<=R.sh/\R.sh<=1000
 fl:R.fl.length<=900000
 sp:R.sp.length<=900000
variable [bJ]
theorem BG(R:RL)(s:dJ)(m:dX)(e:Int)(tk:List Lt)(he:e≠0)(hb:RB R)(ht:aq Tryz.prog 53 [.ptr 0 0,.dv (I s.kind),cJ (ak m)] 4 (dE R) 0 [.dv (aS tk),.dv (I e)] (dE R)):aq Tryz.prog 26 [.ptr 0 0,cJ (aC s),cJ (ak m)] 4 (dE R) 0 [.dv (I e)] (dE R):=by
 obtain⟨wV,hf,hn⟩:=hb
 refine cO Tryz.func26 rfl (by kernel_rfl) ?_
 have lf:(R.fl.map aM).length=R.fl.length:=abz ..
 have lp:(R.sp.map aC).length=R.sp.length:=abz ..
 have m1:-9223372036854775808<=R.sh*4294967296/\R.sh*4294967296<=9223372036854775807:=by omega
 have m2:-9223372036854775808<=R.sh*4294967296+((R.fl.map aM).length:Int)/\R.sh*4294967296+((R.fl.map aM).length:Int)<=9223372036854775807:=by omega
 have m3:-9223372036854775808<=R.sh*4294967296+((R.sp.map aC).length:Int)/\R.sh*4294967296+((R.sp.map aC).length:Int)<=9223372036854775807:=by omega
 refine⟨fun _=>m1,fun _=>m2,fun _=>m1,fun _=>m3,by kernel_rfl,?_⟩
 refine .inr (cl [0,1,2,3] ht (by kernel_rfl) rfl rfl ?_)
 refine aby (fun _=>?_) fun h=>by simp[he]at h
 exact ext (by kernel_rfl) rfl rfl
theorem L7(R:RL)(st1:SM)(s:dJ)(m:dX)(tk:List Lt)(ec:0<m.fr)(hb:RB R)(Xg:0<=m.n/\m.n<=1099511627776)(h1:st1.length<=100000)(hk:(cr st1 (m.to,m.it)).length<4096/\∀y∈cr st1 (m.to,m.it),0<=y.a/\y.a<=1099511627776/\0<=y.n/\y.n<=1099511627776)(ht:aq Tryz.prog 53 [.ptr 0 0,.dv (I s.kind),cJ (ak m)] 4 (dE R) 0 [.dv (aS tk),.dv (I 0)] (jI 1 0 0 { R with st:=st1 })):aq Tryz.prog 26 [.ptr 0 0,cJ (aC s),cJ (ak m)] 4 (dE R) 0 [.dv (I 0)] (jI 1 1 0 { R with st:=if 0<m.to then aU st1 (m.to,m.it) (bj (cr st1 (m.to,m.it)) ⟨R.sh*4294967296+R.fl.length,0,m.n⟩)else st1,fl:=R.fl++[gF R s m tk []] }):=by
 obtain⟨wV,hf,hn⟩:=hb
 refine cO Tryz.func26 rfl (by kernel_rfl) ?_
 have lf:(R.fl.map aM).length=R.fl.length:=abz ..
 have lp:(R.sp.map aC).length=R.sp.length:=abz ..
 have m1:-9223372036854775808<=R.sh*4294967296/\R.sh*4294967296<=9223372036854775807:=by omega
 have m2:-9223372036854775808<=R.sh*4294967296+((R.fl.map aM).length:Int)/\R.sh*4294967296+((R.fl.map aM).length:Int)<=9223372036854775807:=by omega
 have m3:-9223372036854775808<=R.sh*4294967296+((R.sp.map aC).length:Int)/\R.sh*4294967296+((R.sp.map aC).length:Int)<=9223372036854775807:=by omega
 refine⟨fun _=>m1,fun _=>m2,fun _=>m1,fun _=>m3,by kernel_rfl,?_⟩
 refine .inr (cl [0,1,2,3] ht (by kernel_rfl) rfl rfl ?_)
 refine aby (fun h=>by cases h) fun _=>?_
 refine⟨Unit,fun _=>⟨7,[(0,.ptr 0 0),(4,.ptr 4 0),(5,.ptr 5 0),(7,.ptr 6 0),(10,.dv (I 0))],jI 1 0 0 { R with st:=st1 }++[(4,.cells (eB (aC s).cells)),(5,.cells (eB (ak m).cells)),(6,.cells (eB [I (R.sh*4294967296+((R.fl.map aM).length:Int)),I (R.sh*4294967296+((R.sp.map aC).length:Int)),I s.kind,I s.tick,I s.gl,I m.fr,I m.to,I m.it,I m.n,aS tk,.az]))]⟩,fun _=>True,fun _=>0,(),fun _=>rfl,jn rfl rfl rfl rfl,tv,?_⟩
 rintro i-
 repeat first|apply g1|apply g2|apply g3|apply g4|apply g5
 refine aby ?_ ?_
 ·intro h
  exact absurd h (by simp;omega)
 intro _
 have SD:(m.fr==0)=false:=by simp;omega
 repeat first|apply g1|apply g2|apply g3|apply g4|apply g5
 refine .inl ⟨by rw[SD];rfl,[I 0],(fun h=>by rw[SD]at h;cases h),rfl,?_⟩
 repeat first|apply g1|apply g2|apply g3|apply g4|apply g5
 refine⟨fun h=>(by rw[SD]at h;cases h),?_⟩
 repeat first|apply g1|apply g2|apply g3|apply g4|apply g5
 refine⟨by kernel_rfl,aby (fun h=>(by rw[SD]at h;cases h)) fun _=>?_⟩
 refine aby (fun lx=>?_) (fun lx=>?_)
 ·have lx:0<m.to:=abQ lx
  rw[if_pos lx]
  refine .inr (cl [0,1,2,3] (fU { R with st:=st1 } m.to m.it h1) (by kernel_rfl) rfl rfl ?_)
  have Hx:=fj (cr st1 (m.to,m.it)) ⟨R.sh*4294967296+R.fl.length,0,m.n⟩
  have ha:=pA (cr st1 (m.to,m.it)) ⟨R.sh*4294967296+R.fl.length,0,m.n⟩ (by omega) hk.2 Xg
  rw[<-lf]at ha Hx⊢
  refine .inl ⟨_,fun _=>ha.ok,?_⟩
  generalize bj (cr st1 (m.to,m.it)) ⟨R.sh*4294967296+((R.fl.map aM).length:Int),0,m.n⟩=nx at*
  refine⟨by kernel_rfl,aby (fun h=>?_) fun _=>?_⟩
  ·have:=abQ h;rw[abz]at this;omega
  refine .inr (cl [0,1,2,3] (nW { R with st:=st1 } m.to m.it nx h1) (by kernel_rfl) rfl rfl ?_)
  refine .inl ⟨[aM (gF R s m tk [])],rfl,⟨aG (by rw[lf];rfl),aG (by rw[lp];rfl),rf,rf,rf,rf,rf,rf,rf,rf,DV.aL 1,tv⟩,(by simp;rfl),?_⟩
  refine .inr ⟨[aM (gF R s m tk [])],b7.refl _,bF (by simp[uT];omega),by simp[uT];omega,?_⟩
  refine⟨by kernel_rfl,ext (by kernel_rfl) rfl ?_⟩
  simp only[jI,abS]
  rfl
 ·have lx:¬0<m.to:=abR lx
  rw[if_neg lx]
  refine .inl ⟨[aM (gF R s m tk [])],rfl,⟨aG (by rw[lf];rfl),aG (by rw[lp];rfl),rf,rf,rf,rf,rf,rf,rf,rf,DV.aL 1,tv⟩,(by simp;rfl),?_⟩
  refine .inr ⟨[aM (gF R s m tk [])],b7.refl _,bF (by simp[uT];omega),by simp[uT];omega,?_⟩
  refine⟨by kernel_rfl,ext (by kernel_rfl) rfl ?_⟩
  simp only[jI,abS]
  rfl
end
section
open Go.TM
def rZ(fl:List oj)(st:Int):List Int:=(fl.filter fun f=>f.step==st&&f.to==0).map (·.id)
def wF(k:Int):Bool:=k==4||k==10
theorem PG{fl:List oj}{st:Int}{j:Nat}{f:oj}(h:fl[j]?=some f):rZ (fl.take (j+1)) st=rZ (fl.take j) st++bif f.step==st&&f.to==0 then[f.id]else[]:=by
 unfold rZ
 rw[abJ,h,List.filter_append,abS]
 congr 1
 cases hb:f.step==st&&f.to==0<;>simp[List.filter,hb]
theorem Dh(fl:List oj)(st:Int):(rZ fl st).length<=fl.length:=by
 unfold rZ;rw[abz];exact List.length_filter_le _ _
variable [bJ]
theorem L8(R:RL)(s:dJ)(to it n:Int)(ps tk:List Lt)(hb:RB R)(Xg:0<=n/\n<=1099511627776)(h1:R.st.length<=1000)(hl:∀p∈R.st,p.2.length<=1000000)(hk:(cr R.st (to,it)).length<4096/\∀y∈cr R.st (to,it),0<=y.a/\y.a<=1099511627776/\0<=y.n/\y.n<=1099511627776)(lx:0<to)(e:Int)(he:e=if 1099511627776<dp R.st it+n then 4 else 0)
 (ht:aq Tryz.prog 53 [.ptr 0 0,.dv (I s.kind),cJ (ak ⟨0,to,it,n,ps⟩)] 4 (dE R) 0 [.dv (aS tk),.dv (I 0)] (dE R)):aq Tryz.prog 26 [.ptr 0 0,cJ (aC s),cJ (ak ⟨0,to,it,n,ps⟩)] 4 (dE R) 0 [.dv (I e)] (if e=0 then jI 1 1 0 { R with st:=aU R.st (to,it) (bj (cr R.st (to,it)) ⟨R.sh*4294967296+R.fl.length,0,n⟩),fl:=R.fl++[gF R s ⟨0,to,it,n,ps⟩ tk (bif wF s.kind then rZ R.fl (R.sh*4294967296+R.sp.length)else[])] }else dE R):=by
 obtain⟨wV,hf,hn⟩:=hb
 refine cO Tryz.func26 rfl (by kernel_rfl) ?_
 have lf:(R.fl.map aM).length=R.fl.length:=abz ..
 have lp:(R.sp.map aC).length=R.sp.length:=abz ..
 have m1:-9223372036854775808<=R.sh*4294967296/\R.sh*4294967296<=9223372036854775807:=by omega
 have m2:-9223372036854775808<=R.sh*4294967296+((R.fl.map aM).length:Int)/\R.sh*4294967296+((R.fl.map aM).length:Int)<=9223372036854775807:=by omega
 have m3:-9223372036854775808<=R.sh*4294967296+((R.sp.map aC).length:Int)/\R.sh*4294967296+((R.sp.map aC).length:Int)<=9223372036854775807:=by omega
 refine⟨fun _=>m1,fun _=>m2,fun _=>m1,fun _=>m3,by kernel_rfl,?_⟩
 refine .inr (cl [0,1,2,3] ht (by kernel_rfl) rfl rfl ?_)
 refine aby (fun h=>by cases h) fun _=>?_
 refine⟨Nat,fun i=>⟨8,[(0,.ptr 0 0),(4,.ptr 4 0),(5,.ptr 5 0),(7,.ptr 6 0),(10,.dv (I i))],[(0,.cells (rlC R)),(1,.tree 0 0 (.aB 3 (R.st.map gy))),(2,.tree 0 0 (.aB 11 (R.fl.map aM))),(3,.tree 0 0 (.aB 7 (R.sp.map aC))),(4,.cells (eB (aC s).cells)),(5,.cells (eB (ak ⟨0,to,it,n,ps⟩).cells)),(6,.cells ([.dv (I (R.sh*4294967296+((R.fl.map aM).length:Int))),.dv (I (R.sh*4294967296+((R.sp.map aC).length:Int))),.dv (I s.kind),.dv (I s.tick),.dv (I s.gl),.dv (I 0),.dv (I to),.dv (I it),.dv (I n),.dv (aS tk),.own 7 0 0 []])),(7,.tree 0 0 (.aB 1 ((rZ (R.fl.take i) (R.sh*4294967296+((R.sp.map aC).length:Int))).map I)))]⟩,fun i=>i<=R.fl.length/\(wF s.kind=false->i=0),fun i=>R.fl.length-i,0,fun _=>rfl,⟨⟨rfl,rfl,rfl,rfl,rf,tv⟩,⟨nU rfl,nU rfl,nU rfl,nU rfl,nU rfl,nU rfl,⟨rf,rf,rf,rf,rf,rf,rf,rf,rf,rf,⟨rfl,rfl,rfl,rfl,1,rfl⟩,tv⟩,⟨rfl,rfl,1,rfl⟩,tv⟩,rfl,rfl⟩,⟨abO _,fun _=>rfl⟩,?_⟩
 rintro i ⟨hi,FP⟩
 repeat first|apply g1|apply g2|apply g3|apply g4|apply g5
 refine aby ?_ ?_
 ·intro h
  have h:=dV h
  have au:i<R.fl.length:=by have:=abQ (dV h.1).1;omega
  have hm:wF s.kind=true:=by
   have h2:=h.2
   unfold wF
   revert h2
   cases(s.kind==4)<;>simp
  obtain⟨x,hx⟩:∃x,R.fl[i]?=some x:=⟨_,aaa au⟩
  have ix:(R.fl.map aM)[(i:Int).toNat]?=some (aM x):=by rw[abB];simp[hx]
  have ib:(0:Int)<=i/\(i:Int)<(R.fl.map aM).length:=⟨by omega,by omega⟩
  have dQ:=PG (st:=R.sh*4294967296+((R.sp.map aC).length:Int)) hx
  have hml:=Dh (R.fl.take i) (R.sh*4294967296+((R.sp.map aC).length:Int))
  rw[abU]at hml
  refine⟨fun _=>ib,aM x,fun _=>ix,?_⟩
  repeat first|apply g1|apply g2|apply g3|apply g4|apply g5
  refine⟨fun _=>ib,?_⟩
  repeat first|apply g1|apply g2|apply g3|apply g4|apply g5
  refine⟨aM x,fun _=>ix,?_⟩
  repeat first|apply g1|apply g2|apply g3|apply g4|apply g5
  refine⟨by kernel_rfl,aby (fun h=>?_) fun h=>?_⟩
  ·have e:(x.step==R.sh*4294967296+((R.sp.map aC).length:Int)&&x.to==0)=true:=by
    have h:=dV h
    rw[h.1,h.2];rfl
   rw[e]at dQ
   refine⟨fun _=>ib,aM x,fun _=>ix,?_⟩
   refine .inl ⟨[I x.id],rfl,⟨rf,tv⟩,(by simp;rfl),?_⟩
   refine .inr ⟨[I x.id],b7.refl _,bI (by simp only[abz,abM,List.length_cons,List.length_nil,abU]at *; omega),by simp only[abz,abM,List.length_cons,List.length_nil,abU]at *; omega,?_⟩
   refine⟨by kernel_rfl,?_⟩
   exact⟨fun _=>⟨by omega,by omega⟩,i+1,jn rfl (by simp only[dQ,abS];rfl) rfl rfl,⟨by omega,fun hc=>(by rw[hm]at hc;cases hc)⟩,mlt au⟩
  ·have e:(x.step==R.sh*4294967296+((R.sp.map aC).length:Int)&&x.to==0)=false:=by
    have h:=lQ h
    rw[Bool.eq_false_iff];intro h2;exact h (by simpa using h2)
   rw[e]at dQ
   have dQ:rZ (R.fl.take (i+1)) (R.sh*4294967296+((R.sp.map aC).length:Int))=rZ (R.fl.take i) (R.sh*4294967296+((R.sp.map aC).length:Int)):=dQ.trans (List.append_nil _)
   exact⟨fun _=>⟨by omega,by omega⟩,i+1,jn rfl (by simp only[dQ];rfl) rfl rfl,⟨by omega,fun hc=>(by rw[hm]at hc;cases hc)⟩,mlt au⟩
 intro h
 have hd:rZ (R.fl.take i) (R.sh*4294967296+((R.sp.map aC).length:Int))=bif wF s.kind then rZ R.fl (R.sh*4294967296+((R.sp.map aC).length:Int))else[]:=by
  cases hm:wF s.kind with
  |false=>rw[FP hm];rfl
  |true=>
   have h:=lQ h
   have:¬i<R.fl.length:=fun au=>h ⟨by
    show(bif decide ((i:Int)<((R.fl.map aM).length:Nat))then true else false)=true
    rw[abW (by omega)];rfl,by
    show(bif s.kind==4 then true else s.kind==10)=true
    revert hm
    unfold wF
    cases(s.kind==4)<;>simp⟩
   rw[show i=R.fl.length by omega,abP];rfl
 have b1:=Dd it R.st
 have b2:-9223372036854775808<=dp R.st it+n/\dp R.st it+n<=9223372036854775807:=by omega
 repeat first|apply g1|apply g2|apply g3|apply g4|apply g5
 refine .inr (cl [0,1,2,3] (vM R it h1 hl) (by kernel_rfl) rfl rfl ?_)
 refine⟨rfl,?_⟩
 repeat first|apply g1|apply g2|apply g3|apply g4|apply g5
 refine⟨fun _=>b2,?_⟩
 repeat first|apply g1|apply g2|apply g3|apply g4|apply g5
 refine⟨by kernel_rfl,aby (fun hc=>?_) fun hc=>?_⟩
 ·have hc:1099511627776<dp R.st it+n:=by simpa using hc
  rw[if_pos hc]at he
  subst he
  exact ext (by kernel_rfl) rfl rfl
 have hc:¬1099511627776<dp R.st it+n:=by simpa using hc
 rw[if_neg hc]at he
 subst he
 rw[if_pos rfl]
 refine aby (fun _=>?_) fun h=>absurd lx (abR h)
 refine .inr (cl [0,1,2,3] (fU R to it (by omega)) (by kernel_rfl) rfl rfl ?_)
 have Hx:=fj (cr R.st (to,it)) ⟨R.sh*4294967296+R.fl.length,0,n⟩
 have ha:=pA (cr R.st (to,it)) ⟨R.sh*4294967296+R.fl.length,0,n⟩ (by omega) hk.2 Xg
 rw[<-lf]at ha Hx⊢
 refine .inl ⟨_,fun _=>ha.ok,?_⟩
 generalize bj (cr R.st (to,it)) ⟨R.sh*4294967296+((R.fl.map aM).length:Int),0,n⟩=nx at*
 refine⟨by kernel_rfl,aby (fun h=>?_) fun _=>?_⟩
 ·have:=abQ h;rw[abz]at this;omega
 refine .inr (cl [0,1,2,3] (nW R to it nx (by omega)) (by kernel_rfl) rfl rfl ?_)
 rw[hd]
 refine .inl ⟨[aM (gF R s ⟨0,to,it,n,ps⟩ tk (bif wF s.kind then rZ R.fl (R.sh*4294967296+((R.sp.map aC).length:Int))else[]))],rfl,⟨aG (by rw[lf];rfl),aG (by rw[lp];rfl),rf,rf,rf,rf,rf,rf,rf,rf,DV.Le.of_eq (by
  show DV.sl 1 (w8 ((bif wF s.kind then rZ R.fl (R.sh*4294967296+((R.sp.map aC).length:Int))else[]).map I))=_
  rw[fE fun _=>rfl];rfl),tv⟩,(by simp;rfl),?_⟩
 refine .inr ⟨[aM (gF R s ⟨0,to,it,n,ps⟩ tk (bif wF s.kind then rZ R.fl (R.sh*4294967296+((R.sp.map aC).length:Int))else[]))],b7.refl _,bF (by simp[uT];omega),by simp[uT];omega,?_⟩
 refine⟨by kernel_rfl,ext (by kernel_rfl) rfl ?_⟩
 rw[<-lp]
 simp only[jI,abS]
 rfl
end
section
open Go.TM
def D2(R:RL)(k:Int)(m:dX):Int×List Lt×SM:=
 if 0<m.fr then
  if m.ps=[]then bif decide (bQ (cr R.st (m.fr,m.it))<m.n)then(10,[],R.st)else(0,(gj (cr R.st (m.fr,m.it)) m.n (zV m.it)).1,aU R.st (m.fr,m.it) (gj (cr R.st (m.fr,m.it)) m.n (zV m.it)).2)
  else bif tc m.ps (cr R.st (m.fr,m.it))then(0,m.ps,aU R.st (m.fr,m.it) (Kg (cr R.st (m.fr,m.it)) m.ps))else(10,[],R.st)
 else(if k=5 then uV R.sh R.fl m.ps else if k=9 then uW R.fl m.it m.ps else 0,if k=5\/k=9 then m.ps else[],R.st)
def cE(R:RL)(s:dJ)(m:dX):Int×RL:=
 if(D2 R s.kind m).1≠0 then((D2 R s.kind m).1,R)
 else if m.fr=0/\1099511627776<dp R.st m.it+m.n then(4,R)
 else(0,{ R with
  st:=if 0<m.to then aU (D2 R s.kind m).2.2 (m.to,m.it) (bj (cr (D2 R s.kind m).2.2 (m.to,m.it)) ⟨R.sh*4294967296+R.fl.length,0,m.n⟩)else(D2 R s.kind m).2.2
  fl:=R.fl++[gF R s m (D2 R s.kind m).2.1 (if m.fr=0 then bif wF s.kind then rZ R.fl (R.sh*4294967296+R.sp.length)else[]else[])] })
structure RG(R:RL):Prop where
 sh:0<=R.sh/\R.sh<=1000
 fl:R.fl.length<=900000
 sp:R.sp.length<=900000
 st:R.st.length<=900
 pD:∀p∈R.st,(∀x∈p.2,aQ x=true)/\p.2.length<=4000
 ps:∀f∈R.fl,f.ps.length<=200
theorem Di{m:SM}{k:Ky}(h:cr m k≠[]):(k,cr m k)∈m:=by
 unfold cr at h⊢
 cases hg:aR m k with
 |none=>rw[hg]at h;exact absurd rfl h
 |some x=>exact kV hg
theorem RG.wG{R:RL}(h:RG R)(k:Ky):(∀x∈cr R.st k,aQ x=true)/\(cr R.st k).length<=4000:=by
 by_cases hs:cr R.st k=[]
 ·rw[hs];exact⟨fun x hx=>(by cases hx),abO _⟩
 ·exact h.pD _ (Di hs)
theorem RG.val{R:RL}(h:RG R)(k:Ky):ca (cr R.st k)=true:=by
 have:=h.wG k
 simp only[ca,aca,abY,decide_eq_true_eq]
 exact⟨this.1,by omega⟩
theorem nX(m:SM)(k k':Ky)(l:List Lt):cr (aU m k l) k'=if k=k' then l else cr m k':=by
 unfold cr;rw[kU];split<;>rfl
theorem y8{κ β:Type}[DecidableEq κ](m:List (κ×β))(k:κ)(x:β):(aU m k x).length<=m.length+1:=by
 have:=congrArg List.length (uO m k x)
 rw[abz]at this
 split at this<;>simp at this<;>omega
variable [bJ]
theorem Ir{f:Nat}{args rs:List AV}{K:ae}(R:RL)(h:aq Tryz.prog f args 4 K 0 rs (dE R)):aq Tryz.prog f args 4 K 0 rs (jI 1 1 0 R):=by
 refine rO (i:=2) (e0:=0) (K1:=jI 1 0 0 R) (rO (i:=1) (e0:=0) (K1:=dE R) h (by omega) ⟨_,rfl,rfl,fun j hj=>?_⟩) (by omega) ⟨_,rfl,rfl,fun j hj=>?_⟩
 ·match j,hj with
  |0,_=>exact .cells (.same _ (.same _ (.same _ (.same _ (.same _ (.rY (.same _ (.same _ .nil))))))))
  |2,_=>exact .refl _
  |3,_=>exact .refl _
  |j+4,_=>exact .refl _
 ·match j,hj with
  |0,_=>exact .cells (.same _ (.same _ (.same _ (.same _ (.same _ (.same _ (.rY (.same _ .nil))))))))
  |1,_=>exact .refl _
  |3,_=>exact .refl _
  |j+4,_=>exact .refl _
theorem y9(R:RL)(s:dJ)(m:dX)(hR:RG R)(hm:fV m=true)(hp:m.ps.length<=20)(hb:s.kind=5->∀x∈m.ps,0<=x.f/\x.f<=9223372036854775807):aq Tryz.prog 26 [.ptr 0 0,cJ (aC s),cJ (ak m)] 4 (dE R) 0 [.dv (I (cE R s m).1)] (jI 1 1 0 (cE R s m).2):=by
 have hB:RB R:=⟨hR.sh,hR.fl,hR.sp⟩
 have hbm:=abQ hm
 have hs:=hR.wG (m.fr,m.it)
 have aj:=hR.wG (m.to,m.it)
 have W9:∀y∈cr R.st (m.to,m.it),0<=y.a/\y.a<=1099511627776/\0<=y.n/\y.n<=1099511627776:=fun y hy=>by
  have:=aw.1 (aj.1 y hy);omega
 have hle:=hR.st
 by_cases ec:0<m.fr
 ·have ck:∀l,cr (aU R.st (m.fr,m.it) l) (m.to,m.it)=cr R.st (m.to,m.it):=fun l=>by
   rw[nX,if_neg];intro h;injection h with h1;omega
  have SB:∀l,(aU R.st (m.fr,m.it) l).length<=100000:=fun l=>by have:=y8 R.st (m.fr,m.it) l;omega
  have fin:∀(tk l:List Lt),D2 R s.kind m=(0,tk,aU R.st (m.fr,m.it) l)->aq Tryz.prog 53 [.ptr 0 0,.dv (I s.kind),cJ (ak m)] 4 (dE R) 0 [.dv (aS tk),.dv (I 0)] (jI 1 0 0 (uT R (m.fr,m.it) l))->aq Tryz.prog 26 [.ptr 0 0,cJ (aC s),cJ (ak m)] 4 (dE R) 0 [.dv (I (cE R s m).1)] (jI 1 1 0 (cE R s m).2):=fun tk l e ht=>by
   have:=L7 R (aU R.st (m.fr,m.it) l) s m tk ec hB (by omega) (SB l) (by rw[ck];exact⟨by omega,W9⟩) ht
   unfold cE
   rw[e,if_neg (by simp),if_neg (by omega),if_neg (by omega:¬m.fr=0)]
   exact this
  have err:D2 R s.kind m=(10,[],R.st)->aq Tryz.prog 53 [.ptr 0 0,.dv (I s.kind),cJ (ak m)] 4 (dE R) 0 [.dv (aS []),.dv (I 10)] (dE R)->aq Tryz.prog 26 [.ptr 0 0,cJ (aC s),cJ (ak m)] 4 (dE R) 0 [.dv (I (cE R s m).1)] (jI 1 1 0 (cE R s m).2):=fun e ht=>by
   unfold cE
   rw[e,if_pos (by simp)]
   exact Ir R (BG R s m 10 [] (by omega) hB ht)
  by_cases lu:m.ps=[]
  ·have ht:=L4 R s.kind m ec lu (by omega) (by omega) (by omega) (hR.val _)
   have e:D2 R s.kind m=bif decide (bQ (cr R.st (m.fr,m.it))<m.n)then(10,[],R.st)else(0,(gj (cr R.st (m.fr,m.it)) m.n (zV m.it)).1,aU R.st (m.fr,m.it) (gj (cr R.st (m.fr,m.it)) m.n (zV m.it)).2):=by
    unfold D2;rw[if_pos ec,if_pos lu]
   cases hc:decide (bQ (cr R.st (m.fr,m.it))<m.n)<;>rw[hc]at ht e
   ·exact fin _ _ e ht
   ·exact err e ht
  ·have hz:m.ps.length*((cr R.st (m.fr,m.it)).length+1)<=20*4001:=Nat.mul_le_mul hp (by omega)
   have hz2:(cr R.st (m.fr,m.it)).length*(m.ps.length+1)<=4000*21:=Nat.mul_le_mul (by omega) (by omega)
   have ht:=L3 R s.kind m ec lu (by omega) (by omega) (by omega) (by omega) (by omega)
   have e:D2 R s.kind m=bif tc m.ps (cr R.st (m.fr,m.it))then(0,m.ps,aU R.st (m.fr,m.it) (Kg (cr R.st (m.fr,m.it)) m.ps))else(10,[],R.st):=by
    unfold D2;rw[if_pos ec,if_neg lu]
   cases hc:tc m.ps (cr R.st (m.fr,m.it))<;>rw[hc]at ht e
   ·exact err e ht
   ·exact fin _ _ e ht
 ·have td:m.fr=0:=by omega
  have ht:=L5 R s.kind m ec (by omega) (by have:=hR.fl;omega) hR.ps hb
  have e:D2 R s.kind m=(if s.kind=5 then uV R.sh R.fl m.ps else if s.kind=9 then uW R.fl m.it m.ps else 0,if s.kind=5\/s.kind=9 then m.ps else[],R.st):=by
   unfold D2;rw[if_neg ec]
  generalize (if s.kind=5 then uV R.sh R.fl m.ps else if s.kind=9 then uW R.fl m.it m.ps else 0)=er at*
  generalize (if s.kind=5\/s.kind=9 then m.ps else[])=tk at*
  unfold cE
  rw[e]
  by_cases he:er=0
  ·subst he
   rcases m with⟨fr,to,it,n,ps⟩
   dsimp only at*
   subst td
   have h0:=L8 R s to it n ps tk hB (by omega) (by omega) (fun p hp=>by have:=(hR.pD p hp).2;omega) ⟨by omega,W9⟩ (by omega) _ rfl ht
   rw[if_neg (by simp)]
   by_cases hc:1099511627776<dp R.st it+n
   ·rw[if_pos ⟨rfl,hc⟩]
    rw[if_pos hc,if_neg (by omega)]at h0
    exact Ir R h0
   ·rw[if_neg (fun h=>hc h.2),if_pos (by omega),if_pos rfl]
    rw[if_neg hc,if_pos rfl]at h0
    exact h0
  ·rw[if_pos he]
   exact Ir R (BG R s m er tk he hB ht)
end
section
open Go.TM
theorem Kj:∀(l:List Int) (i:Nat),i<l.length->(kf l i).sum=l.sum+1
 |a::l,0,_=>by simp[kf];omega
 |a::l,i+1,h=>by
  have:=Kj l i (by simpa using h)
  unfold kf at*
  simp only[List.set_cons_succ,List.sum_cons,List.getD_cons_succ]
  omega
theorem FQ:∀(o:List Nat) (l:List Int),(∀i∈o,i<l.length)->(o.foldl kf l).sum=l.sum+o.length
 |[],l,_=>by simp
 |i::o,l,h=>by
  rw[List.foldl_cons,FQ o _ fun k hk=>by rw[w6];exact h k (abH _ hk),Kj l i (h i abL),List.length_cons]
  omega
theorem PH{rs qs:List Int}(hl:qs.length=rs.length){m:Nat}(hm:m<=rs.length):(plus rs qs m).sum=qs.sum+m:=by
 obtain⟨o,ho⟩:=H5 rs
 rw[<-yL ho hl m,FQ _ _ fun i hi=>?_,abU,ho.len]
 ·congr 2;omega
 ·have:=ho.perm.mem_iff.1 (List.mem_of_mem_take hi)
  rw[ab2]at this;omega
theorem SE{t:Int}{ws:List Int}(hs:0<ws.sum):(zT t ws).sum=t:=by
 have h:=w7 (t:=t) hs
 have hc:(rL t ws.sum ws).countP (fun x=>decide (0<x))<=(rL t ws.sum ws).length:=List.countP_le_length
 unfold zT
 rw[PH (by simp[qL,rL]) (by omega)]
 have:(((fT t ws.sum ws).toNat:Nat):Int)=fT t ws.sum ws:=by omega
 rw[this]
 unfold fT;omega
theorem PI{s:List Lt}{n:Int}(mx:Bool)(hn:0<=n)(hs:∀x∈s,0<=x.n)(ht:n<=du s):(qq s n mx).sum=n:=by
 unfold qq
 by_cases h:0<n
 ·cases mx with
  |true=>
   rw[abW h]
   exact SE (show 0<(s.map (·.n)).sum by rw[pB];omega)
  |false=>exact(yX hn hs).2.2 ht
 ·rw[abX h,Bool.and_false]
  exact(yX hn hs).2.2 ht
theorem Kk{s:List Lt}{ks:List Int}(hk:ks.length=s.length):∀i,i<=s.length->du (mo s ks i).1=(ks.take i).sum/\du (mo s ks i).2=du (s.take i)-(ks.take i).sum
 |0,_=>by simp[mo,du]
 |i+1,h=>by
  obtain⟨h1,h2⟩:=Kk hk i (by omega)
  obtain⟨x,hx⟩:∃x,s[i]?=some x:=⟨_,aaa (show i<s.length by omega)⟩
  obtain⟨k,AL⟩:∃k,ks[i]?=some k:=⟨_,aaa (show i<ks.length by omega)⟩
  rw[yY hx AL,uQ hx,abJ,AL,List.sum_append]
  unfold tkF
  simp only[Fw,Option.toList_some,List.sum_cons,List.sum_nil]
  omega
theorem PJ{s:List Lt}{n:Int}(mx:Bool)(hn:0<=n)(hs:∀x∈s,aQ x=true)(ht:n<=du s):du (gj s n mx).1=n/\du (gj s n mx).2=du s-n:=by
 have hc:=(C6 mx hn hs ht).1
 have h:=Kk hc s.length (ab3 _)
 rw[abP,<-hc,abP,PI mx hn (fun x hx=>(lR (hs x hx)).1) ht,hc]at h
 exact h
theorem SF{s:List Lt}{n:Int}(mx:Bool)(hn:0<=n)(hs:∀x∈s,aQ x=true)(ht:n<=du s):(∀y∈(gj s n mx).1,aQ y=true)/\(∀y∈(gj s n mx).2,aQ y=true)/\(gj s n mx).1.length<=s.length/\(gj s n mx).2.length<=s.length:=
 H9 hs (C6 mx hn hs ht) s.length (ab3 _)
end
section
open Go.TM
theorem za{κ β:Type}[DecidableEq κ]{m:List (κ×β)}{k:κ}{x:β}{p:κ×β}(h:p∈aU m k x):p=(k,x)\/p∈m:=by
 induction m with
 |nil=>exact .inl (abF.1 h)
 |cons q r ih=>
  obtain⟨a,v⟩:=q
  simp only[aU]at h
  split at h
  ·rcases abG.1 h with h|h
   ·exact .inl h
   ·exact .inr (abH _ h)
  ·rcases abG.1 h with h|h
   ·exact .inr (by rw[h];exact abL)
   ·exact(ih h).imp id (abH _)
theorem L9{κ β:Type}[DecidableEq κ]{m:List (κ×β)}{k:κ}{x y:β}(h:aR m k=some y):(aU m k x).length=m.length:=by
 have:=congrArg List.length (uO m k x)
 rw[if_pos (ab1.2 ⟨_,kV h,rfl⟩),abz,abz]at this
 exact this
theorem zb:bQ []=0:=rfl
theorem th(it:Int)(l:List Lt)(k:Ky):∀m:SM,dp (aU m k l) it=dp m it+if k.2=it then bQ l-bQ (cr m k)else 0
 |[]=>by
  simp only[aU,dp,Dc,cr,aR,List.map_cons,List.map_nil,List.sum_cons,List.sum_nil,Option.getD_none,zb]
  split<;>omega
 |(q,v)::r=>by
  have ih:=th it l k r
  unfold aU
  by_cases e:q=k
  ·subst e
   rw[if_pos rfl]
   simp only[dp,Dc,cr,aR,List.map_cons,List.sum_cons,if_pos,Option.getD_some]
   split<;>omega
  ·rw[if_neg e]
   have:cr ((q,v)::r) k=cr r k:=by unfold cr;simp only[aR];rw[if_neg e]
   rw[this]
   simp only[dp,List.map_cons,List.sum_cons]at*
   rw[ih];omega
theorem pE{s:List Lt}(h:ca s=true):bQ s=du s:=by unfold bQ;rw[h];rfl
theorem gK{l:List Lt}(h:∀x∈l,aQ x=true)(h2:l.length<=4096):ca l=true:=by
 simp only[ca,aca,abY,decide_eq_true_eq];exact⟨h,h2⟩
structure Good(R:RL):Prop where
 sh:0<=R.sh/\R.sh<=11
 sp:R.sp.length<=14
 fl:R.fl.length<=64
 nk:Nk R.st
 st:R.st.length<=R.fl.length
 pD:∀p∈R.st,(∀x∈p.2,aQ x=true)/\p.2.length<=R.fl.length
 tb:∀it,dp R.st it<=1099511627776
 MR:∀f∈R.fl,f.ps.length<=64/\f.md.length<=64/\R.sh*4294967296<=f.id/\f.id<R.sh*4294967296+R.fl.length/\f.step<=R.sh*4294967296+R.sp.length/\(f.kind=5->∃g,0<=g/\f.ps=[⟨g,0,3⟩])
theorem Good.rg{R:RL}(h:Good R):RG R where
 sh:=by have:=h.sh;omega
 fl:=by have:=h.fl;omega
 sp:=by have:=h.sp;omega
 st:=by have:=h.fl;have:=h.st;omega
 pD p hp:=⟨(h.pD p hp).1,by have:=h.fl;have:=(h.pD p hp).2;omega⟩
 ps f hf:=by have:=(h.MR f hf).1;omega
theorem Good.wG{R:RL}(h:Good R)(k:Ky):(∀x∈cr R.st k,aQ x=true)/\(cr R.st k).length<=R.fl.length:=by
 by_cases hs:cr R.st k=[]
 ·rw[hs];exact⟨fun x hx=>(by cases hx),abO _⟩
 ·exact h.pD _ (Di hs)
structure Ma(sh:Int)(s:dJ)(m:dX):Prop where
 base:fV m=true
 ps:(s.kind=5/\m.fr=0/\∃g,0<=g/\g<=9223372036854775807/\m.ps=[⟨g,0,3⟩])\/(s.kind=9/\m.fr=0/\∃g,0<=g/\g<=9223372036854775807/\m.ps=[⟨g,0,3⟩]/\(g-sh*4294967296<0\/1000<=g-sh*4294967296))\/(s.kind≠5/\s.kind≠9/\m.ps=[])
theorem Kl(R:RL)(s:dJ)(m:dX)(hf:0<m.fr)(hp:m.ps=[]):cE R s m=if bQ (cr R.st (m.fr,m.it))<m.n then(10,R)else(0,{ R with
 st:=if 0<m.to then aU (aU R.st (m.fr,m.it) (gj (cr R.st (m.fr,m.it)) m.n (zV m.it)).2) (m.to,m.it) (bj (cr (aU R.st (m.fr,m.it) (gj (cr R.st (m.fr,m.it)) m.n (zV m.it)).2) (m.to,m.it)) ⟨R.sh*4294967296+R.fl.length,0,m.n⟩)else aU R.st (m.fr,m.it) (gj (cr R.st (m.fr,m.it)) m.n (zV m.it)).2
 fl:=R.fl++[gF R s m (gj (cr R.st (m.fr,m.it)) m.n (zV m.it)).1 []] }):=by
 have e:D2 R s.kind m=bif decide (bQ (cr R.st (m.fr,m.it))<m.n)then(10,[],R.st)else(0,(gj (cr R.st (m.fr,m.it)) m.n (zV m.it)).1,aU R.st (m.fr,m.it) (gj (cr R.st (m.fr,m.it)) m.n (zV m.it)).2):=by
  unfold D2;rw[if_pos hf,if_pos hp]
 unfold cE
 rw[e]
 by_cases hc:bQ (cr R.st (m.fr,m.it))<m.n
 ·rw[abW hc,if_pos hc];exact if_pos (by simp)
 ·rw[abX hc,if_neg hc]
  simp only[cond_false]
  rw[if_neg (by simp),if_neg (by omega),if_neg (by omega:¬m.fr=0)]
def D3(R:RL)(k:Int)(m:dX):Int:=if k=5 then uV R.sh R.fl m.ps else if k=9 then uW R.fl m.it m.ps else 0
theorem PK(R:RL)(s:dJ)(m:dX)(hf:m.fr=0)(ht:0<m.to):cE R s m=if D3 R s.kind m≠0 then(D3 R s.kind m,R)else if 1099511627776<dp R.st m.it+m.n then(4,R)else(0,{ R with
 st:=aU R.st (m.to,m.it) (bj (cr R.st (m.to,m.it)) ⟨R.sh*4294967296+R.fl.length,0,m.n⟩)
 fl:=R.fl++[gF R s m (if s.kind=5\/s.kind=9 then m.ps else[]) (bif wF s.kind then rZ R.fl (R.sh*4294967296+R.sp.length)else[])] }):=by
 have e:D2 R s.kind m=(D3 R s.kind m,if s.kind=5\/s.kind=9 then m.ps else[],R.st):=by
  unfold D2 D3;rw[if_neg (by omega)]
 unfold cE
 rw[e]
 simp only[hf,true_and,if_true,if_pos ht]
theorem Ci{l:List Lt}{x:Lt}{n:Nat}(hl:(∀y∈l,aQ y=true)/\l.length<=n)(hx:0<=x.f/\0<=x.a/\1<=x.n/\x.a+x.n<=1099511627776)(hn:n<=100):((∀y∈bj l x,aQ y=true)/\(bj l x).length<=n+1)/\bQ (bj l x)=bQ l+x.n:=by
 have h1:=ic hl.1 (x:=x) ⟨hx.1,hx.2.1,by omega,hx.2.2.2⟩
 have h2:=fj l x
 refine⟨⟨h1,by omega⟩,?_⟩
 rw[pE (gK h1 (by omega)),pE (gK hl.1 (by omega)),Fw]
theorem Km{R:RL}{s:dJ}{m:dX}(hG:Good R)(hl:R.fl.length+1<=64)(hm:Ma R.sh s m)(h0:(cE R s m).1=0):
 Good (cE R s m).2/\(cE R s m).2.fl.length=R.fl.length+1/\∀j,dp (cE R s m).2.st j=if m.it=j then dp R.st j+(if m.fr=0 then m.n else 0)-(if m.to=0 then m.n else 0)else dp R.st j:=by
 have hb:=abQ hm.base
 have hS:=hG.wG (m.fr,m.it)
 have wV:=hG.sh
 have oe:=hG.fl
 have wS:0<=R.sh*4294967296+R.fl.length:=by omega
 have MR:∀f,(f.ps.length<=64/\f.md.length<=64/\f.id=R.sh*4294967296+R.fl.length/\f.step=R.sh*4294967296+R.sp.length/\(f.kind=5->∃g,0<=g/\f.ps=[⟨g,0,3⟩]))->∀x∈R.fl++[f],x.ps.length<=64/\x.md.length<=64/\R.sh*4294967296<=x.id/\x.id<R.sh*4294967296+(R.fl++[f]).length/\x.step<=R.sh*4294967296+R.sp.length/\(x.kind=5->∃g,0<=g/\x.ps=[⟨g,0,3⟩]):=by
  intro f hf x hx
  rw[abM,List.length_singleton]
  rcases abI.1 hx with hx|hx
  ·obtain⟨a1,a2,a3,a4,a5,a6⟩:=hG.MR x hx
   exact⟨a1,a2,a3,by omega,a5,a6⟩
  ·rw[abF]at hx;subst hx
   obtain⟨a1,a2,a3,a4,a5⟩:=hf
   exact⟨a1,a2,by omega,by omega,by omega,a5⟩
 by_cases ec:0<m.fr
 ·have hk:s.kind≠5/\m.ps=[]:=by
   rcases hm.ps with h|h|h
   ·omega
   ·omega
   ·exact⟨h.1,h.2.2⟩
  rw[Kl R s m ec hk.2]at h0⊢
  by_cases hc:bQ (cr R.st (m.fr,m.it))<m.n
  ·rw[if_pos hc]at h0;cases h0
  rw[if_neg hc]
  have hv:=gK hS.1 (by omega)
  have hn:m.n<=du (cr R.st (m.fr,m.it)):=by rw[pE hv]at hc;omega
  obtain⟨t1,t2,t3,t4⟩:=SF (zV m.it) (by omega:0<=m.n) hS.1 hn
  have ts:=(PJ (zV m.it) (by omega:0<=m.n) hS.1 hn).2
  generalize gj (cr R.st (m.fr,m.it)) m.n (zV m.it)=tk at*
  have hex:∃y,aR R.st (m.fr,m.it)=some y:=by
   cases hg:aR R.st (m.fr,m.it)with
   |some y=>exact⟨y,rfl⟩
   |none=>
    have:cr R.st (m.fr,m.it)=[]:=by unfold cr;rw[hg];rfl
    rw[this,zb]at hc;omega
  obtain⟨y,hy⟩:=hex
  have ck:cr (aU R.st (m.fr,m.it) tk.2) (m.to,m.it)=cr R.st (m.to,m.it):=by
   rw[nX,if_neg];intro h;injection h with h1;omega
  have Zm:∀j,dp (aU R.st (m.fr,m.it) tk.2) j=dp R.st j+if m.it=j then -m.n else 0:=by
   intro j
   rw[th,pE (gK t2 (by omega)),pE hv,ts]
   split<;>omega
  have hT:=Ci (x:=⟨R.sh*4294967296+R.fl.length,0,m.n⟩) (hG.wG (m.to,m.it)) ⟨wS,by simp,by simp only;omega,by simp only;omega⟩ (by omega)
  have l1:=L9 (x:=tk.2) hy
  have l2:=y8 (aU R.st (m.fr,m.it) tk.2) (m.to,m.it) (bj (cr R.st (m.to,m.it)) ⟨R.sh*4294967296+R.fl.length,0,m.n⟩)
  have aj:=hG.st
  have Mb:∀j,dp (if 0<m.to then aU (aU R.st (m.fr,m.it) tk.2) (m.to,m.it) (bj (cr R.st (m.to,m.it)) ⟨R.sh*4294967296+R.fl.length,0,m.n⟩)else aU R.st (m.fr,m.it) tk.2) j=if m.it=j then dp R.st j+(if m.fr=0 then m.n else 0)-(if m.to=0 then m.n else 0)else dp R.st j:=by
   intro j
   rw[if_neg (by omega:¬m.fr=0)]
   by_cases lx:0<m.to
   ·rw[if_pos lx,if_neg (by omega:¬m.to=0),th,Zm,ck,hT.2]
    simp only
    split<;>omega
   ·rw[if_neg lx,if_pos (by omega:m.to=0),Zm]
    split<;>omega
  rw[ck]
  refine⟨⟨wV,hG.sp,by simp only[abM,List.length_singleton];omega,?_,?_,?_,?_,?_⟩,by simp only[abM,List.length_singleton],Mb⟩
  ·simp only
   split
   ·exact(hG.nk.put _ _).put _ _
   ·exact hG.nk.put _ _
  ·simp only[abM,List.length_singleton]
   split<;>omega
  ·intro p hp
   simp only[abM,List.length_singleton]at hp⊢
   have h1:p∈aU R.st (m.fr,m.it) tk.2->(∀x∈p.2,aQ x=true)/\p.2.length<=R.fl.length+1:=fun hp=>by
    rcases za hp with rfl|hp
    ·exact⟨t2,by simp only;omega⟩
    ·exact⟨(hG.pD p hp).1,by have:=(hG.pD p hp).2;omega⟩
   split at hp
   ·rcases za hp with rfl|hp
    ·exact⟨hT.1.1,hT.1.2⟩
    ·exact h1 hp
   ·exact h1 hp
  ·intro j
   have:=Mb j
   have:=hG.tb j
   simp only at*
   rw[Mb j]
   split
   ·rw[if_neg (by omega:¬m.fr=0)]
    split<;>omega
   ·omega
  ·exact MR _ ⟨by simp only[gF];omega,by simp[gF],rfl,rfl,fun h=>absurd h hk.1⟩
 ·have td:m.fr=0:=by omega
  have lx:0<m.to:=by omega
  rw[PK R s m td lx]at h0⊢
  by_cases he:D3 R s.kind m≠0
  ·rw[if_pos he]at h0;exact absurd h0 he
  rw[if_neg he]at h0⊢
  by_cases hc:1099511627776<dp R.st m.it+m.n
  ·rw[if_pos hc]at h0;cases h0
  rw[if_neg hc]
  have hT:=Ci (x:=⟨R.sh*4294967296+R.fl.length,0,m.n⟩) (hG.wG (m.to,m.it)) ⟨wS,by simp,by simp only;omega,by simp only;omega⟩ (by omega)
  have l2:=y8 R.st (m.to,m.it) (bj (cr R.st (m.to,m.it)) ⟨R.sh*4294967296+R.fl.length,0,m.n⟩)
  have aj:=hG.st
  have Mb:∀j,dp (aU R.st (m.to,m.it) (bj (cr R.st (m.to,m.it)) ⟨R.sh*4294967296+R.fl.length,0,m.n⟩)) j=if m.it=j then dp R.st j+(if m.fr=0 then m.n else 0)-(if m.to=0 then m.n else 0)else dp R.st j:=by
   intro j
   rw[if_pos td,if_neg (by omega:¬m.to=0),th,hT.2]
   simp only
   split<;>omega
  refine⟨⟨wV,hG.sp,by simp only[abM,List.length_singleton];omega,hG.nk.put _ _,?_,?_,?_,?_⟩,by simp only[abM,List.length_singleton],Mb⟩
  ·simp only[abM,List.length_singleton]
   omega
  ·intro p hp
   simp only[abM,List.length_singleton]at hp⊢
   rcases za hp with rfl|hp
   ·exact⟨hT.1.1,hT.1.2⟩
   ·exact⟨(hG.pD p hp).1,by have:=(hG.pD p hp).2;omega⟩
  ·intro j
   have:=hG.tb j
   simp only at*
   rw[Mb j]
   split
   ·rename_i e;subst e
    (repeat' split)<;>omega
   ·omega
  ·have h1:(bif wF s.kind then rZ R.fl (R.sh*4294967296+R.sp.length)else[]).length<=64:=by
    have:=Dh R.fl (R.sh*4294967296+R.sp.length)
    cases wF s.kind
    ·exact abO _
    ·exact Nat.le_trans this (by omega)
   refine MR _ ⟨?_,h1,rfl,rfl,?_⟩
   ·simp only[gF]
    rcases hm.ps with⟨h,_,g,_,_,h2⟩|⟨h,_,g,_,_,h2,_⟩|⟨h,h3,h2⟩
    ·rw[if_pos (.inl h),h2];simp
    ·rw[if_pos (.inr h),h2];simp
    ·rw[h2];split<;>simp
   ·intro h
    rcases hm.ps with⟨_,_,g,g0,_,h2⟩|⟨h9,_⟩|⟨h5,_⟩
    ·exact⟨g,g0,by simp only[gF];rw[if_pos (.inl h),h2]⟩
    ·rw[show s.kind=5 from h]at h9;cases h9
    ·exact absurd h h5
end
end Go.Proofs.YtpbiiigpphehbaaGreatDoor
