import Derived.Test.YtmojfblpbcficaaGreatDoorUM21
import Derived.Test.YtmojfblpbcficaaGreatDoorUM22
import Derived.Test.YtmojfblpbcficaaGreatDoorUM19
import Derived.Test.YtmojfblpbcficaaGreatDoorUM17
set_option linter.all false
open Go.TM.oA Go.TM.oB Go.TM.oC Go.TM.oD Go.TM.oE
namespace Go.Proofs.YtmojfblpbcficaaGreatDoor
set_option maxRecDepth 100000
set_option maxHeartbeats 4000000
section
open Go.TM
def cS(R:RL)(s:cJ)(m:dc)(tk:List Lt)(md:List Int):eS:=⟨R.sh*4294967296+R.fl.length,R.sh*4294967296+R.sp.length,s.kind,s.tick,s.jt,m.fr,m.to,m.it,m.n,tk,md⟩
structure RB(R:RL):Prop where
 sh:0<=R.sh/\R.sh<=1000
 fl:R.fl.length<=900000
 sp:R.sp.length<=900000
variable [bp]
theorem BZ(R:RL)(s:cJ)(m:dc)(e:Int)(tk:List Lt)(he:e≠0)(hb:RB R)(ht:aj Tryz.prog 92 [.ptr 0 0,.dv (I s.kind),cH (ao m)] 4 (de R) 0 [.dv (aM tk),.dv (I e)] (de R)):aj Tryz.prog 51 [.ptr 0 0,cH (aC s),cH (ao m)] 4 (de R) 0 [.dv (I e)] (de R):=by
 obtain⟨pf,hf,hn⟩:=hb
 refine cO Tryz.func51 rfl (by kernel_rfl) ?_
 have lf:(R.fl.map aG).length=R.fl.length:=WY ..
 have lp:(R.sp.map aC).length=R.sp.length:=WY ..
 have m1:-9223372036854775808<=R.sh*4294967296/\R.sh*4294967296<=9223372036854775807:=by omega
 have m2:-9223372036854775808<=R.sh*4294967296+((R.fl.map aG).length:Int)/\R.sh*4294967296+((R.fl.map aG).length:Int)<=9223372036854775807:=by omega
 have m3:-9223372036854775808<=R.sh*4294967296+((R.sp.map aC).length:Int)/\R.sh*4294967296+((R.sp.map aC).length:Int)<=9223372036854775807:=by omega
 refine⟨fun _=>m1,fun _=>m2,fun _=>m1,fun _=>m3,by kernel_rfl,?_⟩
 refine .inr (cl [0,1,2,3] ht (by kernel_rfl) rfl rfl ?_)
 refine T5 (fun _=>?_) fun h=>by simp[he]at h
 exact ext (by kernel_rfl) rfl rfl
theorem Nd(R:RL)(st1:SM)(s:cJ)(m:dc)(tk:List Lt)(fb:0<m.fr)(hb:RB R)(Zx:0<=m.n/\m.n<=1099511627776)(h1:st1.length<=100000)(hk:(aW st1 (m.to,m.it)).length<4096/\∀y∈aW st1 (m.to,m.it),0<=y.a/\y.a<=1099511627776/\0<=y.n/\y.n<=1099511627776)(ht:aj Tryz.prog 92 [.ptr 0 0,.dv (I s.kind),cH (ao m)] 4 (de R) 0 [.dv (aM tk),.dv (I 0)] (jG 1 0 0 { R with st:=st1 })):aj Tryz.prog 51 [.ptr 0 0,cH (aC s),cH (ao m)] 4 (de R) 0 [.dv (I 0)] (jG 1 1 0 { R with st:=if 0<m.to then aH st1 (m.to,m.it) (aR (aW st1 (m.to,m.it)) ⟨R.sh*4294967296+R.fl.length,0,m.n⟩)else st1,fl:=R.fl++[cS R s m tk []] }):=by
 obtain⟨pf,hf,hn⟩:=hb
 refine cO Tryz.func51 rfl (by kernel_rfl) ?_
 have lf:(R.fl.map aG).length=R.fl.length:=WY ..
 have lp:(R.sp.map aC).length=R.sp.length:=WY ..
 have m1:-9223372036854775808<=R.sh*4294967296/\R.sh*4294967296<=9223372036854775807:=by omega
 have m2:-9223372036854775808<=R.sh*4294967296+((R.fl.map aG).length:Int)/\R.sh*4294967296+((R.fl.map aG).length:Int)<=9223372036854775807:=by omega
 have m3:-9223372036854775808<=R.sh*4294967296+((R.sp.map aC).length:Int)/\R.sh*4294967296+((R.sp.map aC).length:Int)<=9223372036854775807:=by omega
 refine⟨fun _=>m1,fun _=>m2,fun _=>m1,fun _=>m3,by kernel_rfl,?_⟩
 refine .inr (cl [0,1,2,3] ht (by kernel_rfl) rfl rfl ?_)
 refine T5 (fun h=>by cases h) fun _=>?_
 refine⟨Unit,fun _=>⟨7,[(0,.ptr 0 0),(4,.ptr 4 0),(5,.ptr 5 0),(7,.ptr 6 0),(10,.dv (I 0))],jG 1 0 0 { R with st:=st1 }++[(4,.cells (ed (aC s).cells)),(5,.cells (ed (ao m).cells)),(6,.cells (ed [I (R.sh*4294967296+((R.fl.map aG).length:Int)),I (R.sh*4294967296+((R.sp.map aC).length:Int)),I s.kind,I s.tick,I s.jt,I m.fr,I m.to,I m.it,I m.n,aM tk,.ax]))]⟩,fun _=>True,fun _=>0,(),fun _=>rfl,jn rfl rfl rfl rfl,tv,?_⟩
 rintro i-
 repeat refine gG ?_
 refine T5 ?_ ?_
 ·intro h
  exact absurd h (by simp;omega)
 intro _
 have Uh:(m.fr==0)=false:=by simp;omega
 repeat refine gG ?_
 refine .inl ⟨by rw[Uh];rfl,[I 0],(fun h=>by rw[Uh]at h;cases h),rfl,?_⟩
 repeat refine gG ?_
 refine⟨fun h=>(by rw[Uh]at h;cases h),?_⟩
 repeat refine gG ?_
 refine⟨by kernel_rfl,T5 (fun h=>(by rw[Uh]at h;cases h)) fun _=>?_⟩
 refine T5 (fun jH=>?_) (fun jH=>?_)
 ·have jH:0<m.to:=adz jH
  rw[if_pos jH]
  refine .inr (cl [0,1,2,3] (gj { R with st:=st1 } m.to m.it h1) (by kernel_rfl) rfl rfl ?_)
  have Io:=fh (aW st1 (m.to,m.it)) ⟨R.sh*4294967296+R.fl.length,0,m.n⟩
  have ha:=qa (aW st1 (m.to,m.it)) ⟨R.sh*4294967296+R.fl.length,0,m.n⟩ (by omega) hk.2 Zx
  rw[<-lf]at ha Io⊢
  refine .inl ⟨_,fun _=>ha.ok,?_⟩
  generalize aR (aW st1 (m.to,m.it)) ⟨R.sh*4294967296+((R.fl.map aG).length:Int),0,m.n⟩=nx at*
  refine⟨by kernel_rfl,T5 (fun h=>?_) fun _=>?_⟩
  ·have:=adz h;rw[WY]at this;omega
  refine .inr (cl [0,1,2,3] (oj { R with st:=st1 } m.to m.it nx h1) (by kernel_rfl) rfl rfl ?_)
  refine .inl ⟨[aG (cS R s m tk [])],rfl,⟨aJ (by rw[lf];rfl),aJ (by rw[lp];rfl),rf,rf,rf,rf,rf,rf,rf,rf,DV.aI 1,tv⟩,(by simp;rfl),?_⟩
  refine .inr ⟨[aG (cS R s m tk [])],b7.refl _,bF (by simp[vk];omega),by simp[vk];omega,?_⟩
  refine⟨by kernel_rfl,ext (by kernel_rfl) rfl ?_⟩
  simp only[jG,adB]
  rfl
 ·have jH:¬0<m.to:=adA jH
  rw[if_neg jH]
  refine .inl ⟨[aG (cS R s m tk [])],rfl,⟨aJ (by rw[lf];rfl),aJ (by rw[lp];rfl),rf,rf,rf,rf,rf,rf,rf,rf,DV.aI 1,tv⟩,(by simp;rfl),?_⟩
  refine .inr ⟨[aG (cS R s m tk [])],b7.refl _,bF (by simp[vk];omega),by simp[vk];omega,?_⟩
  refine⟨by kernel_rfl,ext (by kernel_rfl) rfl ?_⟩
  simp only[jG,adB]
  rfl
end
section
open Go.TM
def rD(fl:List eS)(st:Int):List Int:=(fl.filter fun f=>f.step==st&&f.to==0).map (·.id)
def tG(k:Int):Bool:=k==4||k==10
theorem QH{fl:List eS}{st:Int}{j:Nat}{f:eS}(h:fl[j]?=some f):rD (fl.take (j+1)) st=rD (fl.take j) st++bif f.step==st&&f.to==0 then[f.id]else[]:=by
 unfold rD
 rw[ads,h,List.filter_append,adB]
 congr 1
 cases hb:f.step==st&&f.to==0<;>simp[List.filter,hb]
theorem DA(fl:List eS)(st:Int):(rD fl st).length<=fl.length:=by
 unfold rD;rw[WY];exact List.length_filter_le _ _
variable [bp]
theorem Nf(R:RL)(s:cJ)(to it n:Int)(ps tk:List Lt)(hb:RB R)(Zx:0<=n/\n<=1099511627776)(h1:R.st.length<=1000)(hl:∀p∈R.st,p.2.length<=1000000)(hk:(aW R.st (to,it)).length<4096/\∀y∈aW R.st (to,it),0<=y.a/\y.a<=1099511627776/\0<=y.n/\y.n<=1099511627776)(jH:0<to)(e:Int)(he:e=if 1099511627776<bK R.st it+n then 4 else 0)
 (ht:aj Tryz.prog 92 [.ptr 0 0,.dv (I s.kind),cH (ao ⟨0,to,it,n,ps⟩)] 4 (de R) 0 [.dv (aM tk),.dv (I 0)] (de R)):aj Tryz.prog 51 [.ptr 0 0,cH (aC s),cH (ao ⟨0,to,it,n,ps⟩)] 4 (de R) 0 [.dv (I e)] (if e=0 then jG 1 1 0 { R with st:=aH R.st (to,it) (aR (aW R.st (to,it)) ⟨R.sh*4294967296+R.fl.length,0,n⟩),fl:=R.fl++[cS R s ⟨0,to,it,n,ps⟩ tk (bif tG s.kind then rD R.fl (R.sh*4294967296+R.sp.length)else[])] }else de R):=by
 obtain⟨pf,hf,hn⟩:=hb
 refine cO Tryz.func51 rfl (by kernel_rfl) ?_
 have lf:(R.fl.map aG).length=R.fl.length:=WY ..
 have lp:(R.sp.map aC).length=R.sp.length:=WY ..
 have m1:-9223372036854775808<=R.sh*4294967296/\R.sh*4294967296<=9223372036854775807:=by omega
 have m2:-9223372036854775808<=R.sh*4294967296+((R.fl.map aG).length:Int)/\R.sh*4294967296+((R.fl.map aG).length:Int)<=9223372036854775807:=by omega
 have m3:-9223372036854775808<=R.sh*4294967296+((R.sp.map aC).length:Int)/\R.sh*4294967296+((R.sp.map aC).length:Int)<=9223372036854775807:=by omega
 refine⟨fun _=>m1,fun _=>m2,fun _=>m1,fun _=>m3,by kernel_rfl,?_⟩
 refine .inr (cl [0,1,2,3] ht (by kernel_rfl) rfl rfl ?_)
 refine T5 (fun h=>by cases h) fun _=>?_
 refine⟨Nat,fun i=>⟨8,[(0,.ptr 0 0),(4,.ptr 4 0),(5,.ptr 5 0),(7,.ptr 6 0),(10,.dv (I i))],[(0,.cells (rlC R)),(1,.tree 0 0 (.aD 3 (R.st.map fB))),(2,.tree 0 0 (.aD 11 (R.fl.map aG))),(3,.tree 0 0 (.aD 7 (R.sp.map aC))),(4,.cells (ed (aC s).cells)),(5,.cells (ed (ao ⟨0,to,it,n,ps⟩).cells)),(6,.cells ([.dv (I (R.sh*4294967296+((R.fl.map aG).length:Int))),.dv (I (R.sh*4294967296+((R.sp.map aC).length:Int))),.dv (I s.kind),.dv (I s.tick),.dv (I s.jt),.dv (I 0),.dv (I to),.dv (I it),.dv (I n),.dv (aM tk),.own 7 0 0 []])),(7,.tree 0 0 (.aD 1 ((rD (R.fl.take i) (R.sh*4294967296+((R.sp.map aC).length:Int))).map I)))]⟩,fun i=>i<=R.fl.length/\(tG s.kind=false->i=0),fun i=>R.fl.length-i,0,fun _=>rfl,⟨⟨rfl,rfl,rfl,rfl,rf,tv⟩,⟨oi rfl,oi rfl,oi rfl,oi rfl,oi rfl,oi rfl,⟨rf,rf,rf,rf,rf,rf,rf,rf,rf,rf,⟨rfl,rfl,rfl,rfl,1,rfl⟩,tv⟩,⟨rfl,rfl,1,rfl⟩,tv⟩,rfl,rfl⟩,⟨adx _,fun _=>rfl⟩,?_⟩
 rintro i ⟨hi,DB⟩
 repeat refine gG ?_
 refine T5 ?_ ?_
 ·intro h
  have h:=c6 h
  have au:i<R.fl.length:=by have:=adz (c6 h.1).1;omega
  have hm:tG s.kind=true:=by
   have h2:=h.2
   unfold tG
   revert h2
   cases(s.kind==4)<;>simp
  obtain⟨x,hx⟩:∃x,R.fl[i]?=some x:=⟨_,IF au⟩
  have ix:(R.fl.map aG)[(i:Int).toNat]?=some (aG x):=by rw[abW];simp[hx]
  have ib:(0:Int)<=i/\(i:Int)<(R.fl.map aG).length:=(by omega)
  have eG:=QH (st:=R.sh*4294967296+((R.sp.map aC).length:Int)) hx
  have hml:=DA (R.fl.take i) (R.sh*4294967296+((R.sp.map aC).length:Int))
  rw[adD]at hml
  refine⟨fun _=>ib,aG x,fun _=>ix,?_⟩
  repeat refine gG ?_
  refine⟨fun _=>ib,?_⟩
  repeat refine gG ?_
  refine⟨aG x,fun _=>ix,?_⟩
  repeat refine gG ?_
  refine⟨by kernel_rfl,T5 (fun h=>?_) fun h=>?_⟩
  ·have e:(x.step==R.sh*4294967296+((R.sp.map aC).length:Int)&&x.to==0)=true:=by
    have h:=c6 h
    rw[h.1,h.2];rfl
   rw[e]at eG
   refine⟨fun _=>ib,aG x,fun _=>ix,?_⟩
   refine .inl ⟨[I x.id],rfl,⟨rf,tv⟩,(by simp;rfl),?_⟩
   refine .inr ⟨[I x.id],b7.refl _,bI (by simp only[WY,adv,List.length_cons,List.length_nil,adD]at *; omega),by simp only[WY,adv,List.length_cons,List.length_nil,adD]at *; omega,?_⟩
   refine⟨by kernel_rfl,?_⟩
   exact⟨fun _=>by omega,i+1,jn rfl (by simp only[eG,adB];rfl) rfl rfl,⟨by omega,fun hc=>(by rw[hm]at hc;cases hc)⟩,mlt au⟩
  ·have e:(x.step==R.sh*4294967296+((R.sp.map aC).length:Int)&&x.to==0)=false:=by
    have h:=lM h
    rw[Bool.eq_false_iff];intro h2;exact h (by simpa using h2)
   rw[e]at eG
   have eG:rD (R.fl.take (i+1)) (R.sh*4294967296+((R.sp.map aC).length:Int))=rD (R.fl.take i) (R.sh*4294967296+((R.sp.map aC).length:Int)):=eG.trans (List.append_nil _)
   exact⟨fun _=>by omega,i+1,jn rfl (by simp only[eG];rfl) rfl rfl,⟨by omega,fun hc=>(by rw[hm]at hc;cases hc)⟩,mlt au⟩
 intro h
 have hd:rD (R.fl.take i) (R.sh*4294967296+((R.sp.map aC).length:Int))=bif tG s.kind then rD R.fl (R.sh*4294967296+((R.sp.map aC).length:Int))else[]:=by
  cases hm:tG s.kind with
  |false=>rw[DB hm];rfl
  |true=>
   have h:=lM h
   have:¬i<R.fl.length:=fun au=>h ⟨by
    show(bif decide ((i:Int)<((R.fl.map aG).length:Nat))then true else false)=true
    rw[adF (by omega)];rfl,by
    show(bif s.kind==4 then true else s.kind==10)=true
    revert hm
    unfold tG
    cases(s.kind==4)<;>simp⟩
   rw[show i=R.fl.length by omega,ady];rfl
 have b1:=Dv it R.st
 have b2:-9223372036854775808<=bK R.st it+n/\bK R.st it+n<=9223372036854775807:=by omega
 repeat refine gG ?_
 refine .inr (cl [0,1,2,3] (wi R it h1 hl) (by kernel_rfl) rfl rfl ?_)
 refine⟨rfl,?_⟩
 repeat refine gG ?_
 refine⟨fun _=>b2,?_⟩
 repeat refine gG ?_
 refine⟨by kernel_rfl,T5 (fun hc=>?_) fun hc=>?_⟩
 ·have hc:1099511627776<bK R.st it+n:=by simpa using hc
  rw[if_pos hc]at he
  subst he
  exact ext (by kernel_rfl) rfl rfl
 have hc:¬1099511627776<bK R.st it+n:=by simpa using hc
 rw[if_neg hc]at he
 subst he
 rw[if_pos rfl]
 refine T5 (fun _=>?_) fun h=>absurd jH (adA h)
 refine .inr (cl [0,1,2,3] (gj R to it (by omega)) (by kernel_rfl) rfl rfl ?_)
 have Io:=fh (aW R.st (to,it)) ⟨R.sh*4294967296+R.fl.length,0,n⟩
 have ha:=qa (aW R.st (to,it)) ⟨R.sh*4294967296+R.fl.length,0,n⟩ (by omega) hk.2 Zx
 rw[<-lf]at ha Io⊢
 refine .inl ⟨_,fun _=>ha.ok,?_⟩
 generalize aR (aW R.st (to,it)) ⟨R.sh*4294967296+((R.fl.map aG).length:Int),0,n⟩=nx at*
 refine⟨by kernel_rfl,T5 (fun h=>?_) fun _=>?_⟩
 ·have:=adz h;rw[WY]at this;omega
 refine .inr (cl [0,1,2,3] (oj R to it nx (by omega)) (by kernel_rfl) rfl rfl ?_)
 rw[hd]
 refine .inl ⟨[aG (cS R s ⟨0,to,it,n,ps⟩ tk (bif tG s.kind then rD R.fl (R.sh*4294967296+((R.sp.map aC).length:Int))else[]))],rfl,⟨aJ (by rw[lf];rfl),aJ (by rw[lp];rfl),rf,rf,rf,rf,rf,rf,rf,rf,DV.Le.of_eq (by
  show DV.sl 1 (xx ((bif tG s.kind then rD R.fl (R.sh*4294967296+((R.sp.map aC).length:Int))else[]).map I))=_
  rw[fT fun _=>rfl];rfl),tv⟩,(by simp;rfl),?_⟩
 refine .inr ⟨[aG (cS R s ⟨0,to,it,n,ps⟩ tk (bif tG s.kind then rD R.fl (R.sh*4294967296+((R.sp.map aC).length:Int))else[]))],b7.refl _,bF (by simp[vk];omega),by simp[vk];omega,?_⟩
 refine⟨by kernel_rfl,ext (by kernel_rfl) rfl ?_⟩
 rw[<-lp]
 simp only[jG,adB]
 rfl
end
section
open Go.TM
def B0(R:RL)(k:Int)(m:dc):Int×List Lt×SM:=
 if 0<m.fr then
  if m.ps=[]then bif decide (br (aW R.st (m.fr,m.it))<m.n)then(10,[],R.st)else(0,(eP (aW R.st (m.fr,m.it)) m.n (ur m.it)).1,aH R.st (m.fr,m.it) (eP (aW R.st (m.fr,m.it)) m.n (ur m.it)).2)
  else bif rn m.ps (aW R.st (m.fr,m.it))then(0,m.ps,aH R.st (m.fr,m.it) (Jd (aW R.st (m.fr,m.it)) m.ps))else(10,[],R.st)
 else(if k=5 then vn R.sh R.fl m.ps else if k=9 then tF R.fl m.it m.ps else 0,if k=5\/k=9 then m.ps else[],R.st)
def bl(R:RL)(s:cJ)(m:dc):Int×RL:=
 if(B0 R s.kind m).1≠0 then((B0 R s.kind m).1,R)
 else if m.fr=0/\1099511627776<bK R.st m.it+m.n then(4,R)
 else(0,{ R with
  st:=if 0<m.to then aH (B0 R s.kind m).2.2 (m.to,m.it) (aR (aW (B0 R s.kind m).2.2 (m.to,m.it)) ⟨R.sh*4294967296+R.fl.length,0,m.n⟩)else(B0 R s.kind m).2.2
  fl:=R.fl++[cS R s m (B0 R s.kind m).2.1 (if m.fr=0 then bif tG s.kind then rD R.fl (R.sh*4294967296+R.sp.length)else[]else[])] })
structure RG(R:RL):Prop where
 sh:0<=R.sh/\R.sh<=1000
 fl:R.fl.length<=900000
 sp:R.sp.length<=900000
 st:R.st.length<=900
 nF:∀p∈R.st,(∀x∈p.2,az x=true)/\p.2.length<=4000
 ps:∀f∈R.fl,f.ps.length<=200
theorem oo{m:SM}{k:Ky}(h:aW m k≠[]):(k,aW m k)∈m:=by
 unfold aW at h⊢
 cases hg:aX m k with
 |none=>rw[hg]at h;exact absurd rfl h
 |some x=>exact lL hg
theorem RG.mB{R:RL}(h:RG R)(k:Ky):(∀x∈aW R.st k,az x=true)/\(aW R.st k).length<=4000:=by
 by_cases hs:aW R.st k=[]
 ·rw[hs];exact⟨fun x hx=>(by cases hx),adx _⟩
 ·exact h.nF _ (oo hs)
theorem RG.val{R:RL}(h:RG R)(k:Ky):bB (aW R.st k)=true:=by
 have:=h.mB k
 simp only[bB,adT,adH,decide_eq_true_eq]
 exact⟨this.1,by omega⟩
theorem eX(m:SM)(k k':Ky)(l:List Lt):aW (aH m k l) k'=if k=k' then l else aW m k':=by
 unfold aW;rw[j4];split<;>rfl
theorem zu{κ β:Type}[DecidableEq κ](m:List (κ×β))(k:κ)(x:β):(aH m k x).length<=m.length+1:=by
 have:=congrArg List.length (vc m k x)
 rw[WY]at this
 split at this<;>simp at this<;>omega
variable [bp]
theorem Jk{f:Nat}{args rs:List AV}{K:ae}(R:RL)(h:aj Tryz.prog f args 4 K 0 rs (de R)):aj Tryz.prog f args 4 K 0 rs (jG 1 1 0 R):=by
 refine sn (i:=2) (e0:=0) (K1:=jG 1 0 0 R) (sn (i:=1) (e0:=0) (K1:=de R) h (by omega) ⟨_,rfl,rfl,fun j hj=>?_⟩) (by omega) ⟨_,rfl,rfl,fun j hj=>?_⟩
 ·match j,hj with
  |0,_=>exact .cells (.same _ (.same _ (.same _ (.same _ (.same _ (.sH (.same _ (.same _ .nil))))))))
  |2,_=>exact .refl _
  |3,_=>exact .refl _
  |j+4,_=>exact .refl _
 ·match j,hj with
  |0,_=>exact .cells (.same _ (.same _ (.same _ (.same _ (.same _ (.same _ (.sH (.same _ .nil))))))))
  |1,_=>exact .refl _
  |3,_=>exact .refl _
  |j+4,_=>exact .refl _
theorem zv(R:RL)(s:cJ)(m:dc)(hR:RG R)(hm:du m=true)(hp:m.ps.length<=20)(hb:s.kind=5->∀x∈m.ps,0<=x.f/\x.f<=9223372036854775807):aj Tryz.prog 51 [.ptr 0 0,cH (aC s),cH (ao m)] 4 (de R) 0 [.dv (I (bl R s m).1)] (jG 1 1 0 (bl R s m).2):=by
 have hB:RB R:=⟨hR.sh,hR.fl,hR.sp⟩
 have hbm:=adz hm
 have hs:=hR.mB (m.fr,m.it)
 have ak:=hR.mB (m.to,m.it)
 have bnd:∀y∈aW R.st (m.to,m.it),0<=y.a/\y.a<=1099511627776/\0<=y.n/\y.n<=1099511627776:=fun y hy=>by
  have:=ai.1 (ak.1 y hy);omega
 have hle:=hR.st
 by_cases fb:0<m.fr
 ·have cF:∀l,aW (aH R.st (m.fr,m.it) l) (m.to,m.it)=aW R.st (m.to,m.it):=fun l=>by
   rw[eX,if_neg];intro h;injection h with h1;omega
  have Uf:∀l,(aH R.st (m.fr,m.it) l).length<=100000:=fun l=>by have:=zu R.st (m.fr,m.it) l;omega
  have fin:∀(tk l:List Lt),B0 R s.kind m=(0,tk,aH R.st (m.fr,m.it) l)->aj Tryz.prog 92 [.ptr 0 0,.dv (I s.kind),cH (ao m)] 4 (de R) 0 [.dv (aM tk),.dv (I 0)] (jG 1 0 0 (vk R (m.fr,m.it) l))->aj Tryz.prog 51 [.ptr 0 0,cH (aC s),cH (ao m)] 4 (de R) 0 [.dv (I (bl R s m).1)] (jG 1 1 0 (bl R s m).2):=fun tk l e ht=>by
   have:=Nd R (aH R.st (m.fr,m.it) l) s m tk fb hB (by omega) (Uf l) (by rw[cF];exact⟨by omega,bnd⟩) ht
   unfold bl
   rw[e,if_neg (by simp),if_neg (by omega),if_neg (by omega:¬m.fr=0)]
   exact this
  have err:B0 R s.kind m=(10,[],R.st)->aj Tryz.prog 92 [.ptr 0 0,.dv (I s.kind),cH (ao m)] 4 (de R) 0 [.dv (aM []),.dv (I 10)] (de R)->aj Tryz.prog 51 [.ptr 0 0,cH (aC s),cH (ao m)] 4 (de R) 0 [.dv (I (bl R s m).1)] (jG 1 1 0 (bl R s m).2):=fun e ht=>by
   unfold bl
   rw[e,if_pos (by simp)]
   exact Jk R (BZ R s m 10 [] (by omega) hB ht)
  by_cases kF:m.ps=[]
  ·have ht:=Na R s.kind m fb kF (by omega) (by omega) (by omega) (hR.val _)
   have e:B0 R s.kind m=bif decide (br (aW R.st (m.fr,m.it))<m.n)then(10,[],R.st)else(0,(eP (aW R.st (m.fr,m.it)) m.n (ur m.it)).1,aH R.st (m.fr,m.it) (eP (aW R.st (m.fr,m.it)) m.n (ur m.it)).2):=by
    unfold B0;rw[if_pos fb,if_pos kF]
   cases hc:decide (br (aW R.st (m.fr,m.it))<m.n)<;>rw[hc]at ht e
   ·exact fin _ _ e ht
   ·exact err e ht
  ·have hz:m.ps.length*((aW R.st (m.fr,m.it)).length+1)<=20*4001:=Nat.mul_le_mul hp (by omega)
   have hz2:(aW R.st (m.fr,m.it)).length*(m.ps.length+1)<=4000*21:=Nat.mul_le_mul (by omega) (by omega)
   have ht:=M9 R s.kind m fb kF (by omega) (by omega) (by omega) (by omega) (by omega)
   have e:B0 R s.kind m=bif rn m.ps (aW R.st (m.fr,m.it))then(0,m.ps,aH R.st (m.fr,m.it) (Jd (aW R.st (m.fr,m.it)) m.ps))else(10,[],R.st):=by
    unfold B0;rw[if_pos fb,if_neg kF]
   cases hc:rn m.ps (aW R.st (m.fr,m.it))<;>rw[hc]at ht e
   ·exact err e ht
   ·exact fin _ _ e ht
 ·have nE:m.fr=0:=by omega
  have ht:=Nb R s.kind m fb (by omega) (by have:=hR.fl;omega) hR.ps hb
  have e:B0 R s.kind m=(if s.kind=5 then vn R.sh R.fl m.ps else if s.kind=9 then tF R.fl m.it m.ps else 0,if s.kind=5\/s.kind=9 then m.ps else[],R.st):=by
   unfold B0;rw[if_neg fb]
  generalize (if s.kind=5 then vn R.sh R.fl m.ps else if s.kind=9 then tF R.fl m.it m.ps else 0)=er at*
  generalize (if s.kind=5\/s.kind=9 then m.ps else[])=tk at*
  unfold bl
  rw[e]
  by_cases he:er=0
  ·subst he
   rcases m with⟨fr,to,it,n,ps⟩
   dsimp only at*
   subst nE
   have h0:=Nf R s to it n ps tk hB (by omega) (by omega) (fun p hp=>by have:=(hR.nF p hp).2;omega) ⟨by omega,bnd⟩ (by omega) _ rfl ht
   rw[if_neg (by simp)]
   by_cases hc:1099511627776<bK R.st it+n
   ·rw[if_pos ⟨rfl,hc⟩]
    rw[if_pos hc,if_neg (by omega)]at h0
    exact Jk R h0
   ·rw[if_neg (fun h=>hc h.2),if_pos (by omega),if_pos rfl]
    rw[if_neg hc,if_pos rfl]at h0
    exact h0
  ·rw[if_pos he]
   exact Jk R (BZ R s m er tk he hB ht)
end
section
open Go.TM
theorem Lu:∀(l:List Int) (i:Nat),i<l.length->(kH l i).sum=l.sum+1
 |a::l,0,_=>by simp[kH];omega
 |a::l,i+1,h=>by
  have:=Lu l i (by simpa using h)
  unfold kH at*
  simp only[List.set_cons_succ,List.sum_cons,List.getD_cons_succ]
  omega
theorem Gl:∀(o:List Nat) (l:List Int),(∀i∈o,i<l.length)->(o.foldl kH l).sum=l.sum+o.length
 |[],l,_=>by simp
 |i::o,l,h=>by
  rw[List.foldl_cons,Gl o _ fun k hk=>by rw[xt];exact h k (adq _ hk),Lu l i (h i adu),List.length_cons]
  omega
theorem QI{rs qs:List Int}(hl:qs.length=rs.length){m:Nat}(hm:m<=rs.length):(plus rs qs m).sum=qs.sum+m:=by
 obtain⟨o,ho⟩:=IZ rs
 rw[<-y1 ho hl m,Gl _ _ fun i hi=>?_,adD,ho.len]
 ·congr 2;omega
 ·have:=ho.perm.mem_iff.1 (List.mem_of_mem_take hi)
  rw[adL]at this;omega
theorem Ui{t:Int}{ws:List Int}(hs:0<ws.sum):(Ar t ws).sum=t:=by
 have h:=xu (t:=t) hs
 have hc:(rL t ws.sum ws).countP (fun x=>decide (0<x))<=(rL t ws.sum ws).length:=List.countP_le_length
 unfold Ar
 rw[QI (by simp[qL,rL]) (by omega)]
 have:(((gh t ws.sum ws).toNat:Nat):Int)=gh t ws.sum ws:=by omega
 rw[this]
 unfold gh;omega
theorem QJ{s:List Lt}{n:Int}(mx:Bool)(hn:0<=n)(hs:∀x∈s,0<=x.n)(ht:n<=b8 s):(pg s n mx).sum=n:=by
 unfold pg
 by_cases h:0<n
 ·cases mx with
  |true=>
   rw[adF h]
   exact Ui (show 0<(s.map (·.n)).sum by rw[qc];omega)
  |false=>exact(zn hn hs).2.2 ht
 ·rw[adG h,Bool.and_false]
  exact(zn hn hs).2.2 ht
theorem Lv{s:List Lt}{ks:List Int}(hk:ks.length=s.length):∀i,i<=s.length->b8 (mA s ks i).1=(ks.take i).sum/\b8 (mA s ks i).2=b8 (s.take i)-(ks.take i).sum
 |0,_=>by simp[mA,b8]
 |i+1,h=>by
  obtain⟨h1,h2⟩:=Lv hk i (by omega)
  obtain⟨x,hx⟩:∃x,s[i]?=some x:=⟨_,IF (show i<s.length by omega)⟩
  obtain⟨k,Ga⟩:∃k,ks[i]?=some k:=⟨_,IF (show i<ks.length by omega)⟩
  rw[zo hx Ga,vd hx,ads,Ga,List.sum_append]
  unfold XO
  simp only[yT,Option.toList_some,List.sum_cons,List.sum_nil]
  omega
theorem Gm{s:List Lt}{n:Int}(mx:Bool)(hn:0<=n)(hs:∀x∈s,az x=true)(ht:n<=b8 s):b8 (eP s n mx).1=n/\b8 (eP s n mx).2=b8 s-n:=by
 have hc:=(tA mx hn hs ht).1
 have h:=Lv hc s.length (adM _)
 rw[ady,<-hc,ady,QJ mx hn (fun x hx=>(j5 (hs x hx)).1) ht,hc]at h
 exact h
theorem DC{s:List Lt}{n:Int}(mx:Bool)(hn:0<=n)(hs:∀x∈s,az x=true)(ht:n<=b8 s):(∀y∈(eP s n mx).1,az y=true)/\(∀y∈(eP s n mx).2,az y=true)/\(eP s n mx).1.length<=s.length/\(eP s n mx).2.length<=s.length:=
 Ja hs (tA mx hn hs ht) s.length (adM _)
end
section
open Go.TM
theorem gU{κ β:Type}[DecidableEq κ]{m:List (κ×β)}{k:κ}{x:β}{p:κ×β}(h:p∈aH m k x):p=(k,x)\/p∈m:=by
 induction m with
 |nil=>exact .inl (ado.1 h)
 |cons q r ih=>
  obtain⟨a,v⟩:=q
  simp only[aH]at h
  split at h
  ·rcases adp.1 h with h|h
   ·exact .inl h
   ·exact .inr (adq _ h)
  ·rcases adp.1 h with h|h
   ·exact .inr (by rw[h];exact adu)
   ·exact(ih h).imp id (adq _)
theorem Ng{κ β:Type}[DecidableEq κ]{m:List (κ×β)}{k:κ}{x y:β}(h:aX m k=some y):(aH m k x).length=m.length:=by
 have:=congrArg List.length (vc m k x)
 rw[if_pos (adK.2 ⟨_,lL h,rfl⟩),WY,WY]at this
 exact this
theorem QK:br []=0:=rfl
theorem tH(it:Int)(l:List Lt)(k:Ky):∀m:SM,bK (aH m k l) it=bK m it+if k.2=it then br l-br (aW m k)else 0
 |[]=>by
  simp only[aH,bK,zr,aW,aX,List.map_cons,List.map_nil,List.sum_cons,List.sum_nil,Option.getD_none,QK]
  split<;>omega
 |(q,v)::r=>by
  have ih:=tH it l k r
  unfold aH
  by_cases e:q=k
  ·subst e
   rw[if_pos rfl]
   simp only[bK,zr,aW,aX,List.map_cons,List.sum_cons,if_pos,Option.getD_some]
   split<;>omega
  ·rw[if_neg e]
   have:aW ((q,v)::r) k=aW r k:=by unfold aW;simp only[aX];rw[if_neg e]
   rw[this]
   simp only[bK,List.map_cons,List.sum_cons]at*
   rw[ih];omega
theorem kq{s:List Lt}(h:bB s=true):br s=b8 s:=by unfold br;rw[h];rfl
theorem dF{l:List Lt}(h:∀x∈l,az x=true)(h2:l.length<=4096):bB l=true:=by
 simp only[bB,adT,adH,decide_eq_true_eq];exact⟨h,h2⟩
structure Good(R:RL):Prop where
 sh:0<=R.sh/\R.sh<=11
 sp:R.sp.length<=40
 fl:R.fl.length<=160
 nk:Nk R.st
 st:R.st.length<=R.fl.length
 nF:∀p∈R.st,(∀x∈p.2,az x=true)/\p.2.length<=R.fl.length
 tb:∀it,bK R.st it<=1099511627776
 AP:∀f∈R.fl,f.ps.length<=160/\f.md.length<=160/\R.sh*4294967296<=f.id/\f.id<R.sh*4294967296+R.fl.length/\f.step<=R.sh*4294967296+R.sp.length/\(f.kind=5->∃g,0<=g/\f.ps=[⟨g,0,3⟩])
theorem Good.rg{R:RL}(h:Good R):RG R where
 sh:=by have:=h.sh;omega
 fl:=by have:=h.fl;omega
 sp:=by have:=h.sp;omega
 st:=by have:=h.fl;have:=h.st;omega
 nF p hp:=⟨(h.nF p hp).1,by have:=h.fl;have:=(h.nF p hp).2;omega⟩
 ps f hf:=by have:=(h.AP f hf).1;omega
theorem Good.mB{R:RL}(h:Good R)(k:Ky):(∀x∈aW R.st k,az x=true)/\(aW R.st k).length<=R.fl.length:=by
 by_cases hs:aW R.st k=[]
 ·rw[hs];exact⟨fun x hx=>(by cases hx),adx _⟩
 ·exact h.nF _ (oo hs)
structure DD(sh:Int)(s:cJ)(m:dc):Prop where
 base:du m=true
 ps:(s.kind=5/\m.fr=0/\∃g,0<=g/\g<=9223372036854775807/\m.ps=[⟨g,0,3⟩])\/(s.kind≠5/\s.kind≠9/\m.ps=[])
theorem xA(R:RL)(s:cJ)(m:dc)(hf:0<m.fr)(hp:m.ps=[]):bl R s m=if br (aW R.st (m.fr,m.it))<m.n then(10,R)else(0,{ R with
 st:=if 0<m.to then aH (aH R.st (m.fr,m.it) (eP (aW R.st (m.fr,m.it)) m.n (ur m.it)).2) (m.to,m.it) (aR (aW (aH R.st (m.fr,m.it) (eP (aW R.st (m.fr,m.it)) m.n (ur m.it)).2) (m.to,m.it)) ⟨R.sh*4294967296+R.fl.length,0,m.n⟩)else aH R.st (m.fr,m.it) (eP (aW R.st (m.fr,m.it)) m.n (ur m.it)).2
 fl:=R.fl++[cS R s m (eP (aW R.st (m.fr,m.it)) m.n (ur m.it)).1 []] }):=by
 have e:B0 R s.kind m=bif decide (br (aW R.st (m.fr,m.it))<m.n)then(10,[],R.st)else(0,(eP (aW R.st (m.fr,m.it)) m.n (ur m.it)).1,aH R.st (m.fr,m.it) (eP (aW R.st (m.fr,m.it)) m.n (ur m.it)).2):=by
  unfold B0;rw[if_pos hf,if_pos hp]
 unfold bl
 rw[e]
 by_cases hc:br (aW R.st (m.fr,m.it))<m.n
 ·rw[adF hc,if_pos hc];exact if_pos (by simp)
 ·rw[adG hc,if_neg hc]
  simp only[cond_false]
  rw[if_neg (by simp),if_neg (by omega),if_neg (by omega:¬m.fr=0)]
def EI(R:RL)(k:Int)(m:dc):Int:=if k=5 then vn R.sh R.fl m.ps else if k=9 then tF R.fl m.it m.ps else 0
theorem QL(R:RL)(s:cJ)(m:dc)(hf:m.fr=0)(ht:0<m.to):bl R s m=if EI R s.kind m≠0 then(EI R s.kind m,R)else if 1099511627776<bK R.st m.it+m.n then(4,R)else(0,{ R with
 st:=aH R.st (m.to,m.it) (aR (aW R.st (m.to,m.it)) ⟨R.sh*4294967296+R.fl.length,0,m.n⟩)
 fl:=R.fl++[cS R s m (if s.kind=5\/s.kind=9 then m.ps else[]) (bif tG s.kind then rD R.fl (R.sh*4294967296+R.sp.length)else[])] }):=by
 have e:B0 R s.kind m=(EI R s.kind m,if s.kind=5\/s.kind=9 then m.ps else[],R.st):=by
  unfold B0 EI;rw[if_neg (by omega)]
 unfold bl
 rw[e]
 simp only[hf,true_and,if_true,if_pos ht]
theorem DE{l:List Lt}{x:Lt}{n:Nat}(hl:(∀y∈l,az y=true)/\l.length<=n)(hx:0<=x.f/\0<=x.a/\1<=x.n/\x.a+x.n<=1099511627776)(hn:n<=4000):((∀y∈aR l x,az y=true)/\(aR l x).length<=n+1)/\br (aR l x)=br l+x.n:=by
 have h1:=iJ hl.1 (x:=x) ⟨hx.1,hx.2.1,by omega,hx.2.2.2⟩
 have h2:=fh l x
 refine⟨⟨h1,by omega⟩,?_⟩
 rw[kq (dF h1 (by omega)),kq (dF hl.1 (by omega)),yT]
theorem Jl{R:RL}(hG:Good R):∀f:eS,(f.ps.length<=160/\f.md.length<=160/\f.id=R.sh*4294967296+R.fl.length/\f.step=R.sh*4294967296+R.sp.length/\(f.kind=5->∃g,0<=g/\f.ps=[⟨g,0,3⟩]))->∀x∈R.fl++[f],x.ps.length<=160/\x.md.length<=160/\R.sh*4294967296<=x.id/\x.id<R.sh*4294967296+(R.fl++[f]).length/\x.step<=R.sh*4294967296+R.sp.length/\(x.kind=5->∃g,0<=g/\x.ps=[⟨g,0,3⟩]):=by
 intro f hf x hx
 rw[adv,List.length_singleton]
 rcases adr.1 hx with hx|hx
 ·obtain⟨a1,a2,a3,a4,a5,a6⟩:=hG.AP x hx
  exact⟨a1,a2,a3,by omega,a5,a6⟩
 ·rw[ado]at hx;subst hx
  obtain⟨a1,a2,a3,a4,a5⟩:=hf
  exact⟨a1,a2,by omega,by omega,by omega,a5⟩
def Gn(R:RL)(s:cJ)(m:dc)(tk:List Lt×List Lt):RL:={ R with
 st:=if 0<m.to then aH (aH R.st (m.fr,m.it) tk.2) (m.to,m.it) (aR (aW R.st (m.to,m.it)) ⟨R.sh*4294967296+R.fl.length,0,m.n⟩)else aH R.st (m.fr,m.it) tk.2
 fl:=R.fl++[cS R s m tk.1 []] }
theorem VX{R:RL}{s:cJ}{m:dc}(hG:Good R)(hl:R.fl.length+1<=160)(hb:du m=true)(fb:0<m.fr)(hk:s.kind≠5)(tk:List Lt×List Lt)(hn:m.n<=b8 (aW R.st (m.fr,m.it)))(t1:tk.1.length<=160)(t2:∀y∈tk.2,az y=true)(t4:tk.2.length<=R.fl.length+1)(ts:b8 tk.2=b8 (aW R.st (m.fr,m.it))-m.n):
 Good (Gn R s m tk)/\(Gn R s m tk).fl.length=R.fl.length+1/\∀j,bK (Gn R s m tk).st j=if m.it=j then bK R.st j+(if m.fr=0 then m.n else 0)-(if m.to=0 then m.n else 0)else bK R.st j:=by
 have hb:=adz hb
 have hS:=hG.mB (m.fr,m.it)
 have pf:=hG.sh
 have kP:=hG.fl
 have rj:0<=R.sh*4294967296+R.fl.length:=by omega
 have AP:=Jl hG
 have hv:=dF hS.1 (by omega)
 have hex:∃y,aX R.st (m.fr,m.it)=some y:=by
  cases hg:aX R.st (m.fr,m.it)with
  |some y=>exact⟨y,rfl⟩
  |none=>
   have:aW R.st (m.fr,m.it)=[]:=by unfold aW;rw[hg];rfl
   rw[this]at hn;simp[b8]at hn;omega
 obtain⟨y,hy⟩:=hex
 have cF:aW (aH R.st (m.fr,m.it) tk.2) (m.to,m.it)=aW R.st (m.to,m.it):=by
  rw[eX,if_neg];intro h;injection h with h1;omega
 have aa4:∀j,bK (aH R.st (m.fr,m.it) tk.2) j=bK R.st j+if m.it=j then -m.n else 0:=by
  intro j
  rw[tH,kq (dF t2 (by omega)),kq hv,ts]
  split<;>omega
 have hT:=DE (x:=⟨R.sh*4294967296+R.fl.length,0,m.n⟩) (hG.mB (m.to,m.it)) ⟨rj,by simp,by simp only;omega,by simp only;omega⟩ (by omega)
 have l1:=Ng (x:=tk.2) hy
 have l2:=zu (aH R.st (m.fr,m.it) tk.2) (m.to,m.it) (aR (aW R.st (m.to,m.it)) ⟨R.sh*4294967296+R.fl.length,0,m.n⟩)
 have ak:=hG.st
 have Nh:∀j,bK (if 0<m.to then aH (aH R.st (m.fr,m.it) tk.2) (m.to,m.it) (aR (aW R.st (m.to,m.it)) ⟨R.sh*4294967296+R.fl.length,0,m.n⟩)else aH R.st (m.fr,m.it) tk.2) j=if m.it=j then bK R.st j+(if m.fr=0 then m.n else 0)-(if m.to=0 then m.n else 0)else bK R.st j:=by
  intro j
  rw[if_neg (by omega:¬m.fr=0)]
  by_cases jH:0<m.to
  ·rw[if_pos jH,if_neg (by omega:¬m.to=0),tH,aa4,cF,hT.2]
   simp only
   split<;>omega
  ·rw[if_neg jH,if_pos (by omega:m.to=0),aa4]
   split<;>omega
 unfold Gn
 refine⟨⟨pf,hG.sp,by simp only[adv,List.length_singleton];omega,?_,?_,?_,?_,?_⟩,by simp only[adv,List.length_singleton],Nh⟩
 ·simp only
  split
  ·exact(hG.nk.put _ _).put _ _
  ·exact hG.nk.put _ _
 ·simp only[adv,List.length_singleton]
  split<;>omega
 ·intro p hp
  simp only[adv,List.length_singleton]at hp⊢
  have h1:p∈aH R.st (m.fr,m.it) tk.2->(∀x∈p.2,az x=true)/\p.2.length<=R.fl.length+1:=fun hp=>by
   rcases gU hp with rfl|hp
   ·exact⟨t2,by simp only;omega⟩
   ·exact⟨(hG.nF p hp).1,by have:=(hG.nF p hp).2;omega⟩
  split at hp
  ·rcases gU hp with rfl|hp
   ·exact⟨hT.1.1,hT.1.2⟩
   ·exact h1 hp
  ·exact h1 hp
 ·intro j
  have:=Nh j
  have:=hG.tb j
  simp only at*
  rw[Nh j]
  split
  ·rw[if_neg (by omega:¬m.fr=0)]
   split<;>omega
  ·omega
 ·exact AP _ ⟨by simp only[cS];omega,by simp[cS],rfl,rfl,fun h=>absurd h hk⟩
def wL(R:RL)(s:cJ)(m:dc)(l:List Lt)(md:List Int):RL:={ R with
 st:=aH R.st (m.to,m.it) (aR (aW R.st (m.to,m.it)) ⟨R.sh*4294967296+R.fl.length,0,m.n⟩)
 fl:=R.fl++[cS R s m l md] }
theorem XY{R:RL}{s:cJ}{m:dc}(hG:Good R)(hl:R.fl.length+1<=160)(hb:du m=true)(nE:m.fr=0)(l:List Lt)(md:List Int)(hc:¬1099511627776<bK R.st m.it+m.n)(h0:l.length<=160)(h1:md.length<=160)(h5:s.kind=5->∃g,0<=g/\l=[⟨g,0,3⟩]):
 Good (wL R s m l md)/\(wL R s m l md).fl.length=R.fl.length+1/\∀j,bK (wL R s m l md).st j=if m.it=j then bK R.st j+(if m.fr=0 then m.n else 0)-(if m.to=0 then m.n else 0)else bK R.st j:=by
 have hb:=adz hb
 have pf:=hG.sh
 have kP:=hG.fl
 have rj:0<=R.sh*4294967296+R.fl.length:=by omega
 have AP:=Jl hG
 have hT:=DE (x:=⟨R.sh*4294967296+R.fl.length,0,m.n⟩) (hG.mB (m.to,m.it)) ⟨rj,by simp,by simp only;omega,by simp only;omega⟩ (by omega)
 have l2:=zu R.st (m.to,m.it) (aR (aW R.st (m.to,m.it)) ⟨R.sh*4294967296+R.fl.length,0,m.n⟩)
 have ak:=hG.st
 have Nh:∀j,bK (aH R.st (m.to,m.it) (aR (aW R.st (m.to,m.it)) ⟨R.sh*4294967296+R.fl.length,0,m.n⟩)) j=if m.it=j then bK R.st j+(if m.fr=0 then m.n else 0)-(if m.to=0 then m.n else 0)else bK R.st j:=by
  intro j
  rw[if_pos nE,if_neg (by omega:¬m.to=0),tH,hT.2]
  simp only
  split<;>omega
 unfold wL
 refine⟨⟨pf,hG.sp,by simp only[adv,List.length_singleton];omega,hG.nk.put _ _,?_,?_,?_,?_⟩,by simp only[adv,List.length_singleton],Nh⟩
 ·simp only[adv,List.length_singleton]
  omega
 ·intro p hp
  simp only[adv,List.length_singleton]at hp⊢
  rcases gU hp with rfl|hp
  ·exact⟨hT.1.1,hT.1.2⟩
  ·exact⟨(hG.nF p hp).1,by have:=(hG.nF p hp).2;omega⟩
 ·intro j
  have:=hG.tb j
  simp only at*
  rw[Nh j]
  split
  ·rename_i e;subst e
   (repeat' split)<;>omega
  ·omega
 ·exact AP _ ⟨h0,h1,rfl,rfl,h5⟩
theorem DF{R:RL}{s:cJ}{m:dc}(hG:Good R)(hl:R.fl.length+1<=160)(hm:DD R.sh s m)(h0:(bl R s m).1=0):
 Good (bl R s m).2/\(bl R s m).2.fl.length=R.fl.length+1/\∀j,bK (bl R s m).2.st j=if m.it=j then bK R.st j+(if m.fr=0 then m.n else 0)-(if m.to=0 then m.n else 0)else bK R.st j:=by
 have hb:=adz hm.base
 have hS:=hG.mB (m.fr,m.it)
 have pf:=hG.sh
 have kP:=hG.fl
 have rj:0<=R.sh*4294967296+R.fl.length:=by omega
 have AP:=Jl hG
 by_cases fb:0<m.fr
 ·have hk:s.kind≠5/\m.ps=[]:=by
   rcases hm.ps with h|h
   ·omega
   ·exact⟨h.1,h.2.2⟩
  rw[xA R s m fb hk.2]at h0⊢
  by_cases hc:br (aW R.st (m.fr,m.it))<m.n
  ·rw[if_pos hc]at h0;cases h0
  rw[if_neg hc]
  have hv:=dF hS.1 (by omega)
  have hn:m.n<=b8 (aW R.st (m.fr,m.it)):=by rw[kq hv]at hc;omega
  obtain⟨t1,t2,t3,t4⟩:=DC (ur m.it) (by omega:0<=m.n) hS.1 hn
  have ts:=(Gm (ur m.it) (by omega:0<=m.n) hS.1 hn).2
  have cF:aW (aH R.st (m.fr,m.it) (eP (aW R.st (m.fr,m.it)) m.n (ur m.it)).2) (m.to,m.it)=aW R.st (m.to,m.it):=by
   rw[eX,if_neg];intro h;injection h with h1;omega
  simp only[cF]
  exact VX hG hl hm.base fb hk.1 _ hn (by omega) t2 (by omega) ts
 ·have nE:m.fr=0:=by omega
  have jH:0<m.to:=by omega
  rw[QL R s m nE jH]at h0⊢
  by_cases he:EI R s.kind m≠0
  ·rw[if_pos he]at h0;exact absurd h0 he
  rw[if_neg he]at h0⊢
  by_cases hc:1099511627776<bK R.st m.it+m.n
  ·rw[if_pos hc]at h0;cases h0
  rw[if_neg hc]
  have h1:(bif tG s.kind then rD R.fl (R.sh*4294967296+R.sp.length)else[]).length<=160:=by
   have:=DA R.fl (R.sh*4294967296+R.sp.length)
   cases tG s.kind
   ·exact adx _
   ·exact Nat.le_trans this (by omega)
  refine XY hG hl hm.base nE _ _ hc ?_ h1 fun h=>?_
  ·rcases hm.ps with⟨h,_,g,_,_,h2⟩|⟨h,h3,h2⟩
   ·rw[if_pos (.inl h),h2];simp
   ·rw[h2];split<;>simp
  ·rcases hm.ps with⟨_,_,g,g0,_,h2⟩|⟨h5,_⟩
   ·exact⟨g,g0,by rw[if_pos (.inl h),h2]⟩
   ·exact absurd h h5
end
section
open Go.TM
def dj(x y:Lt):Prop:=∀f u,di x f u->¬di y f u
def Dj(l:List Lt):Prop:=l.Pairwise dj
theorem mT{l r:List Lt}:Dj (l++r)↔Dj l/\Dj r/\∀f u,has l f u->¬has r f u:=by
 unfold Dj
 rw[List.pairwise_append]
 refine⟨fun⟨h1,h2,h3⟩=>⟨h1,h2,fun f u ⟨x,hx,hu⟩ ⟨y,hy,hv⟩=>h3 x hx y hy f u hu hv⟩,fun⟨h1,h2,h3⟩=>⟨h1,h2,fun x hx y hy f u hu hv=>h3 f u ⟨x,hx,hu⟩ ⟨y,hy,hv⟩⟩⟩
theorem Jm(x:Lt):Dj [x]:=adQ _ _
theorem aa5{l:List Lt}(h:NS l):Dj l:=h.p7.imp fun {x y} hg f u h1 h2=>by
 unfold Ap at hg;unfold di at h1 h2;omega
theorem QM{l:List Lt}{x:Lt}(h:Dj (l++[x]))(hl:∀y∈l,0<=y.n)(hx:0<=x.n):Dj (aR l x):=by
 obtain⟨h1,_,h3⟩:=mT.1 h
 unfold aR
 split
 ·exact h1
 split
 ·rename_i y hy
  split
  ·rename_i hc
   have e:=gf hy
   rw[e]at h1
   obtain⟨a1,_,a3⟩:=mT.1 h1
   refine mT.2 ⟨a1,Jm _,fun f u hu hv=>?_⟩
   have hv:=cR.1 hv
   by_cases c:di y f u
   ·exact a3 f u hu (cR.2 c)
   ·refine h3 f u (by rw[e];exact dp.2 (.inl hu)) (cR.2 ?_)
    unfold di at hv c⊢
    simp only at hv
    omega
  ·exact h
 ·exact Jm x
theorem DG{l:List Lt}{x:Lt}(hl:∀y∈l,0<=y.n)(hx:0<=x.n):∀y∈aR l x,0<=y.n:=by
 unfold aR
 split
 ·exact hl
 split
 ·rename_i y hy
  have SN:0<=y.n:=hl y (List.mem_of_getLast? hy)
  split
  ·intro z hz
   rcases adr.1 hz with hz|hz
   ·exact hl z ((List.dropLast_sublist _).subset hz)
   ·rw[ado]at hz;subst hz;simp only;omega
  ·intro z hz
   rcases adr.1 hz with hz|hz
   ·exact hl z hz
   ·rw[ado]at hz;subst hz;exact hx
 ·intro z hz;rw[ado]at hz;subst hz;exact hx
theorem Gp{f u:Int}:∀(r l:List Lt),(∀y∈l,0<=y.n)->(∀y∈r,0<=y.n)->has (r.foldl aR l) f u->has l f u\/has r f u
 |[],l,_,_,h=>.inl h
 |x::r,l,hl,hr,h=>by
  have hx:=hr x adu
  rcases Gp r (aR l x) (DG hl hx) (fun y hy=>hr y (adq _ hy)) h with h|h
  ·rcases(nu hl hx).1 h with h|h
   ·exact .inl h
   ·exact .inr (bn.2 (.inl h))
  ·exact .inr (bn.2 (.inr h))
theorem DH:∀(r l:List Lt),Dj (l++r)->(∀y∈l,0<=y.n)->(∀y∈r,0<=y.n)->Dj (r.foldl aR l)
 |[],l,h,_,_=>by rw[List.append_nil]at h;exact h
 |x::r,l,h,hl,hr=>by
  have hx:=hr x adu
  rw[show l++x::r=(l++[x])++r by simp]at h
  obtain⟨h1,h2,h3⟩:=mT.1 h
  have hp:=DG hl hx
  refine DH r (aR l x) (mT.2 ⟨QM h1 hl hx,h2,fun f u hu=>h3 f u (dp.2 ?_)⟩) hp fun y hy=>hr y (adq _ hy)
  rcases(nu hl hx).1 hu with hu|hu
  ·exact .inl hu
  ·exact .inr (cR.2 hu)
theorem Lw{g:Lt->List Lt}:∀{s:List Lt},Dj s->(∀y∈s,Dj (g y)/\∀f u,has (g y) f u->di y f u)->Dj (s.flatMap g)
 |[],_,_=>.nil
 |y::s,h,hg=>by
  rw[show y::s=[y]++s from rfl]at h
  obtain⟨_,h2,h3⟩:=mT.1 h
  rw[List.flatMap_cons]
  have hy:=hg y adu
  refine mT.2 ⟨hy.1,Lw h2 fun z hz=>hg z (adq _ hz),fun f u hu hv=>?_⟩
  obtain⟨z,hz,hv⟩:=p9.1 hv
  exact h3 f u (cR.2 (hy.2 f u hu)) ⟨z,hz,(hg z (adq _ hz)).2 f u hv⟩
theorem aa6{s P:List Lt}(h:Dj s)(hs:∀x∈s,1<=x.n)(hP:∀y∈P,1<=y.n):Dj (my s P):=by
 have hr:=fun x hx=>tq (hs x hx) hP
 refine DH _ [] ?_ (fun _ h=>(by cases h)) fun y hy=>?_
 ·rw[List.nil_append]
  exact Lw h fun x hx=>⟨aa5 (hr x hx).1,fun f u hu=>((hr x hx).2 f u).1 hu |>.1⟩
 ·obtain⟨x,hx,hy⟩:=List.mem_flatMap.1 hy
  have:=(hr x hx).1.pos y hy;omega
theorem XZ{x y:Lt}(h:dj y x)(hy:1<=y.n)(hx:1<=x.n):gJ x y=[y]:=by
 unfold gJ
 rw[if_pos]
 refine Decidable.byContradiction fun hc=>?_
 have h1:=h y.f (max y.a x.a)
 unfold di at h1
 omega
theorem Gq:∀(r l:List Lt),b8 (r.foldl aR l)=b8 l+b8 r
 |[],l=>by simp[b8]
 |x::r,l=>by rw[List.foldl_cons,Gq r,yT,show x::r=[x]++r from rfl,gS [x] r];simp[b8];omega
theorem Gr:∀(r l:List Lt),(r.foldl aR l).length<=l.length+r.length
 |[],l=>adM _
 |x::r,l=>by
  have h1:=fh l x
  have h2:=Gr r (aR l x)
  rw[List.foldl_cons,List.length_cons];omega
theorem zw{x:Lt}(hx:1<=x.n):∀{s:List Lt},(∀y∈s,1<=y.n)->(∀f u,has s f u->¬di x f u)->(s.flatMap fun y=>nv y [x])=s
 |[],_,_=>rfl
 |y::s,hs,h=>by
  have e:nv y [x]=gJ x y:=by simp[nv,jc]
  rw[List.flatMap_cons,e,XZ (fun f u hu=>h f u (bn.2 (.inl hu))) (hs y adu) hx,zw hx (fun z hz=>hs z (adq _ hz)) fun f u hu=>h f u (bn.2 (.inr hu))]
  rfl
theorem aa7{s:List Lt}{x y:Lt}(h:Dj s)(hs:∀z∈s,1<=z.n)(hy:y∈s)(hx:1<=x.n)(hi:y.f=x.f/\y.a<=x.a/\x.a+x.n<=y.a+y.n):b8 (my s [x])=b8 s-x.n/\(my s [x]).length<=s.length+1:=by
 obtain⟨s1,s2,rfl⟩:=List.append_of_mem hy
 obtain⟨_,h2,h3⟩:=mT.1 h
 rw[show y::s2=[y]++s2 from rfl]at h2
 obtain⟨_,_,h4⟩:=mT.1 h2
 have dw:∀f u,di x f u->di y f u:=fun f u hu=>by unfold di at hu⊢;omega
 have e:nv y [x]=gJ x y:=by simp[nv,jc]
 have e1:=zw hx (s:=s1) (fun z hz=>hs z (adr.2 (.inl hz))) fun f u hu hv=>h3 f u hu (bn.2 (.inl (dw f u hv)))
 have e2:=zw hx (s:=s2) (fun z hz=>hs z (adr.2 (.inr (adq _ hz)))) fun f u hu hv=>h4 f u (cR.2 (dw f u hv)) hu
 have ef:((s1++y::s2).flatMap fun z=>nv z [x])=s1++gJ x y++s2:=by
  rw[List.flatMap_append,List.flatMap_cons,e1,e2,e,adJ]
 have c:b8 (gJ x y)=y.n-x.n/\(gJ x y).length<=2:=by
  unfold gJ
  rw[if_neg (by omega)]
  constructor
  ·split<;>split<;>simp[b8]<;>omega
  ·split<;>split<;>simp
 have a1:=Gq (s1++gJ x y++s2) []
 have a2:=Gr (s1++gJ x y++s2) []
 unfold my
 rw[ef]
 refine⟨?_,?_⟩
 ·rw[a1,gS,gS,gS,show y::s2=[y]++s2 from rfl,gS [y] s2,c.1];simp[b8];omega
 ·simp only[adv,List.length_cons,List.length_nil]at a2⊢;omega
def QN(q:Lt×Int):Lt:=⟨q.1.f,q.1.a+q.2,q.1.n-q.2⟩
theorem Lx:∀(l:List (Lt×Int)) (p:List Lt×List Lt),(l.foldl XO p).2=(l.map QN).foldl aR p.2
 |[],p=>rfl
 |q::l,p=>by rw[List.foldl_cons,Lx l,List.map_cons,List.foldl_cons];rfl
theorem Uj{s:List Lt}{n:Int}(mx:Bool)(h:Dj s)(hn:0<=n)(hs:∀x∈s,az x=true)(ht:n<=b8 s):Dj (eP s n mx).2/\∀f u,has (eP s n mx).2 f u->has s f u:=by
 obtain⟨c1,c2⟩:=tA mx hn hs ht
 unfold eP mA
 generalize pg s n mx=ks at c1 c2
 rw[List.take_of_length_le (by rw[List.length_zip];omega),Lx]
 have hq:∀q∈s.zip ks,0<=q.2/\q.2<=q.1.n:=fun q hq=>by
  obtain⟨i,hi⟩:=adE hq
  rw[List.getElem?_zip_eq_some]at hi
  have:=c2 i q.1 hi.1
  rw[acb,hi.2]at this
  exact this
 have Zu:∀y∈(s.zip ks).map QN,0<=y.n:=fun y hy=>by
  obtain⟨q,hm,rfl⟩:=adK.1 hy
  have:=hq q hm
  unfold QN;simp only;omega
 refine⟨DH _ [] ?_ (fun _ h=>(by cases h)) Zu,fun f u hu=>?_⟩
 ·rw[List.nil_append]
  refine List.pairwise_map.2 ?_
  have hz:((s.zip ks).map Prod.fst).Pairwise dj:=by rw[List.map_fst_zip (by omega)];exact h
  refine(List.pairwise_map.1 hz).imp_of_mem fun {a b} ha hb Ws f u h1 h2=>Ws f u ?_ ?_
  ·have:=hq a ha;unfold di QN at h1;unfold di;simp only at h1;omega
  ·have:=hq b hb;unfold di QN at h2;unfold di;simp only at h2;omega
 ·rcases Gp _ [] (fun _ h=>(by cases h)) Zu hu with h|⟨y,hy,h⟩
  ·exact absurd h aZ
  ·obtain⟨q,hm,rfl⟩:=adK.1 hy
   have hz:=hq q hm
   refine⟨q.1,(List.of_mem_zip hm).1,?_⟩
   unfold di QN at h;unfold di;simp only at h;omega
end
section
open Go.TM
structure Dx(R:RL):Prop where
 dj:∀p∈R.st,Dj p.2/\∀x∈p.2,x.f<R.sh*4294967296+R.fl.length
 ids:∀(i:Nat) (f:eS),R.fl[i]?=some f->f.id=R.sh*4294967296+i
 rv:∀f∈R.fl,f.kind=9->f.fr=0->∃x,az x=true/\f.ps=[x]/\x.f<R.sh*4294967296+R.fl.length
 fn:∀f∈R.fl,(1<=f.n/\f.n<=1099511627776)/\0<=f.it/\f.it<5
 ky:∀p∈R.st,1<=p.1.1/\p.1.1<=1073741824/\0<=p.1.2/\p.1.2<5
theorem Dx.mB{R:RL}(h:Dx R)(k:Ky):Dj (aW R.st k)/\∀x∈aW R.st k,x.f<R.sh*4294967296+R.fl.length:=by
 by_cases hs:aW R.st k=[]
 ·rw[hs];exact⟨.nil,fun x hx=>(by cases hx)⟩
 ·exact h.dj _ (oo hs)
theorem Dx.put{R:RL}(h:Dx R)(hG:Good R)(k:Ky){n:Int}(hn:1<=n):Dj (aR (aW R.st k) ⟨R.sh*4294967296+R.fl.length,0,n⟩)/\∀x∈aR (aW R.st k) ⟨R.sh*4294967296+R.fl.length,0,n⟩,x.f<R.sh*4294967296+R.fl.length+1:=by
 obtain⟨h1,h2⟩:=h.mB k
 have hp:=(hG.mB k).1
 have Zu:∀y∈aW R.st k,0<=y.n:=fun y hy=>(j5 (hp y hy)).1
 refine⟨QM (mT.2 ⟨h1,Jm _,fun f u ⟨y,hy,hu⟩ hv=>?_⟩) Zu (by simp only;omega),fun x hx=>?_⟩
 ·have:=h2 y hy
  have hv:=cR.1 hv
  unfold di at hu hv
  simp only at hv;omega
 ·have e:aR (aW R.st k) ⟨R.sh*4294967296+R.fl.length,0,n⟩=aW R.st k++[⟨R.sh*4294967296+R.fl.length,0,n⟩]:=by
   unfold aR
   rw[if_neg (by simp only;omega)]
   split
   ·rename_i y hy
    have:=h2 y (List.mem_of_getLast? hy)
    rw[if_neg (by simp only;omega)]
   ·rename_i hy;rw[List.getLast?_eq_none_iff.1 hy];rfl
  rw[e]at hx
  rcases adr.1 hx with hx|hx
  ·have:=h2 x hx;omega
  ·rw[ado]at hx;subst hx;simp only;omega
theorem Dx.AP{R:RL}(h:Dx R){f:eS}(hn:(1<=f.n/\f.n<=1099511627776)/\0<=f.it/\f.it<5)(rj:f.id=R.sh*4294967296+R.fl.length)(hr:f.kind=9->f.fr=0->∃x,az x=true/\f.ps=[x]/\x.f<R.sh*4294967296+R.fl.length):
 (∀(i:Nat) (g:eS),(R.fl++[f])[i]?=some g->g.id=R.sh*4294967296+i)/\(∀g∈R.fl++[f],g.kind=9->g.fr=0->∃x,az x=true/\g.ps=[x]/\x.f<R.sh*4294967296+(R.fl++[f]).length)/\∀g∈R.fl++[f],(1<=g.n/\g.n<=1099511627776)/\0<=g.it/\g.it<5:=by
 rw[adv,List.length_singleton]
 refine⟨fun i g hg=>?_,fun g hg h9 h0=>?_,fun g hg=>?_⟩
 ·rw[List.getElem?_append]at hg
  split at hg
  ·exact h.ids i g hg
  ·have:i-R.fl.length=0:=by have:=(W8.1 hg).1;simp at this;omega
   rw[this]at hg
   injection hg with hg;subst hg
   rw[rj];omega
 ·rcases adr.1 hg with hg|hg
  ·obtain⟨x,h1,h2,h3⟩:=h.rv g hg h9 h0;exact⟨x,h1,h2,by omega⟩
  ·rw[ado]at hg;subst hg
   obtain⟨x,h1,h2,h3⟩:=hr h9 h0;exact⟨x,h1,h2,by omega⟩
 ·rcases adr.1 hg with hg|hg
  ·exact h.fn g hg
  ·rw[ado]at hg;subst hg;exact hn
theorem QO{R:RL}{s:cJ}{m:dc}(h:Dx R)(hG:Good R)(hb:du m=true)(fb:0<m.fr)(tk:List Lt×List Lt)(h1:Dj tk.2)(h2:∀x∈tk.2,x.f<R.sh*4294967296+R.fl.length):Dx (Gn R s m tk):=by
 have hb:=adz hb
 obtain⟨f1,f2,f3⟩:=h.AP (f:=cS R s m tk.1 []) ⟨⟨hb.2.2.1,hb.2.2.2.1⟩,hb.1,hb.2.1⟩ rfl fun _ h0=>absurd h0 (show¬m.fr=0 by omega)
 obtain⟨p1,p2⟩:=h.put hG (m.to,m.it) (n:=m.n) (by omega)
 have hk:∀p∈(Gn R s m tk).st,1<=p.1.1/\p.1.1<=1073741824/\0<=p.1.2/\p.1.2<5:=fun p hp=>by
  have hp:p∈if 0<m.to then aH (aH R.st (m.fr,m.it) tk.2) (m.to,m.it) (aR (aW R.st (m.to,m.it)) ⟨R.sh*4294967296+R.fl.length,0,m.n⟩)else aH R.st (m.fr,m.it) tk.2:=hp
  have h4:p∈aH R.st (m.fr,m.it) tk.2->1<=p.1.1/\p.1.1<=1073741824/\0<=p.1.2/\p.1.2<5:=fun hp=>by
   rcases gU hp with rfl|hp
   ·simp only;omega
   ·exact h.ky p hp
  split at hp
  ·rcases gU hp with rfl|hp
   ·simp only;omega
   ·exact h4 hp
  ·exact h4 hp
 refine⟨fun p hp=>?_,f1,f2,f3,hk⟩
 show Dj p.2/\∀x∈p.2,x.f<R.sh*4294967296+(R.fl++[cS R s m tk.1 []]).length
 rw[adv,List.length_singleton]
 have h3:p∈aH R.st (m.fr,m.it) tk.2->Dj p.2/\∀x∈p.2,x.f<R.sh*4294967296+((R.fl.length+1:Nat):Int):=fun hp=>by
  rcases gU hp with rfl|hp
  ·exact⟨h1,fun x hx=>by have:=h2 x hx;omega⟩
  ·exact⟨(h.dj p hp).1,fun x hx=>by have:=(h.dj p hp).2 x hx;omega⟩
 have hp:p∈if 0<m.to then aH (aH R.st (m.fr,m.it) tk.2) (m.to,m.it) (aR (aW R.st (m.to,m.it)) ⟨R.sh*4294967296+R.fl.length,0,m.n⟩)else aH R.st (m.fr,m.it) tk.2:=hp
 split at hp
 ·rcases gU hp with rfl|hp
  ·exact⟨p1,fun x hx=>by have:=p2 x hx;omega⟩
  ·exact h3 hp
 ·exact h3 hp
theorem VY{R:RL}{s:cJ}{m:dc}(h:Dx R)(hG:Good R)(hb:du m=true)(jH:0<m.to)(l:List Lt)(md:List Int)(hr:s.kind=9->m.fr=0->∃x,az x=true/\l=[x]/\x.f<R.sh*4294967296+R.fl.length):Dx (wL R s m l md):=by
 have hb:=adz hb
 obtain⟨f1,f2,f3⟩:=h.AP (f:=cS R s m l md) ⟨⟨hb.2.2.1,hb.2.2.2.1⟩,hb.1,hb.2.1⟩ rfl hr
 obtain⟨p1,p2⟩:=h.put hG (m.to,m.it) (n:=m.n) (by omega)
 refine⟨fun p hp=>?_,f1,f2,f3,fun p hp=>?_⟩
 rotate_left
 ·rcases gU hp with rfl|hp
  ·simp only;omega
  ·exact h.ky p hp
 show Dj p.2/\∀x∈p.2,x.f<R.sh*4294967296+(R.fl++[cS R s m l md]).length
 rw[adv,List.length_singleton]
 rcases gU hp with rfl|hp
 ·exact⟨p1,fun x hx=>by have:=p2 x hx;omega⟩
 ·exact⟨(h.dj p hp).1,fun x hx=>by have:=(h.dj p hp).2 x hx;omega⟩
end
section
open Go.TM
theorem val_one{x:Lt}(h:az x=true):bB [x]=true:=dF (fun y hy=>by rw[ado]at hy;subst hy;exact h) (by simp)
theorem tI{l:List Lt}(h:bB l=true):∀x∈l,1<=x.n:=fun x hx=>(ai.1 ((eU h).2 x hx)).2.2.1
theorem X0{l:List Lt}(h:bB l=true):kI l=ct l:=by unfold kI;rw[h];rfl
theorem Uk{l:List Lt}(h:bB l=true):bB (ct l)=true:=by
 have:=nC (eU h).2
 exact dF this.1 (by have:=(eU h).1;omega)
theorem QP{a b:List Lt}(ha:bB a=true)(hb:bB b=true):vj a b=my (ct a) b:=by
 unfold vj Jd;rw[X0 ha,Uk ha,hb];rfl
theorem Ly{a b:List Lt}(ha:bB a=true)(hb:bB b=true):rn a b=true↔∀f u,has a f u->has b f u:=by
 unfold rn
 rw[ha,hb,QP ha hb,Bool.true_and,Bool.true_and,adR]
 exact TL (tI ha) (tI hb)
theorem Ul{a b:List Lt}(ha:bB a=true)(hb:bB b=true)(hm:bB (my (ct a) b)=true):AN a b=[]↔∀f u,has a f u->¬has b f u:=by
 unfold AN
 rw[hb,cond_true,QP ha hb,QP ha hm]
 exact TO (tI ha) (tI hb)
theorem DI(s P:List Lt):Ge s P s.length=my s P:=by unfold Ge my;rw[ady]
theorem Um{x:Lt}(hx:az x=true):ct [x]=[x]:=Lj ⟨adQ _ _,fun y hy=>by rw[ado]at hy;subst hy;exact(ai.1 hx).2.2.1⟩
theorem Un{x y:Lt}(hx:az x=true)(hy:az y=true):bB (my (ct [x]) [y])=true:=by
 have h:=vh (s:=[x]) (P:=[y]) (fun z hz=>by rw[ado]at hz;subst hz;exact hx) (fun z hz=>by rw[ado]at hz;subst hz;exact hy) 1
 rw[Um hx]
 rw[show Ge [x] [y] 1=my [x] [y]from DI [x] [y]]at h
 exact dF h.1 (Nat.le_trans h.2 (by simp))
theorem Lz{x y:Lt}(hx:az x=true)(hy:az y=true):AN [x] [y]=[]↔∀f u,di x f u->¬di y f u:=by
 rw[Ul (val_one hx) (val_one hy) (Un hx hy)]
 simp only[cR]
theorem Uo{R:RL}{s:cJ}{m:dc}{x y:Lt}(hG:Good R)(hb:du m=true)(fb:0<m.fr)(hp:m.ps=[x])(hx:az x=true)(hy:y∈aW R.st (m.fr,m.it))(hi:y.f=x.f/\y.a<=x.a/\x.a+x.n<=y.a+y.n):
 rn [x] (aW R.st (m.fr,m.it))=true/\bl R s m=(0,Gn R s m ([x],my (aW R.st (m.fr,m.it)) [x])):=by
 have hb:=adz hb
 have hS:=hG.mB (m.fr,m.it)
 have kP:=hG.fl
 have hv:=dF hS.1 (by omega)
 have hw:rn [x] (aW R.st (m.fr,m.it))=true:=(Ly (val_one hx) hv).2 fun f u hu=>⟨y,hy,by have hu:=cR.1 hu;unfold di at hu⊢;omega⟩
 have e:B0 R s.kind m=(0,[x],aH R.st (m.fr,m.it) (my (aW R.st (m.fr,m.it)) [x])):=by
  unfold B0
  rw[if_pos fb,hp,if_neg (by simp),hw,cond_true]
  unfold Jd
  rw[hv,val_one hx];rfl
 have cF:aW (aH R.st (m.fr,m.it) (my (aW R.st (m.fr,m.it)) [x])) (m.to,m.it)=aW R.st (m.to,m.it):=by
  rw[eX,if_neg];intro h;injection h with h1;omega
 refine⟨hw,?_⟩
 unfold bl
 rw[e,if_neg (show¬((0,[x],aH R.st (m.fr,m.it) (my (aW R.st (m.fr,m.it)) [x])):Int×List Lt×SM).1≠0 by simp),if_neg (by omega),if_neg (by omega:¬m.fr=0)]
 simp only[cF]
 rfl
def Gs(fl:List eS)(g:Int):List Lt:=((fl.filter fun f=>f.kind==9&&f.fr==0).flatMap (·.ps)).filter fun x=>x.f==g
def kK(fl:List eS)(g:Int):Option (List Lt):=if Gs fl g=[]then none else some (ct (Gs fl g))
theorem Jn{fl:List eS}{g:Int}{z:Lt}:z∈Gs fl g↔z.f=g/\∃f∈fl,f.kind=9/\f.fr=0/\z∈f.ps:=by
 unfold Gs
 simp only[List.mem_filter,List.mem_flatMap,adT,beq_iff_eq]
 exact⟨fun⟨⟨f,⟨h1,h2,h3⟩,h4⟩,h5⟩=>⟨h5,f,h1,h2,h3,h4⟩,fun⟨h5,f,h1,h2,h3,h4⟩=>⟨⟨f,⟨h1,h2,h3⟩,h4⟩,h5⟩⟩
theorem Jo{R:RL}(h:Dx R){g:Int}:∀z∈Gs R.fl g,az z=true:=fun z hz=>by
 obtain⟨_,f,h1,h2,h3,h4⟩:=Jn.1 hz
 obtain⟨x,q1,q2,_⟩:=h.rv f h1 h2 h3
 rw[q2,ado]at h4
 rw[h4];exact q1
theorem aa8{fl:List eS}{f:eS}(h:¬(f.kind=9/\f.fr=0))(g:Int):Gs (fl++[f]) g=Gs fl g:=by
 unfold Gs
 have:(f.kind==9&&f.fr==0)=false:=by rw[Bool.eq_false_iff];intro hc;rw[adT,beq_iff_eq,beq_iff_eq]at hc;exact h hc
 rw[List.filter_append,List.filter_cons,this];simp
theorem X1{fl:List eS}{f:eS}{x:Lt}(h9:f.kind=9)(h0:f.fr=0)(hp:f.ps=[x])(g:Int):Gs (fl++[f]) g=Gs fl g++if x.f=g then[x]else[]:=by
 unfold Gs
 rw[List.filter_append,List.filter_cons,h9,h0,List.filter_nil]
 simp only[beq_self_eq_true,Bool.and_self,if_true,List.flatMap_append,List.flatMap_cons,List.flatMap_nil,List.append_nil,hp,List.filter_append,List.filter_cons,List.filter_nil]
 by_cases e:x.f=g<;>simp[e]
theorem QQ{R:RL}(h:Dx R){f:eS}{x:Lt}(h9:f.kind=9)(h0:f.fr=0)(hp:f.ps=[x])(hx:az x=true)(g:Int):kK (R.fl++[f]) g=if x.f=g then some (ct ((kK R.fl x.f).getD []++[x]))else kK R.fl g:=by
 unfold kK
 rw[X1 h9 h0 hp]
 by_cases e:x.f=g
 ·subst e
  rw[if_pos rfl,if_pos rfl,if_neg (by simp)]
  have dD:=fun z hz=>(ai.1 (Jo h (g:=x.f) z hz)).2.2.1
  have X2:=(ai.1 hx).2.2.1
  have a1:∀z∈Gs R.fl x.f++[x],1<=z.n:=fun z hz=>by
   rcases adr.1 hz with hz|hz
   ·exact dD z hz
   ·rw[ado]at hz;subst hz;exact X2
  have s1:=fS dD
  by_cases e2:Gs R.fl x.f=[]
  ·rw[if_pos e2,e2];rfl
  ·rw[if_neg e2,Option.getD_some]
   have a2:∀z∈ct (Gs R.fl x.f)++[x],1<=z.n:=fun z hz=>by
    rcases adr.1 hz with hz|hz
    ·exact s1.1.pos z hz
    ·rw[ado]at hz;subst hz;exact X2
   have s2:=fS a1
   have s3:=fS a2
   refine congrArg some (s2.1.uniq s3.1 fun f u=>?_)
   rw[s2.2,s3.2,dp,dp,s1.2]
 ·rw[if_neg e,if_neg e,List.append_nil]
theorem LA{R:RL}(hD:Dx R){m:dc}{x:Lt}{f:eS}(hp:m.ps=[x])(hx:az x=true)(pf:0<=R.sh)(hf:f∈R.fl)(rj:f.id=x.f)(h1:f.to=0/\f.kind≠6/\f.it=m.it/\x.a+x.n<=f.n):
 tF R.fl m.it m.ps=if(kG [x] ((kK R.fl x.f).getD [])).1=[]then 0 else 10:=by
 have Dn:=ai.1 hx
 have Od:=(hD.fn f hf).1
 have cC:R.fl.any (okF m.it x)=true:=by
  rw[List.any_eq_true]
  refine⟨f,hf,?_⟩
  unfold okF
  rw[adF ⟨h1.2.1,h1.1,h1.2.2.1⟩,Bool.true_and]
  refine(Ly (val_one hx) (val_one (ai.2 ⟨by simp only;omega,by simp,by simp only;omega,by simp only;omega⟩))).2 fun g u hu=>cR.2 ?_
  have hu:=cR.1 hu
  unfold di at hu⊢
  simp only;omega
 have hns:NS ((kK R.fl x.f).getD [])/\∀g u,has ((kK R.fl x.f).getD []) g u↔has (Gs R.fl x.f) g u:=by
  unfold kK
  split
  ·rename_i e;rw[e];exact⟨NS.nil,fun _ _=>Iff.rfl⟩
  ·exact fS fun z hz=>(ai.1 (Jo hD z hz)).2.2.1
 have hdiv:=Ll (a:=[x]) (fun z hz=>by rw[ado]at hz;subst hz;exact Dn.2.2.1) hns.1
 have Tz:R.fl.any (Dz x)=false↔(kG [x] ((kK R.fl x.f).getD [])).1=[]:=by
  rw[hdiv,List.any_eq_false]
  constructor
  ·intro h g u hu hv
   obtain⟨z,hz,hv⟩:=(hns.2 g u).1 hv
   obtain⟨_,q,a1,a2,a3,a4⟩:=Jn.1 hz
   obtain⟨z',b1,b2,_⟩:=hD.rv q a1 a2 a3
   rw[b2,ado]at a4;subst a4
   refine h q a1 ?_
   unfold Dz
   rw[adF a2,adF a3,b2,adG fun hm=>(Lz b1 hx).1 hm g u hv (cR.1 hu)];rfl
  ·intro h q hq hc
   unfold Dz at hc
   rw[adT,adT,adR,adR]at hc
   obtain⟨z,b1,b2,_⟩:=hD.rv q hq hc.1.1 hc.1.2
   have hm:¬AN q.ps [x]=[]:=by have:=hc.2;simpa using this
   rw[b2]at hm
   refine hm ((Lz b1 hx).2 fun g u hu hv=>?_)
   refine h g u (cR.2 hv) ((hns.2 g u).2 ⟨z,Jn.2 ⟨?_,q,hq,hc.1.1,hc.1.2,by rw[b2];exact ado.2 rfl⟩,hu⟩)
   rw[hu.1,hv.1]
 rw[hp]
 unfold tF
 rw[cC]
 by_cases e:(kG [x] ((kK R.fl x.f).getD [])).1=[]
 ·rw[if_pos e,Tz.2 e];rfl
 ·rw[if_neg e]
  have:R.fl.any (Dz x)=true:=by
   cases h:R.fl.any (Dz x)with
   |true=>rfl
   |false=>exact absurd (Tz.1 h) e
  rw[this];rfl
end
end Go.Proofs.YtmojfblpbcficaaGreatDoor
