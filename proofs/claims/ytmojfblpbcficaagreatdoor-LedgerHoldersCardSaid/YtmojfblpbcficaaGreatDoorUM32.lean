import Derived.Test.YtmojfblpbcficaaGreatDoorUM31
import Derived.Test.YtmojfblpbcficaaGreatDoorUM21
set_option linter.all false
open Go.TM.oA Go.TM.oB Go.TM.oC Go.TM.oD Go.TM.oE
namespace Go.Proofs.YtmojfblpbcficaaGreatDoor
set_option maxRecDepth 100000
set_option maxHeartbeats 4000000
open Go.TM
def V4(r:Int):Int:=if r< -1 then -2-r else r
def Yp(r:Int)(x:T9):List Ky:=if r< -1 then x.bk else x.gv
def qj(mv:List dc)(tm:Int)(tk:List Ky)(k:Nat):Bool:=decide ((mv.getD k m0).fr=(mv.getD 0 m0).fr/\(mv.getD k m0).to=0/\(mv.getD k m0).it=(tk.getD k (0,0)).1/\(mv.getD k m0).n=(tk.getD k (0,0)).2*tm)
def ph(mv:List dc)(tm:Int)(gv:List Ky)(k:Nat):Bool:=decide ((mv.getD k m0).fr=0/\(mv.getD k m0).to=(mv.getD 0 m0).to/\(mv.getD k m0).it=(gv.getD k (0,0)).1/\(mv.getD k m0).n=(gv.getD k (0,0)).2*tm)
def tR(s:cJ):Bool:=
 if V4 s.aP<0\/5<=V4 s.aP\/s.times<1\/1048576<s.times then false else match dY[(V4 s.aP).toNat]? with
  |some r=>if r.sp=true\/(s.aP< -1/\r.of<=r.ch)\/s.mv.length≠r.tk.length+(Yp s.aP r).length then false else(List.range r.tk.length).all (qj s.mv s.times r.tk)&&(List.range (Yp s.aP r).length).all (ph (s.mv.drop r.tk.length) s.times (Yp s.aP r))
  |none=>false
theorem kM{n k:Nat}{p:Nat->Bool}(h:k<n)(hp:p k=false):(List.range n).all p=false:=List.all_eq_false.2 ⟨k,adL.2 h,by rw[hp];simp⟩
variable [bp]
theorem DZ(P:PL)(s:cJ)(hr:tw s.aP)(hl:s.mv.length<=1000)(h1:1<=s.mv.length):aj Tryz.prog 207 [.ptr 0 0,cH (aC s)] 7 (gY P) 0 [.dv (B (tR s))] (gY P):=by
 refine cO Tryz.func207 rfl (by kernel_rfl) ?_
 have SF:-9223372036854775808<=s.aP/\s.aP<=9223372036854775807:=hr
 have Ue:(dY.map iB).length=5:=rfl
 have aco:dY.length=5:=rfl
 repeat refine gG ?_
 refine T5 (by kernel_rfl) ?_
 refine T5 ?_ ?_
 ·intro lQ
  have lQ:=adz lQ
  refine⟨fun _=>by omega,?_⟩
  have hI:V4 s.aP=(-2-s.aP):=if_pos lQ
  have hG:∀r,Yp s.aP r=r.bk:=fun r=>if_pos lQ
  repeat refine gG ?_
  refine .inl ⟨_,fun _=>(ow s.times).ok,?_⟩
  repeat refine gG ?_
  refine T5 ?_ ?_
  ·intro h
   have hc:tR s=false:=by
    rw[Ue]at h
    simp at h
    unfold tR
    rw[hI,if_pos (by omega)]
   rw[hc]
   exact ext (by kernel_rfl) rfl rfl
  intro h
  have dw:(0<=(-2-s.aP)/\(-2-s.aP)<5)/\1<=s.times/\s.times<=1048576:=by
   rw[Ue]at h
   simp at h
   omega
  obtain⟨r,vY⟩:∃r,dY[((-2-s.aP)).toNat]?=some r:=⟨_,IF (show((-2-s.aP)).toNat<dY.length by omega)⟩
  have QC:(dY.map iB)[((-2-s.aP)).toNat]?=some (iB r):=by rw[abW,vY];rfl
  obtain⟨tl1,tl2,tl3⟩:=Dy vY
  have jQ:tR s=if r.sp=true\/(s.aP< -1/\r.of<=r.ch)\/s.mv.length≠r.tk.length+(r.bk).length then false else(List.range r.tk.length).all (qj s.mv s.times r.tk)&&(List.range (r.bk).length).all (ph (s.mv.drop r.tk.length) s.times (r.bk)):=by
   unfold tR
   rw[hI,if_neg (by omega),vY]
   simp only[hG]
  have lm:(s.mv.map ao).length=s.mv.length:=WY ..
  have la:(r.tk.map fK).length=r.tk.length:=WY ..
  have lb:((r.bk).map fK).length=(r.bk).length:=WY ..
  refine⟨iB r,fun _=>⟨by omega,QC⟩,?_⟩
  repeat refine gG ?_
  refine T5 (fun _=>?_) fun h=>absurd lQ (adA h)
  repeat first|refine gG ?_|refine⟨fun _=>by omega,?_⟩|refine⟨fun _=>⟨by rw[WY,WY];omega,by rw[WY,WY];omega⟩,?_⟩
  refine T5 ?_ ?_
  ·intro h
   have hc:tR s=false:=by
    rw[lm,la,lb]at h
    rw[jQ,if_pos]
    cases jv:r.sp
    ·rw[jv]at h
     simp at h
     omega
    ·exact .inl rfl
   rw[hc]
   exact ext (by kernel_rfl) rfl rfl
  intro h
  have BY:¬(r.sp=true\/(s.aP< -1/\r.of<=r.ch)\/s.mv.length≠r.tk.length+(r.bk).length):=by
   rw[lm,la,lb]at h
   cases jv:r.sp
   ·rw[jv]at h
    simp at h
    rintro(hh|hh)
    ·cases hh
    ·omega
   ·rw[jv]at h;cases h
  rw[if_neg BY]at jQ
  have Uf:s.mv.length=r.tk.length+(r.bk).length:=by omega
  rw[jQ]
  obtain⟨XU,bt2,bt3⟩:=Dw vY
  obtain⟨f,hf⟩:∃f,s.mv[0]?=some f:=⟨_,IF (show 0<s.mv.length by omega)⟩
  have df:s.mv.getD 0 m0=f:=by rw[acb,hf];rfl
  have i0:(s.mv.map ao)[(0:Int).toNat]?=some (ao f):=by rw[abW];exact congrArg (Option.map ao) hf
  refine⟨Nat,fun k=>⟨9,[(3,.ptr 7 0),(7,.ptr 8 0),(8,.dv (.sl 2 ((r.bk).map fK))),(81,.dv (.sl 2 (r.tk.map fK))),(82,.dv (I (r.tk.map fK).length)),(83,.dv (I k))],gY P++[(7,.cells (ed (aC s).cells)),(8,.cells (ed (iB r).cells))]⟩,fun k=>k<=r.tk.length/\∀j,j<k->qj s.mv s.times r.tk j=true,fun k=>r.tk.length-k,0,fun _=>rfl,jn rfl rfl rfl rfl,⟨adx _,fun j hj=>absurd hj (Nat.not_lt_zero j)⟩,?_⟩
  rintro k ⟨hk,bO⟩
  refine T5 ?_ ?_
  ·intro h
   have au:k<r.tk.length:=by have:=adz h;omega
   obtain⟨m,hm⟩:∃m,s.mv[k]?=some m:=⟨_,IF (show k<s.mv.length by omega)⟩
   obtain⟨a,ha⟩:∃a,r.tk[k]?=some a:=⟨_,IF au⟩
   have dm:s.mv.getD k m0=m:=by rw[acb,hm];rfl
   have da:r.tk.getD k (0,0)=a:=by rw[acb,ha];rfl
   have im:(s.mv.map ao)[(k:Int).toNat]?=some (ao m):=by rw[abW];simp[hm]
   have ia:(r.tk.map fK)[(k:Int).toNat]?=some (fK a):=by rw[abW];simp[ha]
   have XW:=wj (XU a (ab6 ha)) ⟨dw.2.1,dw.2.2⟩
   have rC:qj s.mv s.times r.tk k=decide (m.fr=f.fr/\m.to=0/\m.it=a.1/\m.n=a.2*s.times):=by unfold qj;rw[dm,df,da]
   repeat first|refine gG ?_|refine⟨fun _=>by omega,?_⟩|refine⟨fK a,fun _=>⟨by omega,ia⟩,?_⟩|refine⟨ao m,fun _=>⟨by omega,im⟩,?_⟩|refine⟨ao f,fun _=>⟨by omega,i0⟩,?_⟩
   refine T5 (by kernel_rfl) ?_
   refine T5 ?_ ?_
   ·intro h
    have nE:qj s.mv s.times r.tk k=false:=by
     rw[rC,adU]
     rintro⟨q1,q2,q3,q4⟩
     simp at h
     omega
    rw[kM au nE]
    exact ext (by kernel_rfl) rfl rfl
   ·intro h
    have Ji:qj s.mv s.times r.tk k=true:=by
     rw[rC,adR]
     simp at h
     omega
    refine⟨fun _=>by omega,k+1,jn rfl rfl rfl rfl,⟨by omega,fun j hj=>?_⟩,mlt au⟩
    rcases adC j k with vm|vm
    ·exact bO j vm
    ·rw[show j=k by omega];exact Ji
  intro h
  have he:k=r.tk.length:=by have:=adA h;omega
  subst he
  rw[show(List.range r.tk.length).all (qj s.mv s.times r.tk)=true from adH.2 fun j hj=>bO j (adL.1 hj),Bool.true_and]
  repeat refine gG ?_
  refine⟨fun _=>⟨by rw[la];exact Int.natCast_nonneg _,by rw[la,lm];exact Int.ofNat_le.2 (by omega),by rw[lm];exact Int.le_refl _⟩,?_⟩
  have hZ:((s.mv.map ao).take (s.mv.map ao).length).drop (r.tk.map fK).length=(s.mv.drop r.tk.length).map ao:=by rw[ady,la,List.map_drop]
  refine⟨Nat,fun k=>⟨8,[(3,.ptr 7 0),(12,.dv (.sl 5 ((s.mv.drop r.tk.length).map ao))),(130,.dv (.sl 2 ((r.bk).map fK))),(131,.dv (I ((r.bk).map fK).length)),(132,.dv (I k))],gY P++[(7,.cells (ed (aC s).cells))]⟩,fun k=>k<=(r.bk).length/\∀j,j<k->ph (s.mv.drop r.tk.length) s.times (r.bk) j=true,fun k=>(r.bk).length-k,0,fun _=>rfl,jn (congrArg (fun l=>[(3,AV.ptr 7 0),(12,AV.dv (.sl 5 l)),(130,.dv (.sl 2 ((r.bk).map fK))),(131,.dv (I ((r.bk).map fK).length)),(132,.dv (I 0))]) hZ) rfl rfl rfl,⟨adx _,fun j hj=>absurd hj (Nat.not_lt_zero j)⟩,?_⟩
  rintro k ⟨SH,GO⟩
  refine T5 ?_ ?_
  ·intro h
   have au:k<(r.bk).length:=by have:=adz h;rw[lb]at this;omega
   have hd:∀i,(s.mv.drop r.tk.length)[i]?=s.mv[r.tk.length+i]?:=fun i=>by rw[List.getElem?_drop]
   have ld:((s.mv.drop r.tk.length).map ao).length=(r.bk).length:=by rw[WY,List.length_drop];omega
   obtain⟨m,hm⟩:∃m,(s.mv.drop r.tk.length)[k]?=some m:=⟨_,(hd k).trans (IF (show r.tk.length+k<s.mv.length by omega))⟩
   obtain⟨g,hg⟩:∃g,(s.mv.drop r.tk.length)[0]?=some g:=⟨_,(hd 0).trans (IF (show r.tk.length+0<s.mv.length by omega))⟩
   obtain⟨a,ha⟩:∃a,(r.bk)[k]?=some a:=⟨_,IF au⟩
   have dm:(s.mv.drop r.tk.length).getD k m0=m:=by rw[acb,hm];rfl
   have dg:(s.mv.drop r.tk.length).getD 0 m0=g:=by rw[acb,hg];rfl
   have da:(r.bk).getD k (0,0)=a:=by rw[acb,ha];rfl
   have im:((s.mv.drop r.tk.length).map ao)[(k:Int).toNat]?=some (ao m):=by rw[abW];exact congrArg (Option.map ao) hm
   have ig:((s.mv.drop r.tk.length).map ao)[(0:Int).toNat]?=some (ao g):=by rw[abW];exact congrArg (Option.map ao) hg
   have ia:((r.bk).map fK)[(k:Int).toNat]?=some (fK a):=by rw[abW];exact congrArg (Option.map fK) ha
   have XW:=wj (bt3 a (ab6 ha)) ⟨dw.2.1,dw.2.2⟩
   have rC:ph (s.mv.drop r.tk.length) s.times (r.bk) k=decide (m.fr=0/\m.to=g.to/\m.it=a.1/\m.n=a.2*s.times):=by unfold ph;rw[dm,dg,da]
   repeat first|refine gG ?_|refine⟨fun _=>by omega,?_⟩|refine⟨fK a,fun _=>⟨by omega,ia⟩,?_⟩|refine⟨ao m,fun _=>⟨by omega,im⟩,?_⟩|refine⟨ao g,fun _=>⟨by omega,ig⟩,?_⟩
   refine T5 (by kernel_rfl) ?_
   refine T5 ?_ ?_
   ·intro h
    have nE:ph (s.mv.drop r.tk.length) s.times (r.bk) k=false:=by
     rw[rC,adU]
     rintro⟨q1,q2,q3,q4⟩
     simp at h
     omega
    rw[kM au nE]
    exact ext (by kernel_rfl) rfl rfl
   ·intro h
    have Ji:ph (s.mv.drop r.tk.length) s.times (r.bk) k=true:=by
     rw[rC,adR]
     simp at h
     omega
    refine⟨fun _=>by omega,k+1,jn rfl rfl rfl rfl,⟨by omega,fun j hj=>?_⟩,mlt au⟩
    rcases adC j k with vm|vm
    ·exact GO j vm
    ·rw[show j=k by omega];exact Ji
  intro h
  have he:k=(r.bk).length:=by have:=adA h;rw[lb]at this;omega
  subst he
  rw[show(List.range (r.bk).length).all (ph (s.mv.drop r.tk.length) s.times (r.bk))=true from adH.2 fun j hj=>GO j (adL.1 hj)]
  exact ext (by kernel_rfl) rfl rfl
 ·intro lQ
  have lQ:=adA lQ
  have hI:V4 s.aP=s.aP:=if_neg lQ
  have hG:∀r,Yp s.aP r=r.gv:=fun r=>if_neg lQ
  repeat refine gG ?_
  refine .inl ⟨_,fun _=>(ow s.times).ok,?_⟩
  repeat refine gG ?_
  refine T5 ?_ ?_
  ·intro h
   have hc:tR s=false:=by
    rw[Ue]at h
    simp at h
    unfold tR
    rw[hI,if_pos (by omega)]
   rw[hc]
   exact ext (by kernel_rfl) rfl rfl
  intro h
  have dw:(0<=s.aP/\s.aP<5)/\1<=s.times/\s.times<=1048576:=by
   rw[Ue]at h
   simp at h
   omega
  obtain⟨r,vY⟩:∃r,dY[(s.aP).toNat]?=some r:=⟨_,IF (show(s.aP).toNat<dY.length by omega)⟩
  have QC:(dY.map iB)[(s.aP).toNat]?=some (iB r):=by rw[abW,vY];rfl
  obtain⟨tl1,tl2,tl3⟩:=Dy vY
  have jQ:tR s=if r.sp=true\/(s.aP< -1/\r.of<=r.ch)\/s.mv.length≠r.tk.length+(r.gv).length then false else(List.range r.tk.length).all (qj s.mv s.times r.tk)&&(List.range (r.gv).length).all (ph (s.mv.drop r.tk.length) s.times (r.gv)):=by
   unfold tR
   rw[hI,if_neg (by omega),vY]
   simp only[hG]
  have lm:(s.mv.map ao).length=s.mv.length:=WY ..
  have la:(r.tk.map fK).length=r.tk.length:=WY ..
  have lb:((r.gv).map fK).length=(r.gv).length:=WY ..
  refine⟨iB r,fun _=>⟨by omega,QC⟩,?_⟩
  repeat refine gG ?_
  refine T5 (fun h=>absurd (adz h) lQ) fun _=>?_
  repeat first|refine gG ?_|refine⟨fun _=>by omega,?_⟩|refine⟨fun _=>⟨by rw[WY,WY];omega,by rw[WY,WY];omega⟩,?_⟩
  refine T5 ?_ ?_
  ·intro h
   have hc:tR s=false:=by
    rw[lm,la,lb]at h
    rw[jQ,if_pos]
    cases jv:r.sp
    ·rw[jv]at h
     simp at h
     omega
    ·exact .inl rfl
   rw[hc]
   exact ext (by kernel_rfl) rfl rfl
  intro h
  have BY:¬(r.sp=true\/(s.aP< -1/\r.of<=r.ch)\/s.mv.length≠r.tk.length+(r.gv).length):=by
   rw[lm,la,lb]at h
   cases jv:r.sp
   ·rw[jv]at h
    simp at h
    rintro(hh|hh)
    ·cases hh
    ·omega
   ·rw[jv]at h;cases h
  rw[if_neg BY]at jQ
  have Uf:s.mv.length=r.tk.length+(r.gv).length:=by omega
  rw[jQ]
  obtain⟨XU,bt2,bt3⟩:=Dw vY
  obtain⟨f,hf⟩:∃f,s.mv[0]?=some f:=⟨_,IF (show 0<s.mv.length by omega)⟩
  have df:s.mv.getD 0 m0=f:=by rw[acb,hf];rfl
  have i0:(s.mv.map ao)[(0:Int).toNat]?=some (ao f):=by rw[abW];exact congrArg (Option.map ao) hf
  refine⟨Nat,fun k=>⟨9,[(3,.ptr 7 0),(7,.ptr 8 0),(8,.dv (.sl 2 ((r.gv).map fK))),(81,.dv (.sl 2 (r.tk.map fK))),(82,.dv (I (r.tk.map fK).length)),(83,.dv (I k))],gY P++[(7,.cells (ed (aC s).cells)),(8,.cells (ed (iB r).cells))]⟩,fun k=>k<=r.tk.length/\∀j,j<k->qj s.mv s.times r.tk j=true,fun k=>r.tk.length-k,0,fun _=>rfl,jn rfl rfl rfl rfl,⟨adx _,fun j hj=>absurd hj (Nat.not_lt_zero j)⟩,?_⟩
  rintro k ⟨hk,bO⟩
  refine T5 ?_ ?_
  ·intro h
   have au:k<r.tk.length:=by have:=adz h;omega
   obtain⟨m,hm⟩:∃m,s.mv[k]?=some m:=⟨_,IF (show k<s.mv.length by omega)⟩
   obtain⟨a,ha⟩:∃a,r.tk[k]?=some a:=⟨_,IF au⟩
   have dm:s.mv.getD k m0=m:=by rw[acb,hm];rfl
   have da:r.tk.getD k (0,0)=a:=by rw[acb,ha];rfl
   have im:(s.mv.map ao)[(k:Int).toNat]?=some (ao m):=by rw[abW];simp[hm]
   have ia:(r.tk.map fK)[(k:Int).toNat]?=some (fK a):=by rw[abW];simp[ha]
   have XW:=wj (XU a (ab6 ha)) ⟨dw.2.1,dw.2.2⟩
   have rC:qj s.mv s.times r.tk k=decide (m.fr=f.fr/\m.to=0/\m.it=a.1/\m.n=a.2*s.times):=by unfold qj;rw[dm,df,da]
   repeat first|refine gG ?_|refine⟨fun _=>by omega,?_⟩|refine⟨fK a,fun _=>⟨by omega,ia⟩,?_⟩|refine⟨ao m,fun _=>⟨by omega,im⟩,?_⟩|refine⟨ao f,fun _=>⟨by omega,i0⟩,?_⟩
   refine T5 (by kernel_rfl) ?_
   refine T5 ?_ ?_
   ·intro h
    have nE:qj s.mv s.times r.tk k=false:=by
     rw[rC,adU]
     rintro⟨q1,q2,q3,q4⟩
     simp at h
     omega
    rw[kM au nE]
    exact ext (by kernel_rfl) rfl rfl
   ·intro h
    have Ji:qj s.mv s.times r.tk k=true:=by
     rw[rC,adR]
     simp at h
     omega
    refine⟨fun _=>by omega,k+1,jn rfl rfl rfl rfl,⟨by omega,fun j hj=>?_⟩,mlt au⟩
    rcases adC j k with vm|vm
    ·exact bO j vm
    ·rw[show j=k by omega];exact Ji
  intro h
  have he:k=r.tk.length:=by have:=adA h;omega
  subst he
  rw[show(List.range r.tk.length).all (qj s.mv s.times r.tk)=true from adH.2 fun j hj=>bO j (adL.1 hj),Bool.true_and]
  repeat refine gG ?_
  refine⟨fun _=>⟨by rw[la];exact Int.natCast_nonneg _,by rw[la,lm];exact Int.ofNat_le.2 (by omega),by rw[lm];exact Int.le_refl _⟩,?_⟩
  have hZ:((s.mv.map ao).take (s.mv.map ao).length).drop (r.tk.map fK).length=(s.mv.drop r.tk.length).map ao:=by rw[ady,la,List.map_drop]
  refine⟨Nat,fun k=>⟨8,[(3,.ptr 7 0),(12,.dv (.sl 5 ((s.mv.drop r.tk.length).map ao))),(130,.dv (.sl 2 ((r.gv).map fK))),(131,.dv (I ((r.gv).map fK).length)),(132,.dv (I k))],gY P++[(7,.cells (ed (aC s).cells))]⟩,fun k=>k<=(r.gv).length/\∀j,j<k->ph (s.mv.drop r.tk.length) s.times (r.gv) j=true,fun k=>(r.gv).length-k,0,fun _=>rfl,jn (congrArg (fun l=>[(3,AV.ptr 7 0),(12,AV.dv (.sl 5 l)),(130,.dv (.sl 2 ((r.gv).map fK))),(131,.dv (I ((r.gv).map fK).length)),(132,.dv (I 0))]) hZ) rfl rfl rfl,⟨adx _,fun j hj=>absurd hj (Nat.not_lt_zero j)⟩,?_⟩
  rintro k ⟨SH,GO⟩
  refine T5 ?_ ?_
  ·intro h
   have au:k<(r.gv).length:=by have:=adz h;rw[lb]at this;omega
   have hd:∀i,(s.mv.drop r.tk.length)[i]?=s.mv[r.tk.length+i]?:=fun i=>by rw[List.getElem?_drop]
   have ld:((s.mv.drop r.tk.length).map ao).length=(r.gv).length:=by rw[WY,List.length_drop];omega
   obtain⟨m,hm⟩:∃m,(s.mv.drop r.tk.length)[k]?=some m:=⟨_,(hd k).trans (IF (show r.tk.length+k<s.mv.length by omega))⟩
   obtain⟨g,hg⟩:∃g,(s.mv.drop r.tk.length)[0]?=some g:=⟨_,(hd 0).trans (IF (show r.tk.length+0<s.mv.length by omega))⟩
   obtain⟨a,ha⟩:∃a,(r.gv)[k]?=some a:=⟨_,IF au⟩
   have dm:(s.mv.drop r.tk.length).getD k m0=m:=by rw[acb,hm];rfl
   have dg:(s.mv.drop r.tk.length).getD 0 m0=g:=by rw[acb,hg];rfl
   have da:(r.gv).getD k (0,0)=a:=by rw[acb,ha];rfl
   have im:((s.mv.drop r.tk.length).map ao)[(k:Int).toNat]?=some (ao m):=by rw[abW];exact congrArg (Option.map ao) hm
   have ig:((s.mv.drop r.tk.length).map ao)[(0:Int).toNat]?=some (ao g):=by rw[abW];exact congrArg (Option.map ao) hg
   have ia:((r.gv).map fK)[(k:Int).toNat]?=some (fK a):=by rw[abW];exact congrArg (Option.map fK) ha
   have XW:=wj (bt2 a (ab6 ha)) ⟨dw.2.1,dw.2.2⟩
   have rC:ph (s.mv.drop r.tk.length) s.times (r.gv) k=decide (m.fr=0/\m.to=g.to/\m.it=a.1/\m.n=a.2*s.times):=by unfold ph;rw[dm,dg,da]
   repeat first|refine gG ?_|refine⟨fun _=>by omega,?_⟩|refine⟨fK a,fun _=>⟨by omega,ia⟩,?_⟩|refine⟨ao m,fun _=>⟨by omega,im⟩,?_⟩|refine⟨ao g,fun _=>⟨by omega,ig⟩,?_⟩
   refine T5 (by kernel_rfl) ?_
   refine T5 ?_ ?_
   ·intro h
    have nE:ph (s.mv.drop r.tk.length) s.times (r.gv) k=false:=by
     rw[rC,adU]
     rintro⟨q1,q2,q3,q4⟩
     simp at h
     omega
    rw[kM au nE]
    exact ext (by kernel_rfl) rfl rfl
   ·intro h
    have Ji:ph (s.mv.drop r.tk.length) s.times (r.gv) k=true:=by
     rw[rC,adR]
     simp at h
     omega
    refine⟨fun _=>by omega,k+1,jn rfl rfl rfl rfl,⟨by omega,fun j hj=>?_⟩,mlt au⟩
    rcases adC j k with vm|vm
    ·exact GO j vm
    ·rw[show j=k by omega];exact Ji
  intro h
  have he:k=(r.gv).length:=by have:=adA h;rw[lb]at this;omega
  subst he
  rw[show(List.range (r.gv).length).all (ph (s.mv.drop r.tk.length) s.times (r.gv))=true from adH.2 fun j hj=>GO j (adL.1 hj)]
  exact ext (by kernel_rfl) rfl rfl
end Go.Proofs.YtmojfblpbcficaaGreatDoor
