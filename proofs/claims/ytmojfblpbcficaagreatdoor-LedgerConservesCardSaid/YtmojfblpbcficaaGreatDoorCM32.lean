import Derived.Test.YtmojfblpbcficaaGreatDoorCM31
import Derived.Test.YtmojfblpbcficaaGreatDoorCM22
set_option linter.all false
open Go.TM.oA Go.TM.oB Go.TM.oC Go.TM.oD Go.TM.oE
namespace Go.Proofs.YtmojfblpbcficaaGreatDoor
set_option maxRecDepth 100000
set_option maxHeartbeats 4000000
open Go.TM
def U2(r:Int):Int:=if r< -1 then -2-r else r
def W5(r:Int)(x:S6):List Ky:=if r< -1 then x.bk else x.gv
def pR(mv:List di)(tm:Int)(tk:List Ky)(k:Nat):Bool:=decide ((mv.getD k m0).fr=(mv.getD 0 m0).fr/\(mv.getD k m0).to=0/\(mv.getD k m0).it=(tk.getD k (0,0)).1/\(mv.getD k m0).n=(tk.getD k (0,0)).2*tm)
def oR(mv:List di)(tm:Int)(gv:List Ky)(k:Nat):Bool:=decide ((mv.getD k m0).fr=0/\(mv.getD k m0).to=(mv.getD 0 m0).to/\(mv.getD k m0).it=(gv.getD k (0,0)).1/\(mv.getD k m0).n=(gv.getD k (0,0)).2*tm)
def tw(s:cM):Bool:=
 if U2 s.aL<0\/5<=U2 s.aL\/s.times<1\/1048576<s.times then false else match dV[(U2 s.aL).toNat]? with
  |some r=>if r.sp=true\/(s.aL< -1/\r.of<=r.ch)\/s.mv.length≠r.tk.length+(W5 s.aL r).length then false else(List.range r.tk.length).all (pR s.mv s.times r.tk)&&(List.range (W5 s.aL r).length).all (oR (s.mv.drop r.tk.length) s.times (W5 s.aL r))
  |none=>false
theorem kB{n k:Nat}{p:Nat->Bool}(h:k<n)(hp:p k=false):(List.range n).all p=false:=List.all_eq_false.2 ⟨k,acM.2 h,by rw[hp];simp⟩
variable [bp]
theorem Dn(P:PL)(s:cM)(hr:vD s.aL)(hl:s.mv.length<=1000)(h1:1<=s.mv.length):ao Tryz.prog 207 [.ptr 0 0,cF (aO s)] 7 (ki P) 0 [.dv (B (tw s))] (ki P):=by
 refine cO Tryz.func207 rfl (by kernel_rfl) ?_
 have RE:-9223372036854775808<=s.aL/\s.aL<=9223372036854775807:=hr
 have Tb:(dV.map gU).length=5:=rfl
 have abh:dV.length=5:=rfl
 repeat refine gG ?_
 refine acg (by kernel_rfl) ?_
 refine acg ?_ ?_
 ·intro lC
  have lC:=acA lC
  refine⟨fun _=>by omega,?_⟩
  have hI:U2 s.aL=(-2-s.aL):=if_pos lC
  have hG:∀r,W5 s.aL r=r.bk:=fun r=>if_pos lC
  repeat refine gG ?_
  refine .inl ⟨_,fun _=>(n5 s.times).ok,?_⟩
  repeat refine gG ?_
  refine acg ?_ ?_
  ·intro h
   have hc:tw s=false:=by
    rw[Tb]at h
    simp at h
    unfold tw
    rw[hI,if_pos (by omega)]
   rw[hc]
   exact ext (by kernel_rfl) rfl rfl
  intro h
  have dh:(0<=(-2-s.aL)/\(-2-s.aL)<5)/\1<=s.times/\s.times<=1048576:=by
   rw[Tb]at h
   simp at h
   omega
  obtain⟨r,vq⟩:∃r,dV[((-2-s.aL)).toNat]?=some r:=⟨_,aaS (show((-2-s.aL)).toNat<dV.length by omega)⟩
  have PE:(dV.map gU)[((-2-s.aL)).toNat]?=some (gU r):=by rw[acj,vq];rfl
  obtain⟨tl1,tl2,tl3⟩:=C2 vq
  have jF:tw s=if r.sp=true\/(s.aL< -1/\r.of<=r.ch)\/s.mv.length≠r.tk.length+(r.bk).length then false else(List.range r.tk.length).all (pR s.mv s.times r.tk)&&(List.range (r.bk).length).all (oR (s.mv.drop r.tk.length) s.times (r.bk)):=by
   unfold tw
   rw[hI,if_neg (by omega),vq]
   simp only[hG]
  have lm:(s.mv.map aq).length=s.mv.length:=ach ..
  have la:(r.tk.map fq).length=r.tk.length:=ach ..
  have lb:((r.bk).map fq).length=(r.bk).length:=ach ..
  refine⟨gU r,fun _=>⟨by omega,PE⟩,?_⟩
  repeat refine gG ?_
  refine acg (fun _=>?_) fun h=>absurd lC (acB h)
  repeat first|refine gG ?_|refine⟨fun _=>by omega,?_⟩|refine⟨fun _=>⟨by rw[ach,ach];omega,by rw[ach,ach];omega⟩,?_⟩
  refine acg ?_ ?_
  ·intro h
   have hc:tw s=false:=by
    rw[lm,la,lb]at h
    rw[jF,if_pos]
    cases lU:r.sp
    ·rw[lU]at h
     simp at h
     omega
    ·exact .inl rfl
   rw[hc]
   exact ext (by kernel_rfl) rfl rfl
  intro h
  have Is:¬(r.sp=true\/(s.aL< -1/\r.of<=r.ch)\/s.mv.length≠r.tk.length+(r.bk).length):=by
   rw[lm,la,lb]at h
   cases lU:r.sp
   ·rw[lU]at h
    simp at h
    rintro(hh|hh)
    ·cases hh
    ·omega
   ·rw[lU]at h;cases h
  rw[if_neg Is]at jF
  have Tc:s.mv.length=r.tk.length+(r.bk).length:=by omega
  rw[jF]
  obtain⟨WC,ZT,ZU⟩:=C1 vq
  obtain⟨f,hf⟩:∃f,s.mv[0]?=some f:=⟨_,aaS (show 0<s.mv.length by omega)⟩
  have df:s.mv.getD 0 m0=f:=by rw[acn,hf];rfl
  have i0:(s.mv.map aq)[(0:Int).toNat]?=some (aq f):=by rw[acj];exact congrArg (Option.map aq) hf
  refine⟨Nat,fun k=>⟨9,[(3,.ptr 7 0),(7,.ptr 8 0),(8,.dv (.sl 2 ((r.bk).map fq))),(81,.dv (.sl 2 (r.tk.map fq))),(82,.dv (I (r.tk.map fq).length)),(83,.dv (I k))],ki P++[(7,.cells (eV (aO s).cells)),(8,.cells (eV (gU r).cells))]⟩,fun k=>k<=r.tk.length/\∀j,j<k->pR s.mv s.times r.tk j=true,fun k=>r.tk.length-k,0,fun _=>rfl,jn rfl rfl rfl rfl,⟨acy _,fun j hj=>absurd hj (Nat.not_lt_zero j)⟩,?_⟩
  rintro k ⟨hk,bN⟩
  refine acg ?_ ?_
  ·intro h
   have aw:k<r.tk.length:=by have:=acA h;omega
   obtain⟨m,hm⟩:∃m,s.mv[k]?=some m:=⟨_,aaS (show k<s.mv.length by omega)⟩
   obtain⟨a,ha⟩:∃a,r.tk[k]?=some a:=⟨_,aaS aw⟩
   have dm:s.mv.getD k m0=m:=by rw[acn,hm];rfl
   have da:r.tk.getD k (0,0)=a:=by rw[acn,ha];rfl
   have im:(s.mv.map aq)[(k:Int).toNat]?=some (aq m):=by rw[acj];simp[hm]
   have ia:(r.tk.map fq)[(k:Int).toNat]?=some (fq a):=by rw[acj];simp[ha]
   have WD:=vH (WC a (ack ha)) ⟨dh.2.1,dh.2.2⟩
   have qX:pR s.mv s.times r.tk k=decide (m.fr=f.fr/\m.to=0/\m.it=a.1/\m.n=a.2*s.times):=by unfold pR;rw[dm,df,da]
   repeat first|refine gG ?_|refine⟨fun _=>by omega,?_⟩|refine⟨fq a,fun _=>⟨by omega,ia⟩,?_⟩|refine⟨aq m,fun _=>⟨by omega,im⟩,?_⟩|refine⟨aq f,fun _=>⟨by omega,i0⟩,?_⟩
   refine acg (by kernel_rfl) ?_
   refine acg ?_ ?_
   ·intro h
    have oF:pR s.mv s.times r.tk k=false:=by
     rw[qX,acV]
     rintro⟨q1,q2,q3,q4⟩
     simp at h
     omega
    rw[kB aw oF]
    exact ext (by kernel_rfl) rfl rfl
   ·intro h
    have It:pR s.mv s.times r.tk k=true:=by
     rw[qX,acS]
     simp at h
     omega
    refine⟨fun _=>by omega,k+1,jn rfl rfl rfl rfl,⟨by omega,fun j hj=>?_⟩,mlt aw⟩
    rcases acD j k with uN|uN
    ·exact bN j uN
    ·rw[show j=k by omega];exact It
  intro h
  have he:k=r.tk.length:=by have:=acB h;omega
  subst he
  rw[show(List.range r.tk.length).all (pR s.mv s.times r.tk)=true from acI.2 fun j hj=>bN j (acM.1 hj),Bool.true_and]
  repeat refine gG ?_
  refine⟨fun _=>⟨by rw[la];exact Int.natCast_nonneg _,by rw[la,lm];exact Int.ofNat_le.2 (by omega),by rw[lm];exact Int.le_refl _⟩,?_⟩
  have jh:((s.mv.map aq).take (s.mv.map aq).length).drop (r.tk.map fq).length=(s.mv.drop r.tk.length).map aq:=by rw[acz,la,List.map_drop]
  refine⟨Nat,fun k=>⟨8,[(3,.ptr 7 0),(12,.dv (.sl 5 ((s.mv.drop r.tk.length).map aq))),(130,.dv (.sl 2 ((r.bk).map fq))),(131,.dv (I ((r.bk).map fq).length)),(132,.dv (I k))],ki P++[(7,.cells (eV (aO s).cells))]⟩,fun k=>k<=(r.bk).length/\∀j,j<k->oR (s.mv.drop r.tk.length) s.times (r.bk) j=true,fun k=>(r.bk).length-k,0,fun _=>rfl,jn (congrArg (fun l=>[(3,AV.ptr 7 0),(12,AV.dv (.sl 5 l)),(130,.dv (.sl 2 ((r.bk).map fq))),(131,.dv (I ((r.bk).map fq).length)),(132,.dv (I 0))]) jh) rfl rfl rfl,⟨acy _,fun j hj=>absurd hj (Nat.not_lt_zero j)⟩,?_⟩
  rintro k ⟨JR,Ga⟩
  refine acg ?_ ?_
  ·intro h
   have aw:k<(r.bk).length:=by have:=acA h;rw[lb]at this;omega
   have hd:∀i,(s.mv.drop r.tk.length)[i]?=s.mv[r.tk.length+i]?:=fun i=>by rw[List.getElem?_drop]
   have ld:((s.mv.drop r.tk.length).map aq).length=(r.bk).length:=by rw[ach,List.length_drop];omega
   obtain⟨m,hm⟩:∃m,(s.mv.drop r.tk.length)[k]?=some m:=⟨_,(hd k).trans (aaS (show r.tk.length+k<s.mv.length by omega))⟩
   obtain⟨g,hg⟩:∃g,(s.mv.drop r.tk.length)[0]?=some g:=⟨_,(hd 0).trans (aaS (show r.tk.length+0<s.mv.length by omega))⟩
   obtain⟨a,ha⟩:∃a,(r.bk)[k]?=some a:=⟨_,aaS aw⟩
   have dm:(s.mv.drop r.tk.length).getD k m0=m:=by rw[acn,hm];rfl
   have dg:(s.mv.drop r.tk.length).getD 0 m0=g:=by rw[acn,hg];rfl
   have da:(r.bk).getD k (0,0)=a:=by rw[acn,ha];rfl
   have im:((s.mv.drop r.tk.length).map aq)[(k:Int).toNat]?=some (aq m):=by rw[acj];exact congrArg (Option.map aq) hm
   have ig:((s.mv.drop r.tk.length).map aq)[(0:Int).toNat]?=some (aq g):=by rw[acj];exact congrArg (Option.map aq) hg
   have ia:((r.bk).map fq)[(k:Int).toNat]?=some (fq a):=by rw[acj];exact congrArg (Option.map fq) ha
   have WD:=vH (ZU a (ack ha)) ⟨dh.2.1,dh.2.2⟩
   have qX:oR (s.mv.drop r.tk.length) s.times (r.bk) k=decide (m.fr=0/\m.to=g.to/\m.it=a.1/\m.n=a.2*s.times):=by unfold oR;rw[dm,dg,da]
   repeat first|refine gG ?_|refine⟨fun _=>by omega,?_⟩|refine⟨fq a,fun _=>⟨by omega,ia⟩,?_⟩|refine⟨aq m,fun _=>⟨by omega,im⟩,?_⟩|refine⟨aq g,fun _=>⟨by omega,ig⟩,?_⟩
   refine acg (by kernel_rfl) ?_
   refine acg ?_ ?_
   ·intro h
    have oF:oR (s.mv.drop r.tk.length) s.times (r.bk) k=false:=by
     rw[qX,acV]
     rintro⟨q1,q2,q3,q4⟩
     simp at h
     omega
    rw[kB aw oF]
    exact ext (by kernel_rfl) rfl rfl
   ·intro h
    have It:oR (s.mv.drop r.tk.length) s.times (r.bk) k=true:=by
     rw[qX,acS]
     simp at h
     omega
    refine⟨fun _=>by omega,k+1,jn rfl rfl rfl rfl,⟨by omega,fun j hj=>?_⟩,mlt aw⟩
    rcases acD j k with uN|uN
    ·exact Ga j uN
    ·rw[show j=k by omega];exact It
  intro h
  have he:k=(r.bk).length:=by have:=acB h;rw[lb]at this;omega
  subst he
  rw[show(List.range (r.bk).length).all (oR (s.mv.drop r.tk.length) s.times (r.bk))=true from acI.2 fun j hj=>Ga j (acM.1 hj)]
  exact ext (by kernel_rfl) rfl rfl
 ·intro lC
  have lC:=acB lC
  have hI:U2 s.aL=s.aL:=if_neg lC
  have hG:∀r,W5 s.aL r=r.gv:=fun r=>if_neg lC
  repeat refine gG ?_
  refine .inl ⟨_,fun _=>(n5 s.times).ok,?_⟩
  repeat refine gG ?_
  refine acg ?_ ?_
  ·intro h
   have hc:tw s=false:=by
    rw[Tb]at h
    simp at h
    unfold tw
    rw[hI,if_pos (by omega)]
   rw[hc]
   exact ext (by kernel_rfl) rfl rfl
  intro h
  have dh:(0<=s.aL/\s.aL<5)/\1<=s.times/\s.times<=1048576:=by
   rw[Tb]at h
   simp at h
   omega
  obtain⟨r,vq⟩:∃r,dV[(s.aL).toNat]?=some r:=⟨_,aaS (show(s.aL).toNat<dV.length by omega)⟩
  have PE:(dV.map gU)[(s.aL).toNat]?=some (gU r):=by rw[acj,vq];rfl
  obtain⟨tl1,tl2,tl3⟩:=C2 vq
  have jF:tw s=if r.sp=true\/(s.aL< -1/\r.of<=r.ch)\/s.mv.length≠r.tk.length+(r.gv).length then false else(List.range r.tk.length).all (pR s.mv s.times r.tk)&&(List.range (r.gv).length).all (oR (s.mv.drop r.tk.length) s.times (r.gv)):=by
   unfold tw
   rw[hI,if_neg (by omega),vq]
   simp only[hG]
  have lm:(s.mv.map aq).length=s.mv.length:=ach ..
  have la:(r.tk.map fq).length=r.tk.length:=ach ..
  have lb:((r.gv).map fq).length=(r.gv).length:=ach ..
  refine⟨gU r,fun _=>⟨by omega,PE⟩,?_⟩
  repeat refine gG ?_
  refine acg (fun h=>absurd (acA h) lC) fun _=>?_
  repeat first|refine gG ?_|refine⟨fun _=>by omega,?_⟩|refine⟨fun _=>⟨by rw[ach,ach];omega,by rw[ach,ach];omega⟩,?_⟩
  refine acg ?_ ?_
  ·intro h
   have hc:tw s=false:=by
    rw[lm,la,lb]at h
    rw[jF,if_pos]
    cases lU:r.sp
    ·rw[lU]at h
     simp at h
     omega
    ·exact .inl rfl
   rw[hc]
   exact ext (by kernel_rfl) rfl rfl
  intro h
  have Is:¬(r.sp=true\/(s.aL< -1/\r.of<=r.ch)\/s.mv.length≠r.tk.length+(r.gv).length):=by
   rw[lm,la,lb]at h
   cases lU:r.sp
   ·rw[lU]at h
    simp at h
    rintro(hh|hh)
    ·cases hh
    ·omega
   ·rw[lU]at h;cases h
  rw[if_neg Is]at jF
  have Tc:s.mv.length=r.tk.length+(r.gv).length:=by omega
  rw[jF]
  obtain⟨WC,ZT,ZU⟩:=C1 vq
  obtain⟨f,hf⟩:∃f,s.mv[0]?=some f:=⟨_,aaS (show 0<s.mv.length by omega)⟩
  have df:s.mv.getD 0 m0=f:=by rw[acn,hf];rfl
  have i0:(s.mv.map aq)[(0:Int).toNat]?=some (aq f):=by rw[acj];exact congrArg (Option.map aq) hf
  refine⟨Nat,fun k=>⟨9,[(3,.ptr 7 0),(7,.ptr 8 0),(8,.dv (.sl 2 ((r.gv).map fq))),(81,.dv (.sl 2 (r.tk.map fq))),(82,.dv (I (r.tk.map fq).length)),(83,.dv (I k))],ki P++[(7,.cells (eV (aO s).cells)),(8,.cells (eV (gU r).cells))]⟩,fun k=>k<=r.tk.length/\∀j,j<k->pR s.mv s.times r.tk j=true,fun k=>r.tk.length-k,0,fun _=>rfl,jn rfl rfl rfl rfl,⟨acy _,fun j hj=>absurd hj (Nat.not_lt_zero j)⟩,?_⟩
  rintro k ⟨hk,bN⟩
  refine acg ?_ ?_
  ·intro h
   have aw:k<r.tk.length:=by have:=acA h;omega
   obtain⟨m,hm⟩:∃m,s.mv[k]?=some m:=⟨_,aaS (show k<s.mv.length by omega)⟩
   obtain⟨a,ha⟩:∃a,r.tk[k]?=some a:=⟨_,aaS aw⟩
   have dm:s.mv.getD k m0=m:=by rw[acn,hm];rfl
   have da:r.tk.getD k (0,0)=a:=by rw[acn,ha];rfl
   have im:(s.mv.map aq)[(k:Int).toNat]?=some (aq m):=by rw[acj];simp[hm]
   have ia:(r.tk.map fq)[(k:Int).toNat]?=some (fq a):=by rw[acj];simp[ha]
   have WD:=vH (WC a (ack ha)) ⟨dh.2.1,dh.2.2⟩
   have qX:pR s.mv s.times r.tk k=decide (m.fr=f.fr/\m.to=0/\m.it=a.1/\m.n=a.2*s.times):=by unfold pR;rw[dm,df,da]
   repeat first|refine gG ?_|refine⟨fun _=>by omega,?_⟩|refine⟨fq a,fun _=>⟨by omega,ia⟩,?_⟩|refine⟨aq m,fun _=>⟨by omega,im⟩,?_⟩|refine⟨aq f,fun _=>⟨by omega,i0⟩,?_⟩
   refine acg (by kernel_rfl) ?_
   refine acg ?_ ?_
   ·intro h
    have oF:pR s.mv s.times r.tk k=false:=by
     rw[qX,acV]
     rintro⟨q1,q2,q3,q4⟩
     simp at h
     omega
    rw[kB aw oF]
    exact ext (by kernel_rfl) rfl rfl
   ·intro h
    have It:pR s.mv s.times r.tk k=true:=by
     rw[qX,acS]
     simp at h
     omega
    refine⟨fun _=>by omega,k+1,jn rfl rfl rfl rfl,⟨by omega,fun j hj=>?_⟩,mlt aw⟩
    rcases acD j k with uN|uN
    ·exact bN j uN
    ·rw[show j=k by omega];exact It
  intro h
  have he:k=r.tk.length:=by have:=acB h;omega
  subst he
  rw[show(List.range r.tk.length).all (pR s.mv s.times r.tk)=true from acI.2 fun j hj=>bN j (acM.1 hj),Bool.true_and]
  repeat refine gG ?_
  refine⟨fun _=>⟨by rw[la];exact Int.natCast_nonneg _,by rw[la,lm];exact Int.ofNat_le.2 (by omega),by rw[lm];exact Int.le_refl _⟩,?_⟩
  have jh:((s.mv.map aq).take (s.mv.map aq).length).drop (r.tk.map fq).length=(s.mv.drop r.tk.length).map aq:=by rw[acz,la,List.map_drop]
  refine⟨Nat,fun k=>⟨8,[(3,.ptr 7 0),(12,.dv (.sl 5 ((s.mv.drop r.tk.length).map aq))),(130,.dv (.sl 2 ((r.gv).map fq))),(131,.dv (I ((r.gv).map fq).length)),(132,.dv (I k))],ki P++[(7,.cells (eV (aO s).cells))]⟩,fun k=>k<=(r.gv).length/\∀j,j<k->oR (s.mv.drop r.tk.length) s.times (r.gv) j=true,fun k=>(r.gv).length-k,0,fun _=>rfl,jn (congrArg (fun l=>[(3,AV.ptr 7 0),(12,AV.dv (.sl 5 l)),(130,.dv (.sl 2 ((r.gv).map fq))),(131,.dv (I ((r.gv).map fq).length)),(132,.dv (I 0))]) jh) rfl rfl rfl,⟨acy _,fun j hj=>absurd hj (Nat.not_lt_zero j)⟩,?_⟩
  rintro k ⟨JR,Ga⟩
  refine acg ?_ ?_
  ·intro h
   have aw:k<(r.gv).length:=by have:=acA h;rw[lb]at this;omega
   have hd:∀i,(s.mv.drop r.tk.length)[i]?=s.mv[r.tk.length+i]?:=fun i=>by rw[List.getElem?_drop]
   have ld:((s.mv.drop r.tk.length).map aq).length=(r.gv).length:=by rw[ach,List.length_drop];omega
   obtain⟨m,hm⟩:∃m,(s.mv.drop r.tk.length)[k]?=some m:=⟨_,(hd k).trans (aaS (show r.tk.length+k<s.mv.length by omega))⟩
   obtain⟨g,hg⟩:∃g,(s.mv.drop r.tk.length)[0]?=some g:=⟨_,(hd 0).trans (aaS (show r.tk.length+0<s.mv.length by omega))⟩
   obtain⟨a,ha⟩:∃a,(r.gv)[k]?=some a:=⟨_,aaS aw⟩
   have dm:(s.mv.drop r.tk.length).getD k m0=m:=by rw[acn,hm];rfl
   have dg:(s.mv.drop r.tk.length).getD 0 m0=g:=by rw[acn,hg];rfl
   have da:(r.gv).getD k (0,0)=a:=by rw[acn,ha];rfl
   have im:((s.mv.drop r.tk.length).map aq)[(k:Int).toNat]?=some (aq m):=by rw[acj];exact congrArg (Option.map aq) hm
   have ig:((s.mv.drop r.tk.length).map aq)[(0:Int).toNat]?=some (aq g):=by rw[acj];exact congrArg (Option.map aq) hg
   have ia:((r.gv).map fq)[(k:Int).toNat]?=some (fq a):=by rw[acj];exact congrArg (Option.map fq) ha
   have WD:=vH (ZT a (ack ha)) ⟨dh.2.1,dh.2.2⟩
   have qX:oR (s.mv.drop r.tk.length) s.times (r.gv) k=decide (m.fr=0/\m.to=g.to/\m.it=a.1/\m.n=a.2*s.times):=by unfold oR;rw[dm,dg,da]
   repeat first|refine gG ?_|refine⟨fun _=>by omega,?_⟩|refine⟨fq a,fun _=>⟨by omega,ia⟩,?_⟩|refine⟨aq m,fun _=>⟨by omega,im⟩,?_⟩|refine⟨aq g,fun _=>⟨by omega,ig⟩,?_⟩
   refine acg (by kernel_rfl) ?_
   refine acg ?_ ?_
   ·intro h
    have oF:oR (s.mv.drop r.tk.length) s.times (r.gv) k=false:=by
     rw[qX,acV]
     rintro⟨q1,q2,q3,q4⟩
     simp at h
     omega
    rw[kB aw oF]
    exact ext (by kernel_rfl) rfl rfl
   ·intro h
    have It:oR (s.mv.drop r.tk.length) s.times (r.gv) k=true:=by
     rw[qX,acS]
     simp at h
     omega
    refine⟨fun _=>by omega,k+1,jn rfl rfl rfl rfl,⟨by omega,fun j hj=>?_⟩,mlt aw⟩
    rcases acD j k with uN|uN
    ·exact Ga j uN
    ·rw[show j=k by omega];exact It
  intro h
  have he:k=(r.gv).length:=by have:=acB h;rw[lb]at this;omega
  subst he
  rw[show(List.range (r.gv).length).all (oR (s.mv.drop r.tk.length) s.times (r.gv))=true from acI.2 fun j hj=>Ga j (acM.1 hj)]
  exact ext (by kernel_rfl) rfl rfl
end Go.Proofs.YtmojfblpbcficaaGreatDoor
