import Derived.Test.YtfpebgpgabjieaaGreatDoorGM30
import Derived.Test.YtfpebgpgabjieaaGreatDoorGM21
import Derived.Test.YtfpebgpgabjieaaGreatDoorGM25
import Derived.Test.YtfpebgpgabjieaaGreatDoorGM18
import Derived.Test.YtfpebgpgabjieaaGreatDoorGM29
set_option linter.all false
open Go.TM.oA Go.TM.oB Go.TM.oC Go.TM.oD Go.TM.oE
namespace Go.Proofs.YtfpebgpgabjieaaGreatDoor
set_option maxRecDepth 100000
set_option maxHeartbeats 4000000
section
open Go.TM
def Wu(r:Int):Int:=if r< -1 then -2-r else r
def Yo(r:Int)(x:S1):List Ky:=if r< -1 then x.bk else x.gv
def pY(mv:List c5)(tm:Int)(tk:List Ky)(k:Nat):Bool:=decide ((mv.getD k m0).fr=(mv.getD 0 m0).fr/\(mv.getD k m0).to=0/\(mv.getD k m0).it=(tk.getD k (0,0)).1/\(mv.getD k m0).n=(tk.getD k (0,0)).2*tm)
def oV(mv:List c5)(tm:Int)(gv:List Ky)(k:Nat):Bool:=decide ((mv.getD k m0).fr=0/\(mv.getD k m0).to=(mv.getD 0 m0).to/\(mv.getD k m0).it=(gv.getD k (0,0)).1/\(mv.getD k m0).n=(gv.getD k (0,0)).2*tm)
def tI(s:cG):Bool:=
 if Wu s.aM<0\/5<=Wu s.aM\/s.times<1\/1048576<s.times then false else match dA[(Wu s.aM).toNat]? with
  |some r=>if r.sp=true\/(s.aM< -1/\r.of<=r.ch)\/s.mv.length≠r.tk.length+(Yo s.aM r).length then false else(List.range r.tk.length).all (pY s.mv s.times r.tk)&&(List.range (Yo s.aM r).length).all (oV (s.mv.drop r.tk.length) s.times (Yo s.aM r))
  |none=>false
theorem kH{n k:Nat}{p:Nat->Bool}(h:k<n)(hp:p k=false):(List.range n).all p=false:=List.all_eq_false.2 ⟨k,aeh.2 h,by rw[hp];simp⟩
variable [bj]
theorem DB(P:PL)(s:cG)(hr:vP s.aM)(hl:s.mv.length<=1000)(h1:1<=s.mv.length):aj Tryz.prog 212 [.ptr 0 0,cx (aP s)] 7 (lF P) 0 [.dv (B (tI s))] (lF P):=by
 refine cO Tryz.func212 rfl (by kernel_rfl) ?_
 have SS:-9223372036854775808<=s.aM/\s.aM<=9223372036854775807:=hr
 have Ut:(dA.map ij).length=5:=rfl
 have acF:dA.length=5:=rfl
 repeat refine gG ?_
 refine adN (by kernel_rfl) ?_
 refine adN ?_ ?_
 ·intro lE
  have lE:=ad5 lE
  refine⟨fun _=>by omega,?_⟩
  have hI:Wu s.aM=(-2-s.aM):=if_pos lE
  have hG:∀r,Yo s.aM r=r.bk:=fun r=>if_pos lE
  repeat refine gG ?_
  refine .inl ⟨_,fun _=>(n5 s.times).ok,?_⟩
  repeat refine gG ?_
  refine adN ?_ ?_
  ·intro h
   have hc:tI s=false:=by
    rw[Ut]at h
    simp at h
    unfold tI
    rw[hI,if_pos (by omega)]
   rw[hc]
   exact ext (by kernel_rfl) rfl rfl
  intro h
  have dr:(0<=(-2-s.aM)/\(-2-s.aM)<5)/\1<=s.times/\s.times<=1048576:=by
   rw[Ut]at h
   simp at h
   omega
  obtain⟨r,vG⟩:∃r,dA[((-2-s.aM)).toNat]?=some r:=⟨_,ace (show((-2-s.aM)).toNat<dA.length by omega)⟩
  have Qd:(dA.map ij)[((-2-s.aM)).toNat]?=some (ij r):=by rw[adQ,vG];rfl
  obtain⟨tl1,tl2,tl3⟩:=C7 vG
  have jT:tI s=if r.sp=true\/(s.aM< -1/\r.of<=r.ch)\/s.mv.length≠r.tk.length+(r.bk).length then false else(List.range r.tk.length).all (pY s.mv s.times r.tk)&&(List.range (r.bk).length).all (oV (s.mv.drop r.tk.length) s.times (r.bk)):=by
   unfold tI
   rw[hI,if_neg (by omega),vG]
   simp only[hG]
  have lm:(s.mv.map aq).length=s.mv.length:=adO ..
  have la:(r.tk.map fI).length=r.tk.length:=adO ..
  have lb:((r.bk).map fI).length=(r.bk).length:=adO ..
  refine⟨ij r,fun _=>⟨by omega,Qd⟩,?_⟩
  repeat refine gG ?_
  refine adN (fun _=>?_) fun h=>absurd lE (ad6 h)
  repeat first|refine gG ?_|refine⟨fun _=>by omega,?_⟩|refine⟨fun _=>⟨by rw[adO,adO];omega,by rw[adO,adO];omega⟩,?_⟩
  refine adN ?_ ?_
  ·intro h
   have hc:tI s=false:=by
    rw[lm,la,lb]at h
    rw[jT,if_pos]
    cases lO:r.sp
    ·rw[lO]at h
     simp at h
     omega
    ·exact .inl rfl
   rw[hc]
   exact ext (by kernel_rfl) rfl rfl
  intro h
  have F2:¬(r.sp=true\/(s.aM< -1/\r.of<=r.ch)\/s.mv.length≠r.tk.length+(r.bk).length):=by
   rw[lm,la,lb]at h
   cases lO:r.sp
   ·rw[lO]at h
    simp at h
    rintro(hh|hh)
    ·cases hh
    ·omega
   ·rw[lO]at h;cases h
  rw[if_neg F2]at jT
  have Uu:s.mv.length=r.tk.length+(r.bk).length:=by omega
  rw[jT]
  obtain⟨X0,bt2,bt3⟩:=C6 vG
  obtain⟨f,hf⟩:∃f,s.mv[0]?=some f:=⟨_,ace (show 0<s.mv.length by omega)⟩
  have df:s.mv.getD 0 m0=f:=by rw[adT,hf];rfl
  have i0:(s.mv.map aq)[(0:Int).toNat]?=some (aq f):=by rw[adQ];exact congrArg (Option.map aq) hf
  refine⟨Nat,fun k=>⟨9,[(3,.ptr 7 0),(7,.ptr 8 0),(8,.dv (.sl 2 ((r.bk).map fI))),(81,.dv (.sl 2 (r.tk.map fI))),(82,.dv (I (r.tk.map fI).length)),(83,.dv (I k))],lF P++[(7,.cells (eP (aP s).cells)),(8,.cells (eP (ij r).cells))]⟩,fun k=>k<=r.tk.length/\∀j,j<k->pY s.mv s.times r.tk j=true,fun k=>r.tk.length-k,0,fun _=>rfl,jn rfl rfl rfl rfl,⟨ad3 _,fun j hj=>absurd hj (Nat.not_lt_zero j)⟩,?_⟩
  rintro k ⟨hk,bK⟩
  refine adN ?_ ?_
  ·intro h
   have ay:k<r.tk.length:=by have:=ad5 h;omega
   obtain⟨m,hm⟩:∃m,s.mv[k]?=some m:=⟨_,ace (show k<s.mv.length by omega)⟩
   obtain⟨a,ha⟩:∃a,r.tk[k]?=some a:=⟨_,ace ay⟩
   have dm:s.mv.getD k m0=m:=by rw[adT,hm];rfl
   have da:r.tk.getD k (0,0)=a:=by rw[adT,ha];rfl
   have im:(s.mv.map aq)[(k:Int).toNat]?=some (aq m):=by rw[adQ];simp[hm]
   have ia:(r.tk.map fI)[(k:Int).toNat]?=some (fI a):=by rw[adQ];simp[ha]
   have X1:=vU (X0 a (adR ha)) ⟨dr.2.1,dr.2.2⟩
   have rj:pY s.mv s.times r.tk k=decide (m.fr=f.fr/\m.to=0/\m.it=a.1/\m.n=a.2*s.times):=by unfold pY;rw[dm,df,da]
   repeat first|refine gG ?_|refine⟨fun _=>by omega,?_⟩|refine⟨fI a,fun _=>⟨by omega,ia⟩,?_⟩|refine⟨aq m,fun _=>⟨by omega,im⟩,?_⟩|refine⟨aq f,fun _=>⟨by omega,i0⟩,?_⟩
   refine adN (by kernel_rfl) ?_
   refine adN ?_ ?_
   ·intro h
    have mi:pY s.mv s.times r.tk k=false:=by
     rw[rj,aeq]
     rintro⟨q1,q2,q3,q4⟩
     simp at h
     omega
    rw[kH ay mi]
    exact ext (by kernel_rfl) rfl rfl
   ·intro h
    have I4:pY s.mv s.times r.tk k=true:=by
     rw[rj,aen]
     simp at h
     omega
    refine⟨fun _=>by omega,k+1,jn rfl rfl rfl rfl,⟨by omega,fun j hj=>?_⟩,mlt ay⟩
    rcases ad8 j k with u9|u9
    ·exact bK j u9
    ·rw[show j=k by omega];exact I4
  intro h
  have he:k=r.tk.length:=by have:=ad6 h;omega
  subst he
  rw[show(List.range r.tk.length).all (pY s.mv s.times r.tk)=true from aed.2 fun j hj=>bK j (aeh.1 hj),Bool.true_and]
  repeat refine gG ?_
  refine⟨fun _=>⟨by rw[la];exact Int.natCast_nonneg _,by rw[la,lm];exact Int.ofNat_le.2 (by omega),by rw[lm];exact Int.le_refl _⟩,?_⟩
  have gK:((s.mv.map aq).take (s.mv.map aq).length).drop (r.tk.map fI).length=(s.mv.drop r.tk.length).map aq:=by rw[ad4,la,List.map_drop]
  refine⟨Nat,fun k=>⟨8,[(3,.ptr 7 0),(12,.dv (.sl 5 ((s.mv.drop r.tk.length).map aq))),(130,.dv (.sl 2 ((r.bk).map fI))),(131,.dv (I ((r.bk).map fI).length)),(132,.dv (I k))],lF P++[(7,.cells (eP (aP s).cells))]⟩,fun k=>k<=(r.bk).length/\∀j,j<k->oV (s.mv.drop r.tk.length) s.times (r.bk) j=true,fun k=>(r.bk).length-k,0,fun _=>rfl,jn (congrArg (fun l=>[(3,AV.ptr 7 0),(12,AV.dv (.sl 5 l)),(130,.dv (.sl 2 ((r.bk).map fI))),(131,.dv (I ((r.bk).map fI).length)),(132,.dv (I 0))]) gK) rfl rfl rfl,⟨ad3 _,fun j hj=>absurd hj (Nat.not_lt_zero j)⟩,?_⟩
  rintro k ⟨SU,Gz⟩
  refine adN ?_ ?_
  ·intro h
   have ay:k<(r.bk).length:=by have:=ad5 h;rw[lb]at this;omega
   have hd:∀i,(s.mv.drop r.tk.length)[i]?=s.mv[r.tk.length+i]?:=fun i=>by rw[List.getElem?_drop]
   have ld:((s.mv.drop r.tk.length).map aq).length=(r.bk).length:=by rw[adO,List.length_drop];omega
   obtain⟨m,hm⟩:∃m,(s.mv.drop r.tk.length)[k]?=some m:=⟨_,(hd k).trans (ace (show r.tk.length+k<s.mv.length by omega))⟩
   obtain⟨g,hg⟩:∃g,(s.mv.drop r.tk.length)[0]?=some g:=⟨_,(hd 0).trans (ace (show r.tk.length+0<s.mv.length by omega))⟩
   obtain⟨a,ha⟩:∃a,(r.bk)[k]?=some a:=⟨_,ace ay⟩
   have dm:(s.mv.drop r.tk.length).getD k m0=m:=by rw[adT,hm];rfl
   have dg:(s.mv.drop r.tk.length).getD 0 m0=g:=by rw[adT,hg];rfl
   have da:(r.bk).getD k (0,0)=a:=by rw[adT,ha];rfl
   have im:((s.mv.drop r.tk.length).map aq)[(k:Int).toNat]?=some (aq m):=by rw[adQ];exact congrArg (Option.map aq) hm
   have ig:((s.mv.drop r.tk.length).map aq)[(0:Int).toNat]?=some (aq g):=by rw[adQ];exact congrArg (Option.map aq) hg
   have ia:((r.bk).map fI)[(k:Int).toNat]?=some (fI a):=by rw[adQ];exact congrArg (Option.map fI) ha
   have X1:=vU (bt3 a (adR ha)) ⟨dr.2.1,dr.2.2⟩
   have rj:oV (s.mv.drop r.tk.length) s.times (r.bk) k=decide (m.fr=0/\m.to=g.to/\m.it=a.1/\m.n=a.2*s.times):=by unfold oV;rw[dm,dg,da]
   repeat first|refine gG ?_|refine⟨fun _=>by omega,?_⟩|refine⟨fI a,fun _=>⟨by omega,ia⟩,?_⟩|refine⟨aq m,fun _=>⟨by omega,im⟩,?_⟩|refine⟨aq g,fun _=>⟨by omega,ig⟩,?_⟩
   refine adN (by kernel_rfl) ?_
   refine adN ?_ ?_
   ·intro h
    have mi:oV (s.mv.drop r.tk.length) s.times (r.bk) k=false:=by
     rw[rj,aeq]
     rintro⟨q1,q2,q3,q4⟩
     simp at h
     omega
    rw[kH ay mi]
    exact ext (by kernel_rfl) rfl rfl
   ·intro h
    have I4:oV (s.mv.drop r.tk.length) s.times (r.bk) k=true:=by
     rw[rj,aen]
     simp at h
     omega
    refine⟨fun _=>by omega,k+1,jn rfl rfl rfl rfl,⟨by omega,fun j hj=>?_⟩,mlt ay⟩
    rcases ad8 j k with u9|u9
    ·exact Gz j u9
    ·rw[show j=k by omega];exact I4
  intro h
  have he:k=(r.bk).length:=by have:=ad6 h;rw[lb]at this;omega
  subst he
  rw[show(List.range (r.bk).length).all (oV (s.mv.drop r.tk.length) s.times (r.bk))=true from aed.2 fun j hj=>Gz j (aeh.1 hj)]
  exact ext (by kernel_rfl) rfl rfl
 ·intro lE
  have lE:=ad6 lE
  have hI:Wu s.aM=s.aM:=if_neg lE
  have hG:∀r,Yo s.aM r=r.gv:=fun r=>if_neg lE
  repeat refine gG ?_
  refine .inl ⟨_,fun _=>(n5 s.times).ok,?_⟩
  repeat refine gG ?_
  refine adN ?_ ?_
  ·intro h
   have hc:tI s=false:=by
    rw[Ut]at h
    simp at h
    unfold tI
    rw[hI,if_pos (by omega)]
   rw[hc]
   exact ext (by kernel_rfl) rfl rfl
  intro h
  have dr:(0<=s.aM/\s.aM<5)/\1<=s.times/\s.times<=1048576:=by
   rw[Ut]at h
   simp at h
   omega
  obtain⟨r,vG⟩:∃r,dA[(s.aM).toNat]?=some r:=⟨_,ace (show(s.aM).toNat<dA.length by omega)⟩
  have Qd:(dA.map ij)[(s.aM).toNat]?=some (ij r):=by rw[adQ,vG];rfl
  obtain⟨tl1,tl2,tl3⟩:=C7 vG
  have jT:tI s=if r.sp=true\/(s.aM< -1/\r.of<=r.ch)\/s.mv.length≠r.tk.length+(r.gv).length then false else(List.range r.tk.length).all (pY s.mv s.times r.tk)&&(List.range (r.gv).length).all (oV (s.mv.drop r.tk.length) s.times (r.gv)):=by
   unfold tI
   rw[hI,if_neg (by omega),vG]
   simp only[hG]
  have lm:(s.mv.map aq).length=s.mv.length:=adO ..
  have la:(r.tk.map fI).length=r.tk.length:=adO ..
  have lb:((r.gv).map fI).length=(r.gv).length:=adO ..
  refine⟨ij r,fun _=>⟨by omega,Qd⟩,?_⟩
  repeat refine gG ?_
  refine adN (fun h=>absurd (ad5 h) lE) fun _=>?_
  repeat first|refine gG ?_|refine⟨fun _=>by omega,?_⟩|refine⟨fun _=>⟨by rw[adO,adO];omega,by rw[adO,adO];omega⟩,?_⟩
  refine adN ?_ ?_
  ·intro h
   have hc:tI s=false:=by
    rw[lm,la,lb]at h
    rw[jT,if_pos]
    cases lO:r.sp
    ·rw[lO]at h
     simp at h
     omega
    ·exact .inl rfl
   rw[hc]
   exact ext (by kernel_rfl) rfl rfl
  intro h
  have F2:¬(r.sp=true\/(s.aM< -1/\r.of<=r.ch)\/s.mv.length≠r.tk.length+(r.gv).length):=by
   rw[lm,la,lb]at h
   cases lO:r.sp
   ·rw[lO]at h
    simp at h
    rintro(hh|hh)
    ·cases hh
    ·omega
   ·rw[lO]at h;cases h
  rw[if_neg F2]at jT
  have Uu:s.mv.length=r.tk.length+(r.gv).length:=by omega
  rw[jT]
  obtain⟨X0,bt2,bt3⟩:=C6 vG
  obtain⟨f,hf⟩:∃f,s.mv[0]?=some f:=⟨_,ace (show 0<s.mv.length by omega)⟩
  have df:s.mv.getD 0 m0=f:=by rw[adT,hf];rfl
  have i0:(s.mv.map aq)[(0:Int).toNat]?=some (aq f):=by rw[adQ];exact congrArg (Option.map aq) hf
  refine⟨Nat,fun k=>⟨9,[(3,.ptr 7 0),(7,.ptr 8 0),(8,.dv (.sl 2 ((r.gv).map fI))),(81,.dv (.sl 2 (r.tk.map fI))),(82,.dv (I (r.tk.map fI).length)),(83,.dv (I k))],lF P++[(7,.cells (eP (aP s).cells)),(8,.cells (eP (ij r).cells))]⟩,fun k=>k<=r.tk.length/\∀j,j<k->pY s.mv s.times r.tk j=true,fun k=>r.tk.length-k,0,fun _=>rfl,jn rfl rfl rfl rfl,⟨ad3 _,fun j hj=>absurd hj (Nat.not_lt_zero j)⟩,?_⟩
  rintro k ⟨hk,bK⟩
  refine adN ?_ ?_
  ·intro h
   have ay:k<r.tk.length:=by have:=ad5 h;omega
   obtain⟨m,hm⟩:∃m,s.mv[k]?=some m:=⟨_,ace (show k<s.mv.length by omega)⟩
   obtain⟨a,ha⟩:∃a,r.tk[k]?=some a:=⟨_,ace ay⟩
   have dm:s.mv.getD k m0=m:=by rw[adT,hm];rfl
   have da:r.tk.getD k (0,0)=a:=by rw[adT,ha];rfl
   have im:(s.mv.map aq)[(k:Int).toNat]?=some (aq m):=by rw[adQ];simp[hm]
   have ia:(r.tk.map fI)[(k:Int).toNat]?=some (fI a):=by rw[adQ];simp[ha]
   have X1:=vU (X0 a (adR ha)) ⟨dr.2.1,dr.2.2⟩
   have rj:pY s.mv s.times r.tk k=decide (m.fr=f.fr/\m.to=0/\m.it=a.1/\m.n=a.2*s.times):=by unfold pY;rw[dm,df,da]
   repeat first|refine gG ?_|refine⟨fun _=>by omega,?_⟩|refine⟨fI a,fun _=>⟨by omega,ia⟩,?_⟩|refine⟨aq m,fun _=>⟨by omega,im⟩,?_⟩|refine⟨aq f,fun _=>⟨by omega,i0⟩,?_⟩
   refine adN (by kernel_rfl) ?_
   refine adN ?_ ?_
   ·intro h
    have mi:pY s.mv s.times r.tk k=false:=by
     rw[rj,aeq]
     rintro⟨q1,q2,q3,q4⟩
     simp at h
     omega
    rw[kH ay mi]
    exact ext (by kernel_rfl) rfl rfl
   ·intro h
    have I4:pY s.mv s.times r.tk k=true:=by
     rw[rj,aen]
     simp at h
     omega
    refine⟨fun _=>by omega,k+1,jn rfl rfl rfl rfl,⟨by omega,fun j hj=>?_⟩,mlt ay⟩
    rcases ad8 j k with u9|u9
    ·exact bK j u9
    ·rw[show j=k by omega];exact I4
  intro h
  have he:k=r.tk.length:=by have:=ad6 h;omega
  subst he
  rw[show(List.range r.tk.length).all (pY s.mv s.times r.tk)=true from aed.2 fun j hj=>bK j (aeh.1 hj),Bool.true_and]
  repeat refine gG ?_
  refine⟨fun _=>⟨by rw[la];exact Int.natCast_nonneg _,by rw[la,lm];exact Int.ofNat_le.2 (by omega),by rw[lm];exact Int.le_refl _⟩,?_⟩
  have gK:((s.mv.map aq).take (s.mv.map aq).length).drop (r.tk.map fI).length=(s.mv.drop r.tk.length).map aq:=by rw[ad4,la,List.map_drop]
  refine⟨Nat,fun k=>⟨8,[(3,.ptr 7 0),(12,.dv (.sl 5 ((s.mv.drop r.tk.length).map aq))),(130,.dv (.sl 2 ((r.gv).map fI))),(131,.dv (I ((r.gv).map fI).length)),(132,.dv (I k))],lF P++[(7,.cells (eP (aP s).cells))]⟩,fun k=>k<=(r.gv).length/\∀j,j<k->oV (s.mv.drop r.tk.length) s.times (r.gv) j=true,fun k=>(r.gv).length-k,0,fun _=>rfl,jn (congrArg (fun l=>[(3,AV.ptr 7 0),(12,AV.dv (.sl 5 l)),(130,.dv (.sl 2 ((r.gv).map fI))),(131,.dv (I ((r.gv).map fI).length)),(132,.dv (I 0))]) gK) rfl rfl rfl,⟨ad3 _,fun j hj=>absurd hj (Nat.not_lt_zero j)⟩,?_⟩
  rintro k ⟨SU,Gz⟩
  refine adN ?_ ?_
  ·intro h
   have ay:k<(r.gv).length:=by have:=ad5 h;rw[lb]at this;omega
   have hd:∀i,(s.mv.drop r.tk.length)[i]?=s.mv[r.tk.length+i]?:=fun i=>by rw[List.getElem?_drop]
   have ld:((s.mv.drop r.tk.length).map aq).length=(r.gv).length:=by rw[adO,List.length_drop];omega
   obtain⟨m,hm⟩:∃m,(s.mv.drop r.tk.length)[k]?=some m:=⟨_,(hd k).trans (ace (show r.tk.length+k<s.mv.length by omega))⟩
   obtain⟨g,hg⟩:∃g,(s.mv.drop r.tk.length)[0]?=some g:=⟨_,(hd 0).trans (ace (show r.tk.length+0<s.mv.length by omega))⟩
   obtain⟨a,ha⟩:∃a,(r.gv)[k]?=some a:=⟨_,ace ay⟩
   have dm:(s.mv.drop r.tk.length).getD k m0=m:=by rw[adT,hm];rfl
   have dg:(s.mv.drop r.tk.length).getD 0 m0=g:=by rw[adT,hg];rfl
   have da:(r.gv).getD k (0,0)=a:=by rw[adT,ha];rfl
   have im:((s.mv.drop r.tk.length).map aq)[(k:Int).toNat]?=some (aq m):=by rw[adQ];exact congrArg (Option.map aq) hm
   have ig:((s.mv.drop r.tk.length).map aq)[(0:Int).toNat]?=some (aq g):=by rw[adQ];exact congrArg (Option.map aq) hg
   have ia:((r.gv).map fI)[(k:Int).toNat]?=some (fI a):=by rw[adQ];exact congrArg (Option.map fI) ha
   have X1:=vU (bt2 a (adR ha)) ⟨dr.2.1,dr.2.2⟩
   have rj:oV (s.mv.drop r.tk.length) s.times (r.gv) k=decide (m.fr=0/\m.to=g.to/\m.it=a.1/\m.n=a.2*s.times):=by unfold oV;rw[dm,dg,da]
   repeat first|refine gG ?_|refine⟨fun _=>by omega,?_⟩|refine⟨fI a,fun _=>⟨by omega,ia⟩,?_⟩|refine⟨aq m,fun _=>⟨by omega,im⟩,?_⟩|refine⟨aq g,fun _=>⟨by omega,ig⟩,?_⟩
   refine adN (by kernel_rfl) ?_
   refine adN ?_ ?_
   ·intro h
    have mi:oV (s.mv.drop r.tk.length) s.times (r.gv) k=false:=by
     rw[rj,aeq]
     rintro⟨q1,q2,q3,q4⟩
     simp at h
     omega
    rw[kH ay mi]
    exact ext (by kernel_rfl) rfl rfl
   ·intro h
    have I4:oV (s.mv.drop r.tk.length) s.times (r.gv) k=true:=by
     rw[rj,aen]
     simp at h
     omega
    refine⟨fun _=>by omega,k+1,jn rfl rfl rfl rfl,⟨by omega,fun j hj=>?_⟩,mlt ay⟩
    rcases ad8 j k with u9|u9
    ·exact Gz j u9
    ·rw[show j=k by omega];exact I4
  intro h
  have he:k=(r.gv).length:=by have:=ad6 h;rw[lb]at this;omega
  subst he
  rw[show(List.range (r.gv).length).all (oV (s.mv.drop r.tk.length) s.times (r.gv))=true from aed.2 fun j hj=>Gz j (aeh.1 hj)]
  exact ext (by kernel_rfl) rfl rfl
end
section
open Go.TM
def ZP(s:cG):Bool:=bif decide (s.kind=4)then tI s else bif decide (s.kind=10)then tw s else decide (s.aM=-1)&&decide (s.times=0)
def sj(now:Int)(s:cG):Bool:=AE s&&decide (0<=s.tick/\now<=s.tick/\s.tick<=1099511627776/\1<=s.mv.length/\s.mv.length<=64)&&s.mv.all (si s.kind)&&ZP s
variable [bj]
theorem UT(P:PL)(s:cG)(hr:vP s.aM)(hl:s.mv.length<=1000)(h1:1<=s.mv.length):aj Tryz.prog (whN s.kind) [.ptr 0 0,cx (aP s)] 7 (lF P) 0 [.dv (B (ZP s))] (lF P):=by
 unfold whN ZP
 split
 ·rename_i h;rw[aeb h];exact DB P s hr hl h1
 rename_i h4
 rw[aec h4]
 split
 ·rename_i h;rw[aeb h];exact Gy P s
 ·rename_i h;rw[aec h];exact DA P s
theorem mE(P:PL)(s:cG)(hr:vP s.aM)(hn:P.sp.length<=1000000)(hl:s.mv.length<=1000)(kz:∀m∈s.mv,m.ps.length<=4000):aj Tryz.prog 98 [.ptr 0 0,cx (aP s)] 7 (lF P) 0 [.dv (B (sj (eW P.sp) s))] (lF P):=by
 by_cases hk:0<=s.kind/\s.kind<=10
 ·by_cases hg:(0<=s.iF/\s.iF<=1073741824)/\0<=s.tick/\s.tick<=1099511627776
  ·refine cO Tryz.func98 rfl (by kernel_rfl) ?_
   repeat refine gG ?_
   refine .inl ⟨_,fun _=>(BR s.kind hk).ok,?_⟩
   repeat refine gG ?_
   refine .inl ⟨_,fun _=>(lH s.iF).ok,?_⟩
   repeat refine gG ?_
   refine .inr (cl [0,1,2,3,4,5,6] (MX P hn) (by kernel_rfl) rfl rfl ?_)
   refine⟨by simp[bw];omega,?_⟩
   repeat first|refine gG ?_|refine⟨fun _=>rfl,?_⟩
   refine adN (by kernel_rfl) ?_
   have hA:AE s=true:=aeb ⟨hk.1,hk.2,hg.1.1,hg.1.2⟩
   refine adN ?_ ?_
   ·intro h
    have hc:sj (eW P.sp) s=false:=by
     have:decide (0<=s.tick/\eW P.sp<=s.tick/\s.tick<=1099511627776/\1<=s.mv.length/\s.mv.length<=64)=false:=by
      rw[aeq]
      rw[adO]at h
      simp at h
      omega
     unfold sj
     rw[this,Bool.and_false];rfl
    rw[hc]
    exact ext (by kernel_rfl) rfl rfl
   intro h
   have hB:0<=s.tick/\eW P.sp<=s.tick/\s.tick<=1099511627776/\1<=s.mv.length/\s.mv.length<=64:=by
    rw[adO]at h
    simp at h
    omega
   have hp:sj (eW P.sp) s=(s.mv.all (si s.kind)&&ZP s):=by
    unfold sj
    rw[hA,aeb hB];simp
   rw[hp]
   have lm:(s.mv.map aq).length=s.mv.length:=adO ..
   refine⟨Nat,fun k=>⟨9,[(0,.ptr 0 0),(3,.ptr 7 0),(5,.ptr 8 0),(53,.dv (.sl 5 (s.mv.map aq))),(54,.dv (I (s.mv.map aq).length)),(55,.dv (I k))],lF P++[(7,.cells (eP (aP s).cells)),(8,.cells (eP (Yn s.kind).cells))]⟩,fun k=>k<=s.mv.length/\∀m∈s.mv.take k,si s.kind m=true,fun k=>s.mv.length-k,0,fun _=>rfl,jn rfl rfl rfl rfl,⟨ad3 _,by simp⟩,?_⟩
   rintro k ⟨hk,bK⟩
   refine adN ?_ ?_
   ·intro h
    have ay:k<s.mv.length:=by have:=ad5 h;omega
    obtain⟨m,hm⟩:∃m,s.mv[k]?=some m:=⟨_,ace ay⟩
    have lW:=adR hm
    have im:(s.mv.map aq)[(k:Int).toNat]?=some (aq m):=by rw[adQ];exact congrArg (Option.map aq) hm
    refine⟨aq m,fun _=>⟨by omega,im⟩,?_⟩
    refine .inr (cl [0,1,2,3,4,5,6] (mX P m s.kind (kz m lW)) (by kernel_rfl) rfl rfl ?_)
    refine adN ?_ ?_
    ·intro h
     have h:si s.kind m=false:=by simpa using h
     rw[show s.mv.all (si s.kind)=false from List.all_eq_false.2 ⟨m,lW,by rw[h];simp⟩]
     exact ext (by kernel_rfl) rfl rfl
    ·intro h
     have h:si s.kind m=true:=by simpa using h
     exact⟨fun _=>by omega,k+1,jn rfl rfl rfl rfl,⟨by omega,fun q hq=>by
      rw[adY,hm]at hq
      rcases adX.1 hq with hq|hq
      ·exact bK q hq
      ·simp at hq;subst hq;exact h⟩,mlt ay⟩
   intro h
   have he:k=s.mv.length:=by have:=ad6 h;omega
   subst he
   rw[ad4]at bK
   rw[show s.mv.all (si s.kind)=true from aed.2 bK,Bool.true_and]
   refine .inr (cl [0,1,2,3,4,5,6] (UT P s hr hl (by omega)) (by kernel_rfl) rfl rfl ?_)
   exact ext (by kernel_rfl) rfl rfl
  ·have hA:sj (eW P.sp) s=false:=by
    have:AE s=false\/decide (0<=s.tick/\eW P.sp<=s.tick/\s.tick<=1099511627776/\1<=s.mv.length/\s.mv.length<=64)=false:=by
     unfold AE
     rw[aeq,aeq]
     omega
    unfold sj
    rcases this with h|h<;>rw[h]<;>simp
   rw[hA]
   refine cO Tryz.func98 rfl (by kernel_rfl) ?_
   repeat refine gG ?_
   refine .inl ⟨_,fun _=>(BR s.kind hk).ok,?_⟩
   repeat refine gG ?_
   refine .inl ⟨_,fun _=>(lH s.iF).ok,?_⟩
   repeat refine gG ?_
   refine .inl ⟨by simp[bw];omega,[I 0],fun h=>absurd h (by simp[bw];omega),rfl,?_⟩
   repeat refine gG ?_
   refine adN (by kernel_rfl) ?_
   refine adN (fun _=>ext (by kernel_rfl) rfl rfl) fun h=>absurd h ?_
   simp;omega
 ·have hA:sj (eW P.sp) s=false:=by
   have:AE s=false:=by
    unfold AE
    rw[aeq]
    omega
   unfold sj
   rw[this];simp
  rw[hA]
  refine cO Tryz.func98 rfl (by kernel_rfl) ?_
  repeat refine gG ?_
  refine .inl ⟨_,fun _=>(Jo s.kind hk).ok,?_⟩
  repeat refine gG ?_
  refine .inl ⟨_,fun _=>(lH s.iF).ok,?_⟩
  repeat refine gG ?_
  refine .inl ⟨by simp[bw],[I 0],fun h=>absurd h (by simp[bw]),rfl,?_⟩
  repeat refine gG ?_
  refine adN (by kernel_rfl) ?_
  refine adN (fun _=>ext (by kernel_rfl) rfl rfl) fun h=>absurd h ?_
  simp
end
section
open Go.TM
theorem UU{i:Nat}{r:S1}(h:dA[i]?=some r):r.of<=r.ch↔r.ch=r.of:=by
 have:∀r∈dA,r.ch<=r.of:=by
  intro r hr
  simp only[dA,adV,List.mem_nil_iff,or_false]at hr
  rcases hr with rfl|rfl|rfl|rfl|rfl<;>decide
 have:=this r (adR h)
 omega
theorem BS(l:List c5)(n j:Nat):(l.drop n).getD j m0=l.getD (n+j) m0:=by
 rw[adT,adT,List.getElem?_drop]
theorem QJ{l:List c5}{i:Nat}(h:i<l.length):l.getD i m0∈l:=by
 rw[adT,ace h];exact ael h
theorem Yp(mv:List c5)(tm:Int)(tk gv:List Ky)(hb:∀m∈mv,di m=true)(hl:mv.length=tk.length+gv.length):((List.range tk.length).all (pY mv tm tk)&&(List.range gv.length).all (oV (mv.drop tk.length) tm gv))=(List.range mv.length).all (gR mv tm tk gv):=by
 have hB:∀i,i<mv.length->(mv.getD i m0).fr≠(mv.getD i m0).to/\0<=(mv.getD i m0).fr/\0<=(mv.getD i m0).to:=fun i hi=>by
  have:=ad5 (hb _ (QJ hi))
  omega
 rw[aek,aep,aed,aed,aed]
 have hT:∀k,pY mv tm tk k=true↔((mv.getD k m0).fr=(mv.getD 0 m0).fr/\(mv.getD k m0).to=0/\(mv.getD k m0).it=(tk.getD k (0,0)).1/\(mv.getD k m0).n=(tk.getD k (0,0)).2*tm):=fun k=>aen
 have hG:∀k,oV (mv.drop tk.length) tm gv k=true↔((mv.getD (tk.length+k) m0).fr=0/\(mv.getD (tk.length+k) m0).to=(mv.getD tk.length m0).to/\(mv.getD (tk.length+k) m0).it=(gv.getD k (0,0)).1/\(mv.getD (tk.length+k) m0).n=(gv.getD k (0,0)).2*tm):=fun k=>by
  unfold oV
  rw[aen,BS,BS,Nat.add_zero]
 have hM1:∀k,k<tk.length->(gR mv tm tk gv k=true↔((mv.getD k m0).fr=(mv.getD 0 m0).fr/\1<=(mv.getD k m0).fr/\(mv.getD k m0).to=0/\(mv.getD k m0).it=(tk.getD k (0,0)).1/\(mv.getD k m0).n=(tk.getD k (0,0)).2*tm)):=fun k h=>by
  unfold gR
  rw[if_pos h,aen]
 have XY:∀k,gR mv tm tk gv (tk.length+k)=true↔((mv.getD (tk.length+k) m0).fr=0/\1<=(mv.getD (tk.length+k) m0).to/\(mv.getD (tk.length+k) m0).to=(mv.getD (mv.length-1) m0).to/\(mv.getD (tk.length+k) m0).it=(gv.getD k (0,0)).1/\(mv.getD (tk.length+k) m0).n=(gv.getD k (0,0)).2*tm):=fun k=>by
  unfold gR
  rw[if_neg (by omega),aen,Nat.add_sub_cancel_left]
 constructor
 ·rintro⟨h1,h2⟩ k hk
  have hk:=aeh.1 hk
  rcases ad8 k tk.length with h|h
  ·have:=(hT k).1 (h1 k (aeh.2 h))
   have hb:=hB k hk
   rw[hM1 k h]
   refine⟨this.1,?_,this.2⟩
   omega
  ·obtain⟨j,rfl⟩:∃j,k=tk.length+j:=⟨k-tk.length,by omega⟩
   have a:=(hG j).1 (h2 j (aeh.2 (by omega)))
   have b:=(hG (gv.length-1)).1 (h2 (gv.length-1) (aeh.2 (by omega)))
   have hb:=hB _ hk
   rw[XY]
   rw[show mv.length-1=tk.length+(gv.length-1)by omega]
   refine⟨a.1,by omega,?_,a.2.2⟩
   rw[a.2.1,b.2.1]
 ·intro h
  refine⟨fun k hk=>?_,fun j hj=>?_⟩
  ·have hk:=aeh.1 hk
   have:=(hM1 k hk).1 (h k (aeh.2 (by omega)))
   rw[hT]
   exact⟨this.1,this.2.2⟩
  ·have hj:=aeh.1 hj
   have a:=(XY j).1 (h _ (aeh.2 (by omega)))
   have b:=(XY 0).1 (h _ (aeh.2 (by omega)))
   rw[Nat.add_zero]at b
   rw[hG]
   refine⟨a.1,?_,a.2.2.2⟩
   rw[a.2.2.1,b.2.2.1]
theorem Yq(s:cG)(hb:∀m∈s.mv,di m=true):tI s=qY s:=by
 unfold tI qY
 by_cases h1:s.aM=-1
 ·rw[if_pos,if_pos]
  ·unfold Qc;rw[h1];simp
  ·unfold Wu;rw[h1];simp
 have e1:Wu s.aM=Qc s.aM:=by unfold Wu Qc;split<;>split<;>omega
 have e2:Yo s.aM=XZ s.aM:=by funext r;unfold Yo XZ;split<;>split<;>first|rfl|omega
 rw[e1,e2]
 by_cases h2:Qc s.aM<0\/5<=Qc s.aM\/s.times<1\/1048576<s.times
 ·rw[if_pos h2,if_pos h2]
 rw[if_neg h2,if_neg h2]
 cases hr:dA[(Qc s.aM).toNat]? with
 |none=>rfl
 |some r=>
  have hch:=UU hr
  dsimp only
  cases r.sp with
  |true=>simp
  |false=>
   simp only[cond_false,Bool.false_eq_true,false_or]
   by_cases h3:(s.aM<0/\r.ch=r.of)\/s.mv.length≠r.tk.length+(XZ s.aM r).length
   ·rw[if_pos h3,if_pos]
    rcases h3 with h3|h3
    ·exact .inl ⟨by omega,hch.2 h3.2⟩
    ·exact .inr h3
   ·rw[if_neg h3,if_neg]
    ·exact Yp s.mv s.times r.tk _ hb (by omega)
    ·rintro(h4|h4)
     ·exact h3 (.inl ⟨by omega,hch.1 h4.2⟩)
     ·exact h3 (.inr h4)
theorem QK{k:Int}(hk:0<=k/\k<=10)(h4:k≠4)(S3:k≠10){m:c5}(hb:di m=true):(Dy k m.fr&&Dz k m.to)=mg k m:=by
 have hb:=ad5 hb
 rw[aek]
 rcases kinds hk with rfl|rfl|rfl|rfl|rfl|rfl|rfl|rfl|rfl|rfl|rfl<;>first|exact absurd rfl h4|exact absurd rfl S3|(simp[Dy,Dz,mg];omega)
theorem UW{l:List c5}{p q:c5->Bool}:l.all (fun m=>p m&&q m)=(l.all p&&l.all q):=by
 induction l with
 |nil=>rfl
 |cons a l ih=>simp only[List.all_cons,ih];cases p a<;>cases q a<;>cases l.all p<;>rfl
theorem pos_eq(now:Int)(s:cG)(h0:0<=now):sj now s=iz now s:=by
 unfold sj iz
 cases hr:AE s with
 |false=>rfl
 |true=>
 have hr:=ad5 hr
 have hd:decide (0<=s.tick/\now<=s.tick/\s.tick<=1099511627776/\1<=s.mv.length/\s.mv.length<=64)=decide (now<=s.tick/\s.tick<=1099511627776/\1<=s.mv.length/\s.mv.length<=64):=by
  rw[decide_eq_decide];omega
 rw[hd]
 generalize decide (now<=s.tick/\s.tick<=1099511627776/\1<=s.mv.length/\s.mv.length<=64)=d
 rw[show s.mv.all (si s.kind)=(s.mv.all (fun m=>AD m (ng s.kind))&&s.mv.all fun m=>Dy s.kind m.fr&&Dz s.kind m.to)from UW]
 cases hm:s.mv.all (fun m=>AD m (ng s.kind))with
 |false=>cases d<;>rfl
 |true=>
 have hb:∀m∈s.mv,di m=true:=fun m h=>by
  have:=aed.1 hm m h
  unfold AD at this
  exact(aep _ _▸this).1
 have hw:((s.mv.all fun m=>Dy s.kind m.fr&&Dz s.kind m.to)&&ZP s)=(bif decide (s.kind=4)then qY s else bif decide (s.kind=10)then tw s else s.mv.all (mg s.kind)&&decide (s.aM=-1/\s.times=0)):=by
  unfold ZP
  by_cases h4:s.kind=4
  ·rw[aeb h4,show(s.mv.all fun m=>Dy s.kind m.fr&&Dz s.kind m.to)=true from aed.2 fun m _=>by rw[h4];rfl]
   exact Yq s hb
  rw[aec h4]
  by_cases S3:s.kind=10
  ·rw[aeb S3,show(s.mv.all fun m=>Dy s.kind m.fr&&Dz s.kind m.to)=true from aed.2 fun m _=>by rw[S3];rfl]
   rfl
  rw[aec S3]
  simp only[cond_false]
  congr 1
  ·rw[aek,aed,aed]
   exact forall_congr' fun m=>forall_congr' fun h=>by rw[QK ⟨hr.1,hr.2.1⟩ h4 S3 (hb m h)]
  ·rw[aek];simp
 rw[<-hw]
 cases d<;>simp
end
section
open Go.TM
variable [bj]
theorem M8(P:PL)(s:cG)(hr:vP s.aM)(hn:P.sp.length<=1000000)(hl:s.mv.length<=1000)(kz:∀m∈s.mv,m.ps.length<=4000)(hp:sj (eW P.sp) s=false)(ay:(P.sp.length:Int)<65536):aj Tryz.prog 51 [.ptr 0 0,cx (aP s)] 7 (lF P) 0 [.dv .eZ,.dv (I 1)] (lF P):=by
 have lp:(P.sp.map aP).length=P.sp.length:=adO ..
 have kz:=mE P s hr hn hl kz
 rw[hp]at kz
 refine cO Tryz.func51 rfl (by kernel_rfl) ?_
 repeat refine gG ?_
 refine adN (fun h2=>absurd (ad5 h2) (by omega)) fun _=>?_
 refine .inr (cl [0,1,2,3,4,5,6] kz (by kernel_rfl) rfl rfl ?_)
 exact adN (fun _=>ext (by kernel_rfl) rfl rfl) fun h=>(by cases h)
end
section
open Go.TM
structure Ch where
 sp:cG
 st:SM
 bZ:IM Int
 imp:IM (List Lt)
 ret:IM (List Lt)
 fl:List bp
 sk:List Int
def acP(P:PL):List AV:=.dv (I P.sh)::eP iG++[.own 8 0 0 [],.own 9 0 0 [],.own 10 0 0 [],.own 11 0 0 [],.own 12 0 0 [],.own 13 0 0 []]
def aby(P:PL):ad:=[(7,.cells (acP P)),(8,.tree 0 0 (.omap eE (oZ P.st))),(9,.tree 0 0 (.omap bX (j4 P.bZ))),(10,.tree 0 0 (.aD 7 (P.sp.map aP))),(11,.tree 0 0 (.aD 11 (P.fl.map ar))),(12,.tree 0 0 (.omap bX (ni P.imp))),(13,.tree 0 0 (.omap bX (ni P.ret)))]
def chC(v u:Nat)(c:Ch):List AV:=.ptr 7 0::(eP (aP c.sp).cells++[.own 1 0 0 [],.own 2 0 0 [],.own 3 0 0 [],.own 4 0 0 [],.own 5 v 0 [],.own 6 u 0 []])
def dJ(v u:Nat)(P:PL)(c:Ch):ad:=[(0,.cells (chC v u c)),(1,.tree 0 0 (.omap eE (oZ c.st))),(2,.tree 0 0 (.omap bX (j4 c.bZ))),(3,.tree 0 0 (.omap bX (ni c.imp))),(4,.tree 0 0 (.omap bX (ni c.ret))),(5,.tree v 0 (.aD 11 (c.fl.map ar))),(6,.tree u 0 (.aD 1 (c.sk.map I)))]++aby P
def eL(P:PL)(c:Ch)(k:Ky):List Lt:=(aU c.st k).getD (bC P.st k)
theorem gh(l:List Lt):(aQ l).aW:=fun d hd=>by
 have hd:d∈[aQ l]:=hd
 rw[adU]at hd;subst hd;rfl
theorem tJ(n:Int):(I n).aW:=fun d hd=>by
 have hd:d∈[I n]:=hd
 rw[adU]at hd;subst hd;rfl
theorem n9(m:SM)(k:Ky):∀x,b7 (oZ m) (sa k)=some x->x.aW:=by
 intro x hx
 rw[show b7 (oZ m) (sa k)=_ from dU (ev:=fun l:List Lt=>aQ l) ja m k]at hx
 cases hq:aU m k with
 |none=>rw[hq]at hx;cases hx
 |some y=>rw[hq]at hx;injection hx with hx;subst hx;exact gh y
theorem mF(m:IM Int)(k:Int):∀x,b7 (j4 m) (eI k)=some x->x.aW:=by
 intro x hx
 rw[show b7 (j4 m) (eI k)=_ from dU (ev:=eI) eT m k]at hx
 cases hq:aU m k with
 |none=>rw[hq]at hx;cases hx
 |some y=>rw[hq]at hx;injection hx with hx;subst hx;exact tJ y
theorem DC(m:IM (List Lt))(k:Int):∀x,b7 (ni m) (eI k)=some x->x.aW:=by
 intro x hx
 rw[show b7 (ni m) (eI k)=_ from dU (ev:=fun l:List Lt=>aQ l) eT m k]at hx
 cases hq:aU m k with
 |none=>rw[hq]at hx;cases hx
 |some y=>rw[hq]at hx;injection hx with hx;subst hx;exact gh y
variable [bj]
theorem iI(P:PL)(c:Ch)(a i:Int):aj Tryz.prog 146 [.ptr 0 0,.dv (I a),.dv (I i)] 14 (dJ 0 0 P c) 0 [.dv (aQ (eL P c (a,i)))] (dJ 0 0 P c):=by
 have hg:=dU (ev:=fun l:List Lt=>aQ l) ja c.st (a,i)
 have hh:=dU (ev:=fun l:List Lt=>aQ l) ja P.st (a,i)
 refine cO Tryz.func146 rfl (by kernel_rfl) ?_
 refine⟨nj,sa (a,i),rfl,rfl,?_⟩
 unfold eL
 cases h:aU c.st (a,i)with
 |some l=>
  rw[h]at hg
  refine⟨aQ l,true,fun _=>hg,fun h=>(by cases h),rfl,?_⟩
  refine adN (by kernel_rfl) ?_
  refine adN (fun _=>?_) fun h=>(by cases h)
  exact ext (by kernel_rfl) rfl rfl
 |none=>
  rw[h]at hg
  refine⟨.aw,false,fun _=>hg,fun _=>rfl,rfl,?_⟩
  refine adN (by kernel_rfl) ?_
  refine adN (fun h=>(by cases h)) fun _=>?_
  refine⟨nj,sa (a,i),rfl,rfl,?_⟩
  unfold bC
  cases h:aU P.st (a,i)with
  |some l=>
   rw[h]at hh
   refine⟨aQ l,true,fun _=>hh,fun h=>(by cases h),rfl,?_⟩
   exact⟨by kernel_rfl,ext (by kernel_rfl) rfl rfl⟩
  |none=>
   rw[h]at hh
   refine⟨.aw,false,fun _=>hh,fun _=>rfl,rfl,?_⟩
   refine adN (by kernel_rfl) ?_
   exact⟨_,_,⟨rfl,rfl⟩,by kernel_rfl,⟨DV.aL 3,tv⟩,aZ (k:=dJ 0 0 P c) rfl⟩
def unK(a b:IM (List Lt)):ad:=[(0,.tree 0 0 (.omap bX (ni a))),(1,.tree 0 0 (.omap bX (ni b)))]
def sD(a b:IM (List Lt))(f:Int):Option (List Lt):=(aU a f).or (aU b f)
def unD:Option (List Lt)->DV
 |some l=>aQ l
 |none=>.aw
theorem zr(m b:IM (List Lt))(f:Int):aj Tryz.prog 236 [.own 0 0 0 [],.own 1 0 0 [],.dv (I f)] 2 (unK m b) 0 [.dv (unD (sD m b f))] (unK m b):=by
 have hg:=dU (ev:=fun l:List Lt=>aQ l) eT m f
 have hh:=dU (ev:=fun l:List Lt=>aQ l) eT b f
 refine cO Tryz.func236 rfl (by kernel_rfl) ?_
 refine⟨gf,eI f,rfl,rfl,?_⟩
 unfold sD
 cases h:aU m f with
 |some l=>
  rw[h]at hg
  refine⟨aQ l,true,fun _=>hg,fun h=>(by cases h),rfl,?_⟩
  refine adN (fun _=>?_) fun h=>(by cases h)
  exact ext (by kernel_rfl) rfl rfl
 |none=>
  rw[h]at hg
  refine⟨.aw,false,fun _=>hg,fun _=>rfl,rfl,?_⟩
  refine adN (fun h=>(by cases h)) fun _=>?_
  refine⟨gf,eI f,rfl,rfl,?_⟩
  cases h:aU b f with
  |some l=>
   rw[h]at hh
   refine⟨aQ l,true,fun _=>hh,fun h=>(by cases h),rfl,?_⟩
   exact ext (by kernel_rfl) rfl rfl
  |none=>
   rw[h]at hh
   refine⟨.aw,false,fun _=>hh,fun _=>rfl,rfl,?_⟩
   exact ext (by kernel_rfl) rfl rfl
end
section
open Go.TM
theorem Lp{it:Int}(h:0<=it/\it<5):∃s o c w b z,(CX (I 2) (I 20))[it.toNat]?=some (.agg [.str s,B o,B (wM it),B c,I w,I b,I z]):=by
 have:it=0\/it=1\/it=2\/it=3\/it=4:=by omega
 rcases this with rfl|rfl|rfl|rfl|rfl<;>exact⟨_,_,_,_,_,_,rfl⟩
variable [bj]
theorem QL(hS:n4)(P:PL)(c:Ch)(m:c5)(hp:m.ps=[])(hi:0<=m.it/\m.it<5)(hm:0<=m.n/\m.n<=1099511627776)(hv:bz (eL P c (m.fr,m.it))=true)(hc:decide (cu (eL P c (m.fr,m.it))<m.n)=true):aj Tryz.prog 215 [.ptr 0 0,cx (aq m)] 14 (dJ 0 0 P c) 0 [.dv (aQ []),.dv (I 10)] (dJ 0 0 P c):=by
 have ht:=fun x=>(zp hS (eL P c (m.fr,m.it)) m.n x hm hv).ok
 unfold FN at ht
 rw[hc]at ht
 obtain⟨z1,z2,z3,z4,z5,z6,hx⟩:=Lp hi
 have lp:(m.ps.map ax).length=0:=by rw[hp];rfl
 refine cO Tryz.func215 rfl (by kernel_rfl) ?_
 repeat refine gG ?_
 refine .inr (cl [0,1,2,3,4,5,6,7,8,9,10,11,12,13] (iI P c m.fr _) (by kernel_rfl) rfl rfl ?_)
 repeat refine gG ?_
 refine adN (fun _=>?_) fun h=>(by rw[lp]at h;cases h)
 refine⟨_,fun _=>⟨hi.1,hx⟩,?_⟩
 refine .inl ⟨_,fun _=>ht _,?_⟩
 refine adN (by kernel_rfl) ?_
 refine adN (fun _=>?_) fun h=>(by cases h)
 exact⟨_,_,⟨rfl,rfl⟩,by kernel_rfl,⟨DV.aL 3,rf,tv⟩,aZ (k:=dJ 0 0 P c) rfl⟩
theorem QM(hS:n4)(P:PL)(c:Ch)(m:c5)(hp:m.ps=[])(hi:0<=m.it/\m.it<5)(hm:0<=m.n/\m.n<=1099511627776)(hv:bz (eL P c (m.fr,m.it))=true)(hc:decide (cu (eL P c (m.fr,m.it))<m.n)=false):aj Tryz.prog 215 [.ptr 0 0,cx (aq m)] 14 (dJ 0 0 P c) 0 [.dv (aQ (eV (eL P c (m.fr,m.it)) m.n (wM m.it)).1),.dv (I 0)] (dJ 0 0 P { c with st:=aH c.st (m.fr,m.it) (eV (eL P c (m.fr,m.it)) m.n (wM m.it)).2 }):=by
 have ht:=fun x=>(zp hS (eL P c (m.fr,m.it)) m.n x hm hv).ok
 unfold FN at ht
 rw[hc]at ht
 obtain⟨z1,z2,z3,z4,z5,z6,hx⟩:=Lp hi
 have lp:(m.ps.map ax).length=0:=by rw[hp];rfl
 refine cO Tryz.func215 rfl (by kernel_rfl) ?_
 repeat refine gG ?_
 refine .inr (cl [0,1,2,3,4,5,6,7,8,9,10,11,12,13] (iI P c m.fr _) (by kernel_rfl) rfl rfl ?_)
 repeat refine gG ?_
 refine adN (fun _=>?_) fun h=>(by rw[lp]at h;cases h)
 refine⟨_,fun _=>⟨hi.1,hx⟩,?_⟩
 refine .inl ⟨_,fun _=>ht _,?_⟩
 refine adN (by kernel_rfl) ?_
 refine adN (fun h=>(by cases h)) fun _=>?_
 refine⟨nj,sa (m.fr,m.it),rfl,rfl,?_⟩
 refine⟨aQ (eV (eL P c (m.fr,m.it)) m.n (wM m.it)).2,⟨rf,tv⟩,rfl,false,fun _=>⟨n9 c.st _,gh _⟩,?_⟩
 rw[show cW (oZ c.st) (sa (m.fr,m.it)) (aQ (eV (eL P c (m.fr,m.it)) m.n (wM m.it)).2)=oZ (aH c.st (m.fr,m.it) (eV (eL P c (m.fr,m.it)) m.n (wM m.it)).2)from cP ja c.st _ _]
 exact⟨by kernel_rfl,ext (by kernel_rfl) rfl rfl⟩
end
section
open Go.Proofs Go.Sort Go.RowKit
theorem GA(w:World):Calls Tryz.prog 238 #[.slice none 0 0] w fun e w'=>e=.returned (.slice none 0 0)/\w'=w:=by
 go_enter Tryz.func238,Tryz.ntmps238
 go_wp2
 go_ret
 exact⟨by simp,rfl⟩
theorem zt(a:Addr)(l c:Nat)(h:l<=c)(w:World):Calls Tryz.prog 238 #[.slice (some a) l c] w fun e w'=>e=.returned (.slice (some a) l l)/\w'=w:=by
 go_enter Tryz.func238,Tryz.ntmps238
 go_wp2
 go_ret
 exact⟨by simp,rfl⟩
open Go.TM
variable [bj]
theorem GB:gM Tryz.prog 238:=⟨_,Tryz.func238,by kernel_rfl,by kernel_rfl⟩
theorem UX{a:DV}(h:∀(M:Mem) v,bu M a v->v=.slice none 0 0\/∃p l c,l<=c/\v=.slice (some p) l c/\bu M a (.slice (some p) l l)):aR Tryz.prog 238 [a] [a]:=by
 refine⟨GB,fun w M vs dr hg hr=>?_⟩
 match vs,hr with
 |[v],hr=>
  have hv:bu M a v:=hr.2 0 a v rfl rfl
  rcases h M v hv with rfl|⟨p,l,c,h1,rfl,h3⟩
  ·refine(GA w).mono ?_
   rintro e w' ⟨rfl,rfl⟩
   exact⟨_,M,rfl,Below.refl _ _,Mem.Le.refl _,dr,fun _ _=>rfl,hv⟩
  ·refine(zt p l c h1 w).mono ?_
   rintro e w' ⟨rfl,rfl⟩
   exact⟨_,M,rfl,Below.refl _ _,Mem.Le.refl _,dr,fun _ _=>rfl,h3⟩
theorem zu:aR Tryz.prog 238 [.aw] [.aw]:=UX fun M v hv=>by
 generalize hx:DV.aw=x at hv
 cases hv with
 |aw=>exact .inl rfl
 |_=>cases hx
end
section
open Go.TM
def M9(P:PL)(c:Ch)(x:Lt):Int:=bif (bif x.f.tdiv 4294967296==P.sh then true else decide (12<=x.f.tdiv 4294967296))then 1 else match sD c.imp P.imp x.f with
 |some _=>8
 |none=>0
def QN(P:PL)(c:Ch)(x:Lt):Ch:=if M9 P c x=0 then { c with imp:=aH c.imp x.f (cL [x]) }else c
theorem DD(x:Lt):(kD [x] []).1=[]:=by
 simp only[kD,kC,List.dropWhile_nil,Ab,List.flatMap_cons,List.flatMap_nil,List.append_nil]
 split<;>rfl
variable [bj]
theorem Jp(P:PL)(c:Ch)(m:c5)(x:Lt)(hp:m.ps=[x])(hx:aB x=true)(hf:x.f<=9223372036854775807)(hq:∀l,sD c.imp P.imp x.f=some l->NS l/\(∀y∈l,aB y=true)/\l.length<=5000/\(kD [x] l).1≠[]):aj Tryz.prog 216 [.ptr 0 0,cx (aq m)] 14 (dJ 0 0 P c) 0 [.dv (I (M9 P c x))] (dJ 0 0 P (QN P c x)):=by
 have lp:(m.ps.map ax).length=1:=by rw[hp];rfl
 have ix:(m.ps.map ax)[(0:Int).toNat]?=some (ax x):=by rw[hp];rfl
 refine cO Tryz.func216 rfl (by kernel_rfl) ?_
 repeat refine gG ?_
 refine⟨Nat,fun i=>⟨15,[(0,.ptr 0 0),(12,.dv (.sl 3 (m.ps.map ax))),(13,.dv (I (m.ps.map ax).length)),(14,.dv (I i))],dJ 0 0 P (match i with|0=>c|_=>QN P c x)⟩,fun i=>i<=1/\(i=1->M9 P c x=0),fun i=>1-i,0,fun _=>rfl,jn rfl rfl rfl rfl,by omega,?_⟩
 rintro i ⟨hi,hz⟩
 refine adN ?_ ?_
 ·intro h
  have h0:i=0:=by have:=ad5 h;omega
  subst h0
  have hb:=ah.1 hx
  have jE:=Int.tdiv_nonneg hb.1 (show(0:Int)<=4294967296 by decide)
  have ct:x.f.tdiv 4294967296<=x.f:=Int.tdiv_le_self _ hb.1
  refine⟨ax x,fun _=>⟨by omega,ix⟩,?_⟩
  refine⟨fun _ h=>(by cases h),fun _=>by omega,?_⟩
  repeat refine gG ?_
  refine adN ?_ ?_
  ·intro h
   have he:M9 P c x=1:=by unfold M9;rw[h];rfl
   have hc:QN P c x=c:=by unfold QN;rw[he];rfl
   rw[he,hc]
   exact ext (by kernel_rfl) rfl rfl
  intro h
  refine .inr (cl [3,12] (zr c.imp P.imp x.f) (by kernel_rfl) rfl rfl ?_)
  cases hu:sD c.imp P.imp x.f with
  |some l=>
   obtain⟨q1,q2,q3,q4⟩:=hq l hu
   have he:M9 P c x=8:=by unfold M9;rw[h,hu];rfl
   have hc:QN P c x=c:=by unfold QN;rw[he];rfl
   rw[he,hc]
   refine adN (by kernel_rfl) ?_
   refine .inl ⟨[ax x],rfl,⟨rf,rf,rf,tv⟩,(by simp;rfl),?_⟩
   refine .inl ⟨_,fun _=>(jX [x] l (by simpa using hx) q1 q2 (by simp) q3 (by simp;omega)).ok,?_⟩
   repeat refine gG ?_
   refine adN (fun _=>ext (by kernel_rfl) rfl rfl) fun h=>?_
   have h:¬(0:Int)<((kD [x] l).1.map ax).length:=ad6 h
   rw[adO]at h
   have:=List.length_pos_iff.2 q4
   omega
  |none=>
   have he:M9 P c x=0:=by unfold M9;rw[h,hu];rfl
   have hc:QN P c x={ c with imp:=aH c.imp x.f (cL [x]) }:=by unfold QN;rw[he];rfl
   rw[he,hc]
   refine adN (by kernel_rfl) ?_
   refine .inl ⟨[ax x],rfl,⟨rf,rf,rf,tv⟩,(by simp;rfl),?_⟩
   have hd:=jX [x] [] (by simpa using hx) NS.nil (by simp) (by simp) (by simp) (by simp)
   rw[DD]at hd
   refine .inl ⟨_,fun _=>⟨[aQ [x],aQ []],⟨rf,DV.aL 3,tv⟩,hd⟩,?_⟩
   repeat refine gG ?_
   refine adN (fun h=>(by cases h)) fun _=>?_
   refine .inl ⟨_,fun _=>zu.ok,?_⟩
   refine .inl ⟨[ax x],rfl,⟨rf,rf,rf,tv⟩,(by simp;rfl),?_⟩
   refine .inr ⟨[ax x],bV.refl _,Nat.le_of_ble_eq_true rfl,Nat.le_of_ble_eq_true rfl,?_⟩
   refine .inl (.inr ⟨_,fun _=>⟨[aQ [x]],⟨rf,tv⟩,nh [x] (by simpa using hx) (by simp)⟩,?_⟩)
   refine⟨gf,eI x.f,rfl,rfl,aQ (cL [x]),⟨rf,tv⟩,rfl,false,fun _=>⟨DC c.imp _,gh _⟩,?_⟩
   rw[show cW (ni c.imp) (eI x.f) (aQ (cL [x]))=ni (aH c.imp x.f (cL [x]))from cP eT c.imp _ _]
   refine adN (by kernel_rfl) ?_
   exact⟨fun _=>by omega,1,jn rfl rfl rfl rfl,⟨by omega,fun _=>rfl⟩,mlt (by omega)⟩
 ·intro h
  have h1:i=1:=by have:=ad6 h;omega
  subst h1
  rw[hz rfl]
  exact ext (by kernel_rfl) rfl rfl
end
section
open Go.TM
variable [bj]
end
section
open Go.TM
variable [bj]
theorem sq(P:PL)(c c':Ch)(m:c5)(l:List Lt)(e:Int)(hf:m.fr≠0)(hw:aj Tryz.prog 215 [.ptr 0 0,cx (aq m)] 14 (dJ 0 0 P c) 0 [.dv (aQ l),.dv (I e)] (dJ 0 0 P c')):aj Tryz.prog 145 [.ptr 0 0,cx (aq m)] 14 (dJ 0 0 P c) 0 [.dv (aQ l),.dv (I e)] (dJ 0 0 P c'):=by
 refine cO Tryz.func145 rfl (by kernel_rfl) ?_
 repeat refine gG ?_
 refine adN (fun _=>?_) fun h=>absurd (by simpa using h) hf
 refine .inr (cl [0,1,2,3,4,5,6,7,8,9,10,11,12,13] hw (by kernel_rfl) rfl rfl ?_)
 exact ext (by kernel_rfl) rfl rfl
theorem Jq(P:PL)(c:Ch)(m:c5)(hf:m.fr=0)(h5:c.sp.kind≠5)(h9:c.sp.kind≠9):aj Tryz.prog 145 [.ptr 0 0,cx (aq m)] 14 (dJ 0 0 P c) 0 [.dv (aQ []),.dv (I 0)] (dJ 0 0 P c):=by
 refine cO Tryz.func145 rfl (by kernel_rfl) ?_
 repeat refine gG ?_
 refine adN (fun h=>absurd hf (by simpa using h)) fun _=>?_
 refine adN (fun h=>absurd (beq_iff_eq.1 h) h5) fun _=>?_
 refine adN (fun h=>absurd (beq_iff_eq.1 h) h9) fun _=>?_
 exact⟨_,_,⟨rfl,rfl⟩,by kernel_rfl,⟨DV.aL 3,rf,tv⟩,aZ (k:=dJ 0 0 P c) rfl⟩
theorem Jr(P:PL)(c:Ch)(m:c5)(x:Lt)(hf:m.fr=0)(h5:c.sp.kind=5)(hp:m.ps=[x])(hx:aB x=true)(hm:x.f<=9223372036854775807)(hq:∀l,sD c.imp P.imp x.f=some l->NS l/\(∀y∈l,aB y=true)/\l.length<=5000/\(kD [x] l).1≠[]):aj Tryz.prog 145 [.ptr 0 0,cx (aq m)] 14 (dJ 0 0 P c) 0 [.dv (aQ [x]),.dv (I (M9 P c x))] (dJ 0 0 P (QN P c x)):=by
 refine cO Tryz.func145 rfl (by kernel_rfl) ?_
 repeat refine gG ?_
 refine adN (fun h=>absurd hf (by simpa using h)) fun _=>?_
 refine adN (fun _=>?_) fun h=>absurd h5 (beq_eq_false_iff_ne.1 h)
 refine .inr (cl [] (eK m.ps (by rw[hp];simp)) (by kernel_rfl) rfl rfl ?_)
 refine .inr (cl [0,1,2,3,4,5,6,7,8,9,10,11,12,13] (Jp P c m x hp hx hm hq) (by kernel_rfl) rfl rfl ?_)
 refine adN (by kernel_rfl) ?_
 rw[hp]
 exact⟨_,_,⟨rfl,rfl⟩,by kernel_rfl,⟨n0 _,rf,tv⟩,aZ (k:=dJ 0 0 P (QN P c x)) rfl⟩
end
section
open Go.TM
def dS(P:PL)(c:Ch)(m:c5):Int:=(aU c.bZ m.it).getD (Gm P.bZ m.it)
def dL(P:PL)(c:Ch)(m:c5)(l:List Lt)(md:List Int):bp:=⟨P.sh*4294967296+P.fl.length+c.fl.length,c.sp.id,c.sp.kind,c.sp.tick,c.sp.iF,m.fr,m.to,m.it,m.n,l,md⟩
def AK(P:PL)(c:Ch)(m:c5)(t:Int)(l:List Lt)(md:List Int):Ch:={ c with bZ:=aH c.bZ m.it t,fl:=c.fl++[dL P c m l md] }
def chL(v u:Nat)(P:PL)(c:Ch)(F S:List DV):ad:=[(0,.cells (chC v u c)),(1,.tree 0 0 (.omap eE (oZ c.st))),(2,.tree 0 0 (.omap bX (j4 c.bZ))),(3,.tree 0 0 (.omap bX (ni c.imp))),(4,.tree 0 0 (.omap bX (ni c.ret))),(5,.tree v 0 (.aD 11 F)),(6,.tree u 0 (.aD 1 S))]++aby P
theorem UY(v u:Nat)(P:PL)(c:Ch)(f:List bp)(x:bp)(g:List Int)(y:Int):dJ v u P { c with fl:=f++[x],sk:=g++[y] }=chL v u P { c with fl:=f++[x],sk:=g++[y] } (f.map ar++[ar x]) (g.map I++[I y]):=by
 unfold dJ chL;simp only[ad7,List.map_cons,List.map_nil]
theorem qF(v u:Nat)(P:PL)(c:Ch)(f:List bp)(x:bp):dJ v u P { c with fl:=f++[x] }=chL v u P { c with fl:=f++[x] } (f.map ar++[ar x]) (c.sk.map I):=by
 unfold dJ chL;simp only[ad7,List.map_cons,List.map_nil]
theorem rk(m:IM Int)(k:Int):b7 (j4 m) (eI k)=bif (aU m k).isSome then some (I ((aU m k).getD 0))else none:=by
 rw[show b7 (j4 m) (eI k)=_ from dU (ev:=eI) eT m k]
 cases aU m k<;>rfl
theorem rl(m:IM Int)(k:Int)(h:(aU m k).isSome=false):I ((aU m k).getD 0)=I 0:=by
 cases hq:aU m k with
 |none=>rfl
 |some b=>rw[hq]at h;cases h
theorem GC{P:PL}{c:Ch}{m:c5}(h:(aU c.bZ m.it).isSome=true):(aU c.bZ m.it).getD 0=dS P c m:=by
 unfold dS
 cases hq:aU c.bZ m.it with
 |none=>rw[hq]at h;cases h
 |some b=>rfl
theorem GD{P:PL}{c:Ch}{m:c5}(h:(aU c.bZ m.it).isSome=false):Gm P.bZ m.it=dS P c m:=by
 unfold dS
 cases hq:aU c.bZ m.it with
 |none=>rfl
 |some b=>rw[hq]at h;cases h
variable [bj]
theorem zv(P:PL)(c c':Ch)(m:c5)(l:List Lt)(e:Int)(he:e≠0)(ht:aj Tryz.prog 145 [.ptr 0 0,cx (aq m)] 14 (dJ 0 0 P c) 0 [.dv (aQ l),.dv (I e)] (dJ 0 0 P c')):
 aj Tryz.prog 99 [.ptr 0 0,cx (aq m)] 14 (dJ 1 1 P c) 0 [.dv (I e)] (dJ 1 1 P c'):=by
 refine cO Tryz.func99 rfl (by kernel_rfl) ?_
 repeat refine gG ?_
 refine .inr (cl [0,1,2,3,4,5,6,7,8,9,10,11,12,13] ht (by kernel_rfl) rfl rfl ?_)
 repeat refine gG ?_
 refine adN (fun _=>ext (by kernel_rfl) rfl rfl) fun h=>absurd (by simpa using h) he
end
section
open Go.TM
def spI(P:PL)(s:cG):cG:={ s with id:=P.sh*4294967296+P.sp.length }
def ch0(P:PL)(s:cG):Ch:=⟨spI P s,[],[],[],[],[],[]⟩
def QO(P:PL)(c:Ch):ad:=lF P++[(8,.tree 0 0 (.omap eE (oZ c.st))),(9,.tree 0 0 (.omap bX (j4 c.bZ))),(10,.tree 0 0 (.omap bX (ni c.imp))),(11,.tree 0 0 (.omap bX (ni c.ret))),(12,.cells (.ptr 0 0::(eP (aP c.sp).cells++[.own 8 0 0 [],.own 9 0 0 [],.own 10 0 0 [],.own 11 0 0 [],.own 13 0 0 [],.own 14 0 0 []]))),(13,.tree 0 0 (.aD 11 (c.fl.map ar))),(14,.tree 0 0 (.aD 1 (c.sk.map I)))]
def Js(P:PL)(s:cG)(cN:Nat->Ch):Nat->Ch
 |0=>ch0 P s
 |i+1=>cN i
variable [bj]
theorem Na(P:PL)(s:cG)(hr:vP s.aM)(hs:0<=P.sh/\P.sh<=12)(hl:s.mv.length<=1000)(kz:∀m∈s.mv,m.ps.length<=4000)(hp:sj (eW P.sp) s=true)(ay:(P.sp.length:Int)<65536)
 (cN:Nat->Ch) (k:Nat) (hk:k<s.mv.length) (e:Int) (he:e≠0) (c':Ch)
 (hH:∀i m,i<k->s.mv[i]?=some m->aj Tryz.prog 99 [.ptr 0 0,cx (aq m)] 14 (dJ 0 0 P (Js P s cN i)) 0 [.dv (I 0)] (dJ 1 1 P (Js P s cN (i+1))))
 (hE:∀m,s.mv[k]?=some m->aj Tryz.prog 99 [.ptr 0 0,cx (aq m)] 14 (dJ 0 0 P (Js P s cN k)) 0 [.dv (I e)] (dJ 1 1 P c')):
 aj Tryz.prog 51 [.ptr 0 0,cx (aP s)] 7 (lF P) 0 [.dv .eZ,.dv (I e)] (lF P):=by
 have lp:(P.sp.map aP).length=P.sp.length:=adO ..
 have lm:(s.mv.map aq).length=s.mv.length:=adO ..
 have Wv:=mE P s hr (by omega) hl kz
 rw[hp]at Wv
 refine cO Tryz.func51 rfl (by kernel_rfl) ?_
 repeat refine gG ?_
 refine adN (fun h2=>absurd (ad5 h2) (by omega)) fun _=>?_
 refine .inr (cl [0,1,2,3,4,5,6] Wv (by kernel_rfl) rfl rfl ?_)
 refine adN (fun h=>(by cases h)) fun _=>?_
 refine .inl ⟨_,fun _=>(BP s (by omega) fun m hm=>by have:=kz m hm;omega).ok,?_⟩
 refine⟨eE,bX,bX,bX,fun _=>by omega,fun _=>by omega,?_⟩
 refine adN (by kernel_rfl) ?_
 refine⟨Nat,fun i=>⟨15,[(0,.ptr 0 0),(6,.ptr 12 0),(48,.dv (.sl 5 (s.mv.map aq))),(49,.dv (I (s.mv.map aq).length)),(50,.dv (I i))],QO P (Js P s cN i)⟩,fun i=>i<=k,fun i=>s.mv.length-i,0,fun _=>rfl,?_,ad3 _,?_⟩
 ·refine⟨⟨rfl,rfl,rf,rf,rf,tv⟩,?_,?_,?_⟩
  ·repeat' first|exact trivial|rfl|exact rf|refine adN ?_ ?_
   all_goals first|exact⟨11,rfl⟩|exact⟨1,rfl⟩|exact aG (by rw[lp];rfl)
  ·rfl
  ·rfl
 intro i hi
 refine adN ?_ ?_
 ·intro h
  have ay:i<s.mv.length:=by have:=ad5 h;omega
  obtain⟨m,hm⟩:∃m,s.mv[i]?=some m:=⟨_,ace ay⟩
  have im:(s.mv.map aq)[(i:Int).toNat]?=some (aq m):=by rw[adQ];exact congrArg (Option.map aq) hm
  refine⟨aq m,fun _=>⟨by omega,im⟩,?_⟩
  by_cases FE:i=k
  ·subst FE
   refine .inr (cl [12,8,9,10,11,13,14,0,1,2,3,4,5,6] (hE m hm) (by kernel_rfl) rfl rfl ?_)
   refine adN (fun _=>ext (by kernel_rfl) rfl rfl) fun h=>absurd (by simpa using h) he
  ·have uf:i<k:=by have:i<=k:=hi;omega
   refine .inr (cl [12,8,9,10,11,13,14,0,1,2,3,4,5,6] (hH i m uf hm) (by kernel_rfl) rfl rfl ?_)
   refine adN (fun h=>(by cases h)) fun _=>?_
   exact⟨fun _=>by omega,i+1,jn rfl rfl rfl rfl,uf,mlt ay⟩
 ·intro h
  have:=ad6 h
  have:i<=k:=hi
  omega
theorem Nb(P:PL)(s:cG)(hr:vP s.aM)(hs:0<=P.sh/\P.sh<=12)(hl:s.mv.length<=1000)(kz:∀m∈s.mv,m.ps.length<=4000)(hp:sj (eW P.sp) s=true)(ay:(P.sp.length:Int)<65536)
 (cN:Nat->Ch)
 (hH:∀i m,s.mv[i]?=some m->aj Tryz.prog 99 [.ptr 0 0,cx (aq m)] 14 (dJ 0 0 P (Js P s cN i)) 0 [.dv (I 0)] (dJ 1 1 P (Js P s cN (i+1)))):
 aj Tryz.prog 51 [.ptr 0 0,cx (aP s)] 7 (lF P) 8 [.ptr 12 0,.dv (I 0)] (QO P (Js P s cN s.mv.length)):=by
 have lp:(P.sp.map aP).length=P.sp.length:=adO ..
 have lm:(s.mv.map aq).length=s.mv.length:=adO ..
 have Wv:=mE P s hr (by omega) hl kz
 rw[hp]at Wv
 refine cO Tryz.func51 rfl (by kernel_rfl) ?_
 repeat refine gG ?_
 refine adN (fun h2=>absurd (ad5 h2) (by omega)) fun _=>?_
 refine .inr (cl [0,1,2,3,4,5,6] Wv (by kernel_rfl) rfl rfl ?_)
 refine adN (fun h=>(by cases h)) fun _=>?_
 refine .inl ⟨_,fun _=>(BP s (by omega) fun m hm=>by have:=kz m hm;omega).ok,?_⟩
 refine⟨eE,bX,bX,bX,fun _=>by omega,fun _=>by omega,?_⟩
 refine adN (by kernel_rfl) ?_
 refine⟨Nat,fun i=>⟨15,[(0,.ptr 0 0),(6,.ptr 12 0),(48,.dv (.sl 5 (s.mv.map aq))),(49,.dv (I (s.mv.map aq).length)),(50,.dv (I i))],QO P (Js P s cN i)⟩,fun i=>i<=s.mv.length,fun i=>s.mv.length-i,0,fun _=>rfl,?_,ad3 _,?_⟩
 ·refine⟨⟨rfl,rfl,rf,rf,rf,tv⟩,?_,?_,?_⟩
  ·repeat' first|exact trivial|rfl|exact rf|refine adN ?_ ?_
   all_goals first|exact⟨11,rfl⟩|exact⟨1,rfl⟩|exact aG (by rw[lp];rfl)
  ·rfl
  ·rfl
 intro i hi
 refine adN ?_ ?_
 ·intro h
  have ay:i<s.mv.length:=by have:=ad5 h;omega
  obtain⟨m,hm⟩:∃m,s.mv[i]?=some m:=⟨_,ace ay⟩
  have im:(s.mv.map aq)[(i:Int).toNat]?=some (aq m):=by rw[adQ];exact congrArg (Option.map aq) hm
  refine⟨aq m,fun _=>⟨by omega,im⟩,?_⟩
  refine .inr (cl [12,8,9,10,11,13,14,0,1,2,3,4,5,6] (hH i m hm) (by kernel_rfl) rfl rfl ?_)
  refine adN (fun h=>(by cases h)) fun _=>?_
  exact⟨fun _=>by omega,i+1,jn rfl rfl rfl rfl,ay,mlt ay⟩
 ·intro h
  have hi:i<=s.mv.length:=hi
  have he:i=s.mv.length:=by have:=ad6 h;omega
  subst he
  exact ext (by kernel_rfl) rfl rfl
end
section
open Go.TM
variable [bj]
theorem zw(P:PL)(s:cG)(e:Int)(he:e≠0)(h:aj Tryz.prog 51 [.ptr 0 0,cx (aP s)] 7 (lF P) 0 [.dv .eZ,.dv (I e)] (lF P)):aj Tryz.prog 17 [.ptr 0 0,cx (aP s)] 7 (lF P) 0 [.dv (I 0),.dv (I e)] (lF P):=by
 refine cO Tryz.func17 rfl (by kernel_rfl) ?_
 repeat refine gG ?_
 refine .inr (cl [0,1,2,3,4,5,6] h (by kernel_rfl) rfl rfl ?_)
 exact adN (fun _=>ext (by kernel_rfl) rfl rfl) fun h=>absurd (by simpa using h) he
end
end Go.Proofs.YtfpebgpgabjieaaGreatDoor
