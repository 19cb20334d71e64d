import Derived.Test.YtpbiiigpphehbaaGreatDoorFM43
import Derived.Test.YtpbiiigpphehbaaGreatDoorFM32
import Derived.Test.YtpbiiigpphehbaaGreatDoorFM33
import Derived.Test.YtpbiiigpphehbaaGreatDoorFM37
import Derived.Test.YtpbiiigpphehbaaGreatDoorFM28
set_option linter.all false
namespace Go.Proofs.YtpbiiigpphehbaaGreatDoor
set_option maxRecDepth 100000
set_option maxHeartbeats 4000000
section
open Go.TM
def Ud(r:Int):Int:=if r< -1 then -2-r else r
def Wo(r:Int)(x:Sv):List Ky:=if r< -1 then x.bk else x.gv
def pL(mv:List dX)(tm:Int)(tk:List Ky)(k:Nat):Bool:=decide ((mv.getD k m0).fr=(mv.getD 0 m0).fr/\(mv.getD k m0).to=0/\(mv.getD k m0).it=(tk.getD k (0,0)).1/\(mv.getD k m0).n=(tk.getD k (0,0)).2*tm)
def oB(mv:List dX)(tm:Int)(gv:List Ky)(k:Nat):Bool:=decide ((mv.getD k m0).fr=0/\(mv.getD k m0).to=(mv.getD 0 m0).to/\(mv.getD k m0).it=(gv.getD k (0,0)).1/\(mv.getD k m0).n=(gv.getD k (0,0)).2*tm)
def tz(s:dJ):Bool:=
 if Ud s.aD<0\/5<=Ud s.aD\/s.times<1\/1048576<s.times then false else match dT[(Ud s.aD).toNat]? with
  |some r=>if r.sp=true\/(s.aD< -1/\r.of<=r.ch)\/s.mv.length≠r.tk.length+(Wo s.aD r).length then false else(List.range r.tk.length).all (pL s.mv s.times r.tk)&&(List.range (Wo s.aD r).length).all (oB (s.mv.drop r.tk.length) s.times (Wo s.aD r))
  |none=>false
theorem ki{n k:Nat}{p:Nat->Bool}(h:k<n)(hp:p k=false):(List.range n).all p=false:=List.all_eq_false.2 ⟨k,ab2.2 h,by rw[hp];simp⟩
variable [bJ]
theorem Dv(P:PL)(s:dJ)(hr:oC s.aD)(hl:s.mv.length<=1000)(h1:1<=s.mv.length):aq Tryz.prog 157 [.ptr 0 0,cJ (aC s)] 7 (fG P) 0 [.dv (B (tz s))] (fG P):=by
 refine cO Tryz.func157 rfl (by kernel_rfl) ?_
 have Q0:-9223372036854775808<=s.aD/\s.aD<=9223372036854775807:=hr
 have SA:(dT.map gT).length=5:=rfl
 have aaM:dT.length=5:=rfl
 repeat first|apply g1|apply g2|apply g3|apply g4|apply g5
 refine aby (by kernel_rfl) ?_
 refine aby ?_ ?_
 ·intro kX
  have kX:=abQ kX
  refine⟨fun _=>⟨by omega,by omega⟩,?_⟩
  have hI:Ud s.aD=(-2-s.aD):=if_pos kX
  have hG:∀r,Wo s.aD r=r.bk:=fun r=>if_pos kX
  repeat first|apply g1|apply g2|apply g3|apply g4|apply g5
  refine .inl ⟨_,fun _=>(n4 s.times).ok,?_⟩
  repeat first|apply g1|apply g2|apply g3|apply g4|apply g5
  refine aby ?_ ?_
  ·intro h
   have hc:tz s=false:=by
    rw[SA]at h
    simp at h
    unfold tz
    rw[hI,if_pos (by omega)]
   rw[hc]
   exact ext (by kernel_rfl) rfl rfl
  intro h
  have dP:(0<=(-2-s.aD)/\(-2-s.aD)<5)/\1<=s.times/\s.times<=1048576:=by
   rw[SA]at h
   simp at h
   omega
  obtain⟨r,uw⟩:∃r,dT[((-2-s.aD)).toNat]?=some r:=⟨_,aaa (show((-2-s.aD)).toNat<dT.length by omega)⟩
  have PB:(dT.map gT)[((-2-s.aD)).toNat]?=some (gT r):=by rw[abB,uw];rfl
  obtain⟨tl1,tl2,tl3⟩:=Df uw
  have jr:tz s=if r.sp=true\/(s.aD< -1/\r.of<=r.ch)\/s.mv.length≠r.tk.length+(r.bk).length then false else(List.range r.tk.length).all (pL s.mv s.times r.tk)&&(List.range (r.bk).length).all (oB (s.mv.drop r.tk.length) s.times (r.bk)):=by
   unfold tz
   rw[hI,if_neg (by omega),uw]
   simp only[hG]
  have lm:(s.mv.map ak).length=s.mv.length:=abz ..
  have la:(r.tk.map fk).length=r.tk.length:=abz ..
  have lb:((r.bk).map fk).length=(r.bk).length:=abz ..
  refine⟨gT r,fun _=>⟨by omega,PB⟩,?_⟩
  repeat first|apply g1|apply g2|apply g3|apply g4|apply g5
  refine aby (fun _=>?_) fun h=>absurd kX (abR h)
  repeat first|apply g1|apply g2|apply g3|apply g4|apply g5|refine⟨fun _=>⟨by omega,by omega⟩,?_⟩|refine⟨fun _=>⟨by rw[abz,abz];omega,by rw[abz,abz];omega⟩,?_⟩
  refine aby ?_ ?_
  ·intro h
   have hc:tz s=false:=by
    rw[lm,la,lb]at h
    rw[jr,if_pos]
    cases l6:r.sp
    ·rw[l6]at h
     simp at h
     omega
    ·exact .inl rfl
   rw[hc]
   exact ext (by kernel_rfl) rfl rfl
  intro h
  have Hb:¬(r.sp=true\/(s.aD< -1/\r.of<=r.ch)\/s.mv.length≠r.tk.length+(r.bk).length):=by
   rw[lm,la,lb]at h
   cases l6:r.sp
   ·rw[l6]at h
    simp at h
    rintro(hh|hh)
    ·cases hh
    ·omega
   ·rw[l6]at h;cases h
  rw[if_neg Hb]at jr
  have SB:s.mv.length=r.tk.length+(r.bk).length:=by omega
  rw[jr]
  obtain⟨V0,Zh,Zi⟩:=De uw
  obtain⟨f,hf⟩:∃f,s.mv[0]?=some f:=⟨_,aaa (show 0<s.mv.length by omega)⟩
  have df:s.mv.getD 0 m0=f:=by rw[abE,hf];rfl
  have i0:(s.mv.map ak)[(0:Int).toNat]?=some (ak f):=by rw[abB];exact congrArg (Option.map ak) hf
  refine⟨Nat,fun k=>⟨9,[(3,.ptr 7 0),(7,.ptr 8 0),(8,.dv (.sl 2 ((r.bk).map fk))),(81,.dv (.sl 2 (r.tk.map fk))),(82,.dv (I (r.tk.map fk).length)),(83,.dv (I k))],fG P++[(7,.cells (eB (aC s).cells)),(8,.cells (eB (gT r).cells))]⟩,fun k=>k<=r.tk.length/\∀j,j<k->pL s.mv s.times r.tk j=true,fun k=>r.tk.length-k,0,fun _=>rfl,jn rfl rfl rfl rfl,⟨abO _,fun j hj=>absurd hj (Nat.not_lt_zero j)⟩,?_⟩
  rintro k ⟨hk,br⟩
  refine aby ?_ ?_
  ·intro h
   have au:k<r.tk.length:=by have:=abQ h;omega
   obtain⟨m,hm⟩:∃m,s.mv[k]?=some m:=⟨_,aaa (show k<s.mv.length by omega)⟩
   obtain⟨a,ha⟩:∃a,r.tk[k]?=some a:=⟨_,aaa au⟩
   have dm:s.mv.getD k m0=m:=by rw[abE,hm];rfl
   have da:r.tk.getD k (0,0)=a:=by rw[abE,ha];rfl
   have im:(s.mv.map ak)[(k:Int).toNat]?=some (ak m):=by rw[abB];simp[hm]
   have ia:(r.tk.map fk)[(k:Int).toNat]?=some (fk a):=by rw[abB];simp[ha]
   have RA:=vN (V0 a (abC ha)) ⟨dP.2.1,dP.2.2⟩
   have qz:pL s.mv s.times r.tk k=decide (m.fr=f.fr/\m.to=0/\m.it=a.1/\m.n=a.2*s.times):=by unfold pL;rw[dm,df,da]
   repeat first|apply g1|apply g2|apply g3|apply g4|apply g5|refine⟨fun _=>⟨by omega,by omega⟩,?_⟩|refine⟨fk a,fun _=>⟨by omega,ia⟩,?_⟩|refine⟨ak m,fun _=>⟨by omega,im⟩,?_⟩|refine⟨ak f,fun _=>⟨by omega,i0⟩,?_⟩
   refine aby (by kernel_rfl) ?_
   refine aby ?_ ?_
   ·intro h
    have td:pL s.mv s.times r.tk k=false:=by
     rw[qz,acb]
     rintro⟨q1,q2,q3,q4⟩
     simp at h
     omega
    rw[ki au td]
    exact ext (by kernel_rfl) rfl rfl
   ·intro h
    have Ip:pL s.mv s.times r.tk k=true:=by
     rw[qz,ab8]
     simp at h
     omega
    refine⟨fun _=>⟨by omega,by omega⟩,k+1,jn rfl rfl rfl rfl,⟨by omega,fun j hj=>?_⟩,mlt au⟩
    rcases abT j k with uU|uU
    ·exact br j uU
    ·rw[show j=k by omega];exact Ip
  intro h
  have he:k=r.tk.length:=by have:=abR h;omega
  subst he
  rw[show(List.range r.tk.length).all (pL s.mv s.times r.tk)=true from abY.2 fun j hj=>br j (ab2.1 hj),Bool.true_and]
  repeat first|apply g1|apply g2|apply g3|apply g4|apply g5
  refine⟨fun _=>⟨by rw[la];exact Int.natCast_nonneg _,by rw[la,lm];exact Int.ofNat_le.2 (by omega),by rw[lm];exact Int.le_refl _⟩,?_⟩
  have iZ:((s.mv.map ak).take (s.mv.map ak).length).drop (r.tk.map fk).length=(s.mv.drop r.tk.length).map ak:=by rw[abP,la,List.map_drop]
  refine⟨Nat,fun k=>⟨8,[(3,.ptr 7 0),(12,.dv (.sl 5 ((s.mv.drop r.tk.length).map ak))),(130,.dv (.sl 2 ((r.bk).map fk))),(131,.dv (I ((r.bk).map fk).length)),(132,.dv (I k))],fG P++[(7,.cells (eB (aC s).cells))]⟩,fun k=>k<=(r.bk).length/\∀j,j<k->oB (s.mv.drop r.tk.length) s.times (r.bk) j=true,fun k=>(r.bk).length-k,0,fun _=>rfl,jn (congrArg (fun l=>[(3,AV.ptr 7 0),(12,AV.dv (.sl 5 l)),(130,.dv (.sl 2 ((r.bk).map fk))),(131,.dv (I ((r.bk).map fk).length)),(132,.dv (I 0))]) iZ) rfl rfl rfl,⟨abO _,fun j hj=>absurd hj (Nat.not_lt_zero j)⟩,?_⟩
  rintro k ⟨Lm,Gd⟩
  refine aby ?_ ?_
  ·intro h
   have au:k<(r.bk).length:=by have:=abQ h;rw[lb]at this;omega
   have hd:∀i,(s.mv.drop r.tk.length)[i]?=s.mv[r.tk.length+i]?:=fun i=>by rw[List.getElem?_drop]
   have ld:((s.mv.drop r.tk.length).map ak).length=(r.bk).length:=by rw[abz,List.length_drop];omega
   obtain⟨m,hm⟩:∃m,(s.mv.drop r.tk.length)[k]?=some m:=⟨_,(hd k).trans (aaa (show r.tk.length+k<s.mv.length by omega))⟩
   obtain⟨g,hg⟩:∃g,(s.mv.drop r.tk.length)[0]?=some g:=⟨_,(hd 0).trans (aaa (show r.tk.length+0<s.mv.length by omega))⟩
   obtain⟨a,ha⟩:∃a,(r.bk)[k]?=some a:=⟨_,aaa au⟩
   have dm:(s.mv.drop r.tk.length).getD k m0=m:=by rw[abE,hm];rfl
   have dg:(s.mv.drop r.tk.length).getD 0 m0=g:=by rw[abE,hg];rfl
   have da:(r.bk).getD k (0,0)=a:=by rw[abE,ha];rfl
   have im:((s.mv.drop r.tk.length).map ak)[(k:Int).toNat]?=some (ak m):=by rw[abB];exact congrArg (Option.map ak) hm
   have ig:((s.mv.drop r.tk.length).map ak)[(0:Int).toNat]?=some (ak g):=by rw[abB];exact congrArg (Option.map ak) hg
   have ia:((r.bk).map fk)[(k:Int).toNat]?=some (fk a):=by rw[abB];exact congrArg (Option.map fk) ha
   have RA:=vN (Zi a (abC ha)) ⟨dP.2.1,dP.2.2⟩
   have qz:oB (s.mv.drop r.tk.length) s.times (r.bk) k=decide (m.fr=0/\m.to=g.to/\m.it=a.1/\m.n=a.2*s.times):=by unfold oB;rw[dm,dg,da]
   repeat first|apply g1|apply g2|apply g3|apply g4|apply g5|refine⟨fun _=>⟨by omega,by omega⟩,?_⟩|refine⟨fk a,fun _=>⟨by omega,ia⟩,?_⟩|refine⟨ak m,fun _=>⟨by omega,im⟩,?_⟩|refine⟨ak g,fun _=>⟨by omega,ig⟩,?_⟩
   refine aby (by kernel_rfl) ?_
   refine aby ?_ ?_
   ·intro h
    have td:oB (s.mv.drop r.tk.length) s.times (r.bk) k=false:=by
     rw[qz,acb]
     rintro⟨q1,q2,q3,q4⟩
     simp at h
     omega
    rw[ki au td]
    exact ext (by kernel_rfl) rfl rfl
   ·intro h
    have Ip:oB (s.mv.drop r.tk.length) s.times (r.bk) k=true:=by
     rw[qz,ab8]
     simp at h
     omega
    refine⟨fun _=>⟨by omega,by omega⟩,k+1,jn rfl rfl rfl rfl,⟨by omega,fun j hj=>?_⟩,mlt au⟩
    rcases abT j k with uU|uU
    ·exact Gd j uU
    ·rw[show j=k by omega];exact Ip
  intro h
  have he:k=(r.bk).length:=by have:=abR h;rw[lb]at this;omega
  subst he
  rw[show(List.range (r.bk).length).all (oB (s.mv.drop r.tk.length) s.times (r.bk))=true from abY.2 fun j hj=>Gd j (ab2.1 hj)]
  exact ext (by kernel_rfl) rfl rfl
 ·intro kX
  have kX:=abR kX
  have hI:Ud s.aD=s.aD:=if_neg kX
  have hG:∀r,Wo s.aD r=r.gv:=fun r=>if_neg kX
  repeat first|apply g1|apply g2|apply g3|apply g4|apply g5
  refine .inl ⟨_,fun _=>(n4 s.times).ok,?_⟩
  repeat first|apply g1|apply g2|apply g3|apply g4|apply g5
  refine aby ?_ ?_
  ·intro h
   have hc:tz s=false:=by
    rw[SA]at h
    simp at h
    unfold tz
    rw[hI,if_pos (by omega)]
   rw[hc]
   exact ext (by kernel_rfl) rfl rfl
  intro h
  have dP:(0<=s.aD/\s.aD<5)/\1<=s.times/\s.times<=1048576:=by
   rw[SA]at h
   simp at h
   omega
  obtain⟨r,uw⟩:∃r,dT[(s.aD).toNat]?=some r:=⟨_,aaa (show(s.aD).toNat<dT.length by omega)⟩
  have PB:(dT.map gT)[(s.aD).toNat]?=some (gT r):=by rw[abB,uw];rfl
  obtain⟨tl1,tl2,tl3⟩:=Df uw
  have jr:tz s=if r.sp=true\/(s.aD< -1/\r.of<=r.ch)\/s.mv.length≠r.tk.length+(r.gv).length then false else(List.range r.tk.length).all (pL s.mv s.times r.tk)&&(List.range (r.gv).length).all (oB (s.mv.drop r.tk.length) s.times (r.gv)):=by
   unfold tz
   rw[hI,if_neg (by omega),uw]
   simp only[hG]
  have lm:(s.mv.map ak).length=s.mv.length:=abz ..
  have la:(r.tk.map fk).length=r.tk.length:=abz ..
  have lb:((r.gv).map fk).length=(r.gv).length:=abz ..
  refine⟨gT r,fun _=>⟨by omega,PB⟩,?_⟩
  repeat first|apply g1|apply g2|apply g3|apply g4|apply g5
  refine aby (fun h=>absurd (abQ h) kX) fun _=>?_
  repeat first|apply g1|apply g2|apply g3|apply g4|apply g5|refine⟨fun _=>⟨by omega,by omega⟩,?_⟩|refine⟨fun _=>⟨by rw[abz,abz];omega,by rw[abz,abz];omega⟩,?_⟩
  refine aby ?_ ?_
  ·intro h
   have hc:tz s=false:=by
    rw[lm,la,lb]at h
    rw[jr,if_pos]
    cases l6:r.sp
    ·rw[l6]at h
     simp at h
     omega
    ·exact .inl rfl
   rw[hc]
   exact ext (by kernel_rfl) rfl rfl
  intro h
  have Hb:¬(r.sp=true\/(s.aD< -1/\r.of<=r.ch)\/s.mv.length≠r.tk.length+(r.gv).length):=by
   rw[lm,la,lb]at h
   cases l6:r.sp
   ·rw[l6]at h
    simp at h
    rintro(hh|hh)
    ·cases hh
    ·omega
   ·rw[l6]at h;cases h
  rw[if_neg Hb]at jr
  have SB:s.mv.length=r.tk.length+(r.gv).length:=by omega
  rw[jr]
  obtain⟨V0,Zh,Zi⟩:=De uw
  obtain⟨f,hf⟩:∃f,s.mv[0]?=some f:=⟨_,aaa (show 0<s.mv.length by omega)⟩
  have df:s.mv.getD 0 m0=f:=by rw[abE,hf];rfl
  have i0:(s.mv.map ak)[(0:Int).toNat]?=some (ak f):=by rw[abB];exact congrArg (Option.map ak) hf
  refine⟨Nat,fun k=>⟨9,[(3,.ptr 7 0),(7,.ptr 8 0),(8,.dv (.sl 2 ((r.gv).map fk))),(81,.dv (.sl 2 (r.tk.map fk))),(82,.dv (I (r.tk.map fk).length)),(83,.dv (I k))],fG P++[(7,.cells (eB (aC s).cells)),(8,.cells (eB (gT r).cells))]⟩,fun k=>k<=r.tk.length/\∀j,j<k->pL s.mv s.times r.tk j=true,fun k=>r.tk.length-k,0,fun _=>rfl,jn rfl rfl rfl rfl,⟨abO _,fun j hj=>absurd hj (Nat.not_lt_zero j)⟩,?_⟩
  rintro k ⟨hk,br⟩
  refine aby ?_ ?_
  ·intro h
   have au:k<r.tk.length:=by have:=abQ h;omega
   obtain⟨m,hm⟩:∃m,s.mv[k]?=some m:=⟨_,aaa (show k<s.mv.length by omega)⟩
   obtain⟨a,ha⟩:∃a,r.tk[k]?=some a:=⟨_,aaa au⟩
   have dm:s.mv.getD k m0=m:=by rw[abE,hm];rfl
   have da:r.tk.getD k (0,0)=a:=by rw[abE,ha];rfl
   have im:(s.mv.map ak)[(k:Int).toNat]?=some (ak m):=by rw[abB];simp[hm]
   have ia:(r.tk.map fk)[(k:Int).toNat]?=some (fk a):=by rw[abB];simp[ha]
   have RA:=vN (V0 a (abC ha)) ⟨dP.2.1,dP.2.2⟩
   have qz:pL s.mv s.times r.tk k=decide (m.fr=f.fr/\m.to=0/\m.it=a.1/\m.n=a.2*s.times):=by unfold pL;rw[dm,df,da]
   repeat first|apply g1|apply g2|apply g3|apply g4|apply g5|refine⟨fun _=>⟨by omega,by omega⟩,?_⟩|refine⟨fk a,fun _=>⟨by omega,ia⟩,?_⟩|refine⟨ak m,fun _=>⟨by omega,im⟩,?_⟩|refine⟨ak f,fun _=>⟨by omega,i0⟩,?_⟩
   refine aby (by kernel_rfl) ?_
   refine aby ?_ ?_
   ·intro h
    have td:pL s.mv s.times r.tk k=false:=by
     rw[qz,acb]
     rintro⟨q1,q2,q3,q4⟩
     simp at h
     omega
    rw[ki au td]
    exact ext (by kernel_rfl) rfl rfl
   ·intro h
    have Ip:pL s.mv s.times r.tk k=true:=by
     rw[qz,ab8]
     simp at h
     omega
    refine⟨fun _=>⟨by omega,by omega⟩,k+1,jn rfl rfl rfl rfl,⟨by omega,fun j hj=>?_⟩,mlt au⟩
    rcases abT j k with uU|uU
    ·exact br j uU
    ·rw[show j=k by omega];exact Ip
  intro h
  have he:k=r.tk.length:=by have:=abR h;omega
  subst he
  rw[show(List.range r.tk.length).all (pL s.mv s.times r.tk)=true from abY.2 fun j hj=>br j (ab2.1 hj),Bool.true_and]
  repeat first|apply g1|apply g2|apply g3|apply g4|apply g5
  refine⟨fun _=>⟨by rw[la];exact Int.natCast_nonneg _,by rw[la,lm];exact Int.ofNat_le.2 (by omega),by rw[lm];exact Int.le_refl _⟩,?_⟩
  have iZ:((s.mv.map ak).take (s.mv.map ak).length).drop (r.tk.map fk).length=(s.mv.drop r.tk.length).map ak:=by rw[abP,la,List.map_drop]
  refine⟨Nat,fun k=>⟨8,[(3,.ptr 7 0),(12,.dv (.sl 5 ((s.mv.drop r.tk.length).map ak))),(130,.dv (.sl 2 ((r.gv).map fk))),(131,.dv (I ((r.gv).map fk).length)),(132,.dv (I k))],fG P++[(7,.cells (eB (aC s).cells))]⟩,fun k=>k<=(r.gv).length/\∀j,j<k->oB (s.mv.drop r.tk.length) s.times (r.gv) j=true,fun k=>(r.gv).length-k,0,fun _=>rfl,jn (congrArg (fun l=>[(3,AV.ptr 7 0),(12,AV.dv (.sl 5 l)),(130,.dv (.sl 2 ((r.gv).map fk))),(131,.dv (I ((r.gv).map fk).length)),(132,.dv (I 0))]) iZ) rfl rfl rfl,⟨abO _,fun j hj=>absurd hj (Nat.not_lt_zero j)⟩,?_⟩
  rintro k ⟨Lm,Gd⟩
  refine aby ?_ ?_
  ·intro h
   have au:k<(r.gv).length:=by have:=abQ h;rw[lb]at this;omega
   have hd:∀i,(s.mv.drop r.tk.length)[i]?=s.mv[r.tk.length+i]?:=fun i=>by rw[List.getElem?_drop]
   have ld:((s.mv.drop r.tk.length).map ak).length=(r.gv).length:=by rw[abz,List.length_drop];omega
   obtain⟨m,hm⟩:∃m,(s.mv.drop r.tk.length)[k]?=some m:=⟨_,(hd k).trans (aaa (show r.tk.length+k<s.mv.length by omega))⟩
   obtain⟨g,hg⟩:∃g,(s.mv.drop r.tk.length)[0]?=some g:=⟨_,(hd 0).trans (aaa (show r.tk.length+0<s.mv.length by omega))⟩
   obtain⟨a,ha⟩:∃a,(r.gv)[k]?=some a:=⟨_,aaa au⟩
   have dm:(s.mv.drop r.tk.length).getD k m0=m:=by rw[abE,hm];rfl
   have dg:(s.mv.drop r.tk.length).getD 0 m0=g:=by rw[abE,hg];rfl
   have da:(r.gv).getD k (0,0)=a:=by rw[abE,ha];rfl
   have im:((s.mv.drop r.tk.length).map ak)[(k:Int).toNat]?=some (ak m):=by rw[abB];exact congrArg (Option.map ak) hm
   have ig:((s.mv.drop r.tk.length).map ak)[(0:Int).toNat]?=some (ak g):=by rw[abB];exact congrArg (Option.map ak) hg
   have ia:((r.gv).map fk)[(k:Int).toNat]?=some (fk a):=by rw[abB];exact congrArg (Option.map fk) ha
   have RA:=vN (Zh a (abC ha)) ⟨dP.2.1,dP.2.2⟩
   have qz:oB (s.mv.drop r.tk.length) s.times (r.gv) k=decide (m.fr=0/\m.to=g.to/\m.it=a.1/\m.n=a.2*s.times):=by unfold oB;rw[dm,dg,da]
   repeat first|apply g1|apply g2|apply g3|apply g4|apply g5|refine⟨fun _=>⟨by omega,by omega⟩,?_⟩|refine⟨fk a,fun _=>⟨by omega,ia⟩,?_⟩|refine⟨ak m,fun _=>⟨by omega,im⟩,?_⟩|refine⟨ak g,fun _=>⟨by omega,ig⟩,?_⟩
   refine aby (by kernel_rfl) ?_
   refine aby ?_ ?_
   ·intro h
    have td:oB (s.mv.drop r.tk.length) s.times (r.gv) k=false:=by
     rw[qz,acb]
     rintro⟨q1,q2,q3,q4⟩
     simp at h
     omega
    rw[ki au td]
    exact ext (by kernel_rfl) rfl rfl
   ·intro h
    have Ip:oB (s.mv.drop r.tk.length) s.times (r.gv) k=true:=by
     rw[qz,ab8]
     simp at h
     omega
    refine⟨fun _=>⟨by omega,by omega⟩,k+1,jn rfl rfl rfl rfl,⟨by omega,fun j hj=>?_⟩,mlt au⟩
    rcases abT j k with uU|uU
    ·exact Gd j uU
    ·rw[show j=k by omega];exact Ip
  intro h
  have he:k=(r.gv).length:=by have:=abR h;rw[lb]at this;omega
  subst he
  rw[show(List.range (r.gv).length).all (oB (s.mv.drop r.tk.length) s.times (r.gv))=true from abY.2 fun j hj=>Gd j (ab2.1 hj)]
  exact ext (by kernel_rfl) rfl rfl
end
section
open Go.TM
def Xk(s:dJ):Bool:=bif decide (s.kind=4)then tz s else bif decide (s.kind=10)then tg s else decide (s.aD=-1)&&decide (s.times=0)
def rU(now:Int)(s:dJ):Bool:=Dg s&&decide (0<=s.tick/\now<=s.tick/\s.tick<=1099511627776/\1<=s.mv.length/\s.mv.length<=64)&&s.mv.all (rT s.kind)&&Xk s
variable [bJ]
theorem SU(P:PL)(s:dJ)(hr:oC s.aD)(hl:s.mv.length<=1000)(h1:1<=s.mv.length):aq Tryz.prog (whN s.kind) [.ptr 0 0,cJ (aC s)] 7 (fG P) 0 [.dv (B (Xk s))] (fG P):=by
 unfold whN Xk
 split
 ·rename_i h;rw[abW h];exact Dv P s hr hl h1
 rename_i h4
 rw[abX h4]
 split
 ·rename_i h;rw[abW h];exact Gc P s
 ·rename_i h;rw[abX h];exact Du P s
theorem mf(P:PL)(s:dJ)(hr:oC s.aD)(hn:P.sp.length<=1000000)(hl:s.mv.length<=1000)(lu:∀m∈s.mv,m.ps.length<=4000):aq Tryz.prog 46 [.ptr 0 0,cJ (aC s)] 7 (fG P) 0 [.dv (B (rU (eC P.sp) s))] (fG P):=by
 by_cases hk:0<=s.kind/\s.kind<=10
 ·by_cases hg:(0<=s.gl/\s.gl<=1073741824)/\0<=s.tick/\s.tick<=1099511627776
  ·refine cO Tryz.func46 rfl (by kernel_rfl) ?_
   repeat first|apply g1|apply g2|apply g3|apply g4|apply g5
   refine .inl ⟨_,fun _=>(BM s.kind hk).ok,?_⟩
   repeat first|apply g1|apply g2|apply g3|apply g4|apply g5
   refine .inl ⟨_,fun _=>(lh s.gl).ok,?_⟩
   repeat first|apply g1|apply g2|apply g3|apply g4|apply g5
   refine .inr (cl [0,1,2,3,4,5,6] (BK P hn) (by kernel_rfl) rfl rfl ?_)
   refine⟨by simp[bw];omega,?_⟩
   repeat first|apply g1|apply g2|apply g3|apply g4|apply g5|refine⟨fun _=>rfl,?_⟩
   refine aby (by kernel_rfl) ?_
   have hA:Dg s=true:=abW ⟨hk.1,hk.2,hg.1.1,hg.1.2⟩
   refine aby ?_ ?_
   ·intro h
    have hc:rU (eC P.sp) s=false:=by
     have:decide (0<=s.tick/\eC P.sp<=s.tick/\s.tick<=1099511627776/\1<=s.mv.length/\s.mv.length<=64)=false:=by
      rw[acb]
      rw[abz]at h
      simp at h
      omega
     unfold rU
     rw[this,Bool.and_false];rfl
    rw[hc]
    exact ext (by kernel_rfl) rfl rfl
   intro h
   have hB:0<=s.tick/\eC P.sp<=s.tick/\s.tick<=1099511627776/\1<=s.mv.length/\s.mv.length<=64:=by
    rw[abz]at h
    simp at h
    omega
   have hp:rU (eC P.sp) s=(s.mv.all (rT s.kind)&&Xk s):=by
    unfold rU
    rw[hA,abW hB];simp
   rw[hp]
   have lm:(s.mv.map ak).length=s.mv.length:=abz ..
   refine⟨Nat,fun k=>⟨9,[(0,.ptr 0 0),(3,.ptr 7 0),(5,.ptr 8 0),(53,.dv (.sl 5 (s.mv.map ak))),(54,.dv (I (s.mv.map ak).length)),(55,.dv (I k))],fG P++[(7,.cells (eB (aC s).cells)),(8,.cells (eB (Wn s.kind).cells))]⟩,fun k=>k<=s.mv.length/\∀m∈s.mv.take k,rT s.kind m=true,fun k=>s.mv.length-k,0,fun _=>rfl,jn rfl rfl rfl rfl,⟨abO _,by simp⟩,?_⟩
   rintro k ⟨hk,br⟩
   refine aby ?_ ?_
   ·intro h
    have au:k<s.mv.length:=by have:=abQ h;omega
    obtain⟨m,hm⟩:∃m,s.mv[k]?=some m:=⟨_,aaa au⟩
    have rP:=abC hm
    have im:(s.mv.map ak)[(k:Int).toNat]?=some (ak m):=by rw[abB];exact congrArg (Option.map ak) hm
    refine⟨ak m,fun _=>⟨by omega,im⟩,?_⟩
    refine .inr (cl [0,1,2,3,4,5,6] (mP P m s.kind (lu m rP)) (by kernel_rfl) rfl rfl ?_)
    refine aby ?_ ?_
    ·intro h
     have h:rT s.kind m=false:=by simpa using h
     rw[show s.mv.all (rT s.kind)=false from List.all_eq_false.2 ⟨m,rP,by rw[h];simp⟩]
     exact ext (by kernel_rfl) rfl rfl
    ·intro h
     have h:rT s.kind m=true:=by simpa using h
     exact⟨fun _=>⟨by omega,by omega⟩,k+1,jn rfl rfl rfl rfl,⟨by omega,fun q hq=>by
      rw[abJ,hm]at hq
      rcases abI.1 hq with hq|hq
      ·exact br q hq
      ·simp at hq;subst hq;exact h⟩,mlt au⟩
   intro h
   have he:k=s.mv.length:=by have:=abR h;omega
   subst he
   rw[abP]at br
   rw[show s.mv.all (rT s.kind)=true from abY.2 br,Bool.true_and]
   refine .inr (cl [0,1,2,3,4,5,6] (SU P s hr hl (by omega)) (by kernel_rfl) rfl rfl ?_)
   exact ext (by kernel_rfl) rfl rfl
  ·have hA:rU (eC P.sp) s=false:=by
    have:Dg s=false\/decide (0<=s.tick/\eC P.sp<=s.tick/\s.tick<=1099511627776/\1<=s.mv.length/\s.mv.length<=64)=false:=by
     unfold Dg
     rw[acb,acb]
     omega
    unfold rU
    rcases this with h|h<;>rw[h]<;>simp
   rw[hA]
   refine cO Tryz.func46 rfl (by kernel_rfl) ?_
   repeat first|apply g1|apply g2|apply g3|apply g4|apply g5
   refine .inl ⟨_,fun _=>(BM s.kind hk).ok,?_⟩
   repeat first|apply g1|apply g2|apply g3|apply g4|apply g5
   refine .inl ⟨_,fun _=>(lh s.gl).ok,?_⟩
   repeat first|apply g1|apply g2|apply g3|apply g4|apply g5
   refine .inl ⟨by simp[bw];omega,[I 0],fun h=>absurd h (by simp[bw];omega),rfl,?_⟩
   repeat first|apply g1|apply g2|apply g3|apply g4|apply g5
   refine aby (by kernel_rfl) ?_
   refine aby (fun _=>ext (by kernel_rfl) rfl rfl) fun h=>absurd h ?_
   simp;omega
 ·have hA:rU (eC P.sp) s=false:=by
   have:Dg s=false:=by
    unfold Dg
    rw[acb]
    omega
   unfold rU
   rw[this];simp
  rw[hA]
  refine cO Tryz.func46 rfl (by kernel_rfl) ?_
  repeat first|apply g1|apply g2|apply g3|apply g4|apply g5
  refine .inl ⟨_,fun _=>(IL s.kind hk).ok,?_⟩
  repeat first|apply g1|apply g2|apply g3|apply g4|apply g5
  refine .inl ⟨_,fun _=>(lh s.gl).ok,?_⟩
  repeat first|apply g1|apply g2|apply g3|apply g4|apply g5
  refine .inl ⟨by simp[bw],[I 0],fun h=>absurd h (by simp[bw]),rfl,?_⟩
  repeat first|apply g1|apply g2|apply g3|apply g4|apply g5
  refine aby (by kernel_rfl) ?_
  refine aby (fun _=>ext (by kernel_rfl) rfl rfl) fun h=>absurd h ?_
  simp
end
section
open Go.TM
theorem SV{i:Nat}{r:Sv}(h:dT[i]?=some r):r.of<=r.ch↔r.ch=r.of:=by
 have:∀r∈dT,r.ch<=r.of:=by
  intro r hr
  simp only[dT,abG,List.mem_nil_iff,or_false]at hr
  rcases hr with rfl|rfl|rfl|rfl|rfl<;>decide
 have:=this r (abC h)
 omega
theorem BN(l:List dX)(n j:Nat):(l.drop n).getD j m0=l.getD (n+j) m0:=by
 rw[abE,abE,List.getElem?_drop]
theorem zt{l:List dX}{i:Nat}(h:i<l.length):l.getD i m0∈l:=by
 rw[abE,aaa h];exact ab6 h
theorem Wp(mv:List dX)(tm:Int)(tk gv:List Ky)(hb:∀m∈mv,fV m=true)(hl:mv.length=tk.length+gv.length):((List.range tk.length).all (pL mv tm tk)&&(List.range gv.length).all (oB (mv.drop tk.length) tm gv))=(List.range mv.length).all (gE mv tm tk gv):=by
 have hB:∀i,i<mv.length->(mv.getD i m0).fr≠(mv.getD i m0).to/\0<=(mv.getD i m0).fr/\0<=(mv.getD i m0).to:=fun i hi=>by
  have:=abQ (hb _ (zt hi))
  omega
 rw[ab5,aca,abY,abY,abY]
 have hT:∀k,pL mv tm tk k=true↔((mv.getD k m0).fr=(mv.getD 0 m0).fr/\(mv.getD k m0).to=0/\(mv.getD k m0).it=(tk.getD k (0,0)).1/\(mv.getD k m0).n=(tk.getD k (0,0)).2*tm):=fun k=>ab8
 have hG:∀k,oB (mv.drop tk.length) tm gv k=true↔((mv.getD (tk.length+k) m0).fr=0/\(mv.getD (tk.length+k) m0).to=(mv.getD tk.length m0).to/\(mv.getD (tk.length+k) m0).it=(gv.getD k (0,0)).1/\(mv.getD (tk.length+k) m0).n=(gv.getD k (0,0)).2*tm):=fun k=>by
  unfold oB
  rw[ab8,BN,BN,Nat.add_zero]
 have Xd:∀k,k<tk.length->(gE mv tm tk gv k=true↔((mv.getD k m0).fr=(mv.getD 0 m0).fr/\1<=(mv.getD k m0).fr/\(mv.getD k m0).to=0/\(mv.getD k m0).it=(tk.getD k (0,0)).1/\(mv.getD k m0).n=(tk.getD k (0,0)).2*tm)):=fun k h=>by
  unfold gE
  rw[if_pos h,ab8]
 have QX:∀k,gE mv tm tk gv (tk.length+k)=true↔((mv.getD (tk.length+k) m0).fr=0/\1<=(mv.getD (tk.length+k) m0).to/\(mv.getD (tk.length+k) m0).to=(mv.getD (mv.length-1) m0).to/\(mv.getD (tk.length+k) m0).it=(gv.getD k (0,0)).1/\(mv.getD (tk.length+k) m0).n=(gv.getD k (0,0)).2*tm):=fun k=>by
  unfold gE
  rw[if_neg (by omega),ab8,Nat.add_sub_cancel_left]
 constructor
 ·rintro⟨h1,h2⟩ k hk
  have hk:=ab2.1 hk
  rcases abT k tk.length with h|h
  ·have:=(hT k).1 (h1 k (ab2.2 h))
   have hb:=hB k hk
   rw[Xd k h]
   refine⟨this.1,?_,this.2⟩
   omega
  ·obtain⟨j,rfl⟩:∃j,k=tk.length+j:=⟨k-tk.length,by omega⟩
   have a:=(hG j).1 (h2 j (ab2.2 (by omega)))
   have b:=(hG (gv.length-1)).1 (h2 (gv.length-1) (ab2.2 (by omega)))
   have hb:=hB _ hk
   rw[QX]
   rw[show mv.length-1=tk.length+(gv.length-1)by omega]
   refine⟨a.1,by omega,?_,a.2.2⟩
   rw[a.2.1,b.2.1]
 ·intro h
  refine⟨fun k hk=>?_,fun j hj=>?_⟩
  ·have hk:=ab2.1 hk
   have:=(Xd k hk).1 (h k (ab2.2 (by omega)))
   rw[hT]
   exact⟨this.1,this.2.2⟩
  ·have hj:=ab2.1 hj
   have a:=(QX j).1 (h _ (ab2.2 (by omega)))
   have b:=(QX 0).1 (h _ (ab2.2 (by omega)))
   rw[Nat.add_zero]at b
   rw[hG]
   refine⟨a.1,?_,a.2.2.2⟩
   rw[a.2.2.1,b.2.2.1]
theorem Wq(s:dJ)(hb:∀m∈s.mv,fV m=true):tz s=qt s:=by
 unfold tz qt
 by_cases h1:s.aD=-1
 ·rw[if_pos,if_pos]
  ·unfold PA;rw[h1];simp
  ·unfold Ud;rw[h1];simp
 have e1:Ud s.aD=PA s.aD:=by unfold Ud PA;split<;>split<;>omega
 have e2:Wo s.aD=VZ s.aD:=by funext r;unfold Wo VZ;split<;>split<;>first|rfl|omega
 rw[e1,e2]
 by_cases h2:PA s.aD<0\/5<=PA s.aD\/s.times<1\/1048576<s.times
 ·rw[if_pos h2,if_pos h2]
 rw[if_neg h2,if_neg h2]
 cases hr:dT[(PA s.aD).toNat]? with
 |none=>rfl
 |some r=>
  have ZH:=SV hr
  dsimp only
  cases r.sp with
  |true=>simp
  |false=>
   simp only[cond_false,Bool.false_eq_true,false_or]
   by_cases h3:(s.aD<0/\r.ch=r.of)\/s.mv.length≠r.tk.length+(VZ s.aD r).length
   ·rw[if_pos h3,if_pos]
    rcases h3 with h3|h3
    ·exact .inl ⟨by omega,ZH.2 h3.2⟩
    ·exact .inr h3
   ·rw[if_neg h3,if_neg]
    ·exact Wp s.mv s.times r.tk _ hb (by omega)
    ·rintro(h4|h4)
     ·exact h3 (.inl ⟨by omega,ZH.1 h4.2⟩)
     ·exact h3 (.inr h4)
theorem P8{k:Int}(hk:0<=k/\k<=10)(h4:k≠4)(Q4:k≠10){m:dX}(hb:fV m=true):(Ds k m.fr&&Dt k m.to)=lT k m:=by
 have hb:=abQ hb
 rw[ab5]
 rcases kinds hk with rfl|rfl|rfl|rfl|rfl|rfl|rfl|rfl|rfl|rfl|rfl<;>first|exact absurd rfl h4|exact absurd rfl Q4|(simp[Ds,Dt,lT];omega)
theorem SX{l:List dX}{p q:dX->Bool}:l.all (fun m=>p m&&q m)=(l.all p&&l.all q):=by
 induction l with
 |nil=>rfl
 |cons a l ih=>simp only[List.all_cons,ih];cases p a<;>cases q a<;>cases l.all p<;>rfl
theorem pos_eq(now:Int)(s:dJ)(h0:0<=now):rU now s=lC now s:=by
 unfold rU lC
 cases hr:Dg s with
 |false=>rfl
 |true=>
 have hr:=abQ hr
 have hd:decide (0<=s.tick/\now<=s.tick/\s.tick<=1099511627776/\1<=s.mv.length/\s.mv.length<=64)=decide (now<=s.tick/\s.tick<=1099511627776/\1<=s.mv.length/\s.mv.length<=64):=by
  rw[decide_eq_decide];omega
 rw[hd]
 generalize decide (now<=s.tick/\s.tick<=1099511627776/\1<=s.mv.length/\s.mv.length<=64)=d
 rw[show s.mv.all (rT s.kind)=(s.mv.all (fun m=>BF m (mc s.kind))&&s.mv.all fun m=>Ds s.kind m.fr&&Dt s.kind m.to)from SX]
 cases hm:s.mv.all (fun m=>BF m (mc s.kind))with
 |false=>cases d<;>rfl
 |true=>
 have hb:∀m∈s.mv,fV m=true:=fun m h=>by
  have:=abY.1 hm m h
  unfold BF at this
  exact(aca _ _▸this).1
 have hw:((s.mv.all fun m=>Ds s.kind m.fr&&Dt s.kind m.to)&&Xk s)=(bif decide (s.kind=4)then qt s else bif decide (s.kind=10)then tg s else s.mv.all (lT s.kind)&&decide (s.aD=-1/\s.times=0)):=by
  unfold Xk
  by_cases h4:s.kind=4
  ·rw[abW h4,show(s.mv.all fun m=>Ds s.kind m.fr&&Dt s.kind m.to)=true from abY.2 fun m _=>by rw[h4];rfl]
   exact Wq s hb
  rw[abX h4]
  by_cases Q4:s.kind=10
  ·rw[abW Q4,show(s.mv.all fun m=>Ds s.kind m.fr&&Dt s.kind m.to)=true from abY.2 fun m _=>by rw[Q4];rfl]
   rfl
  rw[abX Q4]
  simp only[cond_false]
  congr 1
  ·rw[ab5,abY,abY]
   exact forall_congr' fun m=>forall_congr' fun h=>by rw[P8 ⟨hr.1,hr.2.1⟩ h4 Q4 (hb m h)]
  ·rw[ab5];simp
 rw[<-hw]
 cases d<;>simp
end
section
open Go.TM
variable [bJ]
theorem Mo(P:PL)(s:dJ)(hr:oC s.aD)(hn:P.sp.length<=1000000)(hl:s.mv.length<=1000)(lu:∀m∈s.mv,m.ps.length<=4000)(hp:rU (eC P.sp) s=false)(au:(P.sp.length:Int)<65536):aq Tryz.prog 21 [.ptr 0 0,cJ (aC s)] 7 (fG P) 0 [.dv .ez,.dv (I 1)] (fG P):=by
 have lp:(P.sp.map aC).length=P.sp.length:=abz ..
 have lu:=mf P s hr hn hl lu
 rw[hp]at lu
 refine cO Tryz.func21 rfl (by kernel_rfl) ?_
 repeat first|apply g1|apply g2|apply g3|apply g4|apply g5
 refine aby (fun h2=>absurd (abQ h2) (by omega)) fun _=>?_
 refine .inr (cl [0,1,2,3,4,5,6] lu (by kernel_rfl) rfl rfl ?_)
 exact aby (fun _=>ext (by kernel_rfl) rfl rfl) fun h=>(by cases h)
end
section
open Go.TM
structure Ch where
 sp:dJ
 st:SM
 b8:IM Int
 imp:IM (List Lt)
 ret:IM (List Lt)
 fl:List oj
 sk:List Int
def aaU(P:PL):List AV:=.dv (I P.sh)::eB iO++[.own 8 0 0 [],.own 9 0 0 [],.own 10 0 0 [],.own 11 0 0 [],.own 12 0 0 [],.own 13 0 0 []]
def ZI(P:PL):ae:=[(7,.cells (aaU P)),(8,.tree 0 0 (.omap ey (pI P.st))),(9,.tree 0 0 (.omap cC (nZ P.b8))),(10,.tree 0 0 (.aB 7 (P.sp.map aC))),(11,.tree 0 0 (.aB 11 (P.fl.map aM))),(12,.tree 0 0 (.omap cC (pJ P.imp))),(13,.tree 0 0 (.omap cC (pJ P.ret)))]
def chC(v u:Nat)(c:Ch):List AV:=.ptr 7 0::(eB (aC c.sp).cells++[.own 1 0 0 [],.own 2 0 0 [],.own 3 0 0 [],.own 4 0 0 [],.own 5 v 0 [],.own 6 u 0 []])
def eZ(v u:Nat)(P:PL)(c:Ch):ae:=[(0,.cells (chC v u c)),(1,.tree 0 0 (.omap ey (pI c.st))),(2,.tree 0 0 (.omap cC (nZ c.b8))),(3,.tree 0 0 (.omap cC (pJ c.imp))),(4,.tree 0 0 (.omap cC (pJ c.ret))),(5,.tree v 0 (.aB 11 (c.fl.map aM))),(6,.tree u 0 (.aB 1 (c.sk.map I)))]++ZI P
def fo(P:PL)(c:Ch)(k:Ky):List Lt:=(aR c.st k).getD (cr P.st k)
theorem gU(l:List Lt):(aS l).aV:=fun d hd=>by
 have hd:d∈[aS l]:=hd
 rw[abF]at hd;subst hd;rfl
theorem u7(n:Int):(I n).aV:=fun d hd=>by
 have hd:d∈[I n]:=hd
 rw[abF]at hd;subst hd;rfl
theorem pM(m:SM)(k:Ky):∀x,bZ (pI m) (qF k)=some x->x.aV:=by
 intro x hx
 rw[show bZ (pI m) (qF k)=_ from iN (ev:=fun l:List Lt=>aS l) iP m k]at hx
 cases hq:aR m k with
 |none=>rw[hq]at hx;cases hx
 |some y=>rw[hq]at hx;injection hx with hx;subst hx;exact gU y
theorem n5(m:IM Int)(k:Int):∀x,bZ (nZ m) (eI k)=some x->x.aV:=by
 intro x hx
 rw[show bZ (nZ m) (eI k)=_ from iN (ev:=eI) jJ m k]at hx
 cases hq:aR m k with
 |none=>rw[hq]at hx;cases hx
 |some y=>rw[hq]at hx;injection hx with hx;subst hx;exact u7 y
theorem P9(m:IM (List Lt))(k:Int):∀x,bZ (pJ m) (eI k)=some x->x.aV:=by
 intro x hx
 rw[show bZ (pJ m) (eI k)=_ from iN (ev:=fun l:List Lt=>aS l) jJ m k]at hx
 cases hq:aR m k with
 |none=>rw[hq]at hx;cases hx
 |some y=>rw[hq]at hx;injection hx with hx;subst hx;exact gU y
variable [bJ]
theorem jK(P:PL)(c:Ch)(a i:Int):aq Tryz.prog 96 [.ptr 0 0,.dv (I a),.dv (I i)] 14 (eZ 0 0 P c) 0 [.dv (aS (fo P c (a,i)))] (eZ 0 0 P c):=by
 have hg:=iN (ev:=fun l:List Lt=>aS l) iP c.st (a,i)
 have hh:=iN (ev:=fun l:List Lt=>aS l) iP P.st (a,i)
 refine cO Tryz.func96 rfl (by kernel_rfl) ?_
 refine⟨mU,qF (a,i),rfl,rfl,?_⟩
 unfold fo
 cases h:aR c.st (a,i)with
 |some l=>
  rw[h]at hg
  refine⟨aS l,true,fun _=>hg,fun h=>(by cases h),rfl,?_⟩
  refine aby (by kernel_rfl) ?_
  refine aby (fun _=>?_) fun h=>(by cases h)
  exact ext (by kernel_rfl) rfl rfl
 |none=>
  rw[h]at hg
  refine⟨.az,false,fun _=>hg,fun _=>rfl,rfl,?_⟩
  refine aby (by kernel_rfl) ?_
  refine aby (fun h=>(by cases h)) fun _=>?_
  refine⟨mU,qF (a,i),rfl,rfl,?_⟩
  unfold cr
  cases h:aR P.st (a,i)with
  |some l=>
   rw[h]at hh
   refine⟨aS l,true,fun _=>hh,fun h=>(by cases h),rfl,?_⟩
   exact⟨by kernel_rfl,ext (by kernel_rfl) rfl rfl⟩
  |none=>
   rw[h]at hh
   refine⟨.az,false,fun _=>hh,fun _=>rfl,rfl,?_⟩
   refine aby (by kernel_rfl) ?_
   exact⟨_,_,⟨rfl,rfl⟩,by kernel_rfl,⟨DV.aL 3,tv⟩,bl (k:=eZ 0 0 P c) rfl⟩
def unK(a b:IM (List Lt)):ae:=[(0,.tree 0 0 (.omap cC (pJ a))),(1,.tree 0 0 (.omap cC (pJ b)))]
def Q5(a b:IM (List Lt))(f:Int):Option (List Lt):=(aR a f).or (aR b f)
def unD:Option (List Lt)->DV
 |some l=>aS l
 |none=>.az
theorem IN(m b:IM (List Lt))(f:Int):aq Tryz.prog 196 [.own 0 0 0 [],.own 1 0 0 [],.dv (I f)] 2 (unK m b) 0 [.dv (unD (Q5 m b f))] (unK m b):=by
 have hg:=iN (ev:=fun l:List Lt=>aS l) jJ m f
 have hh:=iN (ev:=fun l:List Lt=>aS l) jJ b f
 refine cO Tryz.func196 rfl (by kernel_rfl) ?_
 refine⟨kh,eI f,rfl,rfl,?_⟩
 unfold Q5
 cases h:aR m f with
 |some l=>
  rw[h]at hg
  refine⟨aS l,true,fun _=>hg,fun h=>(by cases h),rfl,?_⟩
  refine aby (fun _=>?_) fun h=>(by cases h)
  exact ext (by kernel_rfl) rfl rfl
 |none=>
  rw[h]at hg
  refine⟨.az,false,fun _=>hg,fun _=>rfl,rfl,?_⟩
  refine aby (fun h=>(by cases h)) fun _=>?_
  refine⟨kh,eI f,rfl,rfl,?_⟩
  cases h:aR b f with
  |some l=>
   rw[h]at hh
   refine⟨aS l,true,fun _=>hh,fun h=>(by cases h),rfl,?_⟩
   exact ext (by kernel_rfl) rfl rfl
  |none=>
   rw[h]at hh
   refine⟨.az,false,fun _=>hh,fun _=>rfl,rfl,?_⟩
   exact ext (by kernel_rfl) rfl rfl
end
section
open Go.TM
theorem KB{it:Int}(h:0<=it/\it<5):∃s o c w b z,(yR (I 2) (I 20))[it.toNat]?=some (.agg [.str s,B o,B (zV it),B c,I w,I b,I z]):=by
 have:it=0\/it=1\/it=2\/it=3\/it=4:=by omega
 rcases this with rfl|rfl|rfl|rfl|rfl<;>exact⟨_,_,_,_,_,_,rfl⟩
variable [bJ]
theorem Qa(hS:n0)(P:PL)(c:Ch)(m:dX)(hp:m.ps=[])(hi:0<=m.it/\m.it<5)(hm:0<=m.n/\m.n<=1099511627776)(hv:ca (fo P c (m.fr,m.it))=true)(hc:decide (bQ (fo P c (m.fr,m.it))<m.n)=true):aq Tryz.prog 162 [.ptr 0 0,cJ (ak m)] 14 (eZ 0 0 P c) 0 [.dv (aS []),.dv (I 10)] (eZ 0 0 P c):=by
 have ht:=fun x=>(zq hS (fo P c (m.fr,m.it)) m.n x hm hv).ok
 unfold FI at ht
 rw[hc]at ht
 obtain⟨z1,z2,z3,z4,z5,z6,hx⟩:=KB hi
 have lp:(m.ps.map aF).length=0:=by rw[hp];rfl
 refine cO Tryz.func162 rfl (by kernel_rfl) ?_
 repeat first|apply g1|apply g2|apply g3|apply g4|apply g5
 refine .inr (cl [0,1,2,3,4,5,6,7,8,9,10,11,12,13] (jK P c m.fr _) (by kernel_rfl) rfl rfl ?_)
 repeat first|apply g1|apply g2|apply g3|apply g4|apply g5
 refine aby (fun _=>?_) fun h=>(by rw[lp]at h;cases h)
 refine⟨_,fun _=>⟨hi.1,hx⟩,?_⟩
 refine .inl ⟨_,fun _=>ht _,?_⟩
 refine aby (by kernel_rfl) ?_
 refine aby (fun _=>?_) fun h=>(by cases h)
 exact⟨_,_,⟨rfl,rfl⟩,by kernel_rfl,⟨DV.aL 3,rf,tv⟩,bl (k:=eZ 0 0 P c) rfl⟩
theorem Qb(hS:n0)(P:PL)(c:Ch)(m:dX)(hp:m.ps=[])(hi:0<=m.it/\m.it<5)(hm:0<=m.n/\m.n<=1099511627776)(hv:ca (fo P c (m.fr,m.it))=true)(hc:decide (bQ (fo P c (m.fr,m.it))<m.n)=false):aq Tryz.prog 162 [.ptr 0 0,cJ (ak m)] 14 (eZ 0 0 P c) 0 [.dv (aS (gj (fo P c (m.fr,m.it)) m.n (zV m.it)).1),.dv (I 0)] (eZ 0 0 P { c with st:=aU c.st (m.fr,m.it) (gj (fo P c (m.fr,m.it)) m.n (zV m.it)).2 }):=by
 have ht:=fun x=>(zq hS (fo P c (m.fr,m.it)) m.n x hm hv).ok
 unfold FI at ht
 rw[hc]at ht
 obtain⟨z1,z2,z3,z4,z5,z6,hx⟩:=KB hi
 have lp:(m.ps.map aF).length=0:=by rw[hp];rfl
 refine cO Tryz.func162 rfl (by kernel_rfl) ?_
 repeat first|apply g1|apply g2|apply g3|apply g4|apply g5
 refine .inr (cl [0,1,2,3,4,5,6,7,8,9,10,11,12,13] (jK P c m.fr _) (by kernel_rfl) rfl rfl ?_)
 repeat first|apply g1|apply g2|apply g3|apply g4|apply g5
 refine aby (fun _=>?_) fun h=>(by rw[lp]at h;cases h)
 refine⟨_,fun _=>⟨hi.1,hx⟩,?_⟩
 refine .inl ⟨_,fun _=>ht _,?_⟩
 refine aby (by kernel_rfl) ?_
 refine aby (fun h=>(by cases h)) fun _=>?_
 refine⟨mU,qF (m.fr,m.it),rfl,rfl,?_⟩
 refine⟨aS (gj (fo P c (m.fr,m.it)) m.n (zV m.it)).2,⟨rf,tv⟩,rfl,false,fun _=>⟨pM c.st _,gU _⟩,?_⟩
 rw[show cW (pI c.st) (qF (m.fr,m.it)) (aS (gj (fo P c (m.fr,m.it)) m.n (zV m.it)).2)=pI (aU c.st (m.fr,m.it) (gj (fo P c (m.fr,m.it)) m.n (zV m.it)).2)from dB iP c.st _ _]
 exact⟨by kernel_rfl,ext (by kernel_rfl) rfl rfl⟩
end
section
open Go.Proofs Go.Sort Go.RowKit
theorem Ge(w:World):Calls Tryz.prog 198 #[.slice none 0 0] w fun e w'=>e=.returned (.slice none 0 0)/\w'=w:=by
 go_enter Tryz.func198,Tryz.ntmps198
 go_wp2
 go_ret
 exact⟨by simp,rfl⟩
theorem IP(a:Addr)(l c:Nat)(h:l<=c)(w:World):Calls Tryz.prog 198 #[.slice (some a) l c] w fun e w'=>e=.returned (.slice (some a) l l)/\w'=w:=by
 go_enter Tryz.func198,Tryz.ntmps198
 go_wp2
 go_ret
 exact⟨by simp,rfl⟩
open Go.TM
variable [bJ]
theorem Qc:fQ Tryz.prog 198:=⟨_,Tryz.func198,by kernel_rfl,by kernel_rfl⟩
theorem SY{a:DV}(h:∀(M:Mem) v,bz M a v->v=.slice none 0 0\/∃p l c,l<=c/\v=.slice (some p) l c/\bz M a (.slice (some p) l l)):aO Tryz.prog 198 [a] [a]:=by
 refine⟨Qc,fun w M vs dP hg hr=>?_⟩
 match vs,hr with
 |[v],hr=>
  have hv:bz M a v:=hr.2 0 a v rfl rfl
  rcases h M v hv with rfl|⟨p,l,c,h1,rfl,h3⟩
  ·refine(Ge w).mono ?_
   rintro e w' ⟨rfl,rfl⟩
   exact⟨_,M,rfl,Below.refl _ _,Mem.Le.refl _,dP,fun _ _=>rfl,hv⟩
  ·refine(IP p l c h1 w).mono ?_
   rintro e w' ⟨rfl,rfl⟩
   exact⟨_,M,rfl,Below.refl _ _,Mem.Le.refl _,dP,fun _ _=>rfl,h3⟩
theorem IQ:aO Tryz.prog 198 [.az] [.az]:=SY fun M v hv=>by
 generalize hx:DV.az=x at hv
 cases hv with
 |az=>exact .inl rfl
 |_=>cases hx
end
end Go.Proofs.YtpbiiigpphehbaaGreatDoor
