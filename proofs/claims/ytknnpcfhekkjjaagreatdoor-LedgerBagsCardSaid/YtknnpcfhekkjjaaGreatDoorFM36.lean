import Derived.Test.YtknnpcfhekkjjaaGreatDoorFM35
import Derived.Test.YtknnpcfhekkjjaaGreatDoorFM25
import Derived.Test.YtknnpcfhekkjjaaGreatDoorFM26
import Derived.Test.YtknnpcfhekkjjaaGreatDoorFM30
import Derived.Test.YtknnpcfhekkjjaaGreatDoorFM22
import Derived.Test.YtknnpcfhekkjjaaGreatDoorFM34
set_option linter.all false
namespace Go.Proofs.YtknnpcfhekkjjaaGreatDoor
set_option maxRecDepth 100000
set_option maxHeartbeats 4000000
section
open Go.TM
def Um(r:Int):Int:=if r< -1 then -2-r else r
def Wm(r:Int)(x:Pc):List Ky:=if r< -1 then x.bk else x.gv
def pH(mv:List fa)(tm:Int)(tk:List Ky)(k:Nat):Bool:=decide ((mv.getD k m0).fr=(mv.getD 0 m0).fr/\(mv.getD k m0).to=0/\(mv.getD k m0).it=(tk.getD k (0,0)).1/\(mv.getD k m0).n=(tk.getD k (0,0)).2*tm)
def oG(mv:List fa)(tm:Int)(gv:List Ky)(k:Nat):Bool:=decide ((mv.getD k m0).fr=0/\(mv.getD k m0).to=(mv.getD 0 m0).to/\(mv.getD k m0).it=(gv.getD k (0,0)).1/\(mv.getD k m0).n=(gv.getD k (0,0)).2*tm)
def tz(s:dW):Bool:=
 if Um s.aL<0\/5<=Um s.aL\/s.times<1\/1048576<s.times then false else match dB[(Um s.aL).toNat]? with
  |some r=>if r.sp=true\/(s.aL< -1/\r.of<=r.ch)\/s.mv.length≠r.tk.length+(Wm s.aL r).length then false else(List.range r.tk.length).all (pH s.mv s.times r.tk)&&(List.range (Wm s.aL r).length).all (oG (s.mv.drop r.tk.length) s.times (Wm s.aL r))
  |none=>false
theorem ku{n k:Nat}{p:Nat->Bool}(h:k<n)(hp:p k=false):(List.range n).all p=false:=List.all_eq_false.2 ⟨k,aca.2 h,by rw[hp];simp⟩
variable [bG]
theorem Dp(P:PL)(s:dW)(hr:vU s.aL)(hl:s.mv.length<=1000)(h1:1<=s.mv.length):ar Tryz.prog 166 [.ptr 0 0,cY (aP s)] 7 (kJ P) 0 [.dv (B (tz s))] (kJ P):=by
 refine cO Tryz.func166 rfl (by kernel_rfl) ?_
 have uE:-9223372036854775808<=s.aL/\s.aL<=9223372036854775807:=hr
 have Sy:(dB.map gT).length=5:=rfl
 have aaL:dB.length=5:=rfl
 repeat first|apply g1|apply g2|apply g3|apply g4|apply g5
 refine abG (by kernel_rfl) ?_
 refine abG ?_ ?_
 ·intro lu
  have lu:=abY lu
  refine⟨fun _=>⟨by omega,by omega⟩,?_⟩
  have hI:Um s.aL=(-2-s.aL):=if_pos lu
  have hG:∀r,Wm s.aL r=r.bk:=fun r=>if_pos lu
  repeat first|apply g1|apply g2|apply g3|apply g4|apply g5
  refine .inl ⟨_,fun _=>(nV s.times).ok,?_⟩
  repeat first|apply g1|apply g2|apply g3|apply g4|apply g5
  refine abG ?_ ?_
  ·intro h
   have hc:tz s=false:=by
    rw[Sy]at h
    simp at h
    unfold tz
    rw[hI,if_pos (by omega)]
   rw[hc]
   exact ext (by kernel_rfl) rfl rfl
  intro h
  have dX:(0<=(-2-s.aL)/\(-2-s.aL)<5)/\1<=s.times/\s.times<=1048576:=by
   rw[Sy]at h
   simp at h
   omega
  obtain⟨r,uy⟩:∃r,dB[((-2-s.aL)).toNat]?=some r:=⟨_,aaj (show((-2-s.aL)).toNat<dB.length by omega)⟩
  have Pk:(dB.map gT)[((-2-s.aL)).toNat]?=some (gT r):=by rw[abJ,uy];rfl
  obtain⟨tl1,tl2,tl3⟩:=C4 uy
  have jB:tz s=if r.sp=true\/(s.aL< -1/\r.of<=r.ch)\/s.mv.length≠r.tk.length+(r.bk).length then false else(List.range r.tk.length).all (pH s.mv s.times r.tk)&&(List.range (r.bk).length).all (oG (s.mv.drop r.tk.length) s.times (r.bk)):=by
   unfold tz
   rw[hI,if_neg (by omega),uy]
   simp only[hG]
  have lm:(s.mv.map ak).length=s.mv.length:=abH ..
  have la:(r.tk.map fq).length=r.tk.length:=abH ..
  have lb:((r.bk).map fq).length=(r.bk).length:=abH ..
  refine⟨gT r,fun _=>⟨by omega,Pk⟩,?_⟩
  repeat first|apply g1|apply g2|apply g3|apply g4|apply g5
  refine abG (fun _=>?_) fun h=>absurd lu (abZ h)
  repeat first|apply g1|apply g2|apply g3|apply g4|apply g5|refine⟨fun _=>⟨by omega,by omega⟩,?_⟩|refine⟨fun _=>⟨by rw[abH,abH];omega,by rw[abH,abH];omega⟩,?_⟩
  refine abG ?_ ?_
  ·intro h
   have hc:tz s=false:=by
    rw[lm,la,lb]at h
    rw[jB,if_pos]
    cases my:r.sp
    ·rw[my]at h
     simp at h
     omega
    ·exact .inl rfl
   rw[hc]
   exact ext (by kernel_rfl) rfl rfl
  intro h
  have Ic:¬(r.sp=true\/(s.aL< -1/\r.of<=r.ch)\/s.mv.length≠r.tk.length+(r.bk).length):=by
   rw[lm,la,lb]at h
   cases my:r.sp
   ·rw[my]at h
    simp at h
    rintro(hh|hh)
    ·cases hh
    ·omega
   ·rw[my]at h;cases h
  rw[if_neg Ic]at jB
  have Sz:s.mv.length=r.tk.length+(r.bk).length:=by omega
  rw[jB]
  obtain⟨V2,Y9,Za⟩:=C3 uy
  obtain⟨f,hf⟩:∃f,s.mv[0]?=some f:=⟨_,aaj (show 0<s.mv.length by omega)⟩
  have df:s.mv.getD 0 m0=f:=by rw[abM,hf];rfl
  have i0:(s.mv.map ak)[(0:Int).toNat]?=some (ak f):=by rw[abJ];exact congrArg (Option.map ak) hf
  refine⟨Nat,fun k=>⟨9,[(3,.ptr 7 0),(7,.ptr 8 0),(8,.dv (.sl 2 ((r.bk).map fq))),(81,.dv (.sl 2 (r.tk.map fq))),(82,.dv (I (r.tk.map fq).length)),(83,.dv (I k))],kJ P++[(7,.cells (fc (aP s).cells)),(8,.cells (fc (gT r).cells))]⟩,fun k=>k<=r.tk.length/\∀j,j<k->pH s.mv s.times r.tk j=true,fun k=>r.tk.length-k,0,fun _=>rfl,jn rfl rfl rfl rfl,⟨abW _,fun j hj=>absurd hj (Nat.not_lt_zero j)⟩,?_⟩
  rintro k ⟨hk,bq⟩
  refine abG ?_ ?_
  ·intro h
   have au:k<r.tk.length:=by have:=abY h;omega
   obtain⟨m,hm⟩:∃m,s.mv[k]?=some m:=⟨_,aaj (show k<s.mv.length by omega)⟩
   obtain⟨a,ha⟩:∃a,r.tk[k]?=some a:=⟨_,aaj au⟩
   have dm:s.mv.getD k m0=m:=by rw[abM,hm];rfl
   have da:r.tk.getD k (0,0)=a:=by rw[abM,ha];rfl
   have im:(s.mv.map ak)[(k:Int).toNat]?=some (ak m):=by rw[abJ];simp[hm]
   have ia:(r.tk.map fq)[(k:Int).toNat]?=some (fq a):=by rw[abJ];simp[ha]
   have Rh:=vY (V2 a (abK ha)) ⟨dX.2.1,dX.2.2⟩
   have qN:pH s.mv s.times r.tk k=decide (m.fr=f.fr/\m.to=0/\m.it=a.1/\m.n=a.2*s.times):=by unfold pH;rw[dm,df,da]
   repeat first|apply g1|apply g2|apply g3|apply g4|apply g5|refine⟨fun _=>⟨by omega,by omega⟩,?_⟩|refine⟨fq a,fun _=>⟨by omega,ia⟩,?_⟩|refine⟨ak m,fun _=>⟨by omega,im⟩,?_⟩|refine⟨ak f,fun _=>⟨by omega,i0⟩,?_⟩
   refine abG (by kernel_rfl) ?_
   refine abG ?_ ?_
   ·intro h
    have rP:pH s.mv s.times r.tk k=false:=by
     rw[qN,ack]
     rintro⟨q1,q2,q3,q4⟩
     simp at h
     omega
    rw[ku au rP]
    exact ext (by kernel_rfl) rfl rfl
   ·intro h
    have Ie:pH s.mv s.times r.tk k=true:=by
     rw[qN,ach]
     simp at h
     omega
    refine⟨fun _=>⟨by omega,by omega⟩,k+1,jn rfl rfl rfl rfl,⟨by omega,fun j hj=>?_⟩,mlt au⟩
    rcases ab1 j k with u4|u4
    ·exact bq j u4
    ·rw[show j=k by omega];exact Ie
  intro h
  have he:k=r.tk.length:=by have:=abZ h;omega
  subst he
  rw[show(List.range r.tk.length).all (pH s.mv s.times r.tk)=true from ab6.2 fun j hj=>bq j (aca.1 hj),Bool.true_and]
  repeat first|apply g1|apply g2|apply g3|apply g4|apply g5
  refine⟨fun _=>⟨by rw[la];exact Int.natCast_nonneg _,by rw[la,lm];exact Int.ofNat_le.2 (by omega),by rw[lm];exact Int.le_refl _⟩,?_⟩
  have je:((s.mv.map ak).take (s.mv.map ak).length).drop (r.tk.map fq).length=(s.mv.drop r.tk.length).map ak:=by rw[abX,la,List.map_drop]
  refine⟨Nat,fun k=>⟨8,[(3,.ptr 7 0),(12,.dv (.sl 5 ((s.mv.drop r.tk.length).map ak))),(130,.dv (.sl 2 ((r.bk).map fq))),(131,.dv (I ((r.bk).map fq).length)),(132,.dv (I k))],kJ P++[(7,.cells (fc (aP s).cells))]⟩,fun k=>k<=(r.bk).length/\∀j,j<k->oG (s.mv.drop r.tk.length) s.times (r.bk) j=true,fun k=>(r.bk).length-k,0,fun _=>rfl,jn (congrArg (fun l=>[(3,AV.ptr 7 0),(12,AV.dv (.sl 5 l)),(130,.dv (.sl 2 ((r.bk).map fq))),(131,.dv (I ((r.bk).map fq).length)),(132,.dv (I 0))]) je) rfl rfl rfl,⟨abW _,fun j hj=>absurd hj (Nat.not_lt_zero j)⟩,?_⟩
  rintro k ⟨K4,FZ⟩
  refine abG ?_ ?_
  ·intro h
   have au:k<(r.bk).length:=by have:=abY h;rw[lb]at this;omega
   have hd:∀i,(s.mv.drop r.tk.length)[i]?=s.mv[r.tk.length+i]?:=fun i=>by rw[List.getElem?_drop]
   have ld:((s.mv.drop r.tk.length).map ak).length=(r.bk).length:=by rw[abH,List.length_drop];omega
   obtain⟨m,hm⟩:∃m,(s.mv.drop r.tk.length)[k]?=some m:=⟨_,(hd k).trans (aaj (show r.tk.length+k<s.mv.length by omega))⟩
   obtain⟨g,hg⟩:∃g,(s.mv.drop r.tk.length)[0]?=some g:=⟨_,(hd 0).trans (aaj (show r.tk.length+0<s.mv.length by omega))⟩
   obtain⟨a,ha⟩:∃a,(r.bk)[k]?=some a:=⟨_,aaj au⟩
   have dm:(s.mv.drop r.tk.length).getD k m0=m:=by rw[abM,hm];rfl
   have dg:(s.mv.drop r.tk.length).getD 0 m0=g:=by rw[abM,hg];rfl
   have da:(r.bk).getD k (0,0)=a:=by rw[abM,ha];rfl
   have im:((s.mv.drop r.tk.length).map ak)[(k:Int).toNat]?=some (ak m):=by rw[abJ];exact congrArg (Option.map ak) hm
   have ig:((s.mv.drop r.tk.length).map ak)[(0:Int).toNat]?=some (ak g):=by rw[abJ];exact congrArg (Option.map ak) hg
   have ia:((r.bk).map fq)[(k:Int).toNat]?=some (fq a):=by rw[abJ];exact congrArg (Option.map fq) ha
   have Rh:=vY (Za a (abK ha)) ⟨dX.2.1,dX.2.2⟩
   have qN:oG (s.mv.drop r.tk.length) s.times (r.bk) k=decide (m.fr=0/\m.to=g.to/\m.it=a.1/\m.n=a.2*s.times):=by unfold oG;rw[dm,dg,da]
   repeat first|apply g1|apply g2|apply g3|apply g4|apply g5|refine⟨fun _=>⟨by omega,by omega⟩,?_⟩|refine⟨fq a,fun _=>⟨by omega,ia⟩,?_⟩|refine⟨ak m,fun _=>⟨by omega,im⟩,?_⟩|refine⟨ak g,fun _=>⟨by omega,ig⟩,?_⟩
   refine abG (by kernel_rfl) ?_
   refine abG ?_ ?_
   ·intro h
    have rP:oG (s.mv.drop r.tk.length) s.times (r.bk) k=false:=by
     rw[qN,ack]
     rintro⟨q1,q2,q3,q4⟩
     simp at h
     omega
    rw[ku au rP]
    exact ext (by kernel_rfl) rfl rfl
   ·intro h
    have Ie:oG (s.mv.drop r.tk.length) s.times (r.bk) k=true:=by
     rw[qN,ach]
     simp at h
     omega
    refine⟨fun _=>⟨by omega,by omega⟩,k+1,jn rfl rfl rfl rfl,⟨by omega,fun j hj=>?_⟩,mlt au⟩
    rcases ab1 j k with u4|u4
    ·exact FZ j u4
    ·rw[show j=k by omega];exact Ie
  intro h
  have he:k=(r.bk).length:=by have:=abZ h;rw[lb]at this;omega
  subst he
  rw[show(List.range (r.bk).length).all (oG (s.mv.drop r.tk.length) s.times (r.bk))=true from ab6.2 fun j hj=>FZ j (aca.1 hj)]
  exact ext (by kernel_rfl) rfl rfl
 ·intro lu
  have lu:=abZ lu
  have hI:Um s.aL=s.aL:=if_neg lu
  have hG:∀r,Wm s.aL r=r.gv:=fun r=>if_neg lu
  repeat first|apply g1|apply g2|apply g3|apply g4|apply g5
  refine .inl ⟨_,fun _=>(nV s.times).ok,?_⟩
  repeat first|apply g1|apply g2|apply g3|apply g4|apply g5
  refine abG ?_ ?_
  ·intro h
   have hc:tz s=false:=by
    rw[Sy]at h
    simp at h
    unfold tz
    rw[hI,if_pos (by omega)]
   rw[hc]
   exact ext (by kernel_rfl) rfl rfl
  intro h
  have dX:(0<=s.aL/\s.aL<5)/\1<=s.times/\s.times<=1048576:=by
   rw[Sy]at h
   simp at h
   omega
  obtain⟨r,uy⟩:∃r,dB[(s.aL).toNat]?=some r:=⟨_,aaj (show(s.aL).toNat<dB.length by omega)⟩
  have Pk:(dB.map gT)[(s.aL).toNat]?=some (gT r):=by rw[abJ,uy];rfl
  obtain⟨tl1,tl2,tl3⟩:=C4 uy
  have jB:tz s=if r.sp=true\/(s.aL< -1/\r.of<=r.ch)\/s.mv.length≠r.tk.length+(r.gv).length then false else(List.range r.tk.length).all (pH s.mv s.times r.tk)&&(List.range (r.gv).length).all (oG (s.mv.drop r.tk.length) s.times (r.gv)):=by
   unfold tz
   rw[hI,if_neg (by omega),uy]
   simp only[hG]
  have lm:(s.mv.map ak).length=s.mv.length:=abH ..
  have la:(r.tk.map fq).length=r.tk.length:=abH ..
  have lb:((r.gv).map fq).length=(r.gv).length:=abH ..
  refine⟨gT r,fun _=>⟨by omega,Pk⟩,?_⟩
  repeat first|apply g1|apply g2|apply g3|apply g4|apply g5
  refine abG (fun h=>absurd (abY h) lu) fun _=>?_
  repeat first|apply g1|apply g2|apply g3|apply g4|apply g5|refine⟨fun _=>⟨by omega,by omega⟩,?_⟩|refine⟨fun _=>⟨by rw[abH,abH];omega,by rw[abH,abH];omega⟩,?_⟩
  refine abG ?_ ?_
  ·intro h
   have hc:tz s=false:=by
    rw[lm,la,lb]at h
    rw[jB,if_pos]
    cases my:r.sp
    ·rw[my]at h
     simp at h
     omega
    ·exact .inl rfl
   rw[hc]
   exact ext (by kernel_rfl) rfl rfl
  intro h
  have Ic:¬(r.sp=true\/(s.aL< -1/\r.of<=r.ch)\/s.mv.length≠r.tk.length+(r.gv).length):=by
   rw[lm,la,lb]at h
   cases my:r.sp
   ·rw[my]at h
    simp at h
    rintro(hh|hh)
    ·cases hh
    ·omega
   ·rw[my]at h;cases h
  rw[if_neg Ic]at jB
  have Sz:s.mv.length=r.tk.length+(r.gv).length:=by omega
  rw[jB]
  obtain⟨V2,Y9,Za⟩:=C3 uy
  obtain⟨f,hf⟩:∃f,s.mv[0]?=some f:=⟨_,aaj (show 0<s.mv.length by omega)⟩
  have df:s.mv.getD 0 m0=f:=by rw[abM,hf];rfl
  have i0:(s.mv.map ak)[(0:Int).toNat]?=some (ak f):=by rw[abJ];exact congrArg (Option.map ak) hf
  refine⟨Nat,fun k=>⟨9,[(3,.ptr 7 0),(7,.ptr 8 0),(8,.dv (.sl 2 ((r.gv).map fq))),(81,.dv (.sl 2 (r.tk.map fq))),(82,.dv (I (r.tk.map fq).length)),(83,.dv (I k))],kJ P++[(7,.cells (fc (aP s).cells)),(8,.cells (fc (gT r).cells))]⟩,fun k=>k<=r.tk.length/\∀j,j<k->pH s.mv s.times r.tk j=true,fun k=>r.tk.length-k,0,fun _=>rfl,jn rfl rfl rfl rfl,⟨abW _,fun j hj=>absurd hj (Nat.not_lt_zero j)⟩,?_⟩
  rintro k ⟨hk,bq⟩
  refine abG ?_ ?_
  ·intro h
   have au:k<r.tk.length:=by have:=abY h;omega
   obtain⟨m,hm⟩:∃m,s.mv[k]?=some m:=⟨_,aaj (show k<s.mv.length by omega)⟩
   obtain⟨a,ha⟩:∃a,r.tk[k]?=some a:=⟨_,aaj au⟩
   have dm:s.mv.getD k m0=m:=by rw[abM,hm];rfl
   have da:r.tk.getD k (0,0)=a:=by rw[abM,ha];rfl
   have im:(s.mv.map ak)[(k:Int).toNat]?=some (ak m):=by rw[abJ];simp[hm]
   have ia:(r.tk.map fq)[(k:Int).toNat]?=some (fq a):=by rw[abJ];simp[ha]
   have Rh:=vY (V2 a (abK ha)) ⟨dX.2.1,dX.2.2⟩
   have qN:pH s.mv s.times r.tk k=decide (m.fr=f.fr/\m.to=0/\m.it=a.1/\m.n=a.2*s.times):=by unfold pH;rw[dm,df,da]
   repeat first|apply g1|apply g2|apply g3|apply g4|apply g5|refine⟨fun _=>⟨by omega,by omega⟩,?_⟩|refine⟨fq a,fun _=>⟨by omega,ia⟩,?_⟩|refine⟨ak m,fun _=>⟨by omega,im⟩,?_⟩|refine⟨ak f,fun _=>⟨by omega,i0⟩,?_⟩
   refine abG (by kernel_rfl) ?_
   refine abG ?_ ?_
   ·intro h
    have rP:pH s.mv s.times r.tk k=false:=by
     rw[qN,ack]
     rintro⟨q1,q2,q3,q4⟩
     simp at h
     omega
    rw[ku au rP]
    exact ext (by kernel_rfl) rfl rfl
   ·intro h
    have Ie:pH s.mv s.times r.tk k=true:=by
     rw[qN,ach]
     simp at h
     omega
    refine⟨fun _=>⟨by omega,by omega⟩,k+1,jn rfl rfl rfl rfl,⟨by omega,fun j hj=>?_⟩,mlt au⟩
    rcases ab1 j k with u4|u4
    ·exact bq j u4
    ·rw[show j=k by omega];exact Ie
  intro h
  have he:k=r.tk.length:=by have:=abZ h;omega
  subst he
  rw[show(List.range r.tk.length).all (pH s.mv s.times r.tk)=true from ab6.2 fun j hj=>bq j (aca.1 hj),Bool.true_and]
  repeat first|apply g1|apply g2|apply g3|apply g4|apply g5
  refine⟨fun _=>⟨by rw[la];exact Int.natCast_nonneg _,by rw[la,lm];exact Int.ofNat_le.2 (by omega),by rw[lm];exact Int.le_refl _⟩,?_⟩
  have je:((s.mv.map ak).take (s.mv.map ak).length).drop (r.tk.map fq).length=(s.mv.drop r.tk.length).map ak:=by rw[abX,la,List.map_drop]
  refine⟨Nat,fun k=>⟨8,[(3,.ptr 7 0),(12,.dv (.sl 5 ((s.mv.drop r.tk.length).map ak))),(130,.dv (.sl 2 ((r.gv).map fq))),(131,.dv (I ((r.gv).map fq).length)),(132,.dv (I k))],kJ P++[(7,.cells (fc (aP s).cells))]⟩,fun k=>k<=(r.gv).length/\∀j,j<k->oG (s.mv.drop r.tk.length) s.times (r.gv) j=true,fun k=>(r.gv).length-k,0,fun _=>rfl,jn (congrArg (fun l=>[(3,AV.ptr 7 0),(12,AV.dv (.sl 5 l)),(130,.dv (.sl 2 ((r.gv).map fq))),(131,.dv (I ((r.gv).map fq).length)),(132,.dv (I 0))]) je) rfl rfl rfl,⟨abW _,fun j hj=>absurd hj (Nat.not_lt_zero j)⟩,?_⟩
  rintro k ⟨K4,FZ⟩
  refine abG ?_ ?_
  ·intro h
   have au:k<(r.gv).length:=by have:=abY h;rw[lb]at this;omega
   have hd:∀i,(s.mv.drop r.tk.length)[i]?=s.mv[r.tk.length+i]?:=fun i=>by rw[List.getElem?_drop]
   have ld:((s.mv.drop r.tk.length).map ak).length=(r.gv).length:=by rw[abH,List.length_drop];omega
   obtain⟨m,hm⟩:∃m,(s.mv.drop r.tk.length)[k]?=some m:=⟨_,(hd k).trans (aaj (show r.tk.length+k<s.mv.length by omega))⟩
   obtain⟨g,hg⟩:∃g,(s.mv.drop r.tk.length)[0]?=some g:=⟨_,(hd 0).trans (aaj (show r.tk.length+0<s.mv.length by omega))⟩
   obtain⟨a,ha⟩:∃a,(r.gv)[k]?=some a:=⟨_,aaj au⟩
   have dm:(s.mv.drop r.tk.length).getD k m0=m:=by rw[abM,hm];rfl
   have dg:(s.mv.drop r.tk.length).getD 0 m0=g:=by rw[abM,hg];rfl
   have da:(r.gv).getD k (0,0)=a:=by rw[abM,ha];rfl
   have im:((s.mv.drop r.tk.length).map ak)[(k:Int).toNat]?=some (ak m):=by rw[abJ];exact congrArg (Option.map ak) hm
   have ig:((s.mv.drop r.tk.length).map ak)[(0:Int).toNat]?=some (ak g):=by rw[abJ];exact congrArg (Option.map ak) hg
   have ia:((r.gv).map fq)[(k:Int).toNat]?=some (fq a):=by rw[abJ];exact congrArg (Option.map fq) ha
   have Rh:=vY (Y9 a (abK ha)) ⟨dX.2.1,dX.2.2⟩
   have qN:oG (s.mv.drop r.tk.length) s.times (r.gv) k=decide (m.fr=0/\m.to=g.to/\m.it=a.1/\m.n=a.2*s.times):=by unfold oG;rw[dm,dg,da]
   repeat first|apply g1|apply g2|apply g3|apply g4|apply g5|refine⟨fun _=>⟨by omega,by omega⟩,?_⟩|refine⟨fq a,fun _=>⟨by omega,ia⟩,?_⟩|refine⟨ak m,fun _=>⟨by omega,im⟩,?_⟩|refine⟨ak g,fun _=>⟨by omega,ig⟩,?_⟩
   refine abG (by kernel_rfl) ?_
   refine abG ?_ ?_
   ·intro h
    have rP:oG (s.mv.drop r.tk.length) s.times (r.gv) k=false:=by
     rw[qN,ack]
     rintro⟨q1,q2,q3,q4⟩
     simp at h
     omega
    rw[ku au rP]
    exact ext (by kernel_rfl) rfl rfl
   ·intro h
    have Ie:oG (s.mv.drop r.tk.length) s.times (r.gv) k=true:=by
     rw[qN,ach]
     simp at h
     omega
    refine⟨fun _=>⟨by omega,by omega⟩,k+1,jn rfl rfl rfl rfl,⟨by omega,fun j hj=>?_⟩,mlt au⟩
    rcases ab1 j k with u4|u4
    ·exact FZ j u4
    ·rw[show j=k by omega];exact Ie
  intro h
  have he:k=(r.gv).length:=by have:=abZ h;rw[lb]at this;omega
  subst he
  rw[show(List.range (r.gv).length).all (oG (s.mv.drop r.tk.length) s.times (r.gv))=true from ab6.2 fun j hj=>FZ j (aca.1 hj)]
  exact ext (by kernel_rfl) rfl rfl
end
section
open Go.TM
def Xq(s:dW):Bool:=bif decide (s.kind=4)then tz s else bif decide (s.kind=10)then tg s else decide (s.aL=-1)&&decide (s.times=0)
def rX(now:Int)(s:dW):Bool:=yX s&&decide (0<=s.tick/\now<=s.tick/\s.tick<=1099511627776/\1<=s.mv.length/\s.mv.length<=64)&&s.mv.all (rW s.kind)&&Xq s
variable [bG]
theorem SR(P:PL)(s:dW)(hr:vU s.aL)(hl:s.mv.length<=1000)(h1:1<=s.mv.length):ar Tryz.prog (whN s.kind) [.ptr 0 0,cY (aP s)] 7 (kJ P) 0 [.dv (B (Xq s))] (kJ P):=by
 unfold whN Xq
 split
 ·rename_i h;rw[ab4 h];exact Dp P s hr hl h1
 rename_i h4
 rw[ab5 h4]
 split
 ·rename_i h;rw[ab4 h];exact FY P s
 ·rename_i h;rw[ab5 h];exact Dn P s
theorem mf(P:PL)(s:dW)(hr:vU s.aL)(hn:P.sp.length<=1000000)(hl:s.mv.length<=1000)(lP:∀m∈s.mv,m.ps.length<=4000):ar Tryz.prog 79 [.ptr 0 0,cY (aP s)] 7 (kJ P) 0 [.dv (B (rX (dS P.sp) s))] (kJ P):=by
 by_cases hk:0<=s.kind/\s.kind<=10
 ·by_cases hg:(0<=s.gE/\s.gE<=1073741824)/\0<=s.tick/\s.tick<=1099511627776
  ·refine cO Tryz.func79 rfl (by kernel_rfl) ?_
   repeat first|apply g1|apply g2|apply g3|apply g4|apply g5
   refine .inl ⟨_,fun _=>(BK s.kind hk).ok,?_⟩
   repeat first|apply g1|apply g2|apply g3|apply g4|apply g5
   refine .inl ⟨_,fun _=>(lA s.gE).ok,?_⟩
   repeat first|apply g1|apply g2|apply g3|apply g4|apply g5
   refine .inr (cl [0,1,2,3,4,5,6] (L6 P hn) (by kernel_rfl) rfl rfl ?_)
   refine⟨by simp[bw];omega,?_⟩
   repeat first|apply g1|apply g2|apply g3|apply g4|apply g5|refine⟨fun _=>rfl,?_⟩
   refine abG (by kernel_rfl) ?_
   have hA:yX s=true:=ab4 ⟨hk.1,hk.2,hg.1.1,hg.1.2⟩
   refine abG ?_ ?_
   ·intro h
    have hc:rX (dS P.sp) s=false:=by
     have:decide (0<=s.tick/\dS P.sp<=s.tick/\s.tick<=1099511627776/\1<=s.mv.length/\s.mv.length<=64)=false:=by
      rw[ack]
      rw[abH]at h
      simp at h
      omega
     unfold rX
     rw[this,Bool.and_false];rfl
    rw[hc]
    exact ext (by kernel_rfl) rfl rfl
   intro h
   have hB:0<=s.tick/\dS P.sp<=s.tick/\s.tick<=1099511627776/\1<=s.mv.length/\s.mv.length<=64:=by
    rw[abH]at h
    simp at h
    omega
   have hp:rX (dS P.sp) s=(s.mv.all (rW s.kind)&&Xq s):=by
    unfold rX
    rw[hA,ab4 hB];simp
   rw[hp]
   have lm:(s.mv.map ak).length=s.mv.length:=abH ..
   refine⟨Nat,fun k=>⟨9,[(0,.ptr 0 0),(3,.ptr 7 0),(5,.ptr 8 0),(53,.dv (.sl 5 (s.mv.map ak))),(54,.dv (I (s.mv.map ak).length)),(55,.dv (I k))],kJ P++[(7,.cells (fc (aP s).cells)),(8,.cells (fc (Wl s.kind).cells))]⟩,fun k=>k<=s.mv.length/\∀m∈s.mv.take k,rW s.kind m=true,fun k=>s.mv.length-k,0,fun _=>rfl,jn rfl rfl rfl rfl,⟨abW _,by simp⟩,?_⟩
   rintro k ⟨hk,bq⟩
   refine abG ?_ ?_
   ·intro h
    have au:k<s.mv.length:=by have:=abY h;omega
    obtain⟨m,hm⟩:∃m,s.mv[k]?=some m:=⟨_,aaj au⟩
    have pE:=abK hm
    have im:(s.mv.map ak)[(k:Int).toNat]?=some (ak m):=by rw[abJ];exact congrArg (Option.map ak) hm
    refine⟨ak m,fun _=>⟨by omega,im⟩,?_⟩
    refine .inr (cl [0,1,2,3,4,5,6] (mM P m s.kind (lP m pE)) (by kernel_rfl) rfl rfl ?_)
    refine abG ?_ ?_
    ·intro h
     have h:rW s.kind m=false:=by simpa using h
     rw[show s.mv.all (rW s.kind)=false from List.all_eq_false.2 ⟨m,pE,by rw[h];simp⟩]
     exact ext (by kernel_rfl) rfl rfl
    ·intro h
     have h:rW s.kind m=true:=by simpa using h
     exact⟨fun _=>⟨by omega,by omega⟩,k+1,jn rfl rfl rfl rfl,⟨by omega,fun q hq=>by
      rw[abR,hm]at hq
      rcases abQ.1 hq with hq|hq
      ·exact bq q hq
      ·simp at hq;subst hq;exact h⟩,mlt au⟩
   intro h
   have he:k=s.mv.length:=by have:=abZ h;omega
   subst he
   rw[abX]at bq
   rw[show s.mv.all (rW s.kind)=true from ab6.2 bq,Bool.true_and]
   refine .inr (cl [0,1,2,3,4,5,6] (SR P s hr hl (by omega)) (by kernel_rfl) rfl rfl ?_)
   exact ext (by kernel_rfl) rfl rfl
  ·have hA:rX (dS P.sp) s=false:=by
    have:yX s=false\/decide (0<=s.tick/\dS P.sp<=s.tick/\s.tick<=1099511627776/\1<=s.mv.length/\s.mv.length<=64)=false:=by
     unfold yX
     rw[ack,ack]
     omega
    unfold rX
    rcases this with h|h<;>rw[h]<;>simp
   rw[hA]
   refine cO Tryz.func79 rfl (by kernel_rfl) ?_
   repeat first|apply g1|apply g2|apply g3|apply g4|apply g5
   refine .inl ⟨_,fun _=>(BK s.kind hk).ok,?_⟩
   repeat first|apply g1|apply g2|apply g3|apply g4|apply g5
   refine .inl ⟨_,fun _=>(lA s.gE).ok,?_⟩
   repeat first|apply g1|apply g2|apply g3|apply g4|apply g5
   refine .inl ⟨by simp[bw];omega,[I 0],fun h=>absurd h (by simp[bw];omega),rfl,?_⟩
   repeat first|apply g1|apply g2|apply g3|apply g4|apply g5
   refine abG (by kernel_rfl) ?_
   refine abG (fun _=>ext (by kernel_rfl) rfl rfl) fun h=>absurd h ?_
   simp;omega
 ·have hA:rX (dS P.sp) s=false:=by
   have:yX s=false:=by
    unfold yX
    rw[ack]
    omega
   unfold rX
   rw[this];simp
  rw[hA]
  refine cO Tryz.func79 rfl (by kernel_rfl) ?_
  repeat first|apply g1|apply g2|apply g3|apply g4|apply g5
  refine .inl ⟨_,fun _=>(Iu s.kind hk).ok,?_⟩
  repeat first|apply g1|apply g2|apply g3|apply g4|apply g5
  refine .inl ⟨_,fun _=>(lA s.gE).ok,?_⟩
  repeat first|apply g1|apply g2|apply g3|apply g4|apply g5
  refine .inl ⟨by simp[bw],[I 0],fun h=>absurd h (by simp[bw]),rfl,?_⟩
  repeat first|apply g1|apply g2|apply g3|apply g4|apply g5
  refine abG (by kernel_rfl) ?_
  refine abG (fun _=>ext (by kernel_rfl) rfl rfl) fun h=>absurd h ?_
  simp
end
section
open Go.TM
theorem SS{i:Nat}{r:Pc}(h:dB[i]?=some r):r.of<=r.ch↔r.ch=r.of:=by
 have:∀r∈dB,r.ch<=r.of:=by
  intro r hr
  simp only[dB,abO,List.mem_nil_iff,or_false]at hr
  rcases hr with rfl|rfl|rfl|rfl|rfl<;>decide
 have:=this r (abK h)
 omega
theorem BL(l:List fa)(n j:Nat):(l.drop n).getD j m0=l.getD (n+j) m0:=by
 rw[abM,abM,List.getElem?_drop]
theorem PM{l:List fa}{i:Nat}(h:i<l.length):l.getD i m0∈l:=by
 rw[abM,aaj h];exact acf h
theorem Wn(mv:List fa)(tm:Int)(tk gv:List Ky)(hb:∀m∈mv,eG m=true)(hl:mv.length=tk.length+gv.length):((List.range tk.length).all (pH mv tm tk)&&(List.range gv.length).all (oG (mv.drop tk.length) tm gv))=(List.range mv.length).all (gF mv tm tk gv):=by
 have hB:∀i,i<mv.length->(mv.getD i m0).fr≠(mv.getD i m0).to/\0<=(mv.getD i m0).fr/\0<=(mv.getD i m0).to:=fun i hi=>by
  have:=abY (hb _ (PM hi))
  omega
 rw[ace,acj,ab6,ab6,ab6]
 have hT:∀k,pH mv tm tk k=true↔((mv.getD k m0).fr=(mv.getD 0 m0).fr/\(mv.getD k m0).to=0/\(mv.getD k m0).it=(tk.getD k (0,0)).1/\(mv.getD k m0).n=(tk.getD k (0,0)).2*tm):=fun k=>ach
 have hG:∀k,oG (mv.drop tk.length) tm gv k=true↔((mv.getD (tk.length+k) m0).fr=0/\(mv.getD (tk.length+k) m0).to=(mv.getD tk.length m0).to/\(mv.getD (tk.length+k) m0).it=(gv.getD k (0,0)).1/\(mv.getD (tk.length+k) m0).n=(gv.getD k (0,0)).2*tm):=fun k=>by
  unfold oG
  rw[ach,BL,BL,Nat.add_zero]
 have Xh:∀k,k<tk.length->(gF mv tm tk gv k=true↔((mv.getD k m0).fr=(mv.getD 0 m0).fr/\1<=(mv.getD k m0).fr/\(mv.getD k m0).to=0/\(mv.getD k m0).it=(tk.getD k (0,0)).1/\(mv.getD k m0).n=(tk.getD k (0,0)).2*tm)):=fun k h=>by
  unfold gF
  rw[if_pos h,ach]
 have Ra:∀k,gF mv tm tk gv (tk.length+k)=true↔((mv.getD (tk.length+k) m0).fr=0/\1<=(mv.getD (tk.length+k) m0).to/\(mv.getD (tk.length+k) m0).to=(mv.getD (mv.length-1) m0).to/\(mv.getD (tk.length+k) m0).it=(gv.getD k (0,0)).1/\(mv.getD (tk.length+k) m0).n=(gv.getD k (0,0)).2*tm):=fun k=>by
  unfold gF
  rw[if_neg (by omega),ach,Nat.add_sub_cancel_left]
 constructor
 ·rintro⟨h1,h2⟩ k hk
  have hk:=aca.1 hk
  rcases ab1 k tk.length with h|h
  ·have:=(hT k).1 (h1 k (aca.2 h))
   have hb:=hB k hk
   rw[Xh k h]
   refine⟨this.1,?_,this.2⟩
   omega
  ·obtain⟨j,rfl⟩:∃j,k=tk.length+j:=⟨k-tk.length,by omega⟩
   have a:=(hG j).1 (h2 j (aca.2 (by omega)))
   have b:=(hG (gv.length-1)).1 (h2 (gv.length-1) (aca.2 (by omega)))
   have hb:=hB _ hk
   rw[Ra]
   rw[show mv.length-1=tk.length+(gv.length-1)by omega]
   refine⟨a.1,by omega,?_,a.2.2⟩
   rw[a.2.1,b.2.1]
 ·intro h
  refine⟨fun k hk=>?_,fun j hj=>?_⟩
  ·have hk:=aca.1 hk
   have:=(Xh k hk).1 (h k (aca.2 (by omega)))
   rw[hT]
   exact⟨this.1,this.2.2⟩
  ·have hj:=aca.1 hj
   have a:=(Ra j).1 (h _ (aca.2 (by omega)))
   have b:=(Ra 0).1 (h _ (aca.2 (by omega)))
   rw[Nat.add_zero]at b
   rw[hG]
   refine⟨a.1,?_,a.2.2.2⟩
   rw[a.2.2.1,b.2.2.1]
theorem Wo(s:dW)(hb:∀m∈s.mv,eG m=true):tz s=oF s:=by
 unfold tz oF
 by_cases h1:s.aL=-1
 ·rw[if_pos,if_pos]
  ·unfold Pj;rw[h1];simp
  ·unfold Um;rw[h1];simp
 have e1:Um s.aL=Pj s.aL:=by unfold Um Pj;split<;>split<;>omega
 have e2:Wm s.aL=V1 s.aL:=by funext r;unfold Wm V1;split<;>split<;>first|rfl|omega
 rw[e1,e2]
 by_cases h2:Pj s.aL<0\/5<=Pj s.aL\/s.times<1\/1048576<s.times
 ·rw[if_pos h2,if_pos h2]
 rw[if_neg h2,if_neg h2]
 cases hr:dB[(Pj s.aL).toNat]? with
 |none=>rfl
 |some r=>
  have Zt:=SS hr
  dsimp only
  cases r.sp with
  |true=>simp
  |false=>
   simp only[cond_false,Bool.false_eq_true,false_or]
   by_cases h3:(s.aL<0/\r.ch=r.of)\/s.mv.length≠r.tk.length+(V1 s.aL r).length
   ·rw[if_pos h3,if_pos]
    rcases h3 with h3|h3
    ·exact .inl ⟨by omega,Zt.2 h3.2⟩
    ·exact .inr h3
   ·rw[if_neg h3,if_neg]
    ·exact Wn s.mv s.times r.tk _ hb (by omega)
    ·rintro(h4|h4)
     ·exact h3 (.inl ⟨by omega,Zt.1 h4.2⟩)
     ·exact h3 (.inr h4)
theorem PN{k:Int}(hk:0<=k/\k<=10)(h4:k≠4)(ML:k≠10){m:fa}(hb:eG m=true):(Dl k m.fr&&Dm k m.to)=kh k m:=by
 have hb:=abY hb
 rw[ace]
 rcases kinds hk with rfl|rfl|rfl|rfl|rfl|rfl|rfl|rfl|rfl|rfl|rfl<;>first|exact absurd rfl h4|exact absurd rfl ML|(simp[Dl,Dm,kh];omega)
theorem SU{l:List fa}{p q:fa->Bool}:l.all (fun m=>p m&&q m)=(l.all p&&l.all q):=by
 induction l with
 |nil=>rfl
 |cons a l ih=>simp only[List.all_cons,ih];cases p a<;>cases q a<;>cases l.all p<;>rfl
theorem pos_eq(now:Int)(s:dW)(h0:0<=now):rX now s=iM now s:=by
 unfold rX iM
 cases hr:yX s with
 |false=>rfl
 |true=>
 have hr:=abY hr
 have hd:decide (0<=s.tick/\now<=s.tick/\s.tick<=1099511627776/\1<=s.mv.length/\s.mv.length<=64)=decide (now<=s.tick/\s.tick<=1099511627776/\1<=s.mv.length/\s.mv.length<=64):=by
  rw[decide_eq_decide];omega
 rw[hd]
 generalize decide (now<=s.tick/\s.tick<=1099511627776/\1<=s.mv.length/\s.mv.length<=64)=d
 rw[show s.mv.all (rW s.kind)=(s.mv.all (fun m=>vX m (j9 s.kind))&&s.mv.all fun m=>Dl s.kind m.fr&&Dm s.kind m.to)from SU]
 cases hm:s.mv.all (fun m=>vX m (j9 s.kind))with
 |false=>cases d<;>rfl
 |true=>
 have hb:∀m∈s.mv,eG m=true:=fun m h=>by
  have:=ab6.1 hm m h
  unfold vX at this
  exact(acj _ _▸this).1
 have hw:((s.mv.all fun m=>Dl s.kind m.fr&&Dm s.kind m.to)&&Xq s)=(bif decide (s.kind=4)then oF s else bif decide (s.kind=10)then tg s else s.mv.all (kh s.kind)&&decide (s.aL=-1/\s.times=0)):=by
  unfold Xq
  by_cases h4:s.kind=4
  ·rw[ab4 h4,show(s.mv.all fun m=>Dl s.kind m.fr&&Dm s.kind m.to)=true from ab6.2 fun m _=>by rw[h4];rfl]
   exact Wo s hb
  rw[ab5 h4]
  by_cases ML:s.kind=10
  ·rw[ab4 ML,show(s.mv.all fun m=>Dl s.kind m.fr&&Dm s.kind m.to)=true from ab6.2 fun m _=>by rw[ML];rfl]
   rfl
  rw[ab5 ML]
  simp only[cond_false]
  congr 1
  ·rw[ace,ab6,ab6]
   exact forall_congr' fun m=>forall_congr' fun h=>by rw[PN ⟨hr.1,hr.2.1⟩ h4 ML (hb m h)]
  ·rw[ace];simp
 rw[<-hw]
 cases d<;>simp
end
section
open Go.TM
variable [bG]
theorem Md(P:PL)(s:dW)(hr:vU s.aL)(hn:P.sp.length<=1000000)(hl:s.mv.length<=1000)(lP:∀m∈s.mv,m.ps.length<=4000)(hp:rX (dS P.sp) s=false)(au:(P.sp.length:Int)<65536):ar Tryz.prog 49 [.ptr 0 0,cY (aP s)] 7 (kJ P) 0 [.dv .eL,.dv (I 1)] (kJ P):=by
 have lp:(P.sp.map aP).length=P.sp.length:=abH ..
 have lP:=mf P s hr hn hl lP
 rw[hp]at lP
 refine cO Tryz.func49 rfl (by kernel_rfl) ?_
 repeat first|apply g1|apply g2|apply g3|apply g4|apply g5
 refine abG (fun h2=>absurd (abY h2) (by omega)) fun _=>?_
 refine .inr (cl [0,1,2,3,4,5,6] lP (by kernel_rfl) rfl rfl ?_)
 exact abG (fun _=>ext (by kernel_rfl) rfl rfl) fun h=>(by cases h)
end
section
open Go.TM
structure Ch where
 sp:dW
 st:SM
 cb:IM Int
 imp:IM (List Lt)
 ret:IM (List Lt)
 fl:List qy
 sk:List Int
def aaT(P:PL):List AV:=.dv (I P.sh)::fc jc++[.own 8 0 0 [],.own 9 0 0 [],.own 10 0 0 [],.own 11 0 0 [],.own 12 0 0 [],.own 13 0 0 []]
def Zu(P:PL):ae:=[(7,.cells (aaT P)),(8,.tree 0 0 (.omap eX (qO P.st))),(9,.tree 0 0 (.omap cH (ou P.cb))),(10,.tree 0 0 (.aB 7 (P.sp.map aP))),(11,.tree 0 0 (.aB 11 (P.fl.map bB))),(12,.tree 0 0 (.omap cH (qA P.imp))),(13,.tree 0 0 (.omap cH (qA P.ret)))]
def chC(v u:Nat)(c:Ch):List AV:=.ptr 7 0::(fc (aP c.sp).cells++[.own 1 0 0 [],.own 2 0 0 [],.own 3 0 0 [],.own 4 0 0 [],.own 5 v 0 [],.own 6 u 0 []])
def fg(v u:Nat)(P:PL)(c:Ch):ae:=[(0,.cells (chC v u c)),(1,.tree 0 0 (.omap eX (qO c.st))),(2,.tree 0 0 (.omap cH (ou c.cb))),(3,.tree 0 0 (.omap cH (qA c.imp))),(4,.tree 0 0 (.omap cH (qA c.ret))),(5,.tree v 0 (.aB 11 (c.fl.map bB))),(6,.tree u 0 (.aB 1 (c.sk.map I)))]++Zu P
def fy(P:PL)(c:Ch)(k:Ky):List Lt:=(aR c.st k).getD (b5 P.st k)
theorem iP(l:List Lt):(aU l).aQ:=fun d hd=>by
 have hd:d∈[aU l]:=hd
 rw[abN]at hd;subst hd;rfl
theorem u9(n:Int):(I n).aQ:=fun d hd=>by
 have hd:d∈[I n]:=hd
 rw[abN]at hd;subst hd;rfl
theorem pI(m:SM)(k:Ky):∀x,bY (qO m) (se k)=some x->x.aQ:=by
 intro x hx
 rw[show bY (qO m) (se k)=_ from iL (ev:=fun l:List Lt=>aU l) iO m k]at hx
 cases hq:aR m k with
 |none=>rw[hq]at hx;cases hx
 |some y=>rw[hq]at hx;injection hx with hx;subst hx;exact iP y
theorem nW(m:IM Int)(k:Int):∀x,bY (ou m) (eI k)=some x->x.aQ:=by
 intro x hx
 rw[show bY (ou m) (eI k)=_ from iL (ev:=eI) jO m k]at hx
 cases hq:aR m k with
 |none=>rw[hq]at hx;cases hx
 |some y=>rw[hq]at hx;injection hx with hx;subst hx;exact u9 y
theorem PO(m:IM (List Lt))(k:Int):∀x,bY (qA m) (eI k)=some x->x.aQ:=by
 intro x hx
 rw[show bY (qA m) (eI k)=_ from iL (ev:=fun l:List Lt=>aU l) jO m k]at hx
 cases hq:aR m k with
 |none=>rw[hq]at hx;cases hx
 |some y=>rw[hq]at hx;injection hx with hx;subst hx;exact iP y
variable [bG]
theorem jP(P:PL)(c:Ch)(a i:Int):ar Tryz.prog 149 [.ptr 0 0,.dv (I a),.dv (I i)] 14 (fg 0 0 P c) 0 [.dv (aU (fy P c (a,i)))] (fg 0 0 P c):=by
 have hg:=iL (ev:=fun l:List Lt=>aU l) iO c.st (a,i)
 have hh:=iL (ev:=fun l:List Lt=>aU l) iO P.st (a,i)
 refine cO Tryz.func149 rfl (by kernel_rfl) ?_
 refine⟨mT,se (a,i),rfl,rfl,?_⟩
 unfold fy
 cases h:aR c.st (a,i)with
 |some l=>
  rw[h]at hg
  refine⟨aU l,true,fun _=>hg,fun h=>(by cases h),rfl,?_⟩
  refine abG (by kernel_rfl) ?_
  refine abG (fun _=>?_) fun h=>(by cases h)
  exact ext (by kernel_rfl) rfl rfl
 |none=>
  rw[h]at hg
  refine⟨.az,false,fun _=>hg,fun _=>rfl,rfl,?_⟩
  refine abG (by kernel_rfl) ?_
  refine abG (fun h=>(by cases h)) fun _=>?_
  refine⟨mT,se (a,i),rfl,rfl,?_⟩
  unfold b5
  cases h:aR P.st (a,i)with
  |some l=>
   rw[h]at hh
   refine⟨aU l,true,fun _=>hh,fun h=>(by cases h),rfl,?_⟩
   exact⟨by kernel_rfl,ext (by kernel_rfl) rfl rfl⟩
  |none=>
   rw[h]at hh
   refine⟨.az,false,fun _=>hh,fun _=>rfl,rfl,?_⟩
   refine abG (by kernel_rfl) ?_
   exact⟨_,_,⟨rfl,rfl⟩,by kernel_rfl,⟨DV.aK 3,tv⟩,bp (k:=fg 0 0 P c) rfl⟩
def unK(a b:IM (List Lt)):ae:=[(0,.tree 0 0 (.omap cH (qA a))),(1,.tree 0 0 (.omap cH (qA b)))]
def Re(a b:IM (List Lt))(f:Int):Option (List Lt):=(aR a f).or (aR b f)
def unD:Option (List Lt)->DV
 |some l=>aU l
 |none=>.az
theorem Iv(m b:IM (List Lt))(f:Int):ar Tryz.prog 190 [.own 0 0 0 [],.own 1 0 0 [],.dv (I f)] 2 (unK m b) 0 [.dv (unD (Re m b f))] (unK m b):=by
 have hg:=iL (ev:=fun l:List Lt=>aU l) jO m f
 have hh:=iL (ev:=fun l:List Lt=>aU l) jO b f
 refine cO Tryz.func190 rfl (by kernel_rfl) ?_
 refine⟨kr,eI f,rfl,rfl,?_⟩
 unfold Re
 cases h:aR m f with
 |some l=>
  rw[h]at hg
  refine⟨aU l,true,fun _=>hg,fun h=>(by cases h),rfl,?_⟩
  refine abG (fun _=>?_) fun h=>(by cases h)
  exact ext (by kernel_rfl) rfl rfl
 |none=>
  rw[h]at hg
  refine⟨.az,false,fun _=>hg,fun _=>rfl,rfl,?_⟩
  refine abG (fun h=>(by cases h)) fun _=>?_
  refine⟨kr,eI f,rfl,rfl,?_⟩
  cases h:aR b f with
  |some l=>
   rw[h]at hh
   refine⟨aU l,true,fun _=>hh,fun h=>(by cases h),rfl,?_⟩
   exact ext (by kernel_rfl) rfl rfl
  |none=>
   rw[h]at hh
   refine⟨.az,false,fun _=>hh,fun _=>rfl,rfl,?_⟩
   exact ext (by kernel_rfl) rfl rfl
end
section
open Go.TM
theorem Kl{it:Int}(h:0<=it/\it<5):∃s o c w b z,(CV (I 2) (I 20))[it.toNat]?=some (.agg [.str s,B o,B (wK it),B c,I w,I b,I z]):=by
 have:it=0\/it=1\/it=2\/it=3\/it=4:=by omega
 rcases this with rfl|rfl|rfl|rfl|rfl<;>exact⟨_,_,_,_,_,_,rfl⟩
variable [bG]
theorem PQ(hS:nU)(P:PL)(c:Ch)(m:fa)(hp:m.ps=[])(hi:0<=m.it/\m.it<5)(hm:0<=m.n/\m.n<=1099511627776)(hv:cg (fy P c (m.fr,m.it))=true)(hc:decide (b9 (fy P c (m.fr,m.it))<m.n)=true):ar Tryz.prog 171 [.ptr 0 0,cY (ak m)] 14 (fg 0 0 P c) 0 [.dv (aU []),.dv (I 10)] (fg 0 0 P c):=by
 have ht:=fun x=>(zf hS (fy P c (m.fr,m.it)) m.n x hm hv).ok
 unfold Fu at ht
 rw[hc]at ht
 obtain⟨z1,z2,z3,z4,z5,z6,hx⟩:=Kl hi
 have lp:(m.ps.map aC).length=0:=by rw[hp];rfl
 refine cO Tryz.func171 rfl (by kernel_rfl) ?_
 repeat first|apply g1|apply g2|apply g3|apply g4|apply g5
 refine .inr (cl [0,1,2,3,4,5,6,7,8,9,10,11,12,13] (jP P c m.fr _) (by kernel_rfl) rfl rfl ?_)
 repeat first|apply g1|apply g2|apply g3|apply g4|apply g5
 refine abG (fun _=>?_) fun h=>(by rw[lp]at h;cases h)
 refine⟨_,fun _=>⟨hi.1,hx⟩,?_⟩
 refine .inl ⟨_,fun _=>ht _,?_⟩
 refine abG (by kernel_rfl) ?_
 refine abG (fun _=>?_) fun h=>(by cases h)
 exact⟨_,_,⟨rfl,rfl⟩,by kernel_rfl,⟨DV.aK 3,rf,tv⟩,bp (k:=fg 0 0 P c) rfl⟩
theorem PR(hS:nU)(P:PL)(c:Ch)(m:fa)(hp:m.ps=[])(hi:0<=m.it/\m.it<5)(hm:0<=m.n/\m.n<=1099511627776)(hv:cg (fy P c (m.fr,m.it))=true)(hc:decide (b9 (fy P c (m.fr,m.it))<m.n)=false):ar Tryz.prog 171 [.ptr 0 0,cY (ak m)] 14 (fg 0 0 P c) 0 [.dv (aU (fW (fy P c (m.fr,m.it)) m.n (wK m.it)).1),.dv (I 0)] (fg 0 0 P { c with st:=aS c.st (m.fr,m.it) (fW (fy P c (m.fr,m.it)) m.n (wK m.it)).2 }):=by
 have ht:=fun x=>(zf hS (fy P c (m.fr,m.it)) m.n x hm hv).ok
 unfold Fu at ht
 rw[hc]at ht
 obtain⟨z1,z2,z3,z4,z5,z6,hx⟩:=Kl hi
 have lp:(m.ps.map aC).length=0:=by rw[hp];rfl
 refine cO Tryz.func171 rfl (by kernel_rfl) ?_
 repeat first|apply g1|apply g2|apply g3|apply g4|apply g5
 refine .inr (cl [0,1,2,3,4,5,6,7,8,9,10,11,12,13] (jP P c m.fr _) (by kernel_rfl) rfl rfl ?_)
 repeat first|apply g1|apply g2|apply g3|apply g4|apply g5
 refine abG (fun _=>?_) fun h=>(by rw[lp]at h;cases h)
 refine⟨_,fun _=>⟨hi.1,hx⟩,?_⟩
 refine .inl ⟨_,fun _=>ht _,?_⟩
 refine abG (by kernel_rfl) ?_
 refine abG (fun h=>(by cases h)) fun _=>?_
 refine⟨mT,se (m.fr,m.it),rfl,rfl,?_⟩
 refine⟨aU (fW (fy P c (m.fr,m.it)) m.n (wK m.it)).2,⟨rf,tv⟩,rfl,false,fun _=>⟨pI c.st _,iP _⟩,?_⟩
 rw[show c7 (qO c.st) (se (m.fr,m.it)) (aU (fW (fy P c (m.fr,m.it)) m.n (wK m.it)).2)=qO (aS c.st (m.fr,m.it) (fW (fy P c (m.fr,m.it)) m.n (wK m.it)).2)from dE iO c.st _ _]
 exact⟨by kernel_rfl,ext (by kernel_rfl) rfl rfl⟩
end
section
open Go.Proofs Go.Sort Go.RowKit
theorem F0(w:World):Calls Tryz.prog 192 #[.slice none 0 0] w fun e w'=>e=.returned (.slice none 0 0)/\w'=w:=by
 go_enter Tryz.func192,Tryz.ntmps192
 go_wp2
 go_ret
 exact⟨by simp,rfl⟩
theorem Iw(a:Addr)(l c:Nat)(h:l<=c)(w:World):Calls Tryz.prog 192 #[.slice (some a) l c] w fun e w'=>e=.returned (.slice (some a) l l)/\w'=w:=by
 go_enter Tryz.func192,Tryz.ntmps192
 go_wp2
 go_ret
 exact⟨by simp,rfl⟩
open Go.TM
variable [bG]
theorem PT:fQ Tryz.prog 192:=⟨_,Tryz.func192,by kernel_rfl,by kernel_rfl⟩
theorem SV{a:DV}(h:∀(M:Mem) v,bu M a v->v=.slice none 0 0\/∃p l c,l<=c/\v=.slice (some p) l c/\bu M a (.slice (some p) l l)):aI Tryz.prog 192 [a] [a]:=by
 refine⟨PT,fun w M vs dX hg hr=>?_⟩
 match vs,hr with
 |[v],hr=>
  have hv:bu M a v:=hr.2 0 a v rfl rfl
  rcases h M v hv with rfl|⟨p,l,c,h1,rfl,h3⟩
  ·refine(F0 w).mono ?_
   rintro e w' ⟨rfl,rfl⟩
   exact⟨_,M,rfl,Below.refl _ _,Mem.Le.refl _,dX,fun _ _=>rfl,hv⟩
  ·refine(Iw p l c h1 w).mono ?_
   rintro e w' ⟨rfl,rfl⟩
   exact⟨_,M,rfl,Below.refl _ _,Mem.Le.refl _,dX,fun _ _=>rfl,h3⟩
theorem Ix:aI Tryz.prog 192 [.az] [.az]:=SV fun M v hv=>by
 generalize hx:DV.az=x at hv
 cases hv with
 |az=>exact .inl rfl
 |_=>cases hx
end
section
open Go.TM
def Me(P:PL)(c:Ch)(x:Lt):Int:=bif (bif x.f.tdiv 4294967296==P.sh then true else decide (12<=x.f.tdiv 4294967296))then 1 else match Re c.imp P.imp x.f with
 |some _=>8
 |none=>0
def PU(P:PL)(c:Ch)(x:Lt):Ch:=if Me P c x=0 then { c with imp:=aS c.imp x.f (iW [x]) }else c
theorem SX(x:Lt):(Al [x] []).1=[]:=by
 simp only[Al,oE,List.dropWhile_nil,DX,List.flatMap_cons,List.flatMap_nil,List.append_nil]
 split<;>rfl
variable [bG]
theorem Iy(P:PL)(c:Ch)(m:fa)(x:Lt)(hp:m.ps=[x])(hx:aO x=true)(hf:x.f<=9223372036854775807)(hq:∀l,Re c.imp P.imp x.f=some l->NS l/\(∀y∈l,aO y=true)/\l.length<=5000/\(Al [x] l).1≠[]):ar Tryz.prog 172 [.ptr 0 0,cY (ak m)] 14 (fg 0 0 P c) 0 [.dv (I (Me P c x))] (fg 0 0 P (PU P c x)):=by
 have lp:(m.ps.map aC).length=1:=by rw[hp];rfl
 have ix:(m.ps.map aC)[(0:Int).toNat]?=some (aC x):=by rw[hp];rfl
 refine cO Tryz.func172 rfl (by kernel_rfl) ?_
 repeat first|apply g1|apply g2|apply g3|apply g4|apply g5
 refine⟨Nat,fun i=>⟨15,[(0,.ptr 0 0),(12,.dv (.sl 3 (m.ps.map aC))),(13,.dv (I (m.ps.map aC).length)),(14,.dv (I i))],fg 0 0 P (match i with|0=>c|_=>PU P c x)⟩,fun i=>i<=1/\(i=1->Me P c x=0),fun i=>1-i,0,fun _=>rfl,jn rfl rfl rfl rfl,⟨by omega,by omega⟩,?_⟩
 rintro i ⟨hi,hz⟩
 refine abG ?_ ?_
 ·intro h
  have h0:i=0:=by have:=abY h;omega
  subst h0
  have hb:=ax.1 hx
  have iZ:=Int.tdiv_nonneg hb.1 (show(0:Int)<=4294967296 by decide)
  have ca:x.f.tdiv 4294967296<=x.f:=Int.tdiv_le_self _ hb.1
  refine⟨aC x,fun _=>⟨by omega,ix⟩,?_⟩
  refine⟨fun _ h=>(by cases h),fun _=>⟨by omega,by omega⟩,?_⟩
  repeat first|apply g1|apply g2|apply g3|apply g4|apply g5
  refine abG ?_ ?_
  ·intro h
   have he:Me P c x=1:=by unfold Me;rw[h];rfl
   have hc:PU P c x=c:=by unfold PU;rw[he];rfl
   rw[he,hc]
   exact ext (by kernel_rfl) rfl rfl
  intro h
  refine .inr (cl [3,12] (Iv c.imp P.imp x.f) (by kernel_rfl) rfl rfl ?_)
  cases hu:Re c.imp P.imp x.f with
  |some l=>
   obtain⟨q1,q2,q3,q4⟩:=hq l hu
   have he:Me P c x=8:=by unfold Me;rw[h,hu];rfl
   have hc:PU P c x=c:=by unfold PU;rw[he];rfl
   rw[he,hc]
   refine abG (by kernel_rfl) ?_
   refine .inl ⟨[aC x],rfl,⟨rf,rf,rf,tv⟩,(by simp;rfl),?_⟩
   refine .inl ⟨_,fun _=>(wc [x] l (by simpa using hx) q1 q2 (by simp) q3 (by simp;omega)).ok,?_⟩
   repeat first|apply g1|apply g2|apply g3|apply g4|apply g5
   refine abG (fun _=>ext (by kernel_rfl) rfl rfl) fun h=>?_
   have h:¬(0:Int)<((Al [x] l).1.map aC).length:=abZ h
   rw[abH]at h
   have:=List.length_pos_iff.2 q4
   omega
  |none=>
   have he:Me P c x=0:=by unfold Me;rw[h,hu];rfl
   have hc:PU P c x={ c with imp:=aS c.imp x.f (iW [x]) }:=by unfold PU;rw[he];rfl
   rw[he,hc]
   refine abG (by kernel_rfl) ?_
   refine .inl ⟨[aC x],rfl,⟨rf,rf,rf,tv⟩,(by simp;rfl),?_⟩
   have hd:=wc [x] [] (by simpa using hx) NS.nil (by simp) (by simp) (by simp) (by simp)
   rw[SX]at hd
   refine .inl ⟨_,fun _=>⟨[aU [x],aU []],⟨rf,DV.aK 3,tv⟩,hd⟩,?_⟩
   repeat first|apply g1|apply g2|apply g3|apply g4|apply g5
   refine abG (fun h=>(by cases h)) fun _=>?_
   refine .inl ⟨_,fun _=>Ix.ok,?_⟩
   refine .inl ⟨[aC x],rfl,⟨rf,rf,rf,tv⟩,(by simp;rfl),?_⟩
   refine .inr ⟨[aC x],cd.refl _,Nat.le_of_ble_eq_true rfl,Nat.le_of_ble_eq_true rfl,?_⟩
   refine .inl (.inr ⟨_,fun _=>⟨[aU [x]],⟨rf,tv⟩,FM [x] (by simpa using hx) (by simp)⟩,?_⟩)
   refine⟨kr,eI x.f,rfl,rfl,aU (iW [x]),⟨rf,tv⟩,rfl,false,fun _=>⟨PO c.imp _,iP _⟩,?_⟩
   rw[show c7 (qA c.imp) (eI x.f) (aU (iW [x]))=qA (aS c.imp x.f (iW [x]))from dE jO c.imp _ _]
   refine abG (by kernel_rfl) ?_
   exact⟨fun _=>⟨by omega,by omega⟩,1,jn rfl rfl rfl rfl,⟨by omega,fun _=>rfl⟩,mlt (by omega)⟩
 ·intro h
  have h1:i=1:=by have:=abZ h;omega
  subst h1
  rw[hz rfl]
  exact ext (by kernel_rfl) rfl rfl
end
section
open Go.TM
variable [bG]
theorem Iz(P:PL)(c:Ch)(m:fa)(x:Lt)(hp:m.ps=[x])(hx:aO x=true)(hf:x.f<=9223372036854775807)(hs:0<=P.sh/\P.sh<=12)(hq:x.f-P.sh*4294967296<0\/(P.fl.length:Int)<=x.f-P.sh*4294967296):ar Tryz.prog 173 [.ptr 0 0,cY (ak m)] 14 (fg 0 0 P c) 0 [.dv (I 10)] (fg 0 0 P c):=by
 have lp:(m.ps.map aC).length=1:=by rw[hp];rfl
 have ix:(m.ps.map aC)[(0:Int).toNat]?=some (aC x):=by rw[hp];rfl
 have lf:(P.fl.map bB).length=P.fl.length:=abH ..
 have hb:=ax.1 hx
 refine cO Tryz.func173 rfl (by kernel_rfl) ?_
 repeat first|apply g1|apply g2|apply g3|apply g4|apply g5
 refine⟨Nat,fun i=>⟨15,[(0,.ptr 0 0),(13,.dv (.sl 3 (m.ps.map aC))),(14,.dv (I (m.ps.map aC).length)),(15,.dv (I i))],fg 0 0 P c⟩,fun i=>i=0,fun i=>1-i,0,fun _=>rfl,jn rfl rfl rfl rfl,rfl,?_⟩
 rintro i hi
 subst hi
 refine abG ?_ ?_
 ·intro h
  refine⟨aC x,fun _=>⟨by omega,ix⟩,?_⟩
  repeat first|apply g1|apply g2|apply g3|apply g4|apply g5|refine⟨fun _=>⟨by omega,by omega⟩,?_⟩
  refine abG (by kernel_rfl) ?_
  repeat first|apply g1|apply g2|apply g3|apply g4|apply g5
  refine abG (fun _=>ext (by kernel_rfl) rfl rfl) fun h=>?_
  rw[lf]at h
  simp at h
  omega
 ·intro h
  have:=abZ h
  omega
end
section
open Go.TM
variable [bG]
theorem zh(P:PL)(c c':Ch)(m:fa)(l:List Lt)(e:Int)(hf:m.fr≠0)(hw:ar Tryz.prog 171 [.ptr 0 0,cY (ak m)] 14 (fg 0 0 P c) 0 [.dv (aU l),.dv (I e)] (fg 0 0 P c')):ar Tryz.prog 147 [.ptr 0 0,cY (ak m)] 14 (fg 0 0 P c) 0 [.dv (aU l),.dv (I e)] (fg 0 0 P c'):=by
 refine cO Tryz.func147 rfl (by kernel_rfl) ?_
 repeat first|apply g1|apply g2|apply g3|apply g4|apply g5
 refine abG (fun _=>?_) fun h=>absurd (by simpa using h) hf
 refine .inr (cl [0,1,2,3,4,5,6,7,8,9,10,11,12,13] hw (by kernel_rfl) rfl rfl ?_)
 exact ext (by kernel_rfl) rfl rfl
theorem IA(P:PL)(c:Ch)(m:fa)(hf:m.fr=0)(h5:c.sp.kind≠5)(h9:c.sp.kind≠9):ar Tryz.prog 147 [.ptr 0 0,cY (ak m)] 14 (fg 0 0 P c) 0 [.dv (aU []),.dv (I 0)] (fg 0 0 P c):=by
 refine cO Tryz.func147 rfl (by kernel_rfl) ?_
 repeat first|apply g1|apply g2|apply g3|apply g4|apply g5
 refine abG (fun h=>absurd hf (by simpa using h)) fun _=>?_
 refine abG (fun h=>absurd (beq_iff_eq.1 h) h5) fun _=>?_
 refine abG (fun h=>absurd (beq_iff_eq.1 h) h9) fun _=>?_
 exact⟨_,_,⟨rfl,rfl⟩,by kernel_rfl,⟨DV.aK 3,rf,tv⟩,bp (k:=fg 0 0 P c) rfl⟩
theorem IB(P:PL)(c:Ch)(m:fa)(x:Lt)(hf:m.fr=0)(h5:c.sp.kind=5)(hp:m.ps=[x])(hx:aO x=true)(hm:x.f<=9223372036854775807)(hq:∀l,Re c.imp P.imp x.f=some l->NS l/\(∀y∈l,aO y=true)/\l.length<=5000/\(Al [x] l).1≠[]):ar Tryz.prog 147 [.ptr 0 0,cY (ak m)] 14 (fg 0 0 P c) 0 [.dv (aU [x]),.dv (I (Me P c x))] (fg 0 0 P (PU P c x)):=by
 refine cO Tryz.func147 rfl (by kernel_rfl) ?_
 repeat first|apply g1|apply g2|apply g3|apply g4|apply g5
 refine abG (fun h=>absurd hf (by simpa using h)) fun _=>?_
 refine abG (fun _=>?_) fun h=>absurd h5 (beq_eq_false_iff_ne.1 h)
 refine .inr (cl [] (fX m.ps (by rw[hp];simp)) (by kernel_rfl) rfl rfl ?_)
 refine .inr (cl [0,1,2,3,4,5,6,7,8,9,10,11,12,13] (Iy P c m x hp hx hm hq) (by kernel_rfl) rfl rfl ?_)
 refine abG (by kernel_rfl) ?_
 rw[hp]
 exact⟨_,_,⟨rfl,rfl⟩,by kernel_rfl,⟨tr _,rf,tv⟩,bp (k:=fg 0 0 P (PU P c x)) rfl⟩
theorem IC(P:PL)(c:Ch)(m:fa)(x:Lt)(hf:m.fr=0)(h9:c.sp.kind=9)(hp:m.ps=[x])(hx:aO x=true)(hm:x.f<=9223372036854775807)(hs:0<=P.sh/\P.sh<=12)(hq:x.f-P.sh*4294967296<0\/(P.fl.length:Int)<=x.f-P.sh*4294967296):ar Tryz.prog 147 [.ptr 0 0,cY (ak m)] 14 (fg 0 0 P c) 0 [.dv (aU [x]),.dv (I 10)] (fg 0 0 P c):=by
 refine cO Tryz.func147 rfl (by kernel_rfl) ?_
 repeat first|apply g1|apply g2|apply g3|apply g4|apply g5
 refine abG (fun h=>absurd hf (by simpa using h)) fun _=>?_
 refine abG (fun h=>absurd (h9.symm.trans (beq_iff_eq.1 h)) (by decide)) fun _=>?_
 refine abG (fun _=>?_) fun h=>absurd h9 (beq_eq_false_iff_ne.1 h)
 refine .inr (cl [] (fX m.ps (by rw[hp];simp)) (by kernel_rfl) rfl rfl ?_)
 refine .inr (cl [0,1,2,3,4,5,6,7,8,9,10,11,12,13] (Iz P c m x hp hx hm hs hq) (by kernel_rfl) rfl rfl ?_)
 refine abG (by kernel_rfl) ?_
 rw[hp]
 exact⟨_,_,⟨rfl,rfl⟩,by kernel_rfl,⟨tr _,rf,tv⟩,bp (k:=fg 0 0 P c) rfl⟩
end
section
open Go.TM
def eH(P:PL)(c:Ch)(m:fa):Int:=(aR c.cb m.it).getD (FN P.cb m.it)
def dL(P:PL)(c:Ch)(m:fa)(l:List Lt)(md:List Int):qy:=⟨P.sh*4294967296+P.fl.length+c.fl.length,c.sp.id,c.sp.kind,c.sp.tick,c.sp.gE,m.fr,m.to,m.it,m.n,l,md⟩
def Au(P:PL)(c:Ch)(m:fa)(t:Int)(l:List Lt)(md:List Int):Ch:={ c with cb:=aS c.cb m.it t,fl:=c.fl++[dL P c m l md] }
def chL(v u:Nat)(P:PL)(c:Ch)(F S:List DV):ae:=[(0,.cells (chC v u c)),(1,.tree 0 0 (.omap eX (qO c.st))),(2,.tree 0 0 (.omap cH (ou c.cb))),(3,.tree 0 0 (.omap cH (qA c.imp))),(4,.tree 0 0 (.omap cH (qA c.ret))),(5,.tree v 0 (.aB 11 F)),(6,.tree u 0 (.aB 1 S))]++Zu P
theorem SY(v u:Nat)(P:PL)(c:Ch)(f:List qy)(x:qy)(g:List Int)(y:Int):fg v u P { c with fl:=f++[x],sk:=g++[y] }=chL v u P { c with fl:=f++[x],sk:=g++[y] } (f.map bB++[bB x]) (g.map I++[I y]):=by
 unfold fg chL;simp only[ab0,List.map_cons,List.map_nil]
theorem qj(v u:Nat)(P:PL)(c:Ch)(f:List qy)(x:qy):fg v u P { c with fl:=f++[x] }=chL v u P { c with fl:=f++[x] } (f.map bB++[bB x]) (c.sk.map I):=by
 unfold fg chL;simp only[ab0,List.map_cons,List.map_nil]
theorem qP(m:IM Int)(k:Int):bY (ou m) (eI k)=bif (aR m k).isSome then some (I ((aR m k).getD 0))else none:=by
 rw[show bY (ou m) (eI k)=_ from iL (ev:=eI) jO m k]
 cases aR m k<;>rfl
theorem qQ(m:IM Int)(k:Int)(h:(aR m k).isSome=false):I ((aR m k).getD 0)=I 0:=by
 cases hq:aR m k with
 |none=>rfl
 |some b=>rw[hq]at h;cases h
theorem F1{P:PL}{c:Ch}{m:fa}(h:(aR c.cb m.it).isSome=true):(aR c.cb m.it).getD 0=eH P c m:=by
 unfold eH
 cases hq:aR c.cb m.it with
 |none=>rw[hq]at h;cases h
 |some b=>rfl
theorem F2{P:PL}{c:Ch}{m:fa}(h:(aR c.cb m.it).isSome=false):FN P.cb m.it=eH P c m:=by
 unfold eH
 cases hq:aR c.cb m.it with
 |none=>rfl
 |some b=>rw[hq]at h;cases h
variable [bG]
theorem zk(P:PL)(c c':Ch)(m:fa)(l:List Lt)(e:Int)(he:e≠0)(ht:ar Tryz.prog 147 [.ptr 0 0,cY (ak m)] 14 (fg 0 0 P c) 0 [.dv (aU l),.dv (I e)] (fg 0 0 P c')):
 ar Tryz.prog 81 [.ptr 0 0,cY (ak m)] 14 (fg 1 1 P c) 0 [.dv (I e)] (fg 1 1 P c'):=by
 refine cO Tryz.func81 rfl (by kernel_rfl) ?_
 repeat first|apply g1|apply g2|apply g3|apply g4|apply g5
 refine .inr (cl [0,1,2,3,4,5,6,7,8,9,10,11,12,13] ht (by kernel_rfl) rfl rfl ?_)
 repeat first|apply g1|apply g2|apply g3|apply g4|apply g5
 refine abG (fun _=>ext (by kernel_rfl) rfl rfl) fun h=>absurd (by simpa using h) he
end
end Go.Proofs.YtknnpcfhekkjjaaGreatDoor
