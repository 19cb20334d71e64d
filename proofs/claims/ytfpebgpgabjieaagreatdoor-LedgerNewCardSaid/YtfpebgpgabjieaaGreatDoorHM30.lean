import Derived.Test.YtfpebgpgabjieaaGreatDoorHM29
import Derived.Test.YtfpebgpgabjieaaGreatDoorHM25
import Derived.Test.YtfpebgpgabjieaaGreatDoorHM23
import Derived.Test.YtfpebgpgabjieaaGreatDoorHM18
import Derived.Test.YtfpebgpgabjieaaGreatDoorHM21
import Derived.Test.YtfpebgpgabjieaaGreatDoorHM26
set_option linter.all false
open Go.TM.oA Go.TM.oB Go.TM.oC Go.TM.oD Go.TM.oE
namespace Go.Proofs.YtfpebgpgabjieaaGreatDoor
set_option maxRecDepth 100000
set_option maxHeartbeats 4000000
section
open Go.TM
def Wk(r:Int):Int:=if r< -1 then -2-r else r
def Yc(r:Int)(x:XU):List Ky:=if r< -1 then x.bk else x.gv
def pU(mv:List eS)(tm:Int)(tk:List Ky)(k:Nat):Bool:=decide ((mv.getD k m0).fr=(mv.getD 0 m0).fr/\(mv.getD k m0).to=0/\(mv.getD k m0).it=(tk.getD k (0,0)).1/\(mv.getD k m0).n=(tk.getD k (0,0)).2*tm)
def oP(mv:List eS)(tm:Int)(gv:List Ky)(k:Nat):Bool:=decide ((mv.getD k m0).fr=0/\(mv.getD k m0).to=(mv.getD 0 m0).to/\(mv.getD k m0).it=(gv.getD k (0,0)).1/\(mv.getD k m0).n=(gv.getD k (0,0)).2*tm)
def tD(s:dI):Bool:=
 if Wk s.aX<0\/5<=Wk s.aX\/s.times<1\/1048576<s.times then false else match gh[(Wk s.aX).toNat]? with
  |some r=>if r.sp=true\/(s.aX< -1/\r.of<=r.ch)\/s.mv.length≠r.tk.length+(Yc s.aX r).length then false else(List.range r.tk.length).all (pU s.mv s.times r.tk)&&(List.range (Yc s.aX r).length).all (oP (s.mv.drop r.tk.length) s.times (Yc s.aX r))
  |none=>false
theorem kH{n k:Nat}{p:Nat->Bool}(h:k<n)(hp:p k=false):(List.range n).all p=false:=List.all_eq_false.2 ⟨k,adL.2 h,by rw[hp];simp⟩
variable [aW]
theorem Dd(P:PL)(s:dI)(hr:LM s.aX)(hl:s.mv.length<=1000)(h1:1<=s.mv.length):aw Tryz.prog 212 [.ptr 0 0,cP (aZ s)] 7 (mw P) 0 [.dv (B (tD s))] (mw P):=by
 refine cO Tryz.func212 rfl (by kernel_rfl) ?_
 have SN:-9223372036854775808<=s.aX/\s.aX<=9223372036854775807:=hr
 have Ux:(gh.map kl).length=5:=rfl
 have acg:gh.length=5:=rfl
 repeat refine gG ?_
 refine adh (by kernel_rfl) ?_
 refine adh ?_ ?_
 ·intro lA
  have lA:=adz lA
  refine⟨fun _=>by omega,?_⟩
  have hI:Wk s.aX=(-2-s.aX):=if_pos lA
  have hG:∀r,Yc s.aX r=r.bk:=fun r=>if_pos lA
  repeat refine gG ?_
  refine .inl ⟨_,fun _=>(nV s.times).ok,?_⟩
  repeat refine gG ?_
  refine adh ?_ ?_
  ·intro h
   have hc:tD s=false:=by
    rw[Ux]at h
    simp at h
    unfold tD
    rw[hI,if_pos (by omega)]
   rw[hc]
   exact ext (by kernel_rfl) rfl rfl
  intro h
  have dz:(0<=(-2-s.aX)/\(-2-s.aX)<5)/\1<=s.times/\s.times<=1048576:=by
   rw[Ux]at h
   simp at h
   omega
  obtain⟨r,vl⟩:∃r,gh[((-2-s.aX)).toNat]?=some r:=⟨_,abK (show((-2-s.aX)).toNat<gh.length by omega)⟩
  have P9:(gh.map kl)[((-2-s.aX)).toNat]?=some (kl r):=by rw[adk,vl];rfl
  obtain⟨tl1,tl2,tl3⟩:=CV vl
  have jV:tD s=if r.sp=true\/(s.aX< -1/\r.of<=r.ch)\/s.mv.length≠r.tk.length+(r.bk).length then false else(List.range r.tk.length).all (pU s.mv s.times r.tk)&&(List.range (r.bk).length).all (oP (s.mv.drop r.tk.length) s.times (r.bk)):=by
   unfold tD
   rw[hI,if_neg (by omega),vl]
   simp only[hG]
  have lm:(s.mv.map ay).length=s.mv.length:=adi ..
  have la:(r.tk.map ja).length=r.tk.length:=adi ..
  have lb:((r.bk).map ja).length=(r.bk).length:=adi ..
  refine⟨kl r,fun _=>⟨by omega,P9⟩,?_⟩
  repeat refine gG ?_
  refine adh (fun _=>?_) fun h=>absurd lA (adA h)
  repeat first|refine gG ?_|refine⟨fun _=>by omega,?_⟩|refine⟨fun _=>⟨by rw[adi,adi];omega,by rw[adi,adi];omega⟩,?_⟩
  refine adh ?_ ?_
  ·intro h
   have hc:tD s=false:=by
    rw[lm,la,lb]at h
    rw[jV,if_pos]
    cases ns:r.sp
    ·rw[ns]at h
     simp at h
     omega
    ·exact .inl rfl
   rw[hc]
   exact ext (by kernel_rfl) rfl rfl
  intro h
  have Is:¬(r.sp=true\/(s.aX< -1/\r.of<=r.ch)\/s.mv.length≠r.tk.length+(r.bk).length):=by
   rw[lm,la,lb]at h
   cases ns:r.sp
   ·rw[ns]at h
    simp at h
    rintro(hh|hh)
    ·cases hh
    ·omega
   ·rw[ns]at h;cases h
  rw[if_neg Is]at jV
  have Uo:s.mv.length=r.tk.length+(r.bk).length:=by omega
  rw[jV]
  obtain⟨X1,bt2,bt3⟩:=CU vl
  obtain⟨f,hf⟩:∃f,s.mv[0]?=some f:=⟨_,abK (show 0<s.mv.length by omega)⟩
  have df:s.mv.getD 0 m0=f:=by rw[adn,hf];rfl
  have i0:(s.mv.map ay)[(0:Int).toNat]?=some (ay f):=by rw[adk];exact congrArg (Option.map ay) hf
  refine⟨Nat,fun k=>⟨9,[(3,.ptr 7 0),(7,.ptr 8 0),(8,.dv (.sl 2 ((r.bk).map ja))),(81,.dv (.sl 2 (r.tk.map ja))),(82,.dv (I (r.tk.map ja).length)),(83,.dv (I k))],mw P++[(7,.cells (fp (aZ s).cells)),(8,.cells (fp (kl r).cells))]⟩,fun k=>k<=r.tk.length/\∀j,j<k->pU s.mv s.times r.tk j=true,fun k=>r.tk.length-k,0,fun _=>rfl,jn rfl rfl rfl rfl,⟨adx _,fun j hj=>absurd hj (Nat.not_lt_zero j)⟩,?_⟩
  rintro k ⟨hk,bO⟩
  refine adh ?_ ?_
  ·intro h
   have aB:k<r.tk.length:=by have:=adz h;omega
   obtain⟨m,hm⟩:∃m,s.mv[k]?=some m:=⟨_,abK (show k<s.mv.length by omega)⟩
   obtain⟨a,ha⟩:∃a,r.tk[k]?=some a:=⟨_,abK aB⟩
   have dm:s.mv.getD k m0=m:=by rw[adn,hm];rfl
   have da:r.tk.getD k (0,0)=a:=by rw[adn,ha];rfl
   have im:(s.mv.map ay)[(k:Int).toNat]?=some (ay m):=by rw[adk];simp[hm]
   have ia:(r.tk.map ja)[(k:Int).toNat]?=some (ja a):=by rw[adk];simp[ha]
   have X2:=vK (X1 a (adl ha)) ⟨dz.2.1,dz.2.2⟩
   have qZ:pU s.mv s.times r.tk k=decide (m.fr=f.fr/\m.to=0/\m.it=a.1/\m.n=a.2*s.times):=by unfold pU;rw[dm,df,da]
   repeat first|refine gG ?_|refine⟨fun _=>by omega,?_⟩|refine⟨ja a,fun _=>⟨by omega,ia⟩,?_⟩|refine⟨ay m,fun _=>⟨by omega,im⟩,?_⟩|refine⟨ay f,fun _=>⟨by omega,i0⟩,?_⟩
   refine adh (by kernel_rfl) ?_
   refine adh ?_ ?_
   ·intro h
    have oH:pU s.mv s.times r.tk k=false:=by
     rw[qZ,adU]
     rintro⟨q1,q2,q3,q4⟩
     simp at h
     omega
    rw[kH aB oH]
    exact ext (by kernel_rfl) rfl rfl
   ·intro h
    have Iu:pU s.mv s.times r.tk k=true:=by
     rw[qZ,adR]
     simp at h
     omega
    refine⟨fun _=>by omega,k+1,jn rfl rfl rfl rfl,⟨by omega,fun j hj=>?_⟩,mlt aB⟩
    rcases adC j k with uR|uR
    ·exact bO j uR
    ·rw[show j=k by omega];exact Iu
  intro h
  have he:k=r.tk.length:=by have:=adA h;omega
  subst he
  rw[show(List.range r.tk.length).all (pU s.mv s.times r.tk)=true from adH.2 fun j hj=>bO j (adL.1 hj),Bool.true_and]
  repeat refine gG ?_
  refine⟨fun _=>⟨by rw[la];exact Int.natCast_nonneg _,by rw[la,lm];exact Int.ofNat_le.2 (by omega),by rw[lm];exact Int.le_refl _⟩,?_⟩
  have jy:((s.mv.map ay).take (s.mv.map ay).length).drop (r.tk.map ja).length=(s.mv.drop r.tk.length).map ay:=by rw[ady,la,List.map_drop]
  refine⟨Nat,fun k=>⟨8,[(3,.ptr 7 0),(12,.dv (.sl 5 ((s.mv.drop r.tk.length).map ay))),(130,.dv (.sl 2 ((r.bk).map ja))),(131,.dv (I ((r.bk).map ja).length)),(132,.dv (I k))],mw P++[(7,.cells (fp (aZ s).cells))]⟩,fun k=>k<=(r.bk).length/\∀j,j<k->oP (s.mv.drop r.tk.length) s.times (r.bk) j=true,fun k=>(r.bk).length-k,0,fun _=>rfl,jn (congrArg (fun l=>[(3,AV.ptr 7 0),(12,AV.dv (.sl 5 l)),(130,.dv (.sl 2 ((r.bk).map ja))),(131,.dv (I ((r.bk).map ja).length)),(132,.dv (I 0))]) jy) rfl rfl rfl,⟨adx _,fun j hj=>absurd hj (Nat.not_lt_zero j)⟩,?_⟩
  rintro k ⟨JK,FX⟩
  refine adh ?_ ?_
  ·intro h
   have aB:k<(r.bk).length:=by have:=adz h;rw[lb]at this;omega
   have hd:∀i,(s.mv.drop r.tk.length)[i]?=s.mv[r.tk.length+i]?:=fun i=>by rw[List.getElem?_drop]
   have ld:((s.mv.drop r.tk.length).map ay).length=(r.bk).length:=by rw[adi,List.length_drop];omega
   obtain⟨m,hm⟩:∃m,(s.mv.drop r.tk.length)[k]?=some m:=⟨_,(hd k).trans (abK (show r.tk.length+k<s.mv.length by omega))⟩
   obtain⟨g,hg⟩:∃g,(s.mv.drop r.tk.length)[0]?=some g:=⟨_,(hd 0).trans (abK (show r.tk.length+0<s.mv.length by omega))⟩
   obtain⟨a,ha⟩:∃a,(r.bk)[k]?=some a:=⟨_,abK aB⟩
   have dm:(s.mv.drop r.tk.length).getD k m0=m:=by rw[adn,hm];rfl
   have dg:(s.mv.drop r.tk.length).getD 0 m0=g:=by rw[adn,hg];rfl
   have da:(r.bk).getD k (0,0)=a:=by rw[adn,ha];rfl
   have im:((s.mv.drop r.tk.length).map ay)[(k:Int).toNat]?=some (ay m):=by rw[adk];exact congrArg (Option.map ay) hm
   have ig:((s.mv.drop r.tk.length).map ay)[(0:Int).toNat]?=some (ay g):=by rw[adk];exact congrArg (Option.map ay) hg
   have ia:((r.bk).map ja)[(k:Int).toNat]?=some (ja a):=by rw[adk];exact congrArg (Option.map ja) ha
   have X2:=vK (bt3 a (adl ha)) ⟨dz.2.1,dz.2.2⟩
   have qZ:oP (s.mv.drop r.tk.length) s.times (r.bk) k=decide (m.fr=0/\m.to=g.to/\m.it=a.1/\m.n=a.2*s.times):=by unfold oP;rw[dm,dg,da]
   repeat first|refine gG ?_|refine⟨fun _=>by omega,?_⟩|refine⟨ja a,fun _=>⟨by omega,ia⟩,?_⟩|refine⟨ay m,fun _=>⟨by omega,im⟩,?_⟩|refine⟨ay g,fun _=>⟨by omega,ig⟩,?_⟩
   refine adh (by kernel_rfl) ?_
   refine adh ?_ ?_
   ·intro h
    have oH:oP (s.mv.drop r.tk.length) s.times (r.bk) k=false:=by
     rw[qZ,adU]
     rintro⟨q1,q2,q3,q4⟩
     simp at h
     omega
    rw[kH aB oH]
    exact ext (by kernel_rfl) rfl rfl
   ·intro h
    have Iu:oP (s.mv.drop r.tk.length) s.times (r.bk) k=true:=by
     rw[qZ,adR]
     simp at h
     omega
    refine⟨fun _=>by omega,k+1,jn rfl rfl rfl rfl,⟨by omega,fun j hj=>?_⟩,mlt aB⟩
    rcases adC j k with uR|uR
    ·exact FX j uR
    ·rw[show j=k by omega];exact Iu
  intro h
  have he:k=(r.bk).length:=by have:=adA h;rw[lb]at this;omega
  subst he
  rw[show(List.range (r.bk).length).all (oP (s.mv.drop r.tk.length) s.times (r.bk))=true from adH.2 fun j hj=>FX j (adL.1 hj)]
  exact ext (by kernel_rfl) rfl rfl
 ·intro lA
  have lA:=adA lA
  have hI:Wk s.aX=s.aX:=if_neg lA
  have hG:∀r,Yc s.aX r=r.gv:=fun r=>if_neg lA
  repeat refine gG ?_
  refine .inl ⟨_,fun _=>(nV s.times).ok,?_⟩
  repeat refine gG ?_
  refine adh ?_ ?_
  ·intro h
   have hc:tD s=false:=by
    rw[Ux]at h
    simp at h
    unfold tD
    rw[hI,if_pos (by omega)]
   rw[hc]
   exact ext (by kernel_rfl) rfl rfl
  intro h
  have dz:(0<=s.aX/\s.aX<5)/\1<=s.times/\s.times<=1048576:=by
   rw[Ux]at h
   simp at h
   omega
  obtain⟨r,vl⟩:∃r,gh[(s.aX).toNat]?=some r:=⟨_,abK (show(s.aX).toNat<gh.length by omega)⟩
  have P9:(gh.map kl)[(s.aX).toNat]?=some (kl r):=by rw[adk,vl];rfl
  obtain⟨tl1,tl2,tl3⟩:=CV vl
  have jV:tD s=if r.sp=true\/(s.aX< -1/\r.of<=r.ch)\/s.mv.length≠r.tk.length+(r.gv).length then false else(List.range r.tk.length).all (pU s.mv s.times r.tk)&&(List.range (r.gv).length).all (oP (s.mv.drop r.tk.length) s.times (r.gv)):=by
   unfold tD
   rw[hI,if_neg (by omega),vl]
   simp only[hG]
  have lm:(s.mv.map ay).length=s.mv.length:=adi ..
  have la:(r.tk.map ja).length=r.tk.length:=adi ..
  have lb:((r.gv).map ja).length=(r.gv).length:=adi ..
  refine⟨kl r,fun _=>⟨by omega,P9⟩,?_⟩
  repeat refine gG ?_
  refine adh (fun h=>absurd (adz h) lA) fun _=>?_
  repeat first|refine gG ?_|refine⟨fun _=>by omega,?_⟩|refine⟨fun _=>⟨by rw[adi,adi];omega,by rw[adi,adi];omega⟩,?_⟩
  refine adh ?_ ?_
  ·intro h
   have hc:tD s=false:=by
    rw[lm,la,lb]at h
    rw[jV,if_pos]
    cases ns:r.sp
    ·rw[ns]at h
     simp at h
     omega
    ·exact .inl rfl
   rw[hc]
   exact ext (by kernel_rfl) rfl rfl
  intro h
  have Is:¬(r.sp=true\/(s.aX< -1/\r.of<=r.ch)\/s.mv.length≠r.tk.length+(r.gv).length):=by
   rw[lm,la,lb]at h
   cases ns:r.sp
   ·rw[ns]at h
    simp at h
    rintro(hh|hh)
    ·cases hh
    ·omega
   ·rw[ns]at h;cases h
  rw[if_neg Is]at jV
  have Uo:s.mv.length=r.tk.length+(r.gv).length:=by omega
  rw[jV]
  obtain⟨X1,bt2,bt3⟩:=CU vl
  obtain⟨f,hf⟩:∃f,s.mv[0]?=some f:=⟨_,abK (show 0<s.mv.length by omega)⟩
  have df:s.mv.getD 0 m0=f:=by rw[adn,hf];rfl
  have i0:(s.mv.map ay)[(0:Int).toNat]?=some (ay f):=by rw[adk];exact congrArg (Option.map ay) hf
  refine⟨Nat,fun k=>⟨9,[(3,.ptr 7 0),(7,.ptr 8 0),(8,.dv (.sl 2 ((r.gv).map ja))),(81,.dv (.sl 2 (r.tk.map ja))),(82,.dv (I (r.tk.map ja).length)),(83,.dv (I k))],mw P++[(7,.cells (fp (aZ s).cells)),(8,.cells (fp (kl r).cells))]⟩,fun k=>k<=r.tk.length/\∀j,j<k->pU s.mv s.times r.tk j=true,fun k=>r.tk.length-k,0,fun _=>rfl,jn rfl rfl rfl rfl,⟨adx _,fun j hj=>absurd hj (Nat.not_lt_zero j)⟩,?_⟩
  rintro k ⟨hk,bO⟩
  refine adh ?_ ?_
  ·intro h
   have aB:k<r.tk.length:=by have:=adz h;omega
   obtain⟨m,hm⟩:∃m,s.mv[k]?=some m:=⟨_,abK (show k<s.mv.length by omega)⟩
   obtain⟨a,ha⟩:∃a,r.tk[k]?=some a:=⟨_,abK aB⟩
   have dm:s.mv.getD k m0=m:=by rw[adn,hm];rfl
   have da:r.tk.getD k (0,0)=a:=by rw[adn,ha];rfl
   have im:(s.mv.map ay)[(k:Int).toNat]?=some (ay m):=by rw[adk];simp[hm]
   have ia:(r.tk.map ja)[(k:Int).toNat]?=some (ja a):=by rw[adk];simp[ha]
   have X2:=vK (X1 a (adl ha)) ⟨dz.2.1,dz.2.2⟩
   have qZ:pU s.mv s.times r.tk k=decide (m.fr=f.fr/\m.to=0/\m.it=a.1/\m.n=a.2*s.times):=by unfold pU;rw[dm,df,da]
   repeat first|refine gG ?_|refine⟨fun _=>by omega,?_⟩|refine⟨ja a,fun _=>⟨by omega,ia⟩,?_⟩|refine⟨ay m,fun _=>⟨by omega,im⟩,?_⟩|refine⟨ay f,fun _=>⟨by omega,i0⟩,?_⟩
   refine adh (by kernel_rfl) ?_
   refine adh ?_ ?_
   ·intro h
    have oH:pU s.mv s.times r.tk k=false:=by
     rw[qZ,adU]
     rintro⟨q1,q2,q3,q4⟩
     simp at h
     omega
    rw[kH aB oH]
    exact ext (by kernel_rfl) rfl rfl
   ·intro h
    have Iu:pU s.mv s.times r.tk k=true:=by
     rw[qZ,adR]
     simp at h
     omega
    refine⟨fun _=>by omega,k+1,jn rfl rfl rfl rfl,⟨by omega,fun j hj=>?_⟩,mlt aB⟩
    rcases adC j k with uR|uR
    ·exact bO j uR
    ·rw[show j=k by omega];exact Iu
  intro h
  have he:k=r.tk.length:=by have:=adA h;omega
  subst he
  rw[show(List.range r.tk.length).all (pU s.mv s.times r.tk)=true from adH.2 fun j hj=>bO j (adL.1 hj),Bool.true_and]
  repeat refine gG ?_
  refine⟨fun _=>⟨by rw[la];exact Int.natCast_nonneg _,by rw[la,lm];exact Int.ofNat_le.2 (by omega),by rw[lm];exact Int.le_refl _⟩,?_⟩
  have jy:((s.mv.map ay).take (s.mv.map ay).length).drop (r.tk.map ja).length=(s.mv.drop r.tk.length).map ay:=by rw[ady,la,List.map_drop]
  refine⟨Nat,fun k=>⟨8,[(3,.ptr 7 0),(12,.dv (.sl 5 ((s.mv.drop r.tk.length).map ay))),(130,.dv (.sl 2 ((r.gv).map ja))),(131,.dv (I ((r.gv).map ja).length)),(132,.dv (I k))],mw P++[(7,.cells (fp (aZ s).cells))]⟩,fun k=>k<=(r.gv).length/\∀j,j<k->oP (s.mv.drop r.tk.length) s.times (r.gv) j=true,fun k=>(r.gv).length-k,0,fun _=>rfl,jn (congrArg (fun l=>[(3,AV.ptr 7 0),(12,AV.dv (.sl 5 l)),(130,.dv (.sl 2 ((r.gv).map ja))),(131,.dv (I ((r.gv).map ja).length)),(132,.dv (I 0))]) jy) rfl rfl rfl,⟨adx _,fun j hj=>absurd hj (Nat.not_lt_zero j)⟩,?_⟩
  rintro k ⟨JK,FX⟩
  refine adh ?_ ?_
  ·intro h
   have aB:k<(r.gv).length:=by have:=adz h;rw[lb]at this;omega
   have hd:∀i,(s.mv.drop r.tk.length)[i]?=s.mv[r.tk.length+i]?:=fun i=>by rw[List.getElem?_drop]
   have ld:((s.mv.drop r.tk.length).map ay).length=(r.gv).length:=by rw[adi,List.length_drop];omega
   obtain⟨m,hm⟩:∃m,(s.mv.drop r.tk.length)[k]?=some m:=⟨_,(hd k).trans (abK (show r.tk.length+k<s.mv.length by omega))⟩
   obtain⟨g,hg⟩:∃g,(s.mv.drop r.tk.length)[0]?=some g:=⟨_,(hd 0).trans (abK (show r.tk.length+0<s.mv.length by omega))⟩
   obtain⟨a,ha⟩:∃a,(r.gv)[k]?=some a:=⟨_,abK aB⟩
   have dm:(s.mv.drop r.tk.length).getD k m0=m:=by rw[adn,hm];rfl
   have dg:(s.mv.drop r.tk.length).getD 0 m0=g:=by rw[adn,hg];rfl
   have da:(r.gv).getD k (0,0)=a:=by rw[adn,ha];rfl
   have im:((s.mv.drop r.tk.length).map ay)[(k:Int).toNat]?=some (ay m):=by rw[adk];exact congrArg (Option.map ay) hm
   have ig:((s.mv.drop r.tk.length).map ay)[(0:Int).toNat]?=some (ay g):=by rw[adk];exact congrArg (Option.map ay) hg
   have ia:((r.gv).map ja)[(k:Int).toNat]?=some (ja a):=by rw[adk];exact congrArg (Option.map ja) ha
   have X2:=vK (bt2 a (adl ha)) ⟨dz.2.1,dz.2.2⟩
   have qZ:oP (s.mv.drop r.tk.length) s.times (r.gv) k=decide (m.fr=0/\m.to=g.to/\m.it=a.1/\m.n=a.2*s.times):=by unfold oP;rw[dm,dg,da]
   repeat first|refine gG ?_|refine⟨fun _=>by omega,?_⟩|refine⟨ja a,fun _=>⟨by omega,ia⟩,?_⟩|refine⟨ay m,fun _=>⟨by omega,im⟩,?_⟩|refine⟨ay g,fun _=>⟨by omega,ig⟩,?_⟩
   refine adh (by kernel_rfl) ?_
   refine adh ?_ ?_
   ·intro h
    have oH:oP (s.mv.drop r.tk.length) s.times (r.gv) k=false:=by
     rw[qZ,adU]
     rintro⟨q1,q2,q3,q4⟩
     simp at h
     omega
    rw[kH aB oH]
    exact ext (by kernel_rfl) rfl rfl
   ·intro h
    have Iu:oP (s.mv.drop r.tk.length) s.times (r.gv) k=true:=by
     rw[qZ,adR]
     simp at h
     omega
    refine⟨fun _=>by omega,k+1,jn rfl rfl rfl rfl,⟨by omega,fun j hj=>?_⟩,mlt aB⟩
    rcases adC j k with uR|uR
    ·exact FX j uR
    ·rw[show j=k by omega];exact Iu
  intro h
  have he:k=(r.gv).length:=by have:=adA h;rw[lb]at this;omega
  subst he
  rw[show(List.range (r.gv).length).all (oP (s.mv.drop r.tk.length) s.times (r.gv))=true from adH.2 fun j hj=>FX j (adL.1 hj)]
  exact ext (by kernel_rfl) rfl rfl
end
section
open Go.TM
def Zl(s:dI):Bool:=bif decide (s.kind=4)then tD s else bif decide (s.kind=10)then tu s else decide (s.aX=-1)&&decide (s.times=0)
def r8(now:Int)(s:dI):Bool:=CW s&&decide (0<=s.tick/\now<=s.tick/\s.tick<=1099511627776/\1<=s.mv.length/\s.mv.length<=64)&&s.mv.all (r7 s.kind)&&Zl s
variable [aW]
theorem UJ(P:PL)(s:dI)(hr:LM s.aX)(hl:s.mv.length<=1000)(h1:1<=s.mv.length):aw Tryz.prog (whN s.kind) [.ptr 0 0,cP (aZ s)] 7 (mw P) 0 [.dv (B (Zl s))] (mw P):=by
 unfold whN Zl
 split
 ·rename_i h;rw[adF h];exact Dd P s hr hl h1
 rename_i h4
 rw[adG h4]
 split
 ·rename_i h;rw[adF h];exact FT P s
 ·rename_i h;rw[adG h];exact Da P s
theorem mj(P:PL)(s:dI)(hr:LM s.aX)(hn:P.sp.length<=1000000)(hl:s.mv.length<=1000)(mM:∀m∈s.mv,m.ps.length<=4000):aw Tryz.prog 98 [.ptr 0 0,cP (aZ s)] 7 (mw P) 0 [.dv (B (r8 (fw P.sp) s))] (mw P):=by
 by_cases hk:0<=s.kind/\s.kind<=10
 ·by_cases hg:(0<=s.ko/\s.ko<=1073741824)/\0<=s.tick/\s.tick<=1099511627776
  ·refine cO Tryz.func98 rfl (by kernel_rfl) ?_
   repeat refine gG ?_
   refine .inl ⟨_,fun _=>(Bv s.kind hk).ok,?_⟩
   repeat refine gG ?_
   refine .inl ⟨_,fun _=>(lC s.ko).ok,?_⟩
   repeat refine gG ?_
   refine .inr (cl [0,1,2,3,4,5,6] (Mn P hn) (by kernel_rfl) rfl rfl ?_)
   refine⟨by simp[bw];omega,?_⟩
   repeat first|refine gG ?_|refine⟨fun _=>rfl,?_⟩
   refine adh (by kernel_rfl) ?_
   have hA:CW s=true:=adF ⟨hk.1,hk.2,hg.1.1,hg.1.2⟩
   refine adh ?_ ?_
   ·intro h
    have hc:r8 (fw P.sp) s=false:=by
     have:decide (0<=s.tick/\fw P.sp<=s.tick/\s.tick<=1099511627776/\1<=s.mv.length/\s.mv.length<=64)=false:=by
      rw[adU]
      rw[adi]at h
      simp at h
      omega
     unfold r8
     rw[this,Bool.and_false];rfl
    rw[hc]
    exact ext (by kernel_rfl) rfl rfl
   intro h
   have hB:0<=s.tick/\fw P.sp<=s.tick/\s.tick<=1099511627776/\1<=s.mv.length/\s.mv.length<=64:=by
    rw[adi]at h
    simp at h
    omega
   have hp:r8 (fw P.sp) s=(s.mv.all (r7 s.kind)&&Zl s):=by
    unfold r8
    rw[hA,adF hB];simp
   rw[hp]
   have lm:(s.mv.map ay).length=s.mv.length:=adi ..
   refine⟨Nat,fun k=>⟨9,[(0,.ptr 0 0),(3,.ptr 7 0),(5,.ptr 8 0),(53,.dv (.sl 5 (s.mv.map ay))),(54,.dv (I (s.mv.map ay).length)),(55,.dv (I k))],mw P++[(7,.cells (fp (aZ s).cells)),(8,.cells (fp (X9 s.kind).cells))]⟩,fun k=>k<=s.mv.length/\∀m∈s.mv.take k,r7 s.kind m=true,fun k=>s.mv.length-k,0,fun _=>rfl,jn rfl rfl rfl rfl,⟨adx _,by simp⟩,?_⟩
   rintro k ⟨hk,bO⟩
   refine adh ?_ ?_
   ·intro h
    have aB:k<s.mv.length:=by have:=adz h;omega
    obtain⟨m,hm⟩:∃m,s.mv[k]?=some m:=⟨_,abK aB⟩
    have nT:=adl hm
    have im:(s.mv.map ay)[(k:Int).toNat]?=some (ay m):=by rw[adk];exact congrArg (Option.map ay) hm
    refine⟨ay m,fun _=>⟨by omega,im⟩,?_⟩
    refine .inr (cl [0,1,2,3,4,5,6] (mO P m s.kind (mM m nT)) (by kernel_rfl) rfl rfl ?_)
    refine adh ?_ ?_
    ·intro h
     have h:r7 s.kind m=false:=by simpa using h
     rw[show s.mv.all (r7 s.kind)=false from List.all_eq_false.2 ⟨m,nT,by rw[h];simp⟩]
     exact ext (by kernel_rfl) rfl rfl
    ·intro h
     have h:r7 s.kind m=true:=by simpa using h
     exact⟨fun _=>by omega,k+1,jn rfl rfl rfl rfl,⟨by omega,fun q hq=>by
      rw[ads,hm]at hq
      rcases adr.1 hq with hq|hq
      ·exact bO q hq
      ·simp at hq;subst hq;exact h⟩,mlt aB⟩
   intro h
   have he:k=s.mv.length:=by have:=adA h;omega
   subst he
   rw[ady]at bO
   rw[show s.mv.all (r7 s.kind)=true from adH.2 bO,Bool.true_and]
   refine .inr (cl [0,1,2,3,4,5,6] (UJ P s hr hl (by omega)) (by kernel_rfl) rfl rfl ?_)
   exact ext (by kernel_rfl) rfl rfl
  ·have hA:r8 (fw P.sp) s=false:=by
    have:CW s=false\/decide (0<=s.tick/\fw P.sp<=s.tick/\s.tick<=1099511627776/\1<=s.mv.length/\s.mv.length<=64)=false:=by
     unfold CW
     rw[adU,adU]
     omega
    unfold r8
    rcases this with h|h<;>rw[h]<;>simp
   rw[hA]
   refine cO Tryz.func98 rfl (by kernel_rfl) ?_
   repeat refine gG ?_
   refine .inl ⟨_,fun _=>(Bv s.kind hk).ok,?_⟩
   repeat refine gG ?_
   refine .inl ⟨_,fun _=>(lC s.ko).ok,?_⟩
   repeat refine gG ?_
   refine .inl ⟨by simp[bw];omega,[I 0],fun h=>absurd h (by simp[bw];omega),rfl,?_⟩
   repeat refine gG ?_
   refine adh (by kernel_rfl) ?_
   refine adh (fun _=>ext (by kernel_rfl) rfl rfl) fun h=>absurd h ?_
   simp;omega
 ·have hA:r8 (fw P.sp) s=false:=by
   have:CW s=false:=by
    unfold CW
    rw[adU]
    omega
   unfold r8
   rw[this];simp
  rw[hA]
  refine cO Tryz.func98 rfl (by kernel_rfl) ?_
  repeat refine gG ?_
  refine .inl ⟨_,fun _=>(ID s.kind hk).ok,?_⟩
  repeat refine gG ?_
  refine .inl ⟨_,fun _=>(lC s.ko).ok,?_⟩
  repeat refine gG ?_
  refine .inl ⟨by simp[bw],[I 0],fun h=>absurd h (by simp[bw]),rfl,?_⟩
  repeat refine gG ?_
  refine adh (by kernel_rfl) ?_
  refine adh (fun _=>ext (by kernel_rfl) rfl rfl) fun h=>absurd h ?_
  simp
end
section
open Go.TM
theorem UL{i:Nat}{r:XU}(h:gh[i]?=some r):r.of<=r.ch↔r.ch=r.of:=by
 have:∀r∈gh,r.ch<=r.of:=by
  intro r hr
  simp only[gh,adp,List.mem_nil_iff,or_false]at hr
  rcases hr with rfl|rfl|rfl|rfl|rfl<;>decide
 have:=this r (adl h)
 omega
theorem Bw(l:List eS)(n j:Nat):(l.drop n).getD j m0=l.getD (n+j) m0:=by
 rw[adn,adn,List.getElem?_drop]
theorem Qw{l:List eS}{i:Nat}(h:i<l.length):l.getD i m0∈l:=by
 rw[adn,abK h];exact adP h
theorem Yd(mv:List eS)(tm:Int)(tk gv:List Ky)(hb:∀m∈mv,dG m=true)(hl:mv.length=tk.length+gv.length):((List.range tk.length).all (pU mv tm tk)&&(List.range gv.length).all (oP (mv.drop tk.length) tm gv))=(List.range mv.length).all (gY mv tm tk gv):=by
 have hB:∀i,i<mv.length->(mv.getD i m0).fr≠(mv.getD i m0).to/\0<=(mv.getD i m0).fr/\0<=(mv.getD i m0).to:=fun i hi=>by
  have:=adz (hb _ (Qw hi))
  omega
 rw[adO,adT,adH,adH,adH]
 have hT:∀k,pU mv tm tk k=true↔((mv.getD k m0).fr=(mv.getD 0 m0).fr/\(mv.getD k m0).to=0/\(mv.getD k m0).it=(tk.getD k (0,0)).1/\(mv.getD k m0).n=(tk.getD k (0,0)).2*tm):=fun k=>adR
 have hG:∀k,oP (mv.drop tk.length) tm gv k=true↔((mv.getD (tk.length+k) m0).fr=0/\(mv.getD (tk.length+k) m0).to=(mv.getD tk.length m0).to/\(mv.getD (tk.length+k) m0).it=(gv.getD k (0,0)).1/\(mv.getD (tk.length+k) m0).n=(gv.getD k (0,0)).2*tm):=fun k=>by
  unfold oP
  rw[adR,Bw,Bw,Nat.add_zero]
 have hM1:∀k,k<tk.length->(gY mv tm tk gv k=true↔((mv.getD k m0).fr=(mv.getD 0 m0).fr/\1<=(mv.getD k m0).fr/\(mv.getD k m0).to=0/\(mv.getD k m0).it=(tk.getD k (0,0)).1/\(mv.getD k m0).n=(tk.getD k (0,0)).2*tm)):=fun k h=>by
  unfold gY
  rw[if_pos h,adR]
 have XE:∀k,gY mv tm tk gv (tk.length+k)=true↔((mv.getD (tk.length+k) m0).fr=0/\1<=(mv.getD (tk.length+k) m0).to/\(mv.getD (tk.length+k) m0).to=(mv.getD (mv.length-1) m0).to/\(mv.getD (tk.length+k) m0).it=(gv.getD k (0,0)).1/\(mv.getD (tk.length+k) m0).n=(gv.getD k (0,0)).2*tm):=fun k=>by
  unfold gY
  rw[if_neg (by omega),adR,Nat.add_sub_cancel_left]
 constructor
 ·rintro⟨h1,h2⟩ k hk
  have hk:=adL.1 hk
  rcases adC k tk.length with h|h
  ·have:=(hT k).1 (h1 k (adL.2 h))
   have hb:=hB k hk
   rw[hM1 k h]
   refine⟨this.1,?_,this.2⟩
   omega
  ·obtain⟨j,rfl⟩:∃j,k=tk.length+j:=⟨k-tk.length,by omega⟩
   have a:=(hG j).1 (h2 j (adL.2 (by omega)))
   have b:=(hG (gv.length-1)).1 (h2 (gv.length-1) (adL.2 (by omega)))
   have hb:=hB _ hk
   rw[XE]
   rw[show mv.length-1=tk.length+(gv.length-1)by omega]
   refine⟨a.1,by omega,?_,a.2.2⟩
   rw[a.2.1,b.2.1]
 ·intro h
  refine⟨fun k hk=>?_,fun j hj=>?_⟩
  ·have hk:=adL.1 hk
   have:=(hM1 k hk).1 (h k (adL.2 (by omega)))
   rw[hT]
   exact⟨this.1,this.2.2⟩
  ·have hj:=adL.1 hj
   have a:=(XE j).1 (h _ (adL.2 (by omega)))
   have b:=(XE 0).1 (h _ (adL.2 (by omega)))
   rw[Nat.add_zero]at b
   rw[hG]
   refine⟨a.1,?_,a.2.2.2⟩
   rw[a.2.2.1,b.2.2.1]
theorem Ye(s:dI)(hb:∀m∈s.mv,dG m=true):tD s=qQ s:=by
 unfold tD qQ
 by_cases h1:s.aX=-1
 ·rw[if_pos,if_pos]
  ·unfold P8;rw[h1];simp
  ·unfold Wk;rw[h1];simp
 have e1:Wk s.aX=P8 s.aX:=by unfold Wk P8;split<;>split<;>omega
 have e2:Yc s.aX=X0 s.aX:=by funext r;unfold Yc X0;split<;>split<;>first|rfl|omega
 rw[e1,e2]
 by_cases h2:P8 s.aX<0\/5<=P8 s.aX\/s.times<1\/1048576<s.times
 ·rw[if_pos h2,if_pos h2]
 rw[if_neg h2,if_neg h2]
 cases hr:gh[(P8 s.aX).toNat]? with
 |none=>rfl
 |some r=>
  have hch:=UL hr
  dsimp only
  cases r.sp with
  |true=>simp
  |false=>
   simp only[cond_false,Bool.false_eq_true,false_or]
   by_cases h3:(s.aX<0/\r.ch=r.of)\/s.mv.length≠r.tk.length+(X0 s.aX r).length
   ·rw[if_pos h3,if_pos]
    rcases h3 with h3|h3
    ·exact .inl ⟨by omega,hch.2 h3.2⟩
    ·exact .inr h3
   ·rw[if_neg h3,if_neg]
    ·exact Yd s.mv s.times r.tk _ hb (by omega)
    ·rintro(h4|h4)
     ·exact h3 (.inl ⟨by omega,hch.1 h4.2⟩)
     ·exact h3 (.inr h4)
theorem Qx{k:Int}(hk:0<=k/\k<=10)(h4:k≠4)(NK:k≠10){m:eS}(hb:dG m=true):(C8 k m.fr&&C9 k m.to)=oG k m:=by
 have hb:=adz hb
 rw[adO]
 rcases kinds hk with rfl|rfl|rfl|rfl|rfl|rfl|rfl|rfl|rfl|rfl|rfl<;>first|exact absurd rfl h4|exact absurd rfl NK|(simp[C8,C9,oG];omega)
theorem UM{l:List eS}{p q:eS->Bool}:l.all (fun m=>p m&&q m)=(l.all p&&l.all q):=by
 induction l with
 |nil=>rfl
 |cons a l ih=>simp only[List.all_cons,ih];cases p a<;>cases q a<;>cases l.all p<;>rfl
theorem pos_eq(now:Int)(s:dI)(h0:0<=now):r8 now s=lO now s:=by
 unfold r8 lO
 cases hr:CW s with
 |false=>rfl
 |true=>
 have hr:=adz hr
 have hd:decide (0<=s.tick/\now<=s.tick/\s.tick<=1099511627776/\1<=s.mv.length/\s.mv.length<=64)=decide (now<=s.tick/\s.tick<=1099511627776/\1<=s.mv.length/\s.mv.length<=64):=by
  rw[decide_eq_decide];omega
 rw[hd]
 generalize decide (now<=s.tick/\s.tick<=1099511627776/\1<=s.mv.length/\s.mv.length<=64)=d
 rw[show s.mv.all (r7 s.kind)=(s.mv.all (fun m=>Bp m (pP s.kind))&&s.mv.all fun m=>C8 s.kind m.fr&&C9 s.kind m.to)from UM]
 cases hm:s.mv.all (fun m=>Bp m (pP s.kind))with
 |false=>cases d<;>rfl
 |true=>
 have hb:∀m∈s.mv,dG m=true:=fun m h=>by
  have:=adH.1 hm m h
  unfold Bp at this
  exact(adT _ _▸this).1
 have hw:((s.mv.all fun m=>C8 s.kind m.fr&&C9 s.kind m.to)&&Zl s)=(bif decide (s.kind=4)then qQ s else bif decide (s.kind=10)then tu s else s.mv.all (oG s.kind)&&decide (s.aX=-1/\s.times=0)):=by
  unfold Zl
  by_cases h4:s.kind=4
  ·rw[adF h4,show(s.mv.all fun m=>C8 s.kind m.fr&&C9 s.kind m.to)=true from adH.2 fun m _=>by rw[h4];rfl]
   exact Ye s hb
  rw[adG h4]
  by_cases NK:s.kind=10
  ·rw[adF NK,show(s.mv.all fun m=>C8 s.kind m.fr&&C9 s.kind m.to)=true from adH.2 fun m _=>by rw[NK];rfl]
   rfl
  rw[adG NK]
  simp only[cond_false]
  congr 1
  ·rw[adO,adH,adH]
   exact forall_congr' fun m=>forall_congr' fun h=>by rw[Qx ⟨hr.1,hr.2.1⟩ h4 NK (hb m h)]
  ·rw[adO];simp
 rw[<-hw]
 cases d<;>simp
end
section
open Go.TM
variable [aW]
theorem MG(P:PL)(s:dI)(hr:LM s.aX)(hn:P.sp.length<=1000000)(hl:s.mv.length<=1000)(mM:∀m∈s.mv,m.ps.length<=4000)(hp:r8 (fw P.sp) s=false)(aB:(P.sp.length:Int)<65536):aw Tryz.prog 51 [.ptr 0 0,cP (aZ s)] 7 (mw P) 0 [.dv .eJ,.dv (I 1)] (mw P):=by
 have lp:(P.sp.map aZ).length=P.sp.length:=adi ..
 have mM:=mj P s hr hn hl mM
 rw[hp]at mM
 refine cO Tryz.func51 rfl (by kernel_rfl) ?_
 repeat refine gG ?_
 refine adh (fun h2=>absurd (adz h2) (by omega)) fun _=>?_
 refine .inr (cl [0,1,2,3,4,5,6] mM (by kernel_rfl) rfl rfl ?_)
 exact adh (fun _=>ext (by kernel_rfl) rfl rfl) fun h=>(by cases h)
end
section
open Go.TM
structure Ch where
 sp:dI
 st:SM
 cj:IM Int
 imp:IM (List Lt)
 ret:IM (List Lt)
 fl:List j4
 sk:List Int
def ack(P:PL):List AV:=.dv (I P.sh)::fp oF++[.own 8 0 0 [],.own 9 0 0 [],.own 10 0 0 [],.own 11 0 0 [],.own 12 0 0 [],.own 13 0 0 []]
def aa5(P:PL):ae:=[(7,.cells (ack P)),(8,.tree 0 0 (.omap eZ (qR P.st))),(9,.tree 0 0 (.omap cS (oN P.cj))),(10,.tree 0 0 (.aI 7 (P.sp.map aZ))),(11,.tree 0 0 (.aI 11 (P.fl.map bB))),(12,.tree 0 0 (.omap cS (pQ P.imp))),(13,.tree 0 0 (.omap cS (pQ P.ret)))]
def chC(v u:Nat)(c:Ch):List AV:=.ptr 7 0::(fp (aZ c.sp).cells++[.own 1 0 0 [],.own 2 0 0 [],.own 3 0 0 [],.own 4 0 0 [],.own 5 v 0 [],.own 6 u 0 []])
def dP(v u:Nat)(P:PL)(c:Ch):ae:=[(0,.cells (chC v u c)),(1,.tree 0 0 (.omap eZ (qR c.st))),(2,.tree 0 0 (.omap cS (oN c.cj))),(3,.tree 0 0 (.omap cS (pQ c.imp))),(4,.tree 0 0 (.omap cS (pQ c.ret))),(5,.tree v 0 (.aI 11 (c.fl.map bB))),(6,.tree u 0 (.aI 1 (c.sk.map I)))]++aa5 P
def eH(P:PL)(c:Ch)(k:Ky):List Lt:=(aV c.st k).getD (bY P.st k)
theorem gi(l:List Lt):(aR l).aQ:=fun d hd=>by
 have hd:d∈[aR l]:=hd
 rw[ado]at hd;subst hd;rfl
theorem uU(n:Int):(I n).aQ:=fun d hd=>by
 have hd:d∈[I n]:=hd
 rw[ado]at hd;subst hd;rfl
theorem nW(m:SM)(k:Ky):∀x,ca (qR m) (r5 k)=some x->x.aQ:=by
 intro x hx
 rw[show ca (qR m) (r5 k)=_ from hU (ev:=fun l:List Lt=>aR l) jc m k]at hx
 cases hq:aV m k with
 |none=>rw[hq]at hx;cases hx
 |some y=>rw[hq]at hx;injection hx with hx;subst hx;exact gi y
theorem nX(m:IM Int)(k:Int):∀x,ca (oN m) (eI k)=some x->x.aQ:=by
 intro x hx
 rw[show ca (oN m) (eI k)=_ from hU (ev:=eI) jd m k]at hx
 cases hq:aV m k with
 |none=>rw[hq]at hx;cases hx
 |some y=>rw[hq]at hx;injection hx with hx;subst hx;exact uU y
theorem De(m:IM (List Lt))(k:Int):∀x,ca (pQ m) (eI k)=some x->x.aQ:=by
 intro x hx
 rw[show ca (pQ m) (eI k)=_ from hU (ev:=fun l:List Lt=>aR l) jd m k]at hx
 cases hq:aV m k with
 |none=>rw[hq]at hx;cases hx
 |some y=>rw[hq]at hx;injection hx with hx;subst hx;exact gi y
variable [aW]
theorem iH(P:PL)(c:Ch)(a i:Int):aw Tryz.prog 146 [.ptr 0 0,.dv (I a),.dv (I i)] 14 (dP 0 0 P c) 0 [.dv (aR (eH P c (a,i)))] (dP 0 0 P c):=by
 have hg:=hU (ev:=fun l:List Lt=>aR l) jc c.st (a,i)
 have hh:=hU (ev:=fun l:List Lt=>aR l) jc P.st (a,i)
 refine cO Tryz.func146 rfl (by kernel_rfl) ?_
 refine⟨mX,r5 (a,i),rfl,rfl,?_⟩
 unfold eH
 cases h:aV c.st (a,i)with
 |some l=>
  rw[h]at hg
  refine⟨aR l,true,fun _=>hg,fun h=>(by cases h),rfl,?_⟩
  refine adh (by kernel_rfl) ?_
  refine adh (fun _=>?_) fun h=>(by cases h)
  exact ext (by kernel_rfl) rfl rfl
 |none=>
  rw[h]at hg
  refine⟨.aH,false,fun _=>hg,fun _=>rfl,rfl,?_⟩
  refine adh (by kernel_rfl) ?_
  refine adh (fun h=>(by cases h)) fun _=>?_
  refine⟨mX,r5 (a,i),rfl,rfl,?_⟩
  unfold bY
  cases h:aV P.st (a,i)with
  |some l=>
   rw[h]at hh
   refine⟨aR l,true,fun _=>hh,fun h=>(by cases h),rfl,?_⟩
   exact⟨by kernel_rfl,ext (by kernel_rfl) rfl rfl⟩
  |none=>
   rw[h]at hh
   refine⟨.aH,false,fun _=>hh,fun _=>rfl,rfl,?_⟩
   refine adh (by kernel_rfl) ?_
   exact⟨_,_,⟨rfl,rfl⟩,by kernel_rfl,⟨DV.aY 3,tv⟩,bl (k:=dP 0 0 P c) rfl⟩
def unK(a b:IM (List Lt)):ae:=[(0,.tree 0 0 (.omap cS (pQ a))),(1,.tree 0 0 (.omap cS (pQ b)))]
def ss(a b:IM (List Lt))(f:Int):Option (List Lt):=(aV a f).or (aV b f)
def unD:Option (List Lt)->DV
 |some l=>aR l
 |none=>.aH
theorem y4(m b:IM (List Lt))(f:Int):aw Tryz.prog 236 [.own 0 0 0 [],.own 1 0 0 [],.dv (I f)] 2 (unK m b) 0 [.dv (unD (ss m b f))] (unK m b):=by
 have hg:=hU (ev:=fun l:List Lt=>aR l) jd m f
 have hh:=hU (ev:=fun l:List Lt=>aR l) jd b f
 refine cO Tryz.func236 rfl (by kernel_rfl) ?_
 refine⟨j7,eI f,rfl,rfl,?_⟩
 unfold ss
 cases h:aV m f with
 |some l=>
  rw[h]at hg
  refine⟨aR l,true,fun _=>hg,fun h=>(by cases h),rfl,?_⟩
  refine adh (fun _=>?_) fun h=>(by cases h)
  exact ext (by kernel_rfl) rfl rfl
 |none=>
  rw[h]at hg
  refine⟨.aH,false,fun _=>hg,fun _=>rfl,rfl,?_⟩
  refine adh (fun h=>(by cases h)) fun _=>?_
  refine⟨j7,eI f,rfl,rfl,?_⟩
  cases h:aV b f with
  |some l=>
   rw[h]at hh
   refine⟨aR l,true,fun _=>hh,fun h=>(by cases h),rfl,?_⟩
   exact ext (by kernel_rfl) rfl rfl
  |none=>
   rw[h]at hh
   refine⟨.aH,false,fun _=>hh,fun _=>rfl,rfl,?_⟩
   exact ext (by kernel_rfl) rfl rfl
end
section
open Go.TM
theorem Kx{it:Int}(h:0<=it/\it<5):∃s o c w b z,(CC (I 2) (I 20))[it.toNat]?=some (.agg [.str s,B o,B (w6 it),B c,I w,I b,I z]):=by
 have:it=0\/it=1\/it=2\/it=3\/it=4:=by omega
 rcases this with rfl|rfl|rfl|rfl|rfl<;>exact⟨_,_,_,_,_,_,rfl⟩
variable [aW]
theorem Qy(hS:nU)(P:PL)(c:Ch)(m:eS)(hp:m.ps=[])(hi:0<=m.it/\m.it<5)(hm:0<=m.n/\m.n<=1099511627776)(hv:bE (eH P c (m.fr,m.it))=true)(hc:decide (cT (eH P c (m.fr,m.it))<m.n)=true):aw Tryz.prog 215 [.ptr 0 0,cP (ay m)] 14 (dP 0 0 P c) 0 [.dv (aR []),.dv (I 10)] (dP 0 0 P c):=by
 have ht:=fun x=>(yY hS (eH P c (m.fr,m.it)) m.n x hm hv).ok
 unfold Fl at ht
 rw[hc]at ht
 obtain⟨z1,z2,z3,z4,z5,z6,hx⟩:=Kx hi
 have lp:(m.ps.map aD).length=0:=by rw[hp];rfl
 refine cO Tryz.func215 rfl (by kernel_rfl) ?_
 repeat refine gG ?_
 refine .inr (cl [0,1,2,3,4,5,6,7,8,9,10,11,12,13] (iH P c m.fr _) (by kernel_rfl) rfl rfl ?_)
 repeat refine gG ?_
 refine adh (fun _=>?_) fun h=>(by rw[lp]at h;cases h)
 refine⟨_,fun _=>⟨hi.1,hx⟩,?_⟩
 refine .inl ⟨_,fun _=>ht _,?_⟩
 refine adh (by kernel_rfl) ?_
 refine adh (fun _=>?_) fun h=>(by cases h)
 exact⟨_,_,⟨rfl,rfl⟩,by kernel_rfl,⟨DV.aY 3,rf,tv⟩,bl (k:=dP 0 0 P c) rfl⟩
theorem Qz(hS:nU)(P:PL)(c:Ch)(m:eS)(hp:m.ps=[])(hi:0<=m.it/\m.it<5)(hm:0<=m.n/\m.n<=1099511627776)(hv:bE (eH P c (m.fr,m.it))=true)(hc:decide (cT (eH P c (m.fr,m.it))<m.n)=false):aw Tryz.prog 215 [.ptr 0 0,cP (ay m)] 14 (dP 0 0 P c) 0 [.dv (aR (fJ (eH P c (m.fr,m.it)) m.n (w6 m.it)).1),.dv (I 0)] (dP 0 0 P { c with st:=aN c.st (m.fr,m.it) (fJ (eH P c (m.fr,m.it)) m.n (w6 m.it)).2 }):=by
 have ht:=fun x=>(yY hS (eH P c (m.fr,m.it)) m.n x hm hv).ok
 unfold Fl at ht
 rw[hc]at ht
 obtain⟨z1,z2,z3,z4,z5,z6,hx⟩:=Kx hi
 have lp:(m.ps.map aD).length=0:=by rw[hp];rfl
 refine cO Tryz.func215 rfl (by kernel_rfl) ?_
 repeat refine gG ?_
 refine .inr (cl [0,1,2,3,4,5,6,7,8,9,10,11,12,13] (iH P c m.fr _) (by kernel_rfl) rfl rfl ?_)
 repeat refine gG ?_
 refine adh (fun _=>?_) fun h=>(by rw[lp]at h;cases h)
 refine⟨_,fun _=>⟨hi.1,hx⟩,?_⟩
 refine .inl ⟨_,fun _=>ht _,?_⟩
 refine adh (by kernel_rfl) ?_
 refine adh (fun h=>(by cases h)) fun _=>?_
 refine⟨mX,r5 (m.fr,m.it),rfl,rfl,?_⟩
 refine⟨aR (fJ (eH P c (m.fr,m.it)) m.n (w6 m.it)).2,⟨rf,tv⟩,rfl,false,fun _=>⟨nW c.st _,gi _⟩,?_⟩
 rw[show dh (qR c.st) (r5 (m.fr,m.it)) (aR (fJ (eH P c (m.fr,m.it)) m.n (w6 m.it)).2)=qR (aN c.st (m.fr,m.it) (fJ (eH P c (m.fr,m.it)) m.n (w6 m.it)).2)from cY jc c.st _ _]
 exact⟨by kernel_rfl,ext (by kernel_rfl) rfl rfl⟩
end
section
open Go.Proofs Go.Sort Go.RowKit
theorem FY(w:World):Calls Tryz.prog 238 #[.slice none 0 0] w fun e w'=>e=.returned (.slice none 0 0)/\w'=w:=by
 go_enter Tryz.func238,Tryz.ntmps238
 go_wp2
 go_ret
 exact⟨by simp,rfl⟩
theorem y5(a:Addr)(l c:Nat)(h:l<=c)(w:World):Calls Tryz.prog 238 #[.slice (some a) l c] w fun e w'=>e=.returned (.slice (some a) l l)/\w'=w:=by
 go_enter Tryz.func238,Tryz.ntmps238
 go_wp2
 go_ret
 exact⟨by simp,rfl⟩
open Go.TM
variable [aW]
theorem FZ:gS Tryz.prog 238:=⟨_,Tryz.func238,by kernel_rfl,by kernel_rfl⟩
theorem UN{a:DV}(h:∀(M:Mem) v,bq M a v->v=.slice none 0 0\/∃p l c,l<=c/\v=.slice (some p) l c/\bq M a (.slice (some p) l l)):ai Tryz.prog 238 [a] [a]:=by
 refine⟨FZ,fun w M vs dz hg hr=>?_⟩
 match vs,hr with
 |[v],hr=>
  have hv:bq M a v:=hr.2 0 a v rfl rfl
  rcases h M v hv with rfl|⟨p,l,c,h1,rfl,h3⟩
  ·refine(FY w).mono ?_
   rintro e w' ⟨rfl,rfl⟩
   exact⟨_,M,rfl,Below.refl _ _,Mem.Le.refl _,dz,fun _ _=>rfl,hv⟩
  ·refine(y5 p l c h1 w).mono ?_
   rintro e w' ⟨rfl,rfl⟩
   exact⟨_,M,rfl,Below.refl _ _,Mem.Le.refl _,dz,fun _ _=>rfl,h3⟩
theorem y6:ai Tryz.prog 238 [.aH] [.aH]:=UN fun M v hv=>by
 generalize hx:DV.aH=x at hv
 cases hv with
 |aH=>exact .inl rfl
 |_=>cases hx
end
section
open Go.TM
def MH(P:PL)(c:Ch)(x:Lt):Int:=bif (bif x.f.tdiv 4294967296==P.sh then true else decide (12<=x.f.tdiv 4294967296))then 1 else match ss c.imp P.imp x.f with
 |some _=>8
 |none=>0
def QA(P:PL)(c:Ch)(x:Lt):Ch:=if MH P c x=0 then { c with imp:=aN c.imp x.f (cW [x]) }else c
theorem Df(x:Lt):(kD [x] []).1=[]:=by
 simp only[kD,kC,List.dropWhile_nil,zJ,List.flatMap_cons,List.flatMap_nil,List.append_nil]
 split<;>rfl
variable [aW]
theorem IH(P:PL)(c:Ch)(m:eS)(x:Lt)(hp:m.ps=[x])(hx:aJ x=true)(hf:x.f<=9223372036854775807)(hq:∀l,ss c.imp P.imp x.f=some l->NS l/\(∀y∈l,aJ y=true)/\l.length<=5000/\(kD [x] l).1≠[]):aw Tryz.prog 216 [.ptr 0 0,cP (ay m)] 14 (dP 0 0 P c) 0 [.dv (I (MH P c x))] (dP 0 0 P (QA P c x)):=by
 have lp:(m.ps.map aD).length=1:=by rw[hp];rfl
 have ix:(m.ps.map aD)[(0:Int).toNat]?=some (aD x):=by rw[hp];rfl
 refine cO Tryz.func216 rfl (by kernel_rfl) ?_
 repeat refine gG ?_
 refine⟨Nat,fun i=>⟨15,[(0,.ptr 0 0),(12,.dv (.sl 3 (m.ps.map aD))),(13,.dv (I (m.ps.map aD).length)),(14,.dv (I i))],dP 0 0 P (match i with|0=>c|_=>QA P c x)⟩,fun i=>i<=1/\(i=1->MH P c x=0),fun i=>1-i,0,fun _=>rfl,jn rfl rfl rfl rfl,by omega,?_⟩
 rintro i ⟨hi,hz⟩
 refine adh ?_ ?_
 ·intro h
  have h0:i=0:=by have:=adz h;omega
  subst h0
  have hb:=ak.1 hx
  have ji:=Int.tdiv_nonneg hb.1 (show(0:Int)<=4294967296 by decide)
  have ct:x.f.tdiv 4294967296<=x.f:=Int.tdiv_le_self _ hb.1
  refine⟨aD x,fun _=>⟨by omega,ix⟩,?_⟩
  refine⟨fun _ h=>(by cases h),fun _=>by omega,?_⟩
  repeat refine gG ?_
  refine adh ?_ ?_
  ·intro h
   have he:MH P c x=1:=by unfold MH;rw[h];rfl
   have hc:QA P c x=c:=by unfold QA;rw[he];rfl
   rw[he,hc]
   exact ext (by kernel_rfl) rfl rfl
  intro h
  refine .inr (cl [3,12] (y4 c.imp P.imp x.f) (by kernel_rfl) rfl rfl ?_)
  cases hu:ss c.imp P.imp x.f with
  |some l=>
   obtain⟨q1,q2,q3,q4⟩:=hq l hu
   have he:MH P c x=8:=by unfold MH;rw[h,hu];rfl
   have hc:QA P c x=c:=by unfold QA;rw[he];rfl
   rw[he,hc]
   refine adh (by kernel_rfl) ?_
   refine .inl ⟨[aD x],rfl,⟨rf,rf,rf,tv⟩,(by simp;rfl),?_⟩
   refine .inl ⟨_,fun _=>(j3 [x] l (by simpa using hx) q1 q2 (by simp) q3 (by simp;omega)).ok,?_⟩
   repeat refine gG ?_
   refine adh (fun _=>ext (by kernel_rfl) rfl rfl) fun h=>?_
   have h:¬(0:Int)<((kD [x] l).1.map aD).length:=adA h
   rw[adi]at h
   have:=List.length_pos_iff.2 q4
   omega
  |none=>
   have he:MH P c x=0:=by unfold MH;rw[h,hu];rfl
   have hc:QA P c x={ c with imp:=aN c.imp x.f (cW [x]) }:=by unfold QA;rw[he];rfl
   rw[he,hc]
   refine adh (by kernel_rfl) ?_
   refine .inl ⟨[aD x],rfl,⟨rf,rf,rf,tv⟩,(by simp;rfl),?_⟩
   have hd:=j3 [x] [] (by simpa using hx) NS.nil (by simp) (by simp) (by simp) (by simp)
   rw[Df]at hd
   refine .inl ⟨_,fun _=>⟨[aR [x],aR []],⟨rf,DV.aY 3,tv⟩,hd⟩,?_⟩
   repeat refine gG ?_
   refine adh (fun h=>(by cases h)) fun _=>?_
   refine .inl ⟨_,fun _=>y6.ok,?_⟩
   refine .inl ⟨[aD x],rfl,⟨rf,rf,rf,tv⟩,(by simp;rfl),?_⟩
   refine .inr ⟨[aD x],bW.refl _,Nat.le_of_ble_eq_true rfl,Nat.le_of_ble_eq_true rfl,?_⟩
   refine .inl (.inr ⟨_,fun _=>⟨[aR [x]],⟨rf,tv⟩,mW [x] (by simpa using hx) (by simp)⟩,?_⟩)
   refine⟨j7,eI x.f,rfl,rfl,aR (cW [x]),⟨rf,tv⟩,rfl,false,fun _=>⟨De c.imp _,gi _⟩,?_⟩
   rw[show dh (pQ c.imp) (eI x.f) (aR (cW [x]))=pQ (aN c.imp x.f (cW [x]))from cY jd c.imp _ _]
   refine adh (by kernel_rfl) ?_
   exact⟨fun _=>by omega,1,jn rfl rfl rfl rfl,⟨by omega,fun _=>rfl⟩,mlt (by omega)⟩
 ·intro h
  have h1:i=1:=by have:=adA h;omega
  subst h1
  rw[hz rfl]
  exact ext (by kernel_rfl) rfl rfl
end
section
open Go.TM
variable [aW]
end
section
open Go.TM
variable [aW]
theorem r9(P:PL)(c c':Ch)(m:eS)(l:List Lt)(e:Int)(hf:m.fr≠0)(hw:aw Tryz.prog 215 [.ptr 0 0,cP (ay m)] 14 (dP 0 0 P c) 0 [.dv (aR l),.dv (I e)] (dP 0 0 P c')):aw Tryz.prog 145 [.ptr 0 0,cP (ay m)] 14 (dP 0 0 P c) 0 [.dv (aR l),.dv (I e)] (dP 0 0 P c'):=by
 refine cO Tryz.func145 rfl (by kernel_rfl) ?_
 repeat refine gG ?_
 refine adh (fun _=>?_) fun h=>absurd (by simpa using h) hf
 refine .inr (cl [0,1,2,3,4,5,6,7,8,9,10,11,12,13] hw (by kernel_rfl) rfl rfl ?_)
 exact ext (by kernel_rfl) rfl rfl
theorem II(P:PL)(c:Ch)(m:eS)(hf:m.fr=0)(h5:c.sp.kind≠5)(h9:c.sp.kind≠9):aw Tryz.prog 145 [.ptr 0 0,cP (ay m)] 14 (dP 0 0 P c) 0 [.dv (aR []),.dv (I 0)] (dP 0 0 P c):=by
 refine cO Tryz.func145 rfl (by kernel_rfl) ?_
 repeat refine gG ?_
 refine adh (fun h=>absurd hf (by simpa using h)) fun _=>?_
 refine adh (fun h=>absurd (beq_iff_eq.1 h) h5) fun _=>?_
 refine adh (fun h=>absurd (beq_iff_eq.1 h) h9) fun _=>?_
 exact⟨_,_,⟨rfl,rfl⟩,by kernel_rfl,⟨DV.aY 3,rf,tv⟩,bl (k:=dP 0 0 P c) rfl⟩
theorem IJ(P:PL)(c:Ch)(m:eS)(x:Lt)(hf:m.fr=0)(h5:c.sp.kind=5)(hp:m.ps=[x])(hx:aJ x=true)(hm:x.f<=9223372036854775807)(hq:∀l,ss c.imp P.imp x.f=some l->NS l/\(∀y∈l,aJ y=true)/\l.length<=5000/\(kD [x] l).1≠[]):aw Tryz.prog 145 [.ptr 0 0,cP (ay m)] 14 (dP 0 0 P c) 0 [.dv (aR [x]),.dv (I (MH P c x))] (dP 0 0 P (QA P c x)):=by
 refine cO Tryz.func145 rfl (by kernel_rfl) ?_
 repeat refine gG ?_
 refine adh (fun h=>absurd hf (by simpa using h)) fun _=>?_
 refine adh (fun _=>?_) fun h=>absurd h5 (beq_eq_false_iff_ne.1 h)
 refine .inr (cl [] (fj m.ps (by rw[hp];simp)) (by kernel_rfl) rfl rfl ?_)
 refine .inr (cl [0,1,2,3,4,5,6,7,8,9,10,11,12,13] (IH P c m x hp hx hm hq) (by kernel_rfl) rfl rfl ?_)
 refine adh (by kernel_rfl) ?_
 rw[hp]
 exact⟨_,_,⟨rfl,rfl⟩,by kernel_rfl,⟨nS _,rf,tv⟩,bl (k:=dP 0 0 P (QA P c x)) rfl⟩
end
section
open Go.TM
def dX(P:PL)(c:Ch)(m:eS):Int:=(aV c.cj m.it).getD (FK P.cj m.it)
def dQ(P:PL)(c:Ch)(m:eS)(l:List Lt)(md:List Int):j4:=⟨P.sh*4294967296+P.fl.length+c.fl.length,c.sp.id,c.sp.kind,c.sp.tick,c.sp.ko,m.fr,m.to,m.it,m.n,l,md⟩
def Ai(P:PL)(c:Ch)(m:eS)(t:Int)(l:List Lt)(md:List Int):Ch:={ c with cj:=aN c.cj m.it t,fl:=c.fl++[dQ P c m l md] }
def chL(v u:Nat)(P:PL)(c:Ch)(F S:List DV):ae:=[(0,.cells (chC v u c)),(1,.tree 0 0 (.omap eZ (qR c.st))),(2,.tree 0 0 (.omap cS (oN c.cj))),(3,.tree 0 0 (.omap cS (pQ c.imp))),(4,.tree 0 0 (.omap cS (pQ c.ret))),(5,.tree v 0 (.aI 11 F)),(6,.tree u 0 (.aI 1 S))]++aa5 P
theorem UO(v u:Nat)(P:PL)(c:Ch)(f:List j4)(x:j4)(g:List Int)(y:Int):dP v u P { c with fl:=f++[x],sk:=g++[y] }=chL v u P { c with fl:=f++[x],sk:=g++[y] } (f.map bB++[bB x]) (g.map I++[I y]):=by
 unfold dP chL;simp only[adB,List.map_cons,List.map_nil]
theorem qy(v u:Nat)(P:PL)(c:Ch)(f:List j4)(x:j4):dP v u P { c with fl:=f++[x] }=chL v u P { c with fl:=f++[x] } (f.map bB++[bB x]) (c.sk.map I):=by
 unfold dP chL;simp only[adB,List.map_cons,List.map_nil]
theorem q8(m:IM Int)(k:Int):ca (oN m) (eI k)=bif (aV m k).isSome then some (I ((aV m k).getD 0))else none:=by
 rw[show ca (oN m) (eI k)=_ from hU (ev:=eI) jd m k]
 cases aV m k<;>rfl
theorem q9(m:IM Int)(k:Int)(h:(aV m k).isSome=false):I ((aV m k).getD 0)=I 0:=by
 cases hq:aV m k with
 |none=>rfl
 |some b=>rw[hq]at h;cases h
theorem F0{P:PL}{c:Ch}{m:eS}(h:(aV c.cj m.it).isSome=true):(aV c.cj m.it).getD 0=dX P c m:=by
 unfold dX
 cases hq:aV c.cj m.it with
 |none=>rw[hq]at h;cases h
 |some b=>rfl
theorem F1{P:PL}{c:Ch}{m:eS}(h:(aV c.cj m.it).isSome=false):FK P.cj m.it=dX P c m:=by
 unfold dX
 cases hq:aV c.cj m.it with
 |none=>rfl
 |some b=>rw[hq]at h;cases h
variable [aW]
theorem y7(P:PL)(c c':Ch)(m:eS)(l:List Lt)(e:Int)(he:e≠0)(ht:aw Tryz.prog 145 [.ptr 0 0,cP (ay m)] 14 (dP 0 0 P c) 0 [.dv (aR l),.dv (I e)] (dP 0 0 P c')):
 aw Tryz.prog 99 [.ptr 0 0,cP (ay m)] 14 (dP 1 1 P c) 0 [.dv (I e)] (dP 1 1 P c'):=by
 refine cO Tryz.func99 rfl (by kernel_rfl) ?_
 repeat refine gG ?_
 refine .inr (cl [0,1,2,3,4,5,6,7,8,9,10,11,12,13] ht (by kernel_rfl) rfl rfl ?_)
 repeat refine gG ?_
 refine adh (fun _=>ext (by kernel_rfl) rfl rfl) fun h=>absurd (by simpa using h) he
end
section
open Go.TM
def spI(P:PL)(s:dI):dI:={ s with id:=P.sh*4294967296+P.sp.length }
def ch0(P:PL)(s:dI):Ch:=⟨spI P s,[],[],[],[],[],[]⟩
def QB(P:PL)(c:Ch):ae:=mw P++[(8,.tree 0 0 (.omap eZ (qR c.st))),(9,.tree 0 0 (.omap cS (oN c.cj))),(10,.tree 0 0 (.omap cS (pQ c.imp))),(11,.tree 0 0 (.omap cS (pQ c.ret))),(12,.cells (.ptr 0 0::(fp (aZ c.sp).cells++[.own 8 0 0 [],.own 9 0 0 [],.own 10 0 0 [],.own 11 0 0 [],.own 13 0 0 [],.own 14 0 0 []]))),(13,.tree 0 0 (.aI 11 (c.fl.map bB))),(14,.tree 0 0 (.aI 1 (c.sk.map I)))]
def IK(P:PL)(s:dI)(cN:Nat->Ch):Nat->Ch
 |0=>ch0 P s
 |i+1=>cN i
variable [aW]
theorem MI(P:PL)(s:dI)(hr:LM s.aX)(hs:0<=P.sh/\P.sh<=12)(hl:s.mv.length<=1000)(mM:∀m∈s.mv,m.ps.length<=4000)(hp:r8 (fw P.sp) s=true)(aB:(P.sp.length:Int)<65536)
 (cN:Nat->Ch) (k:Nat) (hk:k<s.mv.length) (e:Int) (he:e≠0) (c':Ch)
 (hH:∀i m,i<k->s.mv[i]?=some m->aw Tryz.prog 99 [.ptr 0 0,cP (ay m)] 14 (dP 0 0 P (IK P s cN i)) 0 [.dv (I 0)] (dP 1 1 P (IK P s cN (i+1))))
 (hE:∀m,s.mv[k]?=some m->aw Tryz.prog 99 [.ptr 0 0,cP (ay m)] 14 (dP 0 0 P (IK P s cN k)) 0 [.dv (I e)] (dP 1 1 P c')):
 aw Tryz.prog 51 [.ptr 0 0,cP (aZ s)] 7 (mw P) 0 [.dv .eJ,.dv (I e)] (mw P):=by
 have lp:(P.sp.map aZ).length=P.sp.length:=adi ..
 have lm:(s.mv.map ay).length=s.mv.length:=adi ..
 have Wl:=mj P s hr (by omega) hl mM
 rw[hp]at Wl
 refine cO Tryz.func51 rfl (by kernel_rfl) ?_
 repeat refine gG ?_
 refine adh (fun h2=>absurd (adz h2) (by omega)) fun _=>?_
 refine .inr (cl [0,1,2,3,4,5,6] Wl (by kernel_rfl) rfl rfl ?_)
 refine adh (fun h=>(by cases h)) fun _=>?_
 refine .inl ⟨_,fun _=>(Bs s (by omega) fun m hm=>by have:=mM m hm;omega).ok,?_⟩
 refine⟨eZ,cS,cS,cS,fun _=>by omega,fun _=>by omega,?_⟩
 refine adh (by kernel_rfl) ?_
 refine⟨Nat,fun i=>⟨15,[(0,.ptr 0 0),(6,.ptr 12 0),(48,.dv (.sl 5 (s.mv.map ay))),(49,.dv (I (s.mv.map ay).length)),(50,.dv (I i))],QB P (IK P s cN i)⟩,fun i=>i<=k,fun i=>s.mv.length-i,0,fun _=>rfl,?_,adx _,?_⟩
 ·refine⟨⟨rfl,rfl,rf,rf,rf,tv⟩,?_,?_,?_⟩
  ·repeat' first|exact trivial|rfl|exact rf|refine adh ?_ ?_
   all_goals first|exact⟨11,rfl⟩|exact⟨1,rfl⟩|exact aM (by rw[lp];rfl)
  ·rfl
  ·rfl
 intro i hi
 refine adh ?_ ?_
 ·intro h
  have aB:i<s.mv.length:=by have:=adz h;omega
  obtain⟨m,hm⟩:∃m,s.mv[i]?=some m:=⟨_,abK aB⟩
  have im:(s.mv.map ay)[(i:Int).toNat]?=some (ay m):=by rw[adk];exact congrArg (Option.map ay) hm
  refine⟨ay m,fun _=>⟨by omega,im⟩,?_⟩
  by_cases CA:i=k
  ·subst CA
   refine .inr (cl [12,8,9,10,11,13,14,0,1,2,3,4,5,6] (hE m hm) (by kernel_rfl) rfl rfl ?_)
   refine adh (fun _=>ext (by kernel_rfl) rfl rfl) fun h=>absurd (by simpa using h) he
  ·have zM:i<k:=by have:i<=k:=hi;omega
   refine .inr (cl [12,8,9,10,11,13,14,0,1,2,3,4,5,6] (hH i m zM hm) (by kernel_rfl) rfl rfl ?_)
   refine adh (fun h=>(by cases h)) fun _=>?_
   exact⟨fun _=>by omega,i+1,jn rfl rfl rfl rfl,zM,mlt aB⟩
 ·intro h
  have:=adA h
  have:i<=k:=hi
  omega
theorem MJ(P:PL)(s:dI)(hr:LM s.aX)(hs:0<=P.sh/\P.sh<=12)(hl:s.mv.length<=1000)(mM:∀m∈s.mv,m.ps.length<=4000)(hp:r8 (fw P.sp) s=true)(aB:(P.sp.length:Int)<65536)
 (cN:Nat->Ch)
 (hH:∀i m,s.mv[i]?=some m->aw Tryz.prog 99 [.ptr 0 0,cP (ay m)] 14 (dP 0 0 P (IK P s cN i)) 0 [.dv (I 0)] (dP 1 1 P (IK P s cN (i+1)))):
 aw Tryz.prog 51 [.ptr 0 0,cP (aZ s)] 7 (mw P) 8 [.ptr 12 0,.dv (I 0)] (QB P (IK P s cN s.mv.length)):=by
 have lp:(P.sp.map aZ).length=P.sp.length:=adi ..
 have lm:(s.mv.map ay).length=s.mv.length:=adi ..
 have Wl:=mj P s hr (by omega) hl mM
 rw[hp]at Wl
 refine cO Tryz.func51 rfl (by kernel_rfl) ?_
 repeat refine gG ?_
 refine adh (fun h2=>absurd (adz h2) (by omega)) fun _=>?_
 refine .inr (cl [0,1,2,3,4,5,6] Wl (by kernel_rfl) rfl rfl ?_)
 refine adh (fun h=>(by cases h)) fun _=>?_
 refine .inl ⟨_,fun _=>(Bs s (by omega) fun m hm=>by have:=mM m hm;omega).ok,?_⟩
 refine⟨eZ,cS,cS,cS,fun _=>by omega,fun _=>by omega,?_⟩
 refine adh (by kernel_rfl) ?_
 refine⟨Nat,fun i=>⟨15,[(0,.ptr 0 0),(6,.ptr 12 0),(48,.dv (.sl 5 (s.mv.map ay))),(49,.dv (I (s.mv.map ay).length)),(50,.dv (I i))],QB P (IK P s cN i)⟩,fun i=>i<=s.mv.length,fun i=>s.mv.length-i,0,fun _=>rfl,?_,adx _,?_⟩
 ·refine⟨⟨rfl,rfl,rf,rf,rf,tv⟩,?_,?_,?_⟩
  ·repeat' first|exact trivial|rfl|exact rf|refine adh ?_ ?_
   all_goals first|exact⟨11,rfl⟩|exact⟨1,rfl⟩|exact aM (by rw[lp];rfl)
  ·rfl
  ·rfl
 intro i hi
 refine adh ?_ ?_
 ·intro h
  have aB:i<s.mv.length:=by have:=adz h;omega
  obtain⟨m,hm⟩:∃m,s.mv[i]?=some m:=⟨_,abK aB⟩
  have im:(s.mv.map ay)[(i:Int).toNat]?=some (ay m):=by rw[adk];exact congrArg (Option.map ay) hm
  refine⟨ay m,fun _=>⟨by omega,im⟩,?_⟩
  refine .inr (cl [12,8,9,10,11,13,14,0,1,2,3,4,5,6] (hH i m hm) (by kernel_rfl) rfl rfl ?_)
  refine adh (fun h=>(by cases h)) fun _=>?_
  exact⟨fun _=>by omega,i+1,jn rfl rfl rfl rfl,aB,mlt aB⟩
 ·intro h
  have hi:i<=s.mv.length:=hi
  have he:i=s.mv.length:=by have:=adA h;omega
  subst he
  exact ext (by kernel_rfl) rfl rfl
end
section
open Go.TM
variable [aW]
theorem y8(P:PL)(s:dI)(e:Int)(he:e≠0)(h:aw Tryz.prog 51 [.ptr 0 0,cP (aZ s)] 7 (mw P) 0 [.dv .eJ,.dv (I e)] (mw P)):aw Tryz.prog 17 [.ptr 0 0,cP (aZ s)] 7 (mw P) 0 [.dv (I 0),.dv (I e)] (mw P):=by
 refine cO Tryz.func17 rfl (by kernel_rfl) ?_
 repeat refine gG ?_
 refine .inr (cl [0,1,2,3,4,5,6] h (by kernel_rfl) rfl rfl ?_)
 exact adh (fun _=>ext (by kernel_rfl) rfl rfl) fun h=>absurd (by simpa using h) he
end
section
open Go.TM
variable [aW]
end
end Go.Proofs.YtfpebgpgabjieaaGreatDoor
