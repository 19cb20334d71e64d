import Derived.Test.YtpbiiigpphehbaaGreatDoorFM44
import Derived.Test.YtpbiiigpphehbaaGreatDoorFM42
set_option linter.all false
namespace Go.Proofs.YtpbiiigpphehbaaGreatDoor
set_option maxRecDepth 100000
set_option maxHeartbeats 4000000
section
open Go.TM
def Mp(P:PL)(c:Ch)(x:Lt):Int:=bif (bif x.f.tdiv 4294967296==P.sh then true else decide (12<=x.f.tdiv 4294967296))then 1 else match Q5 c.imp P.imp x.f with
 |some _=>8
 |none=>0
def Qd(P:PL)(c:Ch)(x:Lt):Ch:=if Mp P c x=0 then { c with imp:=aU c.imp x.f (iT [x]) }else c
theorem SZ(x:Lt):(An [x] []).1=[]:=by
 simp only[An,oA,List.dropWhile_nil,D0,List.flatMap_cons,List.flatMap_nil,List.append_nil]
 split<;>rfl
variable [bJ]
theorem IS(P:PL)(c:Ch)(m:dX)(x:Lt)(hp:m.ps=[x])(hx:aQ x=true)(hf:x.f<=9223372036854775807)(hq:∀l,Q5 c.imp P.imp x.f=some l->NS l/\(∀y∈l,aQ y=true)/\l.length<=5000/\(An [x] l).1≠[]):aq Tryz.prog 163 [.ptr 0 0,cJ (ak m)] 14 (eZ 0 0 P c) 0 [.dv (I (Mp P c x))] (eZ 0 0 P (Qd P c x)):=by
 have lp:(m.ps.map aF).length=1:=by rw[hp];rfl
 have ix:(m.ps.map aF)[(0:Int).toNat]?=some (aF x):=by rw[hp];rfl
 refine cO Tryz.func163 rfl (by kernel_rfl) ?_
 repeat first|apply g1|apply g2|apply g3|apply g4|apply g5
 refine⟨Nat,fun i=>⟨15,[(0,.ptr 0 0),(12,.dv (.sl 3 (m.ps.map aF))),(13,.dv (I (m.ps.map aF).length)),(14,.dv (I i))],eZ 0 0 P (match i with|0=>c|_=>Qd P c x)⟩,fun i=>i<=1/\(i=1->Mp P c x=0),fun i=>1-i,0,fun _=>rfl,jn rfl rfl rfl rfl,⟨by omega,by omega⟩,?_⟩
 rintro i ⟨hi,hz⟩
 refine aby ?_ ?_
 ·intro h
  have h0:i=0:=by have:=abQ h;omega
  subst h0
  have hb:=aw.1 hx
  have jP:=Int.tdiv_nonneg hb.1 (show(0:Int)<=4294967296 by decide)
  have cd:x.f.tdiv 4294967296<=x.f:=Int.tdiv_le_self _ hb.1
  refine⟨aF x,fun _=>⟨by omega,ix⟩,?_⟩
  refine⟨fun _ h=>(by cases h),fun _=>⟨by omega,by omega⟩,?_⟩
  repeat first|apply g1|apply g2|apply g3|apply g4|apply g5
  refine aby ?_ ?_
  ·intro h
   have he:Mp P c x=1:=by unfold Mp;rw[h];rfl
   have hc:Qd P c x=c:=by unfold Qd;rw[he];rfl
   rw[he,hc]
   exact ext (by kernel_rfl) rfl rfl
  intro h
  refine .inr (cl [3,12] (IN c.imp P.imp x.f) (by kernel_rfl) rfl rfl ?_)
  cases hu:Q5 c.imp P.imp x.f with
  |some l=>
   obtain⟨q1,q2,q3,q4⟩:=hq l hu
   have he:Mp P c x=8:=by unfold Mp;rw[h,hu];rfl
   have hc:Qd P c x=c:=by unfold Qd;rw[he];rfl
   rw[he,hc]
   refine aby (by kernel_rfl) ?_
   refine .inl ⟨[aF x],rfl,⟨rf,rf,rf,tv⟩,(by simp;rfl),?_⟩
   refine .inl ⟨_,fun _=>(vV [x] l (by simpa using hx) q1 q2 (by simp) q3 (by simp;omega)).ok,?_⟩
   repeat first|apply g1|apply g2|apply g3|apply g4|apply g5
   refine aby (fun _=>ext (by kernel_rfl) rfl rfl) fun h=>?_
   have h:¬(0:Int)<((An [x] l).1.map aF).length:=abR h
   rw[abz]at h
   have:=List.length_pos_iff.2 q4
   omega
  |none=>
   have he:Mp P c x=0:=by unfold Mp;rw[h,hu];rfl
   have hc:Qd P c x={ c with imp:=aU c.imp x.f (iT [x]) }:=by unfold Qd;rw[he];rfl
   rw[he,hc]
   refine aby (by kernel_rfl) ?_
   refine .inl ⟨[aF x],rfl,⟨rf,rf,rf,tv⟩,(by simp;rfl),?_⟩
   have hd:=vV [x] [] (by simpa using hx) NS.nil (by simp) (by simp) (by simp) (by simp)
   rw[SZ]at hd
   refine .inl ⟨_,fun _=>⟨[aS [x],aS []],⟨rf,DV.aL 3,tv⟩,hd⟩,?_⟩
   repeat first|apply g1|apply g2|apply g3|apply g4|apply g5
   refine aby (fun h=>(by cases h)) fun _=>?_
   refine .inl ⟨_,fun _=>IQ.ok,?_⟩
   refine .inl ⟨[aF x],rfl,⟨rf,rf,rf,tv⟩,(by simp;rfl),?_⟩
   refine .inr ⟨[aF x],b7.refl _,Nat.le_of_ble_eq_true rfl,Nat.le_of_ble_eq_true rfl,?_⟩
   refine .inl (.inr ⟨_,fun _=>⟨[aS [x]],⟨rf,tv⟩,FZ [x] (by simpa using hx) (by simp)⟩,?_⟩)
   refine⟨kh,eI x.f,rfl,rfl,aS (iT [x]),⟨rf,tv⟩,rfl,false,fun _=>⟨P9 c.imp _,gU _⟩,?_⟩
   rw[show cW (pJ c.imp) (eI x.f) (aS (iT [x]))=pJ (aU c.imp x.f (iT [x]))from dB jJ c.imp _ _]
   refine aby (by kernel_rfl) ?_
   exact⟨fun _=>⟨by omega,by omega⟩,1,jn rfl rfl rfl rfl,⟨by omega,fun _=>rfl⟩,mlt (by omega)⟩
 ·intro h
  have h1:i=1:=by have:=abR h;omega
  subst h1
  rw[hz rfl]
  exact ext (by kernel_rfl) rfl rfl
end
section
open Go.TM
variable [bJ]
theorem IT(P:PL)(c:Ch)(m:dX)(x:Lt)(hp:m.ps=[x])(hx:aQ x=true)(hf:x.f<=9223372036854775807)(hs:0<=P.sh/\P.sh<=12)(hq:x.f-P.sh*4294967296<0\/(P.fl.length:Int)<=x.f-P.sh*4294967296):aq Tryz.prog 164 [.ptr 0 0,cJ (ak m)] 14 (eZ 0 0 P c) 0 [.dv (I 10)] (eZ 0 0 P c):=by
 have lp:(m.ps.map aF).length=1:=by rw[hp];rfl
 have ix:(m.ps.map aF)[(0:Int).toNat]?=some (aF x):=by rw[hp];rfl
 have lf:(P.fl.map aM).length=P.fl.length:=abz ..
 have hb:=aw.1 hx
 refine cO Tryz.func164 rfl (by kernel_rfl) ?_
 repeat first|apply g1|apply g2|apply g3|apply g4|apply g5
 refine⟨Nat,fun i=>⟨15,[(0,.ptr 0 0),(13,.dv (.sl 3 (m.ps.map aF))),(14,.dv (I (m.ps.map aF).length)),(15,.dv (I i))],eZ 0 0 P c⟩,fun i=>i=0,fun i=>1-i,0,fun _=>rfl,jn rfl rfl rfl rfl,rfl,?_⟩
 rintro i hi
 subst hi
 refine aby ?_ ?_
 ·intro h
  refine⟨aF x,fun _=>⟨by omega,ix⟩,?_⟩
  repeat first|apply g1|apply g2|apply g3|apply g4|apply g5|refine⟨fun _=>⟨by omega,by omega⟩,?_⟩
  refine aby (by kernel_rfl) ?_
  repeat first|apply g1|apply g2|apply g3|apply g4|apply g5
  refine aby (fun _=>ext (by kernel_rfl) rfl rfl) fun h=>?_
  rw[lf]at h
  simp at h
  omega
 ·intro h
  have:=abR h
  omega
end
section
open Go.TM
variable [bJ]
theorem zu(P:PL)(c c':Ch)(m:dX)(l:List Lt)(e:Int)(hf:m.fr≠0)(hw:aq Tryz.prog 162 [.ptr 0 0,cJ (ak m)] 14 (eZ 0 0 P c) 0 [.dv (aS l),.dv (I e)] (eZ 0 0 P c')):aq Tryz.prog 94 [.ptr 0 0,cJ (ak m)] 14 (eZ 0 0 P c) 0 [.dv (aS l),.dv (I e)] (eZ 0 0 P c'):=by
 refine cO Tryz.func94 rfl (by kernel_rfl) ?_
 repeat first|apply g1|apply g2|apply g3|apply g4|apply g5
 refine aby (fun _=>?_) fun h=>absurd (by simpa using h) hf
 refine .inr (cl [0,1,2,3,4,5,6,7,8,9,10,11,12,13] hw (by kernel_rfl) rfl rfl ?_)
 exact ext (by kernel_rfl) rfl rfl
theorem IU(P:PL)(c:Ch)(m:dX)(hf:m.fr=0)(h5:c.sp.kind≠5)(h9:c.sp.kind≠9):aq Tryz.prog 94 [.ptr 0 0,cJ (ak m)] 14 (eZ 0 0 P c) 0 [.dv (aS []),.dv (I 0)] (eZ 0 0 P c):=by
 refine cO Tryz.func94 rfl (by kernel_rfl) ?_
 repeat first|apply g1|apply g2|apply g3|apply g4|apply g5
 refine aby (fun h=>absurd hf (by simpa using h)) fun _=>?_
 refine aby (fun h=>absurd (beq_iff_eq.1 h) h5) fun _=>?_
 refine aby (fun h=>absurd (beq_iff_eq.1 h) h9) fun _=>?_
 exact⟨_,_,⟨rfl,rfl⟩,by kernel_rfl,⟨DV.aL 3,rf,tv⟩,bl (k:=eZ 0 0 P c) rfl⟩
theorem IV(P:PL)(c:Ch)(m:dX)(x:Lt)(hf:m.fr=0)(h5:c.sp.kind=5)(hp:m.ps=[x])(hx:aQ x=true)(hm:x.f<=9223372036854775807)(hq:∀l,Q5 c.imp P.imp x.f=some l->NS l/\(∀y∈l,aQ y=true)/\l.length<=5000/\(An [x] l).1≠[]):aq Tryz.prog 94 [.ptr 0 0,cJ (ak m)] 14 (eZ 0 0 P c) 0 [.dv (aS [x]),.dv (I (Mp P c x))] (eZ 0 0 P (Qd P c x)):=by
 refine cO Tryz.func94 rfl (by kernel_rfl) ?_
 repeat first|apply g1|apply g2|apply g3|apply g4|apply g5
 refine aby (fun h=>absurd hf (by simpa using h)) fun _=>?_
 refine aby (fun _=>?_) fun h=>absurd h5 (beq_eq_false_iff_ne.1 h)
 refine .inr (cl [] (eY m.ps (by rw[hp];simp)) (by kernel_rfl) rfl rfl ?_)
 refine .inr (cl [0,1,2,3,4,5,6,7,8,9,10,11,12,13] (IS P c m x hp hx hm hq) (by kernel_rfl) rfl rfl ?_)
 refine aby (by kernel_rfl) ?_
 rw[hp]
 exact⟨_,_,⟨rfl,rfl⟩,by kernel_rfl,⟨tq _,rf,tv⟩,bl (k:=eZ 0 0 P (Qd P c x)) rfl⟩
theorem IW(P:PL)(c:Ch)(m:dX)(x:Lt)(hf:m.fr=0)(h9:c.sp.kind=9)(hp:m.ps=[x])(hx:aQ x=true)(hm:x.f<=9223372036854775807)(hs:0<=P.sh/\P.sh<=12)(hq:x.f-P.sh*4294967296<0\/(P.fl.length:Int)<=x.f-P.sh*4294967296):aq Tryz.prog 94 [.ptr 0 0,cJ (ak m)] 14 (eZ 0 0 P c) 0 [.dv (aS [x]),.dv (I 10)] (eZ 0 0 P c):=by
 refine cO Tryz.func94 rfl (by kernel_rfl) ?_
 repeat first|apply g1|apply g2|apply g3|apply g4|apply g5
 refine aby (fun h=>absurd hf (by simpa using h)) fun _=>?_
 refine aby (fun h=>absurd (h9.symm.trans (beq_iff_eq.1 h)) (by decide)) fun _=>?_
 refine aby (fun _=>?_) fun h=>absurd h9 (beq_eq_false_iff_ne.1 h)
 refine .inr (cl [] (eY m.ps (by rw[hp];simp)) (by kernel_rfl) rfl rfl ?_)
 refine .inr (cl [0,1,2,3,4,5,6,7,8,9,10,11,12,13] (IT P c m x hp hx hm hs hq) (by kernel_rfl) rfl rfl ?_)
 refine aby (by kernel_rfl) ?_
 rw[hp]
 exact⟨_,_,⟨rfl,rfl⟩,by kernel_rfl,⟨tq _,rf,tv⟩,bl (k:=eZ 0 0 P c) rfl⟩
end
section
open Go.TM
def eD(P:PL)(c:Ch)(m:dX):Int:=(aR c.b8 m.it).getD (F2 P.b8 m.it)
def dK(P:PL)(c:Ch)(m:dX)(l:List Lt)(md:List Int):oj:=⟨P.sh*4294967296+P.fl.length+c.fl.length,c.sp.id,c.sp.kind,c.sp.tick,c.sp.gl,m.fr,m.to,m.it,m.n,l,md⟩
def Au(P:PL)(c:Ch)(m:dX)(t:Int)(l:List Lt)(md:List Int):Ch:={ c with b8:=aU c.b8 m.it t,fl:=c.fl++[dK P c m l md] }
def chL(v u:Nat)(P:PL)(c:Ch)(F S:List DV):ae:=[(0,.cells (chC v u c)),(1,.tree 0 0 (.omap ey (pI c.st))),(2,.tree 0 0 (.omap cC (nZ c.b8))),(3,.tree 0 0 (.omap cC (pJ c.imp))),(4,.tree 0 0 (.omap cC (pJ c.ret))),(5,.tree v 0 (.aB 11 F)),(6,.tree u 0 (.aB 1 S))]++ZI P
theorem S0(v u:Nat)(P:PL)(c:Ch)(f:List oj)(x:oj)(g:List Int)(y:Int):eZ v u P { c with fl:=f++[x],sk:=g++[y] }=chL v u P { c with fl:=f++[x],sk:=g++[y] } (f.map aM++[aM x]) (g.map I++[I y]):=by
 unfold eZ chL;simp only[abS,List.map_cons,List.map_nil]
theorem qi(v u:Nat)(P:PL)(c:Ch)(f:List oj)(x:oj):eZ v u P { c with fl:=f++[x] }=chL v u P { c with fl:=f++[x] } (f.map aM++[aM x]) (c.sk.map I):=by
 unfold eZ chL;simp only[abS,List.map_cons,List.map_nil]
theorem qG(m:IM Int)(k:Int):bZ (nZ m) (eI k)=bif (aR m k).isSome then some (I ((aR m k).getD 0))else none:=by
 rw[show bZ (nZ m) (eI k)=_ from iN (ev:=eI) jJ m k]
 cases aR m k<;>rfl
theorem qH(m:IM Int)(k:Int)(h:(aR m k).isSome=false):I ((aR m k).getD 0)=I 0:=by
 cases hq:aR m k with
 |none=>rfl
 |some b=>rw[hq]at h;cases h
theorem Gf{P:PL}{c:Ch}{m:dX}(h:(aR c.b8 m.it).isSome=true):(aR c.b8 m.it).getD 0=eD P c m:=by
 unfold eD
 cases hq:aR c.b8 m.it with
 |none=>rw[hq]at h;cases h
 |some b=>rfl
theorem Gg{P:PL}{c:Ch}{m:dX}(h:(aR c.b8 m.it).isSome=false):F2 P.b8 m.it=eD P c m:=by
 unfold eD
 cases hq:aR c.b8 m.it with
 |none=>rfl
 |some b=>rw[hq]at h;cases h
variable [bJ]
theorem zv(P:PL)(c c':Ch)(m:dX)(l:List Lt)(e:Int)(he:e≠0)(ht:aq Tryz.prog 94 [.ptr 0 0,cJ (ak m)] 14 (eZ 0 0 P c) 0 [.dv (aS l),.dv (I e)] (eZ 0 0 P c')):
 aq Tryz.prog 48 [.ptr 0 0,cJ (ak m)] 14 (eZ 1 1 P c) 0 [.dv (I e)] (eZ 1 1 P c'):=by
 refine cO Tryz.func48 rfl (by kernel_rfl) ?_
 repeat first|apply g1|apply g2|apply g3|apply g4|apply g5
 refine .inr (cl [0,1,2,3,4,5,6,7,8,9,10,11,12,13] ht (by kernel_rfl) rfl rfl ?_)
 repeat first|apply g1|apply g2|apply g3|apply g4|apply g5
 refine aby (fun _=>ext (by kernel_rfl) rfl rfl) fun h=>absurd (by simpa using h) he
end
section
open Go.TM
def spI(P:PL)(s:dJ):dJ:={ s with id:=P.sh*4294967296+P.sp.length }
def ch0(P:PL)(s:dJ):Ch:=⟨spI P s,[],[],[],[],[],[]⟩
def Mq(P:PL)(c:Ch):ae:=fG P++[(8,.tree 0 0 (.omap ey (pI c.st))),(9,.tree 0 0 (.omap cC (nZ c.b8))),(10,.tree 0 0 (.omap cC (pJ c.imp))),(11,.tree 0 0 (.omap cC (pJ c.ret))),(12,.cells (.ptr 0 0::(eB (aC c.sp).cells++[.own 8 0 0 [],.own 9 0 0 [],.own 10 0 0 [],.own 11 0 0 [],.own 13 0 0 [],.own 14 0 0 []]))),(13,.tree 0 0 (.aB 11 (c.fl.map aM))),(14,.tree 0 0 (.aB 1 (c.sk.map I)))]
def KC(P:PL)(s:dJ)(cN:Nat->Ch):Nat->Ch
 |0=>ch0 P s
 |i+1=>cN i
variable [bJ]
theorem Mr(P:PL)(s:dJ)(hr:oC s.aD)(hs:0<=P.sh/\P.sh<=12)(hl:s.mv.length<=1000)(lu:∀m∈s.mv,m.ps.length<=4000)(hp:rU (eC P.sp) s=true)(au:(P.sp.length:Int)<65536)
 (cN:Nat->Ch) (k:Nat) (hk:k<s.mv.length) (e:Int) (he:e≠0) (c':Ch)
 (hH:∀i m,i<k->s.mv[i]?=some m->aq Tryz.prog 48 [.ptr 0 0,cJ (ak m)] 14 (eZ 0 0 P (KC P s cN i)) 0 [.dv (I 0)] (eZ 1 1 P (KC P s cN (i+1))))
 (hE:∀m,s.mv[k]?=some m->aq Tryz.prog 48 [.ptr 0 0,cJ (ak m)] 14 (eZ 0 0 P (KC P s cN k)) 0 [.dv (I e)] (eZ 1 1 P c')):
 aq Tryz.prog 21 [.ptr 0 0,cJ (aC s)] 7 (fG P) 0 [.dv .ez,.dv (I e)] (fG P):=by
 have lp:(P.sp.map aC).length=P.sp.length:=abz ..
 have lm:(s.mv.map ak).length=s.mv.length:=abz ..
 have Ue:=mf P s hr (by omega) hl lu
 rw[hp]at Ue
 refine cO Tryz.func21 rfl (by kernel_rfl) ?_
 repeat first|apply g1|apply g2|apply g3|apply g4|apply g5
 refine aby (fun h2=>absurd (abQ h2) (by omega)) fun _=>?_
 refine .inr (cl [0,1,2,3,4,5,6] Ue (by kernel_rfl) rfl rfl ?_)
 refine aby (fun h=>(by cases h)) fun _=>?_
 refine .inl ⟨_,fun _=>(u5 s (by omega) fun m hm=>by have:=lu m hm;omega).ok,?_⟩
 refine⟨ey,cC,cC,cC,fun _=>⟨by omega,by omega⟩,fun _=>⟨by omega,by omega⟩,?_⟩
 refine aby (by kernel_rfl) ?_
 refine⟨Nat,fun i=>⟨15,[(0,.ptr 0 0),(6,.ptr 12 0),(48,.dv (.sl 5 (s.mv.map ak))),(49,.dv (I (s.mv.map ak).length)),(50,.dv (I i))],Mq P (KC P s cN i)⟩,fun i=>i<=k,fun i=>s.mv.length-i,0,fun _=>rfl,?_,abO _,?_⟩
 ·refine⟨⟨rfl,rfl,rf,rf,rf,tv⟩,?_,?_,?_⟩
  ·repeat' first|exact trivial|rfl|exact rf|refine aby ?_ ?_
   all_goals first|exact⟨11,rfl⟩|exact⟨1,rfl⟩|exact aG (by rw[lp];rfl)
  ·rfl
  ·rfl
 intro i hi
 refine aby ?_ ?_
 ·intro h
  have au:i<s.mv.length:=by have:=abQ h;omega
  obtain⟨m,hm⟩:∃m,s.mv[i]?=some m:=⟨_,aaa au⟩
  have im:(s.mv.map ak)[(i:Int).toNat]?=some (ak m):=by rw[abB];exact congrArg (Option.map ak) hm
  refine⟨ak m,fun _=>⟨by omega,im⟩,?_⟩
  by_cases GQ:i=k
  ·subst GQ
   refine .inr (cl [12,8,9,10,11,13,14,0,1,2,3,4,5,6] (hE m hm) (by kernel_rfl) rfl rfl ?_)
   refine aby (fun _=>ext (by kernel_rfl) rfl rfl) fun h=>absurd (by simpa using h) he
  ·have wB:i<k:=by have:i<=k:=hi;omega
   refine .inr (cl [12,8,9,10,11,13,14,0,1,2,3,4,5,6] (hH i m wB hm) (by kernel_rfl) rfl rfl ?_)
   refine aby (fun h=>(by cases h)) fun _=>?_
   exact⟨fun _=>⟨by omega,by omega⟩,i+1,jn rfl rfl rfl rfl,wB,mlt au⟩
 ·intro h
  have:=abR h
  have:i<=k:=hi
  omega
theorem Ms(P:PL)(s:dJ)(hr:oC s.aD)(hs:0<=P.sh/\P.sh<=12)(hl:s.mv.length<=1000)(lu:∀m∈s.mv,m.ps.length<=4000)(hp:rU (eC P.sp) s=true)(au:(P.sp.length:Int)<65536)
 (cN:Nat->Ch)
 (hH:∀i m,s.mv[i]?=some m->aq Tryz.prog 48 [.ptr 0 0,cJ (ak m)] 14 (eZ 0 0 P (KC P s cN i)) 0 [.dv (I 0)] (eZ 1 1 P (KC P s cN (i+1)))):
 aq Tryz.prog 21 [.ptr 0 0,cJ (aC s)] 7 (fG P) 8 [.ptr 12 0,.dv (I 0)] (Mq P (KC P s cN s.mv.length)):=by
 have lp:(P.sp.map aC).length=P.sp.length:=abz ..
 have lm:(s.mv.map ak).length=s.mv.length:=abz ..
 have Ue:=mf P s hr (by omega) hl lu
 rw[hp]at Ue
 refine cO Tryz.func21 rfl (by kernel_rfl) ?_
 repeat first|apply g1|apply g2|apply g3|apply g4|apply g5
 refine aby (fun h2=>absurd (abQ h2) (by omega)) fun _=>?_
 refine .inr (cl [0,1,2,3,4,5,6] Ue (by kernel_rfl) rfl rfl ?_)
 refine aby (fun h=>(by cases h)) fun _=>?_
 refine .inl ⟨_,fun _=>(u5 s (by omega) fun m hm=>by have:=lu m hm;omega).ok,?_⟩
 refine⟨ey,cC,cC,cC,fun _=>⟨by omega,by omega⟩,fun _=>⟨by omega,by omega⟩,?_⟩
 refine aby (by kernel_rfl) ?_
 refine⟨Nat,fun i=>⟨15,[(0,.ptr 0 0),(6,.ptr 12 0),(48,.dv (.sl 5 (s.mv.map ak))),(49,.dv (I (s.mv.map ak).length)),(50,.dv (I i))],Mq P (KC P s cN i)⟩,fun i=>i<=s.mv.length,fun i=>s.mv.length-i,0,fun _=>rfl,?_,abO _,?_⟩
 ·refine⟨⟨rfl,rfl,rf,rf,rf,tv⟩,?_,?_,?_⟩
  ·repeat' first|exact trivial|rfl|exact rf|refine aby ?_ ?_
   all_goals first|exact⟨11,rfl⟩|exact⟨1,rfl⟩|exact aG (by rw[lp];rfl)
  ·rfl
  ·rfl
 intro i hi
 refine aby ?_ ?_
 ·intro h
  have au:i<s.mv.length:=by have:=abQ h;omega
  obtain⟨m,hm⟩:∃m,s.mv[i]?=some m:=⟨_,aaa au⟩
  have im:(s.mv.map ak)[(i:Int).toNat]?=some (ak m):=by rw[abB];exact congrArg (Option.map ak) hm
  refine⟨ak m,fun _=>⟨by omega,im⟩,?_⟩
  refine .inr (cl [12,8,9,10,11,13,14,0,1,2,3,4,5,6] (hH i m hm) (by kernel_rfl) rfl rfl ?_)
  refine aby (fun h=>(by cases h)) fun _=>?_
  exact⟨fun _=>⟨by omega,by omega⟩,i+1,jn rfl rfl rfl rfl,au,mlt au⟩
 ·intro h
  have hi:i<=s.mv.length:=hi
  have he:i=s.mv.length:=by have:=abR h;omega
  subst he
  exact ext (by kernel_rfl) rfl rfl
end
section
open Go.TM
variable [bJ]
theorem BO(P:PL)(s:dJ)(e:Int)(h:aq Tryz.prog 21 [.ptr 0 0,cJ (aC s)] 7 (fG P) 0 [.dv .ez,.dv (I e)] (fG P)):aq Tryz.prog 14 [.ptr 0 0,cJ (aC s)] 7 (fG P) 0 [.dv (I e)] (fG P):=by
 refine cO Tryz.func14 rfl (by kernel_rfl) ?_
 repeat first|apply g1|apply g2|apply g3|apply g4|apply g5
 refine .inr (cl [0,1,2,3,4,5,6] h (by kernel_rfl) rfl rfl ?_)
 exact ext (by kernel_rfl) rfl rfl
theorem Mt(P:PL)(s:dJ)(c:Ch)(h:aq Tryz.prog 21 [.ptr 0 0,cJ (aC s)] 7 (fG P) 8 [.ptr 12 0,.dv (I 0)] (Mq P c)):aq Tryz.prog 14 [.ptr 0 0,cJ (aC s)] 7 (fG P) 0 [.dv (I 0)] (fG P):=by
 refine cO Tryz.func14 rfl (by kernel_rfl) ?_
 repeat first|apply g1|apply g2|apply g3|apply g4|apply g5
 refine .inr (cl [0,1,2,3,4,5,6] h (by kernel_rfl) rfl rfl ?_)
 exact ext (by kernel_rfl) rfl rfl
theorem zw(P:PL)(s:dJ)(e:Int)(he:e≠0)(h:aq Tryz.prog 21 [.ptr 0 0,cJ (aC s)] 7 (fG P) 0 [.dv .ez,.dv (I e)] (fG P)):aq Tryz.prog 7 [.ptr 0 0,cJ (aC s)] 7 (fG P) 0 [.dv (I 0),.dv (I e)] (fG P):=by
 refine cO Tryz.func7 rfl (by kernel_rfl) ?_
 repeat first|apply g1|apply g2|apply g3|apply g4|apply g5
 refine .inr (cl [0,1,2,3,4,5,6] h (by kernel_rfl) rfl rfl ?_)
 exact aby (fun _=>ext (by kernel_rfl) rfl rfl) fun h=>absurd (by simpa using h) he
end
section
open Go.TM
def cpK(a b:IM Int):ae:=[(0,.tree 0 0 (.omap cC (nZ a))),(1,.tree 0 0 (.omap cC (nZ b)))]
variable [bJ]
structure LpC where
 left:IM Int
 done:IM Int
def S1(a b:IM Int):IM Int:=b.foldl (fun m p=>aU m p.1 p.2) a
theorem pN{α:Type}:∀{l:List α} {i:Nat} {x:α},l[i]?=some x->l.Perm (x::l.eraseIdx i)
 |[],i,x,h=>by simp at h
 |y::l,0,x,h=>by simp at h;subst h;simp
 |y::l,i+1,x,h=>by
  have:=pN (l:=l) (i:=i) (x:=x) (by simpa using h)
  rw[List.eraseIdx_cons_succ]
  exact(this.cons y).trans (List.Perm.swap x y _)
theorem kB{α β:Type}(f:α->β):∀(l:List α) (i:Nat),(l.eraseIdx i).map f=(l.map f).eraseIdx i
 |[],_=>rfl
 |_::_,0=>rfl
 |_::l,i+1=>by simp only[List.eraseIdx_cons_succ,List.map_cons,kB f l i]
theorem Dw(a b:IM Int):bV Tryz.prog 22 [.own 0 0 0 [],.own 1 0 0 []] 2 (cpK a b) 0 (fun rs k=>∃done:IM Int,done.Perm b/\rs=[]/\k=cpK (S1 a done) b):=by
 refine mJ gx mixed (eU _) (fq _) Tryz.func22 rfl rfl (by kernel_rfl) ?_
 refine⟨LpC,fun z=>⟨3,[(0,.own 0 0 0 []),(7,.ptr 2 0)],[(0,.tree 0 0 (.omap cC (nZ (S1 a z.done)))),(1,.held),(2,.ka 1 [] (.omap cC (nZ b)) (nZ z.left) none)]⟩,fun z=>(z.done++z.left).Perm b,fun z=>z.left.length,⟨b,[]⟩,fun z=>rfl,?_,List.Perm.refl _,?_⟩
 ·exact⟨⟨rfl,rfl,tv⟩,⟨⟨rfl,rfl⟩,tv,⟨rfl,rfl,rfl,rfl,.inl rfl,tv⟩,tv⟩,rfl,rfl⟩
 ·rintro⟨left,done⟩ g1
  simp only at g1
  refine⟨tv,fun h5=>⟨(fun h6=>by cases h6),fun _=>?_⟩,fun pos cc jt=>⟨fun _=>?_,fun h6=>by cases h6⟩⟩
  ·have hz:left=[]:=List.map_eq_nil_iff.1 h5
   subst hz
   rw[List.append_nil]at g1
   exact⟨_,_,⟨done,g1,rfl,rfl⟩,by kernel_rfl,tv,⟨rfl,rfl⟩,⟨rfl,rfl⟩,tv⟩
  ·have jt:(left.map fun p=>DV.fe (eI p.1) (eI p.2))[pos]?=some cc:=jt
   rw[abB]at jt
   obtain⟨⟨k,x⟩,hk,rfl⟩:∃p,left[pos]?=some p/\cc=DV.fe (eI p.1) (eI p.2):=by
    cases hq:left[pos]? with
    |none=>rw[hq]at jt;cases jt
    |some p=>rw[hq]at jt;exact⟨p,rfl,by simpa using jt.symm⟩
   have A5:((done++[(k,x)])++left.eraseIdx pos).Perm b:=by
    rw[ab0];exact((pN hk).append_left done).symm.trans g1
   have hc:S1 a (done++[(k,x)])=aU (S1 a done) k x:=by unfold S1;rw[abZ];rfl
   refine⟨u7 x,kh,eI k,rfl,rfl,I x,⟨rf,tv⟩,rfl,false,fun _=>⟨n5 (S1 a done) _,u7 _⟩,?_⟩
   rw[show cW (nZ (S1 a done)) (eI k) (I x)=nZ (S1 a (done++[(k,x)]))by rw[hc];exact dB jJ (S1 a done) k x]
   rw[show(nZ left).eraseIdx pos=nZ (left.eraseIdx pos)from(kB _ left pos).symm]
   refine⟨⟨left.eraseIdx pos,done++[(k,x)]⟩,?_,A5,?_⟩
   ·exact⟨⟨rfl,rfl,tv⟩,⟨⟨rfl,rfl⟩,tv,⟨rfl,rfl,rfl,rfl,.inl rfl,tv⟩,tv⟩,rfl,rfl⟩
   ·have:=(abA.1 hk).1
    show(left.eraseIdx pos).length<left.length
    rw[List.length_eraseIdx_of_lt this];omega
structure LpM where
 left:IM (List Lt)
 done:IM (List Lt)
def Dx(a b:IM (List Lt)):IM (List Lt):=b.foldl (fun m p=>aU m p.1 p.2) a
def S2(a b:IM (List Lt)):ae:=[(0,.tree 0 0 (.omap cC (pJ a))),(1,.tree 0 0 (.omap cC (pJ b)))]
theorem Dy(a b:IM (List Lt)):bV Tryz.prog 23 [.own 0 0 0 [],.own 1 0 0 []] 2 (S2 a b) 0 (fun rs k=>∃done:IM (List Lt),done.Perm b/\rs=[]/\k=S2 (Dx a done) b):=by
 refine mJ gx mixed (eU _) (fq _) Tryz.func23 rfl rfl (by kernel_rfl) ?_
 refine⟨LpM,fun z=>⟨3,[(0,.own 0 0 0 []),(7,.ptr 2 0)],[(0,.tree 0 0 (.omap cC (pJ (Dx a z.done)))),(1,.held),(2,.ka 1 [] (.omap cC (pJ b)) (pJ z.left) none)]⟩,fun z=>(z.done++z.left).Perm b,fun z=>z.left.length,⟨b,[]⟩,fun z=>rfl,?_,List.Perm.refl _,?_⟩
 ·exact⟨⟨rfl,rfl,tv⟩,⟨⟨rfl,rfl⟩,tv,⟨rfl,rfl,rfl,rfl,.inl rfl,tv⟩,tv⟩,rfl,rfl⟩
 ·rintro⟨left,done⟩ g1
  simp only at g1
  refine⟨tv,fun h5=>⟨(fun h6=>by cases h6),fun _=>?_⟩,fun pos cc jt=>⟨fun _=>?_,fun h6=>by cases h6⟩⟩
  ·have hz:left=[]:=List.map_eq_nil_iff.1 h5
   subst hz
   rw[List.append_nil]at g1
   exact⟨_,_,⟨done,g1,rfl,rfl⟩,by kernel_rfl,tv,⟨rfl,rfl⟩,⟨rfl,rfl⟩,tv⟩
  ·have jt:(left.map fun p=>DV.fe (eI p.1) (aS p.2))[pos]?=some cc:=jt
   rw[abB]at jt
   obtain⟨⟨k,x⟩,hk,rfl⟩:∃p,left[pos]?=some p/\cc=DV.fe (eI p.1) (aS p.2):=by
    cases hq:left[pos]? with
    |none=>rw[hq]at jt;cases jt
    |some p=>rw[hq]at jt;exact⟨p,rfl,by simpa using jt.symm⟩
   have A5:((done++[(k,x)])++left.eraseIdx pos).Perm b:=by
    rw[ab0];exact((pN hk).append_left done).symm.trans g1
   have hc:Dx a (done++[(k,x)])=aU (Dx a done) k x:=by unfold Dx;rw[abZ];rfl
   refine⟨gU x,kh,eI k,rfl,rfl,aS x,⟨rf,tv⟩,rfl,false,fun _=>⟨P9 (Dx a done) _,gU _⟩,?_⟩
   rw[show cW (pJ (Dx a done)) (eI k) (aS x)=pJ (Dx a (done++[(k,x)]))by rw[hc];exact dB jJ (Dx a done) k x]
   rw[show(pJ left).eraseIdx pos=pJ (left.eraseIdx pos)from(kB _ left pos).symm]
   refine⟨⟨left.eraseIdx pos,done++[(k,x)]⟩,?_,A5,?_⟩
   ·exact⟨⟨rfl,rfl,tv⟩,⟨⟨rfl,rfl⟩,tv,⟨rfl,rfl,rfl,rfl,.inl rfl,tv⟩,tv⟩,rfl,rfl⟩
   ·have:=(abA.1 hk).1
    show(left.eraseIdx pos).length<left.length
    rw[List.length_eraseIdx_of_lt this];omega
end
section
open Go.TM
section
variable {κ β:Type} [DecidableEq κ]
def Mu(a b:List (κ×β)):List (κ×β):=b.foldl (fun m p=>aU m p.1 p.2) a
theorem BP{m m':List (κ×β)}(h:Nk m)(h':Nk m')(e:∀k,aR m k=aR m' k):m.Perm m':=by
 have nd:∀{l:List (κ×β)},Nk l->l.Nodup:=fun hl=>(List.pairwise_map.1 hl).imp fun h e=>h (congrArg _ e)
 refine(List.perm_ext_iff_of_nodup (nd h) (nd h')).2 fun⟨k,x⟩=>⟨fun hm=>?_,fun hm=>?_⟩
 ·exact kV (by rw[<-e k];exact s3 h hm)
 ·exact kV (by rw[e k];exact s3 h' hm)
theorem zx:∀(b a:List (κ×β)),Nk a->Nk (Mu a b)
 |[],_,h=>h
 |p::b,a,h=>zx b _ (h.put p.1 p.2)
theorem pP:∀(b a:List (κ×β)),Nk b->∀k,aR (Mu a b) k=(aR b k).or (aR a k)
 |[],_,_,_=>rfl
 |(q,x)::b,a,h,k=>by
  have hb:Nk b:=(List.nodup_cons.1 h).2
  have hq:q∉b.map (·.1):=(List.nodup_cons.1 h).1
  show aR (Mu (aU a q x) b) k=_
  rw[pP b _ hb k,kU]
  by_cases hk:q=k
  ·subst hk
   rw[mQ hq,if_pos rfl]
   simp[aR]
  ·rw[if_neg hk]
   simp[aR,hk]
theorem Gi{a b d:List (κ×β)}(ha:Nk a)(hb:Nk b)(h:d.Perm b):(Mu a d).Perm (Mu a b):=by
 have hd:Nk d:=hb.perm h.symm
 refine BP (zx d a ha) (zx b a ha) fun k=>?_
 rw[pP d a hd,pP b a hb,Bp hd h]
end
theorem lU{P:Program}{f:Nat}{a:List AV}{m ex:Nat}{K:ae}{R R':List AV->ae->Prop}[bJ](h:bV P f a m K ex R)(hi:∀r k,R r k->R' r k):bV P f a m K ex R':=
 ⟨h.1,fun w G vs na cL hr=>Calls.mono (h.2 w G vs na cL hr) fun e w' ⟨v,r,k,G',h1,h2,h3⟩=>⟨v,r,k,G',h1,hi r k h2,h3⟩⟩
variable [bJ]
theorem Gj(a b:IM Int)(ha:Nk a)(hb:Nk b):aq Tryz.prog 22 [.own 0 0 0 [],.own 1 0 0 []] 2 (cpK a b) 0 [] (cpK (Mu a b) b):=
 rH (lU (Dw a b) fun r k ⟨done,hp,h1,h2⟩=>⟨h1,h2▸.cons (.omap 0 0 cC ((Gi ha hb hp).map _)) (.refl _)⟩)
theorem vX(a b:IM (List Lt))(ha:Nk a)(hb:Nk b):aq Tryz.prog 23 [.own 0 0 0 [],.own 1 0 0 []] 2 (S2 a b) 0 [] (S2 (Mu a b) b):=
 rH (lU (Dy a b) fun r k ⟨done,hp,h1,h2⟩=>⟨h1,h2▸.cons (.omap 0 0 cC ((Gi ha hb hp).map _)) (.refl _)⟩)
end
section
open Go.TM
def Av(a b:Nat)(P:PL):ae:=[(0,.cells (.dv (I P.sh)::eB iO++[.own 1 0 0 [],.own 2 0 0 [],.own 3 a 0 [],.own 4 b 0 [],.own 5 0 0 [],.own 6 0 0 []])),(1,.tree 0 0 (.omap ey (pI P.st))),(2,.tree 0 0 (.omap cC (nZ P.b8))),(3,.tree a 0 (.aB 7 (P.sp.map aC))),(4,.tree b 0 (.aB 11 (P.fl.map aM))),(5,.tree 0 0 (.omap cC (pJ P.imp))),(6,.tree 0 0 (.omap cC (pJ P.ret)))]
def BQ(m:SM)(d:SM):SM:=d.foldl (fun m p=>if p.2=[]then s0 m p.1 else aU m p.1 p.2) m
def Uf(P:PL)(c:Ch)(d:SM):PL:={ P with st:=BQ P.st d,b8:=Mu P.b8 c.b8,imp:=Mu P.imp c.imp,ret:=Mu P.ret c.ret,fl:=P.fl++c.fl,sp:=P.sp++[c.sp] }
structure LpS where
 left:SM
 done:SM
def poK(P:PL)(c:Ch)(z:LpS):ae:=Av 1 1 { P with st:=BQ P.st z.done }++[(9,.held),(10,.tree 0 0 (.omap cC (nZ c.b8))),(11,.tree 0 0 (.omap cC (pJ c.imp))),(12,.tree 0 0 (.omap cC (pJ c.ret))),(13,.cells (.ptr 0 0::(eB (aC c.sp).cells++[.own 9 0 0 [],.own 10 0 0 [],.own 11 0 0 [],.own 12 0 0 [],.own 14 0 0 [],.own 15 0 0 []]))),(14,.tree 0 0 (.aB 11 (c.fl.map aM))),(15,.tree 0 0 (.aB 1 (c.sk.map I))),(16,.ka 9 [] (.omap ey (pI c.st)) (pI z.left) none)]
def KE(a b:Nat)(P:PL)(S F:List DV):ae:=[(0,.cells (.dv (I P.sh)::eB iO++[.own 1 0 0 [],.own 2 0 0 [],.own 3 a 0 [],.own 4 b 0 [],.own 5 0 0 [],.own 6 0 0 []])),(1,.tree 0 0 (.omap ey (pI P.st))),(2,.tree 0 0 (.omap cC (nZ P.b8))),(3,.tree a 0 (.aB 7 S)),(4,.tree b 0 (.aB 11 F)),(5,.tree 0 0 (.omap cC (pJ P.imp))),(6,.tree 0 0 (.omap cC (pJ P.ret)))]
theorem Qe(P:PL)(c:Ch)(d:SM):KE 1 1 (Uf P c d) (P.sp.map aC++[aC c.sp]) (P.fl.map aM++c.fl.map aM)=Av 1 1 (Uf P c d):=by
 unfold KE Av Uf;simp only[abS,List.map_cons,List.map_nil]
variable [bJ]
theorem Gk(P:PL)(s:dJ)(c:Ch)(hn:Nk P.b8/\Nk P.imp/\Nk P.ret/\Nk c.b8/\Nk c.imp/\Nk c.ret)(hf:P.fl.length<=800000/\c.fl.length<=100000/\P.sp.length<=900000)(h:aq Tryz.prog 21 [.ptr 0 0,cJ (aC s)] 7 (fG P) 8 [.ptr 12 0,.dv (I 0)] (Mq P c)):bV Tryz.prog 7 [.ptr 0 0,cJ (aC s)] 7 (Av 1 1 P) 0 (fun rs k=>∃done:SM,done.Perm c.st/\rs=[.dv (I c.sp.id),.dv (I 0)]/\k=Av 1 1 (Uf P c done)):=by
 refine mJ gx mixed (eU _) (fq _) Tryz.func7 rfl rfl (by kernel_rfl) ?_
 repeat first|apply g1|apply g2|apply g3|apply g4|apply g5
 refine .inr (cl [0,1,2,3,4,5,6] h (by kernel_rfl) rfl rfl ?_)
 refine aby (fun h=>(by cases h)) fun _=>?_
 refine⟨LpS,fun z=>⟨17,[(0,.ptr 0 0),(6,.ptr 13 0),(23,.ptr 16 0)],poK P c z⟩,fun z=>(z.done++z.left).Perm c.st,fun z=>z.left.length,⟨c.st,[]⟩,fun z=>rfl,?_,List.Perm.refl _,?_⟩
 ·refine⟨⟨rfl,rfl,rfl,tv⟩,?_,rfl,rfl⟩
  repeat' first|exact trivial|rfl|exact rf|refine aby ?_ ?_
  all_goals exact .inl rfl
 ·rintro⟨left,done⟩ g1
  simp only at g1
  refine⟨tv,fun h5=>⟨(fun h6=>by cases h6),fun _=>?_⟩,fun pos cc jt=>⟨fun _=>?_,fun h6=>by cases h6⟩⟩
  ·have hz:left=[]:=List.map_eq_nil_iff.1 h5
   subst hz
   rw[List.append_nil]at g1
   refine .inr (cl [2,10] (Gj P.b8 c.b8 hn.1 hn.2.2.2.1) (by kernel_rfl) rfl rfl ?_)
   refine aby (by kernel_rfl) ?_
   refine .inr (cl [5,11] (vX P.imp c.imp hn.2.1 hn.2.2.2.2.1) (by kernel_rfl) rfl rfl ?_)
   refine aby (by kernel_rfl) ?_
   refine .inr (cl [6,12] (vX P.ret c.ret hn.2.2.1 hn.2.2.2.2.2) (by kernel_rfl) rfl rfl ?_)
   refine aby (by kernel_rfl) ?_
   refine .inr (.inl ⟨BE T7 c.fl,c.fl.map aM,b7.refl _,bF (by simp;omega),by simp;omega,?_⟩)
   refine aby (by kernel_rfl) ?_
   refine .inl ⟨[aC c.sp],rfl,⟨rf,rf,rf,rf,rf,rf,rf,tv⟩,(by simp;rfl),?_⟩
   refine .inr ⟨[aC c.sp],b7.refl _,bS (by simp;omega),by simp;omega,?_⟩
   refine aby (by kernel_rfl) ?_
   exact⟨_,KE 1 1 (Uf P c done) (P.sp.map aC++[aC c.sp]) (P.fl.map aM++c.fl.map aM),⟨done,g1,rfl,Qe P c done⟩,by kernel_rfl,⟨rf,rf,tv⟩,bl (k:=KE 1 1 (Uf P c done) (P.sp.map aC++[aC c.sp]) (P.fl.map aM++c.fl.map aM)) rfl⟩
  ·have jt:(left.map fun p=>DV.fe (qF p.1) (aS p.2))[pos]?=some cc:=jt
   rw[abB]at jt
   obtain⟨⟨k,l⟩,hk,rfl⟩:∃p,left[pos]?=some p/\cc=DV.fe (qF p.1) (aS p.2):=by
    cases hq:left[pos]? with
    |none=>rw[hq]at jt;cases jt
    |some p=>rw[hq]at jt;exact⟨p,rfl,by simpa using jt.symm⟩
   have A5:((done++[(k,l)])++left.eraseIdx pos).Perm c.st:=by
    rw[ab0];exact((pN hk).append_left done).symm.trans g1
   have hc:BQ P.st (done++[(k,l)])=if l=[]then s0 (BQ P.st done) k else aU (BQ P.st done) k l:=by unfold BQ;rw[abZ];rfl
   refine⟨gU l,?_⟩
   rw[show(pI left).eraseIdx pos=pI (left.eraseIdx pos)from(kB _ left pos).symm]
   refine aby (fun h=>?_) fun h=>?_
   ·have hl:l=[]:=by cases l with
     |nil=>rfl
     |cons=>cases h
    rw[if_pos hl]at hc
    refine⟨mU,qF k,rfl,rfl,?_⟩
    rw[show gN (pI (BQ P.st done)) (qF k)=pI (BQ P.st (done++[(k,l)]))by rw[hc];exact Sh iP (BQ P.st done) k]
    refine aby (by kernel_rfl) ?_
    refine⟨⟨left.eraseIdx pos,done++[(k,l)]⟩,?_,A5,?_⟩
    ·refine⟨⟨rfl,rfl,rfl,tv⟩,?_,rfl,rfl⟩
     repeat' first|exact trivial|rfl|exact rf|refine aby ?_ ?_
     all_goals exact .inl rfl
    ·have:=(abA.1 hk).1
     show(left.eraseIdx pos).length<left.length
     rw[List.length_eraseIdx_of_lt this];omega
   ·have hl:l≠[]:=fun e=>by subst e;cases h
    rw[if_neg hl]at hc
    refine⟨mU,qF k,rfl,rfl,aS l,⟨rf,tv⟩,rfl,false,fun _=>⟨pM (BQ P.st done) _,gU _⟩,?_⟩
    rw[show cW (pI (BQ P.st done)) (qF k) (aS l)=pI (BQ P.st (done++[(k,l)]))by rw[hc];exact dB iP (BQ P.st done) k l]
    refine aby (by kernel_rfl) ?_
    refine⟨⟨left.eraseIdx pos,done++[(k,l)]⟩,?_,A5,?_⟩
    ·refine⟨⟨rfl,rfl,rfl,tv⟩,?_,rfl,rfl⟩
     repeat' first|exact trivial|rfl|exact rf|refine aby ?_ ?_
     all_goals exact .inl rfl
    ·have:=(abA.1 hk).1
     show(left.eraseIdx pos).length<left.length
     rw[List.length_eraseIdx_of_lt this];omega
end
section
open Go.TM
theorem Dz:∀(d m:SM),Nk m->Nk (BQ m d)
 |[],_,h=>h
 |p::d,m,h=>by
  show Nk (BQ (if p.2=[]then s0 m p.1 else aU m p.1 p.2) d)
  refine Dz d _ ?_
  split
  ·exact h.del _
  ·exact h.put _ _
theorem tA:∀(d m:SM),Nk m->Nk d->∀k,aR (BQ m d) k=(match aR d k with|some l=>if l=[]then none else some l|none=>aR m k)
 |[],_,_,_,_=>rfl
 |(q,l)::d,m,hm,h,k=>by
  have hd:Nk d:=(List.nodup_cons.1 h).2
  have hq:q∉d.map (·.1):=(List.nodup_cons.1 h).1
  show aR (BQ (if l=[]then s0 m q else aU m q l) d) k=_
  have T2:Nk (if l=[]then s0 m q else aU m q l):=by
   split
   ·exact hm.del _
   ·exact hm.put _ _
  rw[tA d _ T2 hd k]
  by_cases hk:q=k
  ·subst hk
   rw[mQ hq]
   simp only[aR,if_true]
   split
   ·rw[FB hm,if_pos rfl]
   ·rw[kU,if_pos rfl]
  ·simp only[aR,if_neg hk]
   cases aR d k with
   |some x=>rfl
   |none=>
    simp only
    split
    ·rw[FB hm,if_neg hk]
    ·rw[kU,if_neg hk]
theorem Qf{m d b:SM}(hm:Nk m)(hb:Nk b)(h:d.Perm b):(BQ m d).Perm (BQ m b):=by
 have hd:Nk d:=hb.perm h.symm
 refine BP (Dz d m hm) (Dz b m hm) fun k=>?_
 rw[tA d m hm hd,tA b m hm hb,Bp hd h]
variable [bJ]
theorem IX(P:PL)(s:dJ)(c:Ch)(hn:Nk P.b8/\Nk P.imp/\Nk P.ret/\Nk c.b8/\Nk c.imp/\Nk c.ret)(hf:P.fl.length<=800000/\c.fl.length<=100000/\P.sp.length<=900000)(aj:Nk P.st/\Nk c.st)(h:aq Tryz.prog 21 [.ptr 0 0,cJ (aC s)] 7 (fG P) 8 [.ptr 12 0,.dv (I 0)] (Mq P c)):aq Tryz.prog 7 [.ptr 0 0,cJ (aC s)] 7 (Av 1 1 P) 0 [.dv (I c.sp.id),.dv (I 0)] (Av 1 1 (Uf P c c.st)):=
 rH (lU (Gk P s c hn hf h) fun r k ⟨done,hp,h1,h2⟩=>⟨h1,h2▸.cons (.refl _) (.cons (.omap 0 0 ey ((Qf aj.1 aj.2 hp).map _)) (.refl _))⟩)
end
section
open Go.TM
variable [bJ]
theorem jL{f:Nat}{P:PL}{c:Ch}{a rs:List AV}{K':ae}{ex:Nat}(h:aq Tryz.prog f a 14 (eZ 1 1 P c) ex rs K'):aq Tryz.prog f a 14 (eZ 0 0 P c) ex rs K':=
 cM 5 (K0:=eZ 0 0 P c) (cM 6 (K0:=eZ 1 0 P c) h ⟨⟨_,rfl,rfl,fun j hj=>(by match j,hj with|0,_=>exact .cells (.same _ (.same _ (.same _ (.same _ (.same _ (.same _ (.same _ (.same _ (.same _ (.same _ (.same _ (.same _ (.same _ (.rY .nil))))))))))))))|1,_=>exact .refl _|2,_=>exact .refl _|3,_=>exact .refl _|4,_=>exact .refl _|5,_=>exact .refl _|j+7,_=>exact .refl _)⟩,iS.refl _ _ _ _⟩)
  ⟨⟨_,rfl,rfl,fun j hj=>(by match j,hj with|0,_=>exact .cells (.same _ (.same _ (.same _ (.same _ (.same _ (.same _ (.same _ (.same _ (.same _ (.same _ (.same _ (.same _ (.rY (.same _ .nil))))))))))))))|1,_=>exact .refl _|2,_=>exact .refl _|3,_=>exact .refl _|4,_=>exact .refl _|6,_=>exact .refl _|j+7,_=>exact .refl _)⟩,iS.refl _ _ _ _⟩
theorem Qg{f:Nat}{P:PL}{a rs:List AV}{K':ae}{ex:Nat}(h:aq Tryz.prog f a 7 (Av 1 1 P) ex rs K'):aq Tryz.prog f a 7 (fG P) ex rs K':=
 cM 3 (K0:=fG P) (cM 4 (K0:=Av 1 0 P) h ⟨⟨_,rfl,rfl,fun j hj=>(by match j,hj with|0,_=>exact .cells (.same _ (.same _ (.same _ (.same _ (.same _ (.same _ (.same _ (.same _ (.rY (.same _ (.same _ .nil)))))))))))|1,_=>exact .refl _|2,_=>exact .refl _|3,_=>exact .refl _|5,_=>exact .refl _|6,_=>exact .refl _|j+7,_=>exact .refl _)⟩,iS.refl _ _ _ _⟩)
  ⟨⟨_,rfl,rfl,fun j hj=>(by match j,hj with|0,_=>exact .cells (.same _ (.same _ (.same _ (.same _ (.same _ (.same _ (.same _ (.rY (.same _ (.same _ (.same _ .nil)))))))))))|1,_=>exact .refl _|2,_=>exact .refl _|4,_=>exact .refl _|5,_=>exact .refl _|6,_=>exact .refl _|j+7,_=>exact .refl _)⟩,iS.refl _ _ _ _⟩
end
section
open Go.TM
variable [bJ]
theorem vY(l:List Int)(hl:l.length<=1000000):aq Tryz.prog 95 [.own 0 0 0 []] 1 [(0,.tree 0 0 (.aB 1 (l.map I)))] 0 [.dv (Ints l)] [(0,.tree 0 0 (.aB 1 (l.map I)))]:=by
 refine cO Tryz.func95 rfl (by kernel_rfl) ?_
 by_cases hn:l=[]
 ·subst hn
  refine .inl ⟨⟨_,_,⟨rfl,rfl⟩,by kernel_rfl,⟨DV.aL 1,tv⟩,bl (k:=[(0,.tree 0 0 (.aB 1 []))]) rfl⟩,?_⟩
  refine .inr (.inl ⟨[],rfl,tv,(fun _ h=>by cases h),?_⟩)
  refine .inr (.inl ⟨BE u7 [],[],b7.refl _,bI (by simp),by simp,?_⟩)
  exact⟨_,_,⟨rfl,rfl⟩,by kernel_rfl,⟨pH 1 (fun _=>rfl) (l:=([]:List Int)) (e:=I),tv⟩,bl (k:=[(0,.tree 0 0 (.aB 1 []))]) rfl⟩
 ·refine .inr ⟨fun h=>hn (List.map_eq_nil_iff.1 h),aby (fun h=>by cases h) fun _=>?_⟩
  refine .inr (.inl ⟨[],rfl,tv,(fun _ h=>by cases h),?_⟩)
  refine .inr (.inl ⟨BE u7 l,l.map I,b7.refl _,bI (by simp;omega),by simp;omega,?_⟩)
  exact⟨_,_,⟨rfl,rfl⟩,by kernel_rfl,⟨pH 1 (fun _=>rfl),tv⟩,bl (k:=[(0,.tree 0 0 (.aB 1 (l.map I)))]) rfl⟩
end
end Go.Proofs.YtpbiiigpphehbaaGreatDoor
