import Derived.Test.YtfpebgpgabjieaaGreatDoorHM21
import Derived.Test.YtfpebgpgabjieaaGreatDoorHM19
import Derived.Test.YtfpebgpgabjieaaGreatDoorHM25
import Derived.Test.YtfpebgpgabjieaaGreatDoorHM26
set_option linter.all false
open Go.TM.oA Go.TM.oB Go.TM.oC Go.TM.oD Go.TM.oE
namespace Go.Proofs.YtfpebgpgabjieaaGreatDoor
set_option maxRecDepth 100000
set_option maxHeartbeats 4000000
section
open Go.TM
variable [aW]
theorem Mz(x y:Lt)(hy:0<=y.a/\y.a<=1099511627776/\0<=y.n/\y.n<=1099511627776):ai Tryz.prog 239 [aD x,aD y] [B (decide (x.f=y.f/\x.a=y.a+y.n))]:=by
 refine pO Tryz.func239 rfl (by kernel_rfl) rfl ?_
 refine⟨fun _=>by omega,DV.Le.of_eq ?_,tv⟩
 congr 1
 rw[adO];simp
theorem aa2(l:List Lt)(x:Lt)(hl:lB l)(hx:0<=x.n/\x.n<=1099511627776):aw Tryz.prog 218 [.own 0 1 0 [],cP (aD x)] 1 [(0,.tree 1 0 (.aI 3 (l.map aD)))] 0 [.own 0 1 0 []] [(0,.tree 1 0 (.aI 3 ((aT l x).map aD)))]:=by
 obtain⟨hlen,JH⟩:=hl
 have ll:(l.map aD).length=l.length:=adi ..
 refine cO Tryz.func218 rfl (by kernel_rfl) ?_
 refine adh (fun h=>?_) fun h=>?_
 ·have h:x.n=0:=beq_iff_eq.1 h
  rw[aT,if_pos h]
  exact ext (by kernel_rfl) rfl rfl
 have h0:x.n≠0:=beq_eq_false_iff_ne.1 h
 repeat refine gG ?_
 obtain⟨y,hy⟩:∃y,y=l.getLastD ⟨0,0,0⟩:=⟨_,rfl⟩
 have dK:bw (decide (0<(((l.map aD).length:Nat):Int))) true=true->0<l.length:=fun h=>by have:=adz (gL h);omega
 have ia:∀h:bw (decide (0<(((l.map aD).length:Nat):Int))) true=true,-9223372036854775808<=(((l.map aD).length:Nat):Int)-1/\(((l.map aD).length:Nat):Int)-1<=9223372036854775807:=fun h=>by omega
 have ib:∀h:bw (decide (0<(((l.map aD).length:Nat):Int))) true=true,0<=(((l.map aD).length:Nat):Int)-1/\(((l.map aD).length:Nat):Int)-1<(((l.map aD).length:Nat):Int):=fun h=>by have:=dK h;omega
 have ie:∀h:bw (decide (0<(((l.map aD).length:Nat):Int))) true=true,(l.map aD)[((((l.map aD).length:Nat):Int)-1).toNat]?=some (aD y):=fun h=>by
  have:=(oz (dK h)).1
  rw[adk,show((((l.map aD).length:Nat):Int)-1).toNat=l.length-1 by omega,this,hy];rfl
 have NG:∀h:bw (decide (0<(((l.map aD).length:Nat):Int))) true=true,0<=y.a/\y.a<=1099511627776/\0<=y.n/\y.n<=1099511627776:=fun h=>JH y (by rw[hy];exact adl (oz (dK h)).1)
 refine⟨fun h=>ia h,?_⟩
 repeat refine gG ?_
 refine⟨fun h=>ib h,?_⟩
 repeat refine gG ?_
 refine⟨aD y,fun h=>ie h,?_⟩
 repeat refine gG ?_
 refine .inl ⟨_,fun h=>(Mz x y (NG h)).ok,?_⟩
 repeat refine gG ?_
 refine⟨by kernel_rfl,adh (fun h=>?_) fun h=>?_⟩
 ·have h1:=bZ h
  have FO:=adz h1.2
  have hb:=nP h1.1
  have NG:=NG hb
  have e:aT l x=l.set (l.length-1) ⟨y.f,y.a,y.n+x.n⟩:=by
   have w4:=(oz (dK hb)).2
   rw[<-hy]at w4
   have hc:y.f=x.f/\y.a+y.n=x.a:=⟨FO.1.symm,FO.2.symm⟩
   unfold aT
   rw[if_neg h0,w4]
   simp only
   rw[if_pos hc]
   conv=>rhs;rw[iu w4]
   have:(l.dropLast++[y]).length-1=l.dropLast.length:=by simp
   simp
  have ei:((((l.map aD).length:Nat):Int)-1).toNat=l.length-1:=by omega
  refine⟨fun _=>ia hb,fun _=>ib hb,aD y,fun _=>ie hb,fun _=>by omega,fun _=>ib hb,?_⟩
  refine⟨[I (y.n+x.n)],⟨rf,tv⟩,aD y,ie hb,?_⟩
  refine⟨by kernel_rfl,ext (by kernel_rfl) rfl ?_⟩
  rw[e,List.map_set,<-ei]
  rfl
 ·have e:aT l x=l++[x]:=by
   by_cases hp:0<l.length
   ·have w4:=(oz hp).2
    rw[<-hy]at w4
    have hn:¬(y.f=x.f/\y.a+y.n=x.a):=fun hc=>gI h ⟨adF (by omega),adF ⟨hc.1.symm,hc.2.symm⟩⟩
    unfold aT
    rw[if_neg h0,w4]
    simp only
    rw[if_neg hn]
   ·have:l=[]:=List.length_eq_zero_iff.1 (by omega)
    subst this
    unfold aT
    rw[if_neg h0];rfl
  refine .inl ⟨[aD x],rfl,⟨rf,rf,rf,tv⟩,(by simp;rfl),?_⟩
  refine .inr ⟨[aD x],bW.refl _,bL (by simp;omega),by simp;omega,?_⟩
  refine ext (by kernel_rfl) rfl ?_
  rw[e,adB]
  rfl
theorem uT(l:List Lt)(x:Lt)(hl:lB l)(hx:0<=x.n/\x.n<=1099511627776):aw Tryz.prog 218 [.own 0 0 0 [],cP (aD x)] 1 [(0,.tree 0 0 (.aI 3 (l.map aD)))] 0 [.own 0 1 0 []] [(0,.tree 1 0 (.aI 3 ((aT l x).map aD)))]:=
 cQ 0 (aa2 l x hl hx) ⟨⟨_,rfl,rfl,fun j hj=>(by match j,hj with|j+1,_=>exact .refl _)⟩,.qW (.same _ .nil)⟩
end
section
open Go.TM
theorem C5:∀(s:List Lt) (n:Int) (i:Nat) (x:Lt),s[i]?=some x->(cw n s)[i]?=some (min (n-((cw n s).take i).sum) x.n)
 |y::r,n,0,x,h=>by simp at h;subst h;simp[cw]
 |y::r,n,i+1,x,h=>by
  have ih:=C5 r (n-min n y.n) i x (by simpa using h)
  simp only[cw,List.getElem?_cons_succ,List.take_succ_cons,List.sum_cons]
  rw[ih];congr 2;omega
theorem C6:∀(s:List Lt) (n:Int),0<=n->(∀x∈s,0<=x.n)->∀i,0<=((cw n s).take i).sum/\((cw n s).take i).sum<=n
 |[],n,hn,_,i=>by simp[cw];exact hn
 |y::r,n,hn,h,0=>by simp;exact hn
 |y::r,n,hn,h,i+1=>by
  have hy:=h y adu
  have ih:=C6 r (n-min n y.n) (by omega) (fun x hx=>h x (adq _ hx)) i
  simp only[cw,List.take_succ_cons,List.sum_cons]
  omega
variable [aW]
theorem X5(z:ZZ)(x:Lt)(b:Bool)(h1:lB z.1)(h2:lB z.2)(hx:0<=x.n/\x.n<=1099511627776):dr Tryz.prog [cP (aD x),.dv (B b)] 5 (zP 1 (qX Tryz.f246) z) 0 fun r k=>r=[.dv (B true)]/\k=zP 1 (qX Tryz.f246) (gB z (x,b)):=by
 refine mL aG mixed rfl (by kernel_rfl) ?_
 cases b with
 |true=>
  refine adh (fun _=>?_) fun h=>by cases h
  refine .inr (cl [3] (uT z.1 x h1 hx) (by kernel_rfl) rfl rfl ?_)
  exact ext (by kernel_rfl) rfl rfl
 |false=>
  refine adh (fun h=>by cases h) fun _=>?_
  refine .inr (cl [4] (uT z.2 x h2 hx) (by kernel_rfl) rfl rfl ?_)
  exact ext (by kernel_rfl) rfl rfl
theorem yW(z:ZZ)(x:Lt)(b:Bool)(h1:lB z.1)(h2:lB z.2)(hx:0<=x.n/\x.n<=1099511627776):dr Tryz.prog [cP (aD x),.dv (B b)] 5 (zP 0 (qX Tryz.f246) z) 0 fun r k=>r=[.dv (B true)]/\k=zP 1 (qX Tryz.f246) (gB z (x,b)):=
 iZ 3 (iZ 4 (X5 z x b h1 h2 hx) CM.1) CM.2
theorem yX{s:List Lt}{ks:List Int}{i:Nat}{x:Lt}{k:Int}(hx:s[i]?=some x)(hk:ks[i]?=some k):mi s ks (i+1)=gB (gB (mi s ks i) (⟨x.f,x.a,k⟩,true)) (⟨x.f,x.a+k,x.n-k⟩,false):=by
 have hz:(s.zip ks)[i]?=some (x,k):=by rw[List.getElem?_zip_eq_some];exact⟨hx,hk⟩
 unfold mi
 rw[ads,hz,adI]
 rfl
def C7(s:List Lt)(ks:List Int):Prop:=∀(i:Nat) (x:Lt),s[i]?=some x->∃k,ks[i]?=some k/\0<=k/\k<=x.n
theorem IA{s:List Lt}{ks:List Int}(hs:∀x∈s,aJ x=true)(hk:C7 s ks):∀i,i<=s.length->(∀y∈(mi s ks i).1,aJ y=true)/\(∀y∈(mi s ks i).2,aJ y=true)/\(mi s ks i).1.length<=i/\(mi s ks i).2.length<=i
 |0,_=>⟨fun _ h=>(by cases h),fun _ h=>(by cases h),adM _,adM _⟩
 |i+1,hi=>by
  obtain⟨h1,h2,h3,h4⟩:=IA hs hk i (by omega)
  obtain⟨x,hx⟩:∃x,s[i]?=some x:=⟨_,abK (by omega)⟩
  obtain⟨k,ql,JK,hk3⟩:=hk i x hx
  have hb:=ak.1 (hs x (adl hx))
  rw[yX hx ql]
  have a1:=fb (mi s ks i).1 ⟨x.f,x.a,k⟩
  have a2:=fb (mi s ks i).2 ⟨x.f,x.a+k,x.n-k⟩
  exact⟨iF h1 (by dsimp only;omega),iF h2 (by dsimp only;omega),Nat.le_trans a1 (by omega),Nat.le_trans a2 (by omega)⟩
theorem Bu{l:List Lt}{n:Nat}(h:∀y∈l,aJ y=true)(hl:l.length<=n)(hn:n<=100000):lB l:=⟨by omega,fun y hy=>by have:=ak.1 (h y hy);omega⟩
theorem UD(l:List Lt)(n:Int)(i:Nat)(x:Lt)(hx:l[i]?=some x)(hn:0<=n/\n<=1099511627776)(hxn:0<=x.n/\x.n<=1099511627776):aw Tryz.prog 262 [.dv (I i),.ptr 0 0,.ptr 1 0] 2 [(0,.cells [.dv (I n)]),(1,.cells [.dv (aR l)])] 0 [.dv (I (if x.n<n then x.n else n))] [(0,.cells [.dv (I (n-if x.n<n then x.n else n))]),(1,.cells [.dv (aR l)])]:=by
 have ix:(l.map aD)[(i:Int).toNat]?=some (aD x):=by rw[adk];simp[hx]
 have ov:-9223372036854775808<=n-(if x.n<n then x.n else n)/\n-(if x.n<n then x.n else n)<=9223372036854775807:=by split<;>omega
 refine cO Tryz.func262 rfl (by kernel_rfl) ?_
 refine⟨aD x,fun _=>⟨by omega,ix⟩,?_⟩
 refine⟨by kernel_rfl,fun _=>ov,?_⟩
 exact ext (by kernel_rfl) rfl rfl
theorem UE(ks:List Int)(i:Nat)(k:Int)(hk:ks[i]?=some k):aw Tryz.prog 245 [.dv (I i),.ptr 0 0] 1 [(0,.cells [.dv (Ints ks)])] 0 [.dv (I k)] [(0,.cells [.dv (Ints ks)])]:=by
 have ix:(ks.map I)[(i:Int).toNat]?=some (I k):=by rw[adk];simp[hk]
 refine cO Tryz.func245 rfl (by kernel_rfl) ?_
 refine⟨I k,fun _=>⟨by omega,ix⟩,?_⟩
 exact ext (by kernel_rfl) rfl rfl
def k1F(rc:RC)(l:List Lt)(n:Int)(v i:Nat):ae:=[(0,.dF rc .ready (((List.replicate 22 .any).set 4 (.ptr 1 0)).set 5 (.ptr 2 0))),(1,.cells [.own 7 v 0 []]),(2,.cells [.own 8 v 0 []]),(3,.cells [.dv (aR l)]),(4,.cells [.fn 262 [.ptr 5 0,.ptr 6 0]]),(5,.cells [.dv (I (n-((cw n l).take i).sum))]),(6,.cells [.dv (aR l)]),(7,.tree v 0 (.aI 3 ((mi l (cw n l) i).1.map aD))),(8,.tree v 0 (.aI 3 ((mi l (cw n l) i).2.map aD)))]
def k2F(rc:RC)(l:List Lt)(n:Int):ae:=[(0,.dF rc .ready (((List.replicate 22 .any).set 4 (.ptr 1 0)).set 5 (.ptr 2 0))),(1,.cells [.own 7 1 0 []]),(2,.cells [.own 8 0 0 []]),(3,.cells [.dv (aR l)]),(4,.cells [.fn 262 [.ptr 5 0,.ptr 6 0]]),(5,.cells [.dv (I (n-((cw n l).take 0).sum))]),(6,.cells [.dv (aR l)]),(7,.tree 1 0 (.aI 3 [])),(8,.tree 0 0 (.aI 3 []))]
def k3F(rc:RC)(l:List Lt)(n:Int):ae:=[(0,.dF rc .ready (((List.replicate 22 .any).set 4 (.ptr 1 0)).set 5 (.ptr 2 0))),(1,.cells [.own 7 0 0 []]),(2,.cells [.own 8 0 0 []]),(3,.cells [.dv (aR l)]),(4,.cells [.fn 262 [.ptr 5 0,.ptr 6 0]]),(5,.cells [.dv (I (n-((cw n l).take 0).sum))]),(6,.cells [.dv (aR l)]),(7,.tree 0 0 (.aI 3 [])),(8,.tree 0 0 (.aI 3 []))]
def k4F(rc:RC)(l:List Lt)(n:Int):ae:=[(0,.dF rc .ready (((List.replicate 22 .any).set 4 (.ptr 1 0)).set 5 (.ptr 2 0))),(1,.cells [.own 7 0 0 []]),(2,.cells [.dv .aH]),(3,.cells [.dv (aR l)]),(4,.cells [.fn 262 [.ptr 5 0,.ptr 6 0]]),(5,.cells [.dv (I (n-((cw n l).take 0).sum))]),(6,.cells [.dv (aR l)]),(7,.tree 0 0 (.aI 3 []))]
def k0F(rc:RC)(l:List Lt)(n:Int):ae:=[(0,.dF rc .ready (((List.replicate 22 .any).set 4 (.ptr 1 0)).set 5 (.ptr 2 0))),(1,.cells [.dv .aH]),(2,.cells [.dv .aH]),(3,.cells [.dv (aR l)]),(4,.cells [.fn 262 [.ptr 5 0,.ptr 6 0]]),(5,.cells [.dv (I (n-((cw n l).take 0).sum))]),(6,.cells [.dv (aR l)])]
theorem aa3(rc:RC)(l:List Lt)(n:Int)(hl:∀x∈l,aJ x=true)(CN:l.length<=5000)(hn:0<=n/\n<=1099511627776)(hk:C7 l (cw n l))
 (hY:∀(z:ZZ) (x:Lt) (b:Bool),lB z.1->lB z.2->0<=x.n/\x.n<=1099511627776->dr Tryz.prog [cP (aD x),.dv (B b)] 5 (zP 0 rc z) 0 fun r k=>r=[.dv (B true)]/\k=zP 1 rc (gB z (x,b))):aw Tryz.prog 281 [.eC 0,.ptr 3 0,.ptr 4 0] 9 (k1F rc l n 1 0) 0 [] (k1F rc l n 1 l.length):=by
 refine cO Tryz.func281 rfl (by kernel_rfl) ?_
 have ll:(l.map aD).length=l.length:=adi ..
 refine⟨Nat,fun i=>⟨9,[(0,.eC 0),(1,.ptr 3 0),(2,.ptr 4 0),(7,.dv (aR l)),(8,.dv (I l.length)),(9,.dv (I i))],k1F rc l n 1 i⟩,fun i=>i<=l.length,fun i=>l.length-i,0,fun _=>rfl,jn (by simp only[ll];rfl) rfl rfl rfl,adx _,?_⟩
 rintro i hi
 refine adh (fun h=>?_) fun h=>?_
 ·have aB:i<l.length:=by have:=adz h;omega
  obtain⟨x,hx⟩:∃x,l[i]?=some x:=⟨_,abK aB⟩
  have ix:(l.map aD)[(i:Int).toNat]?=some (aD x):=by rw[adk];simp[hx]
  have Fh:=ak.1 (hl x (adl hx))
  obtain⟨k,ql,JK,hk3⟩:=hk i x hx
  obtain⟨z1,z2,z3,z4⟩:=IA hl hk i hi
  have fM:=yX hx ql
  have ji:=Bu z1 z3 (by omega)
  have ct:=Bu z2 z4 (by omega)
  have GW:lB (gB (mi l (cw n l) i) (⟨x.f,x.a,k⟩,true)).1:=Bu (n:=i+1) (iF z1 (by dsimp only;omega)) (Nat.le_trans (fb (mi l (cw n l) i).1 ⟨x.f,x.a,k⟩) (by omega)) (by omega)
  refine⟨aD x,fun _=>⟨by omega,ix⟩,?_⟩
  have hkm:=C5 l n i x hx
  rw[ql]at hkm
  injection hkm with hkm
  have hr:0<=n-((cw n l).take i).sum/\n-((cw n l).take i).sum<=1099511627776:=by
   have h1:=(C6 l n hn.1 (fun y hy=>(by have:=ak.1 (hl y hy);omega)) i)
   omega
  have hke:k=if x.n<n-((cw n l).take i).sum then x.n else n-((cw n l).take i).sum:=by rw[hkm];split<;>omega
  have hsn:((cw n l).take (i+1)).sum=((cw n l).take i).sum+k:=by rw[ads,ql];simp
  have hfu:=UD l (n-((cw n l).take i).sum) i x hx hr (by omega)
  rw[<-hke]at hfu
  have SQ:n-((cw n l).take i).sum-k=n-((cw n l).take (i+1)).sum:=by omega
  rw[SQ]at hfu
  refine .inr (cl [5,6] hfu (by kernel_rfl) rfl rfl ?_)
  refine .inl (PR [0,1,2,7,8] (hY (mi l (cw n l) i) ⟨x.f,x.a,k⟩ true ji ct (by dsimp only;omega)) (by kernel_rfl) rfl rfl ?_)
  repeat refine gG ?_
  refine⟨fun _=>by omega,?_⟩
  repeat refine gG ?_
  refine⟨fun _=>by omega,?_⟩
  repeat refine gG ?_
  refine .inl (PR [0,1,2,7,8] (hY (gB (mi l (cw n l) i) (⟨x.f,x.a,k⟩,true)) ⟨x.f,x.a+k,x.n-k⟩ false GW ct (by dsimp only;omega)) (by kernel_rfl) rfl rfl ?_)
  refine⟨rfl,fun _=>rfl,fun _ _=>rfl,adh (fun h=>by cases h) fun _=>?_⟩
  exact⟨fun _=>by omega,i+1,jn rfl (by simp only[k1F,fM];rfl) rfl rfl,aB,mlt aB⟩
 ·have he:i=l.length:=by have:=adA h;omega
  subst he
  exact ext (by kernel_rfl) rfl rfl
theorem MA(rc:RC)(l:List Lt)(n:Int)(hl:∀x∈l,aJ x=true)(CN:l.length<=5000)(hn:0<=n/\n<=1099511627776)(hk:C7 l (cw n l))
 (hY:∀(z:ZZ) (x:Lt) (b:Bool),lB z.1->lB z.2->0<=x.n/\x.n<=1099511627776->dr Tryz.prog [cP (aD x),.dv (B b)] 5 (zP 0 rc z) 0 fun r k=>r=[.dv (B true)]/\k=zP 1 rc (gB z (x,b))):aw Tryz.prog 281 [.eC 0,.ptr 3 0,.ptr 4 0] 7 (k0F rc l n) 2 [] (k1F rc l n 1 l.length):=by
 have h1:=aa3 rc l n hl CN hn hk hY
 have h2:=cQ 8 (K0:=k2F rc l n) h1 ⟨⟨_,rfl,rfl,fun j hj=>(by match j,hj with|0,_=>exact .refl _|1,_=>exact .refl _|2,_=>exact .cells (.qW .nil)|3,_=>exact .refl _|4,_=>exact .refl _|5,_=>exact .refl _|6,_=>exact .refl _|7,_=>exact .refl _|j+9,_=>exact .refl _)⟩,iI.refl _ _ _ _⟩
 have h3:=cQ 7 (K0:=k3F rc l n) h2 ⟨⟨_,rfl,rfl,fun j hj=>(by match j,hj with|0,_=>exact .refl _|1,_=>exact .cells (.qW .nil)|2,_=>exact .refl _|3,_=>exact .refl _|4,_=>exact .refl _|5,_=>exact .refl _|6,_=>exact .refl _|8,_=>exact .refl _|j+9,_=>exact .refl _)⟩,iI.refl _ _ _ _⟩
 have h4:=ir (K2:=k4F rc l n) (args2:=[.eC 0,.ptr 3 0,.ptr 4 0]) h3 rfl rfl (fun j hj=>(by match j,hj with|0,_=>exact .inl ⟨rfl,rfl⟩|1,_=>exact .inl ⟨rfl,rfl⟩|2,_=>exact .inr ⟨_,_,rfl,rfl,.born .nil⟩|3,_=>exact .inl ⟨rfl,rfl⟩|4,_=>exact .inl ⟨rfl,rfl⟩|5,_=>exact .inl ⟨rfl,rfl⟩|6,_=>exact .inl ⟨rfl,rfl⟩|7,_=>exact .inl ⟨rfl,rfl⟩|j+9,_=>exact .inl ⟨rfl,rfl⟩)) (.same _ rfl (.same _ rfl (.same _ rfl .nil)))
 exact ir (K2:=k0F rc l n) (args2:=[.eC 0,.ptr 3 0,.ptr 4 0]) h4 rfl rfl (fun j hj=>(by match j,hj with|0,_=>exact .inl ⟨rfl,rfl⟩|1,_=>exact .inr ⟨_,_,rfl,rfl,.born .nil⟩|2,_=>exact .inl ⟨rfl,rfl⟩|3,_=>exact .inl ⟨rfl,rfl⟩|4,_=>exact .inl ⟨rfl,rfl⟩|5,_=>exact .inl ⟨rfl,rfl⟩|6,_=>exact .inl ⟨rfl,rfl⟩|j+8,_=>exact .inl ⟨rfl,rfl⟩)) (.same _ rfl (.same _ rfl (.same _ rfl .nil)))
theorem Ag(l:List Lt)(n:Int):aw Tryz.prog 268 [.dv (aR l),.fn 262 [.ptr 0 0,.ptr 1 0]] 2 [(0,.cells [.dv (I n)]),(1,.cells [.dv (aR l)])] 2 [.fn 281 [.ptr 2 0,.ptr 3 0]] [(0,.cells [.dv (I n)]),(1,.cells [.dv (aR l)]),(2,.cells [.dv (aR l)]),(3,.cells [.fn 262 [.ptr 0 0,.ptr 1 0]])]:=by
 refine cO Tryz.func268 rfl (by kernel_rfl) ?_
 exact ext (by kernel_rfl) rfl rfl
theorem IB(l:List Lt)(n:Int)(hl:∀x∈l,aJ x=true)(CN:l.length<=5000)(hn:0<=n/\n<=1099511627776)(hk:C7 l (cw n l)):aw Tryz.prog 246 [.dv (aR l),.fn 262 [.ptr 0 0,.ptr 1 0]] 2 [(0,.cells [.dv (I n)]),(1,.cells [.dv (aR l)])] 0 [.dv (aR (mi l (cw n l) l.length).1),.dv (aR (mi l (cw n l) l.length).2)] [(0,.cells [.dv (I (n-((cw n l).take l.length).sum))]),(1,.cells [.dv (aR l)])]:=by
 refine cO Tryz.func246 rfl (by kernel_rfl) ?_
 have hi:=MA (qX Tryz.f246) l n hl CN hn hk fun z x b a1 a2 a3=>yW z x b a1 a2 a3
 refine .inr (cl [0,1] (Ag l n) (by kernel_rfl) rfl rfl ?_)
 refine⟨qX Tryz.f246,by kernel_rfl,?_⟩
 refine⟨[6,2,3,4,5,0,1],[.eC 0,.ptr 3 0,.ptr 4 0],k0F (qX Tryz.f246) l n,2,_,hi,by kernel_rfl,⟨rfl,rfl,rfl,tv⟩,⟨⟨rfl,rfl,?_⟩,⟨rf,tv⟩,⟨rf,tv⟩,⟨rf,tv⟩,⟨⟨rfl,rfl,rfl,tv⟩,tv⟩,⟨aM (by simp),tv⟩,⟨rf,tv⟩,tv⟩,?_⟩
 ·exact iG (by kernel_rfl)
 rintro rs K2 ⟨rfl,rfl⟩
 refine⟨by kernel_rfl,?_⟩
 conv=>whnf
 exact⟨by kernel_rfl,_,_,⟨rfl,rfl⟩,by kernel_rfl,⟨rV _,rV _,tv⟩,⟨rf,tv⟩,⟨rf,tv⟩,tv⟩
def k1S(rc:RC)(l:List Lt)(ks:List Int)(v i:Nat):ae:=[(0,.dF rc .ready (((List.replicate 22 .any).set 4 (.ptr 1 0)).set 5 (.ptr 2 0))),(1,.cells [.own 6 v 0 []]),(2,.cells [.own 7 v 0 []]),(3,.cells [.dv (aR l)]),(4,.cells [.fn 245 [.ptr 5 0]]),(5,.cells [.dv (Ints ks)]),(6,.tree v 0 (.aI 3 ((mi l (ks) i).1.map aD))),(7,.tree v 0 (.aI 3 ((mi l (ks) i).2.map aD)))]
def k2S(rc:RC)(l:List Lt)(ks:List Int):ae:=[(0,.dF rc .ready (((List.replicate 22 .any).set 4 (.ptr 1 0)).set 5 (.ptr 2 0))),(1,.cells [.own 6 1 0 []]),(2,.cells [.own 7 0 0 []]),(3,.cells [.dv (aR l)]),(4,.cells [.fn 245 [.ptr 5 0]]),(5,.cells [.dv (Ints ks)]),(6,.tree 1 0 (.aI 3 [])),(7,.tree 0 0 (.aI 3 []))]
def k3S(rc:RC)(l:List Lt)(ks:List Int):ae:=[(0,.dF rc .ready (((List.replicate 22 .any).set 4 (.ptr 1 0)).set 5 (.ptr 2 0))),(1,.cells [.own 6 0 0 []]),(2,.cells [.own 7 0 0 []]),(3,.cells [.dv (aR l)]),(4,.cells [.fn 245 [.ptr 5 0]]),(5,.cells [.dv (Ints ks)]),(6,.tree 0 0 (.aI 3 [])),(7,.tree 0 0 (.aI 3 []))]
def k4S(rc:RC)(l:List Lt)(ks:List Int):ae:=[(0,.dF rc .ready (((List.replicate 22 .any).set 4 (.ptr 1 0)).set 5 (.ptr 2 0))),(1,.cells [.own 6 0 0 []]),(2,.cells [.dv .aH]),(3,.cells [.dv (aR l)]),(4,.cells [.fn 245 [.ptr 5 0]]),(5,.cells [.dv (Ints ks)]),(6,.tree 0 0 (.aI 3 []))]
def k0S(rc:RC)(l:List Lt)(ks:List Int):ae:=[(0,.dF rc .ready (((List.replicate 22 .any).set 4 (.ptr 1 0)).set 5 (.ptr 2 0))),(1,.cells [.dv .aH]),(2,.cells [.dv .aH]),(3,.cells [.dv (aR l)]),(4,.cells [.fn 245 [.ptr 5 0]]),(5,.cells [.dv (Ints ks)])]
theorem aa4(rc:RC)(l:List Lt)(ks:List Int)(hl:∀x∈l,aJ x=true)(CN:l.length<=5000)(hk:C7 l (ks))
 (hY:∀(z:ZZ) (x:Lt) (b:Bool),lB z.1->lB z.2->0<=x.n/\x.n<=1099511627776->dr Tryz.prog [cP (aD x),.dv (B b)] 5 (zP 0 rc z) 0 fun r k=>r=[.dv (B true)]/\k=zP 1 rc (gB z (x,b))):aw Tryz.prog 281 [.eC 0,.ptr 3 0,.ptr 4 0] 8 (k1S rc l ks 1 0) 0 [] (k1S rc l ks 1 l.length):=by
 refine cO Tryz.func281 rfl (by kernel_rfl) ?_
 have ll:(l.map aD).length=l.length:=adi ..
 refine⟨Nat,fun i=>⟨8,[(0,.eC 0),(1,.ptr 3 0),(2,.ptr 4 0),(7,.dv (aR l)),(8,.dv (I l.length)),(9,.dv (I i))],k1S rc l ks 1 i⟩,fun i=>i<=l.length,fun i=>l.length-i,0,fun _=>rfl,jn (by simp only[ll];rfl) rfl rfl rfl,adx _,?_⟩
 rintro i hi
 refine adh (fun h=>?_) fun h=>?_
 ·have aB:i<l.length:=by have:=adz h;omega
  obtain⟨x,hx⟩:∃x,l[i]?=some x:=⟨_,abK aB⟩
  have ix:(l.map aD)[(i:Int).toNat]?=some (aD x):=by rw[adk];simp[hx]
  have Fh:=ak.1 (hl x (adl hx))
  obtain⟨k,ql,JK,hk3⟩:=hk i x hx
  obtain⟨z1,z2,z3,z4⟩:=IA hl hk i hi
  have fM:=yX hx ql
  have ji:=Bu z1 z3 (by omega)
  have ct:=Bu z2 z4 (by omega)
  have GW:lB (gB (mi l (ks) i) (⟨x.f,x.a,k⟩,true)).1:=Bu (n:=i+1) (iF z1 (by dsimp only;omega)) (Nat.le_trans (fb (mi l (ks) i).1 ⟨x.f,x.a,k⟩) (by omega)) (by omega)
  refine⟨aD x,fun _=>⟨by omega,ix⟩,?_⟩
  refine .inr (cl [5] (UE ks i k ql) (by kernel_rfl) rfl rfl ?_)
  refine .inl (PR [0,1,2,6,7] (hY (mi l (ks) i) ⟨x.f,x.a,k⟩ true ji ct (by dsimp only;omega)) (by kernel_rfl) rfl rfl ?_)
  repeat refine gG ?_
  refine⟨fun _=>by omega,?_⟩
  repeat refine gG ?_
  refine⟨fun _=>by omega,?_⟩
  repeat refine gG ?_
  refine .inl (PR [0,1,2,6,7] (hY (gB (mi l (ks) i) (⟨x.f,x.a,k⟩,true)) ⟨x.f,x.a+k,x.n-k⟩ false GW ct (by dsimp only;omega)) (by kernel_rfl) rfl rfl ?_)
  refine⟨rfl,fun _=>rfl,fun _ _=>rfl,adh (fun h=>by cases h) fun _=>?_⟩
  exact⟨fun _=>by omega,i+1,jn rfl (by simp only[k1S,fM];rfl) rfl rfl,aB,mlt aB⟩
 ·have he:i=l.length:=by have:=adA h;omega
  subst he
  exact ext (by kernel_rfl) rfl rfl
theorem MB(rc:RC)(l:List Lt)(ks:List Int)(hl:∀x∈l,aJ x=true)(CN:l.length<=5000)(hk:C7 l (ks))
 (hY:∀(z:ZZ) (x:Lt) (b:Bool),lB z.1->lB z.2->0<=x.n/\x.n<=1099511627776->dr Tryz.prog [cP (aD x),.dv (B b)] 5 (zP 0 rc z) 0 fun r k=>r=[.dv (B true)]/\k=zP 1 rc (gB z (x,b))):aw Tryz.prog 281 [.eC 0,.ptr 3 0,.ptr 4 0] 6 (k0S rc l ks) 2 [] (k1S rc l ks 1 l.length):=by
 have h1:=aa4 rc l ks hl CN hk hY
 have h2:=cQ 7 (K0:=k2S rc l ks) h1 ⟨⟨_,rfl,rfl,fun j hj=>(by match j,hj with|0,_=>exact .refl _|1,_=>exact .refl _|2,_=>exact .cells (.qW .nil)|3,_=>exact .refl _|4,_=>exact .refl _|5,_=>exact .refl _|6,_=>exact .refl _|j+8,_=>exact .refl _)⟩,iI.refl _ _ _ _⟩
 have h3:=cQ 6 (K0:=k3S rc l ks) h2 ⟨⟨_,rfl,rfl,fun j hj=>(by match j,hj with|0,_=>exact .refl _|1,_=>exact .cells (.qW .nil)|2,_=>exact .refl _|3,_=>exact .refl _|4,_=>exact .refl _|5,_=>exact .refl _|7,_=>exact .refl _|j+8,_=>exact .refl _)⟩,iI.refl _ _ _ _⟩
 have h4:=ir (K2:=k4S rc l ks) (args2:=[.eC 0,.ptr 3 0,.ptr 4 0]) h3 rfl rfl (fun j hj=>(by match j,hj with|0,_=>exact .inl ⟨rfl,rfl⟩|1,_=>exact .inl ⟨rfl,rfl⟩|2,_=>exact .inr ⟨_,_,rfl,rfl,.born .nil⟩|3,_=>exact .inl ⟨rfl,rfl⟩|4,_=>exact .inl ⟨rfl,rfl⟩|5,_=>exact .inl ⟨rfl,rfl⟩|6,_=>exact .inl ⟨rfl,rfl⟩|j+8,_=>exact .inl ⟨rfl,rfl⟩)) (.same _ rfl (.same _ rfl (.same _ rfl .nil)))
 exact ir (K2:=k0S rc l ks) (args2:=[.eC 0,.ptr 3 0,.ptr 4 0]) h4 rfl rfl (fun j hj=>(by match j,hj with|0,_=>exact .inl ⟨rfl,rfl⟩|1,_=>exact .inr ⟨_,_,rfl,rfl,.born .nil⟩|2,_=>exact .inl ⟨rfl,rfl⟩|3,_=>exact .inl ⟨rfl,rfl⟩|4,_=>exact .inl ⟨rfl,rfl⟩|5,_=>exact .inl ⟨rfl,rfl⟩|j+7,_=>exact .inl ⟨rfl,rfl⟩)) (.same _ rfl (.same _ rfl (.same _ rfl .nil)))
theorem Ah(l:List Lt)(ks:List Int):aw Tryz.prog 268 [.dv (aR l),.fn 245 [.ptr 0 0]] 1 [(0,.cells [.dv (Ints ks)])] 2 [.fn 281 [.ptr 1 0,.ptr 2 0]] [(0,.cells [.dv (Ints ks)]),(1,.cells [.dv (aR l)]),(2,.cells [.fn 245 [.ptr 0 0]])]:=by
 refine cO Tryz.func268 rfl (by kernel_rfl) ?_
 exact ext (by kernel_rfl) rfl rfl
theorem IC(l:List Lt)(ks:List Int)(hl:∀x∈l,aJ x=true)(CN:l.length<=5000)(hk:C7 l (ks)):aw Tryz.prog 246 [.dv (aR l),.fn 245 [.ptr 0 0]] 1 [(0,.cells [.dv (Ints ks)])] 0 [.dv (aR (mi l (ks) l.length).1),.dv (aR (mi l (ks) l.length).2)] [(0,.cells [.dv (Ints ks)])]:=by
 refine cO Tryz.func246 rfl (by kernel_rfl) ?_
 have hi:=MB (qX Tryz.f246) l ks hl CN hk fun z x b a1 a2 a3=>yW z x b a1 a2 a3
 refine .inr (cl [0] (Ah l ks) (by kernel_rfl) rfl rfl ?_)
 refine⟨qX Tryz.f246,by kernel_rfl,?_⟩
 refine⟨[5,1,2,3,4,0],[.eC 0,.ptr 3 0,.ptr 4 0],k0S (qX Tryz.f246) l ks,2,_,hi,by kernel_rfl,⟨rfl,rfl,rfl,tv⟩,⟨⟨rfl,rfl,?_⟩,⟨rf,tv⟩,⟨rf,tv⟩,⟨rf,tv⟩,⟨⟨rfl,rfl,tv⟩,tv⟩,⟨rf,tv⟩,tv⟩,?_⟩
 ·exact iG (by kernel_rfl)
 rintro rs K2 ⟨rfl,rfl⟩
 refine⟨by kernel_rfl,?_⟩
 conv=>whnf
 exact⟨by kernel_rfl,_,_,⟨rfl,rfl⟩,by kernel_rfl,⟨rV _,rV _,tv⟩,⟨rf,tv⟩,tv⟩
end
section
open Go.TM
variable [aW]
theorem kS(s:List Lt)(x:Lt)(hs:bE s=true)(hx:aJ x=true):ai Tryz.prog 147 [aR s,aD x] [aR (aT s x)]:=by
 obtain⟨h1,h2⟩:=fI hs
 have Fh:=ak.1 hx
 refine pO Tryz.func147 rfl (by kernel_rfl) rfl ?_
 refine .inl ⟨_,fun _=>(fO s (by omega)).ok,?_⟩
 repeat refine gG ?_
 refine .inl ⟨_,fun _=>(A8 x).ok,?_⟩
 rw[hs,hx]
 repeat refine gG ?_
 refine adh (fun h=>by cases h) fun _=>?_
 refine .inr (cl [] (fj s (by omega)) (by kernel_rfl) rfl rfl ?_)
 refine .inr (cl [1] (uT s x ⟨by omega,fun y hy=>by have:=ak.1 (h2 y hy);omega⟩ (by omega)) (by kernel_rfl) rfl rfl ?_)
 exact⟨by kernel_rfl,rV _,tv⟩
theorem vM(l:List Lt)(n:Int):aw Tryz.prog 243 [.dv (aR l),.dv (I n)] 0 [] 2 [.fn 262 [.ptr 1 0,.ptr 0 0]] [(0,.cells [.dv (aR l)]),(1,.cells [.dv (I n)])]:=by
 refine cO Tryz.func243 rfl (by kernel_rfl) ?_
 exact ext (by kernel_rfl) rfl rfl
theorem FP(s:List Lt)(n:Int)(mx:Bool)(hs:bE s=true)(hn:0<=n/\n<=1099511627776)(hc:cT s<n):ai Tryz.prog 233 [aR s,I n,B mx] [aR [],aR [],I 10]:=by
 obtain⟨h1,h2⟩:=fI hs
 refine pO Tryz.func233 rfl (by kernel_rfl) rfl ?_
 refine .inl ⟨_,fun _=>(fO s (by omega)).ok,?_⟩
 rw[hs]
 repeat refine gG ?_
 refine adh (fun h=>?_) fun _=>?_
 ·simp[bw]at h;omega
 refine .inl ⟨_,fun _=>(qt s (by omega)).ok,?_⟩
 refine adh (fun _=>?_) fun h=>absurd hc (adA h)
 exact⟨DV.aY 3,DV.aY 3,rf,tv⟩
theorem X6{s:List Lt}{n:Int}(hs:∀x∈s,aJ x=true)(hn:0<=n):C7 s (cw n s):=fun i x hx=>by
 have h1:=C5 s n i x hx
 have h2:=C6 s n hn (fun y hy=>by have:=ak.1 (hs y hy);omega) i
 have:=ak.1 (hs x (adl hx))
 exact⟨_,h1,by omega,by omega⟩
theorem FQ(s:List Lt)(n:Int)(mx:Bool)(hs:bE s=true)(hn:0<=n/\n<=1099511627776)(hc:¬cT s<n)(Wj:(mx&&decide (0<n))=false):ai Tryz.prog 233 [aR s,I n,B mx] [aR (fJ s n mx).1,aR (fJ s n mx).2,I 0]:=by
 obtain⟨h1,h2⟩:=fI hs
 have ecn:pK s n mx=cw n s:=by unfold pK;rw[Wj];rfl
 refine pO Tryz.func233 rfl (by kernel_rfl) rfl ?_
 refine .inl ⟨_,fun _=>(fO s (by omega)).ok,?_⟩
 rw[hs]
 repeat refine gG ?_
 refine adh (fun h=>?_) fun _=>?_
 ·simp[bw]at h;omega
 refine .inl ⟨_,fun _=>(qt s (by omega)).ok,?_⟩
 refine adh (fun h=>absurd (adz h) hc) fun _=>?_
 refine .inr (cl [] (vM s n) (by kernel_rfl) rfl rfl ?_)
 repeat refine gG ?_
 refine adh (fun h=>?_) fun _=>?_
 ·have h:=bZ h
  rw[h.1]at Wj
  have:=h.2
  rw[this]at Wj;cases Wj
 have hd:=IB s n h2 (by omega) hn (X6 h2 hn.1)
 refine .inr (cl [1,0] hd (by kernel_rfl) rfl rfl ?_)
 unfold fJ
 rw[ecn]
 exact⟨rf,rf,rf,tv⟩
def wz(l:List Int)(i:Nat):List Int:=l.take i++List.replicate (l.length-i) 0
theorem Qn(l:List Int)(i:Nat)(h:i<=l.length):(wz l i).length=l.length:=by simp[wz];omega
theorem MC{l:List Int}{i:Nat}{x:Int}(h:l[i]?=some x):(wz l i).set i x=wz l (i+1):=by
 have hi:=(adj.1 h).1
 unfold wz
 have:l.length-i=(l.length-(i+1))+1:=by omega
 rw[List.set_append,if_neg (by rw[adD];omega),ads,h,this,List.replicate_succ]
 simp[Nat.min_eq_left (Nat.le_of_lt hi)]
theorem Qo{l:List Int}{i:Nat}(h:i<l.length):(wz l i)[i]?=some 0:=by
 unfold wz
 rw[List.getElem?_append_right (by rw[adD];omega),List.getElem?_replicate,if_pos (by simp;omega)]
theorem Ku(l:List Int):(oT (.aI 1 (l.map I))).Le (Ints l):=DV.Le.of_eq (by
 show DV.sl 1 (wW (l.map I))=_
 rw[fq (fun _=>rfl)])
theorem X7{s:List Lt}{n:Int}(hs:∀x∈s,aJ x=true)(hn:0<=n)(X8:0<(s.map (·.n)).sum)(hle:n<=(s.map (·.n)).sum):C7 s (zL n (s.map (·.n))):=fun i x hx=>by
 have hi:i<(s.map (·.n)).length:=by rw[adi];exact(adj.1 hx).1
 have hb:=V5 hn (fun w hw=>by obtain⟨y,hy,rfl⟩:=adK.1 hw;have:=ak.1 (hs y hy);omega) X8 hle hi
 have hl:i<(zL n (s.map (·.n))).length:=by rw[Kc];exact hi
 have Wh:(s.map (·.n)).getD i 0=x.n:=by rw[adn,adk,hx];rfl
 rw[Wh]at hb
 generalize zL n (s.map (·.n))=ks at*
 refine⟨ks.getD i 0,?_,hb.1,hb.2⟩
 rw[adn,abK hl];rfl
theorem FR(s:List Lt)(n:Int)(hs:bE s=true)(hn:0<n/\n<=1099511627776)(hc:¬cT s<n)(ns:ai Tryz.prog 244 [I n,Ints (s.map (·.n))] [Ints (zL n (s.map (·.n))),I 0]):ai Tryz.prog 233 [aR s,I n,B true] [aR (fJ s n true).1,aR (fJ s n true).2,I 0]:=by
 obtain⟨h1,h2⟩:=fI hs
 have GX:cT s=(s.map (·.n)).sum:=by unfold cT;rw[hs];rfl
 have ecn:pK s n true=zL n (s.map (·.n)):=by unfold pK;rw[adF hn.1];rfl
 have ll:(s.map aD).length=s.length:=adi ..
 have lw:(s.map (·.n)).length=s.length:=adi ..
 refine pO Tryz.func233 rfl (by kernel_rfl) rfl ?_
 refine .inl ⟨_,fun _=>(fO s (by omega)).ok,?_⟩
 rw[hs]
 repeat refine gG ?_
 refine adh (fun h=>?_) fun _=>?_
 ·simp[bw]at h;omega
 refine .inl ⟨_,fun _=>(qt s (by omega)).ok,?_⟩
 refine adh (fun h=>absurd (adz h) hc) fun _=>?_
 refine .inr (cl [] (vM s n) (by kernel_rfl) rfl rfl ?_)
 repeat refine gG ?_
 refine adh (fun _=>?_) fun h=>?_
 ·refine⟨I 0,⟨rf,tv⟩,by omega,by omega,?_,by omega,false,(fun h=>by cases h),?_⟩
  ·rw[show(nth jk (nth jk 22).elem).bytes=8 by kernel_rfl];omega
  have e0:List.replicate (((s.map aD).length:Int)).toNat (I 0)=(wz (s.map (·.n)) 0).map I:=by unfold wz;simp
  rw[e0]
  refine⟨Nat,fun i=>⟨3,[(0,.dv (aR s)),(1,.dv (I n)),(10,.own 2 0 0 []),(43,.dv (aR s)),(44,.dv (I s.length)),(45,.dv (I i))],[(2,.tree 0 0 (.aI 1 ((wz (s.map (·.n)) i).map I)))]⟩,fun i=>i<=s.length,fun i=>s.length-i,0,fun _=>rfl,jn (by simp only[ll];rfl) rfl rfl rfl,adx _,?_⟩
  rintro i hi
  refine adh (fun h=>?_) fun h=>?_
  ·have aB:i<s.length:=by have:=adz h;omega
   obtain⟨x,hx⟩:∃x,s[i]?=some x:=⟨_,abK aB⟩
   have ix:(s.map aD)[(i:Int).toNat]?=some (aD x):=by rw[adk];simp[hx]
   have hwx:(s.map (·.n))[i]?=some x.n:=by rw[adk,hx];rfl
   have fM:=MC hwx
   have ou:=Qn (s.map (·.n)) i (by omega)
   refine⟨aD x,fun _=>⟨by omega,ix⟩,?_⟩
   refine⟨fun _=>⟨by omega,by rw[adi,ou,lw];omega⟩,[I x.n],⟨rf,tv⟩,I 0,by rw[adk];simp[Qo (show i<(s.map (·.n)).length by rw[lw];exact aB)],?_⟩
   exact⟨fun _=>by omega,i+1,jn rfl (by simp only[<-fM,List.map_set];rfl) rfl rfl,aB,mlt aB⟩
  ·have he:i=s.length:=by have:=adA h;omega
   subst he
   have Mm:wz (s.map (·.n)) s.length=s.map (·.n):=by unfold wz;rw[<-lw,ady];simp
   rw[Mm]
   refine .inl (.inr ⟨_,fun _=>⟨[I n,Ints (s.map (·.n))],⟨rf,Ku _,tv⟩,ns⟩,?_⟩)
   refine adh (fun h=>by cases h) fun _=>?_
   have hd:=IC s (zL n (s.map (·.n))) h2 (by omega) (X7 h2 (by omega) (by omega) (by omega))
   refine .inr (cl [3] hd (by kernel_rfl) rfl rfl ?_)
   unfold fJ
   rw[ecn]
   exact⟨rf,rf,rf,tv⟩
 ·exact absurd ⟨rfl,adF hn.1⟩ (gI h)
def nU:Prop:=∀(t:Int) (ws:List Int),0<=t/\t<=1099511627776->(∀w∈ws,0<=w/\w<=1099511627776)->ws.length<=5000->0<ws.sum->t<=ws.sum->ai Tryz.prog 244 [I t,Ints ws] [Ints (zL t ws),I 0]
theorem yY(hS:nU)(s:List Lt)(n:Int)(mx:Bool)(hn:0<=n/\n<=1099511627776)(hs:bE s=true):ai Tryz.prog 233 [aR s,I n,B mx] (Fl s n mx):=by
 unfold Fl
 by_cases hc:cT s<n
 ·rw[adF hc];exact FP s n mx hs hn hc
 ·rw[adG hc]
  cases Wj:mx&&decide (0<n)with
  |false=>exact FQ s n mx hs hn hc Wj
  |true=>
   simp only[adT,decide_eq_true_eq]at Wj
   obtain⟨rfl,Ul⟩:=Wj
   obtain⟨h1,h2⟩:=fI hs
   have GX:cT s=(s.map (·.n)).sum:=by unfold cT;rw[hs];rfl
   exact FR s n hs ⟨Ul,hn.2⟩ hc (hS n _ hn (fun w hw=>by obtain⟨y,hy,rfl⟩:=adK.1 hw;exact mU (h2 y hy)) (by rw[adi];omega) (by omega) (by omega))
end
section
open Go.TM
def frN(k:Int):Nat:=if k=0\/k=5 then 208 else if k=4\/k=10\/k=9 then 211 else 209
def toN(k:Int):Nat:=if k=1\/k=6 then 208 else if k=4\/k=10\/k=7 then 211 else 209
def whN(k:Int):Nat:=if k=4 then 212 else if k=10 then 213 else 210
def X9(k:Int):DV:=.agg [.fn (frN k) [],.fn (toN k) [],.bool (pP k),.fn (whN k) []]
def C8(k a:Int):Bool:=if k=0\/k=5 then a==0 else if k=4\/k=10\/k=9 then true else a !=0
def C9(k a:Int):Bool:=if k=1\/k=6 then a==0 else if k=4\/k=10\/k=7 then true else a !=0
theorem kinds{k:Int}(h:0<=k/\k<=10):k=0\/k=1\/k=2\/k=3\/k=4\/k=5\/k=6\/k=7\/k=8\/k=9\/k=10:=by omega
variable [aW]
theorem tB(a:Int):ai Tryz.prog 208 [I a] [B (a==0)]:=by
 refine pO Tryz.func208 rfl (by kernel_rfl) rfl ?_
 exact⟨rf,tv⟩
theorem tC(a:Int):ai Tryz.prog 209 [I a] [B (a !=0)]:=by
 refine pO Tryz.func209 rfl (by kernel_rfl) rfl ?_
 exact⟨rf,tv⟩
theorem yZ(a:Int):ai Tryz.prog 211 [I a] [B true]:=by
 refine pO Tryz.func211 rfl (by kernel_rfl) rfl ?_
 exact⟨rf,tv⟩
theorem UF(k a:Int):ai Tryz.prog (frN k) [I a] [B (C8 k a)]:=by
 unfold frN C8
 split
 ·exact tB a
 split
 ·exact yZ a
 ·exact tC a
theorem UG(k a:Int):ai Tryz.prog (toN k) [I a] [B (C9 k a)]:=by
 unfold toN C9
 split
 ·exact tB a
 split
 ·exact yZ a
 ·exact tC a
theorem lC(a:Int):ai Tryz.prog 142 [I a] [B (decide (0<=a)&&decide (a<=1073741824))]:=by
 refine pO Tryz.func142 rfl (by kernel_rfl) rfl ?_
 repeat refine gG ?_
 refine⟨DV.Le.of_eq ?_,tv⟩
 cases decide (0<=a)<;>rfl
theorem Bv(k:Int)(h:0<=k/\k<=10):ai Tryz.prog 141 [I k] [X9 k,B true]:=by
 rcases kinds h with rfl|rfl|rfl|rfl|rfl|rfl|rfl|rfl|rfl|rfl|rfl
 all_goals
  refine pO Tryz.func141 rfl (by kernel_rfl) rfl ?_
  repeat first|refine adh (fun h=>absurd h (by decide)) fun _=>?_|refine adh (fun _=>?_) fun h=>absurd h (by decide)
  exact⟨rf,rf,tv⟩
theorem ID(k:Int)(h:¬(0<=k/\k<=10)):ai Tryz.prog 141 [I k] [.agg [.jL,.jL,B false,.jL],B false]:=by
 have hk:∀n:Int,0<=n/\n<=10->¬(k==n)=true:=fun n hn he=>by have:=beq_iff_eq.1 he;omega
 refine pO Tryz.func141 rfl (by kernel_rfl) rfl ?_
 repeat refine adh (fun h=>absurd h (hk _ (by decide))) fun _=>?_
 exact⟨rf,rf,tv⟩
def r7(k:Int)(m:eS):Bool:=Bp m (pP k)&&(C8 k m.fr&&C9 k m.to)
theorem Qp(k:Int)(m:eS)(L:Int)(hL:L=5):(bif bif bif bif bif bif bif bif decide (m.it<0)then true else decide (L<=m.it)then true else decide (m.n<1)then true else decide (1099511627776<m.n)then true else !(decide (0<=m.fr)&&decide (m.fr<=1073741824))then true else !(decide (0<=m.to)&&decide (m.to<=1073741824))then true else m.fr==m.to then true else !C8 k m.fr then true else !C9 k m.to)=!(dG m&&(C8 k m.fr&&C9 k m.to)):=by
 subst hL
 generalize C8 k m.fr=x
 generalize C9 k m.to=y
 rw[adO]
 cases x<;>cases y<;>simp[dG]<;>omega
theorem mO(P:PL)(m:eS)(k:Int)(hl:m.ps.length<=4000):aw Tryz.prog 144 [.ptr 0 0,cP (ay m),cP (X9 k)] 7 (mw P) 0 [.dv (B (r7 k m))] (mw P):=by
 refine cO Tryz.func144 rfl (by kernel_rfl) ?_
 repeat refine gG ?_
 refine .inl ⟨_,fun _=>(lC m.fr).ok,?_⟩
 repeat refine gG ?_
 refine .inl ⟨_,fun _=>(lC m.to).ok,?_⟩
 repeat refine gG ?_
 refine .inl ⟨_,fun _=>(UF k m.fr).ok,?_⟩
 refine .inl ?_
 repeat refine gG ?_
 refine .inl ⟨_,fun _=>(UG k m.to).ok,?_⟩
 refine .inl ?_
 repeat refine gG ?_
 refine adh (by kernel_rfl) ?_
 refine adh (fun h=>?_) fun h=>adh (fun hs=>?_) fun hs=>?_
 ·have h:=(Qp k m _ rfl).symm.trans h
  have h:(dG m&&(C8 k m.fr&&C9 k m.to))=false:=by cases hh:(dG m&&(C8 k m.fr&&C9 k m.to));rfl;rw[hh]at h;cases h
  have e:r7 k m=false:=by
   unfold r7 Bp
   generalize dG m=x at h⊢
   generalize (C8 k m.fr&&C9 k m.to)=y at h⊢
   cases x<;>cases y<;>simp_all
  rw[e]
  exact ext (by kernel_rfl) rfl rfl
 ·have h:=(Qp k m _ rfl).symm.trans h
  have h:(dG m&&(C8 k m.fr&&C9 k m.to))=true:=by cases hh:(dG m&&(C8 k m.fr&&C9 k m.to));rw[hh]at h;cases h;rfl
  have hs:pP k=false:=by simpa using hs
  have e:r7 k m=((m.ps.map aD).length==(0:Int)):=by
   unfold r7 Bp
   rw[hs]
   rw[adT]at h
   rw[h.1,h.2]
   cases m.ps<;>simp<;>omega
  rw[e]
  exact ext (by kernel_rfl) rfl rfl
 have h:=(Qp k m _ rfl).symm.trans h
 have h:(dG m&&(C8 k m.fr&&C9 k m.to))=true:=by cases hh:(dG m&&(C8 k m.fr&&C9 k m.to));rw[hh]at h;cases h;rfl
 have hs:pP k=true:=by simpa using hs
 rw[adT]at h
 have e:r7 k m=(bE m.ps&&decide (cT m.ps=m.n)&&decide (cT (kF m.ps)=m.n)):=by
  unfold r7 Bp
  rw[hs,h.1,h.2];simp
 rw[e]
 have Zk:=fO m.ps (by omega)
 cases hv:bE m.ps with
 |false=>
  rw[hv]at Zk
  refine .inl ⟨_,fun _=>Zk.ok,?_⟩
  repeat refine gG ?_
  refine .inl ⟨[I 0],fun h=>(by cases h),?_⟩
  repeat refine gG ?_
  refine .inl ⟨[aR []],fun h=>(by cases h),?_⟩
  repeat refine gG ?_
  refine .inl ⟨[I 0],fun h=>(by cases h),?_⟩
  repeat refine gG ?_
  refine⟨by kernel_rfl,?_⟩
  refine ext (by kernel_rfl) rfl rfl
 |true=>
  rw[hv]at Zk
  have hn:=fun x hx=>mU ((fI hv).2 x hx)
  refine .inl ⟨_,fun _=>Zk.ok,?_⟩
  repeat refine gG ?_
  refine .inl ⟨_,fun _=>(qt m.ps (by omega)).ok,?_⟩
  repeat refine gG ?_
  refine .inl ⟨_,fun _=>(mW m.ps (fI hv).2 (by omega)).ok,?_⟩
  repeat refine gG ?_
  have hq:=qw (fI hv).2
  have hT:cT (cW m.ps)=cM (cW m.ps):=by
   have:bE (cW m.ps)=true:=by
    unfold bE
    rw[adH.2 hq.1,adF (by have:=hq.2.1;omega)];rfl
   unfold cT;rw[this];rfl
  have hsv:kF m.ps=cW m.ps:=by unfold kF;rw[hv];rfl
  refine .inl ⟨_,fun _=>(A9 (cW m.ps) (by have:=hq.2.1;omega) fun x hx=>mU (hq.1 x hx)).ok,?_⟩
  repeat refine gG ?_
  refine⟨by kernel_rfl,?_⟩
  have ee:(true&&decide (cT m.ps=m.n)&&decide (cT (kF m.ps)=m.n))=(bif (bif true then cT m.ps==m.n else false)then cM (cW m.ps)==m.n else false):=by
   rw[hsv,hT]
   have e1:∀a b:Int,decide (a=b)=(a==b):=fun a b=>by rw[adO];simp
   rw[e1,e1]
   cases(cT m.ps==m.n)<;>rfl
  rw[ee]
  refine ext (by kernel_rfl) rfl rfl
theorem Da(P:PL)(s:dI):aw Tryz.prog 210 [.ptr 0 0,cP (aZ s)] 7 (mw P) 0 [.dv (B (decide (s.aX=-1)&&decide (s.times=0)))] (mw P):=by
 refine cO Tryz.func210 rfl (by kernel_rfl) ?_
 repeat refine gG ?_
 rw[show(decide (s.aX=-1)&&decide (s.times=0))=(bif s.aX== -1 then s.times==0 else false)by rw[adO];simp]
 exact ext (by kernel_rfl) rfl rfl
theorem nV(n:Int):ai Tryz.prog 230 [I n] [B (decide (1<=n)&&decide (n<=1048576))]:=by
 refine pO Tryz.func230 rfl (by kernel_rfl) rfl ?_
 repeat refine gG ?_
 refine⟨DV.Le.of_eq ?_,tv⟩
 cases decide (1<=n)<;>rfl
theorem FT(P:PL)(s:dI):aw Tryz.prog 213 [.ptr 0 0,cP (aZ s)] 7 (mw P) 0 [.dv (B (tu s))] (mw P):=by
 refine cO Tryz.func213 rfl (by kernel_rfl) ?_
 repeat refine gG ?_
 have lm:(s.mv.map ay).length=s.mv.length:=adi ..
 refine .inl ⟨_,fun _=>(nV s.times).ok,?_⟩
 repeat refine gG ?_
 refine adh ?_ ?_
 ·intro h
  have hc:tu s=false:=by
   unfold tu
   rw[adU]
   rintro⟨q1,q2,q3,q4,-⟩
   rw[lm]at h
   simp at h
   omega
  rw[hc]
  exact ext (by kernel_rfl) rfl rfl
 intro h
 have hc:s.aX=-1/\1<=s.times/\s.times<=1048576/\s.mv.length=2:=by
  rw[lm]at h
  simp at h
  omega
 obtain⟨c1,c2,c3,c4⟩:=hc
 obtain⟨a,ha⟩:∃a,s.mv[0]?=some a:=⟨_,abK (show 0<s.mv.length by omega)⟩
 obtain⟨b,hb⟩:∃b,s.mv[1]?=some b:=⟨_,abK (show 1<s.mv.length by omega)⟩
 have ia:(s.mv.map ay)[(0:Int).toNat]?=some (ay a):=by rw[adk];exact congrArg (Option.map ay) ha
 have ib:(s.mv.map ay)[(1:Int).toNat]?=some (ay b):=by rw[adk];exact congrArg (Option.map ay) hb
 have da:s.mv.getD 0 m0=a:=by rw[adn,ha];rfl
 have db:s.mv.getD 1 m0=b:=by rw[adn,hb];rfl
 refine⟨ay a,fun _=>⟨by omega,ia⟩,?_⟩
 repeat refine gG ?_
 refine⟨ay b,fun _=>⟨by omega,ib⟩,?_⟩
 repeat first|refine gG ?_|refine⟨fun _ h=>by omega,?_⟩|refine adh (fun _ h=>h) ?_|refine adh (fun h=>h) ?_
 refine adh (by kernel_rfl) ?_
 have hcv:tu s=(bif bif bif bif a.to==0 then b.fr==0 else false then a.fr==b.to else false then a.n.tmod s.times==0 else false then b.n.tmod s.times==0 else false):=by
  unfold tu
  rw[da,db,adO,BEq.comm (a:=a.fr)]
  simp[c1,c2,c3,c4,and_assoc]
 rw[hcv]
 repeat first|refine gG ?_|refine⟨fun _ h=>by omega,?_⟩
 exact ext (by kernel_rfl) rfl rfl
end
end Go.Proofs.YtfpebgpgabjieaaGreatDoor
