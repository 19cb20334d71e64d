import Derived.Test.YtknnpcfhekkjjaaGreatDoorFM34
import Derived.Test.YtknnpcfhekkjjaaGreatDoorFM23
import Derived.Test.YtknnpcfhekkjjaaGreatDoorFM25
set_option linter.all false
namespace Go.Proofs.YtknnpcfhekkjjaaGreatDoor
set_option maxRecDepth 100000
set_option maxHeartbeats 4000000
section
open Go.TM
variable [bG]
theorem L9(x y:Lt)(hy:0<=y.a/\y.a<=1099511627776/\0<=y.n/\y.n<=1099511627776):aI Tryz.prog 193 [aC x,aC y] [B (decide (x.f=y.f/\x.a=y.a+y.n))]:=by
 refine pO Tryz.func193 rfl (by kernel_rfl) rfl ?_
 refine⟨fun _=>⟨by omega,by omega⟩,DV.Le.of_eq ?_,tv⟩
 congr 1
 rw[ace];simp
theorem Zn(l:List Lt)(x:Lt)(hl:lB l)(hx:0<=x.n/\x.n<=1099511627776):ar Tryz.prog 175 [.own 0 1 0 [],cY (aC x)] 1 [(0,.tree 1 0 (.aB 3 (l.map aC)))] 0 [.own 0 1 0 []] [(0,.tree 1 0 (.aB 3 ((bj l x).map aC)))]:=by
 obtain⟨hlen,Ja⟩:=hl
 have ll:(l.map aC).length=l.length:=abH ..
 refine cO Tryz.func175 rfl (by kernel_rfl) ?_
 refine abG (fun h=>?_) fun h=>?_
 ·have h:x.n=0:=beq_iff_eq.1 h
  rw[bj,if_pos h]
  exact ext (by kernel_rfl) rfl rfl
 have h0:x.n≠0:=beq_eq_false_iff_ne.1 h
 repeat first|apply g1|apply g2|apply g3|apply g4|apply g5
 obtain⟨y,hy⟩:∃y,y=l.getLastD ⟨0,0,0⟩:=⟨_,rfl⟩
 have dq:bw (decide (0<(((l.map aC).length:Nat):Int))) true=true->0<l.length:=fun h=>by have:=abY (gL h);omega
 have ia:∀h:bw (decide (0<(((l.map aC).length:Nat):Int))) true=true,-9223372036854775808<=(((l.map aC).length:Nat):Int)-1/\(((l.map aC).length:Nat):Int)-1<=9223372036854775807:=fun h=>by omega
 have ib:∀h:bw (decide (0<(((l.map aC).length:Nat):Int))) true=true,0<=(((l.map aC).length:Nat):Int)-1/\(((l.map aC).length:Nat):Int)-1<(((l.map aC).length:Nat):Int):=fun h=>by have:=dq h;omega
 have ie:∀h:bw (decide (0<(((l.map aC).length:Nat):Int))) true=true,(l.map aC)[((((l.map aC).length:Nat):Int)-1).toNat]?=some (aC y):=fun h=>by
  have:=(oq (dq h)).1
  rw[abJ,show((((l.map aC).length:Nat):Int)-1).toNat=l.length-1 by omega,this,hy];rfl
 have MM:∀h:bw (decide (0<(((l.map aC).length:Nat):Int))) true=true,0<=y.a/\y.a<=1099511627776/\0<=y.n/\y.n<=1099511627776:=fun h=>Ja y (by rw[hy];exact abK (oq (dq h)).1)
 refine⟨fun h=>ia h,?_⟩
 repeat first|apply g1|apply g2|apply g3|apply g4|apply g5
 refine⟨fun h=>ib h,?_⟩
 repeat first|apply g1|apply g2|apply g3|apply g4|apply g5
 refine⟨aC y,fun h=>ie h,?_⟩
 repeat first|apply g1|apply g2|apply g3|apply g4|apply g5
 refine .inl ⟨_,fun h=>(L9 x y (MM h)).ok,?_⟩
 repeat first|apply g1|apply g2|apply g3|apply g4|apply g5
 refine⟨by kernel_rfl,abG (fun h=>?_) fun h=>?_⟩
 ·have h1:=eh h
  have Dh:=abY h1.2
  have hb:=uV h1.1
  have MM:=MM hb
  have e:bj l x=l.set (l.length-1) ⟨y.f,y.a,y.n+x.n⟩:=by
   have wY:=(oq (dq hb)).2
   rw[<-hy]at wY
   have hc:y.f=x.f/\y.a+y.n=x.a:=⟨Dh.1.symm,Dh.2.symm⟩
   unfold bj
   rw[if_neg h0,wY]
   simp only
   rw[if_pos hc]
   conv=>rhs;rw[gR wY]
   have:(l.dropLast++[y]).length-1=l.dropLast.length:=by simp
   simp
  have ei:((((l.map aC).length:Nat):Int)-1).toNat=l.length-1:=by omega
  refine⟨fun _=>ia hb,fun _=>ib hb,aC y,fun _=>ie hb,fun _=>⟨by omega,by omega⟩,fun _=>ib hb,?_⟩
  refine⟨[I (y.n+x.n)],⟨rf,tv⟩,aC y,ie hb,?_⟩
  refine⟨by kernel_rfl,ext (by kernel_rfl) rfl ?_⟩
  rw[e,List.map_set,<-ei]
  rfl
 ·have e:bj l x=l++[x]:=by
   by_cases hp:0<l.length
   ·have wY:=(oq hp).2
    rw[<-hy]at wY
    have hn:¬(y.f=x.f/\y.a+y.n=x.a):=fun hc=>mQ h ⟨ab4 (by omega),ab4 ⟨hc.1.symm,hc.2.symm⟩⟩
    unfold bj
    rw[if_neg h0,wY]
    simp only
    rw[if_neg hn]
   ·have:l=[]:=List.length_eq_zero_iff.1 (by omega)
    subst this
    unfold bj
    rw[if_neg h0];rfl
  refine .inl ⟨[aC x],rfl,⟨rf,rf,rf,tv⟩,(by simp;rfl),?_⟩
  refine .inr ⟨[aC x],cd.refl _,bL (by simp;omega),by simp;omega,?_⟩
  refine ext (by kernel_rfl) rfl ?_
  rw[e,ab0]
  rfl
theorem u7(l:List Lt)(x:Lt)(hl:lB l)(hx:0<=x.n/\x.n<=1099511627776):ar Tryz.prog 175 [.own 0 0 0 [],cY (aC x)] 1 [(0,.tree 0 0 (.aB 3 (l.map aC)))] 0 [.own 0 1 0 []] [(0,.tree 1 0 (.aB 3 ((bj l x).map aC)))]:=
 cR 0 (Zn l x hl hx) ⟨⟨_,rfl,rfl,fun j hj=>(by match j,hj with|j+1,_=>exact .refl _)⟩,.sb (.same _ .nil)⟩
end
section
open Go.TM
theorem Di:∀(s:List Lt) (n:Int) (i:Nat) (x:Lt),s[i]?=some x->(ck n s)[i]?=some (min (n-((ck n s).take i).sum) x.n)
 |y::r,n,0,x,h=>by simp at h;subst h;simp[ck]
 |y::r,n,i+1,x,h=>by
  have ih:=Di r (n-min n y.n) i x (by simpa using h)
  simp only[ck,List.getElem?_cons_succ,List.take_succ_cons,List.sum_cons]
  rw[ih];congr 2;omega
theorem Dj:∀(s:List Lt) (n:Int),0<=n->(∀x∈s,0<=x.n)->∀i,0<=((ck n s).take i).sum/\((ck n s).take i).sum<=n
 |[],n,hn,_,i=>by simp[ck];exact hn
 |y::r,n,hn,h,0=>by simp;exact hn
 |y::r,n,hn,h,i+1=>by
  have hy:=h y abT
  have ih:=Dj r (n-min n y.n) (by omega) (fun x hx=>h x (abP _ hx)) i
  simp only[ck,List.take_succ_cons,List.sum_cons]
  omega
variable [bG]
theorem Wh(z:ZZ)(x:Lt)(b:Bool)(h1:lB z.1)(h2:lB z.2)(hx:0<=x.n/\x.n<=1099511627776):eC Tryz.prog [cY (aC x),.dv (B b)] 5 (zU 1 (FQ Tryz.f204) z) 0 fun r k=>r=[.dv (B true)]/\k=zU 1 (FQ Tryz.f204) (gi z (x,b)):=by
 refine AU gy mixed rfl (by kernel_rfl) ?_
 cases b with
 |true=>
  refine abG (fun _=>?_) fun h=>by cases h
  refine .inr (cl [3] (u7 z.1 x h1 hx) (by kernel_rfl) rfl rfl ?_)
  exact ext (by kernel_rfl) rfl rfl
 |false=>
  refine abG (fun h=>by cases h) fun _=>?_
  refine .inr (cl [4] (u7 z.2 x h2 hx) (by kernel_rfl) rfl rfl ?_)
  exact ext (by kernel_rfl) rfl rfl
theorem zb(z:ZZ)(x:Lt)(b:Bool)(h1:lB z.1)(h2:lB z.2)(hx:0<=x.n/\x.n<=1099511627776):eC Tryz.prog [cY (aC x),.dv (B b)] 5 (zU 0 (FQ Tryz.f204) z) 0 fun r k=>r=[.dv (B true)]/\k=zU 1 (FQ Tryz.f204) (gi z (x,b)):=
 kq 3 (kq 4 (Wh z x b h1 h2 hx) Dg.1) Dg.2
theorem zd{s:List Lt}{ks:List Int}{i:Nat}{x:Lt}{k:Int}(hx:s[i]?=some x)(hk:ks[i]?=some k):mo s ks (i+1)=gi (gi (mo s ks i) (⟨x.f,x.a,k⟩,true)) (⟨x.f,x.a+k,x.n-k⟩,false):=by
 have hz:(s.zip ks)[i]?=some (x,k):=by rw[List.getElem?_zip_eq_some];exact⟨hx,hk⟩
 unfold mo
 rw[abR,hz,ab7]
 rfl
def Dk(s:List Lt)(ks:List Int):Prop:=∀(i:Nat) (x:Lt),s[i]?=some x->∃k,ks[i]?=some k/\0<=k/\k<=x.n
theorem Ir{s:List Lt}{ks:List Int}(hs:∀x∈s,aO x=true)(hk:Dk s ks):∀i,i<=s.length->(∀y∈(mo s ks i).1,aO y=true)/\(∀y∈(mo s ks i).2,aO y=true)/\(mo s ks i).1.length<=i/\(mo s ks i).2.length<=i
 |0,_=>⟨fun _ h=>(by cases h),fun _ h=>(by cases h),acb _,acb _⟩
 |i+1,hi=>by
  obtain⟨h1,h2,h3,h4⟩:=Ir hs hk i (by omega)
  obtain⟨x,hx⟩:∃x,s[i]?=some x:=⟨_,aaj (by omega)⟩
  obtain⟨k,ph,K4,hk3⟩:=hk i x hx
  have hb:=ax.1 (hs x (abK hx))
  rw[zd hx ph]
  have a1:=fp (mo s ks i).1 ⟨x.f,x.a,k⟩
  have a2:=fp (mo s ks i).2 ⟨x.f,x.a+k,x.n-k⟩
  exact⟨hZ h1 (by dsimp only;omega),hZ h2 (by dsimp only;omega),Nat.le_trans a1 (by omega),Nat.le_trans a2 (by omega)⟩
theorem BJ{l:List Lt}{n:Nat}(h:∀y∈l,aO y=true)(hl:l.length<=n)(hn:n<=100000):lB l:=⟨by omega,fun y hy=>by have:=ax.1 (h y hy);omega⟩
theorem SN(l:List Lt)(n:Int)(i:Nat)(x:Lt)(hx:l[i]?=some x)(hn:0<=n/\n<=1099511627776)(hxn:0<=x.n/\x.n<=1099511627776):ar Tryz.prog 222 [.dv (I i),.ptr 0 0,.ptr 1 0] 2 [(0,.cells [.dv (I n)]),(1,.cells [.dv (aU l)])] 0 [.dv (I (if x.n<n then x.n else n))] [(0,.cells [.dv (I (n-if x.n<n then x.n else n))]),(1,.cells [.dv (aU l)])]:=by
 have ix:(l.map aC)[(i:Int).toNat]?=some (aC x):=by rw[abJ];simp[hx]
 have ov:-9223372036854775808<=n-(if x.n<n then x.n else n)/\n-(if x.n<n then x.n else n)<=9223372036854775807:=by split<;>omega
 refine cO Tryz.func222 rfl (by kernel_rfl) ?_
 refine⟨aC x,fun _=>⟨by omega,ix⟩,?_⟩
 refine⟨by kernel_rfl,fun _=>ov,?_⟩
 exact ext (by kernel_rfl) rfl rfl
theorem SO(ks:List Int)(i:Nat)(k:Int)(hk:ks[i]?=some k):ar Tryz.prog 203 [.dv (I i),.ptr 0 0] 1 [(0,.cells [.dv (Ints ks)])] 0 [.dv (I k)] [(0,.cells [.dv (Ints ks)])]:=by
 have ix:(ks.map I)[(i:Int).toNat]?=some (I k):=by rw[abJ];simp[hk]
 refine cO Tryz.func203 rfl (by kernel_rfl) ?_
 refine⟨I k,fun _=>⟨by omega,ix⟩,?_⟩
 exact ext (by kernel_rfl) rfl rfl
def Zo(rc:RC)(l:List Lt)(n:Int)(v i:Nat):ae:=[(0,.c8 rc .ready (((List.replicate 22 .any).set 4 (.ptr 1 0)).set 5 (.ptr 2 0))),(1,.cells [.own 7 v 0 []]),(2,.cells [.own 8 v 0 []]),(3,.cells [.dv (aU l)]),(4,.cells [.fn 222 [.ptr 5 0,.ptr 6 0]]),(5,.cells [.dv (I (n-((ck n l).take i).sum))]),(6,.cells [.dv (aU l)]),(7,.tree v 0 (.aB 3 ((mo l (ck n l) i).1.map aC))),(8,.tree v 0 (.aB 3 ((mo l (ck n l) i).2.map aC)))]
def k2F(rc:RC)(l:List Lt)(n:Int):ae:=[(0,.c8 rc .ready (((List.replicate 22 .any).set 4 (.ptr 1 0)).set 5 (.ptr 2 0))),(1,.cells [.own 7 1 0 []]),(2,.cells [.own 8 0 0 []]),(3,.cells [.dv (aU l)]),(4,.cells [.fn 222 [.ptr 5 0,.ptr 6 0]]),(5,.cells [.dv (I (n-((ck n l).take 0).sum))]),(6,.cells [.dv (aU l)]),(7,.tree 1 0 (.aB 3 [])),(8,.tree 0 0 (.aB 3 []))]
def k3F(rc:RC)(l:List Lt)(n:Int):ae:=[(0,.c8 rc .ready (((List.replicate 22 .any).set 4 (.ptr 1 0)).set 5 (.ptr 2 0))),(1,.cells [.own 7 0 0 []]),(2,.cells [.own 8 0 0 []]),(3,.cells [.dv (aU l)]),(4,.cells [.fn 222 [.ptr 5 0,.ptr 6 0]]),(5,.cells [.dv (I (n-((ck n l).take 0).sum))]),(6,.cells [.dv (aU l)]),(7,.tree 0 0 (.aB 3 [])),(8,.tree 0 0 (.aB 3 []))]
def k4F(rc:RC)(l:List Lt)(n:Int):ae:=[(0,.c8 rc .ready (((List.replicate 22 .any).set 4 (.ptr 1 0)).set 5 (.ptr 2 0))),(1,.cells [.own 7 0 0 []]),(2,.cells [.dv .az]),(3,.cells [.dv (aU l)]),(4,.cells [.fn 222 [.ptr 5 0,.ptr 6 0]]),(5,.cells [.dv (I (n-((ck n l).take 0).sum))]),(6,.cells [.dv (aU l)]),(7,.tree 0 0 (.aB 3 []))]
def k0F(rc:RC)(l:List Lt)(n:Int):ae:=[(0,.c8 rc .ready (((List.replicate 22 .any).set 4 (.ptr 1 0)).set 5 (.ptr 2 0))),(1,.cells [.dv .az]),(2,.cells [.dv .az]),(3,.cells [.dv (aU l)]),(4,.cells [.fn 222 [.ptr 5 0,.ptr 6 0]]),(5,.cells [.dv (I (n-((ck n l).take 0).sum))]),(6,.cells [.dv (aU l)])]
theorem Zp(rc:RC)(l:List Lt)(n:Int)(hl:∀x∈l,aO x=true)(FT:l.length<=5000)(hn:0<=n/\n<=1099511627776)(hk:Dk l (ck n l))
 (hY:∀(z:ZZ) (x:Lt) (b:Bool),lB z.1->lB z.2->0<=x.n/\x.n<=1099511627776->eC Tryz.prog [cY (aC x),.dv (B b)] 5 (zU 0 rc z) 0 fun r k=>r=[.dv (B true)]/\k=zU 1 rc (gi z (x,b))):ar Tryz.prog 243 [.eN 0,.ptr 3 0,.ptr 4 0] 9 (Zo rc l n 1 0) 0 [] (Zo rc l n 1 l.length):=by
 refine cO Tryz.func243 rfl (by kernel_rfl) ?_
 have ll:(l.map aC).length=l.length:=abH ..
 refine⟨Nat,fun i=>⟨9,[(0,.eN 0),(1,.ptr 3 0),(2,.ptr 4 0),(7,.dv (aU l)),(8,.dv (I l.length)),(9,.dv (I i))],Zo rc l n 1 i⟩,fun i=>i<=l.length,fun i=>l.length-i,0,fun _=>rfl,jn (by simp only[ll];rfl) rfl rfl rfl,abW _,?_⟩
 rintro i hi
 refine abG (fun h=>?_) fun h=>?_
 ·have au:i<l.length:=by have:=abY h;omega
  obtain⟨x,hx⟩:∃x,l[i]?=some x:=⟨_,aaj au⟩
  have ix:(l.map aC)[(i:Int).toNat]?=some (aC x):=by rw[abJ];simp[hx]
  have LC:=ax.1 (hl x (abK hx))
  obtain⟨k,ph,K4,hk3⟩:=hk i x hx
  obtain⟨z1,z2,z3,z4⟩:=Ir hl hk i hi
  have dZ:=zd hx ph
  have iZ:=BJ z1 z3 (by omega)
  have ca:=BJ z2 z4 (by omega)
  have vz:lB (gi (mo l (ck n l) i) (⟨x.f,x.a,k⟩,true)).1:=BJ (n:=i+1) (hZ z1 (by dsimp only;omega)) (Nat.le_trans (fp (mo l (ck n l) i).1 ⟨x.f,x.a,k⟩) (by omega)) (by omega)
  refine⟨aC x,fun _=>⟨by omega,ix⟩,?_⟩
  have hkm:=Di l n i x hx
  rw[ph]at hkm
  injection hkm with hkm
  have hr:0<=n-((ck n l).take i).sum/\n-((ck n l).take i).sum<=1099511627776:=by
   have h1:=(Dj l n hn.1 (fun y hy=>(by have:=ax.1 (hl y hy);omega)) i)
   omega
  have hke:k=if x.n<n-((ck n l).take i).sum then x.n else n-((ck n l).take i).sum:=by rw[hkm];split<;>omega
  have hsn:((ck n l).take (i+1)).sum=((ck n l).take i).sum+k:=by rw[abR,ph];simp
  have Yt:=SN l (n-((ck n l).take i).sum) i x hx hr (by omega)
  rw[<-hke]at Yt
  have hre:n-((ck n l).take i).sum-k=n-((ck n l).take (i+1)).sum:=by omega
  rw[hre]at Yt
  refine .inr (cl [5,6] Yt (by kernel_rfl) rfl rfl ?_)
  refine .inl (Ui [0,1,2,7,8] (hY (mo l (ck n l) i) ⟨x.f,x.a,k⟩ true iZ ca (by dsimp only;omega)) (by kernel_rfl) rfl rfl ?_)
  repeat first|apply g1|apply g2|apply g3|apply g4|apply g5
  refine⟨fun _=>⟨by omega,by omega⟩,?_⟩
  repeat first|apply g1|apply g2|apply g3|apply g4|apply g5
  refine⟨fun _=>⟨by omega,by omega⟩,?_⟩
  repeat first|apply g1|apply g2|apply g3|apply g4|apply g5
  refine .inl (Ui [0,1,2,7,8] (hY (gi (mo l (ck n l) i) (⟨x.f,x.a,k⟩,true)) ⟨x.f,x.a+k,x.n-k⟩ false vz ca (by dsimp only;omega)) (by kernel_rfl) rfl rfl ?_)
  refine⟨rfl,fun _=>rfl,fun _ _=>rfl,abG (fun h=>by cases h) fun _=>?_⟩
  exact⟨fun _=>⟨by omega,by omega⟩,i+1,jn rfl (by simp only[Zo,dZ];rfl) rfl rfl,au,mlt au⟩
 ·have he:i=l.length:=by have:=abZ h;omega
  subst he
  exact ext (by kernel_rfl) rfl rfl
theorem Ma(rc:RC)(l:List Lt)(n:Int)(hl:∀x∈l,aO x=true)(FT:l.length<=5000)(hn:0<=n/\n<=1099511627776)(hk:Dk l (ck n l))
 (hY:∀(z:ZZ) (x:Lt) (b:Bool),lB z.1->lB z.2->0<=x.n/\x.n<=1099511627776->eC Tryz.prog [cY (aC x),.dv (B b)] 5 (zU 0 rc z) 0 fun r k=>r=[.dv (B true)]/\k=zU 1 rc (gi z (x,b))):ar Tryz.prog 243 [.eN 0,.ptr 3 0,.ptr 4 0] 7 (k0F rc l n) 2 [] (Zo rc l n 1 l.length):=by
 have h1:=Zp rc l n hl FT hn hk hY
 have h2:=cR 8 (K0:=k2F rc l n) h1 ⟨⟨_,rfl,rfl,fun j hj=>(by match j,hj with|0,_=>exact .refl _|1,_=>exact .refl _|2,_=>exact .cells (.sb .nil)|3,_=>exact .refl _|4,_=>exact .refl _|5,_=>exact .refl _|6,_=>exact .refl _|7,_=>exact .refl _|j+9,_=>exact .refl _)⟩,iV.refl _ _ _ _⟩
 have h3:=cR 7 (K0:=k3F rc l n) h2 ⟨⟨_,rfl,rfl,fun j hj=>(by match j,hj with|0,_=>exact .refl _|1,_=>exact .cells (.sb .nil)|2,_=>exact .refl _|3,_=>exact .refl _|4,_=>exact .refl _|5,_=>exact .refl _|6,_=>exact .refl _|8,_=>exact .refl _|j+9,_=>exact .refl _)⟩,iV.refl _ _ _ _⟩
 have h4:=jo (K2:=k4F rc l n) (args2:=[.eN 0,.ptr 3 0,.ptr 4 0]) h3 rfl rfl (fun j hj=>(by match j,hj with|0,_=>exact .inl ⟨rfl,rfl⟩|1,_=>exact .inl ⟨rfl,rfl⟩|2,_=>exact .inr ⟨_,_,rfl,rfl,.born .nil⟩|3,_=>exact .inl ⟨rfl,rfl⟩|4,_=>exact .inl ⟨rfl,rfl⟩|5,_=>exact .inl ⟨rfl,rfl⟩|6,_=>exact .inl ⟨rfl,rfl⟩|7,_=>exact .inl ⟨rfl,rfl⟩|j+9,_=>exact .inl ⟨rfl,rfl⟩)) (.same _ rfl (.same _ rfl (.same _ rfl .nil)))
 exact jo (K2:=k0F rc l n) (args2:=[.eN 0,.ptr 3 0,.ptr 4 0]) h4 rfl rfl (fun j hj=>(by match j,hj with|0,_=>exact .inl ⟨rfl,rfl⟩|1,_=>exact .inr ⟨_,_,rfl,rfl,.born .nil⟩|2,_=>exact .inl ⟨rfl,rfl⟩|3,_=>exact .inl ⟨rfl,rfl⟩|4,_=>exact .inl ⟨rfl,rfl⟩|5,_=>exact .inl ⟨rfl,rfl⟩|6,_=>exact .inl ⟨rfl,rfl⟩|j+8,_=>exact .inl ⟨rfl,rfl⟩)) (.same _ rfl (.same _ rfl (.same _ rfl .nil)))
theorem Ar(l:List Lt)(n:Int):ar Tryz.prog 228 [.dv (aU l),.fn 222 [.ptr 0 0,.ptr 1 0]] 2 [(0,.cells [.dv (I n)]),(1,.cells [.dv (aU l)])] 2 [.fn 243 [.ptr 2 0,.ptr 3 0]] [(0,.cells [.dv (I n)]),(1,.cells [.dv (aU l)]),(2,.cells [.dv (aU l)]),(3,.cells [.fn 222 [.ptr 0 0,.ptr 1 0]])]:=by
 refine cO Tryz.func228 rfl (by kernel_rfl) ?_
 exact ext (by kernel_rfl) rfl rfl
theorem Is(l:List Lt)(n:Int)(hl:∀x∈l,aO x=true)(FT:l.length<=5000)(hn:0<=n/\n<=1099511627776)(hk:Dk l (ck n l)):ar Tryz.prog 204 [.dv (aU l),.fn 222 [.ptr 0 0,.ptr 1 0]] 2 [(0,.cells [.dv (I n)]),(1,.cells [.dv (aU l)])] 0 [.dv (aU (mo l (ck n l) l.length).1),.dv (aU (mo l (ck n l) l.length).2)] [(0,.cells [.dv (I (n-((ck n l).take l.length).sum))]),(1,.cells [.dv (aU l)])]:=by
 refine cO Tryz.func204 rfl (by kernel_rfl) ?_
 have hi:=Ma (FQ Tryz.f204) l n hl FT hn hk fun z x b a1 a2 a3=>zb z x b a1 a2 a3
 refine .inr (cl [0,1] (Ar l n) (by kernel_rfl) rfl rfl ?_)
 refine⟨FQ Tryz.f204,by kernel_rfl,?_⟩
 refine⟨[6,2,3,4,5,0,1],[.eN 0,.ptr 3 0,.ptr 4 0],k0F (FQ Tryz.f204) l n,2,_,hi,by kernel_rfl,⟨rfl,rfl,rfl,tv⟩,⟨⟨rfl,rfl,?_⟩,⟨rf,tv⟩,⟨rf,tv⟩,⟨rf,tv⟩,⟨⟨rfl,rfl,rfl,tv⟩,tv⟩,⟨aF (by simp),tv⟩,⟨rf,tv⟩,tv⟩,?_⟩
 ·exact mU (by kernel_rfl)
 rintro rs K2 ⟨rfl,rfl⟩
 refine⟨by kernel_rfl,?_⟩
 conv=>whnf
 exact⟨by kernel_rfl,_,_,⟨rfl,rfl⟩,by kernel_rfl,⟨rV _,rV _,tv⟩,⟨rf,tv⟩,⟨rf,tv⟩,tv⟩
def Zq(rc:RC)(l:List Lt)(ks:List Int)(v i:Nat):ae:=[(0,.c8 rc .ready (((List.replicate 22 .any).set 4 (.ptr 1 0)).set 5 (.ptr 2 0))),(1,.cells [.own 6 v 0 []]),(2,.cells [.own 7 v 0 []]),(3,.cells [.dv (aU l)]),(4,.cells [.fn 203 [.ptr 5 0]]),(5,.cells [.dv (Ints ks)]),(6,.tree v 0 (.aB 3 ((mo l (ks) i).1.map aC))),(7,.tree v 0 (.aB 3 ((mo l (ks) i).2.map aC)))]
def k2S(rc:RC)(l:List Lt)(ks:List Int):ae:=[(0,.c8 rc .ready (((List.replicate 22 .any).set 4 (.ptr 1 0)).set 5 (.ptr 2 0))),(1,.cells [.own 6 1 0 []]),(2,.cells [.own 7 0 0 []]),(3,.cells [.dv (aU l)]),(4,.cells [.fn 203 [.ptr 5 0]]),(5,.cells [.dv (Ints ks)]),(6,.tree 1 0 (.aB 3 [])),(7,.tree 0 0 (.aB 3 []))]
def k3S(rc:RC)(l:List Lt)(ks:List Int):ae:=[(0,.c8 rc .ready (((List.replicate 22 .any).set 4 (.ptr 1 0)).set 5 (.ptr 2 0))),(1,.cells [.own 6 0 0 []]),(2,.cells [.own 7 0 0 []]),(3,.cells [.dv (aU l)]),(4,.cells [.fn 203 [.ptr 5 0]]),(5,.cells [.dv (Ints ks)]),(6,.tree 0 0 (.aB 3 [])),(7,.tree 0 0 (.aB 3 []))]
def k4S(rc:RC)(l:List Lt)(ks:List Int):ae:=[(0,.c8 rc .ready (((List.replicate 22 .any).set 4 (.ptr 1 0)).set 5 (.ptr 2 0))),(1,.cells [.own 6 0 0 []]),(2,.cells [.dv .az]),(3,.cells [.dv (aU l)]),(4,.cells [.fn 203 [.ptr 5 0]]),(5,.cells [.dv (Ints ks)]),(6,.tree 0 0 (.aB 3 []))]
def k0S(rc:RC)(l:List Lt)(ks:List Int):ae:=[(0,.c8 rc .ready (((List.replicate 22 .any).set 4 (.ptr 1 0)).set 5 (.ptr 2 0))),(1,.cells [.dv .az]),(2,.cells [.dv .az]),(3,.cells [.dv (aU l)]),(4,.cells [.fn 203 [.ptr 5 0]]),(5,.cells [.dv (Ints ks)])]
theorem Zr(rc:RC)(l:List Lt)(ks:List Int)(hl:∀x∈l,aO x=true)(FT:l.length<=5000)(hk:Dk l (ks))
 (hY:∀(z:ZZ) (x:Lt) (b:Bool),lB z.1->lB z.2->0<=x.n/\x.n<=1099511627776->eC Tryz.prog [cY (aC x),.dv (B b)] 5 (zU 0 rc z) 0 fun r k=>r=[.dv (B true)]/\k=zU 1 rc (gi z (x,b))):ar Tryz.prog 243 [.eN 0,.ptr 3 0,.ptr 4 0] 8 (Zq rc l ks 1 0) 0 [] (Zq rc l ks 1 l.length):=by
 refine cO Tryz.func243 rfl (by kernel_rfl) ?_
 have ll:(l.map aC).length=l.length:=abH ..
 refine⟨Nat,fun i=>⟨8,[(0,.eN 0),(1,.ptr 3 0),(2,.ptr 4 0),(7,.dv (aU l)),(8,.dv (I l.length)),(9,.dv (I i))],Zq rc l ks 1 i⟩,fun i=>i<=l.length,fun i=>l.length-i,0,fun _=>rfl,jn (by simp only[ll];rfl) rfl rfl rfl,abW _,?_⟩
 rintro i hi
 refine abG (fun h=>?_) fun h=>?_
 ·have au:i<l.length:=by have:=abY h;omega
  obtain⟨x,hx⟩:∃x,l[i]?=some x:=⟨_,aaj au⟩
  have ix:(l.map aC)[(i:Int).toNat]?=some (aC x):=by rw[abJ];simp[hx]
  have LC:=ax.1 (hl x (abK hx))
  obtain⟨k,ph,K4,hk3⟩:=hk i x hx
  obtain⟨z1,z2,z3,z4⟩:=Ir hl hk i hi
  have dZ:=zd hx ph
  have iZ:=BJ z1 z3 (by omega)
  have ca:=BJ z2 z4 (by omega)
  have vz:lB (gi (mo l (ks) i) (⟨x.f,x.a,k⟩,true)).1:=BJ (n:=i+1) (hZ z1 (by dsimp only;omega)) (Nat.le_trans (fp (mo l (ks) i).1 ⟨x.f,x.a,k⟩) (by omega)) (by omega)
  refine⟨aC x,fun _=>⟨by omega,ix⟩,?_⟩
  refine .inr (cl [5] (SO ks i k ph) (by kernel_rfl) rfl rfl ?_)
  refine .inl (Ui [0,1,2,6,7] (hY (mo l (ks) i) ⟨x.f,x.a,k⟩ true iZ ca (by dsimp only;omega)) (by kernel_rfl) rfl rfl ?_)
  repeat first|apply g1|apply g2|apply g3|apply g4|apply g5
  refine⟨fun _=>⟨by omega,by omega⟩,?_⟩
  repeat first|apply g1|apply g2|apply g3|apply g4|apply g5
  refine⟨fun _=>⟨by omega,by omega⟩,?_⟩
  repeat first|apply g1|apply g2|apply g3|apply g4|apply g5
  refine .inl (Ui [0,1,2,6,7] (hY (gi (mo l (ks) i) (⟨x.f,x.a,k⟩,true)) ⟨x.f,x.a+k,x.n-k⟩ false vz ca (by dsimp only;omega)) (by kernel_rfl) rfl rfl ?_)
  refine⟨rfl,fun _=>rfl,fun _ _=>rfl,abG (fun h=>by cases h) fun _=>?_⟩
  exact⟨fun _=>⟨by omega,by omega⟩,i+1,jn rfl (by simp only[Zq,dZ];rfl) rfl rfl,au,mlt au⟩
 ·have he:i=l.length:=by have:=abZ h;omega
  subst he
  exact ext (by kernel_rfl) rfl rfl
theorem Mb(rc:RC)(l:List Lt)(ks:List Int)(hl:∀x∈l,aO x=true)(FT:l.length<=5000)(hk:Dk l (ks))
 (hY:∀(z:ZZ) (x:Lt) (b:Bool),lB z.1->lB z.2->0<=x.n/\x.n<=1099511627776->eC Tryz.prog [cY (aC x),.dv (B b)] 5 (zU 0 rc z) 0 fun r k=>r=[.dv (B true)]/\k=zU 1 rc (gi z (x,b))):ar Tryz.prog 243 [.eN 0,.ptr 3 0,.ptr 4 0] 6 (k0S rc l ks) 2 [] (Zq rc l ks 1 l.length):=by
 have h1:=Zr rc l ks hl FT hk hY
 have h2:=cR 7 (K0:=k2S rc l ks) h1 ⟨⟨_,rfl,rfl,fun j hj=>(by match j,hj with|0,_=>exact .refl _|1,_=>exact .refl _|2,_=>exact .cells (.sb .nil)|3,_=>exact .refl _|4,_=>exact .refl _|5,_=>exact .refl _|6,_=>exact .refl _|j+8,_=>exact .refl _)⟩,iV.refl _ _ _ _⟩
 have h3:=cR 6 (K0:=k3S rc l ks) h2 ⟨⟨_,rfl,rfl,fun j hj=>(by match j,hj with|0,_=>exact .refl _|1,_=>exact .cells (.sb .nil)|2,_=>exact .refl _|3,_=>exact .refl _|4,_=>exact .refl _|5,_=>exact .refl _|7,_=>exact .refl _|j+8,_=>exact .refl _)⟩,iV.refl _ _ _ _⟩
 have h4:=jo (K2:=k4S rc l ks) (args2:=[.eN 0,.ptr 3 0,.ptr 4 0]) h3 rfl rfl (fun j hj=>(by match j,hj with|0,_=>exact .inl ⟨rfl,rfl⟩|1,_=>exact .inl ⟨rfl,rfl⟩|2,_=>exact .inr ⟨_,_,rfl,rfl,.born .nil⟩|3,_=>exact .inl ⟨rfl,rfl⟩|4,_=>exact .inl ⟨rfl,rfl⟩|5,_=>exact .inl ⟨rfl,rfl⟩|6,_=>exact .inl ⟨rfl,rfl⟩|j+8,_=>exact .inl ⟨rfl,rfl⟩)) (.same _ rfl (.same _ rfl (.same _ rfl .nil)))
 exact jo (K2:=k0S rc l ks) (args2:=[.eN 0,.ptr 3 0,.ptr 4 0]) h4 rfl rfl (fun j hj=>(by match j,hj with|0,_=>exact .inl ⟨rfl,rfl⟩|1,_=>exact .inr ⟨_,_,rfl,rfl,.born .nil⟩|2,_=>exact .inl ⟨rfl,rfl⟩|3,_=>exact .inl ⟨rfl,rfl⟩|4,_=>exact .inl ⟨rfl,rfl⟩|5,_=>exact .inl ⟨rfl,rfl⟩|j+7,_=>exact .inl ⟨rfl,rfl⟩)) (.same _ rfl (.same _ rfl (.same _ rfl .nil)))
theorem As(l:List Lt)(ks:List Int):ar Tryz.prog 228 [.dv (aU l),.fn 203 [.ptr 0 0]] 1 [(0,.cells [.dv (Ints ks)])] 2 [.fn 243 [.ptr 1 0,.ptr 2 0]] [(0,.cells [.dv (Ints ks)]),(1,.cells [.dv (aU l)]),(2,.cells [.fn 203 [.ptr 0 0]])]:=by
 refine cO Tryz.func228 rfl (by kernel_rfl) ?_
 exact ext (by kernel_rfl) rfl rfl
theorem It(l:List Lt)(ks:List Int)(hl:∀x∈l,aO x=true)(FT:l.length<=5000)(hk:Dk l (ks)):ar Tryz.prog 204 [.dv (aU l),.fn 203 [.ptr 0 0]] 1 [(0,.cells [.dv (Ints ks)])] 0 [.dv (aU (mo l (ks) l.length).1),.dv (aU (mo l (ks) l.length).2)] [(0,.cells [.dv (Ints ks)])]:=by
 refine cO Tryz.func204 rfl (by kernel_rfl) ?_
 have hi:=Mb (FQ Tryz.f204) l ks hl FT hk fun z x b a1 a2 a3=>zb z x b a1 a2 a3
 refine .inr (cl [0] (As l ks) (by kernel_rfl) rfl rfl ?_)
 refine⟨FQ Tryz.f204,by kernel_rfl,?_⟩
 refine⟨[5,1,2,3,4,0],[.eN 0,.ptr 3 0,.ptr 4 0],k0S (FQ Tryz.f204) l ks,2,_,hi,by kernel_rfl,⟨rfl,rfl,rfl,tv⟩,⟨⟨rfl,rfl,?_⟩,⟨rf,tv⟩,⟨rf,tv⟩,⟨rf,tv⟩,⟨⟨rfl,rfl,tv⟩,tv⟩,⟨rf,tv⟩,tv⟩,?_⟩
 ·exact mU (by kernel_rfl)
 rintro rs K2 ⟨rfl,rfl⟩
 refine⟨by kernel_rfl,?_⟩
 conv=>whnf
 exact⟨by kernel_rfl,_,_,⟨rfl,rfl⟩,by kernel_rfl,⟨rV _,rV _,tv⟩,⟨rf,tv⟩,tv⟩
end
section
open Go.TM
variable [bG]
theorem kK(s:List Lt)(x:Lt)(hs:cg s=true)(hx:aO x=true):aI Tryz.prog 150 [aU s,aC x] [aU (bj s x)]:=by
 obtain⟨h1,h2⟩:=hU hs
 have LC:=ax.1 hx
 refine pO Tryz.func150 rfl (by kernel_rfl) rfl ?_
 refine .inl ⟨_,fun _=>(kI s (by omega)).ok,?_⟩
 repeat first|apply g1|apply g2|apply g3|apply g4|apply g5
 refine .inl ⟨_,fun _=>(Bo x).ok,?_⟩
 rw[hs,hx]
 repeat first|apply g1|apply g2|apply g3|apply g4|apply g5
 refine abG (fun h=>by cases h) fun _=>?_
 refine .inr (cl [] (fX s (by omega)) (by kernel_rfl) rfl rfl ?_)
 refine .inr (cl [1] (u7 s x ⟨by omega,fun y hy=>by have:=ax.1 (h2 y hy);omega⟩ (by omega)) (by kernel_rfl) rfl rfl ?_)
 exact⟨by kernel_rfl,rV _,tv⟩
theorem we(l:List Lt)(n:Int):ar Tryz.prog 201 [.dv (aU l),.dv (I n)] 0 [] 2 [.fn 222 [.ptr 1 0,.ptr 0 0]] [(0,.cells [.dv (aU l)]),(1,.cells [.dv (I n)])]:=by
 refine cO Tryz.func201 rfl (by kernel_rfl) ?_
 exact ext (by kernel_rfl) rfl rfl
theorem FV(s:List Lt)(n:Int)(mx:Bool)(hs:cg s=true)(hn:0<=n/\n<=1099511627776)(hc:b9 s<n):aI Tryz.prog 187 [aU s,I n,B mx] [aU [],aU [],I 10]:=by
 obtain⟨h1,h2⟩:=hU hs
 refine pO Tryz.func187 rfl (by kernel_rfl) rfl ?_
 refine .inl ⟨_,fun _=>(kI s (by omega)).ok,?_⟩
 rw[hs]
 repeat first|apply g1|apply g2|apply g3|apply g4|apply g5
 refine abG (fun h=>?_) fun _=>?_
 ·simp[bw]at h;omega
 refine .inl ⟨_,fun _=>(qh s (by omega)).ok,?_⟩
 refine abG (fun _=>?_) fun h=>absurd hc (abZ h)
 exact⟨DV.aK 3,DV.aK 3,rf,tv⟩
theorem Wi{s:List Lt}{n:Int}(hs:∀x∈s,aO x=true)(hn:0<=n):Dk s (ck n s):=fun i x hx=>by
 have h1:=Di s n i x hx
 have h2:=Dj s n hn (fun y hy=>by have:=ax.1 (hs y hy);omega) i
 have:=ax.1 (hs x (abK hx))
 exact⟨_,h1,by omega,by omega⟩
theorem FW(s:List Lt)(n:Int)(mx:Bool)(hs:cg s=true)(hn:0<=n/\n<=1099511627776)(hc:¬b9 s<n)(Ul:(mx&&decide (0<n))=false):aI Tryz.prog 187 [aU s,I n,B mx] [aU (fW s n mx).1,aU (fW s n mx).2,I 0]:=by
 obtain⟨h1,h2⟩:=hU hs
 have ecn:qx s n mx=ck n s:=by unfold qx;rw[Ul];rfl
 refine pO Tryz.func187 rfl (by kernel_rfl) rfl ?_
 refine .inl ⟨_,fun _=>(kI s (by omega)).ok,?_⟩
 rw[hs]
 repeat first|apply g1|apply g2|apply g3|apply g4|apply g5
 refine abG (fun h=>?_) fun _=>?_
 ·simp[bw]at h;omega
 refine .inl ⟨_,fun _=>(qh s (by omega)).ok,?_⟩
 refine abG (fun h=>absurd (abY h) hc) fun _=>?_
 refine .inr (cl [] (we s n) (by kernel_rfl) rfl rfl ?_)
 repeat first|apply g1|apply g2|apply g3|apply g4|apply g5
 refine abG (fun h=>?_) fun _=>?_
 ·have h:=eh h
  rw[h.1]at Ul
  have:=h.2
  rw[this]at Ul;cases Ul
 have hd:=Is s n h2 (by omega) hn (Wi h2 hn.1)
 refine .inr (cl [1,0] hd (by kernel_rfl) rfl rfl ?_)
 unfold fW
 rw[ecn]
 exact⟨rf,rf,rf,tv⟩
def wN(l:List Int)(i:Nat):List Int:=l.take i++List.replicate (l.length-i) 0
theorem PI(l:List Int)(i:Nat)(h:i<=l.length):(wN l i).length=l.length:=by simp[wN];omega
theorem Mc{l:List Int}{i:Nat}{x:Int}(h:l[i]?=some x):(wN l i).set i x=wN l (i+1):=by
 have hi:=(abI.1 h).1
 unfold wN
 have:l.length-i=(l.length-(i+1))+1:=by omega
 rw[List.set_append,if_neg (by rw[ab2];omega),abR,h,this,List.replicate_succ]
 simp[Nat.min_eq_left (Nat.le_of_lt hi)]
theorem PJ{l:List Int}{i:Nat}(h:i<l.length):(wN l i)[i]?=some 0:=by
 unfold wN
 rw[List.getElem?_append_right (by rw[ab2];omega),List.getElem?_replicate,if_pos (by simp;omega)]
theorem Kk(l:List Int):(qt (.aB 1 (l.map I))).Le (Ints l):=DV.Le.of_eq (by
 show DV.sl 1 (zQ (l.map I))=_
 rw[gK (fun _=>rfl)])
theorem Wj{s:List Lt}{n:Int}(hs:∀x∈s,aO x=true)(hn:0<=n)(Wk:0<(s.map (·.n)).sum)(hle:n<=(s.map (·.n)).sum):Dk s (zR n (s.map (·.n))):=fun i x hx=>by
 have hi:i<(s.map (·.n)).length:=by rw[abH];exact(abI.1 hx).1
 have hb:=T5 hn (fun w hw=>by obtain⟨y,hy,rfl⟩:=ab9.1 hw;have:=ax.1 (hs y hy);omega) Wk hle hi
 have hl:i<(zR n (s.map (·.n))).length:=by rw[J4];exact hi
 have Ug:(s.map (·.n)).getD i 0=x.n:=by rw[abM,abJ,hx];rfl
 rw[Ug]at hb
 generalize zR n (s.map (·.n))=ks at*
 refine⟨ks.getD i 0,?_,hb.1,hb.2⟩
 rw[abM,aaj hl];rfl
theorem FX(s:List Lt)(n:Int)(hs:cg s=true)(hn:0<n/\n<=1099511627776)(hc:¬b9 s<n)(my:aI Tryz.prog 202 [I n,Ints (s.map (·.n))] [Ints (zR n (s.map (·.n))),I 0]):aI Tryz.prog 187 [aU s,I n,B true] [aU (fW s n true).1,aU (fW s n true).2,I 0]:=by
 obtain⟨h1,h2⟩:=hU hs
 have GK:b9 s=(s.map (·.n)).sum:=by unfold b9;rw[hs];rfl
 have ecn:qx s n true=zR n (s.map (·.n)):=by unfold qx;rw[ab4 hn.1];rfl
 have ll:(s.map aC).length=s.length:=abH ..
 have lw:(s.map (·.n)).length=s.length:=abH ..
 refine pO Tryz.func187 rfl (by kernel_rfl) rfl ?_
 refine .inl ⟨_,fun _=>(kI s (by omega)).ok,?_⟩
 rw[hs]
 repeat first|apply g1|apply g2|apply g3|apply g4|apply g5
 refine abG (fun h=>?_) fun _=>?_
 ·simp[bw]at h;omega
 refine .inl ⟨_,fun _=>(qh s (by omega)).ok,?_⟩
 refine abG (fun h=>absurd (abY h) hc) fun _=>?_
 refine .inr (cl [] (we s n) (by kernel_rfl) rfl rfl ?_)
 repeat first|apply g1|apply g2|apply g3|apply g4|apply g5
 refine abG (fun _=>?_) fun h=>?_
 ·refine⟨I 0,⟨rf,tv⟩,by omega,by omega,?_,by omega,false,(fun h=>by cases h),?_⟩
  ·rw[show(nth lR (nth lR 40).elem).bytes=8 by kernel_rfl];omega
  have e0:List.replicate (((s.map aC).length:Int)).toNat (I 0)=(wN (s.map (·.n)) 0).map I:=by unfold wN;simp
  rw[e0]
  refine⟨Nat,fun i=>⟨3,[(0,.dv (aU s)),(1,.dv (I n)),(10,.own 2 0 0 []),(43,.dv (aU s)),(44,.dv (I s.length)),(45,.dv (I i))],[(2,.tree 0 0 (.aB 1 ((wN (s.map (·.n)) i).map I)))]⟩,fun i=>i<=s.length,fun i=>s.length-i,0,fun _=>rfl,jn (by simp only[ll];rfl) rfl rfl rfl,abW _,?_⟩
  rintro i hi
  refine abG (fun h=>?_) fun h=>?_
  ·have au:i<s.length:=by have:=abY h;omega
   obtain⟨x,hx⟩:∃x,s[i]?=some x:=⟨_,aaj au⟩
   have ix:(s.map aC)[(i:Int).toNat]?=some (aC x):=by rw[abJ];simp[hx]
   have hwx:(s.map (·.n))[i]?=some x.n:=by rw[abJ,hx];rfl
   have dZ:=Mc hwx
   have oH:=PI (s.map (·.n)) i (by omega)
   refine⟨aC x,fun _=>⟨by omega,ix⟩,?_⟩
   refine⟨fun _=>⟨by omega,by rw[abH,oH,lw];omega⟩,[I x.n],⟨rf,tv⟩,I 0,by rw[abJ];simp[PJ (show i<(s.map (·.n)).length by rw[lw];exact au)],?_⟩
   exact⟨fun _=>⟨by omega,by omega⟩,i+1,jn rfl (by simp only[<-dZ,List.map_set];rfl) rfl rfl,au,mlt au⟩
  ·have he:i=s.length:=by have:=abZ h;omega
   subst he
   have PD:wN (s.map (·.n)) s.length=s.map (·.n):=by unfold wN;rw[<-lw,abX];simp
   rw[PD]
   refine .inl (.inr ⟨_,fun _=>⟨[I n,Ints (s.map (·.n))],⟨rf,Kk _,tv⟩,my⟩,?_⟩)
   refine abG (fun h=>by cases h) fun _=>?_
   have hd:=It s (zR n (s.map (·.n))) h2 (by omega) (Wj h2 (by omega) (by omega) (by omega))
   refine .inr (cl [3] hd (by kernel_rfl) rfl rfl ?_)
   unfold fW
   rw[ecn]
   exact⟨rf,rf,rf,tv⟩
 ·exact absurd ⟨rfl,ab4 hn.1⟩ (mQ h)
def nU:Prop:=∀(t:Int) (ws:List Int),0<=t/\t<=1099511627776->(∀w∈ws,0<=w/\w<=1099511627776)->ws.length<=5000->0<ws.sum->t<=ws.sum->aI Tryz.prog 202 [I t,Ints ws] [Ints (zR t ws),I 0]
theorem zf(hS:nU)(s:List Lt)(n:Int)(mx:Bool)(hn:0<=n/\n<=1099511627776)(hs:cg s=true):aI Tryz.prog 187 [aU s,I n,B mx] (Fu s n mx):=by
 unfold Fu
 by_cases hc:b9 s<n
 ·rw[ab4 hc];exact FV s n mx hs hn hc
 ·rw[ab5 hc]
  cases Ul:mx&&decide (0<n)with
  |false=>exact FW s n mx hs hn hc Ul
  |true=>
   simp only[acj,decide_eq_true_eq]at Ul
   obtain⟨rfl,Wf⟩:=Ul
   obtain⟨h1,h2⟩:=hU hs
   have GK:b9 s=(s.map (·.n)).sum:=by unfold b9;rw[hs];rfl
   exact FX s n hs ⟨Wf,hn.2⟩ hc (hS n _ hn (fun w hw=>by obtain⟨y,hy,rfl⟩:=ab9.1 hw;exact mR (h2 y hy)) (by rw[abH];omega) (by omega) (by omega))
end
section
open Go.TM
def frN(k:Int):Nat:=if k=0\/k=5 then 162 else if k=4\/k=10\/k=9 then 165 else 163
def toN(k:Int):Nat:=if k=1\/k=6 then 162 else if k=4\/k=10\/k=7 then 165 else 163
def whN(k:Int):Nat:=if k=4 then 166 else if k=10 then 167 else 164
def Wl(k:Int):DV:=.agg [.fn (frN k) [],.fn (toN k) [],.bool (j9 k),.fn (whN k) []]
def Dl(k a:Int):Bool:=if k=0\/k=5 then a==0 else if k=4\/k=10\/k=9 then true else a !=0
def Dm(k a:Int):Bool:=if k=1\/k=6 then a==0 else if k=4\/k=10\/k=7 then true else a !=0
theorem kinds{k:Int}(h:0<=k/\k<=10):k=0\/k=1\/k=2\/k=3\/k=4\/k=5\/k=6\/k=7\/k=8\/k=9\/k=10:=by omega
variable [bG]
theorem tw(a:Int):aI Tryz.prog 162 [I a] [B (a==0)]:=by
 refine pO Tryz.func162 rfl (by kernel_rfl) rfl ?_
 exact⟨rf,tv⟩
theorem tx(a:Int):aI Tryz.prog 163 [I a] [B (a !=0)]:=by
 refine pO Tryz.func163 rfl (by kernel_rfl) rfl ?_
 exact⟨rf,tv⟩
theorem zg(a:Int):aI Tryz.prog 165 [I a] [B true]:=by
 refine pO Tryz.func165 rfl (by kernel_rfl) rfl ?_
 exact⟨rf,tv⟩
theorem SP(k a:Int):aI Tryz.prog (frN k) [I a] [B (Dl k a)]:=by
 unfold frN Dl
 split
 ·exact tw a
 split
 ·exact zg a
 ·exact tx a
theorem SQ(k a:Int):aI Tryz.prog (toN k) [I a] [B (Dm k a)]:=by
 unfold toN Dm
 split
 ·exact tw a
 split
 ·exact zg a
 ·exact tx a
theorem lA(a:Int):aI Tryz.prog 142 [I a] [B (decide (0<=a)&&decide (a<=1073741824))]:=by
 refine pO Tryz.func142 rfl (by kernel_rfl) rfl ?_
 repeat first|apply g1|apply g2|apply g3|apply g4|apply g5
 refine⟨DV.Le.of_eq ?_,tv⟩
 cases decide (0<=a)<;>rfl
theorem BK(k:Int)(h:0<=k/\k<=10):aI Tryz.prog 141 [I k] [Wl k,B true]:=by
 rcases kinds h with rfl|rfl|rfl|rfl|rfl|rfl|rfl|rfl|rfl|rfl|rfl
 all_goals
  refine pO Tryz.func141 rfl (by kernel_rfl) rfl ?_
  repeat first|refine abG (fun h=>absurd h (by decide)) fun _=>?_|refine abG (fun _=>?_) fun h=>absurd h (by decide)
  exact⟨rf,rf,tv⟩
theorem Iu(k:Int)(h:¬(0<=k/\k<=10)):aI Tryz.prog 141 [I k] [.agg [.jw,.jw,B false,.jw],B false]:=by
 have hk:∀n:Int,0<=n/\n<=10->¬(k==n)=true:=fun n hn he=>by have:=beq_iff_eq.1 he;omega
 refine pO Tryz.func141 rfl (by kernel_rfl) rfl ?_
 repeat refine abG (fun h=>absurd h (hk _ (by decide))) fun _=>?_
 exact⟨rf,rf,tv⟩
def rW(k:Int)(m:fa):Bool:=vX m (j9 k)&&(Dl k m.fr&&Dm k m.to)
theorem PK(k:Int)(m:fa)(L:Int)(hL:L=5):(bif bif bif bif bif bif bif bif decide (m.it<0)then true else decide (L<=m.it)then true else decide (m.n<1)then true else decide (1099511627776<m.n)then true else !(decide (0<=m.fr)&&decide (m.fr<=1073741824))then true else !(decide (0<=m.to)&&decide (m.to<=1073741824))then true else m.fr==m.to then true else !Dl k m.fr then true else !Dm k m.to)=!(eG m&&(Dl k m.fr&&Dm k m.to)):=by
 subst hL
 generalize Dl k m.fr=x
 generalize Dm k m.to=y
 rw[ace]
 cases x<;>cases y<;>simp[eG]<;>omega
theorem mM(P:PL)(m:fa)(k:Int)(hl:m.ps.length<=4000):ar Tryz.prog 144 [.ptr 0 0,cY (ak m),cY (Wl k)] 7 (kJ P) 0 [.dv (B (rW k m))] (kJ P):=by
 refine cO Tryz.func144 rfl (by kernel_rfl) ?_
 repeat first|apply g1|apply g2|apply g3|apply g4|apply g5
 refine .inl ⟨_,fun _=>(lA m.fr).ok,?_⟩
 repeat first|apply g1|apply g2|apply g3|apply g4|apply g5
 refine .inl ⟨_,fun _=>(lA m.to).ok,?_⟩
 repeat first|apply g1|apply g2|apply g3|apply g4|apply g5
 refine .inl ⟨_,fun _=>(SP k m.fr).ok,?_⟩
 refine .inl ?_
 repeat first|apply g1|apply g2|apply g3|apply g4|apply g5
 refine .inl ⟨_,fun _=>(SQ k m.to).ok,?_⟩
 refine .inl ?_
 repeat first|apply g1|apply g2|apply g3|apply g4|apply g5
 refine abG (by kernel_rfl) ?_
 refine abG (fun h=>?_) fun h=>abG (fun hs=>?_) fun hs=>?_
 ·have h:=(PK k m _ rfl).symm.trans h
  have h:(eG m&&(Dl k m.fr&&Dm k m.to))=false:=by cases hh:(eG m&&(Dl k m.fr&&Dm k m.to));rfl;rw[hh]at h;cases h
  have e:rW k m=false:=by
   unfold rW vX
   generalize eG m=x at h⊢
   generalize (Dl k m.fr&&Dm k m.to)=y at h⊢
   cases x<;>cases y<;>simp_all
  rw[e]
  exact ext (by kernel_rfl) rfl rfl
 ·have h:=(PK k m _ rfl).symm.trans h
  have h:(eG m&&(Dl k m.fr&&Dm k m.to))=true:=by cases hh:(eG m&&(Dl k m.fr&&Dm k m.to));rw[hh]at h;cases h;rfl
  have hs:j9 k=false:=by simpa using hs
  have e:rW k m=((m.ps.map aC).length==(0:Int)):=by
   unfold rW vX
   rw[hs]
   rw[acj]at h
   rw[h.1,h.2]
   cases m.ps<;>simp<;>omega
  rw[e]
  exact ext (by kernel_rfl) rfl rfl
 have h:=(PK k m _ rfl).symm.trans h
 have h:(eG m&&(Dl k m.fr&&Dm k m.to))=true:=by cases hh:(eG m&&(Dl k m.fr&&Dm k m.to));rw[hh]at h;cases h;rfl
 have hs:j9 k=true:=by simpa using hs
 rw[acj]at h
 have e:rW k m=(cg m.ps&&decide (b9 m.ps=m.n)&&decide (b9 (me m.ps)=m.n)):=by
  unfold rW vX
  rw[hs,h.1,h.2];simp
 rw[e]
 have Xp:=kI m.ps (by omega)
 cases hv:cg m.ps with
 |false=>
  rw[hv]at Xp
  refine .inl ⟨_,fun _=>Xp.ok,?_⟩
  repeat first|apply g1|apply g2|apply g3|apply g4|apply g5
  refine .inl ⟨[I 0],fun h=>(by cases h),?_⟩
  repeat first|apply g1|apply g2|apply g3|apply g4|apply g5
  refine .inl ⟨[aU []],fun h=>(by cases h),?_⟩
  repeat first|apply g1|apply g2|apply g3|apply g4|apply g5
  refine .inl ⟨[I 0],fun h=>(by cases h),?_⟩
  repeat first|apply g1|apply g2|apply g3|apply g4|apply g5
  refine⟨by kernel_rfl,?_⟩
  refine ext (by kernel_rfl) rfl rfl
 |true=>
  rw[hv]at Xp
  have hn:=fun x hx=>mR ((hU hv).2 x hx)
  refine .inl ⟨_,fun _=>Xp.ok,?_⟩
  repeat first|apply g1|apply g2|apply g3|apply g4|apply g5
  refine .inl ⟨_,fun _=>(qh m.ps (by omega)).ok,?_⟩
  repeat first|apply g1|apply g2|apply g3|apply g4|apply g5
  refine .inl ⟨_,fun _=>(FM m.ps (hU hv).2 (by omega)).ok,?_⟩
  repeat first|apply g1|apply g2|apply g3|apply g4|apply g5
  have hq:=Bs (hU hv).2
  have hT:b9 (iW m.ps)=dD (iW m.ps):=by
   have:cg (iW m.ps)=true:=by
    unfold cg
    rw[ab6.2 hq.1,ab4 (by have:=hq.2.1;omega)];rfl
   unfold b9;rw[this];rfl
  have Zs:me m.ps=iW m.ps:=by unfold me;rw[hv];rfl
  refine .inl ⟨_,fun _=>(qg (iW m.ps) (by have:=hq.2.1;omega) fun x hx=>mR (hq.1 x hx)).ok,?_⟩
  repeat first|apply g1|apply g2|apply g3|apply g4|apply g5
  refine⟨by kernel_rfl,?_⟩
  have ee:(true&&decide (b9 m.ps=m.n)&&decide (b9 (me m.ps)=m.n))=(bif (bif true then b9 m.ps==m.n else false)then dD (iW m.ps)==m.n else false):=by
   rw[Zs,hT]
   have e1:∀a b:Int,decide (a=b)=(a==b):=fun a b=>by rw[ace];simp
   rw[e1,e1]
   cases(b9 m.ps==m.n)<;>rfl
  rw[ee]
  refine ext (by kernel_rfl) rfl rfl
theorem Dn(P:PL)(s:dW):ar Tryz.prog 164 [.ptr 0 0,cY (aP s)] 7 (kJ P) 0 [.dv (B (decide (s.aL=-1)&&decide (s.times=0)))] (kJ P):=by
 refine cO Tryz.func164 rfl (by kernel_rfl) ?_
 repeat first|apply g1|apply g2|apply g3|apply g4|apply g5
 rw[show(decide (s.aL=-1)&&decide (s.times=0))=(bif s.aL== -1 then s.times==0 else false)by rw[ace];simp]
 exact ext (by kernel_rfl) rfl rfl
theorem nV(n:Int):aI Tryz.prog 182 [I n] [B (decide (1<=n)&&decide (n<=1048576))]:=by
 refine pO Tryz.func182 rfl (by kernel_rfl) rfl ?_
 repeat first|apply g1|apply g2|apply g3|apply g4|apply g5
 refine⟨DV.Le.of_eq ?_,tv⟩
 cases decide (1<=n)<;>rfl
theorem FY(P:PL)(s:dW):ar Tryz.prog 167 [.ptr 0 0,cY (aP s)] 7 (kJ P) 0 [.dv (B (tg s))] (kJ P):=by
 refine cO Tryz.func167 rfl (by kernel_rfl) ?_
 repeat first|apply g1|apply g2|apply g3|apply g4|apply g5
 have lm:(s.mv.map ak).length=s.mv.length:=abH ..
 refine .inl ⟨_,fun _=>(nV s.times).ok,?_⟩
 repeat first|apply g1|apply g2|apply g3|apply g4|apply g5
 refine abG ?_ ?_
 ·intro h
  have hc:tg s=false:=by
   unfold tg
   rw[ack]
   rintro⟨q1,q2,q3,q4,-⟩
   rw[lm]at h
   simp at h
   omega
  rw[hc]
  exact ext (by kernel_rfl) rfl rfl
 intro h
 have hc:s.aL=-1/\1<=s.times/\s.times<=1048576/\s.mv.length=2:=by
  rw[lm]at h
  simp at h
  omega
 obtain⟨c1,c2,c3,c4⟩:=hc
 obtain⟨a,ha⟩:∃a,s.mv[0]?=some a:=⟨_,aaj (show 0<s.mv.length by omega)⟩
 obtain⟨b,hb⟩:∃b,s.mv[1]?=some b:=⟨_,aaj (show 1<s.mv.length by omega)⟩
 have ia:(s.mv.map ak)[(0:Int).toNat]?=some (ak a):=by rw[abJ];exact congrArg (Option.map ak) ha
 have ib:(s.mv.map ak)[(1:Int).toNat]?=some (ak b):=by rw[abJ];exact congrArg (Option.map ak) hb
 have da:s.mv.getD 0 m0=a:=by rw[abM,ha];rfl
 have db:s.mv.getD 1 m0=b:=by rw[abM,hb];rfl
 refine⟨ak a,fun _=>⟨by omega,ia⟩,?_⟩
 repeat first|apply g1|apply g2|apply g3|apply g4|apply g5
 refine⟨ak b,fun _=>⟨by omega,ib⟩,?_⟩
 repeat first|apply g1|apply g2|apply g3|apply g4|apply g5|refine⟨fun _ h=>by omega,?_⟩|refine abG (fun _ h=>h) ?_|refine abG (fun h=>h) ?_
 refine abG (by kernel_rfl) ?_
 have hcv:tg s=(bif bif bif bif a.to==0 then b.fr==0 else false then a.fr==b.to else false then a.n.tmod s.times==0 else false then b.n.tmod s.times==0 else false):=by
  unfold tg
  rw[da,db,ace,BEq.comm (a:=a.fr)]
  simp[c1,c2,c3,c4,and_assoc]
 rw[hcv]
 repeat first|apply g1|apply g2|apply g3|apply g4|apply g5|refine⟨fun _ h=>by omega,?_⟩
 exact ext (by kernel_rfl) rfl rfl
end
end Go.Proofs.YtknnpcfhekkjjaaGreatDoor
