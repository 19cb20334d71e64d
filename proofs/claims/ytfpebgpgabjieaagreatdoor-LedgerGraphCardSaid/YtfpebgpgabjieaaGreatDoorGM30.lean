import Derived.Test.YtfpebgpgabjieaaGreatDoorGM29
import Derived.Test.YtfpebgpgabjieaaGreatDoorGM18
import Derived.Test.YtfpebgpgabjieaaGreatDoorGM21
set_option linter.all false
open Go.TM.oA Go.TM.oB Go.TM.oC Go.TM.oD Go.TM.oE
namespace Go.Proofs.YtfpebgpgabjieaaGreatDoor
set_option maxRecDepth 100000
set_option maxHeartbeats 4000000
section
open Go.TM
variable [bj]
theorem M4(x y:Lt)(hy:0<=y.a/\y.a<=1099511627776/\0<=y.n/\y.n<=1099511627776):aR Tryz.prog 239 [ax x,ax y] [B (decide (x.f=y.f/\x.a=y.a+y.n))]:=by
 refine pO Tryz.func239 rfl (by kernel_rfl) rfl ?_
 refine⟨fun _=>by omega,DV.Le.of_eq ?_,tv⟩
 congr 1
 rw[aek];simp
theorem abv(l:List Lt)(x:Lt)(hl:lB l)(hx:0<=x.n/\x.n<=1099511627776):aj Tryz.prog 218 [.own 0 1 0 [],cx (ax x)] 1 [(0,.tree 1 0 (.aD 3 (l.map ax)))] 0 [.own 0 1 0 []] [(0,.tree 1 0 (.aD 3 ((aN l x).map ax)))]:=by
 obtain⟨hlen,Kv⟩:=hl
 have ll:(l.map ax).length=l.length:=adO ..
 refine cO Tryz.func218 rfl (by kernel_rfl) ?_
 refine adN (fun h=>?_) fun h=>?_
 ·have h:x.n=0:=beq_iff_eq.1 h
  rw[aN,if_pos h]
  exact ext (by kernel_rfl) rfl rfl
 have h0:x.n≠0:=beq_eq_false_iff_ne.1 h
 repeat refine gG ?_
 obtain⟨y,hy⟩:∃y,y=l.getLastD ⟨0,0,0⟩:=⟨_,rfl⟩
 have du:bw (decide (0<(((l.map ax).length:Nat):Int))) true=true->0<l.length:=fun h=>by have:=ad5 (gL h);omega
 have ia:∀h:bw (decide (0<(((l.map ax).length:Nat):Int))) true=true,-9223372036854775808<=(((l.map ax).length:Nat):Int)-1/\(((l.map ax).length:Nat):Int)-1<=9223372036854775807:=fun h=>by omega
 have ib:∀h:bw (decide (0<(((l.map ax).length:Nat):Int))) true=true,0<=(((l.map ax).length:Nat):Int)-1/\(((l.map ax).length:Nat):Int)-1<(((l.map ax).length:Nat):Int):=fun h=>by have:=du h;omega
 have ie:∀h:bw (decide (0<(((l.map ax).length:Nat):Int))) true=true,(l.map ax)[((((l.map ax).length:Nat):Int)-1).toNat]?=some (ax y):=fun h=>by
  have:=(oL (du h)).1
  rw[adQ,show((((l.map ax).length:Nat):Int)-1).toNat=l.length-1 by omega,this,hy];rfl
 have Oa:∀h:bw (decide (0<(((l.map ax).length:Nat):Int))) true=true,0<=y.a/\y.a<=1099511627776/\0<=y.n/\y.n<=1099511627776:=fun h=>Kv y (by rw[hy];exact adR (oL (du h)).1)
 refine⟨fun h=>ia h,?_⟩
 repeat refine gG ?_
 refine⟨fun h=>ib h,?_⟩
 repeat refine gG ?_
 refine⟨ax y,fun h=>ie h,?_⟩
 repeat refine gG ?_
 refine .inl ⟨_,fun h=>(M4 x y (Oa h)).ok,?_⟩
 repeat refine gG ?_
 refine⟨by kernel_rfl,adN (fun h=>?_) fun h=>?_⟩
 ·have h1:=dc h
  have Gu:=ad5 h1.2
  have hb:=qX h1.1
  have Oa:=Oa hb
  have e:aN l x=l.set (l.length-1) ⟨y.f,y.a,y.n+x.n⟩:=by
   have Af:=(oL (du hb)).2
   rw[<-hy]at Af
   have hc:y.f=x.f/\y.a+y.n=x.a:=⟨Gu.1.symm,Gu.2.symm⟩
   unfold aN
   rw[if_neg h0,Af]
   simp only
   rw[if_pos hc]
   conv=>rhs;rw[ic Af]
   have:(l.dropLast++[y]).length-1=l.dropLast.length:=by simp
   simp
  have ei:((((l.map ax).length:Nat):Int)-1).toNat=l.length-1:=by omega
  refine⟨fun _=>ia hb,fun _=>ib hb,ax y,fun _=>ie hb,fun _=>by omega,fun _=>ib hb,?_⟩
  refine⟨[I (y.n+x.n)],⟨rf,tv⟩,ax y,ie hb,?_⟩
  refine⟨by kernel_rfl,ext (by kernel_rfl) rfl ?_⟩
  rw[e,List.map_set,<-ei]
  rfl
 ·have e:aN l x=l++[x]:=by
   by_cases hp:0<l.length
   ·have Af:=(oL hp).2
    rw[<-hy]at Af
    have hn:¬(y.f=x.f/\y.a+y.n=x.a):=fun hc=>mc h ⟨aeb (by omega),aeb ⟨hc.1.symm,hc.2.symm⟩⟩
    unfold aN
    rw[if_neg h0,Af]
    simp only
    rw[if_neg hn]
   ·have:l=[]:=List.length_eq_zero_iff.1 (by omega)
    subst this
    unfold aN
    rw[if_neg h0];rfl
  refine .inl ⟨[ax x],rfl,⟨rf,rf,rf,tv⟩,(by simp;rfl),?_⟩
  refine .inr ⟨[ax x],bV.refl _,bL (by simp;omega),by simp;omega,?_⟩
  refine ext (by kernel_rfl) rfl ?_
  rw[e,ad7]
  rfl
theorem vh(l:List Lt)(x:Lt)(hl:lB l)(hx:0<=x.n/\x.n<=1099511627776):aj Tryz.prog 218 [.own 0 0 0 [],cx (ax x)] 1 [(0,.tree 0 0 (.aD 3 (l.map ax)))] 0 [.own 0 1 0 []] [(0,.tree 1 0 (.aD 3 ((aN l x).map ax)))]:=
 cH 0 (abv l x hl hx) ⟨⟨_,rfl,rfl,fun j hj=>(by match j,hj with|j+1,_=>exact .refl _)⟩,.rU (.same _ .nil)⟩
end
section
open Go.TM
theorem Du:∀(s:List Lt) (n:Int) (i:Nat) (x:Lt),s[i]?=some x->(ck n s)[i]?=some (min (n-((ck n s).take i).sum) x.n)
 |y::r,n,0,x,h=>by simp at h;subst h;simp[ck]
 |y::r,n,i+1,x,h=>by
  have ih:=Du r (n-min n y.n) i x (by simpa using h)
  simp only[ck,List.getElem?_cons_succ,List.take_succ_cons,List.sum_cons]
  rw[ih];congr 2;omega
theorem Dv:∀(s:List Lt) (n:Int),0<=n->(∀x∈s,0<=x.n)->∀i,0<=((ck n s).take i).sum/\((ck n s).take i).sum<=n
 |[],n,hn,_,i=>by simp[ck];exact hn
 |y::r,n,hn,h,0=>by simp;exact hn
 |y::r,n,hn,h,i+1=>by
  have hy:=h y ad0
  have ih:=Dv r (n-min n y.n) (by omega) (fun x hx=>h x (adW _ hx)) i
  simp only[ck,List.take_succ_cons,List.sum_cons]
  omega
variable [bj]
theorem Yk(z:ZZ)(x:Lt)(b:Bool)(h1:lB z.1)(h2:lB z.2)(hx:0<=x.n/\x.n<=1099511627776):dP Tryz.prog [cx (ax x),.dv (B b)] 5 (Ah 1 (Ag Tryz.f246) z) 0 fun r k=>r=[.dv (B true)]/\k=Ah 1 (Ag Tryz.f246) (gy z (x,b)):=by
 refine uJ fO mixed rfl (by kernel_rfl) ?_
 cases b with
 |true=>
  refine adN (fun _=>?_) fun h=>by cases h
  refine .inr (cl [3] (vh z.1 x h1 hx) (by kernel_rfl) rfl rfl ?_)
  exact ext (by kernel_rfl) rfl rfl
 |false=>
  refine adN (fun h=>by cases h) fun _=>?_
  refine .inr (cl [4] (vh z.2 x h2 hx) (by kernel_rfl) rfl rfl ?_)
  exact ext (by kernel_rfl) rfl rfl
theorem zm(z:ZZ)(x:Lt)(b:Bool)(h1:lB z.1)(h2:lB z.2)(hx:0<=x.n/\x.n<=1099511627776):dP Tryz.prog [cx (ax x),.dv (B b)] 5 (Ah 0 (Ag Tryz.f246) z) 0 fun r k=>r=[.dv (B true)]/\k=Ah 1 (Ag Tryz.f246) (gy z (x,b)):=
 kG 3 (kG 4 (Yk z x b h1 h2 hx) Dq.1) Dq.2
theorem zo{s:List Lt}{ks:List Int}{i:Nat}{x:Lt}{k:Int}(hx:s[i]?=some x)(hk:ks[i]?=some k):me s ks (i+1)=gy (gy (me s ks i) (⟨x.f,x.a,k⟩,true)) (⟨x.f,x.a+k,x.n-k⟩,false):=by
 have hz:(s.zip ks)[i]?=some (x,k):=by rw[List.getElem?_zip_eq_some];exact⟨hx,hk⟩
 unfold me
 rw[adY,hz,aee]
 rfl
def Dw(s:List Lt)(ks:List Int):Prop:=∀(i:Nat) (x:Lt),s[i]?=some x->∃k,ks[i]?=some k/\0<=k/\k<=x.n
theorem Jl{s:List Lt}{ks:List Int}(hs:∀x∈s,aB x=true)(hk:Dw s ks):∀i,i<=s.length->(∀y∈(me s ks i).1,aB y=true)/\(∀y∈(me s ks i).2,aB y=true)/\(me s ks i).1.length<=i/\(me s ks i).2.length<=i
 |0,_=>⟨fun _ h=>(by cases h),fun _ h=>(by cases h),aei _,aei _⟩
 |i+1,hi=>by
  obtain⟨h1,h2,h3,h4⟩:=Jl hs hk i (by omega)
  obtain⟨x,hx⟩:∃x,s[i]?=some x:=⟨_,ace (by omega)⟩
  obtain⟨k,qw,SU,hk3⟩:=hk i x hx
  have hb:=ah.1 (hs x (adR hx))
  rw[zo hx qw]
  have a1:=dR (me s ks i).1 ⟨x.f,x.a,k⟩
  have a2:=dR (me s ks i).2 ⟨x.f,x.a+k,x.n-k⟩
  exact⟨fL h1 (by dsimp only;omega),fL h2 (by dsimp only;omega),Nat.le_trans a1 (by omega),Nat.le_trans a2 (by omega)⟩
theorem BQ{l:List Lt}{n:Nat}(h:∀y∈l,aB y=true)(hl:l.length<=n)(hn:n<=100000):lB l:=⟨by omega,fun y hy=>by have:=ah.1 (h y hy);omega⟩
theorem UP(l:List Lt)(n:Int)(i:Nat)(x:Lt)(hx:l[i]?=some x)(hn:0<=n/\n<=1099511627776)(hxn:0<=x.n/\x.n<=1099511627776):aj Tryz.prog 262 [.dv (I i),.ptr 0 0,.ptr 1 0] 2 [(0,.cells [.dv (I n)]),(1,.cells [.dv (aQ l)])] 0 [.dv (I (if x.n<n then x.n else n))] [(0,.cells [.dv (I (n-if x.n<n then x.n else n))]),(1,.cells [.dv (aQ l)])]:=by
 have ix:(l.map ax)[(i:Int).toNat]?=some (ax x):=by rw[adQ];simp[hx]
 have ov:-9223372036854775808<=n-(if x.n<n then x.n else n)/\n-(if x.n<n then x.n else n)<=9223372036854775807:=by split<;>omega
 refine cO Tryz.func262 rfl (by kernel_rfl) ?_
 refine⟨ax x,fun _=>⟨by omega,ix⟩,?_⟩
 refine⟨by kernel_rfl,fun _=>ov,?_⟩
 exact ext (by kernel_rfl) rfl rfl
theorem UQ(ks:List Int)(i:Nat)(k:Int)(hk:ks[i]?=some k):aj Tryz.prog 245 [.dv (I i),.ptr 0 0] 1 [(0,.cells [.dv (Ints ks)])] 0 [.dv (I k)] [(0,.cells [.dv (Ints ks)])]:=by
 have ix:(ks.map I)[(i:Int).toNat]?=some (I k):=by rw[adQ];simp[hk]
 refine cO Tryz.func245 rfl (by kernel_rfl) ?_
 refine⟨I k,fun _=>⟨by omega,ix⟩,?_⟩
 exact ext (by kernel_rfl) rfl rfl
def k1F(rc:RC)(l:List Lt)(n:Int)(v i:Nat):ad:=[(0,.dw rc .ready (((List.replicate 22 .any).set 4 (.ptr 1 0)).set 5 (.ptr 2 0))),(1,.cells [.own 7 v 0 []]),(2,.cells [.own 8 v 0 []]),(3,.cells [.dv (aQ l)]),(4,.cells [.fn 262 [.ptr 5 0,.ptr 6 0]]),(5,.cells [.dv (I (n-((ck n l).take i).sum))]),(6,.cells [.dv (aQ l)]),(7,.tree v 0 (.aD 3 ((me l (ck n l) i).1.map ax))),(8,.tree v 0 (.aD 3 ((me l (ck n l) i).2.map ax)))]
def k2F(rc:RC)(l:List Lt)(n:Int):ad:=[(0,.dw rc .ready (((List.replicate 22 .any).set 4 (.ptr 1 0)).set 5 (.ptr 2 0))),(1,.cells [.own 7 1 0 []]),(2,.cells [.own 8 0 0 []]),(3,.cells [.dv (aQ l)]),(4,.cells [.fn 262 [.ptr 5 0,.ptr 6 0]]),(5,.cells [.dv (I (n-((ck n l).take 0).sum))]),(6,.cells [.dv (aQ l)]),(7,.tree 1 0 (.aD 3 [])),(8,.tree 0 0 (.aD 3 []))]
def k3F(rc:RC)(l:List Lt)(n:Int):ad:=[(0,.dw rc .ready (((List.replicate 22 .any).set 4 (.ptr 1 0)).set 5 (.ptr 2 0))),(1,.cells [.own 7 0 0 []]),(2,.cells [.own 8 0 0 []]),(3,.cells [.dv (aQ l)]),(4,.cells [.fn 262 [.ptr 5 0,.ptr 6 0]]),(5,.cells [.dv (I (n-((ck n l).take 0).sum))]),(6,.cells [.dv (aQ l)]),(7,.tree 0 0 (.aD 3 [])),(8,.tree 0 0 (.aD 3 []))]
def k4F(rc:RC)(l:List Lt)(n:Int):ad:=[(0,.dw rc .ready (((List.replicate 22 .any).set 4 (.ptr 1 0)).set 5 (.ptr 2 0))),(1,.cells [.own 7 0 0 []]),(2,.cells [.dv .aw]),(3,.cells [.dv (aQ l)]),(4,.cells [.fn 262 [.ptr 5 0,.ptr 6 0]]),(5,.cells [.dv (I (n-((ck n l).take 0).sum))]),(6,.cells [.dv (aQ l)]),(7,.tree 0 0 (.aD 3 []))]
def k0F(rc:RC)(l:List Lt)(n:Int):ad:=[(0,.dw rc .ready (((List.replicate 22 .any).set 4 (.ptr 1 0)).set 5 (.ptr 2 0))),(1,.cells [.dv .aw]),(2,.cells [.dv .aw]),(3,.cells [.dv (aQ l)]),(4,.cells [.fn 262 [.ptr 5 0,.ptr 6 0]]),(5,.cells [.dv (I (n-((ck n l).take 0).sum))]),(6,.cells [.dv (aQ l)])]
theorem abw(rc:RC)(l:List Lt)(n:Int)(hl:∀x∈l,aB x=true)(Dr:l.length<=5000)(hn:0<=n/\n<=1099511627776)(hk:Dw l (ck n l))
 (hY:∀(z:ZZ) (x:Lt) (b:Bool),lB z.1->lB z.2->0<=x.n/\x.n<=1099511627776->dP Tryz.prog [cx (ax x),.dv (B b)] 5 (Ah 0 rc z) 0 fun r k=>r=[.dv (B true)]/\k=Ah 1 rc (gy z (x,b))):aj Tryz.prog 281 [.fa 0,.ptr 3 0,.ptr 4 0] 9 (k1F rc l n 1 0) 0 [] (k1F rc l n 1 l.length):=by
 refine cO Tryz.func281 rfl (by kernel_rfl) ?_
 have ll:(l.map ax).length=l.length:=adO ..
 refine⟨Nat,fun i=>⟨9,[(0,.fa 0),(1,.ptr 3 0),(2,.ptr 4 0),(7,.dv (aQ l)),(8,.dv (I l.length)),(9,.dv (I i))],k1F rc l n 1 i⟩,fun i=>i<=l.length,fun i=>l.length-i,0,fun _=>rfl,jn (by simp only[ll];rfl) rfl rfl rfl,ad3 _,?_⟩
 rintro i hi
 refine adN (fun h=>?_) fun h=>?_
 ·have ay:i<l.length:=by have:=ad5 h;omega
  obtain⟨x,hx⟩:∃x,l[i]?=some x:=⟨_,ace ay⟩
  have ix:(l.map ax)[(i:Int).toNat]?=some (ax x):=by rw[adQ];simp[hx]
  have rX:=ah.1 (hl x (adR hx))
  obtain⟨k,qw,SU,hk3⟩:=hk i x hx
  obtain⟨z1,z2,z3,z4⟩:=Jl hl hk i hi
  have dD:=zo hx qw
  have jE:=BQ z1 z3 (by omega)
  have ct:=BQ z2 z4 (by omega)
  have HW:lB (gy (me l (ck n l) i) (⟨x.f,x.a,k⟩,true)).1:=BQ (n:=i+1) (fL z1 (by dsimp only;omega)) (Nat.le_trans (dR (me l (ck n l) i).1 ⟨x.f,x.a,k⟩) (by omega)) (by omega)
  refine⟨ax x,fun _=>⟨by omega,ix⟩,?_⟩
  have hkm:=Du l n i x hx
  rw[qw]at hkm
  injection hkm with hkm
  have hr:0<=n-((ck n l).take i).sum/\n-((ck n l).take i).sum<=1099511627776:=by
   have h1:=(Dv l n hn.1 (fun y hy=>(by have:=ah.1 (hl y hy);omega)) i)
   omega
  have hke:k=if x.n<n-((ck n l).take i).sum then x.n else n-((ck n l).take i).sum:=by rw[hkm];split<;>omega
  have hsn:((ck n l).take (i+1)).sum=((ck n l).take i).sum+k:=by rw[adY,qw];simp
  have hfu:=UP l (n-((ck n l).take i).sum) i x hx hr (by omega)
  rw[<-hke]at hfu
  have Xs:n-((ck n l).take i).sum-k=n-((ck n l).take (i+1)).sum:=by omega
  rw[Xs]at hfu
  refine .inr (cl [5,6] hfu (by kernel_rfl) rfl rfl ?_)
  refine .inl (UI [0,1,2,7,8] (hY (me l (ck n l) i) ⟨x.f,x.a,k⟩ true jE ct (by dsimp only;omega)) (by kernel_rfl) rfl rfl ?_)
  repeat refine gG ?_
  refine⟨fun _=>by omega,?_⟩
  repeat refine gG ?_
  refine⟨fun _=>by omega,?_⟩
  repeat refine gG ?_
  refine .inl (UI [0,1,2,7,8] (hY (gy (me l (ck n l) i) (⟨x.f,x.a,k⟩,true)) ⟨x.f,x.a+k,x.n-k⟩ false HW ct (by dsimp only;omega)) (by kernel_rfl) rfl rfl ?_)
  refine⟨rfl,fun _=>rfl,fun _ _=>rfl,adN (fun h=>by cases h) fun _=>?_⟩
  exact⟨fun _=>by omega,i+1,jn rfl (by simp only[k1F,dD];rfl) rfl rfl,ay,mlt ay⟩
 ·have he:i=l.length:=by have:=ad6 h;omega
  subst he
  exact ext (by kernel_rfl) rfl rfl
theorem M5(rc:RC)(l:List Lt)(n:Int)(hl:∀x∈l,aB x=true)(Dr:l.length<=5000)(hn:0<=n/\n<=1099511627776)(hk:Dw l (ck n l))
 (hY:∀(z:ZZ) (x:Lt) (b:Bool),lB z.1->lB z.2->0<=x.n/\x.n<=1099511627776->dP Tryz.prog [cx (ax x),.dv (B b)] 5 (Ah 0 rc z) 0 fun r k=>r=[.dv (B true)]/\k=Ah 1 rc (gy z (x,b))):aj Tryz.prog 281 [.fa 0,.ptr 3 0,.ptr 4 0] 7 (k0F rc l n) 2 [] (k1F rc l n 1 l.length):=by
 have h1:=abw rc l n hl Dr hn hk hY
 have h2:=cH 8 (K0:=k2F rc l n) h1 ⟨⟨_,rfl,rfl,fun j hj=>(by match j,hj with|0,_=>exact .refl _|1,_=>exact .refl _|2,_=>exact .cells (.rU .nil)|3,_=>exact .refl _|4,_=>exact .refl _|5,_=>exact .refl _|6,_=>exact .refl _|7,_=>exact .refl _|j+9,_=>exact .refl _)⟩,iW.refl _ _ _ _⟩
 have h3:=cH 7 (K0:=k3F rc l n) h2 ⟨⟨_,rfl,rfl,fun j hj=>(by match j,hj with|0,_=>exact .refl _|1,_=>exact .cells (.rU .nil)|2,_=>exact .refl _|3,_=>exact .refl _|4,_=>exact .refl _|5,_=>exact .refl _|6,_=>exact .refl _|8,_=>exact .refl _|j+9,_=>exact .refl _)⟩,iW.refl _ _ _ _⟩
 have h4:=jA (K2:=k4F rc l n) (args2:=[.fa 0,.ptr 3 0,.ptr 4 0]) h3 rfl rfl (fun j hj=>(by match j,hj with|0,_=>exact .inl ⟨rfl,rfl⟩|1,_=>exact .inl ⟨rfl,rfl⟩|2,_=>exact .inr ⟨_,_,rfl,rfl,.born .nil⟩|3,_=>exact .inl ⟨rfl,rfl⟩|4,_=>exact .inl ⟨rfl,rfl⟩|5,_=>exact .inl ⟨rfl,rfl⟩|6,_=>exact .inl ⟨rfl,rfl⟩|7,_=>exact .inl ⟨rfl,rfl⟩|j+9,_=>exact .inl ⟨rfl,rfl⟩)) (.same _ rfl (.same _ rfl (.same _ rfl .nil)))
 exact jA (K2:=k0F rc l n) (args2:=[.fa 0,.ptr 3 0,.ptr 4 0]) h4 rfl rfl (fun j hj=>(by match j,hj with|0,_=>exact .inl ⟨rfl,rfl⟩|1,_=>exact .inr ⟨_,_,rfl,rfl,.born .nil⟩|2,_=>exact .inl ⟨rfl,rfl⟩|3,_=>exact .inl ⟨rfl,rfl⟩|4,_=>exact .inl ⟨rfl,rfl⟩|5,_=>exact .inl ⟨rfl,rfl⟩|6,_=>exact .inl ⟨rfl,rfl⟩|j+8,_=>exact .inl ⟨rfl,rfl⟩)) (.same _ rfl (.same _ rfl (.same _ rfl .nil)))
theorem AI(l:List Lt)(n:Int):aj Tryz.prog 268 [.dv (aQ l),.fn 262 [.ptr 0 0,.ptr 1 0]] 2 [(0,.cells [.dv (I n)]),(1,.cells [.dv (aQ l)])] 2 [.fn 281 [.ptr 2 0,.ptr 3 0]] [(0,.cells [.dv (I n)]),(1,.cells [.dv (aQ l)]),(2,.cells [.dv (aQ l)]),(3,.cells [.fn 262 [.ptr 0 0,.ptr 1 0]])]:=by
 refine cO Tryz.func268 rfl (by kernel_rfl) ?_
 exact ext (by kernel_rfl) rfl rfl
theorem Jm(l:List Lt)(n:Int)(hl:∀x∈l,aB x=true)(Dr:l.length<=5000)(hn:0<=n/\n<=1099511627776)(hk:Dw l (ck n l)):aj Tryz.prog 246 [.dv (aQ l),.fn 262 [.ptr 0 0,.ptr 1 0]] 2 [(0,.cells [.dv (I n)]),(1,.cells [.dv (aQ l)])] 0 [.dv (aQ (me l (ck n l) l.length).1),.dv (aQ (me l (ck n l) l.length).2)] [(0,.cells [.dv (I (n-((ck n l).take l.length).sum))]),(1,.cells [.dv (aQ l)])]:=by
 refine cO Tryz.func246 rfl (by kernel_rfl) ?_
 have hi:=M5 (Ag Tryz.f246) l n hl Dr hn hk fun z x b a1 a2 a3=>zm z x b a1 a2 a3
 refine .inr (cl [0,1] (AI l n) (by kernel_rfl) rfl rfl ?_)
 refine⟨Ag Tryz.f246,by kernel_rfl,?_⟩
 refine⟨[6,2,3,4,5,0,1],[.fa 0,.ptr 3 0,.ptr 4 0],k0F (Ag Tryz.f246) l n,2,_,hi,by kernel_rfl,⟨rfl,rfl,rfl,tv⟩,⟨⟨rfl,rfl,?_⟩,⟨rf,tv⟩,⟨rf,tv⟩,⟨rf,tv⟩,⟨⟨rfl,rfl,rfl,tv⟩,tv⟩,⟨aG (by simp),tv⟩,⟨rf,tv⟩,tv⟩,?_⟩
 ·exact kT (by kernel_rfl)
 rintro rs K2 ⟨rfl,rfl⟩
 refine⟨by kernel_rfl,?_⟩
 conv=>whnf
 exact⟨by kernel_rfl,_,_,⟨rfl,rfl⟩,by kernel_rfl,⟨sf _,sf _,tv⟩,⟨rf,tv⟩,⟨rf,tv⟩,tv⟩
def k1S(rc:RC)(l:List Lt)(ks:List Int)(v i:Nat):ad:=[(0,.dw rc .ready (((List.replicate 22 .any).set 4 (.ptr 1 0)).set 5 (.ptr 2 0))),(1,.cells [.own 6 v 0 []]),(2,.cells [.own 7 v 0 []]),(3,.cells [.dv (aQ l)]),(4,.cells [.fn 245 [.ptr 5 0]]),(5,.cells [.dv (Ints ks)]),(6,.tree v 0 (.aD 3 ((me l (ks) i).1.map ax))),(7,.tree v 0 (.aD 3 ((me l (ks) i).2.map ax)))]
def k2S(rc:RC)(l:List Lt)(ks:List Int):ad:=[(0,.dw rc .ready (((List.replicate 22 .any).set 4 (.ptr 1 0)).set 5 (.ptr 2 0))),(1,.cells [.own 6 1 0 []]),(2,.cells [.own 7 0 0 []]),(3,.cells [.dv (aQ l)]),(4,.cells [.fn 245 [.ptr 5 0]]),(5,.cells [.dv (Ints ks)]),(6,.tree 1 0 (.aD 3 [])),(7,.tree 0 0 (.aD 3 []))]
def k3S(rc:RC)(l:List Lt)(ks:List Int):ad:=[(0,.dw rc .ready (((List.replicate 22 .any).set 4 (.ptr 1 0)).set 5 (.ptr 2 0))),(1,.cells [.own 6 0 0 []]),(2,.cells [.own 7 0 0 []]),(3,.cells [.dv (aQ l)]),(4,.cells [.fn 245 [.ptr 5 0]]),(5,.cells [.dv (Ints ks)]),(6,.tree 0 0 (.aD 3 [])),(7,.tree 0 0 (.aD 3 []))]
def k4S(rc:RC)(l:List Lt)(ks:List Int):ad:=[(0,.dw rc .ready (((List.replicate 22 .any).set 4 (.ptr 1 0)).set 5 (.ptr 2 0))),(1,.cells [.own 6 0 0 []]),(2,.cells [.dv .aw]),(3,.cells [.dv (aQ l)]),(4,.cells [.fn 245 [.ptr 5 0]]),(5,.cells [.dv (Ints ks)]),(6,.tree 0 0 (.aD 3 []))]
def k0S(rc:RC)(l:List Lt)(ks:List Int):ad:=[(0,.dw rc .ready (((List.replicate 22 .any).set 4 (.ptr 1 0)).set 5 (.ptr 2 0))),(1,.cells [.dv .aw]),(2,.cells [.dv .aw]),(3,.cells [.dv (aQ l)]),(4,.cells [.fn 245 [.ptr 5 0]]),(5,.cells [.dv (Ints ks)])]
theorem abx(rc:RC)(l:List Lt)(ks:List Int)(hl:∀x∈l,aB x=true)(Dr:l.length<=5000)(hk:Dw l (ks))
 (hY:∀(z:ZZ) (x:Lt) (b:Bool),lB z.1->lB z.2->0<=x.n/\x.n<=1099511627776->dP Tryz.prog [cx (ax x),.dv (B b)] 5 (Ah 0 rc z) 0 fun r k=>r=[.dv (B true)]/\k=Ah 1 rc (gy z (x,b))):aj Tryz.prog 281 [.fa 0,.ptr 3 0,.ptr 4 0] 8 (k1S rc l ks 1 0) 0 [] (k1S rc l ks 1 l.length):=by
 refine cO Tryz.func281 rfl (by kernel_rfl) ?_
 have ll:(l.map ax).length=l.length:=adO ..
 refine⟨Nat,fun i=>⟨8,[(0,.fa 0),(1,.ptr 3 0),(2,.ptr 4 0),(7,.dv (aQ l)),(8,.dv (I l.length)),(9,.dv (I i))],k1S rc l ks 1 i⟩,fun i=>i<=l.length,fun i=>l.length-i,0,fun _=>rfl,jn (by simp only[ll];rfl) rfl rfl rfl,ad3 _,?_⟩
 rintro i hi
 refine adN (fun h=>?_) fun h=>?_
 ·have ay:i<l.length:=by have:=ad5 h;omega
  obtain⟨x,hx⟩:∃x,l[i]?=some x:=⟨_,ace ay⟩
  have ix:(l.map ax)[(i:Int).toNat]?=some (ax x):=by rw[adQ];simp[hx]
  have rX:=ah.1 (hl x (adR hx))
  obtain⟨k,qw,SU,hk3⟩:=hk i x hx
  obtain⟨z1,z2,z3,z4⟩:=Jl hl hk i hi
  have dD:=zo hx qw
  have jE:=BQ z1 z3 (by omega)
  have ct:=BQ z2 z4 (by omega)
  have HW:lB (gy (me l (ks) i) (⟨x.f,x.a,k⟩,true)).1:=BQ (n:=i+1) (fL z1 (by dsimp only;omega)) (Nat.le_trans (dR (me l (ks) i).1 ⟨x.f,x.a,k⟩) (by omega)) (by omega)
  refine⟨ax x,fun _=>⟨by omega,ix⟩,?_⟩
  refine .inr (cl [5] (UQ ks i k qw) (by kernel_rfl) rfl rfl ?_)
  refine .inl (UI [0,1,2,6,7] (hY (me l (ks) i) ⟨x.f,x.a,k⟩ true jE ct (by dsimp only;omega)) (by kernel_rfl) rfl rfl ?_)
  repeat refine gG ?_
  refine⟨fun _=>by omega,?_⟩
  repeat refine gG ?_
  refine⟨fun _=>by omega,?_⟩
  repeat refine gG ?_
  refine .inl (UI [0,1,2,6,7] (hY (gy (me l (ks) i) (⟨x.f,x.a,k⟩,true)) ⟨x.f,x.a+k,x.n-k⟩ false HW ct (by dsimp only;omega)) (by kernel_rfl) rfl rfl ?_)
  refine⟨rfl,fun _=>rfl,fun _ _=>rfl,adN (fun h=>by cases h) fun _=>?_⟩
  exact⟨fun _=>by omega,i+1,jn rfl (by simp only[k1S,dD];rfl) rfl rfl,ay,mlt ay⟩
 ·have he:i=l.length:=by have:=ad6 h;omega
  subst he
  exact ext (by kernel_rfl) rfl rfl
theorem M6(rc:RC)(l:List Lt)(ks:List Int)(hl:∀x∈l,aB x=true)(Dr:l.length<=5000)(hk:Dw l (ks))
 (hY:∀(z:ZZ) (x:Lt) (b:Bool),lB z.1->lB z.2->0<=x.n/\x.n<=1099511627776->dP Tryz.prog [cx (ax x),.dv (B b)] 5 (Ah 0 rc z) 0 fun r k=>r=[.dv (B true)]/\k=Ah 1 rc (gy z (x,b))):aj Tryz.prog 281 [.fa 0,.ptr 3 0,.ptr 4 0] 6 (k0S rc l ks) 2 [] (k1S rc l ks 1 l.length):=by
 have h1:=abx rc l ks hl Dr hk hY
 have h2:=cH 7 (K0:=k2S rc l ks) h1 ⟨⟨_,rfl,rfl,fun j hj=>(by match j,hj with|0,_=>exact .refl _|1,_=>exact .refl _|2,_=>exact .cells (.rU .nil)|3,_=>exact .refl _|4,_=>exact .refl _|5,_=>exact .refl _|6,_=>exact .refl _|j+8,_=>exact .refl _)⟩,iW.refl _ _ _ _⟩
 have h3:=cH 6 (K0:=k3S rc l ks) h2 ⟨⟨_,rfl,rfl,fun j hj=>(by match j,hj with|0,_=>exact .refl _|1,_=>exact .cells (.rU .nil)|2,_=>exact .refl _|3,_=>exact .refl _|4,_=>exact .refl _|5,_=>exact .refl _|7,_=>exact .refl _|j+8,_=>exact .refl _)⟩,iW.refl _ _ _ _⟩
 have h4:=jA (K2:=k4S rc l ks) (args2:=[.fa 0,.ptr 3 0,.ptr 4 0]) h3 rfl rfl (fun j hj=>(by match j,hj with|0,_=>exact .inl ⟨rfl,rfl⟩|1,_=>exact .inl ⟨rfl,rfl⟩|2,_=>exact .inr ⟨_,_,rfl,rfl,.born .nil⟩|3,_=>exact .inl ⟨rfl,rfl⟩|4,_=>exact .inl ⟨rfl,rfl⟩|5,_=>exact .inl ⟨rfl,rfl⟩|6,_=>exact .inl ⟨rfl,rfl⟩|j+8,_=>exact .inl ⟨rfl,rfl⟩)) (.same _ rfl (.same _ rfl (.same _ rfl .nil)))
 exact jA (K2:=k0S rc l ks) (args2:=[.fa 0,.ptr 3 0,.ptr 4 0]) h4 rfl rfl (fun j hj=>(by match j,hj with|0,_=>exact .inl ⟨rfl,rfl⟩|1,_=>exact .inr ⟨_,_,rfl,rfl,.born .nil⟩|2,_=>exact .inl ⟨rfl,rfl⟩|3,_=>exact .inl ⟨rfl,rfl⟩|4,_=>exact .inl ⟨rfl,rfl⟩|5,_=>exact .inl ⟨rfl,rfl⟩|j+7,_=>exact .inl ⟨rfl,rfl⟩)) (.same _ rfl (.same _ rfl (.same _ rfl .nil)))
theorem AJ(l:List Lt)(ks:List Int):aj Tryz.prog 268 [.dv (aQ l),.fn 245 [.ptr 0 0]] 1 [(0,.cells [.dv (Ints ks)])] 2 [.fn 281 [.ptr 1 0,.ptr 2 0]] [(0,.cells [.dv (Ints ks)]),(1,.cells [.dv (aQ l)]),(2,.cells [.fn 245 [.ptr 0 0]])]:=by
 refine cO Tryz.func268 rfl (by kernel_rfl) ?_
 exact ext (by kernel_rfl) rfl rfl
theorem Jn(l:List Lt)(ks:List Int)(hl:∀x∈l,aB x=true)(Dr:l.length<=5000)(hk:Dw l (ks)):aj Tryz.prog 246 [.dv (aQ l),.fn 245 [.ptr 0 0]] 1 [(0,.cells [.dv (Ints ks)])] 0 [.dv (aQ (me l (ks) l.length).1),.dv (aQ (me l (ks) l.length).2)] [(0,.cells [.dv (Ints ks)])]:=by
 refine cO Tryz.func246 rfl (by kernel_rfl) ?_
 have hi:=M6 (Ag Tryz.f246) l ks hl Dr hk fun z x b a1 a2 a3=>zm z x b a1 a2 a3
 refine .inr (cl [0] (AJ l ks) (by kernel_rfl) rfl rfl ?_)
 refine⟨Ag Tryz.f246,by kernel_rfl,?_⟩
 refine⟨[5,1,2,3,4,0],[.fa 0,.ptr 3 0,.ptr 4 0],k0S (Ag Tryz.f246) l ks,2,_,hi,by kernel_rfl,⟨rfl,rfl,rfl,tv⟩,⟨⟨rfl,rfl,?_⟩,⟨rf,tv⟩,⟨rf,tv⟩,⟨rf,tv⟩,⟨⟨rfl,rfl,tv⟩,tv⟩,⟨rf,tv⟩,tv⟩,?_⟩
 ·exact kT (by kernel_rfl)
 rintro rs K2 ⟨rfl,rfl⟩
 refine⟨by kernel_rfl,?_⟩
 conv=>whnf
 exact⟨by kernel_rfl,_,_,⟨rfl,rfl⟩,by kernel_rfl,⟨sf _,sf _,tv⟩,⟨rf,tv⟩,tv⟩
end
section
open Go.TM
variable [bj]
theorem kV(s:List Lt)(x:Lt)(hs:bz s=true)(hx:aB x=true):aR Tryz.prog 147 [aQ s,ax x] [aQ (aN s x)]:=by
 obtain⟨h1,h2⟩:=dE hs
 have rX:=ah.1 hx
 refine pO Tryz.func147 rfl (by kernel_rfl) rfl ?_
 refine .inl ⟨_,fun _=>(ez s (by omega)).ok,?_⟩
 repeat refine gG ?_
 refine .inl ⟨_,fun _=>(Bw x).ok,?_⟩
 rw[hs,hx]
 repeat refine gG ?_
 refine adN (fun h=>by cases h) fun _=>?_
 refine .inr (cl [] (eK s (by omega)) (by kernel_rfl) rfl rfl ?_)
 refine .inr (cl [1] (vh s x ⟨by omega,fun y hy=>by have:=ah.1 (h2 y hy);omega⟩ (by omega)) (by kernel_rfl) rfl rfl ?_)
 exact⟨by kernel_rfl,sf _,tv⟩
theorem wb(l:List Lt)(n:Int):aj Tryz.prog 243 [.dv (aQ l),.dv (I n)] 0 [] 2 [.fn 262 [.ptr 1 0,.ptr 0 0]] [(0,.cells [.dv (aQ l)]),(1,.cells [.dv (I n)])]:=by
 refine cO Tryz.func243 rfl (by kernel_rfl) ?_
 exact ext (by kernel_rfl) rfl rfl
theorem Gv(s:List Lt)(n:Int)(mx:Bool)(hs:bz s=true)(hn:0<=n/\n<=1099511627776)(hc:cu s<n):aR Tryz.prog 233 [aQ s,I n,B mx] [aQ [],aQ [],I 10]:=by
 obtain⟨h1,h2⟩:=dE hs
 refine pO Tryz.func233 rfl (by kernel_rfl) rfl ?_
 refine .inl ⟨_,fun _=>(ez s (by omega)).ok,?_⟩
 rw[hs]
 repeat refine gG ?_
 refine adN (fun h=>?_) fun _=>?_
 ·simp[bw]at h;omega
 refine .inl ⟨_,fun _=>(kR s (by omega)).ok,?_⟩
 refine adN (fun _=>?_) fun h=>absurd hc (ad6 h)
 exact⟨DV.aL 3,DV.aL 3,rf,tv⟩
theorem Yl{s:List Lt}{n:Int}(hs:∀x∈s,aB x=true)(hn:0<=n):Dw s (ck n s):=fun i x hx=>by
 have h1:=Du s n i x hx
 have h2:=Dv s n hn (fun y hy=>by have:=ah.1 (hs y hy);omega) i
 have:=ah.1 (hs x (adR hx))
 exact⟨_,h1,by omega,by omega⟩
theorem Gw(s:List Lt)(n:Int)(mx:Bool)(hs:bz s=true)(hn:0<=n/\n<=1099511627776)(hc:¬cu s<n)(Wt:(mx&&decide (0<n))=false):aR Tryz.prog 233 [aQ s,I n,B mx] [aQ (eV s n mx).1,aQ (eV s n mx).2,I 0]:=by
 obtain⟨h1,h2⟩:=dE hs
 have ecn:oT s n mx=ck n s:=by unfold oT;rw[Wt];rfl
 refine pO Tryz.func233 rfl (by kernel_rfl) rfl ?_
 refine .inl ⟨_,fun _=>(ez s (by omega)).ok,?_⟩
 rw[hs]
 repeat refine gG ?_
 refine adN (fun h=>?_) fun _=>?_
 ·simp[bw]at h;omega
 refine .inl ⟨_,fun _=>(kR s (by omega)).ok,?_⟩
 refine adN (fun h=>absurd (ad5 h) hc) fun _=>?_
 refine .inr (cl [] (wb s n) (by kernel_rfl) rfl rfl ?_)
 repeat refine gG ?_
 refine adN (fun h=>?_) fun _=>?_
 ·have h:=dc h
  rw[h.1]at Wt
  have:=h.2
  rw[this]at Wt;cases Wt
 have hd:=Jm s n h2 (by omega) hn (Yl h2 hn.1)
 refine .inr (cl [1,0] hd (by kernel_rfl) rfl rfl ?_)
 unfold eV
 rw[ecn]
 exact⟨rf,rf,rf,tv⟩
def wO(l:List Int)(i:Nat):List Int:=l.take i++List.replicate (l.length-i) 0
theorem QF(l:List Int)(i:Nat)(h:i<=l.length):(wO l i).length=l.length:=by simp[wO];omega
theorem M7{l:List Int}{i:Nat}{x:Int}(h:l[i]?=some x):(wO l i).set i x=wO l (i+1):=by
 have hi:=(adP.1 h).1
 unfold wO
 have:l.length-i=(l.length-(i+1))+1:=by omega
 rw[List.set_append,if_neg (by rw[ad9];omega),adY,h,this,List.replicate_succ]
 simp[Nat.min_eq_left (Nat.le_of_lt hi)]
theorem QG{l:List Int}{i:Nat}(h:i<l.length):(wO l i)[i]?=some 0:=by
 unfold wO
 rw[List.getElem?_append_right (by rw[ad9];omega),List.getElem?_replicate,if_pos (by simp;omega)]
theorem Lo(l:List Int):(oY (.aD 1 (l.map I))).Le (Ints l):=DV.Le.of_eq (by
 show DV.sl 1 (uX (l.map I))=_
 rw[dV (fun _=>rfl)])
theorem Ym{s:List Lt}{n:Int}(hs:∀x∈s,aB x=true)(hn:0<=n)(QH:0<(s.map (·.n)).sum)(hle:n<=(s.map (·.n)).sum):Dw s (Ad n (s.map (·.n))):=fun i x hx=>by
 have hi:i<(s.map (·.n)).length:=by rw[adO];exact(adP.1 hx).1
 have hb:=Wd hn (fun w hw=>by obtain⟨y,hy,rfl⟩:=aeg.1 hw;have:=ah.1 (hs y hy);omega) QH hle hi
 have hl:i<(Ad n (s.map (·.n))).length:=by rw[K4];exact hi
 have S5:(s.map (·.n)).getD i 0=x.n:=by rw[adT,adQ,hx];rfl
 rw[S5]at hb
 generalize Ad n (s.map (·.n))=ks at*
 refine⟨ks.getD i 0,?_,hb.1,hb.2⟩
 rw[adT,ace hl];rfl
theorem Gx(s:List Lt)(n:Int)(hs:bz s=true)(hn:0<n/\n<=1099511627776)(hc:¬cu s<n)(lO:aR Tryz.prog 244 [I n,Ints (s.map (·.n))] [Ints (Ad n (s.map (·.n))),I 0]):aR Tryz.prog 233 [aQ s,I n,B true] [aQ (eV s n true).1,aQ (eV s n true).2,I 0]:=by
 obtain⟨h1,h2⟩:=dE hs
 have HX:cu s=(s.map (·.n)).sum:=by unfold cu;rw[hs];rfl
 have ecn:oT s n true=Ad n (s.map (·.n)):=by unfold oT;rw[aeb hn.1];rfl
 have ll:(s.map ax).length=s.length:=adO ..
 have lw:(s.map (·.n)).length=s.length:=adO ..
 refine pO Tryz.func233 rfl (by kernel_rfl) rfl ?_
 refine .inl ⟨_,fun _=>(ez s (by omega)).ok,?_⟩
 rw[hs]
 repeat refine gG ?_
 refine adN (fun h=>?_) fun _=>?_
 ·simp[bw]at h;omega
 refine .inl ⟨_,fun _=>(kR s (by omega)).ok,?_⟩
 refine adN (fun h=>absurd (ad5 h) hc) fun _=>?_
 refine .inr (cl [] (wb s n) (by kernel_rfl) rfl rfl ?_)
 repeat refine gG ?_
 refine adN (fun _=>?_) fun h=>?_
 ·refine⟨I 0,⟨rf,tv⟩,by omega,by omega,?_,by omega,false,(fun h=>by cases h),?_⟩
  ·rw[show(nth na (nth na 22).elem).bytes=8 by kernel_rfl];omega
  have e0:List.replicate (((s.map ax).length:Int)).toNat (I 0)=(wO (s.map (·.n)) 0).map I:=by unfold wO;simp
  rw[e0]
  refine⟨Nat,fun i=>⟨3,[(0,.dv (aQ s)),(1,.dv (I n)),(10,.own 2 0 0 []),(43,.dv (aQ s)),(44,.dv (I s.length)),(45,.dv (I i))],[(2,.tree 0 0 (.aD 1 ((wO (s.map (·.n)) i).map I)))]⟩,fun i=>i<=s.length,fun i=>s.length-i,0,fun _=>rfl,jn (by simp only[ll];rfl) rfl rfl rfl,ad3 _,?_⟩
  rintro i hi
  refine adN (fun h=>?_) fun h=>?_
  ·have ay:i<s.length:=by have:=ad5 h;omega
   obtain⟨x,hx⟩:∃x,s[i]?=some x:=⟨_,ace ay⟩
   have ix:(s.map ax)[(i:Int).toNat]?=some (ax x):=by rw[adQ];simp[hx]
   have hwx:(s.map (·.n))[i]?=some x.n:=by rw[adQ,hx];rfl
   have dD:=M7 hwx
   have km:=QF (s.map (·.n)) i (by omega)
   refine⟨ax x,fun _=>⟨by omega,ix⟩,?_⟩
   refine⟨fun _=>⟨by omega,by rw[adO,km,lw];omega⟩,[I x.n],⟨rf,tv⟩,I 0,by rw[adQ];simp[QG (show i<(s.map (·.n)).length by rw[lw];exact ay)],?_⟩
   exact⟨fun _=>by omega,i+1,jn rfl (by simp only[<-dD,List.map_set];rfl) rfl rfl,ay,mlt ay⟩
  ·have he:i=s.length:=by have:=ad6 h;omega
   subst he
   have Gl:wO (s.map (·.n)) s.length=s.map (·.n):=by unfold wO;rw[<-lw,ad4];simp
   rw[Gl]
   refine .inl (.inr ⟨_,fun _=>⟨[I n,Ints (s.map (·.n))],⟨rf,Lo _,tv⟩,lO⟩,?_⟩)
   refine adN (fun h=>by cases h) fun _=>?_
   have hd:=Jn s (Ad n (s.map (·.n))) h2 (by omega) (Ym h2 (by omega) (by omega) (by omega))
   refine .inr (cl [3] hd (by kernel_rfl) rfl rfl ?_)
   unfold eV
   rw[ecn]
   exact⟨rf,rf,rf,tv⟩
 ·exact absurd ⟨rfl,aeb hn.1⟩ (mc h)
def n4:Prop:=∀(t:Int) (ws:List Int),0<=t/\t<=1099511627776->(∀w∈ws,0<=w/\w<=1099511627776)->ws.length<=5000->0<ws.sum->t<=ws.sum->aR Tryz.prog 244 [I t,Ints ws] [Ints (Ad t ws),I 0]
theorem zp(hS:n4)(s:List Lt)(n:Int)(mx:Bool)(hn:0<=n/\n<=1099511627776)(hs:bz s=true):aR Tryz.prog 233 [aQ s,I n,B mx] (FN s n mx):=by
 unfold FN
 by_cases hc:cu s<n
 ·rw[aeb hc];exact Gv s n mx hs hn hc
 ·rw[aec hc]
  cases Wt:mx&&decide (0<n)with
  |false=>exact Gw s n mx hs hn hc Wt
  |true=>
   simp only[aep,decide_eq_true_eq]at Wt
   obtain⟨rfl,MZ⟩:=Wt
   obtain⟨h1,h2⟩:=dE hs
   have HX:cu s=(s.map (·.n)).sum:=by unfold cu;rw[hs];rfl
   exact Gx s n hs ⟨MZ,hn.2⟩ hc (hS n _ hn (fun w hw=>by obtain⟨y,hy,rfl⟩:=aeg.1 hw;exact gQ (h2 y hy)) (by rw[adO];omega) (by omega) (by omega))
end
section
open Go.TM
def frN(k:Int):Nat:=if k=0\/k=5 then 208 else if k=4\/k=10\/k=9 then 211 else 209
def toN(k:Int):Nat:=if k=1\/k=6 then 208 else if k=4\/k=10\/k=7 then 211 else 209
def whN(k:Int):Nat:=if k=4 then 212 else if k=10 then 213 else 210
def Yn(k:Int):DV:=.agg [.fn (frN k) [],.fn (toN k) [],.bool (ng k),.fn (whN k) []]
def Dy(k a:Int):Bool:=if k=0\/k=5 then a==0 else if k=4\/k=10\/k=9 then true else a !=0
def Dz(k a:Int):Bool:=if k=1\/k=6 then a==0 else if k=4\/k=10\/k=7 then true else a !=0
theorem kinds{k:Int}(h:0<=k/\k<=10):k=0\/k=1\/k=2\/k=3\/k=4\/k=5\/k=6\/k=7\/k=8\/k=9\/k=10:=by omega
variable [bj]
theorem tG(a:Int):aR Tryz.prog 208 [I a] [B (a==0)]:=by
 refine pO Tryz.func208 rfl (by kernel_rfl) rfl ?_
 exact⟨rf,tv⟩
theorem tH(a:Int):aR Tryz.prog 209 [I a] [B (a !=0)]:=by
 refine pO Tryz.func209 rfl (by kernel_rfl) rfl ?_
 exact⟨rf,tv⟩
theorem zq(a:Int):aR Tryz.prog 211 [I a] [B true]:=by
 refine pO Tryz.func211 rfl (by kernel_rfl) rfl ?_
 exact⟨rf,tv⟩
theorem UR(k a:Int):aR Tryz.prog (frN k) [I a] [B (Dy k a)]:=by
 unfold frN Dy
 split
 ·exact tG a
 split
 ·exact zq a
 ·exact tH a
theorem US(k a:Int):aR Tryz.prog (toN k) [I a] [B (Dz k a)]:=by
 unfold toN Dz
 split
 ·exact tG a
 split
 ·exact zq a
 ·exact tH a
theorem lH(a:Int):aR Tryz.prog 142 [I a] [B (decide (0<=a)&&decide (a<=1073741824))]:=by
 refine pO Tryz.func142 rfl (by kernel_rfl) rfl ?_
 repeat refine gG ?_
 refine⟨DV.Le.of_eq ?_,tv⟩
 cases decide (0<=a)<;>rfl
theorem BR(k:Int)(h:0<=k/\k<=10):aR Tryz.prog 141 [I k] [Yn k,B true]:=by
 rcases kinds h with rfl|rfl|rfl|rfl|rfl|rfl|rfl|rfl|rfl|rfl|rfl
 all_goals
  refine pO Tryz.func141 rfl (by kernel_rfl) rfl ?_
  repeat first|refine adN (fun h=>absurd h (by decide)) fun _=>?_|refine adN (fun _=>?_) fun h=>absurd h (by decide)
  exact⟨rf,rf,tv⟩
theorem Jo(k:Int)(h:¬(0<=k/\k<=10)):aR Tryz.prog 141 [I k] [.agg [.jJ,.jJ,B false,.jJ],B false]:=by
 have hk:∀n:Int,0<=n/\n<=10->¬(k==n)=true:=fun n hn he=>by have:=beq_iff_eq.1 he;omega
 refine pO Tryz.func141 rfl (by kernel_rfl) rfl ?_
 repeat refine adN (fun h=>absurd h (hk _ (by decide))) fun _=>?_
 exact⟨rf,rf,tv⟩
def si(k:Int)(m:c5):Bool:=AD m (ng k)&&(Dy k m.fr&&Dz k m.to)
theorem QI(k:Int)(m:c5)(L:Int)(hL:L=5):(bif bif bif bif bif bif bif bif decide (m.it<0)then true else decide (L<=m.it)then true else decide (m.n<1)then true else decide (1099511627776<m.n)then true else !(decide (0<=m.fr)&&decide (m.fr<=1073741824))then true else !(decide (0<=m.to)&&decide (m.to<=1073741824))then true else m.fr==m.to then true else !Dy k m.fr then true else !Dz k m.to)=!(di m&&(Dy k m.fr&&Dz k m.to)):=by
 subst hL
 generalize Dy k m.fr=x
 generalize Dz k m.to=y
 rw[aek]
 cases x<;>cases y<;>simp[di]<;>omega
theorem mX(P:PL)(m:c5)(k:Int)(hl:m.ps.length<=4000):aj Tryz.prog 144 [.ptr 0 0,cx (aq m),cx (Yn k)] 7 (lF P) 0 [.dv (B (si k m))] (lF P):=by
 refine cO Tryz.func144 rfl (by kernel_rfl) ?_
 repeat refine gG ?_
 refine .inl ⟨_,fun _=>(lH m.fr).ok,?_⟩
 repeat refine gG ?_
 refine .inl ⟨_,fun _=>(lH m.to).ok,?_⟩
 repeat refine gG ?_
 refine .inl ⟨_,fun _=>(UR k m.fr).ok,?_⟩
 refine .inl ?_
 repeat refine gG ?_
 refine .inl ⟨_,fun _=>(US k m.to).ok,?_⟩
 refine .inl ?_
 repeat refine gG ?_
 refine adN (by kernel_rfl) ?_
 refine adN (fun h=>?_) fun h=>adN (fun hs=>?_) fun hs=>?_
 ·have h:=(QI k m _ rfl).symm.trans h
  have h:(di m&&(Dy k m.fr&&Dz k m.to))=false:=by cases hh:(di m&&(Dy k m.fr&&Dz k m.to));rfl;rw[hh]at h;cases h
  have e:si k m=false:=by
   unfold si AD
   generalize di m=x at h⊢
   generalize (Dy k m.fr&&Dz k m.to)=y at h⊢
   cases x<;>cases y<;>simp_all
  rw[e]
  exact ext (by kernel_rfl) rfl rfl
 ·have h:=(QI k m _ rfl).symm.trans h
  have h:(di m&&(Dy k m.fr&&Dz k m.to))=true:=by cases hh:(di m&&(Dy k m.fr&&Dz k m.to));rw[hh]at h;cases h;rfl
  have hs:ng k=false:=by simpa using hs
  have e:si k m=((m.ps.map ax).length==(0:Int)):=by
   unfold si AD
   rw[hs]
   rw[aep]at h
   rw[h.1,h.2]
   cases m.ps<;>simp<;>omega
  rw[e]
  exact ext (by kernel_rfl) rfl rfl
 have h:=(QI k m _ rfl).symm.trans h
 have h:(di m&&(Dy k m.fr&&Dz k m.to))=true:=by cases hh:(di m&&(Dy k m.fr&&Dz k m.to));rw[hh]at h;cases h;rfl
 have hs:ng k=true:=by simpa using hs
 rw[aep]at h
 have e:si k m=(bz m.ps&&decide (cu m.ps=m.n)&&decide (cu (kF m.ps)=m.n)):=by
  unfold si AD
  rw[hs,h.1,h.2];simp
 rw[e]
 have ZO:=ez m.ps (by omega)
 cases hv:bz m.ps with
 |false=>
  rw[hv]at ZO
  refine .inl ⟨_,fun _=>ZO.ok,?_⟩
  repeat refine gG ?_
  refine .inl ⟨[I 0],fun h=>(by cases h),?_⟩
  repeat refine gG ?_
  refine .inl ⟨[aQ []],fun h=>(by cases h),?_⟩
  repeat refine gG ?_
  refine .inl ⟨[I 0],fun h=>(by cases h),?_⟩
  repeat refine gG ?_
  refine⟨by kernel_rfl,?_⟩
  refine ext (by kernel_rfl) rfl rfl
 |true=>
  rw[hv]at ZO
  have hn:=fun x hx=>gQ ((dE hv).2 x hx)
  refine .inl ⟨_,fun _=>ZO.ok,?_⟩
  repeat refine gG ?_
  refine .inl ⟨_,fun _=>(kR m.ps (by omega)).ok,?_⟩
  repeat refine gG ?_
  refine .inl ⟨_,fun _=>(nh m.ps (dE hv).2 (by omega)).ok,?_⟩
  repeat refine gG ?_
  have hq:=qD (dE hv).2
  have hT:cu (cL m.ps)=aJ (cL m.ps):=by
   have:bz (cL m.ps)=true:=by
    unfold bz
    rw[aed.2 hq.1,aeb (by have:=hq.2.1;omega)];rfl
   unfold cu;rw[this];rfl
  have hsv:kF m.ps=cL m.ps:=by unfold kF;rw[hv];rfl
  refine .inl ⟨_,fun _=>(Bx (cL m.ps) (by have:=hq.2.1;omega) fun x hx=>gQ (hq.1 x hx)).ok,?_⟩
  repeat refine gG ?_
  refine⟨by kernel_rfl,?_⟩
  have ee:(true&&decide (cu m.ps=m.n)&&decide (cu (kF m.ps)=m.n))=(bif (bif true then cu m.ps==m.n else false)then aJ (cL m.ps)==m.n else false):=by
   rw[hsv,hT]
   have e1:∀a b:Int,decide (a=b)=(a==b):=fun a b=>by rw[aek];simp
   rw[e1,e1]
   cases(cu m.ps==m.n)<;>rfl
  rw[ee]
  refine ext (by kernel_rfl) rfl rfl
theorem DA(P:PL)(s:cG):aj Tryz.prog 210 [.ptr 0 0,cx (aP s)] 7 (lF P) 0 [.dv (B (decide (s.aM=-1)&&decide (s.times=0)))] (lF P):=by
 refine cO Tryz.func210 rfl (by kernel_rfl) ?_
 repeat refine gG ?_
 rw[show(decide (s.aM=-1)&&decide (s.times=0))=(bif s.aM== -1 then s.times==0 else false)by rw[aek];simp]
 exact ext (by kernel_rfl) rfl rfl
theorem n5(n:Int):aR Tryz.prog 230 [I n] [B (decide (1<=n)&&decide (n<=1048576))]:=by
 refine pO Tryz.func230 rfl (by kernel_rfl) rfl ?_
 repeat refine gG ?_
 refine⟨DV.Le.of_eq ?_,tv⟩
 cases decide (1<=n)<;>rfl
theorem Gy(P:PL)(s:cG):aj Tryz.prog 213 [.ptr 0 0,cx (aP s)] 7 (lF P) 0 [.dv (B (tw s))] (lF P):=by
 refine cO Tryz.func213 rfl (by kernel_rfl) ?_
 repeat refine gG ?_
 have lm:(s.mv.map aq).length=s.mv.length:=adO ..
 refine .inl ⟨_,fun _=>(n5 s.times).ok,?_⟩
 repeat refine gG ?_
 refine adN ?_ ?_
 ·intro h
  have hc:tw s=false:=by
   unfold tw
   rw[aeq]
   rintro⟨q1,q2,q3,q4,-⟩
   rw[lm]at h
   simp at h
   omega
  rw[hc]
  exact ext (by kernel_rfl) rfl rfl
 intro h
 have hc:s.aM=-1/\1<=s.times/\s.times<=1048576/\s.mv.length=2:=by
  rw[lm]at h
  simp at h
  omega
 obtain⟨c1,c2,c3,c4⟩:=hc
 obtain⟨a,ha⟩:∃a,s.mv[0]?=some a:=⟨_,ace (show 0<s.mv.length by omega)⟩
 obtain⟨b,hb⟩:∃b,s.mv[1]?=some b:=⟨_,ace (show 1<s.mv.length by omega)⟩
 have ia:(s.mv.map aq)[(0:Int).toNat]?=some (aq a):=by rw[adQ];exact congrArg (Option.map aq) ha
 have ib:(s.mv.map aq)[(1:Int).toNat]?=some (aq b):=by rw[adQ];exact congrArg (Option.map aq) hb
 have da:s.mv.getD 0 m0=a:=by rw[adT,ha];rfl
 have db:s.mv.getD 1 m0=b:=by rw[adT,hb];rfl
 refine⟨aq a,fun _=>⟨by omega,ia⟩,?_⟩
 repeat refine gG ?_
 refine⟨aq b,fun _=>⟨by omega,ib⟩,?_⟩
 repeat first|refine gG ?_|refine⟨fun _ h=>by omega,?_⟩|refine adN (fun _ h=>h) ?_|refine adN (fun h=>h) ?_
 refine adN (by kernel_rfl) ?_
 have hcv:tw s=(bif bif bif bif a.to==0 then b.fr==0 else false then a.fr==b.to else false then a.n.tmod s.times==0 else false then b.n.tmod s.times==0 else false):=by
  unfold tw
  rw[da,db,aek,BEq.comm (a:=a.fr)]
  simp[c1,c2,c3,c4,and_assoc]
 rw[hcv]
 repeat first|refine gG ?_|refine⟨fun _ h=>by omega,?_⟩
 exact ext (by kernel_rfl) rfl rfl
end
end Go.Proofs.YtfpebgpgabjieaaGreatDoor
