import Derived.Test.YtpbiiigpphehbaaGreatDoorFM42
import Derived.Test.YtpbiiigpphehbaaGreatDoorFM29
import Derived.Test.YtpbiiigpphehbaaGreatDoorFM41
import Derived.Test.YtpbiiigpphehbaaGreatDoorFM32
set_option linter.all false
namespace Go.Proofs.YtpbiiigpphehbaaGreatDoor
set_option maxRecDepth 100000
set_option maxHeartbeats 4000000
section
open Go.TM
theorem Dp:∀(s:List Lt) (n:Int) (i:Nat) (x:Lt),s[i]?=some x->(cg n s)[i]?=some (min (n-((cg n s).take i).sum) x.n)
 |y::r,n,0,x,h=>by simp at h;subst h;simp[cg]
 |y::r,n,i+1,x,h=>by
  have ih:=Dp r (n-min n y.n) i x (by simpa using h)
  simp only[cg,List.getElem?_cons_succ,List.take_succ_cons,List.sum_cons]
  rw[ih];congr 2;omega
theorem Dq:∀(s:List Lt) (n:Int),0<=n->(∀x∈s,0<=x.n)->∀i,0<=((cg n s).take i).sum/\((cg n s).take i).sum<=n
 |[],n,hn,_,i=>by simp[cg];exact hn
 |y::r,n,hn,h,0=>by simp;exact hn
 |y::r,n,hn,h,i+1=>by
  have hy:=h y abL
  have ih:=Dq r (n-min n y.n) (by omega) (fun x hx=>h x (abH _ hx)) i
  simp only[cg,List.take_succ_cons,List.sum_cons]
  omega
variable [bJ]
theorem Wj(z:ZZ)(x:Lt)(b:Bool)(h1:lB z.1)(h2:lB z.2)(hx:0<=x.n/\x.n<=1099511627776):eh Tryz.prog [cJ (aF x),.dv (B b)] 5 (zW 1 (F6 Tryz.f211) z) 0 fun r k=>r=[.dv (B true)]/\k=zW 1 (F6 Tryz.f211) (gf z (x,b)):=by
 refine A7 gx mixed rfl (by kernel_rfl) ?_
 cases b with
 |true=>
  refine aby (fun _=>?_) fun h=>by cases h
  refine .inr (cl [3] (u6 z.1 x h1 hx) (by kernel_rfl) rfl rfl ?_)
  exact ext (by kernel_rfl) rfl rfl
 |false=>
  refine aby (fun h=>by cases h) fun _=>?_
  refine .inr (cl [4] (u6 z.2 x h2 hx) (by kernel_rfl) rfl rfl ?_)
  exact ext (by kernel_rfl) rfl rfl
theorem zo(z:ZZ)(x:Lt)(b:Bool)(h1:lB z.1)(h2:lB z.2)(hx:0<=x.n/\x.n<=1099511627776):eh Tryz.prog [cJ (aF x),.dv (B b)] 5 (zW 0 (F6 Tryz.f211) z) 0 fun r k=>r=[.dv (B true)]/\k=zW 1 (F6 Tryz.f211) (gf z (x,b)):=
 kg 3 (kg 4 (Wj z x b h1 h2 hx) Dn.1) Dn.2
theorem zp{s:List Lt}{ks:List Int}{i:Nat}{x:Lt}{k:Int}(hx:s[i]?=some x)(hk:ks[i]?=some k):mo s ks (i+1)=gf (gf (mo s ks i) (⟨x.f,x.a,k⟩,true)) (⟨x.f,x.a+k,x.n-k⟩,false):=by
 have hz:(s.zip ks)[i]?=some (x,k):=by rw[List.getElem?_zip_eq_some];exact⟨hx,hk⟩
 unfold mo
 rw[abJ,hz,abZ]
 rfl
def Dr(s:List Lt)(ks:List Int):Prop:=∀(i:Nat) (x:Lt),s[i]?=some x->∃k,ks[i]?=some k/\0<=k/\k<=x.n
theorem II{s:List Lt}{ks:List Int}(hs:∀x∈s,aQ x=true)(hk:Dr s ks):∀i,i<=s.length->(∀y∈(mo s ks i).1,aQ y=true)/\(∀y∈(mo s ks i).2,aQ y=true)/\(mo s ks i).1.length<=i/\(mo s ks i).2.length<=i
 |0,_=>⟨fun _ h=>(by cases h),fun _ h=>(by cases h),ab3 _,ab3 _⟩
 |i+1,hi=>by
  obtain⟨h1,h2,h3,h4⟩:=II hs hk i (by omega)
  obtain⟨x,hx⟩:∃x,s[i]?=some x:=⟨_,aaa (by omega)⟩
  obtain⟨k,oP,Lm,hk3⟩:=hk i x hx
  have hb:=aw.1 (hs x (abC hx))
  rw[zp hx oP]
  have a1:=fj (mo s ks i).1 ⟨x.f,x.a,k⟩
  have a2:=fj (mo s ks i).2 ⟨x.f,x.a+k,x.n-k⟩
  exact⟨ic h1 (by dsimp only;omega),ic h2 (by dsimp only;omega),Nat.le_trans a1 (by omega),Nat.le_trans a2 (by omega)⟩
theorem BL{l:List Lt}{n:Nat}(h:∀y∈l,aQ y=true)(hl:l.length<=n)(hn:n<=100000):lB l:=⟨by omega,fun y hy=>by have:=aw.1 (h y hy);omega⟩
theorem SP(l:List Lt)(n:Int)(i:Nat)(x:Lt)(hx:l[i]?=some x)(hn:0<=n/\n<=1099511627776)(hxn:0<=x.n/\x.n<=1099511627776):aq Tryz.prog 229 [.dv (I i),.ptr 0 0,.ptr 1 0] 2 [(0,.cells [.dv (I n)]),(1,.cells [.dv (aS l)])] 0 [.dv (I (if x.n<n then x.n else n))] [(0,.cells [.dv (I (n-if x.n<n then x.n else n))]),(1,.cells [.dv (aS l)])]:=by
 have ix:(l.map aF)[(i:Int).toNat]?=some (aF x):=by rw[abB];simp[hx]
 have ov:-9223372036854775808<=n-(if x.n<n then x.n else n)/\n-(if x.n<n then x.n else n)<=9223372036854775807:=by split<;>omega
 refine cO Tryz.func229 rfl (by kernel_rfl) ?_
 refine⟨aF x,fun _=>⟨by omega,ix⟩,?_⟩
 refine⟨by kernel_rfl,fun _=>ov,?_⟩
 exact ext (by kernel_rfl) rfl rfl
theorem SQ(ks:List Int)(i:Nat)(k:Int)(hk:ks[i]?=some k):aq Tryz.prog 210 [.dv (I i),.ptr 0 0] 1 [(0,.cells [.dv (Ints ks)])] 0 [.dv (I k)] [(0,.cells [.dv (Ints ks)])]:=by
 have ix:(ks.map I)[(i:Int).toNat]?=some (I k):=by rw[abB];simp[hk]
 refine cO Tryz.func210 rfl (by kernel_rfl) ?_
 refine⟨I k,fun _=>⟨by omega,ix⟩,?_⟩
 exact ext (by kernel_rfl) rfl rfl
def ZC(rc:RC)(l:List Lt)(n:Int)(v i:Nat):ae:=[(0,.c5 rc .ready (((List.replicate 22 .any).set 4 (.ptr 1 0)).set 5 (.ptr 2 0))),(1,.cells [.own 7 v 0 []]),(2,.cells [.own 8 v 0 []]),(3,.cells [.dv (aS l)]),(4,.cells [.fn 229 [.ptr 5 0,.ptr 6 0]]),(5,.cells [.dv (I (n-((cg n l).take i).sum))]),(6,.cells [.dv (aS l)]),(7,.tree v 0 (.aB 3 ((mo l (cg n l) i).1.map aF))),(8,.tree v 0 (.aB 3 ((mo l (cg n l) i).2.map aF)))]
def k2F(rc:RC)(l:List Lt)(n:Int):ae:=[(0,.c5 rc .ready (((List.replicate 22 .any).set 4 (.ptr 1 0)).set 5 (.ptr 2 0))),(1,.cells [.own 7 1 0 []]),(2,.cells [.own 8 0 0 []]),(3,.cells [.dv (aS l)]),(4,.cells [.fn 229 [.ptr 5 0,.ptr 6 0]]),(5,.cells [.dv (I (n-((cg n l).take 0).sum))]),(6,.cells [.dv (aS l)]),(7,.tree 1 0 (.aB 3 [])),(8,.tree 0 0 (.aB 3 []))]
def k3F(rc:RC)(l:List Lt)(n:Int):ae:=[(0,.c5 rc .ready (((List.replicate 22 .any).set 4 (.ptr 1 0)).set 5 (.ptr 2 0))),(1,.cells [.own 7 0 0 []]),(2,.cells [.own 8 0 0 []]),(3,.cells [.dv (aS l)]),(4,.cells [.fn 229 [.ptr 5 0,.ptr 6 0]]),(5,.cells [.dv (I (n-((cg n l).take 0).sum))]),(6,.cells [.dv (aS l)]),(7,.tree 0 0 (.aB 3 [])),(8,.tree 0 0 (.aB 3 []))]
def k4F(rc:RC)(l:List Lt)(n:Int):ae:=[(0,.c5 rc .ready (((List.replicate 22 .any).set 4 (.ptr 1 0)).set 5 (.ptr 2 0))),(1,.cells [.own 7 0 0 []]),(2,.cells [.dv .az]),(3,.cells [.dv (aS l)]),(4,.cells [.fn 229 [.ptr 5 0,.ptr 6 0]]),(5,.cells [.dv (I (n-((cg n l).take 0).sum))]),(6,.cells [.dv (aS l)]),(7,.tree 0 0 (.aB 3 []))]
def k0F(rc:RC)(l:List Lt)(n:Int):ae:=[(0,.c5 rc .ready (((List.replicate 22 .any).set 4 (.ptr 1 0)).set 5 (.ptr 2 0))),(1,.cells [.dv .az]),(2,.cells [.dv .az]),(3,.cells [.dv (aS l)]),(4,.cells [.fn 229 [.ptr 5 0,.ptr 6 0]]),(5,.cells [.dv (I (n-((cg n l).take 0).sum))]),(6,.cells [.dv (aS l)])]
theorem ZD(rc:RC)(l:List Lt)(n:Int)(hl:∀x∈l,aQ x=true)(DQ:l.length<=5000)(hn:0<=n/\n<=1099511627776)(hk:Dr l (cg n l))
 (hY:∀(z:ZZ) (x:Lt) (b:Bool),lB z.1->lB z.2->0<=x.n/\x.n<=1099511627776->eh Tryz.prog [cJ (aF x),.dv (B b)] 5 (zW 0 rc z) 0 fun r k=>r=[.dv (B true)]/\k=zW 1 rc (gf z (x,b))):aq Tryz.prog 249 [.eP 0,.ptr 3 0,.ptr 4 0] 9 (ZC rc l n 1 0) 0 [] (ZC rc l n 1 l.length):=by
 refine cO Tryz.func249 rfl (by kernel_rfl) ?_
 have ll:(l.map aF).length=l.length:=abz ..
 refine⟨Nat,fun i=>⟨9,[(0,.eP 0),(1,.ptr 3 0),(2,.ptr 4 0),(7,.dv (aS l)),(8,.dv (I l.length)),(9,.dv (I i))],ZC rc l n 1 i⟩,fun i=>i<=l.length,fun i=>l.length-i,0,fun _=>rfl,jn (by simp only[ll];rfl) rfl rfl rfl,abO _,?_⟩
 rintro i hi
 refine aby (fun h=>?_) fun h=>?_
 ·have au:i<l.length:=by have:=abQ h;omega
  obtain⟨x,hx⟩:∃x,l[i]?=some x:=⟨_,aaa au⟩
  have ix:(l.map aF)[(i:Int).toNat]?=some (aF x):=by rw[abB];simp[hx]
  have LS:=aw.1 (hl x (abC hx))
  obtain⟨k,oP,Lm,hk3⟩:=hk i x hx
  obtain⟨z1,z2,z3,z4⟩:=II hl hk i hi
  have dQ:=zp hx oP
  have jP:=BL z1 z3 (by omega)
  have cd:=BL z2 z4 (by omega)
  have wO:lB (gf (mo l (cg n l) i) (⟨x.f,x.a,k⟩,true)).1:=BL (n:=i+1) (ic z1 (by dsimp only;omega)) (Nat.le_trans (fj (mo l (cg n l) i).1 ⟨x.f,x.a,k⟩) (by omega)) (by omega)
  refine⟨aF x,fun _=>⟨by omega,ix⟩,?_⟩
  have hkm:=Dp l n i x hx
  rw[oP]at hkm
  injection hkm with hkm
  have hr:0<=n-((cg n l).take i).sum/\n-((cg n l).take i).sum<=1099511627776:=by
   have h1:=(Dq l n hn.1 (fun y hy=>(by have:=aw.1 (hl y hy);omega)) i)
   omega
  have hke:k=if x.n<n-((cg n l).take i).sum then x.n else n-((cg n l).take i).sum:=by rw[hkm];split<;>omega
  have hsn:((cg n l).take (i+1)).sum=((cg n l).take i).sum+k:=by rw[abJ,oP];simp
  have YB:=SP l (n-((cg n l).take i).sum) i x hx hr (by omega)
  rw[<-hke]at YB
  have hre:n-((cg n l).take i).sum-k=n-((cg n l).take (i+1)).sum:=by omega
  rw[hre]at YB
  refine .inr (cl [5,6] YB (by kernel_rfl) rfl rfl ?_)
  refine .inl (Ua [0,1,2,7,8] (hY (mo l (cg n l) i) ⟨x.f,x.a,k⟩ true jP cd (by dsimp only;omega)) (by kernel_rfl) rfl rfl ?_)
  repeat first|apply g1|apply g2|apply g3|apply g4|apply g5
  refine⟨fun _=>⟨by omega,by omega⟩,?_⟩
  repeat first|apply g1|apply g2|apply g3|apply g4|apply g5
  refine⟨fun _=>⟨by omega,by omega⟩,?_⟩
  repeat first|apply g1|apply g2|apply g3|apply g4|apply g5
  refine .inl (Ua [0,1,2,7,8] (hY (gf (mo l (cg n l) i) (⟨x.f,x.a,k⟩,true)) ⟨x.f,x.a+k,x.n-k⟩ false wO cd (by dsimp only;omega)) (by kernel_rfl) rfl rfl ?_)
  refine⟨rfl,fun _=>rfl,fun _ _=>rfl,aby (fun h=>by cases h) fun _=>?_⟩
  exact⟨fun _=>⟨by omega,by omega⟩,i+1,jn rfl (by simp only[ZC,dQ];rfl) rfl rfl,au,mlt au⟩
 ·have he:i=l.length:=by have:=abR h;omega
  subst he
  exact ext (by kernel_rfl) rfl rfl
theorem Ml(rc:RC)(l:List Lt)(n:Int)(hl:∀x∈l,aQ x=true)(DQ:l.length<=5000)(hn:0<=n/\n<=1099511627776)(hk:Dr l (cg n l))
 (hY:∀(z:ZZ) (x:Lt) (b:Bool),lB z.1->lB z.2->0<=x.n/\x.n<=1099511627776->eh Tryz.prog [cJ (aF x),.dv (B b)] 5 (zW 0 rc z) 0 fun r k=>r=[.dv (B true)]/\k=zW 1 rc (gf z (x,b))):aq Tryz.prog 249 [.eP 0,.ptr 3 0,.ptr 4 0] 7 (k0F rc l n) 2 [] (ZC rc l n 1 l.length):=by
 have h1:=ZD rc l n hl DQ hn hk hY
 have h2:=cM 8 (K0:=k2F rc l n) h1 ⟨⟨_,rfl,rfl,fun j hj=>(by match j,hj with|0,_=>exact .refl _|1,_=>exact .refl _|2,_=>exact .cells (.rY .nil)|3,_=>exact .refl _|4,_=>exact .refl _|5,_=>exact .refl _|6,_=>exact .refl _|7,_=>exact .refl _|j+9,_=>exact .refl _)⟩,iS.refl _ _ _ _⟩
 have h3:=cM 7 (K0:=k3F rc l n) h2 ⟨⟨_,rfl,rfl,fun j hj=>(by match j,hj with|0,_=>exact .refl _|1,_=>exact .cells (.rY .nil)|2,_=>exact .refl _|3,_=>exact .refl _|4,_=>exact .refl _|5,_=>exact .refl _|6,_=>exact .refl _|8,_=>exact .refl _|j+9,_=>exact .refl _)⟩,iS.refl _ _ _ _⟩
 have h4:=jh (K2:=k4F rc l n) (args2:=[.eP 0,.ptr 3 0,.ptr 4 0]) h3 rfl rfl (fun j hj=>(by match j,hj with|0,_=>exact .inl ⟨rfl,rfl⟩|1,_=>exact .inl ⟨rfl,rfl⟩|2,_=>exact .inr ⟨_,_,rfl,rfl,.born .nil⟩|3,_=>exact .inl ⟨rfl,rfl⟩|4,_=>exact .inl ⟨rfl,rfl⟩|5,_=>exact .inl ⟨rfl,rfl⟩|6,_=>exact .inl ⟨rfl,rfl⟩|7,_=>exact .inl ⟨rfl,rfl⟩|j+9,_=>exact .inl ⟨rfl,rfl⟩)) (.same _ rfl (.same _ rfl (.same _ rfl .nil)))
 exact jh (K2:=k0F rc l n) (args2:=[.eP 0,.ptr 3 0,.ptr 4 0]) h4 rfl rfl (fun j hj=>(by match j,hj with|0,_=>exact .inl ⟨rfl,rfl⟩|1,_=>exact .inr ⟨_,_,rfl,rfl,.born .nil⟩|2,_=>exact .inl ⟨rfl,rfl⟩|3,_=>exact .inl ⟨rfl,rfl⟩|4,_=>exact .inl ⟨rfl,rfl⟩|5,_=>exact .inl ⟨rfl,rfl⟩|6,_=>exact .inl ⟨rfl,rfl⟩|j+8,_=>exact .inl ⟨rfl,rfl⟩)) (.same _ rfl (.same _ rfl (.same _ rfl .nil)))
theorem Ar(l:List Lt)(n:Int):aq Tryz.prog 235 [.dv (aS l),.fn 229 [.ptr 0 0,.ptr 1 0]] 2 [(0,.cells [.dv (I n)]),(1,.cells [.dv (aS l)])] 2 [.fn 249 [.ptr 2 0,.ptr 3 0]] [(0,.cells [.dv (I n)]),(1,.cells [.dv (aS l)]),(2,.cells [.dv (aS l)]),(3,.cells [.fn 229 [.ptr 0 0,.ptr 1 0]])]:=by
 refine cO Tryz.func235 rfl (by kernel_rfl) ?_
 exact ext (by kernel_rfl) rfl rfl
theorem IJ(l:List Lt)(n:Int)(hl:∀x∈l,aQ x=true)(DQ:l.length<=5000)(hn:0<=n/\n<=1099511627776)(hk:Dr l (cg n l)):aq Tryz.prog 211 [.dv (aS l),.fn 229 [.ptr 0 0,.ptr 1 0]] 2 [(0,.cells [.dv (I n)]),(1,.cells [.dv (aS l)])] 0 [.dv (aS (mo l (cg n l) l.length).1),.dv (aS (mo l (cg n l) l.length).2)] [(0,.cells [.dv (I (n-((cg n l).take l.length).sum))]),(1,.cells [.dv (aS l)])]:=by
 refine cO Tryz.func211 rfl (by kernel_rfl) ?_
 have hi:=Ml (F6 Tryz.f211) l n hl DQ hn hk fun z x b a1 a2 a3=>zo z x b a1 a2 a3
 refine .inr (cl [0,1] (Ar l n) (by kernel_rfl) rfl rfl ?_)
 refine⟨F6 Tryz.f211,by kernel_rfl,?_⟩
 refine⟨[6,2,3,4,5,0,1],[.eP 0,.ptr 3 0,.ptr 4 0],k0F (F6 Tryz.f211) l n,2,_,hi,by kernel_rfl,⟨rfl,rfl,rfl,tv⟩,⟨⟨rfl,rfl,?_⟩,⟨rf,tv⟩,⟨rf,tv⟩,⟨rf,tv⟩,⟨⟨rfl,rfl,rfl,tv⟩,tv⟩,⟨aG (by simp),tv⟩,⟨rf,tv⟩,tv⟩,?_⟩
 ·exact mV (by kernel_rfl)
 rintro rs K2 ⟨rfl,rfl⟩
 refine⟨by kernel_rfl,?_⟩
 conv=>whnf
 exact⟨by kernel_rfl,_,_,⟨rfl,rfl⟩,by kernel_rfl,⟨rS _,rS _,tv⟩,⟨rf,tv⟩,⟨rf,tv⟩,tv⟩
def ZE(rc:RC)(l:List Lt)(ks:List Int)(v i:Nat):ae:=[(0,.c5 rc .ready (((List.replicate 22 .any).set 4 (.ptr 1 0)).set 5 (.ptr 2 0))),(1,.cells [.own 6 v 0 []]),(2,.cells [.own 7 v 0 []]),(3,.cells [.dv (aS l)]),(4,.cells [.fn 210 [.ptr 5 0]]),(5,.cells [.dv (Ints ks)]),(6,.tree v 0 (.aB 3 ((mo l (ks) i).1.map aF))),(7,.tree v 0 (.aB 3 ((mo l (ks) i).2.map aF)))]
def k2S(rc:RC)(l:List Lt)(ks:List Int):ae:=[(0,.c5 rc .ready (((List.replicate 22 .any).set 4 (.ptr 1 0)).set 5 (.ptr 2 0))),(1,.cells [.own 6 1 0 []]),(2,.cells [.own 7 0 0 []]),(3,.cells [.dv (aS l)]),(4,.cells [.fn 210 [.ptr 5 0]]),(5,.cells [.dv (Ints ks)]),(6,.tree 1 0 (.aB 3 [])),(7,.tree 0 0 (.aB 3 []))]
def k3S(rc:RC)(l:List Lt)(ks:List Int):ae:=[(0,.c5 rc .ready (((List.replicate 22 .any).set 4 (.ptr 1 0)).set 5 (.ptr 2 0))),(1,.cells [.own 6 0 0 []]),(2,.cells [.own 7 0 0 []]),(3,.cells [.dv (aS l)]),(4,.cells [.fn 210 [.ptr 5 0]]),(5,.cells [.dv (Ints ks)]),(6,.tree 0 0 (.aB 3 [])),(7,.tree 0 0 (.aB 3 []))]
def k4S(rc:RC)(l:List Lt)(ks:List Int):ae:=[(0,.c5 rc .ready (((List.replicate 22 .any).set 4 (.ptr 1 0)).set 5 (.ptr 2 0))),(1,.cells [.own 6 0 0 []]),(2,.cells [.dv .az]),(3,.cells [.dv (aS l)]),(4,.cells [.fn 210 [.ptr 5 0]]),(5,.cells [.dv (Ints ks)]),(6,.tree 0 0 (.aB 3 []))]
def k0S(rc:RC)(l:List Lt)(ks:List Int):ae:=[(0,.c5 rc .ready (((List.replicate 22 .any).set 4 (.ptr 1 0)).set 5 (.ptr 2 0))),(1,.cells [.dv .az]),(2,.cells [.dv .az]),(3,.cells [.dv (aS l)]),(4,.cells [.fn 210 [.ptr 5 0]]),(5,.cells [.dv (Ints ks)])]
theorem ZF(rc:RC)(l:List Lt)(ks:List Int)(hl:∀x∈l,aQ x=true)(DQ:l.length<=5000)(hk:Dr l (ks))
 (hY:∀(z:ZZ) (x:Lt) (b:Bool),lB z.1->lB z.2->0<=x.n/\x.n<=1099511627776->eh Tryz.prog [cJ (aF x),.dv (B b)] 5 (zW 0 rc z) 0 fun r k=>r=[.dv (B true)]/\k=zW 1 rc (gf z (x,b))):aq Tryz.prog 249 [.eP 0,.ptr 3 0,.ptr 4 0] 8 (ZE rc l ks 1 0) 0 [] (ZE rc l ks 1 l.length):=by
 refine cO Tryz.func249 rfl (by kernel_rfl) ?_
 have ll:(l.map aF).length=l.length:=abz ..
 refine⟨Nat,fun i=>⟨8,[(0,.eP 0),(1,.ptr 3 0),(2,.ptr 4 0),(7,.dv (aS l)),(8,.dv (I l.length)),(9,.dv (I i))],ZE rc l ks 1 i⟩,fun i=>i<=l.length,fun i=>l.length-i,0,fun _=>rfl,jn (by simp only[ll];rfl) rfl rfl rfl,abO _,?_⟩
 rintro i hi
 refine aby (fun h=>?_) fun h=>?_
 ·have au:i<l.length:=by have:=abQ h;omega
  obtain⟨x,hx⟩:∃x,l[i]?=some x:=⟨_,aaa au⟩
  have ix:(l.map aF)[(i:Int).toNat]?=some (aF x):=by rw[abB];simp[hx]
  have LS:=aw.1 (hl x (abC hx))
  obtain⟨k,oP,Lm,hk3⟩:=hk i x hx
  obtain⟨z1,z2,z3,z4⟩:=II hl hk i hi
  have dQ:=zp hx oP
  have jP:=BL z1 z3 (by omega)
  have cd:=BL z2 z4 (by omega)
  have wO:lB (gf (mo l (ks) i) (⟨x.f,x.a,k⟩,true)).1:=BL (n:=i+1) (ic z1 (by dsimp only;omega)) (Nat.le_trans (fj (mo l (ks) i).1 ⟨x.f,x.a,k⟩) (by omega)) (by omega)
  refine⟨aF x,fun _=>⟨by omega,ix⟩,?_⟩
  refine .inr (cl [5] (SQ ks i k oP) (by kernel_rfl) rfl rfl ?_)
  refine .inl (Ua [0,1,2,6,7] (hY (mo l (ks) i) ⟨x.f,x.a,k⟩ true jP cd (by dsimp only;omega)) (by kernel_rfl) rfl rfl ?_)
  repeat first|apply g1|apply g2|apply g3|apply g4|apply g5
  refine⟨fun _=>⟨by omega,by omega⟩,?_⟩
  repeat first|apply g1|apply g2|apply g3|apply g4|apply g5
  refine⟨fun _=>⟨by omega,by omega⟩,?_⟩
  repeat first|apply g1|apply g2|apply g3|apply g4|apply g5
  refine .inl (Ua [0,1,2,6,7] (hY (gf (mo l (ks) i) (⟨x.f,x.a,k⟩,true)) ⟨x.f,x.a+k,x.n-k⟩ false wO cd (by dsimp only;omega)) (by kernel_rfl) rfl rfl ?_)
  refine⟨rfl,fun _=>rfl,fun _ _=>rfl,aby (fun h=>by cases h) fun _=>?_⟩
  exact⟨fun _=>⟨by omega,by omega⟩,i+1,jn rfl (by simp only[ZE,dQ];rfl) rfl rfl,au,mlt au⟩
 ·have he:i=l.length:=by have:=abR h;omega
  subst he
  exact ext (by kernel_rfl) rfl rfl
theorem Mm(rc:RC)(l:List Lt)(ks:List Int)(hl:∀x∈l,aQ x=true)(DQ:l.length<=5000)(hk:Dr l (ks))
 (hY:∀(z:ZZ) (x:Lt) (b:Bool),lB z.1->lB z.2->0<=x.n/\x.n<=1099511627776->eh Tryz.prog [cJ (aF x),.dv (B b)] 5 (zW 0 rc z) 0 fun r k=>r=[.dv (B true)]/\k=zW 1 rc (gf z (x,b))):aq Tryz.prog 249 [.eP 0,.ptr 3 0,.ptr 4 0] 6 (k0S rc l ks) 2 [] (ZE rc l ks 1 l.length):=by
 have h1:=ZF rc l ks hl DQ hk hY
 have h2:=cM 7 (K0:=k2S rc l ks) h1 ⟨⟨_,rfl,rfl,fun j hj=>(by match j,hj with|0,_=>exact .refl _|1,_=>exact .refl _|2,_=>exact .cells (.rY .nil)|3,_=>exact .refl _|4,_=>exact .refl _|5,_=>exact .refl _|6,_=>exact .refl _|j+8,_=>exact .refl _)⟩,iS.refl _ _ _ _⟩
 have h3:=cM 6 (K0:=k3S rc l ks) h2 ⟨⟨_,rfl,rfl,fun j hj=>(by match j,hj with|0,_=>exact .refl _|1,_=>exact .cells (.rY .nil)|2,_=>exact .refl _|3,_=>exact .refl _|4,_=>exact .refl _|5,_=>exact .refl _|7,_=>exact .refl _|j+8,_=>exact .refl _)⟩,iS.refl _ _ _ _⟩
 have h4:=jh (K2:=k4S rc l ks) (args2:=[.eP 0,.ptr 3 0,.ptr 4 0]) h3 rfl rfl (fun j hj=>(by match j,hj with|0,_=>exact .inl ⟨rfl,rfl⟩|1,_=>exact .inl ⟨rfl,rfl⟩|2,_=>exact .inr ⟨_,_,rfl,rfl,.born .nil⟩|3,_=>exact .inl ⟨rfl,rfl⟩|4,_=>exact .inl ⟨rfl,rfl⟩|5,_=>exact .inl ⟨rfl,rfl⟩|6,_=>exact .inl ⟨rfl,rfl⟩|j+8,_=>exact .inl ⟨rfl,rfl⟩)) (.same _ rfl (.same _ rfl (.same _ rfl .nil)))
 exact jh (K2:=k0S rc l ks) (args2:=[.eP 0,.ptr 3 0,.ptr 4 0]) h4 rfl rfl (fun j hj=>(by match j,hj with|0,_=>exact .inl ⟨rfl,rfl⟩|1,_=>exact .inr ⟨_,_,rfl,rfl,.born .nil⟩|2,_=>exact .inl ⟨rfl,rfl⟩|3,_=>exact .inl ⟨rfl,rfl⟩|4,_=>exact .inl ⟨rfl,rfl⟩|5,_=>exact .inl ⟨rfl,rfl⟩|j+7,_=>exact .inl ⟨rfl,rfl⟩)) (.same _ rfl (.same _ rfl (.same _ rfl .nil)))
theorem As(l:List Lt)(ks:List Int):aq Tryz.prog 235 [.dv (aS l),.fn 210 [.ptr 0 0]] 1 [(0,.cells [.dv (Ints ks)])] 2 [.fn 249 [.ptr 1 0,.ptr 2 0]] [(0,.cells [.dv (Ints ks)]),(1,.cells [.dv (aS l)]),(2,.cells [.fn 210 [.ptr 0 0]])]:=by
 refine cO Tryz.func235 rfl (by kernel_rfl) ?_
 exact ext (by kernel_rfl) rfl rfl
theorem IK(l:List Lt)(ks:List Int)(hl:∀x∈l,aQ x=true)(DQ:l.length<=5000)(hk:Dr l (ks)):aq Tryz.prog 211 [.dv (aS l),.fn 210 [.ptr 0 0]] 1 [(0,.cells [.dv (Ints ks)])] 0 [.dv (aS (mo l (ks) l.length).1),.dv (aS (mo l (ks) l.length).2)] [(0,.cells [.dv (Ints ks)])]:=by
 refine cO Tryz.func211 rfl (by kernel_rfl) ?_
 have hi:=Mm (F6 Tryz.f211) l ks hl DQ hk fun z x b a1 a2 a3=>zo z x b a1 a2 a3
 refine .inr (cl [0] (As l ks) (by kernel_rfl) rfl rfl ?_)
 refine⟨F6 Tryz.f211,by kernel_rfl,?_⟩
 refine⟨[5,1,2,3,4,0],[.eP 0,.ptr 3 0,.ptr 4 0],k0S (F6 Tryz.f211) l ks,2,_,hi,by kernel_rfl,⟨rfl,rfl,rfl,tv⟩,⟨⟨rfl,rfl,?_⟩,⟨rf,tv⟩,⟨rf,tv⟩,⟨rf,tv⟩,⟨⟨rfl,rfl,tv⟩,tv⟩,⟨rf,tv⟩,tv⟩,?_⟩
 ·exact mV (by kernel_rfl)
 rintro rs K2 ⟨rfl,rfl⟩
 refine⟨by kernel_rfl,?_⟩
 conv=>whnf
 exact⟨by kernel_rfl,_,_,⟨rfl,rfl⟩,by kernel_rfl,⟨rS _,rS _,tv⟩,⟨rf,tv⟩,tv⟩
end
section
open Go.TM
variable [bJ]
theorem kA(s:List Lt)(x:Lt)(hs:ca s=true)(hx:aQ x=true):aO Tryz.prog 97 [aS s,aF x] [aS (bj s x)]:=by
 obtain⟨h1,h2⟩:=hZ hs
 have LS:=aw.1 hx
 refine pO Tryz.func97 rfl (by kernel_rfl) rfl ?_
 refine .inl ⟨_,fun _=>(ku s (by omega)).ok,?_⟩
 repeat first|apply g1|apply g2|apply g3|apply g4|apply g5
 refine .inl ⟨_,fun _=>(Bs x).ok,?_⟩
 rw[hs,hx]
 repeat first|apply g1|apply g2|apply g3|apply g4|apply g5
 refine aby (fun h=>by cases h) fun _=>?_
 refine .inr (cl [] (eY s (by omega)) (by kernel_rfl) rfl rfl ?_)
 refine .inr (cl [1] (u6 s x ⟨by omega,fun y hy=>by have:=aw.1 (h2 y hy);omega⟩ (by omega)) (by kernel_rfl) rfl rfl ?_)
 exact⟨by kernel_rfl,rS _,tv⟩
theorem vW(l:List Lt)(n:Int):aq Tryz.prog 208 [.dv (aS l),.dv (I n)] 0 [] 2 [.fn 229 [.ptr 1 0,.ptr 0 0]] [(0,.cells [.dv (aS l)]),(1,.cells [.dv (I n)])]:=by
 refine cO Tryz.func208 rfl (by kernel_rfl) ?_
 exact ext (by kernel_rfl) rfl rfl
theorem F9(s:List Lt)(n:Int)(mx:Bool)(hs:ca s=true)(hn:0<=n/\n<=1099511627776)(hc:bQ s<n):aO Tryz.prog 193 [aS s,I n,B mx] [aS [],aS [],I 10]:=by
 obtain⟨h1,h2⟩:=hZ hs
 refine pO Tryz.func193 rfl (by kernel_rfl) rfl ?_
 refine .inl ⟨_,fun _=>(ku s (by omega)).ok,?_⟩
 rw[hs]
 repeat first|apply g1|apply g2|apply g3|apply g4|apply g5
 refine aby (fun h=>?_) fun _=>?_
 ·simp[bw]at h;omega
 refine .inl ⟨_,fun _=>(qg s (by omega)).ok,?_⟩
 refine aby (fun _=>?_) fun h=>absurd hc (abR h)
 exact⟨DV.aL 3,DV.aL 3,rf,tv⟩
theorem Wk{s:List Lt}{n:Int}(hs:∀x∈s,aQ x=true)(hn:0<=n):Dr s (cg n s):=fun i x hx=>by
 have h1:=Dp s n i x hx
 have h2:=Dq s n hn (fun y hy=>by have:=aw.1 (hs y hy);omega) i
 have:=aw.1 (hs x (abC hx))
 exact⟨_,h1,by omega,by omega⟩
theorem Ga(s:List Lt)(n:Int)(mx:Bool)(hs:ca s=true)(hn:0<=n/\n<=1099511627776)(hc:¬bQ s<n)(Uc:(mx&&decide (0<n))=false):aO Tryz.prog 193 [aS s,I n,B mx] [aS (gj s n mx).1,aS (gj s n mx).2,I 0]:=by
 obtain⟨h1,h2⟩:=hZ hs
 have ecn:qq s n mx=cg n s:=by unfold qq;rw[Uc];rfl
 refine pO Tryz.func193 rfl (by kernel_rfl) rfl ?_
 refine .inl ⟨_,fun _=>(ku s (by omega)).ok,?_⟩
 rw[hs]
 repeat first|apply g1|apply g2|apply g3|apply g4|apply g5
 refine aby (fun h=>?_) fun _=>?_
 ·simp[bw]at h;omega
 refine .inl ⟨_,fun _=>(qg s (by omega)).ok,?_⟩
 refine aby (fun h=>absurd (abQ h) hc) fun _=>?_
 refine .inr (cl [] (vW s n) (by kernel_rfl) rfl rfl ?_)
 repeat first|apply g1|apply g2|apply g3|apply g4|apply g5
 refine aby (fun h=>?_) fun _=>?_
 ·have h:=dV h
  rw[h.1]at Uc
  have:=h.2
  rw[this]at Uc;cases Uc
 have hd:=IJ s n h2 (by omega) hn (Wk h2 hn.1)
 refine .inr (cl [1,0] hd (by kernel_rfl) rfl rfl ?_)
 unfold gj
 rw[ecn]
 exact⟨rf,rf,rf,tv⟩
def wI(l:List Int)(i:Nat):List Int:=l.take i++List.replicate (l.length-i) 0
theorem P5(l:List Int)(i:Nat)(h:i<=l.length):(wI l i).length=l.length:=by simp[wI];omega
theorem Mn{l:List Int}{i:Nat}{x:Int}(h:l[i]?=some x):(wI l i).set i x=wI l (i+1):=by
 have hi:=(abA.1 h).1
 unfold wI
 have:l.length-i=(l.length-(i+1))+1:=by omega
 rw[List.set_append,if_neg (by rw[abU];omega),abJ,h,this,List.replicate_succ]
 simp[Nat.min_eq_left (Nat.le_of_lt hi)]
theorem P6{l:List Int}{i:Nat}(h:i<l.length):(wI l i)[i]?=some 0:=by
 unfold wI
 rw[List.getElem?_append_right (by rw[abU];omega),List.getElem?_replicate,if_pos (by simp;omega)]
theorem KA(l:List Int):(oo (.aB 1 (l.map I))).Le (Ints l):=DV.Le.of_eq (by
 show DV.sl 1 (w8 (l.map I))=_
 rw[fE (fun _=>rfl)])
theorem Wl{s:List Lt}{n:Int}(hs:∀x∈s,aQ x=true)(hn:0<=n)(Wm:0<(s.map (·.n)).sum)(hle:n<=(s.map (·.n)).sum):Dr s (zT n (s.map (·.n))):=fun i x hx=>by
 have hi:i<(s.map (·.n)).length:=by rw[abz];exact(abA.1 hx).1
 have hb:=TZ hn (fun w hw=>by obtain⟨y,hy,rfl⟩:=ab1.1 hw;have:=aw.1 (hs y hy);omega) Wm hle hi
 have hl:i<(zT n (s.map (·.n))).length:=by rw[Ka];exact hi
 have T8:(s.map (·.n)).getD i 0=x.n:=by rw[abE,abB,hx];rfl
 rw[T8]at hb
 generalize zT n (s.map (·.n))=ks at*
 refine⟨ks.getD i 0,?_,hb.1,hb.2⟩
 rw[abE,aaa hl];rfl
theorem Gb(s:List Lt)(n:Int)(hs:ca s=true)(hn:0<n/\n<=1099511627776)(hc:¬bQ s<n)(l6:aO Tryz.prog 209 [I n,Ints (s.map (·.n))] [Ints (zT n (s.map (·.n))),I 0]):aO Tryz.prog 193 [aS s,I n,B true] [aS (gj s n true).1,aS (gj s n true).2,I 0]:=by
 obtain⟨h1,h2⟩:=hZ hs
 have GK:bQ s=(s.map (·.n)).sum:=by unfold bQ;rw[hs];rfl
 have ecn:qq s n true=zT n (s.map (·.n)):=by unfold qq;rw[abW hn.1];rfl
 have ll:(s.map aF).length=s.length:=abz ..
 have lw:(s.map (·.n)).length=s.length:=abz ..
 refine pO Tryz.func193 rfl (by kernel_rfl) rfl ?_
 refine .inl ⟨_,fun _=>(ku s (by omega)).ok,?_⟩
 rw[hs]
 repeat first|apply g1|apply g2|apply g3|apply g4|apply g5
 refine aby (fun h=>?_) fun _=>?_
 ·simp[bw]at h;omega
 refine .inl ⟨_,fun _=>(qg s (by omega)).ok,?_⟩
 refine aby (fun h=>absurd (abQ h) hc) fun _=>?_
 refine .inr (cl [] (vW s n) (by kernel_rfl) rfl rfl ?_)
 repeat first|apply g1|apply g2|apply g3|apply g4|apply g5
 refine aby (fun _=>?_) fun h=>?_
 ·refine⟨I 0,⟨rf,tv⟩,by omega,by omega,?_,by omega,false,(fun h=>by cases h),?_⟩
  ·rw[show(nth j4 (nth j4 22).elem).bytes=8 by kernel_rfl];omega
  have e0:List.replicate (((s.map aF).length:Int)).toNat (I 0)=(wI (s.map (·.n)) 0).map I:=by unfold wI;simp
  rw[e0]
  refine⟨Nat,fun i=>⟨3,[(0,.dv (aS s)),(1,.dv (I n)),(10,.own 2 0 0 []),(43,.dv (aS s)),(44,.dv (I s.length)),(45,.dv (I i))],[(2,.tree 0 0 (.aB 1 ((wI (s.map (·.n)) i).map I)))]⟩,fun i=>i<=s.length,fun i=>s.length-i,0,fun _=>rfl,jn (by simp only[ll];rfl) rfl rfl rfl,abO _,?_⟩
  rintro i hi
  refine aby (fun h=>?_) fun h=>?_
  ·have au:i<s.length:=by have:=abQ h;omega
   obtain⟨x,hx⟩:∃x,s[i]?=some x:=⟨_,aaa au⟩
   have ix:(s.map aF)[(i:Int).toNat]?=some (aF x):=by rw[abB];simp[hx]
   have hwx:(s.map (·.n))[i]?=some x.n:=by rw[abB,hx];rfl
   have dQ:=Mn hwx
   have oe:=P5 (s.map (·.n)) i (by omega)
   refine⟨aF x,fun _=>⟨by omega,ix⟩,?_⟩
   refine⟨fun _=>⟨by omega,by rw[abz,oe,lw];omega⟩,[I x.n],⟨rf,tv⟩,I 0,by rw[abB];simp[P6 (show i<(s.map (·.n)).length by rw[lw];exact au)],?_⟩
   exact⟨fun _=>⟨by omega,by omega⟩,i+1,jn rfl (by simp only[<-dQ,List.map_set];rfl) rfl rfl,au,mlt au⟩
  ·have he:i=s.length:=by have:=abR h;omega
   subst he
   have IE:wI (s.map (·.n)) s.length=s.map (·.n):=by unfold wI;rw[<-lw,abP];simp
   rw[IE]
   refine .inl (.inr ⟨_,fun _=>⟨[I n,Ints (s.map (·.n))],⟨rf,KA _,tv⟩,l6⟩,?_⟩)
   refine aby (fun h=>by cases h) fun _=>?_
   have hd:=IK s (zT n (s.map (·.n))) h2 (by omega) (Wl h2 (by omega) (by omega) (by omega))
   refine .inr (cl [3] hd (by kernel_rfl) rfl rfl ?_)
   unfold gj
   rw[ecn]
   exact⟨rf,rf,rf,tv⟩
 ·exact absurd ⟨rfl,abW hn.1⟩ (lQ h)
def n0:Prop:=∀(t:Int) (ws:List Int),0<=t/\t<=1099511627776->(∀w∈ws,0<=w/\w<=1099511627776)->ws.length<=5000->0<ws.sum->t<=ws.sum->aO Tryz.prog 209 [I t,Ints ws] [Ints (zT t ws),I 0]
theorem zq(hS:n0)(s:List Lt)(n:Int)(mx:Bool)(hn:0<=n/\n<=1099511627776)(hs:ca s=true):aO Tryz.prog 193 [aS s,I n,B mx] (FI s n mx):=by
 unfold FI
 by_cases hc:bQ s<n
 ·rw[abW hc];exact F9 s n mx hs hn hc
 ·rw[abX hc]
  cases Uc:mx&&decide (0<n)with
  |false=>exact Ga s n mx hs hn hc Uc
  |true=>
   simp only[aca,decide_eq_true_eq]at Uc
   obtain⟨rfl,Wh⟩:=Uc
   obtain⟨h1,h2⟩:=hZ hs
   have GK:bQ s=(s.map (·.n)).sum:=by unfold bQ;rw[hs];rfl
   exact Gb s n hs ⟨Wh,hn.2⟩ hc (hS n _ hn (fun w hw=>by obtain⟨y,hy,rfl⟩:=ab1.1 hw;exact lR (h2 y hy)) (by rw[abz];omega) (by omega) (by omega))
end
section
open Go.TM
def frN(k:Int):Nat:=if k=0\/k=5 then 153 else if k=4\/k=10\/k=9 then 156 else 154
def toN(k:Int):Nat:=if k=1\/k=6 then 153 else if k=4\/k=10\/k=7 then 156 else 154
def whN(k:Int):Nat:=if k=4 then 157 else if k=10 then 158 else 155
def Wn(k:Int):DV:=.agg [.fn (frN k) [],.fn (toN k) [],.bool (mc k),.fn (whN k) []]
def Ds(k a:Int):Bool:=if k=0\/k=5 then a==0 else if k=4\/k=10\/k=9 then true else a !=0
def Dt(k a:Int):Bool:=if k=1\/k=6 then a==0 else if k=4\/k=10\/k=7 then true else a !=0
theorem kinds{k:Int}(h:0<=k/\k<=10):k=0\/k=1\/k=2\/k=3\/k=4\/k=5\/k=6\/k=7\/k=8\/k=9\/k=10:=by omega
variable [bJ]
theorem tw(a:Int):aO Tryz.prog 153 [I a] [B (a==0)]:=by
 refine pO Tryz.func153 rfl (by kernel_rfl) rfl ?_
 exact⟨rf,tv⟩
theorem tx(a:Int):aO Tryz.prog 154 [I a] [B (a !=0)]:=by
 refine pO Tryz.func154 rfl (by kernel_rfl) rfl ?_
 exact⟨rf,tv⟩
theorem zr(a:Int):aO Tryz.prog 156 [I a] [B true]:=by
 refine pO Tryz.func156 rfl (by kernel_rfl) rfl ?_
 exact⟨rf,tv⟩
theorem SR(k a:Int):aO Tryz.prog (frN k) [I a] [B (Ds k a)]:=by
 unfold frN Ds
 split
 ·exact tw a
 split
 ·exact zr a
 ·exact tx a
theorem SS(k a:Int):aO Tryz.prog (toN k) [I a] [B (Dt k a)]:=by
 unfold toN Dt
 split
 ·exact tw a
 split
 ·exact zr a
 ·exact tx a
theorem lh(a:Int):aO Tryz.prog 90 [I a] [B (decide (0<=a)&&decide (a<=1073741824))]:=by
 refine pO Tryz.func90 rfl (by kernel_rfl) rfl ?_
 repeat first|apply g1|apply g2|apply g3|apply g4|apply g5
 refine⟨DV.Le.of_eq ?_,tv⟩
 cases decide (0<=a)<;>rfl
theorem BM(k:Int)(h:0<=k/\k<=10):aO Tryz.prog 89 [I k] [Wn k,B true]:=by
 rcases kinds h with rfl|rfl|rfl|rfl|rfl|rfl|rfl|rfl|rfl|rfl|rfl
 all_goals
  refine pO Tryz.func89 rfl (by kernel_rfl) rfl ?_
  repeat first|refine aby (fun h=>absurd h (by decide)) fun _=>?_|refine aby (fun _=>?_) fun h=>absurd h (by decide)
  exact⟨rf,rf,tv⟩
theorem IL(k:Int)(h:¬(0<=k/\k<=10)):aO Tryz.prog 89 [I k] [.agg [.jo,.jo,B false,.jo],B false]:=by
 have hk:∀n:Int,0<=n/\n<=10->¬(k==n)=true:=fun n hn he=>by have:=beq_iff_eq.1 he;omega
 refine pO Tryz.func89 rfl (by kernel_rfl) rfl ?_
 repeat refine aby (fun h=>absurd h (hk _ (by decide))) fun _=>?_
 exact⟨rf,rf,tv⟩
def rT(k:Int)(m:dX):Bool:=BF m (mc k)&&(Ds k m.fr&&Dt k m.to)
theorem P7(k:Int)(m:dX)(L:Int)(hL:L=5):(bif bif bif bif bif bif bif bif decide (m.it<0)then true else decide (L<=m.it)then true else decide (m.n<1)then true else decide (1099511627776<m.n)then true else !(decide (0<=m.fr)&&decide (m.fr<=1073741824))then true else !(decide (0<=m.to)&&decide (m.to<=1073741824))then true else m.fr==m.to then true else !Ds k m.fr then true else !Dt k m.to)=!(fV m&&(Ds k m.fr&&Dt k m.to)):=by
 subst hL
 generalize Ds k m.fr=x
 generalize Dt k m.to=y
 rw[ab5]
 cases x<;>cases y<;>simp[fV]<;>omega
theorem mP(P:PL)(m:dX)(k:Int)(hl:m.ps.length<=4000):aq Tryz.prog 91 [.ptr 0 0,cJ (ak m),cJ (Wn k)] 7 (fG P) 0 [.dv (B (rT k m))] (fG P):=by
 refine cO Tryz.func91 rfl (by kernel_rfl) ?_
 repeat first|apply g1|apply g2|apply g3|apply g4|apply g5
 refine .inl ⟨_,fun _=>(lh m.fr).ok,?_⟩
 repeat first|apply g1|apply g2|apply g3|apply g4|apply g5
 refine .inl ⟨_,fun _=>(lh m.to).ok,?_⟩
 repeat first|apply g1|apply g2|apply g3|apply g4|apply g5
 refine .inl ⟨_,fun _=>(SR k m.fr).ok,?_⟩
 refine .inl ?_
 repeat first|apply g1|apply g2|apply g3|apply g4|apply g5
 refine .inl ⟨_,fun _=>(SS k m.to).ok,?_⟩
 refine .inl ?_
 repeat first|apply g1|apply g2|apply g3|apply g4|apply g5
 refine aby (by kernel_rfl) ?_
 refine aby (fun h=>?_) fun h=>aby (fun hs=>?_) fun hs=>?_
 ·have h:=(P7 k m _ rfl).symm.trans h
  have h:(fV m&&(Ds k m.fr&&Dt k m.to))=false:=by cases hh:(fV m&&(Ds k m.fr&&Dt k m.to));rfl;rw[hh]at h;cases h
  have e:rT k m=false:=by
   unfold rT BF
   generalize fV m=x at h⊢
   generalize (Ds k m.fr&&Dt k m.to)=y at h⊢
   cases x<;>cases y<;>simp_all
  rw[e]
  exact ext (by kernel_rfl) rfl rfl
 ·have h:=(P7 k m _ rfl).symm.trans h
  have h:(fV m&&(Ds k m.fr&&Dt k m.to))=true:=by cases hh:(fV m&&(Ds k m.fr&&Dt k m.to));rw[hh]at h;cases h;rfl
  have hs:mc k=false:=by simpa using hs
  have e:rT k m=((m.ps.map aF).length==(0:Int)):=by
   unfold rT BF
   rw[hs]
   rw[aca]at h
   rw[h.1,h.2]
   cases m.ps<;>simp<;>omega
  rw[e]
  exact ext (by kernel_rfl) rfl rfl
 have h:=(P7 k m _ rfl).symm.trans h
 have h:(fV m&&(Ds k m.fr&&Dt k m.to))=true:=by cases hh:(fV m&&(Ds k m.fr&&Dt k m.to));rw[hh]at h;cases h;rfl
 have hs:mc k=true:=by simpa using hs
 rw[aca]at h
 have e:rT k m=(ca m.ps&&decide (bQ m.ps=m.n)&&decide (bQ (nV m.ps)=m.n)):=by
  unfold rT BF
  rw[hs,h.1,h.2];simp
 rw[e]
 have Xj:=ku m.ps (by omega)
 cases hv:ca m.ps with
 |false=>
  rw[hv]at Xj
  refine .inl ⟨_,fun _=>Xj.ok,?_⟩
  repeat first|apply g1|apply g2|apply g3|apply g4|apply g5
  refine .inl ⟨[I 0],fun h=>(by cases h),?_⟩
  repeat first|apply g1|apply g2|apply g3|apply g4|apply g5
  refine .inl ⟨[aS []],fun h=>(by cases h),?_⟩
  repeat first|apply g1|apply g2|apply g3|apply g4|apply g5
  refine .inl ⟨[I 0],fun h=>(by cases h),?_⟩
  repeat first|apply g1|apply g2|apply g3|apply g4|apply g5
  refine⟨by kernel_rfl,?_⟩
  refine ext (by kernel_rfl) rfl rfl
 |true=>
  rw[hv]at Xj
  have hn:=fun x hx=>lR ((hZ hv).2 x hx)
  refine .inl ⟨_,fun _=>Xj.ok,?_⟩
  repeat first|apply g1|apply g2|apply g3|apply g4|apply g5
  refine .inl ⟨_,fun _=>(qg m.ps (by omega)).ok,?_⟩
  repeat first|apply g1|apply g2|apply g3|apply g4|apply g5
  refine .inl ⟨_,fun _=>(FZ m.ps (hZ hv).2 (by omega)).ok,?_⟩
  repeat first|apply g1|apply g2|apply g3|apply g4|apply g5
  have hq:=Bw (hZ hv).2
  have hT:bQ (iT m.ps)=du (iT m.ps):=by
   have:ca (iT m.ps)=true:=by
    unfold ca
    rw[abY.2 hq.1,abW (by have:=hq.2.1;omega)];rfl
   unfold bQ;rw[this];rfl
  have ZG:nV m.ps=iT m.ps:=by unfold nV;rw[hv];rfl
  refine .inl ⟨_,fun _=>(mR (iT m.ps) (by have:=hq.2.1;omega) fun x hx=>lR (hq.1 x hx)).ok,?_⟩
  repeat first|apply g1|apply g2|apply g3|apply g4|apply g5
  refine⟨by kernel_rfl,?_⟩
  have ee:(true&&decide (bQ m.ps=m.n)&&decide (bQ (nV m.ps)=m.n))=(bif (bif true then bQ m.ps==m.n else false)then du (iT m.ps)==m.n else false):=by
   rw[ZG,hT]
   have e1:∀a b:Int,decide (a=b)=(a==b):=fun a b=>by rw[ab5];simp
   rw[e1,e1]
   cases(bQ m.ps==m.n)<;>rfl
  rw[ee]
  refine ext (by kernel_rfl) rfl rfl
theorem Du(P:PL)(s:dJ):aq Tryz.prog 155 [.ptr 0 0,cJ (aC s)] 7 (fG P) 0 [.dv (B (decide (s.aD=-1)&&decide (s.times=0)))] (fG P):=by
 refine cO Tryz.func155 rfl (by kernel_rfl) ?_
 repeat first|apply g1|apply g2|apply g3|apply g4|apply g5
 rw[show(decide (s.aD=-1)&&decide (s.times=0))=(bif s.aD== -1 then s.times==0 else false)by rw[ab5];simp]
 exact ext (by kernel_rfl) rfl rfl
theorem n4(n:Int):aO Tryz.prog 190 [I n] [B (decide (1<=n)&&decide (n<=1048576))]:=by
 refine pO Tryz.func190 rfl (by kernel_rfl) rfl ?_
 repeat first|apply g1|apply g2|apply g3|apply g4|apply g5
 refine⟨DV.Le.of_eq ?_,tv⟩
 cases decide (1<=n)<;>rfl
theorem Gc(P:PL)(s:dJ):aq Tryz.prog 158 [.ptr 0 0,cJ (aC s)] 7 (fG P) 0 [.dv (B (tg s))] (fG P):=by
 refine cO Tryz.func158 rfl (by kernel_rfl) ?_
 repeat first|apply g1|apply g2|apply g3|apply g4|apply g5
 have lm:(s.mv.map ak).length=s.mv.length:=abz ..
 refine .inl ⟨_,fun _=>(n4 s.times).ok,?_⟩
 repeat first|apply g1|apply g2|apply g3|apply g4|apply g5
 refine aby ?_ ?_
 ·intro h
  have hc:tg s=false:=by
   unfold tg
   rw[acb]
   rintro⟨q1,q2,q3,q4,-⟩
   rw[lm]at h
   simp at h
   omega
  rw[hc]
  exact ext (by kernel_rfl) rfl rfl
 intro h
 have hc:s.aD=-1/\1<=s.times/\s.times<=1048576/\s.mv.length=2:=by
  rw[lm]at h
  simp at h
  omega
 obtain⟨c1,c2,c3,c4⟩:=hc
 obtain⟨a,ha⟩:∃a,s.mv[0]?=some a:=⟨_,aaa (show 0<s.mv.length by omega)⟩
 obtain⟨b,hb⟩:∃b,s.mv[1]?=some b:=⟨_,aaa (show 1<s.mv.length by omega)⟩
 have ia:(s.mv.map ak)[(0:Int).toNat]?=some (ak a):=by rw[abB];exact congrArg (Option.map ak) ha
 have ib:(s.mv.map ak)[(1:Int).toNat]?=some (ak b):=by rw[abB];exact congrArg (Option.map ak) hb
 have da:s.mv.getD 0 m0=a:=by rw[abE,ha];rfl
 have db:s.mv.getD 1 m0=b:=by rw[abE,hb];rfl
 refine⟨ak a,fun _=>⟨by omega,ia⟩,?_⟩
 repeat first|apply g1|apply g2|apply g3|apply g4|apply g5
 refine⟨ak b,fun _=>⟨by omega,ib⟩,?_⟩
 repeat first|apply g1|apply g2|apply g3|apply g4|apply g5|refine⟨fun _ h=>by omega,?_⟩|refine aby (fun _ h=>h) ?_|refine aby (fun h=>h) ?_
 refine aby (by kernel_rfl) ?_
 have hcv:tg s=(bif bif bif bif a.to==0 then b.fr==0 else false then a.fr==b.to else false then a.n.tmod s.times==0 else false then b.n.tmod s.times==0 else false):=by
  unfold tg
  rw[da,db,ab5,BEq.comm (a:=a.fr)]
  simp[c1,c2,c3,c4,and_assoc]
 rw[hcv]
 repeat first|apply g1|apply g2|apply g3|apply g4|apply g5|refine⟨fun _ h=>by omega,?_⟩
 exact ext (by kernel_rfl) rfl rfl
end
end Go.Proofs.YtpbiiigpphehbaaGreatDoor
