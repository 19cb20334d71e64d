import Derived.Test.YtfpebgpgabjieaaGreatDoorGM19
import Derived.Test.YtfpebgpgabjieaaGreatDoorGM26
set_option linter.all false
open Go.TM.oA Go.TM.oB Go.TM.oC Go.TM.oD Go.TM.oE
namespace Go.Proofs.YtfpebgpgabjieaaGreatDoor
set_option maxRecDepth 100000
set_option maxHeartbeats 2000000
open Go.TM
variable [bj]
theorem gL{b:Bool}(h:bw b true=true):b=true:=by cases b<;>simp_all [bw]
def lB(l:List Lt):Prop:=l.length<=100000/\∀y∈l,0<=y.a/\y.a<=1099511627776/\0<=y.n/\y.n<=1099511627776
theorem oL{l:List Lt}(h:0<l.length):l[l.length-1]?=some (l.getLastD ⟨0,0,0⟩)/\l.getLast?=some (l.getLastD ⟨0,0,0⟩):=by
 have hn:l≠[]:=fun e=>by rw[e]at h;simp at h
 rw[List.getLastD_eq_getLast?,List.getLast?_eq_getElem?]
 have:l.length-1<l.length:=by omega
 simp[ace this]
theorem abr(l:List Lt)(x:Lt)(hl:lB l)(hx:0<=x.n/\x.n<=1099511627776):aj Tryz.prog 82 [.own 0 1 0 [],cx (ax x)] 1 [(0,.tree 1 0 (.aD 3 (l.map ax)))] 0 [.own 0 1 0 []] [(0,.tree 1 0 (.aD 3 ((aN l x).map ax)))]:=by
 obtain⟨hlen,Kv⟩:=hl
 have ll:(l.map ax).length=l.length:=adO ..
 refine cO Tryz.func82 rfl (by kernel_rfl) ?_
 refine adN (fun h=>?_) fun h=>?_
 ·have h:x.n=0:=beq_iff_eq.1 h
  rw[aN,if_pos h]
  exact ext (by kernel_rfl) rfl rfl
 have h0:x.n≠0:=beq_eq_false_iff_ne.1 h
 repeat refine gG ?_
 obtain⟨y,hy⟩:∃y,y=l.getLastD ⟨0,0,0⟩:=⟨_,rfl⟩
 have du:bw (decide (0<(((l.map ax).length:Nat):Int))) true=true->0<l.length:=fun h=>by have:=ad5 (gL h);omega
 have ia:∀h:bw (decide (0<(((l.map ax).length:Nat):Int))) true=true,-9223372036854775808<=(((l.map ax).length:Nat):Int)-1/\(((l.map ax).length:Nat):Int)-1<=9223372036854775807:=fun h=>by omega
 have ib:∀h:bw (decide (0<(((l.map ax).length:Nat):Int))) true=true,0<=(((l.map ax).length:Nat):Int)-1/\(((l.map ax).length:Nat):Int)-1<(((l.map ax).length:Nat):Int):=fun h=>by have:=du h;omega
 have ie:∀h:bw (decide (0<(((l.map ax).length:Nat):Int))) true=true,(l.map ax)[((((l.map ax).length:Nat):Int)-1).toNat]?=some (ax y):=fun h=>by
  have:=(oL (du h)).1
  rw[adQ,show((((l.map ax).length:Nat):Int)-1).toNat=l.length-1 by omega,this,hy];rfl
 have Oa:∀h:bw (decide (0<(((l.map ax).length:Nat):Int))) true=true,0<=y.a/\y.a<=1099511627776/\0<=y.n/\y.n<=1099511627776:=fun h=>Kv y (by rw[hy];exact adR (oL (du h)).1)
 have Ex:bw (bif decide (0<(((l.map ax).length:Nat):Int))then y.f==x.f else false) true=true->bw (decide (0<(((l.map ax).length:Nat):Int))) true=true:=fun h=>qX (dc (gL h)).1
 refine⟨fun h=>ia h,?_⟩
 repeat refine gG ?_
 refine⟨fun h=>ib h,?_⟩
 repeat refine gG ?_
 refine⟨ax y,fun h=>ie h,?_⟩
 repeat refine gG ?_
 refine⟨fun h=>ia (Ex h),?_⟩
 repeat refine gG ?_
 refine⟨fun h=>ib (Ex h),?_⟩
 repeat refine gG ?_
 refine⟨ax y,fun h=>ie (Ex h),?_⟩
 repeat refine gG ?_
 refine⟨fun h=>ia (Ex h),?_⟩
 repeat refine gG ?_
 refine⟨fun h=>ib (Ex h),?_⟩
 repeat refine gG ?_
 refine⟨ax y,fun h=>ie (Ex h),?_⟩
 repeat refine gG ?_
 refine⟨fun h=>(by have:=Oa (Ex h);omega),?_⟩
 repeat refine gG ?_
 refine⟨by kernel_rfl,adN (fun h=>?_) fun h=>?_⟩
 ·have h1:=dc h
  have h2:=dc h1.1
  have hb:=qX h2.1
  have Oa:=Oa hb
  have e:aN l x=l.set (l.length-1) ⟨y.f,y.a,y.n+x.n⟩:=by
   have Af:=(oL (du hb)).2
   rw[<-hy]at Af
   have hc:y.f=x.f/\y.a+y.n=x.a:=⟨beq_iff_eq.1 h2.2,beq_iff_eq.1 h1.2⟩
   unfold aN
   rw[if_neg h0,Af]
   simp only
   rw[if_pos hc]
   conv=>rhs;rw[ic Af]
   have:(l.dropLast++[y]).length-1=l.dropLast.length:=by simp
   simp
  have ei:((((l.map ax).length:Nat):Int)-1).toNat=l.length-1:=by omega
  refine⟨fun _=>ia hb,fun _=>ib hb,ax y,fun _=>ie hb,fun _=>by omega,fun _=>ib hb,?_⟩
  refine⟨[I (y.n+x.n)],⟨rf,tv⟩,ax y,ie hb,?_⟩
  refine⟨by kernel_rfl,ext (by kernel_rfl) rfl ?_⟩
  rw[e,List.map_set,<-ei]
  rfl
 ·have e:aN l x=l++[x]:=by
   by_cases hp:0<l.length
   ·have Af:=(oL hp).2
    rw[<-hy]at Af
    have hn:¬(y.f=x.f/\y.a+y.n=x.a):=fun hc=>mc h ⟨by rw[aeb (by omega),hc.1];simp,by rw[hc.2];simp⟩
    unfold aN
    rw[if_neg h0,Af]
    simp only
    rw[if_neg hn]
   ·have:l=[]:=List.length_eq_zero_iff.1 (by omega)
    subst this
    unfold aN
    rw[if_neg h0];rfl
  refine .inl ⟨[ax x],rfl,⟨rf,rf,rf,tv⟩,(by simp;rfl),?_⟩
  refine .inr ⟨[ax x],bV.refl _,bL (by simp;omega),by simp;omega,?_⟩
  refine ext (by kernel_rfl) rfl ?_
  rw[e,ad7]
  rfl
theorem qE(l:List Lt)(x:Lt)(hl:lB l)(hx:0<=x.n/\x.n<=1099511627776):aj Tryz.prog 82 [.own 0 0 0 [],cx (ax x)] 1 [(0,.tree 0 0 (.aD 3 (l.map ax)))] 0 [.own 0 1 0 []] [(0,.tree 1 0 (.aD 3 ((aN l x).map ax)))]:=
 cH 0 (abr l x hl hx) ⟨⟨_,rfl,rfl,fun j hj=>(by match j,hj with|j+1,_=>exact .refl _)⟩,.rU (.same _ .nil)⟩
end Go.Proofs.YtfpebgpgabjieaaGreatDoor
