import Derived.Test.YtpbiiigpphehbaaGreatDoorFM30
import Derived.Test.YtpbiiigpphehbaaGreatDoorFM38
set_option linter.all false
namespace Go.Proofs.YtpbiiigpphehbaaGreatDoor
set_option maxRecDepth 100000
set_option maxHeartbeats 2000000
open Go.TM
variable [bJ]
theorem gL{b:Bool}(h:bw b true=true):b=true:=by cases b<;>simp_all [bw]
def lB(l:List Lt):Prop:=l.length<=100000/\∀y∈l,0<=y.a/\y.a<=1099511627776/\0<=y.n/\y.n<=1099511627776
theorem om{l:List Lt}(h:0<l.length):l[l.length-1]?=some (l.getLastD ⟨0,0,0⟩)/\l.getLast?=some (l.getLastD ⟨0,0,0⟩):=by
 have hn:l≠[]:=fun e=>by rw[e]at h;simp at h
 rw[List.getLastD_eq_getLast?,List.getLast?_eq_getElem?]
 have:l.length-1<l.length:=by omega
 simp[aaa this]
theorem Zt(l:List Lt)(x:Lt)(hl:lB l)(hx:0<=x.n/\x.n<=1099511627776):aq Tryz.prog 214 [.own 0 1 0 [],cJ (aF x)] 1 [(0,.tree 1 0 (.aB 3 (l.map aF)))] 0 [.own 0 1 0 []] [(0,.tree 1 0 (.aB 3 ((bj l x).map aF)))]:=by
 obtain⟨hlen,Jm⟩:=hl
 have ll:(l.map aF).length=l.length:=abz ..
 refine cO Tryz.func214 rfl (by kernel_rfl) ?_
 refine aby (fun h=>?_) fun h=>?_
 ·have h:x.n=0:=beq_iff_eq.1 h
  rw[bj,if_pos h]
  exact ext (by kernel_rfl) rfl rfl
 have h0:x.n≠0:=beq_eq_false_iff_ne.1 h
 repeat first|apply g1|apply g2|apply g3|apply g4|apply g5
 obtain⟨y,hy⟩:∃y,y=l.getLastD ⟨0,0,0⟩:=⟨_,rfl⟩
 have dr:bw (decide (0<(((l.map aF).length:Nat):Int))) true=true->0<l.length:=fun h=>by have:=abQ (gL h);omega
 have ia:∀h:bw (decide (0<(((l.map aF).length:Nat):Int))) true=true,-9223372036854775808<=(((l.map aF).length:Nat):Int)-1/\(((l.map aF).length:Nat):Int)-1<=9223372036854775807:=fun h=>by omega
 have ib:∀h:bw (decide (0<(((l.map aF).length:Nat):Int))) true=true,0<=(((l.map aF).length:Nat):Int)-1/\(((l.map aF).length:Nat):Int)-1<(((l.map aF).length:Nat):Int):=fun h=>by have:=dr h;omega
 have ie:∀h:bw (decide (0<(((l.map aF).length:Nat):Int))) true=true,(l.map aF)[((((l.map aF).length:Nat):Int)-1).toNat]?=some (aF y):=fun h=>by
  have:=(om (dr h)).1
  rw[abB,show((((l.map aF).length:Nat):Int)-1).toNat=l.length-1 by omega,this,hy];rfl
 have MS:∀h:bw (decide (0<(((l.map aF).length:Nat):Int))) true=true,0<=y.a/\y.a<=1099511627776/\0<=y.n/\y.n<=1099511627776:=fun h=>Jm y (by rw[hy];exact abC (om (dr h)).1)
 have DZ:bw (bif decide (0<(((l.map aF).length:Nat):Int))then y.f==x.f else false) true=true->bw (decide (0<(((l.map aF).length:Nat):Int))) true=true:=fun h=>uP (dV (gL h)).1
 refine⟨fun h=>ia h,?_⟩
 repeat first|apply g1|apply g2|apply g3|apply g4|apply g5
 refine⟨fun h=>ib h,?_⟩
 repeat first|apply g1|apply g2|apply g3|apply g4|apply g5
 refine⟨aF y,fun h=>ie h,?_⟩
 repeat first|apply g1|apply g2|apply g3|apply g4|apply g5
 refine⟨fun h=>ia (DZ h),?_⟩
 repeat first|apply g1|apply g2|apply g3|apply g4|apply g5
 refine⟨fun h=>ib (DZ h),?_⟩
 repeat first|apply g1|apply g2|apply g3|apply g4|apply g5
 refine⟨aF y,fun h=>ie (DZ h),?_⟩
 repeat first|apply g1|apply g2|apply g3|apply g4|apply g5
 refine⟨fun h=>ia (DZ h),?_⟩
 repeat first|apply g1|apply g2|apply g3|apply g4|apply g5
 refine⟨fun h=>ib (DZ h),?_⟩
 repeat first|apply g1|apply g2|apply g3|apply g4|apply g5
 refine⟨aF y,fun h=>ie (DZ h),?_⟩
 repeat first|apply g1|apply g2|apply g3|apply g4|apply g5
 refine⟨fun h=>(by have:=MS (DZ h);omega),?_⟩
 repeat first|apply g1|apply g2|apply g3|apply g4|apply g5
 refine⟨by kernel_rfl,aby (fun h=>?_) fun h=>?_⟩
 ·have h1:=dV h
  have h2:=dV h1.1
  have hb:=uP h2.1
  have MS:=MS hb
  have e:bj l x=l.set (l.length-1) ⟨y.f,y.a,y.n+x.n⟩:=by
   have wX:=(om (dr hb)).2
   rw[<-hy]at wX
   have hc:y.f=x.f/\y.a+y.n=x.a:=⟨beq_iff_eq.1 h2.2,beq_iff_eq.1 h1.2⟩
   unfold bj
   rw[if_neg h0,wX]
   simp only
   rw[if_pos hc]
   conv=>rhs;rw[gS wX]
   have:(l.dropLast++[y]).length-1=l.dropLast.length:=by simp
   simp
  have ei:((((l.map aF).length:Nat):Int)-1).toNat=l.length-1:=by omega
  refine⟨fun _=>ia hb,fun _=>ib hb,aF y,fun _=>ie hb,fun _=>⟨by omega,by omega⟩,fun _=>ib hb,?_⟩
  refine⟨[I (y.n+x.n)],⟨rf,tv⟩,aF y,ie hb,?_⟩
  refine⟨by kernel_rfl,ext (by kernel_rfl) rfl ?_⟩
  rw[e,List.map_set,<-ei]
  rfl
 ·have e:bj l x=l++[x]:=by
   by_cases hp:0<l.length
   ·have wX:=(om hp).2
    rw[<-hy]at wX
    have hn:¬(y.f=x.f/\y.a+y.n=x.a):=fun hc=>lQ h ⟨by rw[abW (by omega),hc.1];simp,by rw[hc.2];simp⟩
    unfold bj
    rw[if_neg h0,wX]
    simp only
    rw[if_neg hn]
   ·have:l=[]:=List.length_eq_zero_iff.1 (by omega)
    subst this
    unfold bj
    rw[if_neg h0];rfl
  refine .inl ⟨[aF x],rfl,⟨rf,rf,rf,tv⟩,(by simp;rfl),?_⟩
  refine .inr ⟨[aF x],b7.refl _,bL (by simp;omega),by simp;omega,?_⟩
  refine ext (by kernel_rfl) rfl ?_
  rw[e,abS]
  rfl
theorem BI(l:List Lt)(x:Lt)(hl:lB l)(hx:0<=x.n/\x.n<=1099511627776):aq Tryz.prog 214 [.own 0 0 0 [],cJ (aF x)] 1 [(0,.tree 0 0 (.aB 3 (l.map aF)))] 0 [.own 0 1 0 []] [(0,.tree 1 0 (.aB 3 ((bj l x).map aF)))]:=
 cM 0 (Zt l x hl hx) ⟨⟨_,rfl,rfl,fun j hj=>(by match j,hj with|j+1,_=>exact .refl _)⟩,.rY (.same _ .nil)⟩
end Go.Proofs.YtpbiiigpphehbaaGreatDoor
