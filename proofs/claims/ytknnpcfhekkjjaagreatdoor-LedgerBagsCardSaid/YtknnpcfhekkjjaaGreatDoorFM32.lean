import Derived.Test.YtknnpcfhekkjjaaGreatDoorFM23
import Derived.Test.YtknnpcfhekkjjaaGreatDoorFM31
set_option linter.all false
namespace Go.Proofs.YtknnpcfhekkjjaaGreatDoor
set_option maxRecDepth 100000
set_option maxHeartbeats 2000000
open Go.TM
variable [bG]
theorem gL{b:Bool}(h:bw b true=true):b=true:=by cases b<;>simp_all [bw]
def lB(l:List Lt):Prop:=l.length<=100000/\∀y∈l,0<=y.a/\y.a<=1099511627776/\0<=y.n/\y.n<=1099511627776
theorem oq{l:List Lt}(h:0<l.length):l[l.length-1]?=some (l.getLastD ⟨0,0,0⟩)/\l.getLast?=some (l.getLastD ⟨0,0,0⟩):=by
 have hn:l≠[]:=fun e=>by rw[e]at h;simp at h
 rw[List.getLastD_eq_getLast?,List.getLast?_eq_getElem?]
 have:l.length-1<l.length:=by omega
 simp[aaj this]
theorem Zj(l:List Lt)(x:Lt)(hl:lB l)(hx:0<=x.n/\x.n<=1099511627776):ar Tryz.prog 207 [.own 0 1 0 [],cY (aC x)] 1 [(0,.tree 1 0 (.aB 3 (l.map aC)))] 0 [.own 0 1 0 []] [(0,.tree 1 0 (.aB 3 ((bj l x).map aC)))]:=by
 obtain⟨hlen,Ja⟩:=hl
 have ll:(l.map aC).length=l.length:=abH ..
 refine cO Tryz.func207 rfl (by kernel_rfl) ?_
 refine abG (fun h=>?_) fun h=>?_
 ·have h:x.n=0:=beq_iff_eq.1 h
  rw[bj,if_pos h]
  exact ext (by kernel_rfl) rfl rfl
 have h0:x.n≠0:=beq_eq_false_iff_ne.1 h
 repeat first|apply g1|apply g2|apply g3|apply g4|apply g5
 obtain⟨y,hy⟩:∃y,y=l.getLastD ⟨0,0,0⟩:=⟨_,rfl⟩
 have dq:bw (decide (0<(((l.map aC).length:Nat):Int))) true=true->0<l.length:=fun h=>by have:=abY (gL h);omega
 have ia:∀h:bw (decide (0<(((l.map aC).length:Nat):Int))) true=true,-9223372036854775808<=(((l.map aC).length:Nat):Int)-1/\(((l.map aC).length:Nat):Int)-1<=9223372036854775807:=fun h=>by omega
 have ib:∀h:bw (decide (0<(((l.map aC).length:Nat):Int))) true=true,0<=(((l.map aC).length:Nat):Int)-1/\(((l.map aC).length:Nat):Int)-1<(((l.map aC).length:Nat):Int):=fun h=>by have:=dq h;omega
 have ie:∀h:bw (decide (0<(((l.map aC).length:Nat):Int))) true=true,(l.map aC)[((((l.map aC).length:Nat):Int)-1).toNat]?=some (aC y):=fun h=>by
  have:=(oq (dq h)).1
  rw[abJ,show((((l.map aC).length:Nat):Int)-1).toNat=l.length-1 by omega,this,hy];rfl
 have MM:∀h:bw (decide (0<(((l.map aC).length:Nat):Int))) true=true,0<=y.a/\y.a<=1099511627776/\0<=y.n/\y.n<=1099511627776:=fun h=>Ja y (by rw[hy];exact abK (oq (dq h)).1)
 have Bh:bw (bif decide (0<(((l.map aC).length:Nat):Int))then y.f==x.f else false) true=true->bw (decide (0<(((l.map aC).length:Nat):Int))) true=true:=fun h=>uV (eh (gL h)).1
 refine⟨fun h=>ia h,?_⟩
 repeat first|apply g1|apply g2|apply g3|apply g4|apply g5
 refine⟨fun h=>ib h,?_⟩
 repeat first|apply g1|apply g2|apply g3|apply g4|apply g5
 refine⟨aC y,fun h=>ie h,?_⟩
 repeat first|apply g1|apply g2|apply g3|apply g4|apply g5
 refine⟨fun h=>ia (Bh h),?_⟩
 repeat first|apply g1|apply g2|apply g3|apply g4|apply g5
 refine⟨fun h=>ib (Bh h),?_⟩
 repeat first|apply g1|apply g2|apply g3|apply g4|apply g5
 refine⟨aC y,fun h=>ie (Bh h),?_⟩
 repeat first|apply g1|apply g2|apply g3|apply g4|apply g5
 refine⟨fun h=>ia (Bh h),?_⟩
 repeat first|apply g1|apply g2|apply g3|apply g4|apply g5
 refine⟨fun h=>ib (Bh h),?_⟩
 repeat first|apply g1|apply g2|apply g3|apply g4|apply g5
 refine⟨aC y,fun h=>ie (Bh h),?_⟩
 repeat first|apply g1|apply g2|apply g3|apply g4|apply g5
 refine⟨fun h=>(by have:=MM (Bh h);omega),?_⟩
 repeat first|apply g1|apply g2|apply g3|apply g4|apply g5
 refine⟨by kernel_rfl,abG (fun h=>?_) fun h=>?_⟩
 ·have h1:=eh h
  have h2:=eh h1.1
  have hb:=uV h2.1
  have MM:=MM hb
  have e:bj l x=l.set (l.length-1) ⟨y.f,y.a,y.n+x.n⟩:=by
   have wY:=(oq (dq hb)).2
   rw[<-hy]at wY
   have hc:y.f=x.f/\y.a+y.n=x.a:=⟨beq_iff_eq.1 h2.2,beq_iff_eq.1 h1.2⟩
   unfold bj
   rw[if_neg h0,wY]
   simp only
   rw[if_pos hc]
   conv=>rhs;rw[gR wY]
   have:(l.dropLast++[y]).length-1=l.dropLast.length:=by simp
   simp
  have ei:((((l.map aC).length:Nat):Int)-1).toNat=l.length-1:=by omega
  refine⟨fun _=>ia hb,fun _=>ib hb,aC y,fun _=>ie hb,fun _=>⟨by omega,by omega⟩,fun _=>ib hb,?_⟩
  refine⟨[I (y.n+x.n)],⟨rf,tv⟩,aC y,ie hb,?_⟩
  refine⟨by kernel_rfl,ext (by kernel_rfl) rfl ?_⟩
  rw[e,List.map_set,<-ei]
  rfl
 ·have e:bj l x=l++[x]:=by
   by_cases hp:0<l.length
   ·have wY:=(oq hp).2
    rw[<-hy]at wY
    have hn:¬(y.f=x.f/\y.a+y.n=x.a):=fun hc=>mQ h ⟨by rw[ab4 (by omega),hc.1];simp,by rw[hc.2];simp⟩
    unfold bj
    rw[if_neg h0,wY]
    simp only
    rw[if_neg hn]
   ·have:l=[]:=List.length_eq_zero_iff.1 (by omega)
    subst this
    unfold bj
    rw[if_neg h0];rfl
  refine .inl ⟨[aC x],rfl,⟨rf,rf,rf,tv⟩,(by simp;rfl),?_⟩
  refine .inr ⟨[aC x],cd.refl _,bL (by simp;omega),by simp;omega,?_⟩
  refine ext (by kernel_rfl) rfl ?_
  rw[e,ab0]
  rfl
theorem BF(l:List Lt)(x:Lt)(hl:lB l)(hx:0<=x.n/\x.n<=1099511627776):ar Tryz.prog 207 [.own 0 0 0 [],cY (aC x)] 1 [(0,.tree 0 0 (.aB 3 (l.map aC)))] 0 [.own 0 1 0 []] [(0,.tree 1 0 (.aB 3 ((bj l x).map aC)))]:=
 cR 0 (Zj l x hl hx) ⟨⟨_,rfl,rfl,fun j hj=>(by match j,hj with|j+1,_=>exact .refl _)⟩,.sb (.same _ .nil)⟩
end Go.Proofs.YtknnpcfhekkjjaaGreatDoor
