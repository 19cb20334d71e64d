import Derived.Test.YtmojfblpbcficaaGreatDoorUM19
import Derived.Test.YtmojfblpbcficaaGreatDoorUM26
set_option linter.all false
open Go.TM.oA Go.TM.oB Go.TM.oC Go.TM.oD Go.TM.oE
namespace Go.Proofs.YtmojfblpbcficaaGreatDoor
set_option maxRecDepth 100000
set_option maxHeartbeats 2000000
open Go.TM
variable [bp]
theorem gL{b:Bool}(h:bw b true=true):b=true:=by cases b<;>simp_all [bw]
def lB(l:List Lt):Prop:=l.length<=100000/\∀y∈l,0<=y.a/\y.a<=1099511627776/\0<=y.n/\y.n<=1099511627776
theorem oZ{l:List Lt}(h:0<l.length):l[l.length-1]?=some (l.getLastD ⟨0,0,0⟩)/\l.getLast?=some (l.getLastD ⟨0,0,0⟩):=by
 have hn:l≠[]:=fun e=>by rw[e]at h;simp at h
 rw[List.getLastD_eq_getLast?,List.getLast?_eq_getElem?]
 have:l.length-1<l.length:=by omega
 simp[IF this]
theorem abc(l:List Lt)(x:Lt)(hl:lB l)(hx:0<=x.n/\x.n<=1099511627776):aj Tryz.prog 76 [.own 0 1 0 [],cH (aA x)] 1 [(0,.tree 1 0 (.aD 3 (l.map aA)))] 0 [.own 0 1 0 []] [(0,.tree 1 0 (.aD 3 ((aR l x).map aA)))]:=by
 obtain⟨hlen,Kw⟩:=hl
 have ll:(l.map aA).length=l.length:=WY ..
 refine cO Tryz.func76 rfl (by kernel_rfl) ?_
 refine T5 (fun h=>?_) fun h=>?_
 ·have h:x.n=0:=beq_iff_eq.1 h
  rw[aR,if_pos h]
  exact ext (by kernel_rfl) rfl rfl
 have h0:x.n≠0:=beq_eq_false_iff_ne.1 h
 repeat refine gG ?_
 obtain⟨y,hy⟩:∃y,y=l.getLastD ⟨0,0,0⟩:=⟨_,rfl⟩
 have dD:bw (decide (0<(((l.map aA).length:Nat):Int))) true=true->0<l.length:=fun h=>by have:=adz (gL h);omega
 have ia:∀h:bw (decide (0<(((l.map aA).length:Nat):Int))) true=true,-9223372036854775808<=(((l.map aA).length:Nat):Int)-1/\(((l.map aA).length:Nat):Int)-1<=9223372036854775807:=fun h=>by omega
 have ib:∀h:bw (decide (0<(((l.map aA).length:Nat):Int))) true=true,0<=(((l.map aA).length:Nat):Int)-1/\(((l.map aA).length:Nat):Int)-1<(((l.map aA).length:Nat):Int):=fun h=>by have:=dD h;omega
 have ie:∀h:bw (decide (0<(((l.map aA).length:Nat):Int))) true=true,(l.map aA)[((((l.map aA).length:Nat):Int)-1).toNat]?=some (aA y):=fun h=>by
  have:=(oZ (dD h)).1
  rw[abW,show((((l.map aA).length:Nat):Int)-1).toNat=l.length-1 by omega,this,hy];rfl
 have Oe:∀h:bw (decide (0<(((l.map aA).length:Nat):Int))) true=true,0<=y.a/\y.a<=1099511627776/\0<=y.n/\y.n<=1099511627776:=fun h=>Kw y (by rw[hy];exact ab6 (oZ (dD h)).1)
 have EF:bw (bif decide (0<(((l.map aA).length:Nat):Int))then y.f==x.f else false) true=true->bw (decide (0<(((l.map aA).length:Nat):Int))) true=true:=fun h=>rl (c6 (gL h)).1
 refine⟨fun h=>ia h,?_⟩
 repeat refine gG ?_
 refine⟨fun h=>ib h,?_⟩
 repeat refine gG ?_
 refine⟨aA y,fun h=>ie h,?_⟩
 repeat refine gG ?_
 refine⟨fun h=>ia (EF h),?_⟩
 repeat refine gG ?_
 refine⟨fun h=>ib (EF h),?_⟩
 repeat refine gG ?_
 refine⟨aA y,fun h=>ie (EF h),?_⟩
 repeat refine gG ?_
 refine⟨fun h=>ia (EF h),?_⟩
 repeat refine gG ?_
 refine⟨fun h=>ib (EF h),?_⟩
 repeat refine gG ?_
 refine⟨aA y,fun h=>ie (EF h),?_⟩
 repeat refine gG ?_
 refine⟨fun h=>(by have:=Oe (EF h);omega),?_⟩
 repeat refine gG ?_
 refine⟨by kernel_rfl,T5 (fun h=>?_) fun h=>?_⟩
 ·have h1:=c6 h
  have h2:=c6 h1.1
  have hb:=rl h2.1
  have Oe:=Oe hb
  have e:aR l x=l.set (l.length-1) ⟨y.f,y.a,y.n+x.n⟩:=by
   have xj:=(oZ (dD hb)).2
   rw[<-hy]at xj
   have hc:y.f=x.f/\y.a+y.n=x.a:=⟨beq_iff_eq.1 h2.2,beq_iff_eq.1 h1.2⟩
   unfold aR
   rw[if_neg h0,xj]
   simp only
   rw[if_pos hc]
   conv=>rhs;rw[gf xj]
   have:(l.dropLast++[y]).length-1=l.dropLast.length:=by simp
   simp
  have ei:((((l.map aA).length:Nat):Int)-1).toNat=l.length-1:=by omega
  refine⟨fun _=>ia hb,fun _=>ib hb,aA y,fun _=>ie hb,fun _=>by omega,fun _=>ib hb,?_⟩
  refine⟨[I (y.n+x.n)],⟨rf,tv⟩,aA y,ie hb,?_⟩
  refine⟨by kernel_rfl,ext (by kernel_rfl) rfl ?_⟩
  rw[e,List.map_set,<-ei]
  rfl
 ·have e:aR l x=l++[x]:=by
   by_cases hp:0<l.length
   ·have xj:=(oZ hp).2
    rw[<-hy]at xj
    have hn:¬(y.f=x.f/\y.a+y.n=x.a):=fun hc=>lM h ⟨by rw[adF (by omega),hc.1];simp,by rw[hc.2];simp⟩
    unfold aR
    rw[if_neg h0,xj]
    simp only
    rw[if_neg hn]
   ·have:l=[]:=List.length_eq_zero_iff.1 (by omega)
    subst this
    unfold aR
    rw[if_neg h0];rfl
  refine .inl ⟨[aA x],rfl,⟨rf,rf,rf,tv⟩,(by simp;rfl),?_⟩
  refine .inr ⟨[aA x],b7.refl _,bL (by simp;omega),by simp;omega,?_⟩
  refine ext (by kernel_rfl) rfl ?_
  rw[e,adB]
  rfl
theorem B2(l:List Lt)(x:Lt)(hl:lB l)(hx:0<=x.n/\x.n<=1099511627776):aj Tryz.prog 76 [.own 0 0 0 [],cH (aA x)] 1 [(0,.tree 0 0 (.aD 3 (l.map aA)))] 0 [.own 0 1 0 []] [(0,.tree 1 0 (.aD 3 ((aR l x).map aA)))]:=
 cU 0 (abc l x hl hx) ⟨⟨_,rfl,rfl,fun j hj=>(by match j,hj with|j+1,_=>exact .refl _)⟩,.sH (.same _ .nil)⟩
end Go.Proofs.YtmojfblpbcficaaGreatDoor
