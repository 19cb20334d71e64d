import Derived.Test.YtfpebgpgabjieaaGreatDoorHM19
import Derived.Test.YtfpebgpgabjieaaGreatDoorHM20
import Derived.Test.YtfpebgpgabjieaaGreatDoorHM18
set_option linter.all false
open Go.TM.oA Go.TM.oB Go.TM.oC Go.TM.oD Go.TM.oE
namespace Go.Proofs.YtfpebgpgabjieaaGreatDoor
set_option maxRecDepth 100000
set_option maxHeartbeats 4000000
section
open Go.TM
variable [aW]
theorem gL{b:Bool}(h:bw b true=true):b=true:=by cases b<;>simp_all [bw]
def lB(l:List Lt):Prop:=l.length<=100000/\∀y∈l,0<=y.a/\y.a<=1099511627776/\0<=y.n/\y.n<=1099511627776
theorem oz{l:List Lt}(h:0<l.length):l[l.length-1]?=some (l.getLastD ⟨0,0,0⟩)/\l.getLast?=some (l.getLastD ⟨0,0,0⟩):=by
 have hn:l≠[]:=fun e=>by rw[e]at h;simp at h
 rw[List.getLastD_eq_getLast?,List.getLast?_eq_getElem?]
 have:l.length-1<l.length:=by omega
 simp[abK this]
theorem aaO(l:List Lt)(x:Lt)(hl:lB l)(hx:0<=x.n/\x.n<=1099511627776):aw Tryz.prog 82 [.own 0 1 0 [],cP (aD x)] 1 [(0,.tree 1 0 (.aI 3 (l.map aD)))] 0 [.own 0 1 0 []] [(0,.tree 1 0 (.aI 3 ((aT l x).map aD)))]:=by
 obtain⟨hlen,JH⟩:=hl
 have ll:(l.map aD).length=l.length:=adi ..
 refine cO Tryz.func82 rfl (by kernel_rfl) ?_
 refine adh (fun h=>?_) fun h=>?_
 ·have h:x.n=0:=beq_iff_eq.1 h
  rw[aT,if_pos h]
  exact ext (by kernel_rfl) rfl rfl
 have h0:x.n≠0:=beq_eq_false_iff_ne.1 h
 repeat refine gG ?_
 obtain⟨y,hy⟩:∃y,y=l.getLastD ⟨0,0,0⟩:=⟨_,rfl⟩
 have dK:bw (decide (0<(((l.map aD).length:Nat):Int))) true=true->0<l.length:=fun h=>by have:=adz (gL h);omega
 have ia:∀h:bw (decide (0<(((l.map aD).length:Nat):Int))) true=true,-9223372036854775808<=(((l.map aD).length:Nat):Int)-1/\(((l.map aD).length:Nat):Int)-1<=9223372036854775807:=fun h=>by omega
 have ib:∀h:bw (decide (0<(((l.map aD).length:Nat):Int))) true=true,0<=(((l.map aD).length:Nat):Int)-1/\(((l.map aD).length:Nat):Int)-1<(((l.map aD).length:Nat):Int):=fun h=>by have:=dK h;omega
 have ie:∀h:bw (decide (0<(((l.map aD).length:Nat):Int))) true=true,(l.map aD)[((((l.map aD).length:Nat):Int)-1).toNat]?=some (aD y):=fun h=>by
  have:=(oz (dK h)).1
  rw[adk,show((((l.map aD).length:Nat):Int)-1).toNat=l.length-1 by omega,this,hy];rfl
 have NG:∀h:bw (decide (0<(((l.map aD).length:Nat):Int))) true=true,0<=y.a/\y.a<=1099511627776/\0<=y.n/\y.n<=1099511627776:=fun h=>JH y (by rw[hy];exact adl (oz (dK h)).1)
 have D7:bw (bif decide (0<(((l.map aD).length:Nat):Int))then y.f==x.f else false) true=true->bw (decide (0<(((l.map aD).length:Nat):Int))) true=true:=fun h=>nP (bZ (gL h)).1
 refine⟨fun h=>ia h,?_⟩
 repeat refine gG ?_
 refine⟨fun h=>ib h,?_⟩
 repeat refine gG ?_
 refine⟨aD y,fun h=>ie h,?_⟩
 repeat refine gG ?_
 refine⟨fun h=>ia (D7 h),?_⟩
 repeat refine gG ?_
 refine⟨fun h=>ib (D7 h),?_⟩
 repeat refine gG ?_
 refine⟨aD y,fun h=>ie (D7 h),?_⟩
 repeat refine gG ?_
 refine⟨fun h=>ia (D7 h),?_⟩
 repeat refine gG ?_
 refine⟨fun h=>ib (D7 h),?_⟩
 repeat refine gG ?_
 refine⟨aD y,fun h=>ie (D7 h),?_⟩
 repeat refine gG ?_
 refine⟨fun h=>(by have:=NG (D7 h);omega),?_⟩
 repeat refine gG ?_
 refine⟨by kernel_rfl,adh (fun h=>?_) fun h=>?_⟩
 ·have h1:=bZ h
  have h2:=bZ h1.1
  have hb:=nP h2.1
  have NG:=NG hb
  have e:aT l x=l.set (l.length-1) ⟨y.f,y.a,y.n+x.n⟩:=by
   have w4:=(oz (dK hb)).2
   rw[<-hy]at w4
   have hc:y.f=x.f/\y.a+y.n=x.a:=⟨beq_iff_eq.1 h2.2,beq_iff_eq.1 h1.2⟩
   unfold aT
   rw[if_neg h0,w4]
   simp only
   rw[if_pos hc]
   conv=>rhs;rw[iu w4]
   have:(l.dropLast++[y]).length-1=l.dropLast.length:=by simp
   simp
  have ei:((((l.map aD).length:Nat):Int)-1).toNat=l.length-1:=by omega
  refine⟨fun _=>ia hb,fun _=>ib hb,aD y,fun _=>ie hb,fun _=>by omega,fun _=>ib hb,?_⟩
  refine⟨[I (y.n+x.n)],⟨rf,tv⟩,aD y,ie hb,?_⟩
  refine⟨by kernel_rfl,ext (by kernel_rfl) rfl ?_⟩
  rw[e,List.map_set,<-ei]
  rfl
 ·have e:aT l x=l++[x]:=by
   by_cases hp:0<l.length
   ·have w4:=(oz hp).2
    rw[<-hy]at w4
    have hn:¬(y.f=x.f/\y.a+y.n=x.a):=fun hc=>gI h ⟨by rw[adF (by omega),hc.1];simp,by rw[hc.2];simp⟩
    unfold aT
    rw[if_neg h0,w4]
    simp only
    rw[if_neg hn]
   ·have:l=[]:=List.length_eq_zero_iff.1 (by omega)
    subst this
    unfold aT
    rw[if_neg h0];rfl
  refine .inl ⟨[aD x],rfl,⟨rf,rf,rf,tv⟩,(by simp;rfl),?_⟩
  refine .inr ⟨[aD x],bW.refl _,bL (by simp;omega),by simp;omega,?_⟩
  refine ext (by kernel_rfl) rfl ?_
  rw[e,adB]
  rfl
theorem Bh(l:List Lt)(x:Lt)(hl:lB l)(hx:0<=x.n/\x.n<=1099511627776):aw Tryz.prog 82 [.own 0 0 0 [],cP (aD x)] 1 [(0,.tree 0 0 (.aI 3 (l.map aD)))] 0 [.own 0 1 0 []] [(0,.tree 1 0 (.aI 3 ((aT l x).map aD)))]:=
 cQ 0 (aaO l x hl hx) ⟨⟨_,rfl,rfl,fun j hj=>(by match j,hj with|j+1,_=>exact .refl _)⟩,.qW (.same _ .nil)⟩
end
section
open Go.TM
structure SeI where
 i:Nat
 j:Nat
theorem PT{i j:Nat}(h:i+j<=1000000):IntKind.i64.wrap (IntKind.u64.wrap ((i:Int)+(j:Int))/2^min (Int.toNat 1) IntKind.u64.bits)=(((i+j)/2:Nat):Int):=by
 have e:min (Int.toNat 1) IntKind.u64.bits=1:=rfl
 rw[e,IntKind.wrap_u64,IntKind.wrap_i64]
 omega
def aaP(f:Nat)(bR:List AV)(m:Nat)(K:ae)(q:SeI):cU:=⟨m,[(1,.fn f bR),(5,.dv (I q.i)),(6,.dv (I q.j))],K⟩
def H8(set:List Lt)(x:Lt):Nat:=(set.takeWhile fun s=>!jX x s).length
theorem PU{p:Lt->Bool}:∀{l:List Lt} {y:Lt},y∈l.takeWhile p->p y=true
 |[],y,h=>by cases h
 |x::l,y,h=>by
  rw[List.takeWhile_cons]at h
  split at h
  ·rename_i hx
   rcases adp.1 h with rfl|h
   ·exact hx
   ·exact PU h
  ·cases h
theorem H9{set:List Lt}(hs:NS set)(x:Lt):H8 set x<=set.length/\(set.dropWhile fun s=>!jX x s)=set.drop (H8 set x)/\(∀i y,i<H8 set x->set[i]?=some y->jX x y=false)/\∀i y,H8 set x<=i->set[i]?=some y->jX x y=true:=by
 have e:=List.takeWhile_append_dropWhile (p:=fun s=>!jX x s) (l:=set)
 have hd:=(Cv x set hs).2.1
 have hl:=congrArg List.length e
 rw[adv]at hl
 have e2:(set.dropWhile fun s=>!jX x s)=set.drop (H8 set x):=by
  have h:=congrArg (List.drop (set.takeWhile fun s=>!jX x s).length) e
  rw[List.drop_left]at h
  exact h
 refine⟨by unfold H8;omega,e2,fun i y hi hy=>?_,fun i y hi hy=>?_⟩
 ·rw[<-e,List.getElem?_append_left hi]at hy
  have:=PU (adl hy)
  simpa using this
 ·refine hd y ?_
  rw[e2]
  refine adl (i:=i-H8 set x) ?_
  rw[List.getElem?_drop,show H8 set x+(i-H8 set x)=i by omega];exact hy
variable [aW]
def Zf(set:List Lt)(x:Lt):ae:=[(0,.cells [.dv (aR set)]),(1,.cells (fp (aD x).cells))]
theorem L3(set:List Lt)(x y:Lt)(i:Nat)(hy:set[i]?=some y)(hb:0<=y.a/\y.a<=1099511627776/\0<=y.n/\y.n<=1099511627776):aw Tryz.prog 270 [.dv (I i),.ptr 0 0,.ptr 1 0] 2 (Zf set x) 0 [.dv (B (jX x y))] (Zf set x):=by
 have iy:(set.map aD)[(i:Int).toNat]?=some (aD y):=by rw[adk];simp[hy]
 have i0:(0:Int)<=i:=by omega
 refine cO Tryz.func270 rfl (by kernel_rfl) ?_
 refine⟨aD y,fun _=>⟨i0,iy⟩,?_⟩
 repeat refine gG ?_
 refine⟨aD y,fun _=>⟨i0,iy⟩,?_⟩
 repeat refine gG ?_
 refine⟨aD y,fun _=>⟨i0,iy⟩,?_⟩
 repeat refine gG ?_
 refine⟨aD y,fun _=>⟨i0,iy⟩,?_⟩
 repeat refine gG ?_
 refine⟨fun _=>by omega,?_⟩
 repeat refine gG ?_
 refine⟨by kernel_rfl,?_⟩
 rw[show jX x y=(bif decide (x.f<y.f)then true else bif y.f==x.f then decide (x.a<y.a+y.n)else false)by
  unfold jX;rw[adO];simp]
 exact ext (by kernel_rfl) rfl rfl
theorem tg(set:List Lt)(x:Lt)(hs:NS set)(hb:lB set):aw Tryz.prog 116 [.dv (I set.length),.fn 270 [.ptr 0 0,.ptr 1 0]] 2 (Zf set x) 0 [.dv (I (H8 set x))] (Zf set x):=by
 obtain⟨hk,-,h1,h2⟩:=H9 hs x
 obtain⟨hl,JH⟩:=hb
 generalize H8 set x=k at*
 refine cO Tryz.func116 rfl (by kernel_rfl) ?_
 refine⟨SeI,aaP 270 [.ptr 0 0,.ptr 1 0] 2 (Zf set x),fun q=>q.i<=k/\k<=q.j/\q.j<=set.length,fun q=>q.j-q.i,⟨0,set.length⟩,fun _=>rfl,jn rfl rfl rfl rfl,⟨adx _,hk,adM _⟩,?_⟩
 rintro q ⟨p1,p2,p3⟩
 refine adh (fun aB=>?_) fun jw=>?_
 ·have aB:q.i<q.j:=by have:=adz aB;simp only[Int.ofNat_lt]at this;exact this
  refine⟨fun _=>by omega,?_⟩
  refine⟨fun _=>by omega,?_⟩
  obtain⟨y,hy⟩:∃y,set[(q.i+q.j)/2]?=some y:=⟨_,abK (by omega)⟩
  refine .inr ⟨[0,1],[.dv (I ((q.i+q.j)/2:Nat)),.ptr 0 0,.ptr 1 0],Zf set x,0,_,_,L3 set x y _ hy (JH y (adl hy)),by kernel_rfl,by kernel_rfl,⟨?_,rfl,rfl,tv⟩,⟨⟨rf,tv⟩,⟨rf,rf,rf,tv⟩,tv⟩,?_⟩
  ·rw[PT (by omega)];exact rf
  rw[PT (by omega)]
  refine adh (fun hb=>?_) fun hb=>?_
  ·have qO:(q.i+q.j)/2<k:=by
    rcases adC ((q.i+q.j)/2) k with h|h
    ·exact h
    ·have:=h2 _ _ h hy;rw[this]at hb;cases hb
   exact⟨fun _=>by omega,⟨(q.i+q.j)/2+1,q.j⟩,jn rfl rfl rfl rfl,⟨qO,p2,p3⟩,by simp only;omega⟩
  ·have ab8:k<=(q.i+q.j)/2:=by
    rcases adC ((q.i+q.j)/2) k with h|h
    ·have:=h1 _ _ h hy;rw[this]at hb;cases hb
    ·exact h
   exact⟨⟨q.i,(q.i+q.j)/2⟩,jn rfl rfl rfl rfl,⟨p1,ab8,by simp only;omega⟩,by simp only;omega⟩
 ·have jw:q.i=q.j:=by have:=adA jw;omega
  have CA:q.i=k:=by omega
  rw[<-CA]
  exact ext (by kernel_rfl) rfl rfl
end
section
open Go.TM
theorem L4{x y:Lt}(hx:aJ x=true)(hy:aJ y=true):(∀z∈gV y x,aJ z=true)/\(gV y x).length<=2:=by
 have hx:=ak.1 hx
 have hy:=ak.1 hy
 obtain⟨a1,a2,_⟩:=Ka hy.2.2.1 hx.2.2.1
 refine⟨fun z hz=>?_,?_⟩
 ·have b1:=a1.pos z hz
  have b2:=a2 z hz
  rw[ak];omega
 ·unfold gV
  split
  ·simp
  ·split<;>split<;>simp
theorem Bi{l:List Lt}{y:Lt}(hl:∀x∈l,aJ x=true)(hy:aJ y=true):(∀z∈jq l y,aJ z=true)/\(jq l y).length<=2*l.length:=by
 induction l with
 |nil=>exact⟨fun _ h=>(by cases h),adM _⟩
 |cons x l ih=>
  obtain⟨a1,a2⟩:=L4 (hl x adu) hy
  obtain⟨b1,b2⟩:=ih fun z hz=>hl z (adq _ hz)
  have e:jq (x::l) y=gV y x++jq l y:=rfl
  rw[e]
  refine⟨fun z hz=>?_,by simp only[adv,List.length_cons];omega⟩
  rcases adr.1 hz with hz|hz
  ·exact a1 z hz
  ·exact b1 z hz
def yI(l:List Lt)(y:Lt)(i:Nat):List Lt:=jq (l.take i) y
theorem L5{l:List Lt}{y x:Lt}{i:Nat}(hx:l[i]?=some x):yI l y (i+1)=yI l y i++gV y x:=by
 unfold yI jq;rw[ads,hx,List.flatMap_append];simp
def th(x:Lt)(P:List Lt)(k:Nat):List Lt:=(P.take k).foldl jq [x]
theorem Bj{x y:Lt}{P:List Lt}{k:Nat}(hy:P[k]?=some y):th x P (k+1)=jq (th x P k) y:=by
 unfold th;rw[ads,hy,adI];rfl
theorem Ft{y:Lt}(hy:1<=y.n):∀{l:List Lt},NS l->(jq l y).length<=l.length+1
 |[],_=>by simp[jq]
 |x::l,h=>by
  have e:jq (x::l) y=gV y x++jq l y:=rfl
  rw[e,adv]
  by_cases hc:x.f=y.f/\y.a+y.n<x.a+x.n
  ·have ry:jq l y=l:=by
    have:∀z∈l,gV y z=[z]:=fun z hz=>by
     have:=h.head.2 z hz
     unfold Ab at this
     unfold gV
     rw[if_pos (by omega)]
    clear e hc
    induction l with
    |nil=>rfl
    |cons z l ih=>
     show gV y z++jq l y=_
     have h2:=h.tail
     rw[this z adu,ih ⟨(List.pairwise_cons.2 ⟨fun w hw=>h.head.2 w (adq _ hw),h2.tail.pF⟩),fun w hw=>by
      rcases adp.1 hw with rfl|hw
      ·exact h.head.1
      ·exact h2.tail.pos w hw⟩ fun w hw=>this w (adq _ hw)]
     rfl
   rw[ry]
   have:(gV y x).length<=2:=by
    unfold gV
    split
    ·simp
    ·split<;>split<;>simp
   simp only[List.length_cons];omega
  ·have:(gV y x).length<=1:=by
    unfold gV
    split
    ·simp
    ·rw[if_neg (show¬y.a+y.n<x.a+x.n by omega)];split<;>simp
   have:=Ft hy h.tail
   simp only[List.length_cons];omega
theorem CJ{x:Lt}{P:List Lt}(hx:aJ x=true)(hP:∀y∈P,aJ y=true):∀k,(∀z∈th x P k,aJ z=true)/\NS (th x P k)/\(th x P k).length<=k+1
 |0=>⟨fun z hz=>by rw[show th x P 0=[x]from rfl,ado]at hz;subst hz;exact hx,⟨adQ _ _,fun z hz=>by rw[show th x P 0=[x]from rfl,ado]at hz;subst hz;exact(ak.1 hx).2.2.1⟩,adM _⟩
 |k+1=>by
  obtain⟨h1,h2,h3⟩:=CJ hx hP k
  cases hy:P[k]? with
  |none=>
   have:th x P (k+1)=th x P k:=by unfold th;rw[ads,hy];simp
   rw[this];exact⟨h1,h2,by omega⟩
  |some y=>
   have hp:=hP y (adl hy)
   rw[Bj hy]
   have h4:=Ft (ak.1 hp).2.2.1 h2
   exact⟨(Bi h1 hp).1,(Cw (ak.1 hp).2.2.1 h2).1,by omega⟩
def Fu(s P:List Lt)(i:Nat):List Lt:=((s.take i).flatMap fun x=>mQ x P).foldl aT []
theorem tl:∀(r l:List Lt),(∀x∈r,aJ x=true)->(∀x∈l,aJ x=true)->(∀x∈r.foldl aT l,aJ x=true)/\(r.foldl aT l).length<=l.length+r.length
 |[],l,_,h=>⟨h,adM _⟩
 |x::r,l,hr,h=>by
  have hp:=ak.1 (hr x adu)
  have h1:=iF h ⟨hp.1,hp.2.1,by omega,hp.2.2.2⟩
  have h2:=tl r (aT l x) (fun y hy=>hr y (adq _ hy)) h1
  have h3:=fb l x
  exact⟨h2.1,by rw[List.foldl_cons,List.length_cons];omega⟩
variable [aW]
theorem L6(l:List Lt)(y:Lt)(hl:∀x∈l,aJ x=true)(hy:aJ y=true)(hn:l.length<=9000):ai Tryz.prog 226 [aR l,aD y] [aR (jq l y)]:=by
 refine pO Tryz.func226 rfl (by kernel_rfl) rfl ?_
 have hyp:=ak.1 hy
 refine⟨Nat,fun i=>⟨2,[(0,.dv (aR l)),(3,.ptr 0 0),(5,.own 1 0 0 []),(6,.dv (I i))],[(0,.cells (cLt y)),(1,.tree 0 0 (.aI 3 ((yI l y i).map aD)))]⟩,fun i=>i<=l.length,fun i=>l.length-i,0,fun _=>rfl,⟨⟨rf,rfl,⟨rfl,rfl,rfl,rfl,3,rfl⟩,rf,tv⟩,⟨⟨rf,rf,rf,tv⟩,⟨rfl,rfl,3,rfl⟩,tv⟩,rfl,rfl⟩,adx _,?_⟩
 rintro i hi
 refine adh ?_ ?_
 ·intro h
  have aB:i<l.length:=by have:=adz h;rw[adi]at this;omega
  obtain⟨x,hx⟩:∃x,l[i]?=some x:=⟨_,abK aB⟩
  have ND:=ak.1 (hl x (adl hx))
  have fM:=L5 (y:=y) hx
  have gP:(yI l y i).length<=2*i:=by
   have:=(Bi (l:=l.take i) (fun z hz=>hl z (List.mem_of_mem_take hz)) hy).2
   rw[adD]at this;unfold yI;omega
  have ix:(l.map aD)[(i:Int).toNat]?=some (aD x):=by rw[adk];simp[hx]
  generalize hz:yI l y i=z at*
  have l1:(z.map aD).length<=20000:=by rw[adi];omega
  repeat first|refine gG ?_|refine⟨fun _=>by omega,?_⟩|refine⟨aD x,fun _=>⟨by omega,ix⟩,?_⟩|refine⟨by kernel_rfl,?_⟩
  refine adh ?_ ?_
  ·intro h
   have hc:x.f≠y.f\/y.a+y.n<=x.a\/x.a+x.n<=y.a:=by simp at h;omega
   have e:yI l y (i+1)=z++[x]:=by rw[fM];unfold gV;rw[if_pos hc]
   refine⟨aD x,fun _=>⟨by omega,ix⟩,?_⟩
   refine .inl ⟨[aD x],rfl,⟨rf,rf,rf,tv⟩,(by simp;rfl),?_⟩
   refine .inr ⟨[aD x],bW.refl _,bL (by simp only[List.length_cons,List.length_nil];omega),by simp only[List.length_cons,List.length_nil];omega,?_⟩
   exact⟨fun _=>by omega,i+1,jn (by simp only[e];rfl) (by simp only[e,adB];rfl) rfl rfl,by omega,mlt aB⟩
  ·intro h
   have hc:¬(x.f≠y.f\/y.a+y.n<=x.a\/x.a+x.n<=y.a):=by simp at h;omega
   have e:yI l y (i+1)=z++((if x.a<y.a then[⟨y.f,x.a,y.a-x.a⟩]else[])++(if y.a+y.n<x.a+x.n then[⟨y.f,y.a+y.n,x.a+x.n-y.a-y.n⟩]else[])):=by rw[fM];unfold gV;rw[if_neg hc]
   refine adh ?_ ?_
   ·intro h2
    have h2:=adz h2
    repeat first|refine⟨fun _=>by omega,?_⟩
    refine .inl ⟨[aD ⟨y.f,x.a,y.a-x.a⟩],rfl,⟨rf,rf,rf,tv⟩,(by simp;rfl),?_⟩
    refine .inr ⟨[aD ⟨y.f,x.a,y.a-x.a⟩],bW.refl _,bL (by simp only[adv,List.length_cons,List.length_nil];omega),by simp only[adv,List.length_cons,List.length_nil];omega,?_⟩
    repeat first|refine⟨fun _=>by omega,?_⟩
    refine adh ?_ ?_
    ·intro h3
     have h3:=adz h3
     rw[if_pos h2,if_pos h3]at e
     repeat first|refine⟨fun _=>by omega,?_⟩
     refine .inl ⟨[aD ⟨y.f,y.a+y.n,x.a+x.n-y.a-y.n⟩],rfl,⟨rf,rf,rf,tv⟩,(by simp;rfl),?_⟩
     refine .inr ⟨[aD ⟨y.f,y.a+y.n,x.a+x.n-y.a-y.n⟩],bW.refl _,bL (by simp only[adv,List.length_cons,List.length_nil];omega),by simp only[adv,List.length_cons,List.length_nil];omega,?_⟩
     exact⟨fun _=>by omega,i+1,jn (by simp only[e];rfl) (by simp only[e,adB,List.append_nil,List.nil_append,adJ];rfl) rfl rfl,by omega,mlt aB⟩
    ·intro h3
     have h3:=adA h3
     rw[if_pos h2,if_neg h3]at e
     exact⟨fun _=>by omega,i+1,jn (by simp only[e];rfl) (by simp only[e,adB,List.append_nil,List.nil_append,adJ];rfl) rfl rfl,by omega,mlt aB⟩
   ·intro h2
    have h2:=adA h2
    repeat first|refine⟨fun _=>by omega,?_⟩
    refine adh ?_ ?_
    ·intro h3
     have h3:=adz h3
     rw[if_neg h2,if_pos h3]at e
     repeat first|refine⟨fun _=>by omega,?_⟩
     refine .inl ⟨[aD ⟨y.f,y.a+y.n,x.a+x.n-y.a-y.n⟩],rfl,⟨rf,rf,rf,tv⟩,(by simp;rfl),?_⟩
     refine .inr ⟨[aD ⟨y.f,y.a+y.n,x.a+x.n-y.a-y.n⟩],bW.refl _,bL (by simp only[adv,List.length_cons,List.length_nil];omega),by simp only[adv,List.length_cons,List.length_nil];omega,?_⟩
     exact⟨fun _=>by omega,i+1,jn (by simp only[e];rfl) (by simp only[e,adB,List.append_nil,List.nil_append,adJ];rfl) rfl rfl,by omega,mlt aB⟩
    ·intro h3
     have h3:=adA h3
     rw[if_neg h2,if_neg h3]at e
     exact⟨fun _=>by omega,i+1,jn (by simp only[e];rfl) (by simp only[e,adB,List.append_nil,List.nil_append,adJ];rfl) rfl rfl,by omega,mlt aB⟩
 ·intro h
  have he:i=l.length:=by have:=adA h;rw[adi]at this;omega
  subst he
  have:yI l y l.length=jq l y:=by unfold yI;rw[ady]
  rw[this]
  exact⟨qv _,tv⟩
end
section
open Go.TM
def Fv:Code->Option RC
 |.seq a b=>match Fv a with
  |some r=>some r
  |none=>Fv b
 |.cond _ a b=>match Fv a with
  |some r=>some r
  |none=>Fv b
 |.block _ c=>Fv c
 |.scope c=>Fv c
 |.loop c=>Fv c
 |.rangeFunc _ ps a b=>some ⟨ps,a,b⟩
 |_=>none
def qX(f:Func):RC:=match f.body with
 |some c=>(match Fv c with
  |some r=>r
  |none=>⟨#[],.skip,.skip⟩)
 |none=>⟨#[],.skip,.skip⟩
abbrev ZZ:=List Lt×List Lt
def dO(x s:Lt):Int:=if 0<s.a-x.a then s.a-x.a else 0
def jr(x s:Lt):Int:=if s.a+s.n-(x.a+dO x s)<x.n-dO x s then s.a+s.n-(x.a+dO x s)else x.n-dO x s
def NH(x s:Lt):Bool:=decide (0<x.n)&&(s.f==x.f&&decide (s.a<x.a+x.n))
theorem CK{x s:Lt}{r:List Lt}(h:NH x s=true):zJ x (s::r)=(if 0<dO x s then[(⟨x.f,x.a,dO x s⟩,false)]else[])++(⟨x.f,x.a+dO x s,jr x s⟩,true)::zJ ⟨x.f,x.a+dO x s+jr x s,x.n-dO x s-jr x s⟩ r:=by
 simp only[NH,adT,decide_eq_true_eq,beq_iff_eq]at h
 have e1:dO x s=max 0 (s.a-x.a):=by unfold dO;split<;>omega
 have e2:jr x s=min (x.n-max 0 (s.a-x.a)) (s.a+s.n-(x.a+max 0 (s.a-x.a))):=by unfold jr;rw[e1];split<;>omega
 rw[e2,e1]
 conv=>lhs;unfold zJ
 rw[if_pos h]
theorem Ia{x s:Lt}{r:List Lt}(h:NH x s=false):zJ x (s::r)=if 0<x.n then[(x,false)]else[]:=by
 have h2:¬(0<x.n/\s.f=x.f/\s.a<x.a+x.n):=fun hc=>by
  have:NH x s=true:=by simp only[NH,adT,decide_eq_true_eq,beq_iff_eq];exact hc
  rw[this]at h;cases h
 conv=>lhs;unfold zJ
 rw[if_neg h2]
def GY(n:Nat)(z:ZZ):Prop:=(∀y∈z.1,aJ y=true)/\(∀y∈z.2,aJ y=true)/\z.1.length<=n/\z.2.length<=n
theorem GY.lB{n:Nat}{z:ZZ}(h:GY n z)(hn:n<=100000):lB z.1/\lB z.2:=
 ⟨⟨by have:=h.2.2.1;omega,fun y hy=>by have:=ak.1 (h.1 y hy);omega⟩,⟨by have:=h.2.2.2;omega,fun y hy=>by have:=ak.1 (h.2.1 y hy);omega⟩⟩
theorem GY.put{n:Nat}{z:ZZ}(h:GY n z){p:Lt×Bool}(hp:aJ p.1=true):GY (n+1) (gB z p):=by
 obtain⟨h1,h2,h3,h4⟩:=h
 have hb:=ak.1 hp
 unfold gB
 cases p.2
 ·exact⟨h1,tl [p.1] z.2 (by simpa using hp) h2 |>.1,by show z.1.length<=_;omega,by have:=fb z.2 p.1;show(aT z.2 p.1).length<=_;omega⟩
 ·exact⟨tl [p.1] z.1 (by simpa using hp) h1 |>.1,h2,by have:=fb z.1 p.1;show(aT z.1 p.1).length<=_;omega,by show z.2.length<=_;omega⟩
theorem GY.fold:∀{l:List (Lt×Bool)} {n:Nat} {z:ZZ},GY n z->(∀p∈l,aJ p.1=true)->GY (n+l.length) (l.foldl gB z)
 |[],n,z,h,_=>h
 |p::l,n,z,h,hp=>by
  have:=GY.fold (h.put (hp p adu)) fun q hq=>hp q (adq _ hq)
  rw[List.length_cons,show n+(l.length+1)=n+1+l.length by omega]
  exact this
theorem Km:∀(s:List Lt) (x:Lt),(zJ x s).length<=2*s.length+1
 |[],x=>by unfold zJ;split<;>simp
 |s::r,x=>by
  cases h:NH x s with
  |true=>
   rw[CK h]
   have:=Km r ⟨x.f,x.a+dO x s+jr x s,x.n-dO x s-jr x s⟩
   simp only[adv,List.length_cons]
   split<;>simp<;>omega
  |false=>rw[Ia h];split<;>simp
theorem Fw(set:List Lt)(x:Lt):(kC set x).length<=2*set.length+1:=by
 have h1:=Km (set.dropWhile fun s=>!jX x s) x
 have h2:=(List.dropWhile_sublist (p:=fun s=>!jX x s) (l:=set)).length_le
 unfold kC;omega
theorem CL{set:List Lt}{x:Lt}(hs:NS set)(hx:aJ x=true):∀p∈kC set x,aJ p.1=true:=fun p hp=>by
 have hb:=ak.1 hx
 have:=(jI hs (by omega:0<=x.n)).pos p hp
 rw[ak];omega
end
section
open Go.TM
variable [aW]
def zP(v:Nat)(rc:RC)(z:ZZ):ae:=[(0,.dF rc .ready (((List.replicate 22 .any).set 4 (.ptr 1 0)).set 5 (.ptr 2 0))),(1,.cells [.own 3 v 0 []]),(2,.cells [.own 4 v 0 []]),(3,.tree v 0 (.aI 3 (z.1.map aD))),(4,.tree v 0 (.aI 3 (z.2.map aD)))]
theorem XG(z:ZZ)(x:Lt)(b:Bool)(h1:lB z.1)(h2:lB z.2)(hx:0<=x.n/\x.n<=1099511627776):dr Tryz.prog [cP (aD x),.dv (B b)] 5 (zP 1 (qX Tryz.f237) z) 0 fun r k=>r=[.dv (B true)]/\k=zP 1 (qX Tryz.f237) (gB z (x,b)):=by
 refine mL aG mixed rfl (by kernel_rfl) ?_
 cases b with
 |true=>
  refine adh (fun _=>?_) fun h=>by cases h
  refine .inr (cl [3] (Bh z.1 x h1 hx) (by kernel_rfl) rfl rfl ?_)
  exact ext (by kernel_rfl) rfl rfl
 |false=>
  refine adh (fun h=>by cases h) fun _=>?_
  refine .inr (cl [4] (Bh z.2 x h2 hx) (by kernel_rfl) rfl rfl ?_)
  exact ext (by kernel_rfl) rfl rfl
theorem CM{rc:RC}{z:ZZ}{a:List AV}:Go.TM.Start 4 [(0,.dF rc .ready (((List.replicate 22 .any).set 4 (.ptr 1 0)).set 5 (.ptr 2 0))),(1,.cells [.own 3 1 0 []]),(2,.cells [.own 4 0 0 []]),(3,.tree 1 0 (.aI 3 (z.1.map aD))),(4,.tree 0 0 (.aI 3 (z.2.map aD)))] (zP 1 rc z) a a/\
 Go.TM.Start 3 (zP 0 rc z) [(0,.dF rc .ready (((List.replicate 22 .any).set 4 (.ptr 1 0)).set 5 (.ptr 2 0))),(1,.cells [.own 3 1 0 []]),(2,.cells [.own 4 0 0 []]),(3,.tree 1 0 (.aI 3 (z.1.map aD))),(4,.tree 0 0 (.aI 3 (z.2.map aD)))] a a:=by
 refine⟨⟨⟨_,rfl,rfl,fun j hj=>?_⟩,iI.refl _ _ _ _⟩,⟨_,rfl,rfl,fun j hj=>?_⟩,iI.refl _ _ _ _⟩
 ·match j,hj with
  |0,_=>exact .refl _
  |1,_=>exact .refl _
  |2,_=>exact .cells (.qW .nil)
  |3,_=>exact .refl _
  |j+5,_=>exact .refl _
 ·match j,hj with
  |0,_=>exact .refl _
  |1,_=>exact .cells (.qW .nil)
  |2,_=>exact .refl _
  |4,_=>exact .refl _
  |j+5,_=>exact .refl _
theorem Ib(z:ZZ)(x:Lt)(b:Bool)(h1:lB z.1)(h2:lB z.2)(hx:0<=x.n/\x.n<=1099511627776):dr Tryz.prog [cP (aD x),.dv (B b)] 5 (zP 0 (qX Tryz.f237) z) 0 fun r k=>r=[.dv (B true)]/\k=zP 1 (qX Tryz.f237) (gB z (x,b)):=
 iZ 3 (iZ 4 (XG z x b h1 h2 hx) CM.1) CM.2
def Zg(v:Nat)(rc:RC)(l set:List Lt)(z:ZZ):ae:=[(0,.dF rc .ready (((List.replicate 22 .any).set 4 (.ptr 1 0)).set 5 (.ptr 2 0))),(1,.cells [.own 5 v 0 []]),(2,.cells [.own 6 v 0 []]),(3,.cells [.dv (aR l)]),(4,.cells [.dv (aR set)]),(5,.tree v 0 (.aI 3 (z.1.map aD))),(6,.tree v 0 (.aI 3 (z.2.map aD)))]
structure ItS where
 j:Nat
 x:Lt
 z:ZZ
def zN(l set:List Lt)(z:ZZ)(i:Nat):ZZ:=((l.take i).flatMap (kC set)).foldl gB z
theorem Ko{l set:List Lt}{z:ZZ}{i:Nat}{x:Lt}(h:l[i]?=some x):zN l set z (i+1)=(kC set x).foldl gB (zN l set z i):=by
 unfold zN;rw[ads,h,List.flatMap_append,adI];simp
theorem GY.mono{m n:Nat}{z:ZZ}(h:GY m z)(Zh:m<=n):GY n z:=⟨h.1,h.2.1,Nat.le_trans h.2.2.1 Zh,Nat.le_trans h.2.2.2 Zh⟩
theorem Wb{l set:List Lt}{z:ZZ}(hl:∀x∈l,aJ x=true)(hs:NS set)(hz:GY 0 z):∀i,GY (i*(2*set.length+1)) (zN l set z i)
 |0=>by rw[Nat.zero_mul];exact hz
 |i+1=>by
  have ih:=Wb hl hs hz i
  cases h:l[i]? with
  |none=>
   have:zN l set z (i+1)=zN l set z i:=by unfold zN;rw[ads,h];simp
   rw[this]
   exact ih.mono (adN _ (by omega))
  |some x=>
   rw[Ko h]
   have h1:=ih.fold (CL hs (hl x (adl h)))
   have h2:=Fw set x
   exact h1.mono (by rw[Nat.add_mul,Nat.one_mul];omega)
theorem XH{l set:List Lt}{z:ZZ}{i:Nat}{x:Lt}(hl:∀x∈l,aJ x=true)(hs:NS set)(hz:GY 0 z)(hx:l[i]?=some x)(ck:l.length*(2*set.length+1)<=90000){pre suf:List (Lt×Bool)}(h:kC set x=pre++suf):
 lB (pre.foldl gB (zN l set z i)).1/\lB (pre.foldl gB (zN l set z i)).2:=by
 have h1:=(Wb hl hs hz i).fold (l:=pre) fun p hp=>CL hs (hl x (adl hx)) p (by rw[h];exact List.mem_append_left _ hp)
 have h2:=Fw set x
 have h3:=congrArg List.length h
 rw[adv]at h3
 have hi:=(adj.1 hx).1
 have h4:(i+1)*(2*set.length+1)<=l.length*(2*set.length+1):=adN _ hi
 rw[Nat.add_mul,Nat.one_mul]at h4
 exact h1.lB (by omega)
theorem XI(rc:RC)(l set:List Lt)(z:ZZ)(hl:∀x∈l,aJ x=true)(hs:NS set)(hp:∀x∈set,aJ x=true)(CN:l.length<=5000)(gP:set.length<=5000)(hz:GY 0 z)(ck:l.length*(2*set.length+1)<=90000)
 (hY:∀(z:ZZ) (x:Lt) (b:Bool),lB z.1->lB z.2->0<=x.n/\x.n<=1099511627776->dr Tryz.prog [cP (aD x),.dv (B b)] 5 (zP 0 rc z) 0 fun r k=>r=[.dv (B true)]/\k=zP 1 rc (gB z (x,b))):
 aw Tryz.prog 269 [.eC 0,.ptr 3 0,.ptr 4 0] 7 (Zg 1 rc l set z) 0 [] (Zg 1 rc l set ((l.flatMap (kC set)).foldl gB z)):=by
 refine cO Tryz.func269 rfl (by kernel_rfl) ?_
 have ll:(l.map aD).length=l.length:=adi ..
 have ls:(set.map aD).length=set.length:=adi ..
 refine⟨Nat,fun i=>⟨7,[(0,.eC 0),(1,.ptr 3 0),(2,.ptr 4 0),(9,.dv (aR l)),(10,.dv (I l.length)),(11,.dv (I i))],Zg 1 rc l set (zN l set z i)⟩,fun i=>i<=l.length,fun i=>l.length-i,0,fun _=>rfl,jn (by simp only[ll];rfl) rfl rfl rfl,adx _,?_⟩
 rintro i hi
 refine adh (fun h=>?_) fun h=>?_
 ·have aB:i<l.length:=by have:=adz h;omega
  obtain⟨x,hx⟩:∃x,l[i]?=some x:=⟨_,abK aB⟩
  have ix:(l.map aD)[(i:Int).toNat]?=some (aD x):=by rw[adk];simp[hx]
  have ND:=hl x (adl hx)
  have Fh:=ak.1 ND
  have hpp:=(jI hs (by omega:0<=x.n)).pos
  have vC:=CL hs ND
  have fM:=Ko (set:=set) (z:=z) hx
  have hlb:lB set:=⟨by omega,fun y hy=>by have:=ak.1 (hp y hy);omega⟩
  obtain⟨hk,aS,ql,JK⟩:=H9 hs x
  refine⟨aD x,fun _=>⟨by omega,ix⟩,?_⟩
  have hse:=tg set x hs hlb
  rw[<-ls]at hse
  refine .inr (cl [4,7] hse (by kernel_rfl) rfl rfl ?_)
  have hM:kC set x=zJ x (set.drop (H8 set x)):=by unfold kC;rw[aS]
  generalize hz0:zN l set z i=zi at*
  refine⟨ItS,fun q=>⟨8,[(0,.eC 0),(1,.ptr 3 0),(2,.ptr 4 0),(9,.dv (aR l)),(10,.dv (I l.length)),(11,.dv (I i)),(5,.ptr 7 0),(6,.dv (I q.j))],Zg 1 rc l set q.z++[(7,.cells (fp (aD q.x).cells))]⟩,fun q=>q.j<=set.length/\q.x.f=x.f/\x.a<=q.x.a/\q.x.a+q.x.n=x.a+x.n/\0<=q.x.n/\∃pre,kC set x=pre++zJ q.x (set.drop q.j)/\q.z=pre.foldl gB zi,fun q=>set.length-q.j,⟨H8 set x,x,zi⟩,fun _=>rfl,jn rfl rfl rfl rfl,⟨hk,rfl,Int.le_refl _,rfl,by show 0<=x.n;omega,[],hM,rfl⟩,?_⟩
  rintro⟨j,y,w⟩ ⟨hj,hf,ha,hn,Ul,pre,kj,hw⟩
  dsimp only at hj hf ha hn Ul kj hw⊢
  have XJ:∀{p s:List (Lt×Bool)},kC set x=p++s->lB (p.foldl gB zi).1/\lB (p.foldl gB zi).2:=fun h=>by
   rw[<-hz0];exact XH hl hs hz hx ck h
  obtain⟨s,rU⟩:∃s,j<set.length->set[j]?=some s:=by
   by_cases h:j<set.length
   ·exact⟨set[j],fun _=>abK h⟩
   ·exact⟨x,fun h2=>absurd h2 h⟩
  have is:bw (bif decide (0<y.n)then decide ((j:Int)<(((set.map aD).length:Nat):Int))else false) true=true->(0:Int)<=j/\(set.map aD)[(j:Int).toNat]?=some (aD s):=fun hg=>by
   have qO:j<set.length:=by have:=adz (bZ (gL hg)).2;omega
   refine⟨by omega,?_⟩
   rw[adk];simp[rU qO]
  repeat refine gG ?_
  refine⟨aD s,fun h=>is h,?_⟩
  repeat refine gG ?_
  refine⟨aD s,fun h=>is (nP (bZ (gL h)).1),?_⟩
  repeat refine gG ?_
  refine⟨fun _=>by omega,?_⟩
  repeat refine gG ?_
  refine⟨by kernel_rfl,adh (fun hc=>?_) fun hc=>?_⟩
  ·have c1:=bZ hc
   have c2:=bZ c1.1
   have c3:=bZ c2.1
   have qO:j<set.length:=by have:=adz c3.2;omega
   have rU:=rU qO
   have hsb:=ak.1 (hp s (adl rU))
   have hg:NH y s=true:=by unfold NH;rw[c3.1,c2.2,c1.2];rfl
   have hdj:set.drop j=s::set.drop (j+1):=by
    rw[List.drop_eq_getElem_cons qO]
    rw[abK qO]at rU
    injection rU with rU
    rw[rU]
   rw[hdj,CK hg]at kj
   have io:(0:Int)<=j/\(set.map aD)[(j:Int).toNat]?=some (aD s):=⟨by omega,by rw[adk];simp[rU]⟩
   refine⟨aD s,fun _=>io,fun _=>by omega,?_⟩
   refine⟨by kernel_rfl,?_⟩
   repeat refine gG ?_
   have ji:=XJ kj
   rw[<-hw]at ji
   by_cases hO:0<dO y s
   ·have sr:bw (decide (0<dO y s)) true=true:=nP (adF hO)
    rw[if_pos hO]at kj
    have hm1:=hpp (⟨y.f,y.a,dO y s⟩,false) (by rw[kj];simp)
    have T8:=hpp (⟨y.f,y.a+dO y s,jr y s⟩,true) (by rw[kj];simp)
    dsimp only at hm1 T8
    refine .inl (PR [0,1,2,5,6] (hY w ⟨y.f,y.a,dO y s⟩ false ji.1 ji.2 (by show 0<=dO y s/\dO y s<=_;omega)) (by kernel_rfl) rfl rfl ?_)
    refine⟨sr,fun _=>rfl,fun _ h=>nP h,adh (fun h=>by cases(bZ h).2) fun _=>?_⟩
    have ct:=XJ (p:=pre++[(⟨y.f,y.a,dO y s⟩,false)]) (by rw[kj];simp;rfl)
    rw[adI,<-hw]at ct
    refine⟨fun _=>by omega,fun _=>by omega,?_⟩
    refine⟨aD s,fun _=>io,aD s,fun _=>io,fun _=>by omega,fun _=>by omega,?_⟩
    refine⟨by kernel_rfl,?_⟩
    refine .inl (PR [0,1,2,5,6] (hY (gB w (⟨y.f,y.a,dO y s⟩,false)) ⟨y.f,y.a+dO y s,jr y s⟩ true ct.1 ct.2 (by show 0<=jr y s/\jr y s<=_;omega)) (by kernel_rfl) rfl rfl ?_)
    refine adh (fun h=>by cases h) fun _=>?_
    refine⟨fun _=>by omega,fun _=>by omega,fun _=>by omega,⟨j+1,⟨y.f,y.a+dO y s+jr y s,y.n-dO y s-jr y s⟩,gB (gB w (⟨y.f,y.a,dO y s⟩,false)) (⟨y.f,y.a+dO y s,jr y s⟩,true)⟩,jn rfl rfl rfl rfl,⟨qO,hf,by dsimp only;omega,by dsimp only;omega,by dsimp only;omega,(pre++[(⟨y.f,y.a,dO y s⟩,false)])++[(⟨y.f,y.a+dO y s,jr y s⟩,true)],by rw[kj];simp,by rw[hw];simp⟩,by dsimp only;omega⟩
   ·have Wc:bw (decide (0<dO y s)) true=false:=by rw[adG hO];rfl
    have h0:0<=dO y s:=by unfold dO;split<;>omega
    rw[if_neg hO,List.nil_append]at kj
    have T8:=hpp (⟨y.f,y.a+dO y s,jr y s⟩,true) (by rw[kj];simp)
    dsimp only at T8
    have ct:=ji
    refine .inr ⟨Wc,.dv (B false),fun h=>h,fun _ h=>nP h,adh (fun h=>absurd (adz (bZ h).1) hO) fun _=>?_⟩
    refine⟨fun _=>by omega,fun _=>by omega,?_⟩
    refine⟨aD s,fun _=>io,aD s,fun _=>io,fun _=>by omega,fun _=>by omega,?_⟩
    refine⟨by kernel_rfl,?_⟩
    refine .inl (PR [0,1,2,5,6] (hY (w) ⟨y.f,y.a+dO y s,jr y s⟩ true ct.1 ct.2 (by show 0<=jr y s/\jr y s<=_;omega)) (by kernel_rfl) rfl rfl ?_)
    refine adh (fun h=>by cases h) fun _=>?_
    refine⟨fun _=>by omega,fun _=>by omega,fun _=>by omega,⟨j+1,⟨y.f,y.a+dO y s+jr y s,y.n-dO y s-jr y s⟩,gB (w) (⟨y.f,y.a+dO y s,jr y s⟩,true)⟩,jn rfl rfl rfl rfl,⟨qO,hf,by dsimp only;omega,by dsimp only;omega,by dsimp only;omega,pre++[(⟨y.f,y.a+dO y s,jr y s⟩,true)],by rw[kj];simp,by rw[hw];simp⟩,by dsimp only;omega⟩
  ·have iO:zJ y (set.drop j)=if 0<y.n then[(y,false)]else[]:=by
    by_cases BS:j<set.length
    ·have rU:=rU BS
     rw[List.drop_eq_getElem_cons BS]
     rw[abK BS]at rU
     injection rU with rU
     rw[rU]
     refine Ia ?_
     have h2:=gI hc
     rw[Bool.eq_false_iff]
     intro hg
     simp only[NH,adT]at hg
     exact h2 ⟨by rw[hg.1,adF (by omega),hg.2.1];rfl,hg.2.2⟩
    ·rw[List.drop_eq_nil_of_le (by omega)]
     conv=>lhs;unfold zJ
   have ji:=XJ kj
   rw[<-hw]at ji
   rw[iO]at kj
   rw[kj,adI,<-hw]at fM
   repeat refine gG ?_
   by_cases hO:0<y.n
   ·have sr:bw (decide (0<y.n)) true=true:=nP (adF hO)
    rw[if_pos hO]at fM
    refine .inl (PR [0,1,2,5,6] (hY w y false ji.1 ji.2 (by omega)) (by kernel_rfl) rfl rfl ?_)
    refine⟨sr,fun _=>rfl,fun _ h=>nP h,adh (fun h=>by cases(bZ h).2) fun _=>?_⟩
    exact⟨fun _=>by omega,i+1,jn rfl (by simp only[fM];rfl) rfl rfl,aB,mlt aB⟩
   ·have Wc:bw (decide (0<y.n)) true=false:=by rw[adG hO];rfl
    rw[if_neg hO]at fM
    refine .inr ⟨Wc,.dv (B false),fun h=>h,fun _ h=>nP h,adh (fun h=>absurd (adz (bZ h).1) hO) fun _=>?_⟩
    exact⟨fun _=>by omega,i+1,jn rfl (by simp only[fM];rfl) rfl rfl,aB,mlt aB⟩
 ·have he:i=l.length:=by have:=adA h;omega
  subst he
  have:zN l set z l.length=(l.flatMap (kC set)).foldl gB z:=by unfold zN;rw[ady]
  rw[this]
  exact ext (by kernel_rfl) rfl rfl
end
section
open Go.TM
variable [aW]
def Um:List AV->List AV->Bool
 |[],[]=>true
 |.any::r,_::l=>Um r l
 |.ptr i o::r,.ptr j p::l=>Nat.beq i j&&Nat.beq o p&&Um r l
 |_,_=>false
theorem iG{m:Nat}{κ κ':Nat->ax}:∀{r l:List AV},Um r l=true->ed m κ κ' r l
 |[],[],_=>trivial
 |.any::r,_::l,h=>⟨tv,iG (r:=r) (l:=l) h⟩
 |.ptr i o::r,.ptr j p::l,h=>by
  simp only[Um,adT]at h
  have h1:=adm h.1.1
  have h2:=adm h.1.2
  subst h1;subst h2
  exact⟨rfl,iG h.2⟩
theorem rV(l:List Lt):(oT (.aI 3 (l.map aD))).Le (aR l):=DV.Le.of_eq (by
 show DV.sl 3 (wW (l.map aD))=_
 rw[fq (fun _=>rfl)])
theorem vF(l set:List Lt):aw Tryz.prog 248 [.dv (aR l),.dv (aR set)] 0 [] 2 [.fn 269 [.ptr 0 0,.ptr 1 0]] [(0,.cells [.dv (aR l)]),(1,.cells [.dv (aR set)])]:=by
 refine cO Tryz.func248 rfl (by kernel_rfl) ?_
 exact ext (by kernel_rfl) rfl rfl
def kI0(rc:RC)(l set:List Lt):ae:=[(0,.dF rc .ready (((List.replicate 22 .any).set 4 (.ptr 1 0)).set 5 (.ptr 2 0))),(1,.cells [.dv .aH]),(2,.cells [.dv .aH]),(3,.cells [.dv (aR l)]),(4,.cells [.dv (aR set)])]
def kI1(rc:RC)(l set:List Lt):ae:=[(0,.dF rc .ready (((List.replicate 22 .any).set 4 (.ptr 1 0)).set 5 (.ptr 2 0))),(1,.cells [.own 5 0 0 []]),(2,.cells [.dv .aH]),(3,.cells [.dv (aR l)]),(4,.cells [.dv (aR set)]),(5,.tree 0 0 (.aI 3 []))]
def kI2(rc:RC)(l set:List Lt):ae:=[(0,.dF rc .ready (((List.replicate 22 .any).set 4 (.ptr 1 0)).set 5 (.ptr 2 0))),(1,.cells [.own 5 1 0 []]),(2,.cells [.own 6 0 0 []]),(3,.cells [.dv (aR l)]),(4,.cells [.dv (aR set)]),(5,.tree 1 0 (.aI 3 [])),(6,.tree 0 0 (.aI 3 []))]
theorem Ic(rc:RC)(l set:List Lt)(hl:∀x∈l,aJ x=true)(hs:NS set)(hp:∀x∈set,aJ x=true)(CN:l.length<=5000)(gP:set.length<=5000)(ck:l.length*(2*set.length+1)<=90000)
 (hY:∀(z:ZZ) (x:Lt) (b:Bool),lB z.1->lB z.2->0<=x.n/\x.n<=1099511627776->dr Tryz.prog [cP (aD x),.dv (B b)] 5 (zP 0 rc z) 0 fun r k=>r=[.dv (B true)]/\k=zP 1 rc (gB z (x,b))):
 aw Tryz.prog 269 [.eC 0,.ptr 3 0,.ptr 4 0] 5 (kI0 rc l set) 2 [] (Zg 1 rc l set (kD l set)):=by
 have h1:=XI rc l set ([],[]) hl hs hp CN gP ⟨fun _ h=>(by cases h),fun _ h=>(by cases h),adM _,adM _⟩ ck hY
 have h2:=cQ 6 (K0:=kI2 rc l set) h1 ⟨⟨_,rfl,rfl,fun j hj=>(by match j,hj with|0,_=>exact .refl _|1,_=>exact .refl _|2,_=>exact .cells (.qW .nil)|3,_=>exact .refl _|4,_=>exact .refl _|5,_=>exact .refl _|j+7,_=>exact .refl _)⟩,iI.refl _ _ _ _⟩
 have h3:=cQ 5 (K0:=Zg 0 rc l set ([],[])) h2 ⟨⟨_,rfl,rfl,fun j hj=>(by match j,hj with|0,_=>exact .refl _|1,_=>exact .cells (.qW .nil)|2,_=>exact .refl _|3,_=>exact .refl _|4,_=>exact .refl _|6,_=>exact .refl _|j+7,_=>exact .refl _)⟩,iI.refl _ _ _ _⟩
 have h4:=ir (K2:=kI1 rc l set) (args2:=[.eC 0,.ptr 3 0,.ptr 4 0]) h3 rfl rfl (fun j hj=>(by match j,hj with|0,_=>exact .inl ⟨rfl,rfl⟩|1,_=>exact .inl ⟨rfl,rfl⟩|2,_=>exact .inr ⟨_,_,rfl,rfl,.born .nil⟩|3,_=>exact .inl ⟨rfl,rfl⟩|4,_=>exact .inl ⟨rfl,rfl⟩|5,_=>exact .inl ⟨rfl,rfl⟩|j+7,_=>exact .inl ⟨rfl,rfl⟩)) (.same _ rfl (.same _ rfl (.same _ rfl .nil)))
 exact ir (K2:=kI0 rc l set) (args2:=[.eC 0,.ptr 3 0,.ptr 4 0]) h4 rfl rfl (fun j hj=>(by match j,hj with|0,_=>exact .inl ⟨rfl,rfl⟩|1,_=>exact .inr ⟨_,_,rfl,rfl,.born .nil⟩|2,_=>exact .inl ⟨rfl,rfl⟩|3,_=>exact .inl ⟨rfl,rfl⟩|4,_=>exact .inl ⟨rfl,rfl⟩|j+6,_=>exact .inl ⟨rfl,rfl⟩)) (.same _ rfl (.same _ rfl (.same _ rfl .nil)))
theorem j3(l set:List Lt)(hl:∀x∈l,aJ x=true)(hs:NS set)(hp:∀x∈set,aJ x=true)(CN:l.length<=5000)(gP:set.length<=5000)(ck:l.length*(2*set.length+1)<=90000):ai Tryz.prog 237 [aR l,aR set] [aR (kD l set).1,aR (kD l set).2]:=by
 refine pO Tryz.func237 rfl (by kernel_rfl) rfl ?_
 have hi:=Ic (qX Tryz.f237) l set hl hs hp CN gP ck fun z x b a1 a2 a3=>Ib z x b a1 a2 a3
 refine .inr (cl [] (vF l set) (by kernel_rfl) rfl rfl ?_)
 refine⟨qX Tryz.f237,by kernel_rfl,?_⟩
 refine⟨[4,0,1,2,3],[.eC 0,.ptr 3 0,.ptr 4 0],kI0 (qX Tryz.f237) l set,2,_,hi,by kernel_rfl,⟨rfl,rfl,rfl,tv⟩,⟨⟨rfl,rfl,?_⟩,⟨rf,tv⟩,⟨rf,tv⟩,⟨rf,tv⟩,⟨rf,tv⟩,tv⟩,?_⟩
 ·exact iG (by kernel_rfl)
 rintro rs K2 ⟨rfl,rfl⟩
 refine⟨by kernel_rfl,?_⟩
 conv=>whnf
 exact⟨by kernel_rfl,rV _,rV _,tv⟩
end
section
open Go.TM
def XK:List AV:=((((List.replicate 25 .any).set 2 (.ptr 1 0)).set 3 (.ptr 2 0)).set 4 (.ptr 3 0)).set 5 (.ptr 4 0)
def Kp(v:Nat)(rc:RC)(st:wG)(l:List Tok)(p e:Int):ae:=[(0,.dF rc st XK),(1,.cells [.dv .aH]),(2,.cells [.dv (I p)]),(3,.cells [.dv (I e)]),(4,.cells [.own 5 v 0 []]),(5,.tree v 0 (.aI 4 (l.map dW)))]
variable [aW]
theorem ab9{n:Nat}(h:n<=1000000):n*(nth jk (nth jk 266).elem).bytes<=140737488355328:=by
 rw[show(nth jk (nth jk 266).elem).bytes=40 by kernel_rfl];omega
theorem XM(l:List Tok)(t:Tok)(e:Int)(hl:l.length<=10000):dr Tryz.prog [cP (dW t),.dv (I e)] 6 (Kp 1 (qX Tryz.f219) .ready l 0 0) 0 fun r k=>r=[.dv (B (e==0))]/\k=if e=0 then Kp 1 (qX Tryz.f219) .ready (l++[t]) 0 0 else Kp 1 (qX Tryz.f219) (.done .ret) l t.pos e:=by
 by_cases he:e=0
 ·subst he
  refine mL aG mixed rfl (by kernel_rfl) ?_
  refine adh (fun h=>by cases h) fun _=>?_
  refine .inl ⟨[dW t],rfl,⟨rf,rf,rf,rf,tv⟩,(by simp;rfl),?_⟩
  refine .inr ⟨[dW t],bW.refl _,ab9 (by simp;omega),by simp;omega,?_⟩
  rw[show l.map dW++[dW t]=(l++[t]).map dW by simp]
  exact ext (by kernel_rfl) rfl rfl
 ·rw[if_neg he]
  refine mL aG mixed rfl (by kernel_rfl) ?_
  have ZF:(e==0)=false:=beq_eq_false_iff_ne.2 he
  rw[ZF]
  refine adh (fun _=>?_) fun h=>?_
  ·exact⟨by kernel_rfl,ext (by kernel_rfl) rfl rfl⟩
  ·exact absurd (show e=0 by simpa using h) he
theorem XO{rc:RC}{l:List Tok}{a:List AV}:Go.TM.Start 5 (Kp 0 rc .ready l 0 0) (Kp 1 rc .ready l 0 0) a a:=by
 refine⟨⟨_,rfl,rfl,fun j hj=>?_⟩,iI.refl _ _ _ _⟩
 match j,hj with
 |0,_=>exact .refl _
 |1,_=>exact .refl _
 |2,_=>exact .refl _
 |3,_=>exact .refl _
 |4,_=>exact .cells (.qW .nil)
 |j+6,_=>exact .refl _
theorem Ie(l:List Tok)(t:Tok)(e:Int)(hl:l.length<=10000):dr Tryz.prog [cP (dW t),.dv (I e)] 6 (Kp 0 (qX Tryz.f219) .ready l 0 0) 0 fun r k=>r=[.dv (B (e==0))]/\k=if e=0 then Kp 1 (qX Tryz.f219) .ready (l++[t]) 0 0 else Kp 1 (qX Tryz.f219) (.done .ret) l t.pos e:=
 iZ 5 (XM l t e hl) XO
def kTi(v:Nat)(rc:RC)(st:wG)(s:ByteArray)(l:List Tok)(p e:Int):ae:=[(0,.dF rc st XK),(1,.cells [.dv .aH]),(2,.cells [.dv (I p)]),(3,.cells [.dv (I e)]),(4,.cells [.own 6 v 0 []]),(5,.cells [.dv (.str s)]),(6,.tree v 0 (.aI 4 (l.map dW)))]
theorem PV(s:ByteArray)(a:Nat):(pH s a).1.pos=a:=by
 unfold pH
 repeat' split
 all_goals rfl
theorem L7{s:ByteArray}{a:Nat}(h:a<s.size):(pH s a).2=0->0<(pH s a).1.text.size/\a+(pH s a).1.text.size<=s.size:=by
 have h1:=Kg h
 have h2:=Px h
 have h3:s[a+1]?=some 62->a+1<s.size:=fun h=>by
  by_cases hl:a+1<s.size
  ·exact hl
  ·rw[show s[a+1]?=none by simp;omega]at h;cases h
 unfold pH
 repeat' split
 all_goals intro h
 all_goals first|(cases h;done)|(simp only[ByteArray.size_extract];omega)|(have:=h3 (by assumption);simp only[ByteArray.size_extract];omega)
structure TkS where
 m:Nat
 a:Nat
 l:List Tok
theorem XP(rc:RC)(s:ByteArray)(hs:s.size<=8192)(r:List Tok×Nat×Int)(hr:Zb s (s.size+1) (A5 s (s.size+1) 0) []=r)
 (hY:∀(l:List Tok) (t:Tok) (e:Int),l.length<=10000->dr Tryz.prog [cP (dW t),.dv (I e)] 6 (Kp 0 rc .ready l 0 0) 0 fun r k=>r=[.dv (B (e==0))]/\k=if e=0 then Kp 1 rc .ready (l++[t]) 0 0 else Kp 1 rc (.done .ret) l t.pos e):
 aw Tryz.prog 249 [.eC 0,.ptr 5 0] 7 (kTi 1 rc .ready s [] 0 0) 0 [] (kTi 1 rc (if r.2.2=0 then .ready else .done .ret) s r.1 (if r.2.2=0 then 0 else r.2.1) r.2.2):=by
 refine cO Tryz.func249 rfl (by kernel_rfl) ?_
 refine .inl ⟨[I (A5 s (s.size+1) 0:Nat)],fun _=>(A7 s 0 (adx _) hs).ok,?_⟩
 refine⟨TkS,fun z=>⟨7,[(0,.eC 0),(1,.ptr 5 0),(3,.dv (I z.a))],kTi 1 rc .ready s z.l 0 0⟩,fun z=>z.a<=s.size/\z.l.length<=z.a/\Zb s z.m z.a z.l=r/\s.size-z.a<z.m,fun z=>s.size-z.a,⟨s.size+1,A5 s (s.size+1) 0,[]⟩,fun _=>rfl,jn rfl rfl rfl rfl,⟨(yv s _ 0 (adx _)).2,adx _,hr,by dsimp only;omega⟩,?_⟩
 rintro⟨m,a,l⟩ ⟨h1,h2,h3,h4⟩
 dsimp only at h1 h2 h3 h4⊢
 obtain⟨m,rfl⟩:∃n,m=n+1:=⟨m-1,by omega⟩
 unfold Zb A6 at h3
 refine adh (fun h=>?_) fun h=>?_
 ·have ha:a<s.size:=by have:=adz h;omega
  rw[if_pos ha]at h3
  refine .inl ⟨_,fun _=>(Fc s a ha hs).ok,?_⟩
  have hp:=PV s a
  have hz:=fun h=>L7 ha h
  generalize pH s a=q at h3 hp hz
  obtain⟨t,e⟩:=q
  dsimp only at h3 hp hz
  by_cases he:e=0
  ·subst he
   rw[if_pos rfl]at h3
   have hy:=hY l t 0 (by omega)
   rw[if_pos rfl]at hy
   have hz:=hz rfl
   refine .inl (PR [0,1,2,3,4,6] hy (by kernel_rfl) rfl (by kernel_rfl) ?_)
   repeat refine gG ?_
   refine adh (fun h=>by cases h) fun _=>?_
   refine⟨fun _=>⟨by dsimp only;omega,by dsimp only;omega⟩,?_⟩
   have hk:=A7 s (a+t.text.size) hz.2 hs
   refine .inl ⟨[I (A5 s (s.size+1) (a+t.text.size):Nat)],fun _=>hk.ok,?_⟩
   have hm:=yv s (s.size+1) (a+t.text.size) hz.2
   exact⟨⟨m,A5 s (s.size+1) (a+t.text.size),l++[t]⟩,jn rfl rfl rfl rfl,⟨hm.2,by simp;omega,h3,by dsimp only;omega⟩,by dsimp only;omega⟩
  ·rw[if_neg he]at h3
   have hy:=hY l t e (by omega)
   rw[if_neg he]at hy
   have ZF:(e==0)=false:=beq_eq_false_iff_ne.2 he
   rw[ZF]at hy
   refine .inl (PR [0,1,2,3,4,6] hy (by kernel_rfl) rfl (by kernel_rfl) ?_)
   subst h3
   dsimp only
   rw[if_neg he,if_neg he]
   repeat refine gG ?_
   refine adh (fun _=>?_) fun h=>by cases h
   subst hp
   exact ext (by kernel_rfl) rfl rfl
 ·have ha:¬a<s.size:=by have:=adA h;omega
  rw[if_neg ha]at h3
  subst h3
  exact ext (by kernel_rfl) rfl rfl
theorem PW(s:ByteArray):aw Tryz.prog 240 [.dv (.str s)] 0 [] 1 [.fn 249 [.ptr 0 0]] [(0,.cells [.dv (.str s)])]:=by
 refine cO Tryz.func240 rfl (by kernel_rfl) ?_
 exact ext (by kernel_rfl) rfl rfl
def kT0(rc:RC)(s:ByteArray):ae:=[(0,.dF rc .ready XK),(1,.cells [.dv .aH]),(2,.cells [.dv (I 0)]),(3,.cells [.dv (I 0)]),(4,.cells [.dv .aH]),(5,.cells [.dv (.str s)])]
theorem Ig(rc:RC)(s:ByteArray)(hs:s.size<=8192)(r:List Tok×Nat×Int)(hr:Zb s (s.size+1) (A5 s (s.size+1) 0) []=r)
 (hY:∀(l:List Tok) (t:Tok) (e:Int),l.length<=10000->dr Tryz.prog [cP (dW t),.dv (I e)] 6 (Kp 0 rc .ready l 0 0) 0 fun r k=>r=[.dv (B (e==0))]/\k=if e=0 then Kp 1 rc .ready (l++[t]) 0 0 else Kp 1 rc (.done .ret) l t.pos e):
 aw Tryz.prog 249 [.eC 0,.ptr 5 0] 6 (kT0 rc s) 1 [] (kTi 1 rc (if r.2.2=0 then .ready else .done .ret) s r.1 (if r.2.2=0 then 0 else r.2.1) r.2.2):=by
 have h1:=XP rc s hs r hr hY
 have h2:=cQ 6 (K0:=kTi 0 rc .ready s [] 0 0) h1 ⟨⟨_,rfl,rfl,fun j hj=>(by match j,hj with|0,_=>exact .refl _|1,_=>exact .refl _|2,_=>exact .refl _|3,_=>exact .refl _|4,_=>exact .cells (.qW .nil)|5,_=>exact .refl _|j+7,_=>exact .refl _)⟩,iI.refl _ _ _ _⟩
 exact ir (K2:=kT0 rc s) (args2:=[.eC 0,.ptr 5 0]) h2 rfl rfl (fun j hj=>(by match j,hj with|0,_=>exact .inl ⟨rfl,rfl⟩|1,_=>exact .inl ⟨rfl,rfl⟩|2,_=>exact .inl ⟨rfl,rfl⟩|3,_=>exact .inl ⟨rfl,rfl⟩|4,_=>exact .inr ⟨_,_,rfl,rfl,.born .nil⟩|5,_=>exact .inl ⟨rfl,rfl⟩|j+7,_=>exact .inl ⟨rfl,rfl⟩)) (.same _ rfl (.same _ rfl .nil))
def L8(s:ByteArray):List Tok×Nat×Int:=Zb s (s.size+1) (A5 s (s.size+1) 0) []
theorem PX(l:List Tok):(oT (.aI 4 (l.map dW))).Le (.sl 4 (l.map dW)):=DV.Le.of_eq (by
 show DV.sl 4 (wW (l.map dW))=_
 rw[fq (fun _=>rfl)])
def Ih(s:ByteArray):List Tok×Nat×Int:=if 8192<s.size then([],0,4)else if(L8 s).2.2=0 then((L8 s).1,0,0)else([],(L8 s).2)
theorem Un(s:ByteArray):wv s (Ih s)=iw s:=by
 rw[<-T4]
 unfold Ih
 split
 ·rfl
 ·show _=wv s (L8 s)
  generalize L8 s=r
  obtain⟨ts,p,e⟩:=r
  dsimp only
  split
  ·rename_i h;subst h;rfl
  ·rename_i h;unfold wv;rw[show(e==0)=false from beq_eq_false_iff_ne.2 h];rfl
theorem Fx(s:ByteArray):ai Tryz.prog 219 [.str s] [.sl 4 ((Ih s).1.map dW),I (Ih s).2.1,I (Ih s).2.2]:=by
 obtain⟨r,hr⟩:∃r,L8 s=r:=⟨_,rfl⟩
 unfold Ih
 rw[hr]
 by_cases hs:8192<s.size
 ·rw[if_pos hs]
  refine pO Tryz.func219 rfl (by kernel_rfl) rfl ?_
  refine adh (fun _=>?_) fun h=>?_
  ·exact⟨DV.aY 4,rf,rf,tv⟩
  ·have:=adA h;omega
 rw[if_neg hs]
 have hi:=Ig (qX Tryz.f219) s (by omega) r hr Ie
 refine pO Tryz.func219 rfl (by kernel_rfl) rfl ?_
 refine adh (fun h=>?_) fun _=>?_
 ·have:=adz h;omega
 refine .inr (cl [] (PW s) (by kernel_rfl) rfl rfl ?_)
 refine⟨qX Tryz.f219,by kernel_rfl,?_⟩
 obtain⟨ts,p,e⟩:=r
 dsimp only at hi⊢
 by_cases he:e=0
 ·subst he
  rw[if_pos rfl,if_pos rfl]at hi
  rw[if_pos rfl]
  refine⟨[5,0,1,2,3,4],[.eC 0,.ptr 5 0],kT0 (qX Tryz.f219) s,1,_,hi,by kernel_rfl,⟨rfl,rfl,tv⟩,⟨⟨rfl,rfl,?_⟩,⟨rf,tv⟩,⟨rf,tv⟩,⟨rf,tv⟩,⟨rf,tv⟩,⟨rf,tv⟩,tv⟩,?_⟩
  ·exact iG (by kernel_rfl)
  rintro rs K2 ⟨rfl,rfl⟩
  refine⟨by kernel_rfl,?_⟩
  conv=>whnf
  exact⟨PX _,rf,rf,tv⟩
 ·rw[if_neg he,if_neg he]at hi
  rw[if_neg he]
  refine⟨[5,0,1,2,3,4],[.eC 0,.ptr 5 0],kT0 (qX Tryz.f219) s,1,_,hi,by kernel_rfl,⟨rfl,rfl,tv⟩,⟨⟨rfl,rfl,?_⟩,⟨rf,tv⟩,⟨rf,tv⟩,⟨rf,tv⟩,⟨rf,tv⟩,⟨rf,tv⟩,tv⟩,?_⟩
  ·exact iG (by kernel_rfl)
  rintro rs K2 ⟨rfl,rfl⟩
  refine⟨by kernel_rfl,?_⟩
  conv=>whnf
  exact⟨DV.aY 4,rf,rf,tv⟩
theorem Ii(s:ByteArray):ai Tryz.prog 160 [.str s] [B (iw s)]:=by
 have hf:=Un s
 have ht:=Fx s
 generalize Ih s=r at hf ht
 obtain⟨ts,p,e⟩:=r
 dsimp only at ht
 refine pO Tryz.func160 rfl (by kernel_rfl) rfl ?_
 refine .inl ⟨_,fun _=>ht.ok,?_⟩
 have lt:(ts.map dW).length=ts.length:=adi ..
 obtain⟨t,h0⟩:∃t,0<ts.length->ts[0]?=some t:=by
  by_cases h:0<ts.length
  ·exact⟨ts[0],fun _=>abK h⟩
  ·exact⟨⟨0,s,0,0⟩,fun h2=>absurd h2 h⟩
 have hc:∀h:bw (bif e==0 then(((ts.map dW).length:Nat):Int)==1 else false) true=true,(0:Int)<=0/\(ts.map dW)[Int.toNat 0]?=some (dW t):=fun h=>by
  have h2:=(bZ (gL h)).2
  rw[lt]at h2
  have:(ts.length:Int)=1:=beq_iff_eq.1 h2
  exact⟨by omega,by rw[adk];show(ts[0]?).map _=_;rw[h0 (by omega)];rfl⟩
 repeat refine gG ?_
 refine⟨dW t,hc,?_⟩
 repeat refine gG ?_
 refine⟨dW t,fun h=>hc (nP (bZ (gL h)).1),?_⟩
 repeat refine gG ?_
 refine⟨DV.Le.of_eq (congrArg DV.bool ?_),tv⟩
 rw[<-hf]
 have h1:((((ts.map dW).length:Nat):Int)==1)=(ts.length==1):=by
  rw[lt,adO,beq_iff_eq,beq_iff_eq];omega
 rw[h1]
 unfold wv
 cases he:e==0 with
 |false=>rfl
 |true=>
  cases hl:ts.length==1 with
  |false=>simp[hl]
  |true=>
   have w4:=beq_iff_eq.1 hl
   match ts,w4,h0 with
   |[u],_,h0=>
    have:=h0 (by simp)
    injection this with this
    subst this
    simp only[List.length_singleton,beq_self_eq_true,Bool.true_and,cond_true]
    cases u.kind==0<;>rfl
end
end Go.Proofs.YtfpebgpgabjieaaGreatDoor
