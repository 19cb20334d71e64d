import Derived.Test.YtpbiiigpphehbaaGreatDoorFM29
set_option linter.all false
namespace Go.Proofs.YtpbiiigpphehbaaGreatDoor
set_option maxRecDepth 100000
set_option maxHeartbeats 4000000
section
open Go.TM
def jH(l:Lt)(s:List Lt)(i:Nat):TX:=(s.take i).foldl (wz l) ⟨[],[],l.a,l.a+l.n⟩
theorem Bv{l:Lt}{s:List Lt}{i:Nat}{x:Lt}(hx:s[i]?=some x):jH l s (i+1)=wz l (jH l s i) x:=by
 unfold jH;rw[abJ,hx,abZ];rfl
structure InB(l:Lt)(i:Nat)(s:TX):Prop where
 lo:0<=s.fr/\s.fr<=l.a
 hi:l.a+l.n<=s.to/\s.to<=1099511627776
 len:s.OZ.length+s.Q3.length<=i
theorem Ih{l:Lt}{s:List Lt}(hs:∀x∈s,aQ x=true)(hl:aQ l=true):∀i,InB l i (jH l s i)
 |0=>by have:=aw.1 hl;exact⟨⟨this.2.1,Int.le_refl _⟩,⟨Int.le_refl _,this.2.2.2⟩,ab3 _⟩
 |i+1=>by
  obtain⟨h1,h2,h3⟩:=Ih hs hl i
  cases hx:s[i]? with
  |none=>
   have:jH l s (i+1)=jH l s i:=by unfold jH;rw[abJ,hx];simp
   rw[this];exact⟨h1,h2,by omega⟩
  |some x=>
   have hp:=aw.1 (hs x (abC hx))
   rw[Bv hx]
   generalize jH l s i=z at*
   unfold wz
   split
   ·exact⟨h1,h2,by simp only[abM,List.length_cons,List.length_nil];omega⟩
   split
   ·exact⟨h1,h2,by simp only[abM,List.length_cons,List.length_nil];omega⟩
   ·exact⟨by simp only;omega,by simp only;omega,by simp only;omega⟩
theorem aaK(l:List Lt):∀x,x∈l.map aF->x.aV:=fun x hx d hd=>by
 obtain⟨y,_,rfl⟩:=ab1.1 hx
 simp only[aF,DV.cells,abG,List.mem_nil_iff,or_false]at hd
 rcases hd with rfl|rfl|rfl<;>rfl
theorem Pu{s:List Lt}{l:Lt}(hs:∀x∈s,aQ x=true)(hl:aQ l=true)(hn:NS s):(∀x∈jX s l,aQ x=true)/\(jX s l).length<=s.length+1:=by
 have hb:=Ih hs hl s.length
 have hr:jX s l=O0 l (jH l s s.length):=by unfold jX jH;rw[abP]
 have h0:yI l [] ⟨[],[],l.a,l.a+l.n⟩:=⟨.slnil,.slnil,fun _ h=>(by cases h),fun _ h=>(by cases h),Int.le_refl _,Int.le_refl _,fun f u=>by
  have a:¬has [] f u:=bG
  exact⟨fun h=>.inr ((h.resolve_left a).resolve_left a),fun h=>.inr (.inr (h.resolve_left a))⟩⟩
 have Tw:=aw.1 hl
 have h:=yI.fold (by omega) s [] _ (by simpa using hn) h0
 simp only[List.nil_append]at h
 have e:s.foldl (wz l) ⟨[],[],l.a,l.a+l.n⟩=jH l s s.length:=by unfold jH;rw[abP]
 rw[e]at h
 rw[hr]
 generalize jH l s s.length=z at*
 obtain⟨⟨lo1,lo2⟩,⟨MQ,wB⟩,hlen⟩:=hb
 unfold O0
 refine⟨fun x hx=>?_,by simp only[abM,List.length_cons,List.length_nil];omega⟩
 rcases abI.1 hx with hx|hx
 ·rcases abI.1 hx with hx|hx
  ·exact hs x (h.bs.subset hx)
  ·rw[abF]at hx;subst hx;rw[aw];simp only;omega
 ·exact hs x (h.as.subset hx)
theorem C8{l:List Lt}(hl:∀x∈l,aQ x=true):∀i,(∀x∈(l.take i).foldl jX [],aQ x=true)/\((l.take i).foldl jX []).length<=i/\NS ((l.take i).foldl jX [])
 |0=>⟨fun _ h=>(by cases h),ab3 _,NS.nil⟩
 |i+1=>by
  obtain⟨h1,h2,h3⟩:=C8 hl i
  cases hx:l[i]? with
  |none=>
   have:l.take (i+1)=l.take i:=by rw[abJ,hx];simp
   rw[this];exact⟨h1,by omega,h3⟩
  |some x=>
   have hp:=hl x (abC hx)
   rw[abJ,hx,abZ]
   show(∀y∈jX _ x,_)/\(jX _ x).length<=_/\NS (jX _ x)
   have h4:=Pu h1 hp h3
   exact⟨h4.1,by omega,(J8 h3 (aw.1 hp).2.2.1).1⟩
theorem Bw{l:List Lt}(hl:∀x∈l,aQ x=true):(∀x∈iT l,aQ x=true)/\(iT l).length<=l.length/\NS (iT l):=by
 have h:=C8 hl l.length
 rw[abP]at h
 exact h
variable [bJ]
def cLt(x:Lt):List AV:=[.dv (I x.f),.dv (I x.a),.dv (I x.n)]
theorem Pv(s:List Lt)(l:Lt)(hs:∀x∈s,aQ x=true)(hl:aQ l=true)(hn:s.length<=10000):aO Tryz.prog 167 [aS s,aF l] [aS (jX s l)]:=by
 refine pO Tryz.func167 rfl (by kernel_rfl) rfl ?_
 have Tw:=aw.1 hl
 have hN:=Ih hs hl
 refine⟨fun _=>⟨by omega,by omega⟩,?_⟩
 refine⟨Nat,fun i=>⟨3,[(0,.dv (aS s)),(3,.ptr 0 0),(5,.own 1 0 0 []),(6,.own 2 0 0 []),(7,.dv (I (jH l s i).fr)),(8,.dv (I (jH l s i).to)),(9,.dv (I i))],[(0,.cells (cLt l)),(1,.tree 0 0 (.aB 3 ((jH l s i).OZ.map aF))),(2,.tree 0 0 (.aB 3 ((jH l s i).Q3.map aF)))]⟩,fun i=>i<=s.length,fun i=>s.length-i,0,fun _=>rfl,⟨⟨rf,rfl,⟨rfl,rfl,rfl,rfl,3,rfl⟩,⟨rfl,rfl,rfl,rfl,3,rfl⟩,rf,rf,rf,tv⟩,⟨⟨rf,rf,rf,tv⟩,⟨rfl,rfl,3,rfl⟩,⟨rfl,rfl,3,rfl⟩,tv⟩,rfl,rfl⟩,abO _,?_⟩
 rintro i hi
 have hNi:=hN i
 have c6:jH l s i=jH l s i:=rfl
 refine aby ?_ ?_
 ·intro h
  have au:i<s.length:=by have:=abQ h;rw[abz]at this;omega
  obtain⟨x,hx⟩:∃x,s[i]?=some x:=⟨_,aaa au⟩
  have T6:=aw.1 (hs x (abC hx))
  have dQ:=Bv (l:=l) hx
  have ix:(s.map aF)[(i:Int).toNat]?=some (aF x):=by rw[abB];simp[hx]
  refine⟨aF x,fun _=>⟨by omega,ix⟩,?_⟩
  generalize hz:jH l s i=z at*
  obtain⟨bf,af,fr,to⟩:=z
  obtain⟨⟨lo1,lo2⟩,⟨MQ,wB⟩,hlen⟩:=hNi
  simp only at lo1 lo2 MQ wB hlen
  simp only[hz]
  repeat first|apply g1|apply g2|apply g3|apply g4|apply g5|refine⟨fun _=>⟨by omega,by omega⟩,?_⟩
  have lb:∀{q:List Lt},q.length<=i->(q.map aF).length<=20000:=fun h=>by rw[abz];omega
  refine aby ?_ ?_
  ·intro h
   have hc:x.f<l.f\/x.f=l.f/\x.a+x.n<fr:=by simpa using h
   have e:jH l s (i+1)=⟨bf++[x],af,fr,to⟩:=by rw[dQ];unfold wz;rw[if_pos hc]
   have l1:=lb (q:=bf) (by omega)
   refine .inl ⟨[aF x],rfl,⟨rf,rf,rf,tv⟩,(by simp;rfl),?_⟩
   refine .inr ⟨[aF x],b7.refl _,bL (by simp only[List.length_cons,List.length_nil];omega),by simp only[List.length_cons,List.length_nil];omega,?_⟩
   exact⟨fun _=>⟨by omega,by omega⟩,i+1,jn (by simp only[e];rfl) (by simp only[e,abS];rfl) rfl rfl,by omega,mlt au⟩
  intro h
  have hc:¬(x.f<l.f\/x.f=l.f/\x.a+x.n<fr):=by simpa using h
  repeat first|apply g1|apply g2|apply g3|apply g4|apply g5
  refine aby ?_ ?_
  ·intro h
   have yx:l.f<x.f\/to<x.a:=by simpa using h
   have e:jH l s (i+1)=⟨bf,af++[x],fr,to⟩:=by rw[dQ];unfold wz;rw[if_neg hc,if_pos yx]
   have l1:=lb (q:=af) (by omega)
   refine .inl ⟨[aF x],rfl,⟨rf,rf,rf,tv⟩,(by simp;rfl),?_⟩
   refine .inr ⟨[aF x],b7.refl _,bL (by simp only[List.length_cons,List.length_nil];omega),by simp only[List.length_cons,List.length_nil];omega,?_⟩
   exact⟨fun _=>⟨by omega,by omega⟩,i+1,jn (by simp only[e];rfl) (by simp only[e,abS];rfl) rfl rfl,by omega,mlt au⟩
  ·intro h
   have yx:¬(l.f<x.f\/to<x.a):=by simpa using h
   have e:jH l s (i+1)=⟨bf,af,min fr x.a,max to (x.a+x.n)⟩:=by rw[dQ];unfold wz;rw[if_neg hc,if_neg yx]
   have e1:(if x.a<fr then x.a else fr)=min fr x.a:=by split<;>omega
   have e2:(if to<x.a+x.n then x.a+x.n else to)=max to (x.a+x.n):=by split<;>omega
   refine⟨fun _=>⟨by omega,by omega⟩,fun _=>⟨by omega,by omega⟩,i+1,jn (by simp only[e,e1,e2];rfl) (by simp only[e];rfl) rfl rfl,by omega,mlt au⟩
 ·intro h
  have he:i=s.length:=by have:=abR h;rw[abz]at this;omega
  subst he
  have hr:jX s l=O0 l (jH l s s.length):=by unfold jX jH;rw[abP]
  rw[hr]
  generalize hz:jH l s s.length=z at*
  obtain⟨bf,af,fr,to⟩:=z
  obtain⟨⟨lo1,lo2⟩,⟨MQ,wB⟩,hlen⟩:=hNi
  simp only at lo1 lo2 MQ wB hlen
  simp only[hz]
  have l1:(bf.map aF).length<=20000:=by rw[abz];omega
  have l2:(af.map aF).length<=20000:=by rw[abz];omega
  refine⟨fun _=>⟨by omega,by omega⟩,?_⟩
  refine .inl ⟨[aF ⟨l.f,fr,to-fr⟩],rfl,⟨rf,rf,rf,tv⟩,(by simp;rfl),?_⟩
  refine .inr ⟨[aF ⟨l.f,fr,to-fr⟩],b7.refl _,bL (by simp only[List.length_cons,List.length_nil];omega),by simp only[List.length_cons,List.length_nil];omega,?_⟩
  refine .inr (.inl ⟨aaK af,af.map aF,b7.refl _,bL (by simp only[abM,List.length_cons,List.length_nil];omega),by simp only[abM,List.length_cons,List.length_nil];omega,?_⟩)
  refine⟨?_,tv⟩
  have:=qh (bf++[(⟨l.f,fr,to-fr⟩:Lt)]++af)
  rw[abS,abS]at this
  exact this
theorem Bx(l:List Lt)(hl:l.length<=9000):aO Tryz.prog 98 [aS l] [aS (bif ca l then iT l else[])]:=by
 refine pO Tryz.func98 rfl (by kernel_rfl) rfl ?_
 refine .inl ⟨_,fun _=>(gh l (by omega)).ok,?_⟩
 have hb:=fun h=>(hZ (l:=l) h).2
 have hs:iT l=l.foldl jX []:=rfl
 generalize ca l=v at*
 refine⟨Nat,fun i=>⟨0,[(0,.dv (aS l)),(3,.dv (aS ((l.take i).foldl jX []))),(4,.dv (B v)),(5,.dv (I i))],[]⟩,fun i=>i<=l.length/\(v=false->i=0),fun i=>l.length-i,0,fun _=>rfl,⟨⟨rf,DV.aL 3,rf,rf,tv⟩,tv,rfl,rfl⟩,⟨abO _,fun _=>rfl⟩,?_⟩
 rintro i ⟨hi,hv⟩
 repeat first|apply g1|apply g2|apply g3|apply g4|apply g5
 refine aby ?_ ?_
 ·intro h
  have h:=dV h
  have VS:v=true:=h.2
  have au:i<l.length:=by have:=abQ h.1;rw[abz]at this;omega
  obtain⟨x,hx⟩:∃x,l[i]?=some x:=⟨_,aaa au⟩
  have hp:=hb VS
  obtain⟨h1,h2,h3⟩:=C8 hp i
  have e:(l.take (i+1)).foldl jX []=jX ((l.take i).foldl jX []) x:=by rw[abJ,hx,abZ];rfl
  refine⟨aF x,fun _=>⟨by omega,by rw[abB];simp[hx]⟩,?_⟩
  refine .inl ⟨_,fun _=>(Pv _ x h1 (hp x (abC hx)) (by omega)).ok,?_⟩
  exact⟨fun _=>⟨by omega,by omega⟩,i+1,jn (by simp only[e];rfl) rfl rfl rfl,⟨by omega,by simp[VS]⟩,mlt au⟩
 ·intro h
  have h:=lQ h
  refine⟨DV.Le.of_eq ?_,tv⟩
  cases v with
  |true=>
   have:i=l.length:=by
    have:¬(i:Int)<(l.map aF).length:=fun hh=>h ⟨abW hh,rfl⟩
    rw[abz]at this;omega
   subst this
   rw[abP];rfl
  |false=>rw[hv rfl];rfl
end
section
open Go.TM
theorem LU{x y:Lt}(hx:aQ x=true)(hy:aQ y=true):(∀z∈kT y x,aQ z=true)/\(kT y x).length<=2:=by
 have hx:=aw.1 hx
 have hy:=aw.1 hy
 obtain⟨a1,a2,_⟩:=J9 hy.2.2.1 hx.2.2.1
 refine⟨fun z hz=>?_,?_⟩
 ·have b1:=a1.pos z hz
  have b2:=a2 z hz
  rw[aw];omega
 ·unfold kT
  split
  ·simp
  ·split<;>split<;>simp
theorem By{l:List Lt}{y:Lt}(hl:∀x∈l,aQ x=true)(hy:aQ y=true):(∀z∈ji l y,aQ z=true)/\(ji l y).length<=2*l.length:=by
 induction l with
 |nil=>exact⟨fun _ h=>(by cases h),ab3 _⟩
 |cons x l ih=>
  obtain⟨a1,a2⟩:=LU (hl x abL) hy
  obtain⟨b1,b2⟩:=ih fun z hz=>hl z (abH _ hz)
  have e:ji (x::l) y=kT y x++ji l y:=rfl
  rw[e]
  refine⟨fun z hz=>?_,by simp only[abM,List.length_cons];omega⟩
  rcases abI.1 hz with hz|hz
  ·exact a1 z hz
  ·exact b1 z hz
def y4(l:List Lt)(y:Lt)(i:Nat):List Lt:=ji (l.take i) y
theorem LV{l:List Lt}{y x:Lt}{i:Nat}(hx:l[i]?=some x):y4 l y (i+1)=y4 l y i++kT y x:=by
 unfold y4 ji;rw[abJ,hx,List.flatMap_append];simp
def s8(x:Lt)(P:List Lt)(k:Nat):List Lt:=(P.take k).foldl ji [x]
theorem Bz{x y:Lt}{P:List Lt}{k:Nat}(hy:P[k]?=some y):s8 x P (k+1)=ji (s8 x P k) y:=by
 unfold s8;rw[abJ,hy,abZ];rfl
theorem FJ{y:Lt}(hy:1<=y.n):∀{l:List Lt},NS l->(ji l y).length<=l.length+1
 |[],_=>by simp[ji]
 |x::l,h=>by
  have e:ji (x::l) y=kT y x++ji l y:=rfl
  rw[e,abM]
  by_cases hc:x.f=y.f/\y.a+y.n<x.a+x.n
  ·have wS:ji l y=l:=by
    have:∀z∈l,kT y z=[z]:=fun z hz=>by
     have:=h.head.2 z hz
     unfold Am at this
     unfold kT
     rw[if_pos (by omega)]
    clear e hc
    induction l with
    |nil=>rfl
    |cons z l ih=>
     show kT y z++ji l y=_
     have h2:=h.tail
     rw[this z abL,ih ⟨(List.pairwise_cons.2 ⟨fun w hw=>h.head.2 w (abH _ hw),h2.tail.rJ⟩),fun w hw=>by
      rcases abG.1 hw with rfl|hw
      ·exact h.head.1
      ·exact h2.tail.pos w hw⟩ fun w hw=>this w (abH _ hw)]
     rfl
   rw[wS]
   have:(kT y x).length<=2:=by
    unfold kT
    split
    ·simp
    ·split<;>split<;>simp
   simp only[List.length_cons];omega
  ·have:(kT y x).length<=1:=by
    unfold kT
    split
    ·simp
    ·rw[if_neg (show¬y.a+y.n<x.a+x.n by omega)];split<;>simp
   have:=FJ hy h.tail
   simp only[List.length_cons];omega
theorem C9{x:Lt}{P:List Lt}(hx:aQ x=true)(hP:∀y∈P,aQ y=true):∀k,(∀z∈s8 x P k,aQ z=true)/\NS (s8 x P k)/\(s8 x P k).length<=k+1
 |0=>⟨fun z hz=>by rw[show s8 x P 0=[x]from rfl,abF]at hz;subst hz;exact hx,⟨ab7 _ _,fun z hz=>by rw[show s8 x P 0=[x]from rfl,abF]at hz;subst hz;exact(aw.1 hx).2.2.1⟩,ab3 _⟩
 |k+1=>by
  obtain⟨h1,h2,h3⟩:=C9 hx hP k
  cases hy:P[k]? with
  |none=>
   have:s8 x P (k+1)=s8 x P k:=by unfold s8;rw[abJ,hy];simp
   rw[this];exact⟨h1,h2,by omega⟩
  |some y=>
   have hp:=hP y (abC hy)
   rw[Bz hy]
   have h4:=FJ (aw.1 hp).2.2.1 h2
   exact⟨(By h1 hp).1,(C1 (aw.1 hp).2.2.1 h2).1,by omega⟩
def Kf(s P:List Lt)(i:Nat):List Lt:=((s.take i).flatMap fun x=>wA x P).foldl bj []
theorem s9:∀(r l:List Lt),(∀x∈r,aQ x=true)->(∀x∈l,aQ x=true)->(∀x∈r.foldl bj l,aQ x=true)/\(r.foldl bj l).length<=l.length+r.length
 |[],l,_,h=>⟨h,ab3 _⟩
 |x::r,l,hr,h=>by
  have hp:=aw.1 (hr x abL)
  have h1:=ic h ⟨hp.1,hp.2.1,by omega,hp.2.2.2⟩
  have h2:=s9 r (bj l x) (fun y hy=>hr y (abH _ hy)) h1
  have h3:=fj l x
  exact⟨h2.1,by rw[List.foldl_cons,List.length_cons];omega⟩
variable [bJ]
theorem LW(l:List Lt)(y:Lt)(hl:∀x∈l,aQ x=true)(hy:aQ y=true)(hn:l.length<=9000):aO Tryz.prog 169 [aS l,aF y] [aS (ji l y)]:=by
 refine pO Tryz.func169 rfl (by kernel_rfl) rfl ?_
 have hyp:=aw.1 hy
 refine⟨Nat,fun i=>⟨2,[(0,.dv (aS l)),(3,.ptr 0 0),(5,.own 1 0 0 []),(6,.dv (I i))],[(0,.cells (cLt y)),(1,.tree 0 0 (.aB 3 ((y4 l y i).map aF)))]⟩,fun i=>i<=l.length,fun i=>l.length-i,0,fun _=>rfl,⟨⟨rf,rfl,⟨rfl,rfl,rfl,rfl,3,rfl⟩,rf,tv⟩,⟨⟨rf,rf,rf,tv⟩,⟨rfl,rfl,3,rfl⟩,tv⟩,rfl,rfl⟩,abO _,?_⟩
 rintro i hi
 refine aby ?_ ?_
 ·intro h
  have au:i<l.length:=by have:=abQ h;rw[abz]at this;omega
  obtain⟨x,hx⟩:∃x,l[i]?=some x:=⟨_,aaa au⟩
  have T6:=aw.1 (hl x (abC hx))
  have dQ:=LV (y:=y) hx
  have iQ:(y4 l y i).length<=2*i:=by
   have:=(By (l:=l.take i) (fun z hz=>hl z (List.mem_of_mem_take hz)) hy).2
   rw[abU]at this;unfold y4;omega
  have ix:(l.map aF)[(i:Int).toNat]?=some (aF x):=by rw[abB];simp[hx]
  generalize hz:y4 l y i=z at*
  have l1:(z.map aF).length<=20000:=by rw[abz];omega
  repeat first|apply g1|apply g2|apply g3|apply g4|apply g5|refine⟨fun _=>⟨by omega,by omega⟩,?_⟩|refine⟨aF x,fun _=>⟨by omega,ix⟩,?_⟩|refine⟨by kernel_rfl,?_⟩
  refine aby ?_ ?_
  ·intro h
   have hc:x.f≠y.f\/y.a+y.n<=x.a\/x.a+x.n<=y.a:=by simp at h;omega
   have e:y4 l y (i+1)=z++[x]:=by rw[dQ];unfold kT;rw[if_pos hc]
   refine⟨aF x,fun _=>⟨by omega,ix⟩,?_⟩
   refine .inl ⟨[aF x],rfl,⟨rf,rf,rf,tv⟩,(by simp;rfl),?_⟩
   refine .inr ⟨[aF x],b7.refl _,bL (by simp only[List.length_cons,List.length_nil];omega),by simp only[List.length_cons,List.length_nil];omega,?_⟩
   exact⟨fun _=>⟨by omega,by omega⟩,i+1,jn (by simp only[e];rfl) (by simp only[e,abS];rfl) rfl rfl,by omega,mlt au⟩
  ·intro h
   have hc:¬(x.f≠y.f\/y.a+y.n<=x.a\/x.a+x.n<=y.a):=by simp at h;omega
   have e:y4 l y (i+1)=z++((if x.a<y.a then[⟨y.f,x.a,y.a-x.a⟩]else[])++(if y.a+y.n<x.a+x.n then[⟨y.f,y.a+y.n,x.a+x.n-y.a-y.n⟩]else[])):=by rw[dQ];unfold kT;rw[if_neg hc]
   refine aby ?_ ?_
   ·intro h2
    have h2:=abQ h2
    repeat first|refine⟨fun _=>⟨by omega,by omega⟩,?_⟩
    refine .inl ⟨[aF ⟨y.f,x.a,y.a-x.a⟩],rfl,⟨rf,rf,rf,tv⟩,(by simp;rfl),?_⟩
    refine .inr ⟨[aF ⟨y.f,x.a,y.a-x.a⟩],b7.refl _,bL (by simp only[abM,List.length_cons,List.length_nil];omega),by simp only[abM,List.length_cons,List.length_nil];omega,?_⟩
    repeat first|refine⟨fun _=>⟨by omega,by omega⟩,?_⟩
    refine aby ?_ ?_
    ·intro h3
     have h3:=abQ h3
     rw[if_pos h2,if_pos h3]at e
     repeat first|refine⟨fun _=>⟨by omega,by omega⟩,?_⟩
     refine .inl ⟨[aF ⟨y.f,y.a+y.n,x.a+x.n-y.a-y.n⟩],rfl,⟨rf,rf,rf,tv⟩,(by simp;rfl),?_⟩
     refine .inr ⟨[aF ⟨y.f,y.a+y.n,x.a+x.n-y.a-y.n⟩],b7.refl _,bL (by simp only[abM,List.length_cons,List.length_nil];omega),by simp only[abM,List.length_cons,List.length_nil];omega,?_⟩
     exact⟨fun _=>⟨by omega,by omega⟩,i+1,jn (by simp only[e];rfl) (by simp only[e,abS,List.append_nil,List.nil_append,ab0];rfl) rfl rfl,by omega,mlt au⟩
    ·intro h3
     have h3:=abR h3
     rw[if_pos h2,if_neg h3]at e
     exact⟨fun _=>⟨by omega,by omega⟩,i+1,jn (by simp only[e];rfl) (by simp only[e,abS,List.append_nil,List.nil_append,ab0];rfl) rfl rfl,by omega,mlt au⟩
   ·intro h2
    have h2:=abR h2
    repeat first|refine⟨fun _=>⟨by omega,by omega⟩,?_⟩
    refine aby ?_ ?_
    ·intro h3
     have h3:=abQ h3
     rw[if_neg h2,if_pos h3]at e
     repeat first|refine⟨fun _=>⟨by omega,by omega⟩,?_⟩
     refine .inl ⟨[aF ⟨y.f,y.a+y.n,x.a+x.n-y.a-y.n⟩],rfl,⟨rf,rf,rf,tv⟩,(by simp;rfl),?_⟩
     refine .inr ⟨[aF ⟨y.f,y.a+y.n,x.a+x.n-y.a-y.n⟩],b7.refl _,bL (by simp only[abM,List.length_cons,List.length_nil];omega),by simp only[abM,List.length_cons,List.length_nil];omega,?_⟩
     exact⟨fun _=>⟨by omega,by omega⟩,i+1,jn (by simp only[e];rfl) (by simp only[e,abS,List.append_nil,List.nil_append,ab0];rfl) rfl rfl,by omega,mlt au⟩
    ·intro h3
     have h3:=abR h3
     rw[if_neg h2,if_neg h3]at e
     exact⟨fun _=>⟨by omega,by omega⟩,i+1,jn (by simp only[e];rfl) (by simp only[e,abS,List.append_nil,List.nil_append,ab0];rfl) rfl rfl,by omega,mlt au⟩
 ·intro h
  have he:i=l.length:=by have:=abR h;rw[abz]at this;omega
  subst he
  have:y4 l y l.length=ji l y:=by unfold y4;rw[abP]
  rw[this]
  exact⟨qh _,tv⟩
end
section
open Go.TM
theorem FK{s P:List Lt}{i:Nat}{x:Lt}(hx:s[i]?=some x):Kf s P (i+1)=(wA x P).foldl bj (Kf s P i):=by
 unfold Kf;rw[abJ,hx,List.flatMap_append,abZ];simp
theorem y5(x:Lt)(P:List Lt):s8 x P P.length=wA x P:=by unfold s8 wA;rw[abP]
theorem Ii{s P:List Lt}(hs:∀x∈s,aQ x=true)(hP:∀y∈P,aQ y=true):∀i,(∀x∈Kf s P i,aQ x=true)/\(Kf s P i).length<=i*(P.length+1)
 |0=>⟨fun _ h=>(by cases h),by simp[Kf]⟩
 |i+1=>by
  obtain⟨h1,h2⟩:=Ii hs hP i
  have em:(i+1)*(P.length+1)=i*(P.length+1)+(P.length+1):=Nat.succ_mul ..
  cases hx:s[i]? with
  |none=>
   have:Kf s P (i+1)=Kf s P i:=by unfold Kf;rw[abJ,hx];simp
   rw[this];exact⟨h1,by omega⟩
  |some x=>
   have hp:=hs x (abC hx)
   obtain⟨r1,r2,r3⟩:=C9 hp hP P.length
   rw[y5]at r1 r3
   rw[FK hx]
   have:=s9 _ _ r1 h1
   exact⟨this.1,by omega⟩
theorem Zc(l:List Lt):(((l.map aF).length:Int)==0)=decide (l=[]):=by
 cases l with
 |nil=>rfl
 |cons x l=>
  have h:(((((x::l).map aF).length:Nat):Int)==0)=false:=by
   rw[beq_eq_false_iff_ne,abz,List.length_cons];omega
  rw[h,abX (by simp)]
variable [bJ]
def Kg(s P:List Lt):List Lt:=bif ca s&&ca P then O3 s P else[]
theorem ta(s P:List Lt)(hs:s.length<=5000)(hP:P.length<=5000)(aW:s.length*(P.length+1)<=90000):aO Tryz.prog 100 [aS s,aS P] [aS (Kg s P)]:=by
 refine pO Tryz.func100 rfl (by kernel_rfl) rfl ?_
 refine .inl ⟨_,fun _=>(gh s (by omega)).ok,?_⟩
 refine .inl ⟨_,fun _=>(gh P (by omega)).ok,?_⟩
 repeat first|apply g1|apply g2|apply g3|apply g4|apply g5
 refine aby ?_ ?_
 ·intro h
  have:Kg s P=[]:=by
   unfold Kg
   have h:(bif !ca s then true else !ca P)=true:=h
   cases hv:ca s<;>cases dF:ca P<;>rw[hv,dF]at h<;>first|rfl|cases h
  rw[this]
  exact⟨DV.aL 3,tv⟩
 intro h
 have hv:ca s=true/\ca P=true:=by
  have h:(bif !ca s then true else !ca P)=false:=h
  cases hv:ca s<;>cases dF:ca P<;>rw[hv,dF]at h<;>first|exact⟨rfl,rfl⟩|cases h
 have l6:=(hZ hv.1).2
 have hPp:=(hZ hv.2).2
 have he:Kg s P=Kf s P s.length:=by unfold Kg Kf O3;rw[hv.1,hv.2,abP];rfl
 rw[he]
 clear he h hv
 refine⟨Nat,fun i=>⟨0,[(0,.dv (aS s)),(1,.dv (aS P)),(7,.dv (aS (Kf s P i))),(8,.dv (I i))],[]⟩,fun i=>i<=s.length,fun i=>s.length-i,0,fun _=>rfl,⟨⟨rf,rf,DV.aL 3,rf,tv⟩,tv,rfl,rfl⟩,abO _,?_⟩
 rintro i hi
 refine aby ?_ ?_
 ·intro h
  have au:i<s.length:=by have:=abQ h;rw[abz]at this;omega
  obtain⟨x,hx⟩:∃x,s[i]?=some x:=⟨_,aaa au⟩
  have T6:=l6 x (abC hx)
  have dQ:=FK (P:=P) hx
  obtain⟨w1,w2⟩:=Ii l6 hPp i
  have hR:=C9 T6 hPp
  have hmul:i*(P.length+1)<=s.length*(P.length+1):=ab4 _ (by omega)
  generalize hW:Kf s P i=W at*
  refine⟨aF x,fun _=>⟨by omega,by rw[abB];simp[hx]⟩,?_⟩
  refine .inl ⟨[aF x],rfl,⟨rf,rf,rf,tv⟩,(by simp;rfl),?_⟩
  refine⟨Nat,fun k=>⟨0,[(0,.dv (aS s)),(1,.dv (aS P)),(7,.dv (aS W)),(8,.dv (I i)),(9,.dv (aS (s8 x P k))),(10,.dv (I k))],[]⟩,fun k=>k<=P.length,fun k=>P.length-k,0,fun _=>rfl,jn (by simp only[hW];rfl) rfl rfl rfl,abO _,?_⟩
  rintro k hk
  refine aby ?_ ?_
  ·intro h
   have D1:k<P.length:=by have:=abQ h;rw[abz]at this;omega
   obtain⟨y,hy⟩:∃y,P[k]?=some y:=⟨_,aaa D1⟩
   obtain⟨r1,r2,r3⟩:=hR k
   have e:=Bz (x:=x) hy
   refine⟨aF y,fun _=>⟨by omega,by rw[abB];simp[hy]⟩,?_⟩
   refine .inl ⟨_,fun _=>(LW _ y r1 (hPp y (abC hy)) (by omega)).ok,?_⟩
   exact⟨fun _=>⟨by omega,by omega⟩,k+1,jn (by simp only[e];rfl) rfl rfl rfl,by omega,mlt D1⟩
  intro h
  have he:k=P.length:=by have:=abR h;rw[abz]at this;omega
  subst he
  obtain⟨r1,r2,r3⟩:=hR P.length
  simp only[y5]
  rw[y5]at r1 r3
  generalize wA x P=R at*
  have hK:=fun q=>s9 (R.take q) W (fun z hz=>r1 z (List.mem_of_mem_take hz)) w1
  refine⟨Nat,fun q=>⟨0,[(0,.dv (aS s)),(1,.dv (aS P)),(7,.dv (aS ((R.take q).foldl bj W))),(8,.dv (I i)),(9,.dv (aS R)),(11,.dv (I q))],[]⟩,fun q=>q<=R.length,fun q=>R.length-q,0,fun _=>rfl,jn rfl rfl rfl rfl,abO _,?_⟩
  rintro q hq
  refine aby ?_ ?_
  ·intro h
   have hqt:q<R.length:=by have:=abQ h;rw[abz]at this;omega
   obtain⟨y,hy⟩:∃y,R[q]?=some y:=⟨_,aaa hqt⟩
   have hyp:=aw.1 (r1 y (abC hy))
   obtain⟨k1,k2⟩:=hK q
   rw[abU]at k2
   have e:(R.take (q+1)).foldl bj W=bj ((R.take q).foldl bj W) y:=by rw[abJ,hy,abZ];rfl
   refine⟨aF y,fun _=>⟨by omega,by rw[abB];simp[hy]⟩,?_⟩
   refine .inl ⟨_,fun _=>(pA _ y (by omega) (fun z hz=>by have:=aw.1 (k1 z hz);omega) (by omega)).ok,?_⟩
   exact⟨fun _=>⟨by omega,by omega⟩,q+1,jn (by simp only[e];rfl) rfl rfl rfl,by omega,mlt hqt⟩
  ·intro h
   have he:q=R.length:=by have:=abR h;rw[abz]at this;omega
   subst he
   refine⟨fun _=>⟨by omega,by omega⟩,i+1,jn (by simp only[dQ,abP];rfl) rfl rfl rfl,by omega,mlt au⟩
 ·intro h
  have he:i=s.length:=by have:=abR h;rw[abz]at this;omega
  subst he
  exact⟨rf,tv⟩
def nV(l:List Lt):List Lt:=bif ca l then iT l else[]
def wC(a b:List Lt):List Lt:=Kg (nV a) b
def tc(a b:List Lt):Bool:=ca a&&ca b&&decide (wC a b=[])
theorem y6(l:List Lt):(nV l).length<=l.length/\∀x∈nV l,aQ x=true:=by
 unfold nV
 cases hv:ca l with
 |true=>have:=Bw (hZ hv).2;exact⟨this.2.1,this.1⟩
 |false=>exact⟨abO _,fun _ h=>(by cases h)⟩
theorem rN(a b:List Lt)(ha:a.length<=5000)(hb:b.length<=5000)(aW:a.length*(b.length+1)<=90000):aO Tryz.prog 168 [aS a,aS b] [aS (wC a b)]:=by
 refine pO Tryz.func168 rfl (by kernel_rfl) rfl ?_
 have hl:=(y6 a).1
 have hm:(nV a).length*(b.length+1)<=a.length*(b.length+1):=ab4 _ hl
 refine .inl ⟨_,fun _=>(Bx a (by omega)).ok,?_⟩
 refine .inl ⟨_,fun _=>(ta (nV a) b (by omega) hb (by omega)).ok,?_⟩
 exact⟨rf,tv⟩
theorem vL(a b:List Lt)(ha:a.length<=5000)(hb:b.length<=5000)(aW:a.length*(b.length+1)<=90000):aO Tryz.prog 99 [aS a,aS b] [B (tc a b)]:=by
 refine pO Tryz.func99 rfl (by kernel_rfl) rfl ?_
 refine .inl ⟨_,fun _=>(gh a (by omega)).ok,?_⟩
 refine .inl ⟨_,fun _=>(gh b (by omega)).ok,?_⟩
 repeat first|apply g1|apply g2|apply g3|apply g4|apply g5
 refine .inl ⟨_,fun _=>(rN a b ha hb aW).ok,?_⟩
 repeat first|apply g1|apply g2|apply g3|apply g4|apply g5
 refine⟨DV.Le.of_eq ?_,tv⟩
 show DV.bool (bif bif ca a then ca b else false then(((wC a b).map aF).length:Int)==0 else false)=B (tc a b)
 unfold tc
 rw[Zc]
 cases ca a<;>cases ca b<;>rfl
theorem Su{s P:List Lt}(hs:∀x∈s,aQ x=true):(Kg s P).length<=s.length*(P.length+1):=by
 unfold Kg
 cases hv:ca s&&ca P with
 |true=>
  rw[aca]at hv
  have:=(Ii hs (hZ hv.2).2 s.length).2
  unfold Kf at this
  rw[abP]at this
  exact this
 |false=>exact abO _
def LX(a b:List Lt):List Lt:=bif ca b then wC a (wC a b)else[]
theorem BA(a b:List Lt)(ha:a.length<=5000)(hb:b.length<=5000)(aW:a.length*(b.length+1)<=5000)(abp:a.length*(a.length*(b.length+1)+1)<=90000):aO Tryz.prog 171 [aS a,aS b] [aS (LX a b)]:=by
 refine pO Tryz.func171 rfl (by kernel_rfl) rfl ?_
 refine .inl ⟨_,fun _=>(gh b (by omega)).ok,?_⟩
 unfold LX
 refine aby ?_ ?_
 ·intro h
  have h:ca b=false:=by simpa using h
  rw[h]
  exact⟨DV.aL 3,tv⟩
 ·intro h
  have h:ca b=true:=by simpa using h
  rw[h]
  have h1:=y6 a
  have h2:=Su (P:=b) h1.2
  have h3:(nV a).length*(b.length+1)<=a.length*(b.length+1):=ab4 _ h1.1
  have h4:a.length*((wC a b).length+1)<=a.length*(a.length*(b.length+1)+1):=Nat.mul_le_mul_left _ (by unfold wC;omega)
  refine .inl ⟨_,fun _=>(rN a b ha hb (by omega)).ok,?_⟩
  refine .inl ⟨_,fun _=>(rN a (wC a b) ha (by unfold wC;omega) (by omega)).ok,?_⟩
  exact⟨rf,tv⟩
end
section
open Go.TM
structure dX where
 fr:Int
 to:Int
 it:Int
 n:Int
 ps:List Lt
structure dJ where
 id:Int
 kind:Int
 gl:Int
 tick:Int
 aD:Int
 times:Int
 mv:List dX
structure oj where
 id:Int
 step:Int
 kind:Int
 tick:Int
 gl:Int
 fr:Int
 to:Int
 it:Int
 n:Int
 ps:List Lt
 md:List Int
abbrev Ky:=Int×Int
abbrev SM:=List (Ky×List Lt)
def ak(m:dX):DV:=.agg [I m.fr,I m.to,I m.it,I m.n,aS m.ps]
def aC(s:dJ):DV:=.agg [I s.id,I s.kind,I s.gl,I s.tick,I s.aD,I s.times,.sl 5 (s.mv.map ak)]
def aM(f:oj):DV:=.agg [I f.id,I f.step,I f.kind,I f.tick,I f.gl,I f.fr,I f.to,I f.it,I f.n,aS f.ps,Ints f.md]
def gy(p:Ky×List Lt):DV:=.agg [I p.1.1,I p.1.2,aS p.2]
structure RL where
 sh:Int
 st:SM
 fl:List oj
 sp:List dJ
structure Sv where
 nm:ByteArray
 sp:Bool
 lv:Int
 tm:Int
 ch:Int
 of:Int
 tk:List Ky
 gv:List Ky
 bk:List Ky
def fk(p:Ky):DV:=.agg [I p.1,I p.2]
def gT(r:Sv):DV:=.agg [.str r.nm,B r.sp,I r.lv,I r.tm,I r.ch,I r.of,.sl 2 (r.tk.map fk),.sl 2 (r.gv.map fk),.sl 2 (r.bk.map fk)]
def dT:List Sv:=[⟨⟨⟨[100,105,103]⟩⟩,true,0,0,1,1,[],[(1,4),(2,3)],[]⟩,⟨⟨⟨[115,109,101,108,116]⟩⟩,false,2,5,2,3,[(1,2),(2,1)],[(3,1)],[(1,1)]⟩,
 ⟨⟨⟨[102,111,114,103,101]⟩⟩,false,3,10,1,1,[(3,3)],[(4,1)],[]⟩,⟨⟨⟨[115,99,114,97,112]⟩⟩,false,0,1,1,1,[(4,1)],[(3,3)],[]⟩,⟨⟨⟨[115,101,108,108]⟩⟩,false,0,1,1,1,[(3,1)],[(0,7)],[]⟩]
abbrev iO:List DV:=[.sl 7 (yR (I 2) (I 20)),.sl 9 (dT.map gT),T0,Pe]
def rlC(R:RL):List AV:=.dv (I R.sh)::eB iO++[.own 1 0 0 [],.own 2 0 0 [],.own 3 0 0 []]
def dE(R:RL):ae:=[(0,.cells (rlC R)),(1,.tree 0 0 (.aB 3 (R.st.map gy))),(2,.tree 0 0 (.aB 11 (R.fl.map aM))),(3,.tree 0 0 (.aB 7 (R.sp.map aC)))]
def qE:SM->Ky->Nat
 |[],_=>0
 |p::r,k=>if p.1=k then 0 else qE r k+1
theorem Pw:∀(m:SM) (k:Ky),qE m k<=m.length
 |[],_=>ab3 _
 |p::r,k=>by unfold qE;split;exact abO _;have:=Pw r k;simp only[List.length_cons];omega
theorem Ij:∀{m:SM} {k:Ky} {j:Nat} {p:Ky×List Lt},m[j]?=some p->j<=qE m k->(p.1=k->qE m k=j)/\(p.1≠k->j+1<=qE m k)
 |q::r,k,0,p,h,hj=>by
  simp at h;subst h
  unfold qE
  exact⟨fun e=>if_pos e,fun e=>by rw[if_neg e];omega⟩
 |q::r,k,j+1,p,h,hj=>by
  unfold qE at hj⊢
  split at hj
  ·omega
  ·rename_i hq
   rw[if_neg hq]
   have:=Ij (m:=r) (k:=k) (j:=j) (p:=p) (by simpa using h) (by omega)
   exact⟨fun e=>by rw[this.1 e],fun e=>by have:=this.2 e;omega⟩
theorem Da:∀(m:SM) (k:Ky),aR m k=(m[qE m k]?).map (·.2)
 |[],k=>rfl
 |p::r,k=>by
  obtain⟨q,l⟩:=p
  unfold qE aR
  split
  ·simp
  ·rw[Da r k];simp
theorem Db:∀(m:SM) (k:Ky) (l:List Lt),aU m k l=if qE m k<m.length then m.set (qE m k) (k,l)else m++[(k,l)]
 |[],k,l=>by simp[aU,qE]
 |p::r,k,l=>by
  obtain⟨q,v⟩:=p
  unfold qE aU
  split
  ·simp
  ·rw[Db r k l]
   simp only[List.length_cons]
   by_cases h:qE r k<r.length
   ·rw[if_pos h,if_pos (by omega)];rfl
   ·rw[if_neg h,if_neg (by omega)];rfl
theorem Sw{m:SM}{k:Ky}(h:qE m k<m.length):∃l,m[qE m k]?=some (k,l):=by
 have hx:=aaa h
 have:=(Ij hx (ab3 _))
 by_cases e:m[qE m k].1=k
 ·exact⟨m[qE m k].2,by rw[hx];exact congrArg some (Prod.ext e rfl)⟩
 ·have:=this.2 e;omega
def cr(m:SM)(k:Ky):List Lt:=(aR m k).getD []
variable [bJ]
theorem find_spec(R:RL)(a i:Int)(hn:R.st.length<=100000):aq Tryz.prog 67 [.ptr 0 0,.dv (I a),.dv (I i)] 4 (dE R) 0 [.dv (I (if qE R.st (a,i)<R.st.length then(qE R.st (a,i):Int)else -1))] (dE R):=by
 refine cO Tryz.func67 rfl (by kernel_rfl) ?_
 refine⟨Nat,fun j=>⟨4,[(0,.ptr 0 0),(1,.dv (I a)),(2,.dv (I i)),(7,.dv (I j))],dE R⟩,fun j=>j<=qE R.st (a,i),fun j=>R.st.length-j,0,fun _=>rfl,jn rfl rfl rfl rfl,abO _,?_⟩
 rintro j hj
 have oe:=Pw R.st (a,i)
 refine aby ?_ ?_
 ·intro h
  have au:j<R.st.length:=by have:=abQ h;rw[abz]at this;omega
  obtain⟨p,hp⟩:∃p,R.st[j]?=some p:=⟨_,aaa au⟩
  have hf:=Ij (k:=(a,i)) hp hj
  obtain⟨⟨pa,pi⟩,pl⟩:=p
  have ip:(R.st.map gy)[(j:Int).toNat]?=some (gy ((pa,pi),pl)):=by rw[abB];simp[hp]
  repeat first|refine g1 ?_|refine g3 ?_|refine⟨fun _=>⟨by omega,by rw[abz];omega⟩,?_⟩|refine⟨gy ((pa,pi),pl),fun _=>ip,?_⟩
  refine aby ?_ ?_
  ·intro h
   have e:(pa,pi)=(a,i):=by
    have h:=dV h
    exact Prod.ext (beq_iff_eq.1 h.1) (beq_iff_eq.1 h.2)
   rw[hf.1 e,if_pos au]
   exact ext (by kernel_rfl) rfl rfl
  ·intro h
   have e:(pa,pi)≠(a,i):=fun e=>by
    injection e with e1 e2
    have h:(bif pa==a then pi==i else false)=false:=h
    subst e1;subst e2;simp at h
   exact⟨fun _=>⟨by omega,by omega⟩,j+1,jn rfl rfl rfl rfl,hf.2 e,mlt au⟩
 ·intro h
  have wK:R.st.length<=j:=by have:=abR h;rw[abz]at this;omega
  rw[if_neg (by omega)]
  exact ext (by kernel_rfl) rfl rfl
theorem Px{m:SM}{k:Ky}(h:qE m k<m.length):m[qE m k]?=some (k,cr m k):=by
 obtain⟨l,hl⟩:=Sw h
 unfold cr
 rw[Da,hl];rfl
theorem VX{m:SM}{k:Ky}(h:¬qE m k<m.length):cr m k=[]:=by
 unfold cr
 rw[Da,List.getElem?_eq_none (by omega)];rfl
theorem fU(R:RL)(a i:Int)(hn:R.st.length<=100000):aq Tryz.prog 39 [.ptr 0 0,.dv (I a),.dv (I i)] 4 (dE R) 0 [.dv (aS (cr R.st (a,i)))] (dE R):=by
 refine cO Tryz.func39 rfl (by kernel_rfl) ?_
 refine .inr (cl [0,1,2,3] (find_spec R a i hn) (by kernel_rfl) rfl rfl ?_)
 refine aby ?_ ?_
 ·intro h
  have h:=abQ h
  have hc:¬qE R.st (a,i)<R.st.length:=fun hc=>by rw[if_pos hc]at h;omega
  rw[VX hc]
  exact⟨_,_,⟨rfl,rfl⟩,by kernel_rfl,⟨DV.aL 3,tv⟩,bl (k:=dE R) rfl⟩
 ·intro h
  have h:=abR h
  have hc:qE R.st (a,i)<R.st.length:=Decidable.byContradiction fun hc=>by rw[if_neg hc]at h;omega
  have hx:=Px hc
  simp only[if_pos hc]
  refine⟨fun _=>⟨by omega,by rw[abz];omega⟩,gy ((a,i),cr R.st (a,i)),fun _=>by rw[abB];simp[hx],?_⟩
  exact ext (by kernel_rfl) rfl rfl
theorem BB(R:RL)(a i:Int)(hn:R.st.length<=100000)(hl:(cr R.st (a,i)).length<=1000000):aq Tryz.prog 19 [.ptr 0 0,.dv (I a),.dv (I i)] 4 (dE R) 0 [.dv (I (bQ (cr R.st (a,i))))] (dE R):=by
 refine cO Tryz.func19 rfl (by kernel_rfl) ?_
 refine .inr (cl [0,1,2,3] (fU R a i hn) (by kernel_rfl) rfl rfl ?_)
 refine .inl ⟨_,fun _=>(kz _ hl).ok,?_⟩
 exact ext (by kernel_rfl) rfl rfl
end
end Go.Proofs.YtpbiiigpphehbaaGreatDoor
