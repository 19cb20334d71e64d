import Derived.Test.YtfpebgpgabjieaaGreatDoorGM18
set_option linter.all false
open Go.TM.oA Go.TM.oB Go.TM.oC Go.TM.oD Go.TM.oE
namespace Go.Proofs.YtfpebgpgabjieaaGreatDoor
set_option maxRecDepth 100000
set_option maxHeartbeats 4000000
section
open Go.TM
def jW(l:Lt)(s:List Lt)(i:Nat):Wb:=(s.take i).foldl (wJ l) ⟨[],[],l.a,l.a+l.n⟩
theorem Bz{l:Lt}{s:List Lt}{i:Nat}{x:Lt}(hx:s[i]?=some x):jW l s (i+1)=wJ l (jW l s i) x:=by
 unfold jW;rw[adY,hx,aee];rfl
structure InB(l:Lt)(i:Nat)(s:Wb):Prop where
 lo:0<=s.fr/\s.fr<=l.a
 hi:l.a+l.n<=s.to/\s.to<=1099511627776
 len:s.TW.length+s.TX.length<=i
theorem IT{l:Lt}{s:List Lt}(hs:∀x∈s,aB x=true)(hl:aB l=true):∀i,InB l i (jW l s i)
 |0=>by have:=ah.1 hl;exact⟨⟨this.2.1,Int.le_refl _⟩,⟨Int.le_refl _,this.2.2.2⟩,aei _⟩
 |i+1=>by
  obtain⟨h1,h2,h3⟩:=IT hs hl i
  cases hx:s[i]? with
  |none=>
   have:jW l s (i+1)=jW l s i:=by unfold jW;rw[adY,hx];simp
   rw[this];exact⟨h1,h2,by omega⟩
  |some x=>
   have hp:=ah.1 (hs x (adR hx))
   rw[Bz hx]
   generalize jW l s i=z at*
   unfold wJ
   split
   ·exact⟨h1,h2,by simp only[ad1,List.length_cons,List.length_nil];omega⟩
   split
   ·exact⟨h1,h2,by simp only[ad1,List.length_cons,List.length_nil];omega⟩
   ·exact⟨by simp only;omega,by simp only;omega,by simp only;omega⟩
theorem acC(l:List Lt):∀x,x∈l.map ax->x.aW:=fun x hx d hd=>by
 obtain⟨y,_,rfl⟩:=aeg.1 hx
 simp only[ax,DV.cells,adV,List.mem_nil_iff,or_false]at hd
 rcases hd with rfl|rfl|rfl<;>rfl
theorem PU{s:List Lt}{l:Lt}(hs:∀x∈s,aB x=true)(hl:aB l=true)(hn:NS s):(∀x∈kB s l,aB x=true)/\(kB s l).length<=s.length+1:=by
 have hb:=IT hs hl s.length
 have hr:kB s l=PC l (jW l s s.length):=by unfold kB jW;rw[ad4]
 have h0:yv l [] ⟨[],[],l.a,l.a+l.n⟩:=⟨.slnil,.slnil,fun _ h=>(by cases h),fun _ h=>(by cases h),Int.le_refl _,Int.le_refl _,fun f u=>by
  have a:¬has [] f u:=bY
  exact⟨fun h=>.inr ((h.resolve_left a).resolve_left a),fun h=>.inr (.inr (h.resolve_left a))⟩⟩
 have hlp:=ah.1 hl
 have h:=yv.fold (by omega) s [] _ (by simpa using hn) h0
 simp only[List.nil_append]at h
 have e:s.foldl (wJ l) ⟨[],[],l.a,l.a+l.n⟩=jW l s s.length:=by unfold jW;rw[ad4]
 rw[e]at h
 rw[hr]
 generalize jW l s s.length=z at*
 obtain⟨⟨lo1,lo2⟩,⟨N7,uf⟩,hlen⟩:=hb
 unfold PC
 refine⟨fun x hx=>?_,by simp only[ad1,List.length_cons,List.length_nil];omega⟩
 rcases adX.1 hx with hx|hx
 ·rcases adX.1 hx with hx|hx
  ·exact hs x (h.bs.subset hx)
  ·rw[adU]at hx;subst hx;rw[ah];simp only;omega
 ·exact hs x (h.aq.subset hx)
theorem C0{l:List Lt}(hl:∀x∈l,aB x=true):∀i,(∀x∈(l.take i).foldl kB [],aB x=true)/\((l.take i).foldl kB []).length<=i/\NS ((l.take i).foldl kB [])
 |0=>⟨fun _ h=>(by cases h),aei _,NS.nil⟩
 |i+1=>by
  obtain⟨h1,h2,h3⟩:=C0 hl i
  cases hx:l[i]? with
  |none=>
   have:l.take (i+1)=l.take i:=by rw[adY,hx];simp
   rw[this];exact⟨h1,by omega,h3⟩
  |some x=>
   have hp:=hl x (adR hx)
   rw[adY,hx,aee]
   show(∀y∈kB _ x,_)/\(kB _ x).length<=_/\NS (kB _ x)
   have h4:=PU h1 hp h3
   exact⟨h4.1,by omega,(KX h3 (ah.1 hp).2.2.1).1⟩
theorem qD{l:List Lt}(hl:∀x∈l,aB x=true):(∀x∈cL l,aB x=true)/\(cL l).length<=l.length/\NS (cL l):=by
 have h:=C0 hl l.length
 rw[ad4]at h
 exact h
variable [bj]
def cLt(x:Lt):List AV:=[.dv (I x.f),.dv (I x.a),.dv (I x.n)]
theorem PV(s:List Lt)(l:Lt)(hs:∀x∈s,aB x=true)(hl:aB l=true)(hn:s.length<=10000):aR Tryz.prog 224 [aQ s,ax l] [aQ (kB s l)]:=by
 refine pO Tryz.func224 rfl (by kernel_rfl) rfl ?_
 have hlp:=ah.1 hl
 have hN:=IT hs hl
 refine⟨fun _=>by omega,?_⟩
 refine⟨Nat,fun i=>⟨3,[(0,.dv (aQ s)),(3,.ptr 0 0),(5,.own 1 0 0 []),(6,.own 2 0 0 []),(7,.dv (I (jW l s i).fr)),(8,.dv (I (jW l s i).to)),(9,.dv (I i))],[(0,.cells (cLt l)),(1,.tree 0 0 (.aD 3 ((jW l s i).TW.map ax))),(2,.tree 0 0 (.aD 3 ((jW l s i).TX.map ax)))]⟩,fun i=>i<=s.length,fun i=>s.length-i,0,fun _=>rfl,⟨⟨rf,rfl,⟨rfl,rfl,rfl,rfl,3,rfl⟩,⟨rfl,rfl,rfl,rfl,3,rfl⟩,rf,rf,rf,tv⟩,⟨⟨rf,rf,rf,tv⟩,⟨rfl,rfl,3,rfl⟩,⟨rfl,rfl,3,rfl⟩,tv⟩,rfl,rfl⟩,ad3 _,?_⟩
 rintro i hi
 have hNi:=hN i
 have fy:jW l s i=jW l s i:=rfl
 refine adN ?_ ?_
 ·intro h
  have ay:i<s.length:=by have:=ad5 h;rw[adO]at this;omega
  obtain⟨x,hx⟩:∃x,s[i]?=some x:=⟨_,ace ay⟩
  have S0:=ah.1 (hs x (adR hx))
  have dD:=Bz (l:=l) hx
  have ix:(s.map ax)[(i:Int).toNat]?=some (ax x):=by rw[adQ];simp[hx]
  refine⟨ax x,fun _=>⟨by omega,ix⟩,?_⟩
  generalize hz:jW l s i=z at*
  obtain⟨bf,af,fr,to⟩:=z
  obtain⟨⟨lo1,lo2⟩,⟨N7,uf⟩,hlen⟩:=hNi
  simp only at lo1 lo2 N7 uf hlen
  simp only[hz]
  repeat first|refine gG ?_|refine⟨fun _=>by omega,?_⟩
  have lb:∀{q:List Lt},q.length<=i->(q.map ax).length<=20000:=fun h=>by rw[adO];omega
  refine adN ?_ ?_
  ·intro h
   have hc:x.f<l.f\/x.f=l.f/\x.a+x.n<fr:=by simpa using h
   have e:jW l s (i+1)=⟨bf++[x],af,fr,to⟩:=by rw[dD];unfold wJ;rw[if_pos hc]
   have l1:=lb (q:=bf) (by omega)
   refine .inl ⟨[ax x],rfl,⟨rf,rf,rf,tv⟩,(by simp;rfl),?_⟩
   refine .inr ⟨[ax x],bV.refl _,bL (by simp only[List.length_cons,List.length_nil];omega),by simp only[List.length_cons,List.length_nil];omega,?_⟩
   exact⟨fun _=>by omega,i+1,jn (by simp only[e];rfl) (by simp only[e,ad7];rfl) rfl rfl,by omega,mlt ay⟩
  intro h
  have hc:¬(x.f<l.f\/x.f=l.f/\x.a+x.n<fr):=by simpa using h
  repeat refine gG ?_
  refine adN ?_ ?_
  ·intro h
   have wI:l.f<x.f\/to<x.a:=by simpa using h
   have e:jW l s (i+1)=⟨bf,af++[x],fr,to⟩:=by rw[dD];unfold wJ;rw[if_neg hc,if_pos wI]
   have l1:=lb (q:=af) (by omega)
   refine .inl ⟨[ax x],rfl,⟨rf,rf,rf,tv⟩,(by simp;rfl),?_⟩
   refine .inr ⟨[ax x],bV.refl _,bL (by simp only[List.length_cons,List.length_nil];omega),by simp only[List.length_cons,List.length_nil];omega,?_⟩
   exact⟨fun _=>by omega,i+1,jn (by simp only[e];rfl) (by simp only[e,ad7];rfl) rfl rfl,by omega,mlt ay⟩
  ·intro h
   have wI:¬(l.f<x.f\/to<x.a):=by simpa using h
   have e:jW l s (i+1)=⟨bf,af,min fr x.a,max to (x.a+x.n)⟩:=by rw[dD];unfold wJ;rw[if_neg hc,if_neg wI]
   have e1:(if x.a<fr then x.a else fr)=min fr x.a:=by split<;>omega
   have e2:(if to<x.a+x.n then x.a+x.n else to)=max to (x.a+x.n):=by split<;>omega
   refine⟨fun _=>by omega,fun _=>by omega,i+1,jn (by simp only[e,e1,e2];rfl) (by simp only[e];rfl) rfl rfl,by omega,mlt ay⟩
 ·intro h
  have he:i=s.length:=by have:=ad6 h;rw[adO]at this;omega
  subst he
  have hr:kB s l=PC l (jW l s s.length):=by unfold kB jW;rw[ad4]
  rw[hr]
  generalize hz:jW l s s.length=z at*
  obtain⟨bf,af,fr,to⟩:=z
  obtain⟨⟨lo1,lo2⟩,⟨N7,uf⟩,hlen⟩:=hNi
  simp only at lo1 lo2 N7 uf hlen
  simp only[hz]
  have l1:(bf.map ax).length<=20000:=by rw[adO];omega
  have l2:(af.map ax).length<=20000:=by rw[adO];omega
  refine⟨fun _=>by omega,?_⟩
  refine .inl ⟨[ax ⟨l.f,fr,to-fr⟩],rfl,⟨rf,rf,rf,tv⟩,(by simp;rfl),?_⟩
  refine .inr ⟨[ax ⟨l.f,fr,to-fr⟩],bV.refl _,bL (by simp only[List.length_cons,List.length_nil];omega),by simp only[List.length_cons,List.length_nil];omega,?_⟩
  refine .inr (.inl ⟨acC af,af.map ax,bV.refl _,bL (by simp only[ad1,List.length_cons,List.length_nil];omega),by simp only[ad1,List.length_cons,List.length_nil];omega,?_⟩)
  refine⟨?_,tv⟩
  have:=nW (bf++[(⟨l.f,fr,to-fr⟩:Lt)]++af)
  rw[ad7,ad7]at this
  exact this
theorem BA(l:List Lt)(hl:l.length<=9000):aR Tryz.prog 197 [aQ l] [aQ (bif bz l then cL l else[])]:=by
 refine pO Tryz.func197 rfl (by kernel_rfl) rfl ?_
 refine .inl ⟨_,fun _=>(gz l (by omega)).ok,?_⟩
 have hb:=fun h=>(dE (l:=l) h).2
 have hs:cL l=l.foldl kB []:=rfl
 generalize bz l=v at*
 refine⟨Nat,fun i=>⟨0,[(0,.dv (aQ l)),(3,.dv (aQ ((l.take i).foldl kB []))),(4,.dv (B v)),(5,.dv (I i))],[]⟩,fun i=>i<=l.length/\(v=false->i=0),fun i=>l.length-i,0,fun _=>rfl,⟨⟨rf,DV.aL 3,rf,rf,tv⟩,tv,rfl,rfl⟩,⟨ad3 _,fun _=>rfl⟩,?_⟩
 rintro i ⟨hi,hv⟩
 repeat refine gG ?_
 refine adN ?_ ?_
 ·intro h
  have h:=dc h
  have XK:v=true:=h.2
  have ay:i<l.length:=by have:=ad5 h.1;rw[adO]at this;omega
  obtain⟨x,hx⟩:∃x,l[i]?=some x:=⟨_,ace ay⟩
  have hp:=hb XK
  obtain⟨h1,h2,h3⟩:=C0 hp i
  have e:(l.take (i+1)).foldl kB []=kB ((l.take i).foldl kB []) x:=by rw[adY,hx,aee];rfl
  refine⟨ax x,fun _=>⟨by omega,by rw[adQ];simp[hx]⟩,?_⟩
  refine .inl ⟨_,fun _=>(PV _ x h1 (hp x (adR hx)) (by omega)).ok,?_⟩
  exact⟨fun _=>by omega,i+1,jn (by simp only[e];rfl) rfl rfl rfl,⟨by omega,by simp[XK]⟩,mlt ay⟩
 ·intro h
  have h:=mc h
  refine⟨DV.Le.of_eq ?_,tv⟩
  cases v with
  |true=>
   have:i=l.length:=by
    have:¬(i:Int)<(l.map ax).length:=fun hh=>h ⟨aeb hh,rfl⟩
    rw[adO]at this;omega
   subst this
   rw[ad4];rfl
  |false=>rw[hv rfl];rfl
end
section
open Go.TM
theorem MB{x y:Lt}(hx:aB x=true)(hy:aB y=true):(∀z∈gP y x,aB z=true)/\(gP y x).length<=2:=by
 have hx:=ah.1 hx
 have hy:=ah.1 hy
 obtain⟨a1,a2,_⟩:=KZ hy.2.2.1 hx.2.2.1
 refine⟨fun z hz=>?_,?_⟩
 ·have b1:=a1.pos z hz
  have b2:=a2 z hz
  rw[ah];omega
 ·unfold gP
  split
  ·simp
  ·split<;>split<;>simp
theorem BB{l:List Lt}{y:Lt}(hl:∀x∈l,aB x=true)(hy:aB y=true):(∀z∈ji l y,aB z=true)/\(ji l y).length<=2*l.length:=by
 induction l with
 |nil=>exact⟨fun _ h=>(by cases h),aei _⟩
 |cons x l ih=>
  obtain⟨a1,a2⟩:=MB (hl x ad0) hy
  obtain⟨b1,b2⟩:=ih fun z hz=>hl z (adW _ hz)
  have e:ji (x::l) y=gP y x++ji l y:=rfl
  rw[e]
  refine⟨fun z hz=>?_,by simp only[ad1,List.length_cons];omega⟩
  rcases adX.1 hz with hz|hz
  ·exact a1 z hz
  ·exact b1 z hz
def yQ(l:List Lt)(y:Lt)(i:Nat):List Lt:=ji (l.take i) y
theorem MC{l:List Lt}{y x:Lt}{i:Nat}(hx:l[i]?=some x):yQ l y (i+1)=yQ l y i++gP y x:=by
 unfold yQ ji;rw[adY,hx,List.flatMap_append];simp
def tn(x:Lt)(P:List Lt)(k:Nat):List Lt:=(P.take k).foldl ji [x]
theorem BC{x y:Lt}{P:List Lt}{k:Nat}(hy:P[k]?=some y):tn x P (k+1)=ji (tn x P k) y:=by
 unfold tn;rw[adY,hy,aee];rfl
theorem FP{y:Lt}(hy:1<=y.n):∀{l:List Lt},NS l->(ji l y).length<=l.length+1
 |[],_=>by simp[ji]
 |x::l,h=>by
  have e:ji (x::l) y=gP y x++ji l y:=rfl
  rw[e,ad1]
  by_cases hc:x.f=y.f/\y.a+y.n<x.a+x.n
  ·have kl:ji l y=l:=by
    have:∀z∈l,gP y z=[z]:=fun z hz=>by
     have:=h.head.2 z hz
     unfold Ax at this
     unfold gP
     rw[if_pos (by omega)]
    clear e hc
    induction l with
    |nil=>rfl
    |cons z l ih=>
     show gP y z++ji l y=_
     have h2:=h.tail
     rw[this z ad0,ih ⟨(List.pairwise_cons.2 ⟨fun w hw=>h.head.2 w (adW _ hw),h2.tail.pL⟩),fun w hw=>by
      rcases adV.1 hw with rfl|hw
      ·exact h.head.1
      ·exact h2.tail.pos w hw⟩ fun w hw=>this w (adW _ hw)]
     rfl
   rw[kl]
   have:(gP y x).length<=2:=by
    unfold gP
    split
    ·simp
    ·split<;>split<;>simp
   simp only[List.length_cons];omega
  ·have:(gP y x).length<=1:=by
    unfold gP
    split
    ·simp
    ·rw[if_neg (show¬y.a+y.n<x.a+x.n by omega)];split<;>simp
   have:=FP hy h.tail
   simp only[List.length_cons];omega
theorem C1{x:Lt}{P:List Lt}(hx:aB x=true)(hP:∀y∈P,aB y=true):∀k,(∀z∈tn x P k,aB z=true)/\NS (tn x P k)/\(tn x P k).length<=k+1
 |0=>⟨fun z hz=>by rw[show tn x P 0=[x]from rfl,adU]at hz;subst hz;exact hx,⟨aem _ _,fun z hz=>by rw[show tn x P 0=[x]from rfl,adU]at hz;subst hz;exact(ah.1 hx).2.2.1⟩,aei _⟩
 |k+1=>by
  obtain⟨h1,h2,h3⟩:=C1 hx hP k
  cases hy:P[k]? with
  |none=>
   have:tn x P (k+1)=tn x P k:=by unfold tn;rw[adY,hy];simp
   rw[this];exact⟨h1,h2,by omega⟩
  |some y=>
   have hp:=hP y (adR hy)
   rw[BC hy]
   have h4:=FP (ah.1 hp).2.2.1 h2
   exact⟨(BB h1 hp).1,(CT (ah.1 hp).2.2.1 h2).1,by omega⟩
def FQ(s P:List Lt)(i:Nat):List Lt:=((s.take i).flatMap fun x=>mZ x P).foldl aN []
theorem tq:∀(r l:List Lt),(∀x∈r,aB x=true)->(∀x∈l,aB x=true)->(∀x∈r.foldl aN l,aB x=true)/\(r.foldl aN l).length<=l.length+r.length
 |[],l,_,h=>⟨h,aei _⟩
 |x::r,l,hr,h=>by
  have hp:=ah.1 (hr x ad0)
  have h1:=fL h ⟨hp.1,hp.2.1,by omega,hp.2.2.2⟩
  have h2:=tq r (aN l x) (fun y hy=>hr y (adW _ hy)) h1
  have h3:=dR l x
  exact⟨h2.1,by rw[List.foldl_cons,List.length_cons];omega⟩
variable [bj]
theorem MD(l:List Lt)(y:Lt)(hl:∀x∈l,aB x=true)(hy:aB y=true)(hn:l.length<=9000):aR Tryz.prog 226 [aQ l,ax y] [aQ (ji l y)]:=by
 refine pO Tryz.func226 rfl (by kernel_rfl) rfl ?_
 have hyp:=ah.1 hy
 refine⟨Nat,fun i=>⟨2,[(0,.dv (aQ l)),(3,.ptr 0 0),(5,.own 1 0 0 []),(6,.dv (I i))],[(0,.cells (cLt y)),(1,.tree 0 0 (.aD 3 ((yQ l y i).map ax)))]⟩,fun i=>i<=l.length,fun i=>l.length-i,0,fun _=>rfl,⟨⟨rf,rfl,⟨rfl,rfl,rfl,rfl,3,rfl⟩,rf,tv⟩,⟨⟨rf,rf,rf,tv⟩,⟨rfl,rfl,3,rfl⟩,tv⟩,rfl,rfl⟩,ad3 _,?_⟩
 rintro i hi
 refine adN ?_ ?_
 ·intro h
  have ay:i<l.length:=by have:=ad5 h;rw[adO]at this;omega
  obtain⟨x,hx⟩:∃x,l[i]?=some x:=⟨_,ace ay⟩
  have S0:=ah.1 (hl x (adR hx))
  have dD:=MC (y:=y) hx
  have gl:(yQ l y i).length<=2*i:=by
   have:=(BB (l:=l.take i) (fun z hz=>hl z (List.mem_of_mem_take hz)) hy).2
   rw[ad9]at this;unfold yQ;omega
  have ix:(l.map ax)[(i:Int).toNat]?=some (ax x):=by rw[adQ];simp[hx]
  generalize hz:yQ l y i=z at*
  have l1:(z.map ax).length<=20000:=by rw[adO];omega
  repeat first|refine gG ?_|refine⟨fun _=>by omega,?_⟩|refine⟨ax x,fun _=>⟨by omega,ix⟩,?_⟩|refine⟨by kernel_rfl,?_⟩
  refine adN ?_ ?_
  ·intro h
   have hc:x.f≠y.f\/y.a+y.n<=x.a\/x.a+x.n<=y.a:=by simp at h;omega
   have e:yQ l y (i+1)=z++[x]:=by rw[dD];unfold gP;rw[if_pos hc]
   refine⟨ax x,fun _=>⟨by omega,ix⟩,?_⟩
   refine .inl ⟨[ax x],rfl,⟨rf,rf,rf,tv⟩,(by simp;rfl),?_⟩
   refine .inr ⟨[ax x],bV.refl _,bL (by simp only[List.length_cons,List.length_nil];omega),by simp only[List.length_cons,List.length_nil];omega,?_⟩
   exact⟨fun _=>by omega,i+1,jn (by simp only[e];rfl) (by simp only[e,ad7];rfl) rfl rfl,by omega,mlt ay⟩
  ·intro h
   have hc:¬(x.f≠y.f\/y.a+y.n<=x.a\/x.a+x.n<=y.a):=by simp at h;omega
   have e:yQ l y (i+1)=z++((if x.a<y.a then[⟨y.f,x.a,y.a-x.a⟩]else[])++(if y.a+y.n<x.a+x.n then[⟨y.f,y.a+y.n,x.a+x.n-y.a-y.n⟩]else[])):=by rw[dD];unfold gP;rw[if_neg hc]
   refine adN ?_ ?_
   ·intro h2
    have h2:=ad5 h2
    repeat first|refine⟨fun _=>by omega,?_⟩
    refine .inl ⟨[ax ⟨y.f,x.a,y.a-x.a⟩],rfl,⟨rf,rf,rf,tv⟩,(by simp;rfl),?_⟩
    refine .inr ⟨[ax ⟨y.f,x.a,y.a-x.a⟩],bV.refl _,bL (by simp only[ad1,List.length_cons,List.length_nil];omega),by simp only[ad1,List.length_cons,List.length_nil];omega,?_⟩
    repeat first|refine⟨fun _=>by omega,?_⟩
    refine adN ?_ ?_
    ·intro h3
     have h3:=ad5 h3
     rw[if_pos h2,if_pos h3]at e
     repeat first|refine⟨fun _=>by omega,?_⟩
     refine .inl ⟨[ax ⟨y.f,y.a+y.n,x.a+x.n-y.a-y.n⟩],rfl,⟨rf,rf,rf,tv⟩,(by simp;rfl),?_⟩
     refine .inr ⟨[ax ⟨y.f,y.a+y.n,x.a+x.n-y.a-y.n⟩],bV.refl _,bL (by simp only[ad1,List.length_cons,List.length_nil];omega),by simp only[ad1,List.length_cons,List.length_nil];omega,?_⟩
     exact⟨fun _=>by omega,i+1,jn (by simp only[e];rfl) (by simp only[e,ad7,List.append_nil,List.nil_append,aef];rfl) rfl rfl,by omega,mlt ay⟩
    ·intro h3
     have h3:=ad6 h3
     rw[if_pos h2,if_neg h3]at e
     exact⟨fun _=>by omega,i+1,jn (by simp only[e];rfl) (by simp only[e,ad7,List.append_nil,List.nil_append,aef];rfl) rfl rfl,by omega,mlt ay⟩
   ·intro h2
    have h2:=ad6 h2
    repeat first|refine⟨fun _=>by omega,?_⟩
    refine adN ?_ ?_
    ·intro h3
     have h3:=ad5 h3
     rw[if_neg h2,if_pos h3]at e
     repeat first|refine⟨fun _=>by omega,?_⟩
     refine .inl ⟨[ax ⟨y.f,y.a+y.n,x.a+x.n-y.a-y.n⟩],rfl,⟨rf,rf,rf,tv⟩,(by simp;rfl),?_⟩
     refine .inr ⟨[ax ⟨y.f,y.a+y.n,x.a+x.n-y.a-y.n⟩],bV.refl _,bL (by simp only[ad1,List.length_cons,List.length_nil];omega),by simp only[ad1,List.length_cons,List.length_nil];omega,?_⟩
     exact⟨fun _=>by omega,i+1,jn (by simp only[e];rfl) (by simp only[e,ad7,List.append_nil,List.nil_append,aef];rfl) rfl rfl,by omega,mlt ay⟩
    ·intro h3
     have h3:=ad6 h3
     rw[if_neg h2,if_neg h3]at e
     exact⟨fun _=>by omega,i+1,jn (by simp only[e];rfl) (by simp only[e,ad7,List.append_nil,List.nil_append,aef];rfl) rfl rfl,by omega,mlt ay⟩
 ·intro h
  have he:i=l.length:=by have:=ad6 h;rw[adO]at this;omega
  subst he
  have:yQ l y l.length=ji l y:=by unfold yQ;rw[ad4]
  rw[this]
  exact⟨nW _,tv⟩
end
section
open Go.TM
theorem FR{s P:List Lt}{i:Nat}{x:Lt}(hx:s[i]?=some x):FQ s P (i+1)=(mZ x P).foldl aN (FQ s P i):=by
 unfold FQ;rw[adY,hx,List.flatMap_append,aee];simp
theorem yR(x:Lt)(P:List Lt):tn x P P.length=mZ x P:=by unfold tn mZ;rw[ad4]
theorem u4{s P:List Lt}(hs:∀x∈s,aB x=true)(hP:∀y∈P,aB y=true):∀i,(∀x∈FQ s P i,aB x=true)/\(FQ s P i).length<=i*(P.length+1)
 |0=>⟨fun _ h=>(by cases h),by simp[FQ]⟩
 |i+1=>by
  obtain⟨h1,h2⟩:=u4 hs hP i
  have em:(i+1)*(P.length+1)=i*(P.length+1)+(P.length+1):=Nat.succ_mul ..
  cases hx:s[i]? with
  |none=>
   have:FQ s P (i+1)=FQ s P i:=by unfold FQ;rw[adY,hx];simp
   rw[this];exact⟨h1,by omega⟩
  |some x=>
   have hp:=hs x (adR hx)
   obtain⟨r1,r2,r3⟩:=C1 hp hP P.length
   rw[yR]at r1 r3
   rw[FR hx]
   have:=tq _ _ r1 h1
   exact⟨this.1,by omega⟩
theorem abb(l:List Lt):(((l.map ax).length:Int)==0)=decide (l=[]):=by
 cases l with
 |nil=>rfl
 |cons x l=>
  have h:(((((x::l).map ax).length:Nat):Int)==0)=false:=by
   rw[beq_eq_false_iff_ne,adO,List.length_cons];omega
  rw[h,aec (by simp)]
variable [bj]
def IU(s P:List Lt):List Lt:=bif bz s&&bz P then mD s P else[]
theorem tr(s P:List Lt)(hs:s.length<=5000)(hP:P.length<=5000)(cb:s.length*(P.length+1)<=90000):aR Tryz.prog 199 [aQ s,aQ P] [aQ (IU s P)]:=by
 refine pO Tryz.func199 rfl (by kernel_rfl) rfl ?_
 refine .inl ⟨_,fun _=>(gz s (by omega)).ok,?_⟩
 refine .inl ⟨_,fun _=>(gz P (by omega)).ok,?_⟩
 repeat refine gG ?_
 refine adN ?_ ?_
 ·intro h
  have:IU s P=[]:=by
   unfold IU
   have h:(bif !bz s then true else !bz P)=true:=h
   cases hv:bz s<;>cases eB:bz P<;>rw[hv,eB]at h<;>first|rfl|cases h
  rw[this]
  exact⟨DV.aL 3,tv⟩
 intro h
 have hv:bz s=true/\bz P=true:=by
  have h:(bif !bz s then true else !bz P)=false:=h
  cases hv:bz s<;>cases eB:bz P<;>rw[hv,eB]at h<;>first|exact⟨rfl,rfl⟩|cases h
 have lO:=(dE hv.1).2
 have hPp:=(dE hv.2).2
 have he:IU s P=FQ s P s.length:=by unfold IU FQ mD;rw[hv.1,hv.2,ad4];rfl
 rw[he]
 clear he h hv
 refine⟨Nat,fun i=>⟨0,[(0,.dv (aQ s)),(1,.dv (aQ P)),(7,.dv (aQ (FQ s P i))),(8,.dv (I i))],[]⟩,fun i=>i<=s.length,fun i=>s.length-i,0,fun _=>rfl,⟨⟨rf,rf,DV.aL 3,rf,tv⟩,tv,rfl,rfl⟩,ad3 _,?_⟩
 rintro i hi
 refine adN ?_ ?_
 ·intro h
  have ay:i<s.length:=by have:=ad5 h;rw[adO]at this;omega
  obtain⟨x,hx⟩:∃x,s[i]?=some x:=⟨_,ace ay⟩
  have S0:=lO x (adR hx)
  have dD:=FR (P:=P) hx
  obtain⟨w1,w2⟩:=u4 lO hPp i
  have hR:=C1 S0 hPp
  have hmul:i*(P.length+1)<=s.length*(P.length+1):=aej _ (by omega)
  generalize hW:FQ s P i=W at*
  refine⟨ax x,fun _=>⟨by omega,by rw[adQ];simp[hx]⟩,?_⟩
  refine .inl ⟨[ax x],rfl,⟨rf,rf,rf,tv⟩,(by simp;rfl),?_⟩
  refine⟨Nat,fun k=>⟨0,[(0,.dv (aQ s)),(1,.dv (aQ P)),(7,.dv (aQ W)),(8,.dv (I i)),(9,.dv (aQ (tn x P k))),(10,.dv (I k))],[]⟩,fun k=>k<=P.length,fun k=>P.length-k,0,fun _=>rfl,jn (by simp only[hW];rfl) rfl rfl rfl,ad3 _,?_⟩
  rintro k hk
  refine adN ?_ ?_
  ·intro h
   have N8:k<P.length:=by have:=ad5 h;rw[adO]at this;omega
   obtain⟨y,hy⟩:∃y,P[k]?=some y:=⟨_,ace N8⟩
   obtain⟨r1,r2,r3⟩:=hR k
   have e:=BC (x:=x) hy
   refine⟨ax y,fun _=>⟨by omega,by rw[adQ];simp[hy]⟩,?_⟩
   refine .inl ⟨_,fun _=>(MD _ y r1 (hPp y (adR hy)) (by omega)).ok,?_⟩
   exact⟨fun _=>by omega,k+1,jn (by simp only[e];rfl) rfl rfl rfl,by omega,mlt N8⟩
  intro h
  have he:k=P.length:=by have:=ad6 h;rw[adO]at this;omega
  subst he
  obtain⟨r1,r2,r3⟩:=hR P.length
  simp only[yR]
  rw[yR]at r1 r3
  generalize mZ x P=R at*
  have hK:=fun q=>tq (R.take q) W (fun z hz=>r1 z (List.mem_of_mem_take hz)) w1
  refine⟨Nat,fun q=>⟨0,[(0,.dv (aQ s)),(1,.dv (aQ P)),(7,.dv (aQ ((R.take q).foldl aN W))),(8,.dv (I i)),(9,.dv (aQ R)),(11,.dv (I q))],[]⟩,fun q=>q<=R.length,fun q=>R.length-q,0,fun _=>rfl,jn rfl rfl rfl rfl,ad3 _,?_⟩
  rintro q hq
  refine adN ?_ ?_
  ·intro h
   have hqt:q<R.length:=by have:=ad5 h;rw[adO]at this;omega
   obtain⟨y,hy⟩:∃y,R[q]?=some y:=⟨_,ace hqt⟩
   have hyp:=ah.1 (r1 y (adR hy))
   obtain⟨k1,k2⟩:=hK q
   rw[ad9]at k2
   have e:(R.take (q+1)).foldl aN W=aN ((R.take q).foldl aN W) y:=by rw[adY,hy,aee];rfl
   refine⟨ax y,fun _=>⟨by omega,by rw[adQ];simp[hy]⟩,?_⟩
   refine .inl ⟨_,fun _=>(pQ _ y (by omega) (fun z hz=>by have:=ah.1 (k1 z hz);omega) (by omega)).ok,?_⟩
   exact⟨fun _=>by omega,q+1,jn (by simp only[e];rfl) rfl rfl rfl,by omega,mlt hqt⟩
  ·intro h
   have he:q=R.length:=by have:=ad6 h;rw[adO]at this;omega
   subst he
   refine⟨fun _=>by omega,i+1,jn (by simp only[dD,ad4];rfl) rfl rfl rfl,by omega,mlt ay⟩
 ·intro h
  have he:i=s.length:=by have:=ad6 h;rw[adO]at this;omega
  subst he
  exact⟨rf,tv⟩
def kF(l:List Lt):List Lt:=bif bz l then cL l else[]
def u5(a b:List Lt):List Lt:=IU (kF a) b
def rY(a b:List Lt):Bool:=bz a&&bz b&&decide (u5 a b=[])
theorem pS(l:List Lt):(kF l).length<=l.length/\∀x∈kF l,aB x=true:=by
 unfold kF
 cases hv:bz l with
 |true=>have:=qD (dE hv).2;exact⟨this.2.1,this.1⟩
 |false=>exact⟨ad3 _,fun _ h=>(by cases h)⟩
theorem rZ(a b:List Lt)(ha:a.length<=5000)(hb:b.length<=5000)(cb:a.length*(b.length+1)<=90000):aR Tryz.prog 225 [aQ a,aQ b] [aQ (u5 a b)]:=by
 refine pO Tryz.func225 rfl (by kernel_rfl) rfl ?_
 have hl:=(pS a).1
 have hm:(kF a).length*(b.length+1)<=a.length*(b.length+1):=aej _ hl
 refine .inl ⟨_,fun _=>(BA a (by omega)).ok,?_⟩
 refine .inl ⟨_,fun _=>(tr (kF a) b (by omega) hb (by omega)).ok,?_⟩
 exact⟨rf,tv⟩
theorem vR(a b:List Lt)(ha:a.length<=5000)(hb:b.length<=5000)(cb:a.length*(b.length+1)<=90000):aR Tryz.prog 198 [aQ a,aQ b] [B (rY a b)]:=by
 refine pO Tryz.func198 rfl (by kernel_rfl) rfl ?_
 refine .inl ⟨_,fun _=>(gz a (by omega)).ok,?_⟩
 refine .inl ⟨_,fun _=>(gz b (by omega)).ok,?_⟩
 repeat refine gG ?_
 refine .inl ⟨_,fun _=>(rZ a b ha hb cb).ok,?_⟩
 repeat refine gG ?_
 refine⟨DV.Le.of_eq ?_,tv⟩
 show DV.bool (bif bif bz a then bz b else false then(((u5 a b).map ax).length:Int)==0 else false)=B (rY a b)
 unfold rY
 rw[abb]
 cases bz a<;>cases bz b<;>rfl
theorem Uj{s P:List Lt}(hs:∀x∈s,aB x=true):(IU s P).length<=s.length*(P.length+1):=by
 unfold IU
 cases hv:bz s&&bz P with
 |true=>
  rw[aep]at hv
  have:=(u4 hs (dE hv.2).2 s.length).2
  unfold FQ at this
  rw[ad4]at this
  exact this
 |false=>exact ad3 _
def C2(a b:List Lt):List Lt:=bif bz b then u5 a (u5 a b)else[]
theorem BD(a b:List Lt)(ha:a.length<=5000)(hb:b.length<=5000)(cb:a.length*(b.length+1)<=5000)(adC:a.length*(a.length*(b.length+1)+1)<=90000):aR Tryz.prog 228 [aQ a,aQ b] [aQ (C2 a b)]:=by
 refine pO Tryz.func228 rfl (by kernel_rfl) rfl ?_
 refine .inl ⟨_,fun _=>(gz b (by omega)).ok,?_⟩
 unfold C2
 refine adN ?_ ?_
 ·intro h
  have h:bz b=false:=by simpa using h
  rw[h]
  exact⟨DV.aL 3,tv⟩
 ·intro h
  have h:bz b=true:=by simpa using h
  rw[h]
  have h1:=pS a
  have h2:=Uj (P:=b) h1.2
  have h3:(kF a).length*(b.length+1)<=a.length*(b.length+1):=aej _ h1.1
  have h4:a.length*((u5 a b).length+1)<=a.length*(a.length*(b.length+1)+1):=Nat.mul_le_mul_left _ (by unfold u5;omega)
  refine .inl ⟨_,fun _=>(rZ a b ha hb (by omega)).ok,?_⟩
  refine .inl ⟨_,fun _=>(rZ a (u5 a b) ha (by unfold u5;omega) (by omega)).ok,?_⟩
  exact⟨rf,tv⟩
end
section
open Go.TM
structure c5 where
 fr:Int
 to:Int
 it:Int
 n:Int
 ps:List Lt
structure cG where
 id:Int
 kind:Int
 iF:Int
 tick:Int
 aM:Int
 times:Int
 mv:List c5
structure bp where
 id:Int
 step:Int
 kind:Int
 tick:Int
 iF:Int
 fr:Int
 to:Int
 it:Int
 n:Int
 ps:List Lt
 md:List Int
abbrev Ky:=Int×Int
abbrev SM:=List (Ky×List Lt)
def aq(m:c5):DV:=.agg [I m.fr,I m.to,I m.it,I m.n,aQ m.ps]
def aP(s:cG):DV:=.agg [I s.id,I s.kind,I s.iF,I s.tick,I s.aM,I s.times,.sl 5 (s.mv.map aq)]
def ar(f:bp):DV:=.agg [I f.id,I f.step,I f.kind,I f.tick,I f.iF,I f.fr,I f.to,I f.it,I f.n,aQ f.ps,Ints f.md]
def iK(p:Ky×List Lt):DV:=.agg [I p.1.1,I p.1.2,aQ p.2]
structure RL where
 sh:Int
 st:SM
 fl:List bp
 sp:List cG
structure S1 where
 nm:ByteArray
 sp:Bool
 lv:Int
 tm:Int
 ch:Int
 of:Int
 tk:List Ky
 gv:List Ky
 bk:List Ky
def fI(p:Ky):DV:=.agg [I p.1,I p.2]
def ij(r:S1):DV:=.agg [.str r.nm,B r.sp,I r.lv,I r.tm,I r.ch,I r.of,.sl 2 (r.tk.map fI),.sl 2 (r.gv.map fI),.sl 2 (r.bk.map fI)]
def dA:List S1:=[⟨⟨⟨[100,105,103]⟩⟩,true,0,0,1,1,[],[(1,4),(2,3)],[]⟩,⟨⟨⟨[115,109,101,108,116]⟩⟩,false,2,5,2,3,[(1,2),(2,1)],[(3,1)],[(1,1)]⟩,
 ⟨⟨⟨[102,111,114,103,101]⟩⟩,false,3,10,1,1,[(3,3)],[(4,1)],[]⟩,⟨⟨⟨[115,99,114,97,112]⟩⟩,false,0,1,1,1,[(4,1)],[(3,3)],[]⟩,⟨⟨⟨[115,101,108,108]⟩⟩,false,0,1,1,1,[(3,1)],[(0,7)],[]⟩]
abbrev iG:List DV:=[.sl 7 (CX (I 2) (I 20)),.sl 9 (dA.map ij),We,PO]
def rlC(R:RL):List AV:=.dv (I R.sh)::eP iG++[.own 1 0 0 [],.own 2 0 0 [],.own 3 0 0 []]
def dq(R:RL):ad:=[(0,.cells (rlC R)),(1,.tree 0 0 (.aD 3 (R.st.map iK))),(2,.tree 0 0 (.aD 11 (R.fl.map ar))),(3,.tree 0 0 (.aD 7 (R.sp.map aP)))]
def ri:SM->Ky->Nat
 |[],_=>0
 |p::r,k=>if p.1=k then 0 else ri r k+1
theorem PW:∀(m:SM) (k:Ky),ri m k<=m.length
 |[],_=>aei _
 |p::r,k=>by unfold ri;split;exact ad3 _;have:=PW r k;simp only[List.length_cons];omega
theorem IV:∀{m:SM} {k:Ky} {j:Nat} {p:Ky×List Lt},m[j]?=some p->j<=ri m k->(p.1=k->ri m k=j)/\(p.1≠k->j+1<=ri m k)
 |q::r,k,0,p,h,hj=>by
  simp at h;subst h
  unfold ri
  exact⟨fun e=>if_pos e,fun e=>by rw[if_neg e];omega⟩
 |q::r,k,j+1,p,h,hj=>by
  unfold ri at hj⊢
  split at hj
  ·omega
  ·rename_i hq
   rw[if_neg hq]
   have:=IV (m:=r) (k:=k) (j:=j) (p:=p) (by simpa using h) (by omega)
   exact⟨fun e=>by rw[this.1 e],fun e=>by have:=this.2 e;omega⟩
theorem C3:∀(m:SM) (k:Ky),aU m k=(m[ri m k]?).map (·.2)
 |[],k=>rfl
 |p::r,k=>by
  obtain⟨q,l⟩:=p
  unfold ri aU
  split
  ·simp
  ·rw[C3 r k];simp
theorem C4:∀(m:SM) (k:Ky) (l:List Lt),aH m k l=if ri m k<m.length then m.set (ri m k) (k,l)else m++[(k,l)]
 |[],k,l=>by simp[aH,ri]
 |p::r,k,l=>by
  obtain⟨q,v⟩:=p
  unfold ri aH
  split
  ·simp
  ·rw[C4 r k l]
   simp only[List.length_cons]
   by_cases h:ri r k<r.length
   ·rw[if_pos h,if_pos (by omega)];rfl
   ·rw[if_neg h,if_neg (by omega)];rfl
theorem Uk{m:SM}{k:Ky}(h:ri m k<m.length):∃l,m[ri m k]?=some (k,l):=by
 have hx:=ace h
 have:=(IV hx (aei _))
 by_cases e:m[ri m k].1=k
 ·exact⟨m[ri m k].2,by rw[hx];exact congrArg some (Prod.ext e rfl)⟩
 ·have:=this.2 e;omega
def bC(m:SM)(k:Ky):List Lt:=(aU m k).getD []
variable [bj]
theorem find_spec(R:RL)(a i:Int)(hn:R.st.length<=100000):aj Tryz.prog 196 [.ptr 0 0,.dv (I a),.dv (I i)] 4 (dq R) 0 [.dv (I (if ri R.st (a,i)<R.st.length then(ri R.st (a,i):Int)else -1))] (dq R):=by
 refine cO Tryz.func196 rfl (by kernel_rfl) ?_
 refine⟨Nat,fun j=>⟨4,[(0,.ptr 0 0),(1,.dv (I a)),(2,.dv (I i)),(7,.dv (I j))],dq R⟩,fun j=>j<=ri R.st (a,i),fun j=>R.st.length-j,0,fun _=>rfl,jn rfl rfl rfl rfl,ad3 _,?_⟩
 rintro j hj
 have km:=PW R.st (a,i)
 refine adN ?_ ?_
 ·intro h
  have ay:j<R.st.length:=by have:=ad5 h;rw[adO]at this;omega
  obtain⟨p,hp⟩:∃p,R.st[j]?=some p:=⟨_,ace ay⟩
  have hf:=IV (k:=(a,i)) hp hj
  obtain⟨⟨pa,pi⟩,pl⟩:=p
  have ip:(R.st.map iK)[(j:Int).toNat]?=some (iK ((pa,pi),pl)):=by rw[adQ];simp[hp]
  repeat first|refine g1 ?_|refine g3 ?_|refine⟨fun _=>⟨by omega,by rw[adO];omega⟩,?_⟩|refine⟨iK ((pa,pi),pl),fun _=>ip,?_⟩
  refine adN ?_ ?_
  ·intro h
   have e:(pa,pi)=(a,i):=by
    have h:=dc h
    exact Prod.ext (beq_iff_eq.1 h.1) (beq_iff_eq.1 h.2)
   rw[hf.1 e,if_pos ay]
   exact ext (by kernel_rfl) rfl rfl
  ·intro h
   have e:(pa,pi)≠(a,i):=fun e=>by
    injection e with e1 e2
    have h:(bif pa==a then pi==i else false)=false:=h
    subst e1;subst e2;simp at h
   exact⟨fun _=>by omega,j+1,jn rfl rfl rfl rfl,hf.2 e,mlt ay⟩
 ·intro h
  have Cg:R.st.length<=j:=by have:=ad6 h;rw[adO]at this;omega
  rw[if_neg (by omega)]
  exact ext (by kernel_rfl) rfl rfl
theorem PX{m:SM}{k:Ky}(h:ri m k<m.length):m[ri m k]?=some (k,bC m k):=by
 obtain⟨l,hl⟩:=Uk h
 unfold bC
 rw[C3,hl];rfl
theorem XP{m:SM}{k:Ky}(h:¬ri m k<m.length):bC m k=[]:=by
 unfold bC
 rw[C3,List.getElem?_eq_none (by omega)];rfl
theorem iH(R:RL)(a i:Int)(hn:R.st.length<=100000):aj Tryz.prog 121 [.ptr 0 0,.dv (I a),.dv (I i)] 4 (dq R) 0 [.dv (aQ (bC R.st (a,i)))] (dq R):=by
 refine cO Tryz.func121 rfl (by kernel_rfl) ?_
 refine .inr (cl [0,1,2,3] (find_spec R a i hn) (by kernel_rfl) rfl rfl ?_)
 refine adN ?_ ?_
 ·intro h
  have h:=ad5 h
  have hc:¬ri R.st (a,i)<R.st.length:=fun hc=>by rw[if_pos hc]at h;omega
  rw[XP hc]
  exact⟨_,_,⟨rfl,rfl⟩,by kernel_rfl,⟨DV.aL 3,tv⟩,aZ (k:=dq R) rfl⟩
 ·intro h
  have h:=ad6 h
  have hc:ri R.st (a,i)<R.st.length:=Decidable.byContradiction fun hc=>by rw[if_neg hc]at h;omega
  have hx:=PX hc
  simp only[if_pos hc]
  refine⟨fun _=>⟨by omega,by rw[adO];omega⟩,iK ((a,i),bC R.st (a,i)),fun _=>by rw[adQ];simp[hx],?_⟩
  exact ext (by kernel_rfl) rfl rfl
theorem ME(R:RL)(a i:Int)(hn:R.st.length<=100000)(hl:(bC R.st (a,i)).length<=1000000):aj Tryz.prog 86 [.ptr 0 0,.dv (I a),.dv (I i)] 4 (dq R) 0 [.dv (I (cu (bC R.st (a,i))))] (dq R):=by
 refine cO Tryz.func86 rfl (by kernel_rfl) ?_
 refine .inr (cl [0,1,2,3] (iH R a i hn) (by kernel_rfl) rfl rfl ?_)
 refine .inl ⟨_,fun _=>(nb _ hl).ok,?_⟩
 exact ext (by kernel_rfl) rfl rfl
end
end Go.Proofs.YtfpebgpgabjieaaGreatDoor
