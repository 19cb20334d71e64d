import Derived.Test.YtmojfblpbcficaaGreatDoorUM15
set_option linter.all false
namespace Go.Proofs.YtmojfblpbcficaaGreatDoor
section
structure Lt where
 f:Int
 a:Int
 n:Int
theorem Lt.ext'{x y:Lt}(h1:x.f=y.f)(h2:x.a=y.a)(h3:x.n=y.n):x=y:=by cases x;cases y;simp_all
def di(x:Lt)(f u:Int):Prop:=x.f=f/\x.a<=u/\u<x.a+x.n
def has(l:List Lt)(f u:Int):Prop:=∃x∈l,di x f u
theorem aZ{f u:Int}:¬has [] f u:=fun⟨_,h,_⟩=>by cases h
theorem bn{x:Lt}{l:List Lt}{f u:Int}:has (x::l) f u↔di x f u\/has l f u:=by
 constructor
 ·rintro⟨y,hy,h⟩
  rcases adp.1 hy with rfl|hy
  ·exact .inl h
  ·exact .inr ⟨y,hy,h⟩
 ·rintro(h|⟨y,hy,h⟩)
  ·exact⟨x,adu,h⟩
  ·exact⟨y,adq _ hy,h⟩
theorem dp{l r:List Lt}{f u:Int}:has (l++r) f u↔has l f u\/has r f u:=by
 induction l with
 |nil=>simp[aZ]
 |cons x l ih=>rw[List.cons_append,bn,bn,ih,or_assoc]
def Ap(x y:Lt):Prop:=x.f<y.f\/x.f=y.f/\x.a+x.n<y.a
structure NS(l:List Lt):Prop where
 p7:l.Pairwise Ap
 pos:∀x∈l,1<=x.n
theorem NS.nil:NS []:=⟨.nil,fun _ h=>by cases h⟩
theorem NS.tail{x:Lt}{l:List Lt}(h:NS (x::l)):NS l:=⟨(List.pairwise_cons.1 h.p7).2,fun y hy=>h.pos y (adq _ hy)⟩
theorem NS.head{x:Lt}{l:List Lt}(h:NS (x::l)):1<=x.n/\∀y∈l,Ap x y:=⟨h.pos x adu,(List.pairwise_cons.1 h.p7).1⟩
theorem NS.first{x:Lt}{l:List Lt}(h:NS (x::l)){f u:Int}(hu:has (x::l) f u):x.f<f\/x.f=f/\x.a<=u:=by
 rcases bn.1 hu with h1|⟨y,hy,h1⟩
 ·exact .inr ⟨h1.1,h1.2.1⟩
 ·have:=h.head.2 y hy
  have:=h.head.1
  obtain⟨h2,h3,h4⟩:=h1
  unfold Ap at*
  omega
theorem NS.uniq:∀{l r:List Lt},NS l->NS r->(∀f u,has l f u↔has r f u)->l=r
 |[],[],_,_,_=>rfl
 |[],y::r,_,hr,h=>absurd ((h y.f y.a).2 (bn.2 (.inl ⟨rfl,Int.le_refl _,by have:=hr.head.1;omega⟩))) aZ
 |x::l,[],hl,_,h=>absurd ((h x.f x.a).1 (bn.2 (.inl ⟨rfl,Int.le_refl _,by have:=hl.head.1;omega⟩))) aZ
 |x::l,y::r,hl,hr,h=>by
  have px:=hl.head.1
  have py:=hr.head.1
  have h1:=hr.first ((h x.f x.a).1 (bn.2 (.inl ⟨rfl,Int.le_refl _,by omega⟩)))
  have h2:=hl.first ((h y.f y.a).2 (bn.2 (.inl ⟨rfl,Int.le_refl _,by omega⟩)))
  have ef:x.f=y.f:=by omega
  have ea:x.a=y.a:=by omega
  have key:∀{p q:Lt} {l r:List Lt},NS (p::l)->NS (q::r)->(∀f u,has (p::l) f u->has (q::r) f u)->p.f=q.f->p.a=q.a->p.n<=q.n:=by
   intro p q l r hp hq hh e1 e2
   rcases Int.lt_or_le q.n p.n with au|hle
   ·exfalso
    have p1:=hp.head.1
    have q1:=hq.head.1
    rcases bn.1 (hh p.f (q.a+q.n) (bn.2 (.inl ⟨rfl,by omega,by omega⟩)))with h3|⟨z,hz,h3⟩
    ·have:=h3.2.2;omega
    ·have:=hq.head.2 z hz
     obtain⟨h4,h5,h6⟩:=h3
     unfold Ap at this
     omega
   ·exact hle
  have en:x.n=y.n:=Int.le_antisymm (key hl hr (fun f u=>(h f u).1) ef ea) (key hr hl (fun f u=>(h f u).2) ef.symm ea.symm)
  have exy:=Lt.ext' ef ea en
  subst exy
  congr 1
  refine NS.uniq hl.tail hr.tail fun f u=>?_
  have dis:∀{s:List Lt},NS (x::s)->has s f u->¬di x f u:=by
   rintro s hs ⟨z,hz,h4⟩ h5
   have:=hs.head.2 z hz
   obtain⟨a1,a2,a3⟩:=h4
   obtain⟨b1,b2,b3⟩:=h5
   unfold Ap at this
   omega
  constructor
  ·intro h3
   rcases bn.1 ((h f u).1 (bn.2 (.inr h3)))with h4|h4
   ·exact absurd h4 (dis hl h3)
   ·exact h4
  ·intro h3
   rcases bn.1 ((h f u).2 (bn.2 (.inr h3)))with h4|h4
   ·exact absurd h4 (dis hr h3)
   ·exact h4
def b8(l:List Lt):Int:=(l.map (·.n)).sum
def aR(l:List Lt)(x:Lt):List Lt:=
 if x.n=0 then l else match l.getLast? with
  |some y=>if y.f=x.f/\y.a+y.n=x.a then l.dropLast++[⟨y.f,y.a,y.n+x.n⟩]else l++[x]
  |none=>[x]
theorem gf{l:List Lt}{y:Lt}(h:l.getLast?=some y):l=l.dropLast++[y]:=by
 rcases List.eq_nil_or_concat l with rfl|⟨r,z,rfl⟩
 ·cases h
 ·rw[List.concat_eq_append]at h⊢
  simp at h
  subst h
  simp
theorem nu{l:List Lt}{x:Lt}(hl:∀y∈l,0<=y.n)(hx:0<=x.n){f u:Int}:has (aR l x) f u↔has l f u\/di x f u:=by
 unfold aR
 split
 ·rename_i h0
  constructor
  ·exact .inl
  ·rintro(h|h)
   ·exact h
   ·have:=h.2;omega
 split
 ·rename_i y hy
  have e:=gf hy
  have hyn:=hl y (List.mem_of_getLast? hy)
  split
  ·rename_i hc
   rw[dp]
   conv=>rhs;rw[e,dp]
   rw[or_assoc]
   refine or_congr Iff.rfl ?_
   constructor
   ·rintro⟨z,hz,h⟩
    rw[ado]at hz;subst hz
    obtain⟨h1,h2,h3⟩:=h
    simp only at h1 h2 h3
    by_cases hu:u<y.a+y.n
    ·exact .inl ⟨y,ado.2 rfl,h1,h2,hu⟩
    ·exact .inr ⟨by omega,by omega,by omega⟩
   ·rintro(⟨z,hz,h⟩|h)
    ·rw[ado]at hz;subst hz
     exact⟨_,ado.2 rfl,h.1,h.2.1,by have:=h.2.2;simp only;omega⟩
    ·exact⟨_,ado.2 rfl,by rw[hc.1];exact h.1,by have:=h.2.1;simp only;omega,by have:=h.2.2;simp only;omega⟩
  ·rw[dp]
   refine or_congr Iff.rfl ?_
   rw[bn]
   exact⟨fun h=>h.resolve_right aZ,.inl⟩
 ·rename_i hn
  have:l=[]:=List.getLast?_eq_none_iff.1 hn
  subst this
  rw[bn]
  exact⟨fun h=>.inr (h.resolve_right aZ),fun h=>.inl (h.resolve_left aZ)⟩
theorem FZ{l:List Lt}{x:Lt}(hl:∀y∈l,1<=y.n)(hx:0<=x.n):∀y∈aR l x,1<=y.n:=by
 unfold aR
 split
 ·exact hl
 rename_i h0
 split
 ·rename_i y hy
  have hyn:=hl y (List.mem_of_getLast? hy)
  intro z hz
  split at hz
  ·rcases adr.1 hz with h|h
   ·exact hl z (List.dropLast_subset _ h)
   ·rw[ado]at h;subst h;simp only;omega
  ·rcases adr.1 hz with h|h
   ·exact hl z h
   ·rw[ado]at h;subst h;omega
 ·intro z hz
  rw[ado]at hz;subst hz;omega
theorem gS(l r:List Lt):b8 (l++r)=b8 l+b8 r:=by simp[b8]
theorem yT(l:List Lt)(x:Lt):b8 (aR l x)=b8 l+x.n:=by
 unfold aR
 split
 ·rename_i h;omega
 split
 ·rename_i y hy
  have e:=gf hy
  split
  ·rw[gS]
   conv=>rhs;rw[e,gS]
   simp[b8];omega
  ·rw[gS];simp[b8]
 ·rename_i hn
  have:l=[]:=List.getLast?_eq_none_iff.1 hn
  subst this;simp[b8]
theorem fh(l:List Lt)(x:Lt):(aR l x).length<=l.length+1:=by
 unfold aR
 split
 ·omega
 split
 ·rename_i y hy
  have e:=congrArg List.length (gf hy)
  split<;>simp at e⊢<;>omega
 ·simp
end
section
structure VN where
 P3:List Lt
 SK:List Lt
 fr:Int
 to:Int
def wY(l:Lt)(s:VN)(x:Lt):VN:=
 if x.f<l.f\/x.f=l.f/\x.a+x.n<s.fr then { s with P3:=s.P3++[x] }
 else if l.f<x.f\/s.to<x.a then { s with SK:=s.SK++[x] }
 else { s with fr:=min s.fr x.a,to:=max s.to (x.a+x.n) }
def P4(l:Lt)(s:VN):List Lt:=s.P3++[⟨l.f,s.fr,s.to-s.fr⟩]++s.SK
def ko(s:List Lt)(l:Lt):List Lt:=P4 l (s.foldl (wY l) ⟨[],[],l.a,l.a+l.n⟩)
def ct(l:List Lt):List Lt:=l.foldl ko []
structure yU(l:Lt)(p:List Lt)(s:VN):Prop where
 bs:s.P3.Sublist p
 as:s.SK.Sublist p
 bg:∀x∈s.P3,x.f<l.f\/x.f=l.f/\x.a+x.n<s.fr
 ag:∀x∈s.SK,l.f<x.f\/x.f=l.f/\s.to<x.a
 fr:s.fr<=l.a
 to:l.a+l.n<=s.to
 un:∀f u,has s.P3 f u\/has s.SK f u\/(l.f=f/\s.fr<=u/\u<s.to)↔has p f u\/di l f u
theorem NS.sub{l r:List Lt}(h:NS r)(hs:l.Sublist r):NS l:=⟨h.p7.sublist hs,fun x hx=>h.pos x (hs.subset hx)⟩
theorem yU.step{l:Lt}{p:List Lt}{s:VN}{x:Lt}(h:yU l p s)(hl:1<=l.n)(hp:NS (p++[x])):yU l (p++[x]) (wY l s x):=by
 have hx:=hp.pos x (by simp)
 have hg:∀y∈p,Ap y x:=fun y hy=>(List.pairwise_append.1 hp.p7).2.2 y hy x (ado.2 rfl)
 obtain⟨h1,h2,h3,h4,h5,h6,h7⟩:=h
 have wX:∀f u,has [x] f u↔di x f u:=fun f u=>by rw[bn];exact⟨fun h=>h.resolve_right aZ,.inl⟩
 unfold wY
 split
 ·rename_i hc
  refine⟨h1.append_right [x],h2.trans (List.sublist_append_left _ _),fun y hy=>?_,h4,h5,h6,fun f u=>?_⟩
  ·rcases adr.1 hy with hy|hy
   ·exact h3 y hy
   ·rw[ado]at hy;subst hy;exact hc
  ·show has (s.P3++[x]) f u\/_↔_
   rw[dp,dp,wX]
   have:=h7 f u
   constructor
   ·rintro((h|h)|h|h)
    ·exact(this.1 (.inl h)).imp .inl id
    ·exact .inl (.inr h)
    ·exact(this.1 (.inr (.inl h))).imp .inl id
    ·exact(this.1 (.inr (.inr h))).imp .inl id
   ·rintro((h|h)|h)
    ·rcases this.2 (.inl h)with h|h|h
     ·exact .inl (.inl h)
     ·exact .inr (.inl h)
     ·exact .inr (.inr h)
    ·exact .inl (.inr h)
    ·rcases this.2 (.inr h)with h|h|h
     ·exact .inl (.inl h)
     ·exact .inr (.inl h)
     ·exact .inr (.inr h)
 rename_i Ao
 split
 ·rename_i hc
  refine⟨h1.trans (List.sublist_append_left _ _),h2.append_right [x],h3,fun y hy=>?_,h5,h6,fun f u=>?_⟩
  ·rcases adr.1 hy with hy|hy
   ·exact h4 y hy
   ·rw[ado]at hy;subst hy
    show l.f<y.f\/y.f=l.f/\s.to<y.a
    omega
  ·show has s.P3 f u\/has (s.SK++[x]) f u\/_↔_
   rw[dp,dp,wX]
   have:=h7 f u
   constructor
   ·rintro(h|(h|h)|h)
    ·exact(this.1 (.inl h)).imp .inl id
    ·exact(this.1 (.inr (.inl h))).imp .inl id
    ·exact .inl (.inr h)
    ·exact(this.1 (.inr (.inr h))).imp .inl id
   ·rintro((h|h)|h)
    ·rcases this.2 (.inl h)with h|h|h
     ·exact .inl h
     ·exact .inr (.inl (.inl h))
     ·exact .inr (.inr h)
    ·exact .inr (.inl (.inr h))
    ·rcases this.2 (.inr h)with h|h|h
     ·exact .inl h
     ·exact .inr (.inl (.inl h))
     ·exact .inr (.inr h)
 ·rename_i yE
  have ef:x.f=l.f:=by omega
  refine⟨h1.trans (List.sublist_append_left _ _),h2.trans (List.sublist_append_left _ _),fun y hy=>?_,fun y hy=>?_,?_,?_,fun f u=>?_⟩
  ·have a1:=h3 y hy
   have a2:=hg y (h1.subset hy)
   show y.f<l.f\/y.f=l.f/\y.a+y.n<min s.fr x.a
   unfold Ap at a2
   omega
  ·have a1:=h4 y hy
   have a2:=hg y (h2.subset hy)
   have a3:=hp.pos y (List.mem_append_left _ (h2.subset hy))
   unfold Ap at a2
   omega
  ·show min s.fr x.a<=l.a;omega
  ·show l.a+l.n<=max s.to (x.a+x.n);omega
  ·show has s.P3 f u\/has s.SK f u\/(l.f=f/\min s.fr x.a<=u/\u<max s.to (x.a+x.n))↔_
   rw[dp,wX]
   have:=h7 f u
   constructor
   ·rintro(h|h|h)
    ·exact(this.1 (.inl h)).imp .inl id
    ·exact(this.1 (.inr (.inl h))).imp .inl id
    ·by_cases hu:s.fr<=u/\u<s.to
     ·exact(this.1 (.inr (.inr ⟨h.1,hu⟩))).imp .inl id
     ·exact .inl (.inr ⟨by omega,by omega,by omega⟩)
   ·rintro((h|h)|h)
    ·rcases this.2 (.inl h)with h|h|h
     ·exact .inl h
     ·exact .inr (.inl h)
     ·exact .inr (.inr ⟨h.1,by omega,by omega⟩)
    ·exact .inr (.inr ⟨by rw[<-ef];exact h.1,by have:=h.2.1;omega,by have:=h.2.2;omega⟩)
    ·rcases this.2 (.inr h)with h|h|h
     ·exact .inl h
     ·exact .inr (.inl h)
     ·exact .inr (.inr ⟨h.1,by omega,by omega⟩)
theorem yU.fold{l:Lt}(hl:1<=l.n):∀(r p:List Lt) (s:VN),NS (p++r)->yU l p s->yU l (p++r) (r.foldl (wY l) s)
 |[],p,s,_,h=>by simpa using h
 |x::r,p,s,hn,h=>by
  rw[List.foldl_cons]
  have e:p++x::r=(p++[x])++r:=by simp
  rw[e]at hn⊢
  exact yU.fold hl r (p++[x]) _ hn (h.step hl (hn.sub (List.sublist_append_left _ _)))
theorem Li{s:List Lt}{l:Lt}(hs:NS s)(hl:1<=l.n):NS (ko s l)/\∀f u,has (ko s l) f u↔has s f u\/di l f u:=by
 have h0:yU l [] ⟨[],[],l.a,l.a+l.n⟩:=⟨.slnil,.slnil,fun _ h=>(by cases h),fun _ h=>(by cases h),Int.le_refl _,Int.le_refl _,fun f u=>by
  have a:¬has [] f u:=aZ
  exact⟨fun h=>.inr ((h.resolve_left a).resolve_left a),fun h=>.inr (.inr (h.resolve_left a))⟩⟩
 have h:=yU.fold hl s [] _ (by simpa using hs) h0
 simp only[List.nil_append]at h
 unfold ko P4
 generalize s.foldl (wY l) ⟨[],[],l.a,l.a+l.n⟩=z at h
 obtain⟨h1,h2,h3,h4,h5,h6,h7⟩:=h
 refine⟨⟨?_,fun x hx=>?_⟩,fun f u=>?_⟩
 ·rw[List.pairwise_append,List.pairwise_append]
  refine⟨⟨(hs.sub h1).p7,adQ _ _,fun x hx y hy=>?_⟩,(hs.sub h2).p7,fun x hx y hy=>?_⟩
  ·rw[ado]at hy;subst hy;exact h3 x hx
  ·rcases adr.1 hx with hx|hx
   ·have a1:=h3 x hx
    have a2:=h4 y hy
    unfold Ap
    omega
   ·rw[ado]at hx;subst hx
    have a2:=h4 y hy
    unfold Ap
    simp only
    omega
 ·rcases adr.1 hx with hx|hx
  ·rcases adr.1 hx with hx|hx
   ·exact hs.pos x (h1.subset hx)
   ·rw[ado]at hx;subst hx;simp only;omega
  ·exact hs.pos x (h2.subset hx)
 ·rw[dp,dp,or_assoc,<-h7]
  refine or_congr Iff.rfl ?_
  rw[or_comm]
  refine or_congr Iff.rfl ?_
  rw[bn]
  constructor
  ·rintro(h|h)
   ·exact⟨h.1,h.2.1,by have:=h.2.2;simp only at this;omega⟩
   ·exact absurd h aZ
  ·rintro h
   exact .inl ⟨h.1,h.2.1,by simp only;omega⟩
theorem BE:∀(l s:List Lt),NS s->(∀x∈l,1<=x.n)->NS (l.foldl ko s)/\∀f u,has (l.foldl ko s) f u↔has s f u\/has l f u
 |[],s,hs,_=>⟨hs,fun f u=>⟨.inl,fun h=>h.resolve_right aZ⟩⟩
 |x::l,s,hs,hl=>by
  have h1:=Li hs (hl x adu)
  have h2:=BE l (ko s x) h1.1 fun y hy=>hl y (adq _ hy)
  refine⟨h2.1,fun f u=>?_⟩
  rw[List.foldl_cons,h2.2,h1.2,bn,or_assoc]
theorem fS{l:List Lt}(hl:∀x∈l,1<=x.n):NS (ct l)/\∀f u,has (ct l) f u↔has l f u:=by
 have h:=BE l [] NS.nil hl
 exact⟨h.1,fun f u=>(h.2 f u).trans ⟨fun h=>h.resolve_left aZ,.inr⟩⟩
def p8(s:List Lt)(x:Lt):List Lt:=match s.getLast? with
 |some y=>if y.f=x.f/\x.a<=y.a+y.n then s.dropLast++[⟨y.f,y.a,max y.n (x.a+x.n-y.a)⟩]else s++[x]
 |none=>[x]
def leq(x y:Lt):Prop:=x.f<y.f\/x.f=y.f/\x.a<=y.a
theorem P5{s:List Lt}{x:Lt}(hs:NS s)(hx:1<=x.n)(hl:∀y∈s,leq y x):NS (p8 s x)/\(∀f u,has (p8 s x) f u↔has s f u\/di x f u)/\∀z,leq x z->(∀y∈s,leq y z)->∀y∈p8 s x,leq y z:=by
 unfold p8
 split
 ·rename_i y hy
  have e:=gf hy
  have hyn:=hs.pos y (List.mem_of_getLast? hy)
  have SN:=hl y (List.mem_of_getLast? hy)
  split
  ·rename_i hc
   have hg:=hs.p7
   rw[e]at hg
   have EF:=List.pairwise_append.1 hg
   refine⟨⟨?_,fun z hz=>?_⟩,fun f u=>?_,fun z h1 h2 w hw=>?_⟩
   ·rw[List.pairwise_append]
    refine⟨EF.1,adQ _ _,fun p hp q hq=>?_⟩
    rw[ado]at hq;subst hq
    exact EF.2.2 p hp y (ado.2 rfl)
   ·rcases adr.1 hz with hz|hz
    ·exact hs.pos z (List.dropLast_subset _ hz)
    ·rw[ado]at hz;subst hz;simp only;omega
   ·rw[dp]
    conv=>rhs;rw[e,dp]
    rw[or_assoc]
    refine or_congr Iff.rfl ?_
    unfold leq at SN
    constructor
    ·rintro⟨z,hz,h⟩
     rw[ado]at hz;subst hz
     obtain⟨h1,h2,h3⟩:=h
     simp only at h1 h2 h3
     by_cases hu:u<y.a+y.n
     ·exact .inl ⟨y,ado.2 rfl,h1,h2,hu⟩
     ·exact .inr ⟨by omega,by omega,by omega⟩
    ·rintro(⟨z,hz,h⟩|h)
     ·rw[ado]at hz;subst hz
      exact⟨_,ado.2 rfl,h.1,h.2.1,by have:=h.2.2;simp only;omega⟩
     ·exact⟨_,ado.2 rfl,by rw[hc.1];exact h.1,by have:=h.2.1;simp only;omega,by have:=h.2.2;simp only;omega⟩
   ·rcases adr.1 hw with hw|hw
    ·exact h2 w (List.dropLast_subset _ hw)
    ·rw[ado]at hw;subst hw
     exact h2 y (List.mem_of_getLast? hy)
  ·rename_i hc
   refine⟨⟨?_,fun z hz=>?_⟩,fun f u=>?_,fun z h1 h2 w hw=>?_⟩
   ·rw[List.pairwise_append]
    refine⟨hs.p7,adQ _ _,fun p hp q hq=>?_⟩
    rw[ado]at hq;subst hq
    have hyq:Ap y q:=by unfold Ap;unfold leq at SN;omega
    rw[e]at hp
    rcases adr.1 hp with hp|hp
    ·have hg:=hs.p7
     rw[e]at hg
     have:=(List.pairwise_append.1 hg).2.2 p hp y (ado.2 rfl)
     unfold Ap at*
     omega
    ·rw[ado]at hp;subst hp;exact hyq
   ·rcases adr.1 hz with hz|hz
    ·exact hs.pos z hz
    ·rw[ado]at hz;subst hz;exact hx
   ·rw[dp]
    refine or_congr Iff.rfl ?_
    rw[bn]
    exact⟨fun h=>h.resolve_right aZ,.inl⟩
   ·rcases adr.1 hw with hw|hw
    ·exact h2 w hw
    ·rw[ado]at hw;subst hw;exact h1
 ·rename_i hn
  have:s=[]:=List.getLast?_eq_none_iff.1 hn
  subst this
  refine⟨⟨adQ _ _,fun z hz=>?_⟩,fun f u=>?_,fun z h1 _ w hw=>?_⟩
  ·rw[ado]at hz;subst hz;exact hx
  ·rw[bn]
   exact⟨fun h=>.inr (h.resolve_right aZ),fun h=>.inl (h.resolve_left aZ)⟩
  ·rw[ado]at hw;subst hw;exact h1
theorem F0:∀(l s:List Lt),NS s->(∀x∈l,1<=x.n)->l.Pairwise leq->(∀x∈l,∀y∈s,leq y x)->NS (l.foldl p8 s)/\∀f u,has (l.foldl p8 s) f u↔has s f u\/has l f u
 |[],s,hs,_,_,_=>⟨hs,fun f u=>⟨.inl,fun h=>h.resolve_right aZ⟩⟩
 |x::l,s,hs,hl,hp,hb=>by
  obtain⟨h1,h2,h3⟩:=P5 hs (hl x adu) (hb x adu)
  have Z1:=List.pairwise_cons.1 hp
  have h4:=F0 l (p8 s x) h1 (fun y hy=>hl y (adq _ hy)) Z1.2 fun z hz=>h3 z (Z1.1 z hz) (hb z (adq _ hz))
  refine⟨h4.1,fun f u=>?_⟩
  rw[List.foldl_cons,h4.2,h2,bn,or_assoc]
theorem TH{l d:List Lt}(hl:∀x∈l,1<=x.n)(hp:d.Perm l)(hd:d.Pairwise leq):d.foldl p8 []=ct l:=by
 have h1:=F0 d [] NS.nil (fun x hx=>hl x (hp.mem_iff.1 hx)) hd fun _ _ _ h=>by cases h
 have h2:=fS hl
 refine h1.1.uniq h2.1 fun f u=>?_
 rw[h1.2,h2.2]
 constructor
 ·rintro(h|⟨x,hx,h⟩)
  ·exact absurd h aZ
  ·exact⟨x,hp.mem_iff.1 hx,h⟩
 ·rintro⟨x,hx,h⟩
  exact .inr ⟨x,hp.mem_iff.2 hx,h⟩
theorem Lj{l:List Lt}(h:NS l):ct l=l:=(fS h.pos).1.uniq h (fS h.pos).2
end
section
def j3(x s:Lt):Bool:=decide (x.f<s.f\/s.f=x.f/\x.a<s.a+s.n)
def Aq:Lt->List Lt->List (Lt×Bool)
 |x,[]=>if 0<x.n then[(x,false)]else[]
 |x,s::r=>if 0<x.n/\s.f=x.f/\s.a<x.a+x.n then
  (if 0<max 0 (s.a-x.a)then[(⟨x.f,x.a,max 0 (s.a-x.a)⟩,false)]else[])++
   (⟨x.f,x.a+max 0 (s.a-x.a),min (x.n-max 0 (s.a-x.a)) (s.a+s.n-(x.a+max 0 (s.a-x.a)))⟩,true)::
    Aq ⟨x.f,x.a+max 0 (s.a-x.a)+min (x.n-max 0 (s.a-x.a)) (s.a+s.n-(x.a+max 0 (s.a-x.a))),x.n-max 0 (s.a-x.a)-min (x.n-max 0 (s.a-x.a)) (s.a+s.n-(x.a+max 0 (s.a-x.a)))⟩ r
  else if 0<x.n then[(x,false)]else[]
def jm(set:List Lt)(x:Lt):List (Lt×Bool):=Aq x (set.dropWhile fun s=>!j3 x s)
def wZ(b:Bool)(l:List (Lt×Bool)):List Lt:=(l.filter fun p=>p.2==b).map (·.1)
theorem xp(b:Bool)(l r:List (Lt×Bool)):wZ b (l++r)=wZ b l++wZ b r:=by simp[wZ]
structure VO(x:Lt)(set:List Lt)(l:List (Lt×Bool)):Prop where
 ins:∀f u,has (wZ true l) f u↔di x f u/\has set f u
 out:∀f u,has (wZ false l) f u↔di x f u/\¬has set f u
 pos:∀p∈l,1<=p.1.n/\p.1.f=x.f/\x.a<=p.1.a/\p.1.a+p.1.n<=x.a+x.n
 p7:(wZ false l).Pairwise Ap
theorem cR{x:Lt}{f u:Int}:has [x] f u↔di x f u:=by rw[bn];exact⟨fun h=>h.resolve_right aZ,.inl⟩
theorem P6:∀(set:List Lt) (x:Lt),NS set->0<=x.n->(∀s∈set,j3 x s=true)->VO x set (Aq x set)
 |[],x,_,hx,_=>by
  unfold Aq
  split
  ·rename_i h0
   refine⟨fun f u=>?_,fun f u=>?_,fun p hp=>?_,adQ _ _⟩
   ·exact⟨fun h=>absurd h aZ,fun h=>absurd h.2 aZ⟩
   ·show has [x] f u↔_
    rw[cR]
    exact⟨fun h=>⟨h,aZ⟩,fun h=>h.1⟩
   ·rw[ado]at hp;subst hp;exact⟨h0,rfl,Int.le_refl _,Int.le_refl _⟩
  ·rename_i h0
   have dI:∀f u,¬di x f u:=fun f u h=>by have:=h.2;omega
   exact⟨fun f u=>⟨fun h=>absurd h aZ,fun h=>absurd h.1 (dI f u)⟩,fun f u=>⟨fun h=>absurd h aZ,fun h=>absurd h.1 (dI f u)⟩,fun p hp=>(by cases hp),.nil⟩
 |s::r,x,hs,hx,hk=>by
  have h1:=hs.head.1
  have h2:=hs.head.2
  have qM:x.f<s.f\/s.f=x.f/\x.a<s.a+s.n:=by simpa[j3]using hk s adu
  unfold Aq
  split
  ·rename_i hc
   obtain⟨c1,c2,c3⟩:=hc
   generalize ho:max 0 (s.a-x.a)=o
   generalize hi:min (x.n-o) (s.a+s.n-(x.a+o))=i
   have o0:0<=o:=by omega
   have i1:1<=i:=by omega
   have ih:=P6 r ⟨x.f,x.a+o+i,x.n-o-i⟩ hs.tail (by simp only;omega) fun t ht=>by
    have a1:=hk t (adq _ ht)
    have a2:=h2 t ht
    have a3:=hs.tail.pos t ht
    simp only[j3,decide_eq_true_eq]at a1⊢
    unfold Ap at a2
    omega
   generalize Aq ⟨x.f,x.a+o+i,x.n-o-i⟩ r=L at ih
   have yM:∀f u,f=x.f->u<x.a+o+i->¬has r f u:=by
    rintro f u rfl hu ⟨t,ht,q⟩
    have a2:=h2 t ht
    obtain⟨q1,q2,q3⟩:=q
    unfold Ap at a2
    omega
   have SF:∀f u,di ⟨x.f,x.a+o+i,x.n-o-i⟩ f u↔di x f u/\x.a+o+i<=u:=fun f u=>by
    constructor
    ·rintro⟨q1,q2,q3⟩
     exact⟨⟨q1,by simp only at q2;omega,by simp only at q3;omega⟩,q2⟩
    ·rintro⟨⟨q1,q2,q3⟩,q4⟩
     exact⟨q1,q4,by simp only;omega⟩
   refine⟨fun f u=>?_,fun f u=>?_,fun p hp=>?_,?_⟩
   ·rw[xp]
    have e0:wZ true (if 0<o then[((⟨x.f,x.a,o⟩:Lt),false)]else[])=[]:=by split<;>rfl
    rw[e0,List.nil_append]
    show has (⟨x.f,x.a+o,i⟩::wZ true L) f u↔_
    rw[bn,ih.ins,SF,bn]
    constructor
    ·rintro(h|h)
     ·obtain⟨q1,q2,q3⟩:=h
      simp only at q1 q2 q3
      exact⟨⟨q1,by omega,by omega⟩,.inl ⟨by omega,by omega,by omega⟩⟩
     ·exact⟨h.1.1,.inr h.2⟩
    ·rintro⟨h3,h4|h4⟩
     ·obtain⟨q1,q2,q3⟩:=h3
      obtain⟨q4,q5,q6⟩:=h4
      exact .inl ⟨q1,by simp only;omega,by simp only;omega⟩
     ·by_cases hu:x.a+o+i<=u
      ·exact .inr ⟨⟨h3,hu⟩,h4⟩
      ·exact absurd h4 (yM f u h3.1.symm (by omega))
   ·rw[xp]
    show has (_++wZ false L) f u↔_
    rw[dp,ih.out,SF,bn]
    have e0:has (wZ false (if 0<o then[((⟨x.f,x.a,o⟩:Lt),false)]else[])) f u↔di ⟨x.f,x.a,o⟩ f u:=by
     split
     ·exact cR
     ·exact⟨fun h=>absurd h aZ,fun h=>by have:=h.2;simp only at this;omega⟩
    rw[e0]
    constructor
    ·rintro(h|h)
     ·obtain⟨q1,q2,q3⟩:=h
      simp only at q1 q2 q3
      refine⟨⟨q1,by omega,by omega⟩,?_⟩
      rintro(⟨q4,q5,q6⟩|h)
      ·omega
      ·exact yM f u q1.symm (by omega) h
     ·refine⟨h.1.1,?_⟩
      rintro(⟨q4,q5,q6⟩|h5)
      ·have:=h.1.2;have:=h.1.1.2;omega
      ·exact h.2 h5
    ·rintro⟨h3,h4⟩
     obtain⟨q1,q2,q3⟩:=h3
     by_cases hu:u<x.a+o
     ·exact .inl ⟨q1,q2,hu⟩
     ·refine .inr ⟨⟨⟨q1,q2,q3⟩,?_⟩,fun h=>h4 (.inr h)⟩
      rcases Int.lt_or_le u (x.a+o+i)with au|hle
      ·exact absurd (.inl ⟨by omega,by omega,by omega⟩) h4
      ·exact hle
   ·rcases adr.1 hp with hp|hp
    ·split at hp
     ·rw[ado]at hp;subst hp;exact⟨by simp only;omega,rfl,Int.le_refl _,by simp only;omega⟩
     ·cases hp
    ·rcases adp.1 hp with rfl|hp
     ·exact⟨i1,rfl,by simp only;omega,by simp only;omega⟩
     ·have:=ih.pos p hp
      simp only at this
      exact⟨this.1,this.2.1,by omega,by omega⟩
   ·rw[xp]
    show List.Pairwise Ap (_++wZ false L)
    rw[List.pairwise_append]
    refine⟨by split;exact adQ _ _;exact .nil,ih.p7,fun y hy z hz=>?_⟩
    obtain⟨q,hq,rfl⟩:=adK.1 hz
    have Di:=ih.pos q (List.mem_filter.1 hq).1
    simp only at Di
    split at hy
    ·have:y=⟨x.f,x.a,o⟩:=by simpa[wZ]using hy
     subst this
     right
     simp only
     omega
    ·cases hy
  ·rename_i hc
   have dI:∀f u,di x f u->¬has (s::r) f u:=by
    rintro f u ⟨q1,q2,q3⟩ ⟨t,ht,q4,q5,q6⟩
    have hf:x.f<s.f\/s.f=x.f/\x.a+x.n<=s.a:=by omega
    rcases adp.1 ht with rfl|ht
    ·omega
    ·have a2:=h2 t ht
     unfold Ap at a2
     omega
   split
   ·rename_i h0
    refine⟨fun f u=>⟨fun h=>absurd h aZ,fun h=>absurd h.2 (dI f u h.1)⟩,fun f u=>?_,fun p hp=>?_,adQ _ _⟩
    ·show has [x] f u↔_
     rw[cR]
     exact⟨fun h=>⟨h,dI f u h⟩,fun h=>h.1⟩
    ·rw[ado]at hp;subst hp;exact⟨h0,rfl,Int.le_refl _,Int.le_refl _⟩
   ·have aaA:∀f u,¬di x f u:=fun f u h=>by have:=h.2;omega
    exact⟨fun f u=>⟨fun h=>absurd h aZ,fun h=>absurd h.1 (aaA f u)⟩,fun f u=>⟨fun h=>absurd h aZ,fun h=>absurd h.1 (aaA f u)⟩,fun p hp=>(by cases hp),.nil⟩
theorem Dk(x:Lt):∀(set:List Lt),NS set->NS (set.dropWhile fun s=>!j3 x s)/\(∀s∈set.dropWhile fun s=>!j3 x s,j3 x s=true)/\∀f u,di x f u->(has (set.dropWhile fun s=>!j3 x s) f u↔has set f u)
 |[],_=>⟨NS.nil,fun _ h=>(by cases h),fun _ _ _=>Iff.rfl⟩
 |s::r,h=>by
  cases hk:j3 x s with
  |true=>
   have e:(s::r).dropWhile (fun s=>!j3 x s)=s::r:=by simp[hk]
   rw[e]
   refine⟨h,fun t ht=>?_,fun _ _ _=>Iff.rfl⟩
   rcases adp.1 ht with rfl|ht
   ·exact hk
   ·have a2:=h.head.2 t ht
    have a3:=h.tail.pos t ht
    simp only[j3,decide_eq_true_eq]at hk⊢
    unfold Ap at a2
    omega
  |false=>
   have e:(s::r).dropWhile (fun s=>!j3 x s)=r.dropWhile fun s=>!j3 x s:=by simp[hk]
   rw[e]
   have ih:=Dk x r h.tail
   refine⟨ih.1,ih.2.1,fun f u hu=>?_⟩
   rw[ih.2.2 f u hu,bn]
   refine⟨.inr,fun h2=>h2.resolve_left fun h3=>?_⟩
   simp only[j3,adU]at hk
   obtain⟨q1,q2,q3⟩:=h3
   have:=hu.1
   have:=hu.2.1
   omega
theorem jK{set:List Lt}{x:Lt}(hs:NS set)(hx:0<=x.n):VO x set (jm set x):=by
 obtain⟨h1,h2,h3⟩:=Dk x set hs
 have h:=P6 _ x h1 hx h2
 refine⟨fun f u=>?_,fun f u=>?_,h.pos,h.p7⟩
 ·exact(h.ins f u).trans (and_congr_right fun hu=>h3 f u hu)
 ·exact(h.out f u).trans (and_congr_right fun hu=>not_congr (h3 f u hu))
def gJ(y x:Lt):List Lt:=if x.f≠y.f\/y.a+y.n<=x.a\/x.a+x.n<=y.a then[x]else(if x.a<y.a then[⟨y.f,x.a,y.a-x.a⟩]else[])++(if y.a+y.n<x.a+x.n then[⟨y.f,y.a+y.n,x.a+x.n-y.a-y.n⟩]else[])
def jc(l:List Lt)(y:Lt):List Lt:=l.flatMap (gJ y)
def nv(x:Lt)(set:List Lt):List Lt:=set.foldl jc [x]
theorem Lk{y x:Lt}(hy:1<=y.n)(hx:1<=x.n):NS (gJ y x)/\(∀z∈gJ y x,z.f=x.f/\x.a<=z.a/\z.a+z.n<=x.a+x.n)/\∀f u,has (gJ y x) f u↔di x f u/\¬di y f u:=by
 unfold gJ
 split
 ·rename_i hc
  refine⟨⟨adQ _ _,fun z hz=>?_⟩,fun z hz=>?_,fun f u=>?_⟩
  ·rw[ado]at hz;subst hz;exact hx
  ·rw[ado]at hz;subst hz;exact⟨rfl,Int.le_refl _,Int.le_refl _⟩
  ·rw[cR]
   refine⟨fun h=>⟨h,fun h2=>?_⟩,fun h=>h.1⟩
   obtain⟨q1,q2,q3⟩:=h
   obtain⟨q4,q5,q6⟩:=h2
   omega
 ·rename_i hc
  have ef:x.f=y.f:=by omega
  have mem:∀z,z∈(if x.a<y.a then[(⟨y.f,x.a,y.a-x.a⟩:Lt)]else[])++(if y.a+y.n<x.a+x.n then[(⟨y.f,y.a+y.n,x.a+x.n-y.a-y.n⟩:Lt)]else[])↔(x.a<y.a/\z=⟨y.f,x.a,y.a-x.a⟩)\/(y.a+y.n<x.a+x.n/\z=⟨y.f,y.a+y.n,x.a+x.n-y.a-y.n⟩):=fun z=>by
   rw[adr]
   refine or_congr ?_ ?_<;>split<;>rename_i hh<;>simp[hh]
  refine⟨⟨?_,fun z hz=>?_⟩,fun z hz=>?_,fun f u=>?_⟩
  ·rw[List.pairwise_append]
   refine⟨by split;exact adQ _ _;exact .nil,by split;exact adQ _ _;exact .nil,fun p hp q hq=>?_⟩
   split at hp
   ·split at hq
    ·rw[ado]at hp hq;subst hp;subst hq
     exact .inr ⟨rfl,by show x.a+(y.a-x.a)<y.a+y.n;omega⟩
    ·cases hq
   ·cases hp
  ·rcases(mem z).1 hz with⟨h1,rfl⟩|⟨h1,rfl⟩<;>simp only<;>omega
  ·rcases(mem z).1 hz with⟨h1,rfl⟩|⟨h1,rfl⟩<;>simp only<;>omega
  ·constructor
   ·rintro⟨z,hz,q1,q2,q3⟩
    rcases(mem z).1 hz with⟨h1,rfl⟩|⟨h1,rfl⟩
    ·simp only at q1 q2 q3
     exact⟨⟨by omega,by omega,by omega⟩,fun h=>by have:=h.2;omega⟩
    ·simp only at q1 q2 q3
     exact⟨⟨by omega,by omega,by omega⟩,fun h=>by have:=h.2;omega⟩
   ·rintro⟨⟨q1,q2,q3⟩,h⟩
    by_cases hu:u<y.a
    ·exact⟨_,(mem _).2 (.inl ⟨by omega,rfl⟩),by simp only;omega,q2,by simp only;omega⟩
    ·by_cases hu2:u<y.a+y.n
     ·exact absurd ⟨by omega,by omega,hu2⟩ h
     ·exact⟨_,(mem _).2 (.inr ⟨by omega,rfl⟩),by simp only;omega,by simp only;omega,by simp only;omega⟩
theorem Dl{y:Lt}(hy:1<=y.n):∀{l:List Lt},NS l->NS (jc l y)/\(∀z∈jc l y,∃x∈l,z.f=x.f/\x.a<=z.a/\z.a+z.n<=x.a+x.n)/\∀f u,has (jc l y) f u↔has l f u/\¬di y f u
 |[],_=>⟨NS.nil,fun _ h=>(by cases h),fun f u=>⟨fun h=>absurd h aZ,fun h=>absurd h.1 aZ⟩⟩
 |x::l,h=>by
  obtain⟨a1,a2,a3⟩:=Lk hy h.head.1
  obtain⟨b1,b2,b3⟩:=Dl hy h.tail
  have e:jc (x::l) y=gJ y x++jc l y:=rfl
  rw[e]
  refine⟨⟨?_,fun z hz=>?_⟩,fun z hz=>?_,fun f u=>?_⟩
  ·rw[List.pairwise_append]
   refine⟨a1.p7,b1.p7,fun p hp q hq=>?_⟩
   have c1:=a2 p hp
   obtain⟨t,ht,c2⟩:=b2 q hq
   have c3:=h.head.2 t ht
   unfold Ap at*
   omega
  ·rcases adr.1 hz with hz|hz
   ·exact a1.pos z hz
   ·exact b1.pos z hz
  ·rcases adr.1 hz with hz|hz
   ·exact⟨x,adu,a2 z hz⟩
   ·obtain⟨t,ht,c⟩:=b2 z hz
    exact⟨t,adq _ ht,c⟩
  ·rw[dp,a3,b3,bn,or_and_right]
theorem BF:∀(set l:List Lt),NS l->(∀y∈set,1<=y.n)->NS (set.foldl jc l)/\∀f u,has (set.foldl jc l) f u↔has l f u/\¬has set f u
 |[],l,h,_=>⟨h,fun f u=>⟨fun h=>⟨h,aZ⟩,fun h=>h.1⟩⟩
 |y::set,l,h,hp=>by
  obtain⟨a1,_,a3⟩:=Dl (hp y adu) h
  obtain⟨b1,b2⟩:=BF set (jc l y) a1 fun z hz=>hp z (adq _ hz)
  refine⟨b1,fun f u=>?_⟩
  rw[List.foldl_cons,b2,a3,bn,not_or,and_assoc]
theorem tq{x:Lt}(hx:1<=x.n){set:List Lt}(hs:∀y∈set,1<=y.n):NS (nv x set)/\∀f u,has (nv x set) f u↔di x f u/\¬has set f u:=by
 have h:=BF set [x] ⟨adQ _ _,fun z hz=>by rw[ado]at hz;subst hz;exact hx⟩ hs
 exact⟨h.1,fun f u=>by rw[<-cR];exact h.2 f u⟩
theorem Xu{set:List Lt}{x:Lt}(hs:NS set)(hx:0<=x.n):NS (wZ false (jm set x)):=by
 have h:=jK hs hx
 refine⟨h.p7,fun z hz=>?_⟩
 obtain⟨q,hq,rfl⟩:=adK.1 hz
 exact(h.pos q (List.mem_filter.1 hq).1).1
theorem TJ{set P:List Lt}{x:Lt}(hs:NS set)(hx:1<=x.n)(hP:∀y∈P,1<=y.n)(hu:∀f u,has set f u↔has P f u):wZ false (jm set x)=nv x P:=by
 have h:=tq hx hP
 refine(Xu hs (by omega)).uniq h.1 fun f u=>?_
 rw[(jK hs (by omega)).out,h.2,hu]
def gA(p:List Lt×List Lt)(q:Lt×Bool):List Lt×List Lt:=bif q.2 then(aR p.1 q.1,p.2)else(p.1,aR p.2 q.1)
def kG(l set:List Lt):List Lt×List Lt:=(l.flatMap (jm set)).foldl gA ([],[])
theorem xq:∀(l:List (Lt×Bool)) (p:List Lt×List Lt),l.foldl gA p=((wZ true l).foldl aR p.1,(wZ false l).foldl aR p.2)
 |[],p=>rfl
 |(x,true)::l,p=>by rw[List.foldl_cons,xq l];rfl
 |(x,false)::l,p=>by rw[List.foldl_cons,xq l];rfl
def my(l P:List Lt):List Lt:=(l.flatMap fun x=>nv x P).foldl aR []
theorem yV(b:Bool)(g:Lt->List (Lt×Bool)):∀l:List Lt,wZ b (l.flatMap g)=l.flatMap fun x=>wZ b (g x)
 |[]=>rfl
 |x::l=>by rw[List.flatMap_cons,xp,yV b g l,List.flatMap_cons]
theorem TK{l P:List Lt}(hl:∀x∈l,1<=x.n)(hP:∀y∈P,1<=y.n){set:List Lt}(hs:NS set)(hu:∀f u,has set f u↔has P f u):(kG l set).2=my l P:=by
 unfold kG my
 rw[xq]
 show(wZ false (l.flatMap (jm set))).foldl aR []=_
 rw[yV]
 have:(l.flatMap fun x=>wZ false (jm set x))=l.flatMap fun x=>nv x P:=by
  induction l with
  |nil=>rfl
  |cons x l ih=>
   rw[List.flatMap_cons,List.flatMap_cons,ih fun y hy=>hl y (adq _ hy),TJ hs (hl x adu) hP hu]
 rw[this]
theorem Dm:∀(l r:List Lt),(∀x∈l,1<=x.n)->(∀x∈r,1<=x.n)->(∀x∈l.foldl aR r,1<=x.n)/\∀f u,has (l.foldl aR r) f u↔has r f u\/has l f u
 |[],r,_,hr=>⟨hr,fun f u=>⟨.inl,fun h=>h.resolve_right aZ⟩⟩
 |x::l,r,hl,hr=>by
  have hx:=hl x adu
  have h1:=Dm l (aR r x) (fun y hy=>hl y (adq _ hy)) (FZ hr (by omega))
  refine⟨h1.1,fun f u=>?_⟩
  rw[List.foldl_cons,h1.2,nu (fun y hy=>by have:=hr y hy;omega) (by omega),bn,or_assoc]
theorem p9{g:Lt->List Lt}{f u:Int}:∀{l:List Lt},has (l.flatMap g) f u↔∃x∈l,has (g x) f u
 |[]=>⟨fun h=>absurd h aZ,fun⟨_,h,_⟩=>by cases h⟩
 |x::l=>by rw[List.flatMap_cons,dp,p9 (l:=l)];simp
theorem yW{l P:List Lt}(hl:∀x∈l,1<=x.n)(hP:∀y∈P,1<=y.n):(∀x∈my l P,1<=x.n)/\∀f u,has (my l P) f u↔has l f u/\¬has P f u:=by
 have h:=Dm (l.flatMap fun x=>nv x P) [] (fun y hy=>by
  obtain⟨x,hx,hy⟩:=List.mem_flatMap.1 hy
  exact(tq (hl x hx) hP).1.pos y hy) fun _ h=>by cases h
 refine⟨h.1,fun f u=>?_⟩
 show has (List.foldl aR [] _) f u↔_
 rw[h.2,p9]
 constructor
 ·rintro(h|⟨x,hx,h⟩)
  ·exact absurd h aZ
  ·have:=((tq (hl x hx) hP).2 f u).1 h
   exact⟨⟨x,hx,this.1⟩,this.2⟩
 ·rintro⟨⟨x,hx,h1⟩,h2⟩
  exact .inr ⟨x,hx,((tq (hl x hx) hP).2 f u).2 ⟨h1,h2⟩⟩
theorem yX{l:List Lt}(hl:∀x∈l,1<=x.n)(h:∀f u,¬has l f u):l=[]:=by
 cases l with
 |nil=>rfl
 |cons x l=>exact absurd (bn.2 (.inl ⟨rfl,Int.le_refl _,by have:=hl x adu;omega⟩)) (h x.f x.a)
theorem TL{a b:List Lt}(ha:∀x∈a,1<=x.n)(hb:∀y∈b,1<=y.n):my (ct a) b=[]↔∀f u,has a f u->has b f u:=by
 have h1:=fS ha
 have h2:=yW h1.1.pos hb
 constructor
 ·intro h f u hu
  refine Classical.byContradiction fun hn=>?_
  have:=(h2.2 f u).2 ⟨(h1.2 f u).2 hu,hn⟩
  rw[h]at this
  exact aZ this
 ·intro h
  exact yX h2.1 fun f u hu=>((h2.2 f u).1 hu).2 (h f u ((h1.2 f u).1 ((h2.2 f u).1 hu).1))
theorem TN{a set:List Lt}(ha:∀x∈a,1<=x.n)(hs:NS set):(∀p∈a.flatMap (jm set),p.2=true)↔∀f u,has a f u->has set f u:=by
 constructor
 ·rintro h f u ⟨x,hx,h1⟩
  refine Classical.byContradiction fun hn=>?_
  obtain⟨y,hy,_⟩:=((jK hs (by have:=ha x hx;omega)).out f u).2 ⟨h1,hn⟩
  obtain⟨q,hq,rfl⟩:=adK.1 hy
  obtain⟨q1,q2⟩:=List.mem_filter.1 hq
  have:=h q (List.mem_flatMap.2 ⟨x,hx,q1⟩)
  simp[this]at q2
 ·intro h p hp
  obtain⟨x,hx,hp⟩:=List.mem_flatMap.1 hp
  have cC:=jK hs (x:=x) (by have:=ha x hx;omega)
  cases hb:p.2 with
  |true=>rfl
  |false=>
   exfalso
   have hm:p.1∈wZ false (jm set x):=adK.2 ⟨p,List.mem_filter.2 ⟨hp,by rw[hb];rfl⟩,rfl⟩
   have hq:=((cC.out p.1.f p.1.a).1 ⟨p.1,hm,rfl,Int.le_refl _,by have:=(cC.pos p hp).1;omega⟩)
   exact hq.2 (h _ _ ⟨x,hx,hq.1⟩)
theorem TO{a b:List Lt}(ha:∀x∈a,1<=x.n)(hb:∀y∈b,1<=y.n):my (ct a) (my (ct a) b)=[]↔∀f u,has a f u->¬has b f u:=by
 have h1:=fS ha
 have h2:=yW h1.1.pos hb
 have h3:=yW h1.1.pos h2.1
 constructor
 ·intro h f u hu hn
  have:=(h3.2 f u).2 ⟨(h1.2 f u).2 hu,fun h4=>((h2.2 f u).1 h4).2 hn⟩
  rw[h]at this
  exact aZ this
 ·intro h
  refine yX h3.1 fun f u hu=>?_
  have h4:=(h3.2 f u).1 hu
  exact h4.2 ((h2.2 f u).2 ⟨h4.1,h f u ((h1.2 f u).1 h4.1)⟩)
theorem Ll{a set:List Lt}(ha:∀x∈a,1<=x.n)(hs:NS set):(kG a set).1=[]↔∀f u,has a f u->¬has set f u:=by
 unfold kG
 rw[xq]
 show(wZ true (a.flatMap (jm set))).foldl aR []=[]↔_
 rw[yV]
 have h:=Dm (a.flatMap fun x=>wZ true (jm set x)) [] (fun y hy=>by
  obtain⟨x,hx,hy⟩:=List.mem_flatMap.1 hy
  obtain⟨q,hq,rfl⟩:=adK.1 hy
  exact((jK hs (by have:=ha x hx;omega)).pos q (List.mem_filter.1 hq).1).1) fun _ h=>by cases h
 constructor
 ·rintro h0 f u ⟨x,hx,hu⟩ hn
  have h0:List.foldl aR [] (a.flatMap fun x=>wZ true (jm set x))=[]:=h0
  have:=(h.2 f u).2 (.inr (p9.2 ⟨x,hx,((jK hs (by have:=ha x hx;omega)).ins f u).2 ⟨hu,hn⟩⟩))
  rw[h0]at this
  exact aZ this
 ·intro h0
  refine yX h.1 fun f u hu=>?_
  rcases(h.2 f u).1 hu with h4|h4
  ·exact aZ h4
  ·obtain⟨x,hx,h5⟩:=p9.1 h4
   have h6:=((jK hs (by have:=ha x hx;omega)).ins f u).1 h5
   exact h0 f u ⟨x,hx,h6.1⟩ h6.2
end
section
def fm(rs:List Int)(i j:Nat):Bool:=decide (rs.getD j 0<rs.getD i 0\/rs.getD i 0=rs.getD j 0/\i<j)
def P7(rs:List Int)(i:Nat):Nat:=(List.range rs.length).countP fun j=>fm rs j i
theorem TP{rs:List Int}{i j:Nat}(h:i≠j):fm rs i j=true\/fm rs j i=true:=by
 simp only[fm,decide_eq_true_eq];omega
theorem TQ{rs:List Int}{i j:Nat}(h:fm rs i j=true):fm rs j i=false:=by
 simp only[fm,decide_eq_true_eq,adU]at *; omega
theorem Xv{rs:List Int}{i j k:Nat}(h:fm rs i j=true)(h2:fm rs j k=true):fm rs i k=true:=by
 simp only[fm,decide_eq_true_eq]at *; omega
structure Ord(rs:List Int)(o:List Nat):Prop where
 perm:o.Perm (List.range rs.length)
 srt:o.Pairwise fun i j=>fm rs i j=true
theorem Ord.nodup{rs:List Int}{o:List Nat}(h:Ord rs o):o.Nodup:=h.perm.nodup_iff.2 List.nodup_range
theorem Ord.len{rs:List Int}{o:List Nat}(h:Ord rs o):o.length=rs.length:=by rw[h.perm.length_eq,List.length_range]
theorem IZ(rs:List Int):∃o,Ord rs o:=by
 let le:Nat->Nat->Bool:=fun i j=>fm rs i j||i==j
 refine⟨(List.range rs.length).mergeSort le,List.mergeSort_perm _ _,?_⟩
 have h1:((List.range rs.length).mergeSort le).Pairwise fun a b=>le a b=true:=List.pairwise_mergeSort (fun a b c h h2=>by
  simp only[le,Bool.or_eq_true,beq_iff_eq]at*
  rcases h with h|rfl
  ·rcases h2 with h2|rfl
   ·exact .inl (Xv h h2)
   ·exact .inl h
  ·exact h2) (fun a b=>by
  simp only[le,Bool.or_eq_true,beq_iff_eq]
  by_cases e:a=b
  ·exact .inl (.inr e)
  ·rcases TP (rs:=rs) e with h|h
   ·exact .inl (.inl h)
   ·exact .inr (.inl h)) _
 have h2:((List.range rs.length).mergeSort le).Nodup:=(List.mergeSort_perm _ _).nodup_iff.2 List.nodup_range
 refine(List.Pairwise.and h1 h2).imp fun h=>?_
 simp only[le,Bool.or_eq_true,beq_iff_eq]at h
 exact h.1.resolve_right h.2
theorem Ord.MO{rs:List Int}{o:List Nat}(h:Ord rs o){k i:Nat}(hk:o[k]?=some i):P7 rs i=k:=by
 unfold P7
 rw[<-h.perm.countP_eq]
 have e:o=o.take k++i::o.drop (k+1):=by
  have hl:=(W8.1 hk).1
  conv=>lhs;rw[<-List.take_append_drop k o,List.drop_eq_getElem_cons hl]
  rw[(W8.1 hk).2]
 have hs:=h.srt
 rw[e,List.pairwise_append]at hs
 obtain⟨h1,h2,h3⟩:=hs
 have h4:=List.pairwise_cons.1 h2
 rw[e,List.countP_append,List.countP_cons]
 have c1:(o.take k).countP (fun j=>fm rs j i)=k:=by
  rw[List.countP_eq_length.2 fun j hj=>h3 j hj i adu,adD]
  have hl:=(W8.1 hk).1
  omega
 have c2:(o.drop (k+1)).countP (fun j=>fm rs j i)=0:=List.countP_eq_zero.2 fun j hj=>by rw[TQ (h4.1 j hj)];simp
 have c3:fm rs i i=false:=by simp[fm]
 rw[c1,c2,c3];rfl
theorem Ord.mem{rs:List Int}{o:List Nat}(h:Ord rs o){m i:Nat}(hi:i<rs.length):i∈o.take m↔P7 rs i<m:=by
 obtain⟨k,hk⟩:=adE (h.perm.mem_iff.2 (adL.2 hi))
 rw[h.MO hk]
 constructor
 ·intro hm
  obtain⟨q,hq⟩:=adE hm
  have hqm:q<m:=by have:=(W8.1 hq).1;rw[adD]at this;omega
  rw[List.getElem?_take_of_lt hqm]at hq
  have hl:=(W8.1 hq).1
  have:=(List.getElem?_inj hl h.nodup).1 (hq.trans hk.symm)
  omega
 ·intro hm
  exact ab6 ((List.getElem?_take_of_lt hm).trans hk)
def kH(l:List Int)(i:Nat):List Int:=l.set i (l.getD i 0+1)
def plus(rs qs:List Int)(m:Nat):List Int:=(List.range rs.length).map fun i=>qs.getD i 0+bif decide (P7 rs i<m)then 1 else 0
theorem xt(l:List Int)(i:Nat):(kH l i).length=l.length:=List.length_set ..
theorem TR(l:List Int)(i j:Nat)(hi:i<l.length):(kH l i).getD j 0=l.getD j 0+if i=j then 1 else 0:=by
 unfold kH
 rw[acb,List.getElem?_set]
 split
 ·rename_i e;subst e
  simp[hi]
 ·rename_i e
  rw[<-acb];omega
theorem yY:∀(o:List Nat) (l:List Int),o.Nodup->(∀i∈o,i<l.length)->(o.foldl kH l).length=l.length/\∀j,(o.foldl kH l).getD j 0=l.getD j 0+if j∈o then 1 else 0
 |[],l,_,_=>⟨rfl,fun j=>by simp⟩
 |i::o,l,hn,hl=>by
  have HU:=List.nodup_cons.1 hn
  have ih:=yY o (kH l i) HU.2 fun k hk=>by rw[xt];exact hl k (adq _ hk)
  rw[List.foldl_cons]
  refine⟨by rw[ih.1,xt],fun j=>?_⟩
  rw[ih.2,TR _ _ _ (hl i adu)]
  by_cases e:i=j
  ·subst e
   rw[if_pos rfl,if_neg HU.1,if_pos adu];omega
  ·rw[if_neg e]
   have:j∈i::o↔j∈o:=by simp[Ne.symm e]
   simp only[this];omega
theorem P8{a b:List Int}(hl:a.length=b.length)(h:∀j,j<a.length->a.getD j 0=b.getD j 0):a=b:=by
 refine List.ext_getElem hl fun i h1 h2=>?_
 have:=h i h1
 rwa[acb,acb,IF h1,IF h2]at this
theorem F1(rs qs:List Int)(m:Nat):(plus rs qs m).length=rs.length:=by simp[plus]
theorem yZ{rs qs:List Int}{m j:Nat}(h:j<rs.length):(plus rs qs m).getD j 0=qs.getD j 0+if P7 rs j<m then 1 else 0:=by
 unfold plus
 rw[acb,abW,List.getElem?_range h]
 simp only[Option.map_some,Option.getD_some]
 by_cases hc:P7 rs j<m
 ·rw[if_pos hc,adF hc];rfl
 ·rw[if_neg hc,adG hc];rfl
theorem y1{rs qs:List Int}{o:List Nat}(h:Ord rs o)(hl:qs.length=rs.length)(m:Nat):(o.take m).foldl kH qs=plus rs qs m:=by
 have hn:(o.take m).Nodup:=h.nodup.sublist (List.take_sublist _ _)
 have hm:∀i∈o.take m,i<qs.length:=fun i hi=>by
  have:=h.perm.mem_iff.1 (List.mem_of_mem_take hi)
  rw[hl];exact adL.1 this
 obtain⟨h1,h2⟩:=yY _ qs hn hm
 refine P8 (by rw[h1,F1,hl]) fun j hj=>?_
 have hj:j<rs.length:=by rw[h1,hl]at hj;exact hj
 rw[h2,yZ hj]
 simp only[h.mem hj]
def AJ(rs:List Int)(b i:Nat):Nat:=if rs.getD b 0<rs.getD i 0 then i else b
def y2(rs:List Int):Nat:=(List.range' 1 (rs.length-1)).foldl (AJ rs) 0
def onR(p:List Int×List Int):List Int×List Int:=(kH p.1 (y2 p.2),p.2.set (y2 p.2) (-1))
def AK(p:List Int×List Int):Nat->List Int×List Int
 |0=>p
 |k+1=>onR (AK p k)
theorem y3(rs:List Int):∀(n s b:Nat),b<s->(∀j,j<s->fm rs j b=false)->((List.range' s n).foldl (AJ rs) b)<s+n/\∀j,j<s+n->fm rs j ((List.range' s n).foldl (AJ rs) b)=false
 |0,s,b,hb,h=>⟨by simpa using hb,by simpa using h⟩
 |n+1,s,b,hb,h=>by
  rw[List.range'_succ,List.foldl_cons]
  have:=y3 rs n (s+1) (AJ rs b s) (by unfold AJ;split<;>omega) fun j hj=>by
   unfold AJ
   have Xw:=h b hb
   split
   ·rename_i hc
    by_cases e:j=s
    ·subst e;simp[fm]
    ·have:=h j (by omega)
     simp only[fm,adU]at*
     omega
   ·rename_i hc
    by_cases e:j=s
    ·subst e
     simp only[fm,adU];omega
    ·exact h j (by omega)
  rw[show s+(n+1)=s+1+n by omega]
  exact this
theorem Xx{rs:List Int}(h:0<rs.length):y2 rs<rs.length/\∀j,j<rs.length->fm rs j (y2 rs)=false:=by
 have:=y3 rs (rs.length-1) 1 0 (by omega) fun j hj=>by
  have:j=0:=by omega
  subst this;simp[fm]
 rw[show 1+(rs.length-1)=rs.length by omega]at this
 exact this
theorem P9{rs qs:List Int}{o:List Nat}(h:Ord rs o)(hp:∀r∈rs,0<=r)(hl:qs.length=rs.length):∀k,k<=rs.length->(AK (qs,rs) k).1=(o.take k).foldl kH qs/\(AK (qs,rs) k).2.length=rs.length/\∀j,j<rs.length->(AK (qs,rs) k).2.getD j 0=if j∈o.take k then -1 else rs.getD j 0
 |0,_=>⟨rfl,rfl,fun j _=>by simp[AK]⟩
 |k+1,hk=>by
  obtain⟨h1,h2,h3⟩:=P9 h hp hl k (by omega)
  have oT:k<o.length:=by rw[h.len];omega
  have cC:o[k]?=some o[k]:=IF oT
  have ht:o.take (k+1)=o.take k++[o[k]]:=by rw[ads,cC];rfl
  have I0:o[k]<rs.length:=adL.1 (h.perm.mem_iff.1 (adP oT))
  have hrk:=h.MO cC
  have dD:∀j,j<rs.length->0<=rs.getD j 0:=fun j hj=>by
   rw[acb,IF hj];exact hp _ (adP hj)
  have hb:y2 (AK (qs,rs) k).2=o[k]:=by
   obtain⟨b1,b2⟩:=Xx (rs:=(AK (qs,rs) k).2) (by omega)
   rw[h2]at b1 b2
   have b3:=b2 o[k] I0
   generalize y2 (AK (qs,rs) k).2=b at b1 b3
   have g1:=h3 b b1
   have g2:=h3 o[k] I0
   have dI:o[k]∉o.take k:=fun hm=>by have:=(h.mem I0).1 hm;omega
   rw[if_neg dI]at g2
   have p1:=dD o[k] I0
   refine Classical.byContradiction fun cF=>?_
   by_cases hbm:b∈o.take k
   ·rw[if_pos hbm]at g1
    simp only[fm,adU]at b3
    omega
   ·rw[if_neg hbm]at g1
    have Zs:k<P7 rs b:=by
     have h5:¬P7 rs b<k:=fun h6=>hbm ((h.mem b1).2 h6)
     rcases Nat.lt_or_eq_of_le (Nat.le_of_not_lt h5)with h6|h6
     ·exact h6
     ·obtain⟨q,hq⟩:=adE (h.perm.mem_iff.2 (adL.2 b1))
      have Di:=h.MO hq
      have:q=k:=by omega
      subst this
      rw[cC]at hq
      injection hq with hq
      exact absurd hq.symm cF
    obtain⟨q,hq⟩:=adE (h.perm.mem_iff.2 (adL.2 b1))
    have Di:=h.MO hq
    have hql:=(W8.1 hq).1
    have hbt:=List.pairwise_iff_getElem.1 h.srt k q oT hql (by omega)
    rw[(W8.1 hq).2]at hbt
    simp only[fm,adU,decide_eq_true_eq]at b3 hbt
    omega
  have eo:AK (qs,rs) (k+1)=(kH (AK (qs,rs) k).1 o[k],(AK (qs,rs) k).2.set o[k] (-1)):=by show onR _=_;unfold onR;rw[hb]
  rw[eo]
  refine⟨by rw[ht,adI,<-h1];rfl,(List.length_set ..).trans h2,fun j hj=>?_⟩
  show((AK (qs,rs) k).2.set o[k] (-1)).getD j 0=_
  by_cases e:o[k]=j
  ·subst e
   rw[acb,List.getElem?_set_self (by omega),if_pos (by rw[ht];exact adr.2 (.inr (ado.2 rfl)))];rfl
  ·rw[acb,List.getElem?_set_ne e,<-acb,h3 j hj]
   have:j∈o.take (k+1)↔j∈o.take k:=by rw[ht,adr,ado];exact⟨fun h=>h.resolve_right fun h=>e h.symm,.inl⟩
   simp only[this]
theorem Qa{rs qs:List Int}(hp:∀r∈rs,0<=r)(hl:qs.length=rs.length){k:Nat}(hk:k<=rs.length):(AK (qs,rs) k).1=plus rs qs k:=by
 obtain⟨o,h⟩:=IZ rs
 rw[(P9 h hp hl k hk).1,y1 h hl]
def qL(t s:Int)(ws:List Int):List Int:=ws.map fun w=>t*w/s
def rL(t s:Int)(ws:List Int):List Int:=ws.map fun w=>t*w%s
def gh(t s:Int)(ws:List Int):Int:=t-(qL t s ws).sum
def Ar(t:Int)(ws:List Int):List Int:=plus (rL t ws.sum ws) (qL t ws.sum ws) (gh t ws.sum ws).toNat
theorem Qb(t s:Int):∀ws:List Int,s*(qL t s ws).sum+(rL t s ws).sum=t*ws.sum
 |[]=>by simp[qL,rL]
 |w::ws=>by
  have ih:=Qb t s ws
  have:=Int.mul_ediv_add_emod (t*w) s
  simp only[qL,rL,List.map_cons,List.sum_cons]at*
  rw[Int.mul_add,Int.mul_add];omega
theorem Xy{t s:Int}(hs:0<s){ws:List Int}:∀r∈rL t s ws,0<=r/\r<s:=fun r hr=>by
 obtain⟨w,_,rfl⟩:=adK.1 hr
 exact⟨Int.emod_nonneg _ (by omega),Int.emod_lt_of_pos _ hs⟩
theorem y4:∀{l:List Int},(∀x∈l,0<=x)->0<=l.sum
 |[],_=>by simp
 |x::l,h=>by
  have:=h x adu
  have:=y4 fun y hy=>h y (adq x hy)
  simp only[List.sum_cons];omega
theorem y5{s:Int}(hs:0<s):∀{l:List Int},(∀x∈l,0<=x/\x<s)->l.sum<=s*(l.countP (fun x=>decide (0<x)):Nat)/\(0<l.sum->l.sum<s*(l.countP (fun x=>decide (0<x)):Nat))
 |[],_=>by simp
 |x::l,h=>by
  have hx:=h x adu
  have ih:=y5 hs fun y hy=>h y (adq x hy)
  simp only[List.sum_cons,List.countP_cons]
  by_cases hp:0<x
  ·rw[adF hp]
   simp only[if_true]
   have:s*((l.countP (fun x=>decide (0<x))+1:Nat):Int)=s*(l.countP (fun x=>decide (0<x)):Nat)+s:=by rw[Int.natCast_add,Int.mul_add];simp
   rw[this]
   omega
  ·rw[adG hp]
   simp only[Bool.false_eq_true,if_false,Nat.add_zero]
   have:x=0:=by omega
   subst this
   simpa using ih
theorem xu{t:Int}{ws:List Int}(hs:0<ws.sum):0<=gh t ws.sum ws/\gh t ws.sum ws<=((rL t ws.sum ws).countP fun x=>decide (0<x):Nat)/\(0<gh t ws.sum ws->gh t ws.sum ws<((rL t ws.sum ws).countP fun x=>decide (0<x):Nat)):=by
 have h1:=Qb t ws.sum ws
 have h2:=Xy (t:=t) hs (ws:=ws)
 have h3:=y4 fun x hx=>(h2 x hx).1
 have h4:=y5 hs h2
 have e:(rL t ws.sum ws).sum=ws.sum*gh t ws.sum ws:=by unfold gh;rw[Int.mul_sub,Int.mul_comm ws.sum t];omega
 generalize gh t ws.sum ws=L at*
 generalize ((rL t ws.sum ws).countP fun x=>decide (0<x))=C at*
 rw[e]at h3 h4
 refine⟨?_,?_,fun hL=>?_⟩
 ·exact Classical.byContradiction fun hn=>by
   have:=Int.mul_neg_of_pos_of_neg hs (show L<0 by omega);omega
 ·exact Int.le_of_mul_le_mul_left h4.1 hs
 ·exact Int.lt_of_mul_lt_mul_left (h4.2 (Int.mul_pos hs hL)) (by omega)
theorem Lm(t:Int)(ws:List Int):(Ar t ws).length=ws.length:=by simp[Ar,F1,rL]
theorem TS{rs:List Int}(hp:∀r∈rs,0<=r){i:Nat}(hi:i<rs.length)(h:P7 rs i<rs.countP fun x=>decide (0<x)):0<rs.getD i 0:=by
 refine Classical.byContradiction fun hn=>?_
 have h0:rs.getD i 0<=0:=by omega
 have:rs.countP (fun x=>decide (0<x))<=P7 rs i:=by
  unfold P7
  have e:rs=(List.range rs.length).map fun j=>rs.getD j 0:=by
   refine List.ext_getElem (by simp) fun j h1 h2=>?_
   simp[acb,h1]
  conv=>lhs;rw[e,List.countP_map]
  refine List.countP_mono_left fun j _ hj=>?_
  simp only[Function.comp,decide_eq_true_eq]at hj
  simp only[fm,decide_eq_true_eq]
  omega
 omega
theorem VP{t:Int}{ws:List Int}(ht:0<=t)(hw:∀w∈ws,0<=w)(hs:0<ws.sum)(HV:t<=ws.sum){i:Nat}(hi:i<ws.length):0<=(Ar t ws).getD i 0/\(Ar t ws).getD i 0<=ws.getD i 0:=by
 unfold Ar
 have hr:i<(rL t ws.sum ws).length:=by simpa[rL]using hi
 rw[yZ hr]
 have hwi:=hw _ (adP hi)
 have eq:(qL t ws.sum ws).getD i 0=t*ws[i]/ws.sum:=by simp[qL,acb,hi]
 have er:(rL t ws.sum ws).getD i 0=t*ws[i]%ws.sum:=by simp[rL,acb,hi]
 have ew:ws.getD i 0=ws[i]:=by simp[acb,hi]
 rw[eq,ew]
 have hq0:0<=t*ws[i]/ws.sum:=Int.ediv_nonneg (Int.mul_nonneg ht hwi) (by omega)
 have hm:=Int.mul_ediv_add_emod (t*ws[i]) ws.sum
 have hle:t*ws[i]<=ws.sum*ws[i]:=Int.mul_le_mul_of_nonneg_right HV hwi
 have Zs:=Xy (t:=t) hs (ws:=ws)
 split
 ·rename_i hc
  obtain⟨l1,l2,l3⟩:=xu (t:=t) hs
  have dD:0<gh t ws.sum ws:=by omega
  have hrp:=TS (fun r hr=>(Zs r hr).1) hr (by have:=l3 dD;omega)
  rw[er]at hrp
  refine⟨by omega,?_⟩
  have:ws.sum*(t*ws[i]/ws.sum)<ws.sum*ws[i]:=by omega
  have:=Int.lt_of_mul_lt_mul_left this (by omega)
  omega
 ·refine⟨by omega,?_⟩
  have h0:=Int.emod_nonneg (t*ws[i]) (show ws.sum≠0 by omega)
  have:ws.sum*(t*ws[i]/ws.sum)<=ws.sum*ws[i]:=by omega
  have:=Int.le_of_mul_le_mul_left this hs
  omega
end
section
open Go.TM
section
variable {κ β:Type} [DecidableEq κ]
def aX:List (κ×β)->κ->Option β
 |[],_=>none
 |(k',v)::r,k=>if k'=k then some v else aX r k
def aH:List (κ×β)->κ->β->List (κ×β)
 |[],k,x=>[(k,x)]
 |(k',v)::r,k,x=>if k'=k then(k,x)::r else(k',v)::aH r k x
def tr:List (κ×β)->κ->List (κ×β)
 |[],_=>[]
 |(k',v)::r,k=>if k'=k then r else(k',v)::tr r k
def Nk(m:List (κ×β)):Prop:=(m.map (·.1)).Nodup
theorem j4(m:List (κ×β))(k k':κ)(x:β):aX (aH m k x) k'=if k=k' then some x else aX m k':=by
 induction m with
 |nil=>simp[aH,aX]
 |cons p r ih=>
  obtain⟨q,v⟩:=p
  simp only[aH]
  by_cases h:q=k
  ·rw[if_pos h]
   subst h
   simp only[aX]
   by_cases h2:q=k'
   ·rw[if_pos h2,if_pos h2]
   ·rw[if_neg h2,if_neg h2,if_neg h2]
  ·rw[if_neg h]
   simp only[aX,ih]
   by_cases h2:q=k'
   ·rw[if_pos h2,if_pos h2,if_neg (by rintro rfl;exact h h2)]
   ·rw[if_neg h2,if_neg h2]
theorem lL{m:List (κ×β)}{k:κ}{x:β}(h:aX m k=some x):(k,x)∈m:=by
 induction m with
 |nil=>cases h
 |cons p r ih=>
  obtain⟨q,v⟩:=p
  simp only[aX]at h
  by_cases h2:q=k
  ·rw[if_pos h2]at h;injection h with h;subst h;subst h2;exact adu
  ·rw[if_neg h2]at h;exact adq _ (ih h)
theorem ny{m:List (κ×β)}{k:κ}(h:k∉m.map (·.1)):aX m k=none:=by
 cases hg:aX m k with
 |none=>rfl
 |some x=>exact absurd (adK.2 ⟨_,lL hg,rfl⟩) h
theorem Qc{m:List (κ×β)}{k:κ}:aX m k=none↔k∉m.map (·.1):=by
 refine⟨fun h hm=>?_,ny⟩
 induction m with
 |nil=>cases hm
 |cons p r ih=>
  obtain⟨q,v⟩:=p
  simp only[aX]at h
  by_cases h2:q=k
  ·rw[if_pos h2]at h;cases h
  ·rw[if_neg h2]at h
   rcases adp.1 hm with e|hm
   ·exact h2 e.symm
   ·exact ih h hm
theorem qS{m:List (κ×β)}{k:κ}{x:β}(hn:Nk m)(h:(k,x)∈m):aX m k=some x:=by
 induction m with
 |nil=>cases h
 |cons p r ih=>
  obtain⟨q,v⟩:=p
  have HU:=List.nodup_cons.1 hn
  simp only[aX]
  rcases adp.1 h with e|h
  ·injection e with e1 e2;subst e1;subst e2;exact if_pos rfl
  ·rw[if_neg,ih HU.2 h]
   rintro rfl
   exact HU.1 (adK.2 ⟨_,h,rfl⟩)
theorem vc(m:List (κ×β))(k:κ)(x:β):(aH m k x).map (·.1)=if k∈m.map (·.1)then m.map (·.1)else m.map (·.1)++[k]:=by
 induction m with
 |nil=>simp[aH]
 |cons p r ih=>
  obtain⟨q,v⟩:=p
  simp only[aH,List.map_cons,adp]
  by_cases h:q=k
  ·subst h;simp
  ·rw[if_neg h,List.map_cons,ih]
   have:k≠q:=fun e=>h e.symm
   by_cases h2:k∈r.map (·.1)
   ·rw[if_pos h2,if_pos (.inr h2)]
   ·rw[if_neg h2,if_neg (by simp[this,h2])];rfl
theorem Nk.put{m:List (κ×β)}(h:Nk m)(k:κ)(x:β):Nk (aH m k x):=by
 unfold Nk
 rw[vc]
 split
 ·exact h
 ·rename_i h2
  rw[List.nodup_append]
  refine⟨h,by simp,fun a ha b hb=>?_⟩
  rw[ado]at hb;subst hb
  rintro rfl;exact h2 ha
theorem Qd(m:List (κ×β))(k:κ):(tr m k).Sublist m:=by
 induction m with
 |nil=>exact .slnil
 |cons p r ih=>
  obtain⟨q,v⟩:=p
  simp only[tr]
  split
  ·exact List.sublist_cons_self _ _
  ·exact ih.cons_cons _
theorem Nk.del{m:List (κ×β)}(h:Nk m)(k:κ):Nk (tr m k):=h.sublist ((Qd m k).map _)
theorem F2{m:List (κ×β)}(h:Nk m)(k k':κ):aX (tr m k) k'=if k=k' then none else aX m k':=by
 induction m with
 |nil=>simp[tr,aX]
 |cons p r ih=>
  obtain⟨q,v⟩:=p
  have HU:=List.nodup_cons.1 h
  simp only[tr]
  by_cases h1:q=k
  ·subst h1
   rw[if_pos rfl]
   by_cases h2:q=k'
   ·subst h2
    rw[if_pos rfl];exact ny HU.1
   ·rw[if_neg h2];simp only[aX];rw[if_neg h2]
  ·rw[if_neg h1]
   simp only[aX,ih HU.2]
   by_cases h2:q=k'
   ·rw[if_pos h2,if_pos h2,if_neg (by rintro rfl;exact h1 h2)]
   ·rw[if_neg h2,if_neg h2]
theorem Nk.perm{m m':List (κ×β)}(h:Nk m)(p:m.Perm m'):Nk m':=(p.map _).nodup_iff.1 h
theorem BG{m m':List (κ×β)}(h:Nk m)(p:m.Perm m')(k:κ):aX m k=aX m' k:=by
 cases hg:aX m k with
 |some x=>exact(qS (h.perm p) (p.mem_iff.1 (lL hg))).symm
 |none=>
  have:=Qc.1 hg
  exact(ny fun hm=>this ((p.map _).mem_iff.2 hm)).symm
def eM(ek:κ->DV)(ev:β->DV)(m:List (κ×β)):List DV:=m.map fun p=>.fR (ek p.1) (ev p.2)
variable {ek:κ->DV} {ev:β->DV} (hk:∀a b,um (ek a) (ek b)=decide (a=b))
include hk
theorem jd(m:List (κ×β))(k:κ):ca (eM ek ev m) (ek k)=(aX m k).map ev:=by
 induction m with
 |nil=>rfl
 |cons p r ih=>
  obtain⟨q,v⟩:=p
  show(bif um (ek q) (ek k)then some (ev v)else ca (eM ek ev r) (ek k))=_
  rw[hk,ih]
  simp only[aX]
  by_cases h:q=k
  ·rw[adF h,if_pos h];rfl
  ·rw[adG h,if_neg h];rfl
theorem c5(m:List (κ×β))(k:κ)(x:β):c7 (eM ek ev m) (ek k) (ev x)=eM ek ev (aH m k x):=by
 induction m with
 |nil=>rfl
 |cons p r ih=>
  obtain⟨q,v⟩:=p
  show(bif um (ek q) (ek k)then DV.fR (ek k) (ev x)::eM ek ev r else .fR (ek q) (ev v)::c7 (eM ek ev r) (ek k) (ev x))=_
  rw[hk,ih]
  simp only[aH]
  by_cases h:q=k
  ·rw[adF h,if_pos h];rfl
  ·rw[adG h,if_neg h];rfl
theorem TT(m:List (κ×β))(k:κ):iM (eM ek ev m) (ek k)=eM ek ev (tr m k):=by
 induction m with
 |nil=>rfl
 |cons p r ih=>
  obtain⟨q,v⟩:=p
  show(bif um (ek q) (ek k)then eM ek ev r else .fR (ek q) (ev v)::iM (eM ek ev r) (ek k))=_
  rw[hk,ih]
  simp only[tr]
  by_cases h:q=k
  ·rw[adF h,if_pos h];rfl
  ·rw[adG h,if_neg h];rfl
end
end
end Go.Proofs.YtmojfblpbcficaaGreatDoor
