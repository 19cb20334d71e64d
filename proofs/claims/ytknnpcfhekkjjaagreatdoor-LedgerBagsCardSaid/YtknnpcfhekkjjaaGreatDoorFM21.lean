import Derived.Test.YtknnpcfhekkjjaaGreatDoorFM19
set_option linter.all false
namespace Go.Proofs.YtknnpcfhekkjjaaGreatDoor
section
structure Lt where
 f:Int
 a:Int
 n:Int
theorem Lt.ext'{x y:Lt}(h1:x.f=y.f)(h2:x.a=y.a)(h3:x.n=y.n):x=y:=by cases x;cases y;simp_all
def lG(x:Lt)(f u:Int):Prop:=x.f=f/\x.a<=u/\u<x.a+x.n
def has(l:List Lt)(f u:Int):Prop:=∃x∈l,lG x f u
theorem bE{f u:Int}:¬has [] f u:=fun⟨_,h,_⟩=>by cases h
theorem bD{x:Lt}{l:List Lt}{f u:Int}:has (x::l) f u↔lG x f u\/has l f u:=by
 constructor
 ·rintro⟨y,hy,h⟩
  rcases abO.1 hy with rfl|hy
  ·exact .inl h
  ·exact .inr ⟨y,hy,h⟩
 ·rintro(h|⟨y,hy,h⟩)
  ·exact⟨x,abT,h⟩
  ·exact⟨y,abP _ hy,h⟩
theorem eK{l r:List Lt}{f u:Int}:has (l++r) f u↔has l f u\/has r f u:=by
 induction l with
 |nil=>simp[bE]
 |cons x l ih=>rw[List.cons_append,bD,bD,ih,or_assoc]
def Ak(x y:Lt):Prop:=x.f<y.f\/x.f=y.f/\x.a+x.n<y.a
structure NS(l:List Lt):Prop where
 rK:l.Pairwise Ak
 pos:∀x∈l,1<=x.n
theorem NS.nil:NS []:=⟨.nil,fun _ h=>by cases h⟩
theorem NS.tail{x:Lt}{l:List Lt}(h:NS (x::l)):NS l:=⟨(List.pairwise_cons.1 h.rK).2,fun y hy=>h.pos y (abP _ hy)⟩
theorem NS.head{x:Lt}{l:List Lt}(h:NS (x::l)):1<=x.n/\∀y∈l,Ak x y:=⟨h.pos x abT,(List.pairwise_cons.1 h.rK).1⟩
theorem NS.first{x:Lt}{l:List Lt}(h:NS (x::l)){f u:Int}(hu:has (x::l) f u):x.f<f\/x.f=f/\x.a<=u:=by
 rcases bD.1 hu with h1|⟨y,hy,h1⟩
 ·exact .inr ⟨h1.1,h1.2.1⟩
 ·have:=h.head.2 y hy
  have:=h.head.1
  obtain⟨h2,h3,h4⟩:=h1
  unfold Ak at*
  omega
theorem NS.uniq:∀{l r:List Lt},NS l->NS r->(∀f u,has l f u↔has r f u)->l=r
 |[],[],_,_,_=>rfl
 |[],y::r,_,hr,h=>absurd ((h y.f y.a).2 (bD.2 (.inl ⟨rfl,Int.le_refl _,by have:=hr.head.1;omega⟩))) bE
 |x::l,[],hl,_,h=>absurd ((h x.f x.a).1 (bD.2 (.inl ⟨rfl,Int.le_refl _,by have:=hl.head.1;omega⟩))) bE
 |x::l,y::r,hl,hr,h=>by
  have px:=hl.head.1
  have py:=hr.head.1
  have h1:=hr.first ((h x.f x.a).1 (bD.2 (.inl ⟨rfl,Int.le_refl _,by omega⟩)))
  have h2:=hl.first ((h y.f y.a).2 (bD.2 (.inl ⟨rfl,Int.le_refl _,by omega⟩)))
  have ef:x.f=y.f:=by omega
  have ea:x.a=y.a:=by omega
  have key:∀{p q:Lt} {l r:List Lt},NS (p::l)->NS (q::r)->(∀f u,has (p::l) f u->has (q::r) f u)->p.f=q.f->p.a=q.a->p.n<=q.n:=by
   intro p q l r hp hq hh e1 e2
   rcases Int.lt_or_le q.n p.n with au|hle
   ·exfalso
    have p1:=hp.head.1
    have q1:=hq.head.1
    rcases bD.1 (hh p.f (q.a+q.n) (bD.2 (.inl ⟨rfl,by omega,by omega⟩)))with h3|⟨z,hz,h3⟩
    ·have:=h3.2.2;omega
    ·have:=hq.head.2 z hz
     obtain⟨h4,h5,h6⟩:=h3
     unfold Ak at this
     omega
   ·exact hle
  have en:x.n=y.n:=Int.le_antisymm (key hl hr (fun f u=>(h f u).1) ef ea) (key hr hl (fun f u=>(h f u).2) ef.symm ea.symm)
  have exy:=Lt.ext' ef ea en
  subst exy
  congr 1
  refine NS.uniq hl.tail hr.tail fun f u=>?_
  have dis:∀{s:List Lt},NS (x::s)->has s f u->¬lG x f u:=by
   rintro s hs ⟨z,hz,h4⟩ h5
   have:=hs.head.2 z hz
   obtain⟨a1,a2,a3⟩:=h4
   obtain⟨b1,b2,b3⟩:=h5
   unfold Ak at this
   omega
  constructor
  ·intro h3
   rcases bD.1 ((h f u).1 (bD.2 (.inr h3)))with h4|h4
   ·exact absurd h4 (dis hl h3)
   ·exact h4
  ·intro h3
   rcases bD.1 ((h f u).2 (bD.2 (.inr h3)))with h4|h4
   ·exact absurd h4 (dis hr h3)
   ·exact h4
def dD(l:List Lt):Int:=(l.map (·.n)).sum
def bj(l:List Lt)(x:Lt):List Lt:=
 if x.n=0 then l else match l.getLast? with
  |some y=>if y.f=x.f/\y.a+y.n=x.a then l.dropLast++[⟨y.f,y.a,y.n+x.n⟩]else l++[x]
  |none=>[x]
theorem gR{l:List Lt}{y:Lt}(h:l.getLast?=some y):l=l.dropLast++[y]:=by
 rcases List.eq_nil_or_concat l with rfl|⟨r,z,rfl⟩
 ·cases h
 ·rw[List.concat_eq_append]at h⊢
  simp at h
  subst h
  simp
theorem OQ{l:List Lt}{x:Lt}(hl:∀y∈l,0<=y.n)(hx:0<=x.n){f u:Int}:has (bj l x) f u↔has l f u\/lG x f u:=by
 unfold bj
 split
 ·rename_i h0
  constructor
  ·exact .inl
  ·rintro(h|h)
   ·exact h
   ·have:=h.2;omega
 split
 ·rename_i y hy
  have e:=gR hy
  have hyn:=hl y (List.mem_of_getLast? hy)
  split
  ·rename_i hc
   rw[eK]
   conv=>rhs;rw[e,eK]
   rw[or_assoc]
   refine or_congr Iff.rfl ?_
   constructor
   ·rintro⟨z,hz,h⟩
    rw[abN]at hz;subst hz
    obtain⟨h1,h2,h3⟩:=h
    simp only at h1 h2 h3
    by_cases hu:u<y.a+y.n
    ·exact .inl ⟨y,abN.2 rfl,h1,h2,hu⟩
    ·exact .inr ⟨by omega,by omega,by omega⟩
   ·rintro(⟨z,hz,h⟩|h)
    ·rw[abN]at hz;subst hz
     exact⟨_,abN.2 rfl,h.1,h.2.1,by have:=h.2.2;simp only;omega⟩
    ·exact⟨_,abN.2 rfl,by rw[hc.1];exact h.1,by have:=h.2.1;simp only;omega,by have:=h.2.2;simp only;omega⟩
  ·rw[eK]
   refine or_congr Iff.rfl ?_
   rw[bD]
   exact⟨fun h=>h.resolve_right bE,.inl⟩
 ·rename_i hn
  have:l=[]:=List.getLast?_eq_none_iff.1 hn
  subst this
  rw[bD]
  exact⟨fun h=>.inr (h.resolve_right bE),fun h=>.inl (h.resolve_left bE)⟩
theorem Fe{l:List Lt}{x:Lt}(hl:∀y∈l,1<=y.n)(hx:0<=x.n):∀y∈bj l x,1<=y.n:=by
 unfold bj
 split
 ·exact hl
 rename_i h0
 split
 ·rename_i y hy
  have hyn:=hl y (List.mem_of_getLast? hy)
  intro z hz
  split at hz
  ·rcases abQ.1 hz with h|h
   ·exact hl z (List.dropLast_subset _ h)
   ·rw[abN]at h;subst h;simp only;omega
  ·rcases abQ.1 hz with h|h
   ·exact hl z h
   ·rw[abN]at h;subst h;omega
 ·intro z hz
  rw[abN]at hz;subst hz;omega
theorem sZ(l r:List Lt):dD (l++r)=dD l+dD r:=by simp[dD]
theorem Ff(l:List Lt)(x:Lt):dD (bj l x)=dD l+x.n:=by
 unfold bj
 split
 ·rename_i h;omega
 split
 ·rename_i y hy
  have e:=gR hy
  split
  ·rw[sZ]
   conv=>rhs;rw[e,sZ]
   simp[dD];omega
  ·rw[sZ];simp[dD]
 ·rename_i hn
  have:l=[]:=List.getLast?_eq_none_iff.1 hn
  subst this;simp[dD]
theorem fp(l:List Lt)(x:Lt):(bj l x).length<=l.length+1:=by
 unfold bj
 split
 ·omega
 split
 ·rename_i y hy
  have e:=congrArg List.length (gR hy)
  split<;>simp at e⊢<;>omega
 ·simp
end
section
structure T3 where
 OR:List Lt
 Rb:List Lt
 fr:Int
 to:Int
def wG(l:Lt)(s:T3)(x:Lt):T3:=
 if x.f<l.f\/x.f=l.f/\x.a+x.n<s.fr then { s with OR:=s.OR++[x] }
 else if l.f<x.f\/s.to<x.a then { s with Rb:=s.Rb++[x] }
 else { s with fr:=min s.fr x.a,to:=max s.to (x.a+x.n) }
def OS(l:Lt)(s:T3):List Lt:=s.OR++[⟨l.f,s.fr,s.to-s.fr⟩]++s.Rb
def j7(s:List Lt)(l:Lt):List Lt:=OS l (s.foldl (wG l) ⟨[],[],l.a,l.a+l.n⟩)
def iW(l:List Lt):List Lt:=l.foldl j7 []
structure yE(l:Lt)(p:List Lt)(s:T3):Prop where
 bs:s.OR.Sublist p
 as:s.Rb.Sublist p
 bg:∀x∈s.OR,x.f<l.f\/x.f=l.f/\x.a+x.n<s.fr
 ag:∀x∈s.Rb,l.f<x.f\/x.f=l.f/\s.to<x.a
 fr:s.fr<=l.a
 to:l.a+l.n<=s.to
 un:∀f u,has s.OR f u\/has s.Rb f u\/(l.f=f/\s.fr<=u/\u<s.to)↔has p f u\/lG l f u
theorem NS.sub{l r:List Lt}(h:NS r)(hs:l.Sublist r):NS l:=⟨h.rK.sublist hs,fun x hx=>h.pos x (hs.subset hx)⟩
theorem yE.step{l:Lt}{p:List Lt}{s:T3}{x:Lt}(h:yE l p s)(hl:1<=l.n)(hp:NS (p++[x])):yE l (p++[x]) (wG l s x):=by
 have hx:=hp.pos x (by simp)
 have hg:∀y∈p,Ak y x:=fun y hy=>(List.pairwise_append.1 hp.rK).2.2 y hy x (abN.2 rfl)
 obtain⟨h1,h2,h3,h4,h5,h6,h7⟩:=h
 have wF:∀f u,has [x] f u↔lG x f u:=fun f u=>by rw[bD];exact⟨fun h=>h.resolve_right bE,.inl⟩
 unfold wG
 split
 ·rename_i hc
  refine⟨h1.append_right [x],h2.trans (List.sublist_append_left _ _),fun y hy=>?_,h4,h5,h6,fun f u=>?_⟩
  ·rcases abQ.1 hy with hy|hy
   ·exact h3 y hy
   ·rw[abN]at hy;subst hy;exact hc
  ·show has (s.OR++[x]) f u\/_↔_
   rw[eK,eK,wF]
   have:=h7 f u
   constructor
   ·rintro((h|h)|h|h)
    ·exact(this.1 (.inl h)).imp .inl id
    ·exact .inl (.inr h)
    ·exact(this.1 (.inr (.inl h))).imp .inl id
    ·exact(this.1 (.inr (.inr h))).imp .inl id
   ·rintro((h|h)|h)
    ·rcases this.2 (.inl h)with h|h|h
     ·exact .inl (.inl h)
     ·exact .inr (.inl h)
     ·exact .inr (.inr h)
    ·exact .inl (.inr h)
    ·rcases this.2 (.inr h)with h|h|h
     ·exact .inl (.inl h)
     ·exact .inr (.inl h)
     ·exact .inr (.inr h)
 rename_i tY
 split
 ·rename_i hc
  refine⟨h1.trans (List.sublist_append_left _ _),h2.append_right [x],h3,fun y hy=>?_,h5,h6,fun f u=>?_⟩
  ·rcases abQ.1 hy with hy|hy
   ·exact h4 y hy
   ·rw[abN]at hy;subst hy
    show l.f<y.f\/y.f=l.f/\s.to<y.a
    omega
  ·show has s.OR f u\/has (s.Rb++[x]) f u\/_↔_
   rw[eK,eK,wF]
   have:=h7 f u
   constructor
   ·rintro(h|(h|h)|h)
    ·exact(this.1 (.inl h)).imp .inl id
    ·exact(this.1 (.inr (.inl h))).imp .inl id
    ·exact .inl (.inr h)
    ·exact(this.1 (.inr (.inr h))).imp .inl id
   ·rintro((h|h)|h)
    ·rcases this.2 (.inl h)with h|h|h
     ·exact .inl h
     ·exact .inr (.inl (.inl h))
     ·exact .inr (.inr h)
    ·exact .inr (.inl (.inr h))
    ·rcases this.2 (.inr h)with h|h|h
     ·exact .inl h
     ·exact .inr (.inl (.inl h))
     ·exact .inr (.inr h)
 ·rename_i A3
  have ef:x.f=l.f:=by omega
  refine⟨h1.trans (List.sublist_append_left _ _),h2.trans (List.sublist_append_left _ _),fun y hy=>?_,fun y hy=>?_,?_,?_,fun f u=>?_⟩
  ·have a1:=h3 y hy
   have a2:=hg y (h1.subset hy)
   show y.f<l.f\/y.f=l.f/\y.a+y.n<min s.fr x.a
   unfold Ak at a2
   omega
  ·have a1:=h4 y hy
   have a2:=hg y (h2.subset hy)
   have a3:=hp.pos y (List.mem_append_left _ (h2.subset hy))
   unfold Ak at a2
   omega
  ·show min s.fr x.a<=l.a;omega
  ·show l.a+l.n<=max s.to (x.a+x.n);omega
  ·show has s.OR f u\/has s.Rb f u\/(l.f=f/\min s.fr x.a<=u/\u<max s.to (x.a+x.n))↔_
   rw[eK,wF]
   have:=h7 f u
   constructor
   ·rintro(h|h|h)
    ·exact(this.1 (.inl h)).imp .inl id
    ·exact(this.1 (.inr (.inl h))).imp .inl id
    ·by_cases hu:s.fr<=u/\u<s.to
     ·exact(this.1 (.inr (.inr ⟨h.1,hu⟩))).imp .inl id
     ·exact .inl (.inr ⟨by omega,by omega,by omega⟩)
   ·rintro((h|h)|h)
    ·rcases this.2 (.inl h)with h|h|h
     ·exact .inl h
     ·exact .inr (.inl h)
     ·exact .inr (.inr ⟨h.1,by omega,by omega⟩)
    ·exact .inr (.inr ⟨by rw[<-ef];exact h.1,by have:=h.2.1;omega,by have:=h.2.2;omega⟩)
    ·rcases this.2 (.inr h)with h|h|h
     ·exact .inl h
     ·exact .inr (.inl h)
     ·exact .inr (.inr ⟨h.1,by omega,by omega⟩)
theorem yE.fold{l:Lt}(hl:1<=l.n):∀(r p:List Lt) (s:T3),NS (p++r)->yE l p s->yE l (p++r) (r.foldl (wG l) s)
 |[],p,s,_,h=>by simpa using h
 |x::r,p,s,hn,h=>by
  rw[List.foldl_cons]
  have e:p++x::r=(p++[x])++r:=by simp
  rw[e]at hn⊢
  exact yE.fold hl r (p++[x]) _ hn (h.step hl (hn.sub (List.sublist_append_left _ _)))
theorem J2{s:List Lt}{l:Lt}(hs:NS s)(hl:1<=l.n):NS (j7 s l)/\∀f u,has (j7 s l) f u↔has s f u\/lG l f u:=by
 have h0:yE l [] ⟨[],[],l.a,l.a+l.n⟩:=⟨.slnil,.slnil,fun _ h=>(by cases h),fun _ h=>(by cases h),Int.le_refl _,Int.le_refl _,fun f u=>by
  have a:¬has [] f u:=bE
  exact⟨fun h=>.inr ((h.resolve_left a).resolve_left a),fun h=>.inr (.inr (h.resolve_left a))⟩⟩
 have h:=yE.fold hl s [] _ (by simpa using hs) h0
 simp only[List.nil_append]at h
 unfold j7 OS
 generalize s.foldl (wG l) ⟨[],[],l.a,l.a+l.n⟩=z at h
 obtain⟨h1,h2,h3,h4,h5,h6,h7⟩:=h
 refine⟨⟨?_,fun x hx=>?_⟩,fun f u=>?_⟩
 ·rw[List.pairwise_append,List.pairwise_append]
  refine⟨⟨(hs.sub h1).rK,acg _ _,fun x hx y hy=>?_⟩,(hs.sub h2).rK,fun x hx y hy=>?_⟩
  ·rw[abN]at hy;subst hy;exact h3 x hx
  ·rcases abQ.1 hx with hx|hx
   ·have a1:=h3 x hx
    have a2:=h4 y hy
    unfold Ak
    omega
   ·rw[abN]at hx;subst hx
    have a2:=h4 y hy
    unfold Ak
    simp only
    omega
 ·rcases abQ.1 hx with hx|hx
  ·rcases abQ.1 hx with hx|hx
   ·exact hs.pos x (h1.subset hx)
   ·rw[abN]at hx;subst hx;simp only;omega
  ·exact hs.pos x (h2.subset hx)
 ·rw[eK,eK,or_assoc,<-h7]
  refine or_congr Iff.rfl ?_
  rw[or_comm]
  refine or_congr Iff.rfl ?_
  rw[bD]
  constructor
  ·rintro(h|h)
   ·exact⟨h.1,h.2.1,by have:=h.2.2;simp only at this;omega⟩
   ·exact absurd h bE
  ·rintro h
   exact .inl ⟨h.1,h.2.1,by simp only;omega⟩
theorem Bg:∀(l s:List Lt),NS s->(∀x∈l,1<=x.n)->NS (l.foldl j7 s)/\∀f u,has (l.foldl j7 s) f u↔has s f u\/has l f u
 |[],s,hs,_=>⟨hs,fun f u=>⟨.inl,fun h=>h.resolve_right bE⟩⟩
 |x::l,s,hs,hl=>by
  have h1:=J2 hs (hl x abT)
  have h2:=Bg l (j7 s x) h1.1 fun y hy=>hl y (abP _ hy)
  refine⟨h2.1,fun f u=>?_⟩
  rw[List.foldl_cons,h2.2,h1.2,bD,or_assoc]
theorem w8{l:List Lt}(hl:∀x∈l,1<=x.n):NS (iW l)/\∀f u,has (iW l) f u↔has l f u:=by
 have h:=Bg l [] NS.nil hl
 exact⟨h.1,fun f u=>(h.2 f u).trans ⟨fun h=>h.resolve_left bE,.inr⟩⟩
def pB(s:List Lt)(x:Lt):List Lt:=match s.getLast? with
 |some y=>if y.f=x.f/\x.a<=y.a+y.n then s.dropLast++[⟨y.f,y.a,max y.n (x.a+x.n-y.a)⟩]else s++[x]
 |none=>[x]
def leq(x y:Lt):Prop:=x.f<y.f\/x.f=y.f/\x.a<=y.a
theorem OT{s:List Lt}{x:Lt}(hs:NS s)(hx:1<=x.n)(hl:∀y∈s,leq y x):NS (pB s x)/\(∀f u,has (pB s x) f u↔has s f u\/lG x f u)/\∀z,leq x z->(∀y∈s,leq y z)->∀y∈pB s x,leq y z:=by
 unfold pB
 split
 ·rename_i y hy
  have e:=gR hy
  have hyn:=hs.pos y (List.mem_of_getLast? hy)
  have hyl:=hl y (List.mem_of_getLast? hy)
  split
  ·rename_i hc
   have hg:=hs.rK
   rw[e]at hg
   have Bh:=List.pairwise_append.1 hg
   refine⟨⟨?_,fun z hz=>?_⟩,fun f u=>?_,fun z h1 h2 w hw=>?_⟩
   ·rw[List.pairwise_append]
    refine⟨Bh.1,acg _ _,fun p hp q hq=>?_⟩
    rw[abN]at hq;subst hq
    exact Bh.2.2 p hp y (abN.2 rfl)
   ·rcases abQ.1 hz with hz|hz
    ·exact hs.pos z (List.dropLast_subset _ hz)
    ·rw[abN]at hz;subst hz;simp only;omega
   ·rw[eK]
    conv=>rhs;rw[e,eK]
    rw[or_assoc]
    refine or_congr Iff.rfl ?_
    unfold leq at hyl
    constructor
    ·rintro⟨z,hz,h⟩
     rw[abN]at hz;subst hz
     obtain⟨h1,h2,h3⟩:=h
     simp only at h1 h2 h3
     by_cases hu:u<y.a+y.n
     ·exact .inl ⟨y,abN.2 rfl,h1,h2,hu⟩
     ·exact .inr ⟨by omega,by omega,by omega⟩
    ·rintro(⟨z,hz,h⟩|h)
     ·rw[abN]at hz;subst hz
      exact⟨_,abN.2 rfl,h.1,h.2.1,by have:=h.2.2;simp only;omega⟩
     ·exact⟨_,abN.2 rfl,by rw[hc.1];exact h.1,by have:=h.2.1;simp only;omega,by have:=h.2.2;simp only;omega⟩
   ·rcases abQ.1 hw with hw|hw
    ·exact h2 w (List.dropLast_subset _ hw)
    ·rw[abN]at hw;subst hw
     exact h2 y (List.mem_of_getLast? hy)
  ·rename_i hc
   refine⟨⟨?_,fun z hz=>?_⟩,fun f u=>?_,fun z h1 h2 w hw=>?_⟩
   ·rw[List.pairwise_append]
    refine⟨hs.rK,acg _ _,fun p hp q hq=>?_⟩
    rw[abN]at hq;subst hq
    have hyq:Ak y q:=by unfold Ak;unfold leq at hyl;omega
    rw[e]at hp
    rcases abQ.1 hp with hp|hp
    ·have hg:=hs.rK
     rw[e]at hg
     have:=(List.pairwise_append.1 hg).2.2 p hp y (abN.2 rfl)
     unfold Ak at*
     omega
    ·rw[abN]at hp;subst hp;exact hyq
   ·rcases abQ.1 hz with hz|hz
    ·exact hs.pos z hz
    ·rw[abN]at hz;subst hz;exact hx
   ·rw[eK]
    refine or_congr Iff.rfl ?_
    rw[bD]
    exact⟨fun h=>h.resolve_right bE,.inl⟩
   ·rcases abQ.1 hw with hw|hw
    ·exact h2 w hw
    ·rw[abN]at hw;subst hw;exact h1
 ·rename_i hn
  have:s=[]:=List.getLast?_eq_none_iff.1 hn
  subst this
  refine⟨⟨acg _ _,fun z hz=>?_⟩,fun f u=>?_,fun z h1 _ w hw=>?_⟩
  ·rw[abN]at hz;subst hz;exact hx
  ·rw[bD]
   exact⟨fun h=>.inr (h.resolve_right bE),fun h=>.inl (h.resolve_left bE)⟩
  ·rw[abN]at hw;subst hw;exact h1
theorem Fg:∀(l s:List Lt),NS s->(∀x∈l,1<=x.n)->l.Pairwise leq->(∀x∈l,∀y∈s,leq y x)->NS (l.foldl pB s)/\∀f u,has (l.foldl pB s) f u↔has s f u\/has l f u
 |[],s,hs,_,_,_=>⟨hs,fun f u=>⟨.inl,fun h=>h.resolve_right bE⟩⟩
 |x::l,s,hs,hl,hp,hb=>by
  obtain⟨h1,h2,h3⟩:=OT hs (hl x abT) (hb x abT)
  have XZ:=List.pairwise_cons.1 hp
  have h4:=Fg l (pB s x) h1 (fun y hy=>hl y (abP _ hy)) XZ.2 fun z hz=>h3 z (XZ.1 z hz) (hb z (abP _ hz))
  refine⟨h4.1,fun f u=>?_⟩
  rw[List.foldl_cons,h4.2,h2,bD,or_assoc]
theorem Sc{l d:List Lt}(hl:∀x∈l,1<=x.n)(hp:d.Perm l)(hd:d.Pairwise leq):d.foldl pB []=iW l:=by
 have h1:=Fg d [] NS.nil (fun x hx=>hl x (hp.mem_iff.1 hx)) hd fun _ _ _ h=>by cases h
 have h2:=w8 hl
 refine h1.1.uniq h2.1 fun f u=>?_
 rw[h1.2,h2.2]
 constructor
 ·rintro(h|⟨x,hx,h⟩)
  ·exact absurd h bE
  ·exact⟨x,hp.mem_iff.1 hx,h⟩
 ·rintro⟨x,hx,h⟩
  exact .inr ⟨x,hp.mem_iff.2 hx,h⟩
theorem Sd{l:List Lt}(h:NS l):iW l=l:=(w8 h.pos).1.uniq h (w8 h.pos).2
end
section
def jL(x s:Lt):Bool:=decide (x.f<s.f\/s.f=x.f/\x.a<s.a+s.n)
def DX:Lt->List Lt->List (Lt×Bool)
 |x,[]=>if 0<x.n then[(x,false)]else[]
 |x,s::r=>if 0<x.n/\s.f=x.f/\s.a<x.a+x.n then
  (if 0<max 0 (s.a-x.a)then[(⟨x.f,x.a,max 0 (s.a-x.a)⟩,false)]else[])++
   (⟨x.f,x.a+max 0 (s.a-x.a),min (x.n-max 0 (s.a-x.a)) (s.a+s.n-(x.a+max 0 (s.a-x.a)))⟩,true)::
    DX ⟨x.f,x.a+max 0 (s.a-x.a)+min (x.n-max 0 (s.a-x.a)) (s.a+s.n-(x.a+max 0 (s.a-x.a))),x.n-max 0 (s.a-x.a)-min (x.n-max 0 (s.a-x.a)) (s.a+s.n-(x.a+max 0 (s.a-x.a)))⟩ r
  else if 0<x.n then[(x,false)]else[]
def oE(set:List Lt)(x:Lt):List (Lt×Bool):=DX x (set.dropWhile fun s=>!jL x s)
def Bi(b:Bool)(l:List (Lt×Bool)):List Lt:=(l.filter fun p=>p.2==b).map (·.1)
theorem w9(b:Bool)(l r:List (Lt×Bool)):Bi b (l++r)=Bi b l++Bi b r:=by simp[Bi]
structure T4(x:Lt)(set:List Lt)(l:List (Lt×Bool)):Prop where
 ins:∀f u,has (Bi true l) f u↔lG x f u/\has set f u
 out:∀f u,has (Bi false l) f u↔lG x f u/\¬has set f u
 pos:∀p∈l,1<=p.1.n/\p.1.f=x.f/\x.a<=p.1.a/\p.1.a+p.1.n<=x.a+x.n
 rK:(Bi false l).Pairwise Ak
theorem s0{x:Lt}{f u:Int}:has [x] f u↔lG x f u:=by rw[bD];exact⟨fun h=>h.resolve_right bE,.inl⟩
theorem OU:∀(set:List Lt) (x:Lt),NS set->0<=x.n->(∀s∈set,jL x s=true)->T4 x set (DX x set)
 |[],x,_,hx,_=>by
  unfold DX
  split
  ·rename_i h0
   refine⟨fun f u=>?_,fun f u=>?_,fun p hp=>?_,acg _ _⟩
   ·exact⟨fun h=>absurd h bE,fun h=>absurd h.2 bE⟩
   ·show has [x] f u↔_
    rw[s0]
    exact⟨fun h=>⟨h,bE⟩,fun h=>h.1⟩
   ·rw[abN]at hp;subst hp;exact⟨h0,rfl,Int.le_refl _,Int.le_refl _⟩
  ·rename_i h0
   have cW:∀f u,¬lG x f u:=fun f u h=>by have:=h.2;omega
   exact⟨fun f u=>⟨fun h=>absurd h bE,fun h=>absurd h.1 (cW f u)⟩,fun f u=>⟨fun h=>absurd h bE,fun h=>absurd h.1 (cW f u)⟩,fun p hp=>(by cases hp),.nil⟩
 |s::r,x,hs,hx,hk=>by
  have h1:=hs.head.1
  have h2:=hs.head.2
  have ph:x.f<s.f\/s.f=x.f/\x.a<s.a+s.n:=by simpa[jL]using hk s abT
  unfold DX
  split
  ·rename_i hc
   obtain⟨c1,c2,c3⟩:=hc
   generalize ho:max 0 (s.a-x.a)=o
   generalize hi:min (x.n-o) (s.a+s.n-(x.a+o))=i
   have o0:0<=o:=by omega
   have i1:1<=i:=by omega
   have ih:=OU r ⟨x.f,x.a+o+i,x.n-o-i⟩ hs.tail (by simp only;omega) fun t ht=>by
    have a1:=hk t (abP _ ht)
    have a2:=h2 t ht
    have a3:=hs.tail.pos t ht
    simp only[jL,decide_eq_true_eq]at a1⊢
    unfold Ak at a2
    omega
   generalize DX ⟨x.f,x.a+o+i,x.n-o-i⟩ r=L at ih
   have wA:∀f u,f=x.f->u<x.a+o+i->¬has r f u:=by
    rintro f u rfl hu ⟨t,ht,q⟩
    have a2:=h2 t ht
    obtain⟨q1,q2,q3⟩:=q
    unfold Ak at a2
    omega
   have uE:∀f u,lG ⟨x.f,x.a+o+i,x.n-o-i⟩ f u↔lG x f u/\x.a+o+i<=u:=fun f u=>by
    constructor
    ·rintro⟨q1,q2,q3⟩
     exact⟨⟨q1,by simp only at q2;omega,by simp only at q3;omega⟩,q2⟩
    ·rintro⟨⟨q1,q2,q3⟩,q4⟩
     exact⟨q1,q4,by simp only;omega⟩
   refine⟨fun f u=>?_,fun f u=>?_,fun p hp=>?_,?_⟩
   ·rw[w9]
    have e0:Bi true (if 0<o then[((⟨x.f,x.a,o⟩:Lt),false)]else[])=[]:=by split<;>rfl
    rw[e0,List.nil_append]
    show has (⟨x.f,x.a+o,i⟩::Bi true L) f u↔_
    rw[bD,ih.ins,uE,bD]
    constructor
    ·rintro(h|h)
     ·obtain⟨q1,q2,q3⟩:=h
      simp only at q1 q2 q3
      exact⟨⟨q1,by omega,by omega⟩,.inl ⟨by omega,by omega,by omega⟩⟩
     ·exact⟨h.1.1,.inr h.2⟩
    ·rintro⟨h3,h4|h4⟩
     ·obtain⟨q1,q2,q3⟩:=h3
      obtain⟨q4,q5,q6⟩:=h4
      exact .inl ⟨q1,by simp only;omega,by simp only;omega⟩
     ·by_cases hu:x.a+o+i<=u
      ·exact .inr ⟨⟨h3,hu⟩,h4⟩
      ·exact absurd h4 (wA f u h3.1.symm (by omega))
   ·rw[w9]
    show has (_++Bi false L) f u↔_
    rw[eK,ih.out,uE,bD]
    have e0:has (Bi false (if 0<o then[((⟨x.f,x.a,o⟩:Lt),false)]else[])) f u↔lG ⟨x.f,x.a,o⟩ f u:=by
     split
     ·exact s0
     ·exact⟨fun h=>absurd h bE,fun h=>by have:=h.2;simp only at this;omega⟩
    rw[e0]
    constructor
    ·rintro(h|h)
     ·obtain⟨q1,q2,q3⟩:=h
      simp only at q1 q2 q3
      refine⟨⟨q1,by omega,by omega⟩,?_⟩
      rintro(⟨q4,q5,q6⟩|h)
      ·omega
      ·exact wA f u q1.symm (by omega) h
     ·refine⟨h.1.1,?_⟩
      rintro(⟨q4,q5,q6⟩|h5)
      ·have:=h.1.2;have:=h.1.1.2;omega
      ·exact h.2 h5
    ·rintro⟨h3,h4⟩
     obtain⟨q1,q2,q3⟩:=h3
     by_cases hu:u<x.a+o
     ·exact .inl ⟨q1,q2,hu⟩
     ·refine .inr ⟨⟨⟨q1,q2,q3⟩,?_⟩,fun h=>h4 (.inr h)⟩
      rcases Int.lt_or_le u (x.a+o+i)with au|hle
      ·exact absurd (.inl ⟨by omega,by omega,by omega⟩) h4
      ·exact hle
   ·rcases abQ.1 hp with hp|hp
    ·split at hp
     ·rw[abN]at hp;subst hp;exact⟨by simp only;omega,rfl,Int.le_refl _,by simp only;omega⟩
     ·cases hp
    ·rcases abO.1 hp with rfl|hp
     ·exact⟨i1,rfl,by simp only;omega,by simp only;omega⟩
     ·have:=ih.pos p hp
      simp only at this
      exact⟨this.1,this.2.1,by omega,by omega⟩
   ·rw[w9]
    show List.Pairwise Ak (_++Bi false L)
    rw[List.pairwise_append]
    refine⟨by split;exact acg _ _;exact .nil,ih.rK,fun y hy z hz=>?_⟩
    obtain⟨q,hq,rfl⟩:=ab9.1 hz
    have CO:=ih.pos q (List.mem_filter.1 hq).1
    simp only at CO
    split at hy
    ·have:y=⟨x.f,x.a,o⟩:=by simpa[Bi]using hy
     subst this
     right
     simp only
     omega
    ·cases hy
  ·rename_i hc
   have cW:∀f u,lG x f u->¬has (s::r) f u:=by
    rintro f u ⟨q1,q2,q3⟩ ⟨t,ht,q4,q5,q6⟩
    have hf:x.f<s.f\/s.f=x.f/\x.a+x.n<=s.a:=by omega
    rcases abO.1 ht with rfl|ht
    ·omega
    ·have a2:=h2 t ht
     unfold Ak at a2
     omega
   split
   ·rename_i h0
    refine⟨fun f u=>⟨fun h=>absurd h bE,fun h=>absurd h.2 (cW f u h.1)⟩,fun f u=>?_,fun p hp=>?_,acg _ _⟩
    ·show has [x] f u↔_
     rw[s0]
     exact⟨fun h=>⟨h,cW f u h⟩,fun h=>h.1⟩
    ·rw[abN]at hp;subst hp;exact⟨h0,rfl,Int.le_refl _,Int.le_refl _⟩
   ·have YH:∀f u,¬lG x f u:=fun f u h=>by have:=h.2;omega
    exact⟨fun f u=>⟨fun h=>absurd h bE,fun h=>absurd h.1 (YH f u)⟩,fun f u=>⟨fun h=>absurd h bE,fun h=>absurd h.1 (YH f u)⟩,fun p hp=>(by cases hp),.nil⟩
theorem CP(x:Lt):∀(set:List Lt),NS set->NS (set.dropWhile fun s=>!jL x s)/\(∀s∈set.dropWhile fun s=>!jL x s,jL x s=true)/\∀f u,lG x f u->(has (set.dropWhile fun s=>!jL x s) f u↔has set f u)
 |[],_=>⟨NS.nil,fun _ h=>(by cases h),fun _ _ _=>Iff.rfl⟩
 |s::r,h=>by
  cases hk:jL x s with
  |true=>
   have e:(s::r).dropWhile (fun s=>!jL x s)=s::r:=by simp[hk]
   rw[e]
   refine⟨h,fun t ht=>?_,fun _ _ _=>Iff.rfl⟩
   rcases abO.1 ht with rfl|ht
   ·exact hk
   ·have a2:=h.head.2 t ht
    have a3:=h.tail.pos t ht
    simp only[jL,decide_eq_true_eq]at hk⊢
    unfold Ak at a2
    omega
  |false=>
   have e:(s::r).dropWhile (fun s=>!jL x s)=r.dropWhile fun s=>!jL x s:=by simp[hk]
   rw[e]
   have ih:=CP x r h.tail
   refine⟨ih.1,ih.2.1,fun f u hu=>?_⟩
   rw[ih.2.2 f u hu,bD]
   refine⟨.inr,fun h2=>h2.resolve_left fun h3=>?_⟩
   simp only[jL,ack]at hk
   obtain⟨q1,q2,q3⟩:=h3
   have:=hu.1
   have:=hu.2.1
   omega
theorem s3{set:List Lt}{x:Lt}(hs:NS set)(hx:0<=x.n):T4 x set (oE set x):=by
 obtain⟨h1,h2,h3⟩:=CP x set hs
 have h:=OU _ x h1 hx h2
 refine⟨fun f u=>?_,fun f u=>?_,h.pos,h.rK⟩
 ·exact(h.ins f u).trans (and_congr_right fun hu=>h3 f u hu)
 ·exact(h.out f u).trans (and_congr_right fun hu=>not_congr (h3 f u hu))
def lj(y x:Lt):List Lt:=if x.f≠y.f\/y.a+y.n<=x.a\/x.a+x.n<=y.a then[x]else(if x.a<y.a then[⟨y.f,x.a,y.a-x.a⟩]else[])++(if y.a+y.n<x.a+x.n then[⟨y.f,y.a+y.n,x.a+x.n-y.a-y.n⟩]else[])
def jq(l:List Lt)(y:Lt):List Lt:=l.flatMap (lj y)
def wH(x:Lt)(set:List Lt):List Lt:=set.foldl jq [x]
theorem J3{y x:Lt}(hy:1<=y.n)(hx:1<=x.n):NS (lj y x)/\(∀z∈lj y x,z.f=x.f/\x.a<=z.a/\z.a+z.n<=x.a+x.n)/\∀f u,has (lj y x) f u↔lG x f u/\¬lG y f u:=by
 unfold lj
 split
 ·rename_i hc
  refine⟨⟨acg _ _,fun z hz=>?_⟩,fun z hz=>?_,fun f u=>?_⟩
  ·rw[abN]at hz;subst hz;exact hx
  ·rw[abN]at hz;subst hz;exact⟨rfl,Int.le_refl _,Int.le_refl _⟩
  ·rw[s0]
   refine⟨fun h=>⟨h,fun h2=>?_⟩,fun h=>h.1⟩
   obtain⟨q1,q2,q3⟩:=h
   obtain⟨q4,q5,q6⟩:=h2
   omega
 ·rename_i hc
  have ef:x.f=y.f:=by omega
  have mem:∀z,z∈(if x.a<y.a then[(⟨y.f,x.a,y.a-x.a⟩:Lt)]else[])++(if y.a+y.n<x.a+x.n then[(⟨y.f,y.a+y.n,x.a+x.n-y.a-y.n⟩:Lt)]else[])↔(x.a<y.a/\z=⟨y.f,x.a,y.a-x.a⟩)\/(y.a+y.n<x.a+x.n/\z=⟨y.f,y.a+y.n,x.a+x.n-y.a-y.n⟩):=fun z=>by
   rw[abQ]
   refine or_congr ?_ ?_<;>split<;>rename_i hh<;>simp[hh]
  refine⟨⟨?_,fun z hz=>?_⟩,fun z hz=>?_,fun f u=>?_⟩
  ·rw[List.pairwise_append]
   refine⟨by split;exact acg _ _;exact .nil,by split;exact acg _ _;exact .nil,fun p hp q hq=>?_⟩
   split at hp
   ·split at hq
    ·rw[abN]at hp hq;subst hp;subst hq
     exact .inr ⟨rfl,by show x.a+(y.a-x.a)<y.a+y.n;omega⟩
    ·cases hq
   ·cases hp
  ·rcases(mem z).1 hz with⟨h1,rfl⟩|⟨h1,rfl⟩<;>simp only<;>omega
  ·rcases(mem z).1 hz with⟨h1,rfl⟩|⟨h1,rfl⟩<;>simp only<;>omega
  ·constructor
   ·rintro⟨z,hz,q1,q2,q3⟩
    rcases(mem z).1 hz with⟨h1,rfl⟩|⟨h1,rfl⟩
    ·simp only at q1 q2 q3
     exact⟨⟨by omega,by omega,by omega⟩,fun h=>by have:=h.2;omega⟩
    ·simp only at q1 q2 q3
     exact⟨⟨by omega,by omega,by omega⟩,fun h=>by have:=h.2;omega⟩
   ·rintro⟨⟨q1,q2,q3⟩,h⟩
    by_cases hu:u<y.a
    ·exact⟨_,(mem _).2 (.inl ⟨by omega,rfl⟩),by simp only;omega,q2,by simp only;omega⟩
    ·by_cases XH:u<y.a+y.n
     ·exact absurd ⟨by omega,by omega,XH⟩ h
     ·exact⟨_,(mem _).2 (.inr ⟨by omega,rfl⟩),by simp only;omega,by simp only;omega,by simp only;omega⟩
theorem CQ{y:Lt}(hy:1<=y.n):∀{l:List Lt},NS l->NS (jq l y)/\(∀z∈jq l y,∃x∈l,z.f=x.f/\x.a<=z.a/\z.a+z.n<=x.a+x.n)/\∀f u,has (jq l y) f u↔has l f u/\¬lG y f u
 |[],_=>⟨NS.nil,fun _ h=>(by cases h),fun f u=>⟨fun h=>absurd h bE,fun h=>absurd h.1 bE⟩⟩
 |x::l,h=>by
  obtain⟨a1,a2,a3⟩:=J3 hy h.head.1
  obtain⟨b1,b2,b3⟩:=CQ hy h.tail
  have e:jq (x::l) y=lj y x++jq l y:=rfl
  rw[e]
  refine⟨⟨?_,fun z hz=>?_⟩,fun z hz=>?_,fun f u=>?_⟩
  ·rw[List.pairwise_append]
   refine⟨a1.rK,b1.rK,fun p hp q hq=>?_⟩
   have c1:=a2 p hp
   obtain⟨t,ht,c2⟩:=b2 q hq
   have c3:=h.head.2 t ht
   unfold Ak at*
   omega
  ·rcases abQ.1 hz with hz|hz
   ·exact a1.pos z hz
   ·exact b1.pos z hz
  ·rcases abQ.1 hz with hz|hz
   ·exact⟨x,abT,a2 z hz⟩
   ·obtain⟨t,ht,c⟩:=b2 z hz
    exact⟨t,abP _ ht,c⟩
  ·rw[eK,a3,b3,bD,or_and_right]
theorem Bj:∀(set l:List Lt),NS l->(∀y∈set,1<=y.n)->NS (set.foldl jq l)/\∀f u,has (set.foldl jq l) f u↔has l f u/\¬has set f u
 |[],l,h,_=>⟨h,fun f u=>⟨fun h=>⟨h,bE⟩,fun h=>h.1⟩⟩
 |y::set,l,h,hp=>by
  obtain⟨a1,_,a3⟩:=CQ (hp y abT) h
  obtain⟨b1,b2⟩:=Bj set (jq l y) a1 fun z hz=>hp z (abP _ hz)
  refine⟨b1,fun f u=>?_⟩
  rw[List.foldl_cons,b2,a3,bD,not_or,and_assoc]
theorem CR{x:Lt}(hx:1<=x.n){set:List Lt}(hs:∀y∈set,1<=y.n):NS (wH x set)/\∀f u,has (wH x set) f u↔lG x f u/\¬has set f u:=by
 have h:=Bj set [x] ⟨acg _ _,fun z hz=>by rw[abN]at hz;subst hz;exact hx⟩ hs
 exact⟨h.1,fun f u=>by rw[<-s0];exact h.2 f u⟩
def gi(p:List Lt×List Lt)(q:Lt×Bool):List Lt×List Lt:=bif q.2 then(bj p.1 q.1,p.2)else(p.1,bj p.2 q.1)
def Al(l set:List Lt):List Lt×List Lt:=(l.flatMap (oE set)).foldl gi ([],[])
theorem CS:∀(l:List (Lt×Bool)) (p:List Lt×List Lt),l.foldl gi p=((Bi true l).foldl bj p.1,(Bi false l).foldl bj p.2)
 |[],p=>rfl
 |(x,true)::l,p=>by rw[List.foldl_cons,CS l];rfl
 |(x,false)::l,p=>by rw[List.foldl_cons,CS l];rfl
def OV(l P:List Lt):List Lt:=(l.flatMap fun x=>wH x P).foldl bj []
theorem Fh(b:Bool)(g:Lt->List (Lt×Bool)):∀l:List Lt,Bi b (l.flatMap g)=l.flatMap fun x=>Bi b (g x)
 |[]=>rfl
 |x::l=>by rw[List.flatMap_cons,w9,Fh b g l,List.flatMap_cons]
theorem CT:∀(l r:List Lt),(∀x∈l,1<=x.n)->(∀x∈r,1<=x.n)->(∀x∈l.foldl bj r,1<=x.n)/\∀f u,has (l.foldl bj r) f u↔has r f u\/has l f u
 |[],r,_,hr=>⟨hr,fun f u=>⟨.inl,fun h=>h.resolve_right bE⟩⟩
 |x::l,r,hl,hr=>by
  have hx:=hl x abT
  have h1:=CT l (bj r x) (fun y hy=>hl y (abP _ hy)) (Fe hr (by omega))
  refine⟨h1.1,fun f u=>?_⟩
  rw[List.foldl_cons,h1.2,OQ (fun y hy=>by have:=hr y hy;omega) (by omega),bD,or_assoc]
theorem s5{g:Lt->List Lt}{f u:Int}:∀{l:List Lt},has (l.flatMap g) f u↔∃x∈l,has (g x) f u
 |[]=>⟨fun h=>absurd h bE,fun⟨_,h,_⟩=>by cases h⟩
 |x::l=>by rw[List.flatMap_cons,eK,s5 (l:=l)];simp
theorem VM{l P:List Lt}(hl:∀x∈l,1<=x.n)(hP:∀y∈P,1<=y.n):(∀x∈OV l P,1<=x.n)/\∀f u,has (OV l P) f u↔has l f u/\¬has P f u:=by
 have h:=CT (l.flatMap fun x=>wH x P) [] (fun y hy=>by
  obtain⟨x,hx,hy⟩:=List.mem_flatMap.1 hy
  exact(CR (hl x hx) hP).1.pos y hy) fun _ h=>by cases h
 refine⟨h.1,fun f u=>?_⟩
 show has (List.foldl bj [] _) f u↔_
 rw[h.2,s5]
 constructor
 ·rintro(h|⟨x,hx,h⟩)
  ·exact absurd h bE
  ·have:=((CR (hl x hx) hP).2 f u).1 h
   exact⟨⟨x,hx,this.1⟩,this.2⟩
 ·rintro⟨⟨x,hx,h1⟩,h2⟩
  exact .inr ⟨x,hx,((CR (hl x hx) hP).2 f u).2 ⟨h1,h2⟩⟩
theorem Fi{l:List Lt}(hl:∀x∈l,1<=x.n)(h:∀f u,¬has l f u):l=[]:=by
 cases l with
 |nil=>rfl
 |cons x l=>exact absurd (bD.2 (.inl ⟨rfl,Int.le_refl _,by have:=hl x abT;omega⟩)) (h x.f x.a)
theorem Se{a b:List Lt}(ha:∀x∈a,1<=x.n)(hb:∀y∈b,1<=y.n):OV (iW a) b=[]↔∀f u,has a f u->has b f u:=by
 have h1:=w8 ha
 have h2:=VM h1.1.pos hb
 constructor
 ·intro h f u hu
  refine Classical.byContradiction fun hn=>?_
  have:=(h2.2 f u).2 ⟨(h1.2 f u).2 hu,hn⟩
  rw[h]at this
  exact bE this
 ·intro h
  exact Fi h2.1 fun f u hu=>((h2.2 f u).1 hu).2 (h f u ((h1.2 f u).1 ((h2.2 f u).1 hu).1))
theorem Sf{a set:List Lt}(ha:∀x∈a,1<=x.n)(hs:NS set):(Al a set).1=[]↔∀f u,has a f u->¬has set f u:=by
 unfold Al
 rw[CS]
 show(Bi true (a.flatMap (oE set))).foldl bj []=[]↔_
 rw[Fh]
 have h:=CT (a.flatMap fun x=>Bi true (oE set x)) [] (fun y hy=>by
  obtain⟨x,hx,hy⟩:=List.mem_flatMap.1 hy
  obtain⟨q,hq,rfl⟩:=ab9.1 hy
  exact((s3 hs (by have:=ha x hx;omega)).pos q (List.mem_filter.1 hq).1).1) fun _ h=>by cases h
 constructor
 ·rintro h0 f u ⟨x,hx,hu⟩ hn
  have h0:List.foldl bj [] (a.flatMap fun x=>Bi true (oE set x))=[]:=h0
  have:=(h.2 f u).2 (.inr (s5.2 ⟨x,hx,((s3 hs (by have:=ha x hx;omega)).ins f u).2 ⟨hu,hn⟩⟩))
  rw[h0]at this
  exact bE this
 ·intro h0
  refine Fi h.1 fun f u hu=>?_
  rcases(h.2 f u).1 hu with h4|h4
  ·exact bE h4
  ·obtain⟨x,hx,h5⟩:=s5.1 h4
   have h6:=((s3 hs (by have:=ha x hx;omega)).ins f u).1 h5
   exact h0 f u ⟨x,hx,h6.1⟩ h6.2
end
section
def fe(rs:List Int)(i j:Nat):Bool:=decide (rs.getD j 0<rs.getD i 0\/rs.getD i 0=rs.getD j 0/\i<j)
def OW(rs:List Int)(i:Nat):Nat:=(List.range rs.length).countP fun j=>fe rs j i
theorem Sg{rs:List Int}{i j:Nat}(h:i≠j):fe rs i j=true\/fe rs j i=true:=by
 simp only[fe,decide_eq_true_eq];omega
theorem Sh{rs:List Int}{i j:Nat}(h:fe rs i j=true):fe rs j i=false:=by
 simp only[fe,decide_eq_true_eq,ack]at *; omega
theorem VN{rs:List Int}{i j k:Nat}(h:fe rs i j=true)(h2:fe rs j k=true):fe rs i k=true:=by
 simp only[fe,decide_eq_true_eq]at *; omega
structure Ord(rs:List Int)(o:List Nat):Prop where
 perm:o.Perm (List.range rs.length)
 srt:o.Pairwise fun i j=>fe rs i j=true
theorem Ord.nodup{rs:List Int}{o:List Nat}(h:Ord rs o):o.Nodup:=h.perm.nodup_iff.2 List.nodup_range
theorem Ord.len{rs:List Int}{o:List Nat}(h:Ord rs o):o.length=rs.length:=by rw[h.perm.length_eq,List.length_range]
theorem HW(rs:List Int):∃o,Ord rs o:=by
 let le:Nat->Nat->Bool:=fun i j=>fe rs i j||i==j
 refine⟨(List.range rs.length).mergeSort le,List.mergeSort_perm _ _,?_⟩
 have h1:((List.range rs.length).mergeSort le).Pairwise fun a b=>le a b=true:=List.pairwise_mergeSort (fun a b c h h2=>by
  simp only[le,Bool.or_eq_true,beq_iff_eq]at*
  rcases h with h|rfl
  ·rcases h2 with h2|rfl
   ·exact .inl (VN h h2)
   ·exact .inl h
  ·exact h2) (fun a b=>by
  simp only[le,Bool.or_eq_true,beq_iff_eq]
  by_cases e:a=b
  ·exact .inl (.inr e)
  ·rcases Sg (rs:=rs) e with h|h
   ·exact .inl (.inl h)
   ·exact .inr (.inl h)) _
 have h2:((List.range rs.length).mergeSort le).Nodup:=(List.mergeSort_perm _ _).nodup_iff.2 List.nodup_range
 refine(List.Pairwise.and h1 h2).imp fun h=>?_
 simp only[le,Bool.or_eq_true,beq_iff_eq]at h
 exact h.1.resolve_right h.2
theorem Ord.Lr{rs:List Int}{o:List Nat}(h:Ord rs o){k i:Nat}(hk:o[k]?=some i):OW rs i=k:=by
 unfold OW
 rw[<-h.perm.countP_eq]
 have e:o=o.take k++i::o.drop (k+1):=by
  have hl:=(abI.1 hk).1
  conv=>lhs;rw[<-List.take_append_drop k o,List.drop_eq_getElem_cons hl]
  rw[(abI.1 hk).2]
 have hs:=h.srt
 rw[e,List.pairwise_append]at hs
 obtain⟨h1,h2,h3⟩:=hs
 have h4:=List.pairwise_cons.1 h2
 rw[e,List.countP_append,List.countP_cons]
 have c1:(o.take k).countP (fun j=>fe rs j i)=k:=by
  rw[List.countP_eq_length.2 fun j hj=>h3 j hj i abT,ab2]
  have hl:=(abI.1 hk).1
  omega
 have c2:(o.drop (k+1)).countP (fun j=>fe rs j i)=0:=List.countP_eq_zero.2 fun j hj=>by rw[Sh (h4.1 j hj)];simp
 have c3:fe rs i i=false:=by simp[fe]
 rw[c1,c2,c3];rfl
theorem Ord.mem{rs:List Int}{o:List Nat}(h:Ord rs o){m i:Nat}(hi:i<rs.length):i∈o.take m↔OW rs i<m:=by
 obtain⟨k,hk⟩:=ab3 (h.perm.mem_iff.2 (aca.2 hi))
 rw[h.Lr hk]
 constructor
 ·intro hm
  obtain⟨q,hq⟩:=ab3 hm
  have hqm:q<m:=by have:=(abI.1 hq).1;rw[ab2]at this;omega
  rw[List.getElem?_take_of_lt hqm]at hq
  have hl:=(abI.1 hq).1
  have:=(List.getElem?_inj hl h.nodup).1 (hq.trans hk.symm)
  omega
 ·intro hm
  exact abK ((List.getElem?_take_of_lt hm).trans hk)
def kp(l:List Int)(i:Nat):List Int:=l.set i (l.getD i 0+1)
def plus(rs qs:List Int)(m:Nat):List Int:=(List.range rs.length).map fun i=>qs.getD i 0+bif decide (OW rs i<m)then 1 else 0
theorem xa(l:List Int)(i:Nat):(kp l i).length=l.length:=List.length_set ..
theorem Si(l:List Int)(i j:Nat)(hi:i<l.length):(kp l i).getD j 0=l.getD j 0+if i=j then 1 else 0:=by
 unfold kp
 rw[abM,List.getElem?_set]
 split
 ·rename_i e;subst e
  simp[hi]
 ·rename_i e
  rw[<-abM];omega
theorem yF:∀(o:List Nat) (l:List Int),o.Nodup->(∀i∈o,i<l.length)->(o.foldl kp l).length=l.length/\∀j,(o.foldl kp l).getD j 0=l.getD j 0+if j∈o then 1 else 0
 |[],l,_,_=>⟨rfl,fun j=>by simp⟩
 |i::o,l,hn,hl=>by
  have En:=List.nodup_cons.1 hn
  have ih:=yF o (kp l i) En.2 fun k hk=>by rw[xa];exact hl k (abP _ hk)
  rw[List.foldl_cons]
  refine⟨by rw[ih.1,xa],fun j=>?_⟩
  rw[ih.2,Si _ _ _ (hl i abT)]
  by_cases e:i=j
  ·subst e
   rw[if_pos rfl,if_neg En.1,if_pos abT];omega
  ·rw[if_neg e]
   have:j∈i::o↔j∈o:=by simp[Ne.symm e]
   simp only[this];omega
theorem OX{a b:List Int}(hl:a.length=b.length)(h:∀j,j<a.length->a.getD j 0=b.getD j 0):a=b:=by
 refine List.ext_getElem hl fun i h1 h2=>?_
 have:=h i h1
 rwa[abM,abM,aaj h1,aaj h2]at this
theorem Fj(rs qs:List Int)(m:Nat):(plus rs qs m).length=rs.length:=by simp[plus]
theorem yG{rs qs:List Int}{m j:Nat}(h:j<rs.length):(plus rs qs m).getD j 0=qs.getD j 0+if OW rs j<m then 1 else 0:=by
 unfold plus
 rw[abM,abJ,List.getElem?_range h]
 simp only[Option.map_some,Option.getD_some]
 by_cases hc:OW rs j<m
 ·rw[if_pos hc,ab4 hc];rfl
 ·rw[if_neg hc,ab5 hc];rfl
theorem yH{rs qs:List Int}{o:List Nat}(h:Ord rs o)(hl:qs.length=rs.length)(m:Nat):(o.take m).foldl kp qs=plus rs qs m:=by
 have hn:(o.take m).Nodup:=h.nodup.sublist (List.take_sublist _ _)
 have hm:∀i∈o.take m,i<qs.length:=fun i hi=>by
  have:=h.perm.mem_iff.1 (List.mem_of_mem_take hi)
  rw[hl];exact aca.1 this
 obtain⟨h1,h2⟩:=yF _ qs hn hm
 refine OX (by rw[h1,Fj,hl]) fun j hj=>?_
 have hj:j<rs.length:=by rw[h1,hl]at hj;exact hj
 rw[h2,yG hj]
 simp only[h.mem hj]
def Am(rs:List Int)(b i:Nat):Nat:=if rs.getD b 0<rs.getD i 0 then i else b
def yI(rs:List Int):Nat:=(List.range' 1 (rs.length-1)).foldl (Am rs) 0
def onR(p:List Int×List Int):List Int×List Int:=(kp p.1 (yI p.2),p.2.set (yI p.2) (-1))
def An(p:List Int×List Int):Nat->List Int×List Int
 |0=>p
 |k+1=>onR (An p k)
theorem yJ(rs:List Int):∀(n s b:Nat),b<s->(∀j,j<s->fe rs j b=false)->((List.range' s n).foldl (Am rs) b)<s+n/\∀j,j<s+n->fe rs j ((List.range' s n).foldl (Am rs) b)=false
 |0,s,b,hb,h=>⟨by simpa using hb,by simpa using h⟩
 |n+1,s,b,hb,h=>by
  rw[List.range'_succ,List.foldl_cons]
  have:=yJ rs n (s+1) (Am rs b s) (by unfold Am;split<;>omega) fun j hj=>by
   unfold Am
   have Bk:=h b hb
   split
   ·rename_i hc
    by_cases e:j=s
    ·subst e;simp[fe]
    ·have:=h j (by omega)
     simp only[fe,ack]at*
     omega
   ·rename_i hc
    by_cases e:j=s
    ·subst e
     simp only[fe,ack];omega
    ·exact h j (by omega)
  rw[show s+(n+1)=s+1+n by omega]
  exact this
theorem VO{rs:List Int}(h:0<rs.length):yI rs<rs.length/\∀j,j<rs.length->fe rs j (yI rs)=false:=by
 have:=yJ rs (rs.length-1) 1 0 (by omega) fun j hj=>by
  have:j=0:=by omega
  subst this;simp[fe]
 rw[show 1+(rs.length-1)=rs.length by omega]at this
 exact this
theorem OY{rs qs:List Int}{o:List Nat}(h:Ord rs o)(hp:∀r∈rs,0<=r)(hl:qs.length=rs.length):∀k,k<=rs.length->(An (qs,rs) k).1=(o.take k).foldl kp qs/\(An (qs,rs) k).2.length=rs.length/\∀j,j<rs.length->(An (qs,rs) k).2.getD j 0=if j∈o.take k then -1 else rs.getD j 0
 |0,_=>⟨rfl,rfl,fun j _=>by simp[An]⟩
 |k+1,hk=>by
  obtain⟨h1,h2,h3⟩:=OY h hp hl k (by omega)
  have mj:k<o.length:=by rw[h.len];omega
  have cr:o[k]?=some o[k]:=aaj mj
  have ht:o.take (k+1)=o.take k++[o[k]]:=by rw[abR,cr];rfl
  have HX:o[k]<rs.length:=aca.1 (h.perm.mem_iff.1 (acf mj))
  have hrk:=h.Lr cr
  have dq:∀j,j<rs.length->0<=rs.getD j 0:=fun j hj=>by
   rw[abM,aaj hj];exact hp _ (acf hj)
  have hb:yI (An (qs,rs) k).2=o[k]:=by
   obtain⟨b1,b2⟩:=VO (rs:=(An (qs,rs) k).2) (by omega)
   rw[h2]at b1 b2
   have b3:=b2 o[k] HX
   generalize yI (An (qs,rs) k).2=b at b1 b3
   have g1:=h3 b b1
   have g2:=h3 o[k] HX
   have cW:o[k]∉o.take k:=fun hm=>by have:=(h.mem HX).1 hm;omega
   rw[if_neg cW]at g2
   have p1:=dq o[k] HX
   refine Classical.byContradiction fun b7=>?_
   by_cases hbm:b∈o.take k
   ·rw[if_pos hbm]at g1
    simp only[fe,ack]at b3
    omega
   ·rw[if_neg hbm]at g1
    have Xi:k<OW rs b:=by
     have h5:¬OW rs b<k:=fun h6=>hbm ((h.mem b1).2 h6)
     rcases Nat.lt_or_eq_of_le (Nat.le_of_not_lt h5)with h6|h6
     ·exact h6
     ·obtain⟨q,hq⟩:=ab3 (h.perm.mem_iff.2 (aca.2 b1))
      have CO:=h.Lr hq
      have:q=k:=by omega
      subst this
      rw[cr]at hq
      injection hq with hq
      exact absurd hq.symm b7
    obtain⟨q,hq⟩:=ab3 (h.perm.mem_iff.2 (aca.2 b1))
    have CO:=h.Lr hq
    have Hg:=(abI.1 hq).1
    have hbt:=List.pairwise_iff_getElem.1 h.srt k q mj Hg (by omega)
    rw[(abI.1 hq).2]at hbt
    simp only[fe,ack,decide_eq_true_eq]at b3 hbt
    omega
  have eo:An (qs,rs) (k+1)=(kp (An (qs,rs) k).1 o[k],(An (qs,rs) k).2.set o[k] (-1)):=by show onR _=_;unfold onR;rw[hb]
  rw[eo]
  refine⟨by rw[ht,ab7,<-h1];rfl,(List.length_set ..).trans h2,fun j hj=>?_⟩
  show((An (qs,rs) k).2.set o[k] (-1)).getD j 0=_
  by_cases e:o[k]=j
  ·subst e
   rw[abM,List.getElem?_set_self (by omega),if_pos (by rw[ht];exact abQ.2 (.inr (abN.2 rfl)))];rfl
  ·rw[abM,List.getElem?_set_ne e,<-abM,h3 j hj]
   have:j∈o.take (k+1)↔j∈o.take k:=by rw[ht,abQ,abN];exact⟨fun h=>h.resolve_right fun h=>e h.symm,.inl⟩
   simp only[this]
theorem OZ{rs qs:List Int}(hp:∀r∈rs,0<=r)(hl:qs.length=rs.length){k:Nat}(hk:k<=rs.length):(An (qs,rs) k).1=plus rs qs k:=by
 obtain⟨o,h⟩:=HW rs
 rw[(OY h hp hl k hk).1,yH h hl]
def qL(t s:Int)(ws:List Int):List Int:=ws.map fun w=>t*w/s
def rL(t s:Int)(ws:List Int):List Int:=ws.map fun w=>t*w%s
def fV(t s:Int)(ws:List Int):Int:=t-(qL t s ws).sum
def zR(t:Int)(ws:List Int):List Int:=plus (rL t ws.sum ws) (qL t ws.sum ws) (fV t ws.sum ws).toNat
theorem O0(t s:Int):∀ws:List Int,s*(qL t s ws).sum+(rL t s ws).sum=t*ws.sum
 |[]=>by simp[qL,rL]
 |w::ws=>by
  have ih:=O0 t s ws
  have:=Int.mul_ediv_add_emod (t*w) s
  simp only[qL,rL,List.map_cons,List.sum_cons]at*
  rw[Int.mul_add,Int.mul_add];omega
theorem VP{t s:Int}(hs:0<s){ws:List Int}:∀r∈rL t s ws,0<=r/\r<s:=fun r hr=>by
 obtain⟨w,_,rfl⟩:=ab9.1 hr
 exact⟨Int.emod_nonneg _ (by omega),Int.emod_lt_of_pos _ hs⟩
theorem yK:∀{l:List Int},(∀x∈l,0<=x)->0<=l.sum
 |[],_=>by simp
 |x::l,h=>by
  have:=h x abT
  have:=yK fun y hy=>h y (abP x hy)
  simp only[List.sum_cons];omega
theorem yL{s:Int}(hs:0<s):∀{l:List Int},(∀x∈l,0<=x/\x<s)->l.sum<=s*(l.countP (fun x=>decide (0<x)):Nat)/\(0<l.sum->l.sum<s*(l.countP (fun x=>decide (0<x)):Nat))
 |[],_=>by simp
 |x::l,h=>by
  have hx:=h x abT
  have ih:=yL hs fun y hy=>h y (abP x hy)
  simp only[List.sum_cons,List.countP_cons]
  by_cases hp:0<x
  ·rw[ab4 hp]
   simp only[if_true]
   have:s*((l.countP (fun x=>decide (0<x))+1:Nat):Int)=s*(l.countP (fun x=>decide (0<x)):Nat)+s:=by rw[Int.natCast_add,Int.mul_add];simp
   rw[this]
   omega
  ·rw[ab5 hp]
   simp only[Bool.false_eq_true,if_false,Nat.add_zero]
   have:x=0:=by omega
   subst this
   simpa using ih
theorem xb{t:Int}{ws:List Int}(hs:0<ws.sum):0<=fV t ws.sum ws/\fV t ws.sum ws<=((rL t ws.sum ws).countP fun x=>decide (0<x):Nat)/\(0<fV t ws.sum ws->fV t ws.sum ws<((rL t ws.sum ws).countP fun x=>decide (0<x):Nat)):=by
 have h1:=O0 t ws.sum ws
 have h2:=VP (t:=t) hs (ws:=ws)
 have h3:=yK fun x hx=>(h2 x hx).1
 have h4:=yL hs h2
 have e:(rL t ws.sum ws).sum=ws.sum*fV t ws.sum ws:=by unfold fV;rw[Int.mul_sub,Int.mul_comm ws.sum t];omega
 generalize fV t ws.sum ws=L at*
 generalize ((rL t ws.sum ws).countP fun x=>decide (0<x))=C at*
 rw[e]at h3 h4
 refine⟨?_,?_,fun hL=>?_⟩
 ·exact Classical.byContradiction fun hn=>by
   have:=Int.mul_neg_of_pos_of_neg hs (show L<0 by omega);omega
 ·exact Int.le_of_mul_le_mul_left h4.1 hs
 ·exact Int.lt_of_mul_lt_mul_left (h4.2 (Int.mul_pos hs hL)) (by omega)
theorem J4(t:Int)(ws:List Int):(zR t ws).length=ws.length:=by simp[zR,Fj,rL]
theorem Sj{rs:List Int}(hp:∀r∈rs,0<=r){i:Nat}(hi:i<rs.length)(h:OW rs i<rs.countP fun x=>decide (0<x)):0<rs.getD i 0:=by
 refine Classical.byContradiction fun hn=>?_
 have h0:rs.getD i 0<=0:=by omega
 have:rs.countP (fun x=>decide (0<x))<=OW rs i:=by
  unfold OW
  have e:rs=(List.range rs.length).map fun j=>rs.getD j 0:=by
   refine List.ext_getElem (by simp) fun j h1 h2=>?_
   simp[abM,h1]
  conv=>lhs;rw[e,List.countP_map]
  refine List.countP_mono_left fun j _ hj=>?_
  simp only[Function.comp,decide_eq_true_eq]at hj
  simp only[fe,decide_eq_true_eq]
  omega
 omega
theorem T5{t:Int}{ws:List Int}(ht:0<=t)(hw:∀w∈ws,0<=w)(hs:0<ws.sum)(GK:t<=ws.sum){i:Nat}(hi:i<ws.length):0<=(zR t ws).getD i 0/\(zR t ws).getD i 0<=ws.getD i 0:=by
 unfold zR
 have hr:i<(rL t ws.sum ws).length:=by simpa[rL]using hi
 rw[yG hr]
 have YI:=hw _ (acf hi)
 have eq:(qL t ws.sum ws).getD i 0=t*ws[i]/ws.sum:=by simp[qL,abM,hi]
 have er:(rL t ws.sum ws).getD i 0=t*ws[i]%ws.sum:=by simp[rL,abM,hi]
 have ew:ws.getD i 0=ws[i]:=by simp[abM,hi]
 rw[eq,ew]
 have YJ:0<=t*ws[i]/ws.sum:=Int.ediv_nonneg (Int.mul_nonneg ht YI) (by omega)
 have hm:=Int.mul_ediv_add_emod (t*ws[i]) ws.sum
 have hle:t*ws[i]<=ws.sum*ws[i]:=Int.mul_le_mul_of_nonneg_right GK YI
 have Xi:=VP (t:=t) hs (ws:=ws)
 split
 ·rename_i hc
  obtain⟨l1,l2,l3⟩:=xb (t:=t) hs
  have dq:0<fV t ws.sum ws:=by omega
  have hrp:=Sj (fun r hr=>(Xi r hr).1) hr (by have:=l3 dq;omega)
  rw[er]at hrp
  refine⟨by omega,?_⟩
  have:ws.sum*(t*ws[i]/ws.sum)<ws.sum*ws[i]:=by omega
  have:=Int.lt_of_mul_lt_mul_left this (by omega)
  omega
 ·refine⟨by omega,?_⟩
  have h0:=Int.emod_nonneg (t*ws[i]) (show ws.sum≠0 by omega)
  have:ws.sum*(t*ws[i]/ws.sum)<=ws.sum*ws[i]:=by omega
  have:=Int.le_of_mul_le_mul_left this hs
  omega
end
section
open Go.TM
section
variable {κ β:Type} [DecidableEq κ]
def aR:List (κ×β)->κ->Option β
 |[],_=>none
 |(k',v)::r,k=>if k'=k then some v else aR r k
def aS:List (κ×β)->κ->β->List (κ×β)
 |[],k,x=>[(k,x)]
 |(k',v)::r,k,x=>if k'=k then(k,x)::r else(k',v)::aS r k x
def s6:List (κ×β)->κ->List (κ×β)
 |[],_=>[]
 |(k',v)::r,k=>if k'=k then r else(k',v)::s6 r k
def Nk(m:List (κ×β)):Prop:=(m.map (·.1)).Nodup
theorem lk(m:List (κ×β))(k k':κ)(x:β):aR (aS m k x) k'=if k=k' then some x else aR m k':=by
 induction m with
 |nil=>simp[aS,aR]
 |cons p r ih=>
  obtain⟨q,v⟩:=p
  simp only[aS]
  by_cases h:q=k
  ·rw[if_pos h]
   subst h
   simp only[aR]
   by_cases h2:q=k'
   ·rw[if_pos h2,if_pos h2]
   ·rw[if_neg h2,if_neg h2,if_neg h2]
  ·rw[if_neg h]
   simp only[aR,ih]
   by_cases h2:q=k'
   ·rw[if_pos h2,if_pos h2,if_neg (by rintro rfl;exact h h2)]
   ·rw[if_neg h2,if_neg h2]
theorem mO{m:List (κ×β)}{k:κ}{x:β}(h:aR m k=some x):(k,x)∈m:=by
 induction m with
 |nil=>cases h
 |cons p r ih=>
  obtain⟨q,v⟩:=p
  simp only[aR]at h
  by_cases h2:q=k
  ·rw[if_pos h2]at h;injection h with h;subst h;subst h2;exact abT
  ·rw[if_neg h2]at h;exact abP _ (ih h)
theorem mP{m:List (κ×β)}{k:κ}(h:k∉m.map (·.1)):aR m k=none:=by
 cases hg:aR m k with
 |none=>rfl
 |some x=>exact absurd (ab9.2 ⟨_,mO hg,rfl⟩) h
theorem O1{m:List (κ×β)}{k:κ}:aR m k=none↔k∉m.map (·.1):=by
 refine⟨fun h hm=>?_,mP⟩
 induction m with
 |nil=>cases hm
 |cons p r ih=>
  obtain⟨q,v⟩:=p
  simp only[aR]at h
  by_cases h2:q=k
  ·rw[if_pos h2]at h;cases h
  ·rw[if_neg h2]at h
   rcases abO.1 hm with e|hm
   ·exact h2 e.symm
   ·exact ih h hm
theorem CU{m:List (κ×β)}{k:κ}{x:β}(hn:Nk m)(h:(k,x)∈m):aR m k=some x:=by
 induction m with
 |nil=>cases h
 |cons p r ih=>
  obtain⟨q,v⟩:=p
  have En:=List.nodup_cons.1 hn
  simp only[aR]
  rcases abO.1 h with e|h
  ·injection e with e1 e2;subst e1;subst e2;exact if_pos rfl
  ·rw[if_neg,ih En.2 h]
   rintro rfl
   exact En.1 (ab9.2 ⟨_,h,rfl⟩)
theorem uU(m:List (κ×β))(k:κ)(x:β):(aS m k x).map (·.1)=if k∈m.map (·.1)then m.map (·.1)else m.map (·.1)++[k]:=by
 induction m with
 |nil=>simp[aS]
 |cons p r ih=>
  obtain⟨q,v⟩:=p
  simp only[aS,List.map_cons,abO]
  by_cases h:q=k
  ·subst h;simp
  ·rw[if_neg h,List.map_cons,ih]
   have:k≠q:=fun e=>h e.symm
   by_cases h2:k∈r.map (·.1)
   ·rw[if_pos h2,if_pos (.inr h2)]
   ·rw[if_neg h2,if_neg (by simp[this,h2])];rfl
theorem Nk.put{m:List (κ×β)}(h:Nk m)(k:κ)(x:β):Nk (aS m k x):=by
 unfold Nk
 rw[uU]
 split
 ·exact h
 ·rename_i h2
  rw[List.nodup_append]
  refine⟨h,by simp,fun a ha b hb=>?_⟩
  rw[abN]at hb;subst hb
  rintro rfl;exact h2 ha
theorem O2(m:List (κ×β))(k:κ):(s6 m k).Sublist m:=by
 induction m with
 |nil=>exact .slnil
 |cons p r ih=>
  obtain⟨q,v⟩:=p
  simp only[s6]
  split
  ·exact List.sublist_cons_self _ _
  ·exact ih.cons_cons _
theorem Nk.del{m:List (κ×β)}(h:Nk m)(k:κ):Nk (s6 m k):=h.sublist ((O2 m k).map _)
theorem Fk{m:List (κ×β)}(h:Nk m)(k k':κ):aR (s6 m k) k'=if k=k' then none else aR m k':=by
 induction m with
 |nil=>simp[s6,aR]
 |cons p r ih=>
  obtain⟨q,v⟩:=p
  have En:=List.nodup_cons.1 h
  simp only[s6]
  by_cases h1:q=k
  ·subst h1
   rw[if_pos rfl]
   by_cases h2:q=k'
   ·subst h2
    rw[if_pos rfl];exact mP En.1
   ·rw[if_neg h2];simp only[aR];rw[if_neg h2]
  ·rw[if_neg h1]
   simp only[aR,ih En.2]
   by_cases h2:q=k'
   ·rw[if_pos h2,if_pos h2,if_neg (by rintro rfl;exact h1 h2)]
   ·rw[if_neg h2,if_neg h2]
theorem Nk.perm{m m':List (κ×β)}(h:Nk m)(p:m.Perm m'):Nk m':=(p.map _).nodup_iff.1 h
theorem Bl{m m':List (κ×β)}(h:Nk m)(p:m.Perm m')(k:κ):aR m k=aR m' k:=by
 cases hg:aR m k with
 |some x=>exact(CU (h.perm p) (p.mem_iff.1 (mO hg))).symm
 |none=>
  have:=O1.1 hg
  exact(mP fun hm=>this ((p.map _).mem_iff.2 hm)).symm
def eM(ek:κ->DV)(ev:β->DV)(m:List (κ×β)):List DV:=m.map fun p=>.fE (ek p.1) (ev p.2)
variable {ek:κ->DV} {ev:β->DV} (hk:∀a b,tQ (ek a) (ek b)=decide (a=b))
include hk
theorem iL(m:List (κ×β))(k:κ):bY (eM ek ev m) (ek k)=(aR m k).map ev:=by
 induction m with
 |nil=>rfl
 |cons p r ih=>
  obtain⟨q,v⟩:=p
  show(bif tQ (ek q) (ek k)then some (ev v)else bY (eM ek ev r) (ek k))=_
  rw[hk,ih]
  simp only[aR]
  by_cases h:q=k
  ·rw[ab4 h,if_pos h];rfl
  ·rw[ab5 h,if_neg h];rfl
theorem dE(m:List (κ×β))(k:κ)(x:β):c7 (eM ek ev m) (ek k) (ev x)=eM ek ev (aS m k x):=by
 induction m with
 |nil=>rfl
 |cons p r ih=>
  obtain⟨q,v⟩:=p
  show(bif tQ (ek q) (ek k)then DV.fE (ek k) (ev x)::eM ek ev r else .fE (ek q) (ev v)::c7 (eM ek ev r) (ek k) (ev x))=_
  rw[hk,ih]
  simp only[aS]
  by_cases h:q=k
  ·rw[ab4 h,if_pos h];rfl
  ·rw[ab5 h,if_neg h];rfl
theorem Sk(m:List (κ×β))(k:κ):gS (eM ek ev m) (ek k)=eM ek ev (s6 m k):=by
 induction m with
 |nil=>rfl
 |cons p r ih=>
  obtain⟨q,v⟩:=p
  show(bif tQ (ek q) (ek k)then eM ek ev r else .fE (ek q) (ev v)::gS (eM ek ev r) (ek k))=_
  rw[hk,ih]
  simp only[s6]
  by_cases h:q=k
  ·rw[ab4 h,if_pos h];rfl
  ·rw[ab5 h,if_neg h];rfl
end
end
end Go.Proofs.YtknnpcfhekkjjaaGreatDoor
