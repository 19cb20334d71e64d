import Derived.Test.YtmojfblpbcficaaGreatDoorCM17
set_option linter.all false
namespace Go.Proofs.YtmojfblpbcficaaGreatDoor
section
structure Lt where
 f:Int
 a:Int
 n:Int
theorem Lt.ext'{x y:Lt}(h1:x.f=y.f)(h2:x.a=y.a)(h3:x.n=y.n):x=y:=by cases x;cases y;simp_all
def dZ(x:Lt)(f u:Int):Prop:=x.f=f/\x.a<=u/\u<x.a+x.n
def has(l:List Lt)(f u:Int):Prop:=∃x∈l,dZ x f u
theorem br{f u:Int}:¬has [] f u:=fun⟨_,h,_⟩=>by cases h
theorem bj{x:Lt}{l:List Lt}{f u:Int}:has (x::l) f u↔dZ x f u\/has l f u:=by
 constructor
 ·rintro⟨y,hy,h⟩
  rcases acp.1 hy with rfl|hy
  ·exact .inl h
  ·exact .inr ⟨y,hy,h⟩
 ·rintro(h|⟨y,hy,h⟩)
  ·exact⟨x,acv,h⟩
  ·exact⟨y,acq _ hy,h⟩
theorem dw{l r:List Lt}{f u:Int}:has (l++r) f u↔has l f u\/has r f u:=by
 induction l with
 |nil=>simp[br]
 |cons x l ih=>rw[List.cons_append,bj,bj,ih,or_assoc]
def zO(x y:Lt):Prop:=x.f<y.f\/x.f=y.f/\x.a+x.n<y.a
structure NS(l:List Lt):Prop where
 pD:l.Pairwise zO
 pos:∀x∈l,1<=x.n
theorem NS.nil:NS []:=⟨.nil,fun _ h=>by cases h⟩
theorem NS.tail{x:Lt}{l:List Lt}(h:NS (x::l)):NS l:=⟨(List.pairwise_cons.1 h.pD).2,fun y hy=>h.pos y (acq _ hy)⟩
theorem NS.head{x:Lt}{l:List Lt}(h:NS (x::l)):1<=x.n/\∀y∈l,zO x y:=⟨h.pos x acv,(List.pairwise_cons.1 h.pD).1⟩
theorem NS.first{x:Lt}{l:List Lt}(h:NS (x::l)){f u:Int}(hu:has (x::l) f u):x.f<f\/x.f=f/\x.a<=u:=by
 rcases bj.1 hu with h1|⟨y,hy,h1⟩
 ·exact .inr ⟨h1.1,h1.2.1⟩
 ·have:=h.head.2 y hy
  have:=h.head.1
  obtain⟨h2,h3,h4⟩:=h1
  unfold zO at*
  omega
theorem NS.uniq:∀{l r:List Lt},NS l->NS r->(∀f u,has l f u↔has r f u)->l=r
 |[],[],_,_,_=>rfl
 |[],y::r,_,hr,h=>absurd ((h y.f y.a).2 (bj.2 (.inl ⟨rfl,Int.le_refl _,by have:=hr.head.1;omega⟩))) br
 |x::l,[],hl,_,h=>absurd ((h x.f x.a).1 (bj.2 (.inl ⟨rfl,Int.le_refl _,by have:=hl.head.1;omega⟩))) br
 |x::l,y::r,hl,hr,h=>by
  have px:=hl.head.1
  have py:=hr.head.1
  have h1:=hr.first ((h x.f x.a).1 (bj.2 (.inl ⟨rfl,Int.le_refl _,by omega⟩)))
  have h2:=hl.first ((h y.f y.a).2 (bj.2 (.inl ⟨rfl,Int.le_refl _,by omega⟩)))
  have ef:x.f=y.f:=by omega
  have ea:x.a=y.a:=by omega
  have key:∀{p q:Lt} {l r:List Lt},NS (p::l)->NS (q::r)->(∀f u,has (p::l) f u->has (q::r) f u)->p.f=q.f->p.a=q.a->p.n<=q.n:=by
   intro p q l r hp hq hh e1 e2
   rcases Int.lt_or_le q.n p.n with aw|hle
   ·exfalso
    have p1:=hp.head.1
    have q1:=hq.head.1
    rcases bj.1 (hh p.f (q.a+q.n) (bj.2 (.inl ⟨rfl,by omega,by omega⟩)))with h3|⟨z,hz,h3⟩
    ·have:=h3.2.2;omega
    ·have:=hq.head.2 z hz
     obtain⟨h4,h5,h6⟩:=h3
     unfold zO at this
     omega
   ·exact hle
  have en:x.n=y.n:=Int.le_antisymm (key hl hr (fun f u=>(h f u).1) ef ea) (key hr hl (fun f u=>(h f u).2) ef.symm ea.symm)
  have exy:=Lt.ext' ef ea en
  subst exy
  congr 1
  refine NS.uniq hl.tail hr.tail fun f u=>?_
  have dis:∀{s:List Lt},NS (x::s)->has s f u->¬dZ x f u:=by
   rintro s hs ⟨z,hz,h4⟩ h5
   have:=hs.head.2 z hz
   obtain⟨a1,a2,a3⟩:=h4
   obtain⟨b1,b2,b3⟩:=h5
   unfold zO at this
   omega
  constructor
  ·intro h3
   rcases bj.1 ((h f u).1 (bj.2 (.inr h3)))with h4|h4
   ·exact absurd h4 (dis hl h3)
   ·exact h4
  ·intro h3
   rcases bj.1 ((h f u).2 (bj.2 (.inr h3)))with h4|h4
   ·exact absurd h4 (dis hr h3)
   ·exact h4
def cz(l:List Lt):Int:=(l.map (·.n)).sum
def aR(l:List Lt)(x:Lt):List Lt:=
 if x.n=0 then l else match l.getLast? with
  |some y=>if y.f=x.f/\y.a+y.n=x.a then l.dropLast++[⟨y.f,y.a,y.n+x.n⟩]else l++[x]
  |none=>[x]
theorem fR{l:List Lt}{y:Lt}(h:l.getLast?=some y):l=l.dropLast++[y]:=by
 rcases List.eq_nil_or_concat l with rfl|⟨r,z,rfl⟩
 ·cases h
 ·rw[List.concat_eq_append]at h⊢
  simp at h
  subst h
  simp
theorem yq{l:List Lt}{x:Lt}(hl:∀y∈l,0<=y.n)(hx:0<=x.n){f u:Int}:has (aR l x) f u↔has l f u\/dZ x f u:=by
 unfold aR
 split
 ·rename_i h0
  constructor
  ·exact .inl
  ·rintro(h|h)
   ·exact h
   ·have:=h.2;omega
 split
 ·rename_i y hy
  have e:=fR hy
  have hyn:=hl y (List.mem_of_getLast? hy)
  split
  ·rename_i hc
   rw[dw]
   conv=>rhs;rw[e,dw]
   rw[or_assoc]
   refine or_congr Iff.rfl ?_
   constructor
   ·rintro⟨z,hz,h⟩
    rw[aco]at hz;subst hz
    obtain⟨h1,h2,h3⟩:=h
    simp only at h1 h2 h3
    by_cases hu:u<y.a+y.n
    ·exact .inl ⟨y,aco.2 rfl,h1,h2,hu⟩
    ·exact .inr ⟨by omega,by omega,by omega⟩
   ·rintro(⟨z,hz,h⟩|h)
    ·rw[aco]at hz;subst hz
     exact⟨_,aco.2 rfl,h.1,h.2.1,by have:=h.2.2;simp only;omega⟩
    ·exact⟨_,aco.2 rfl,by rw[hc.1];exact h.1,by have:=h.2.1;simp only;omega,by have:=h.2.2;simp only;omega⟩
  ·rw[dw]
   refine or_congr Iff.rfl ?_
   rw[bj]
   exact⟨fun h=>h.resolve_right br,.inl⟩
 ·rename_i hn
  have:l=[]:=List.getLast?_eq_none_iff.1 hn
  subst this
  rw[bj]
  exact⟨fun h=>.inr (h.resolve_right br),fun h=>.inl (h.resolve_left br)⟩
theorem Fh{l:List Lt}{x:Lt}(hl:∀y∈l,1<=y.n)(hx:0<=x.n):∀y∈aR l x,1<=y.n:=by
 unfold aR
 split
 ·exact hl
 rename_i h0
 split
 ·rename_i y hy
  have hyn:=hl y (List.mem_of_getLast? hy)
  intro z hz
  split at hz
  ·rcases acr.1 hz with h|h
   ·exact hl z (List.dropLast_subset _ h)
   ·rw[aco]at h;subst h;simp only;omega
  ·rcases acr.1 hz with h|h
   ·exact hl z h
   ·rw[aco]at h;subst h;omega
 ·intro z hz
  rw[aco]at hz;subst hz;omega
theorem iN(l r:List Lt):cz (l++r)=cz l+cz r:=by simp[cz]
theorem yt(l:List Lt)(x:Lt):cz (aR l x)=cz l+x.n:=by
 unfold aR
 split
 ·rename_i h;omega
 split
 ·rename_i y hy
  have e:=fR hy
  split
  ·rw[iN]
   conv=>rhs;rw[e,iN]
   simp[cz];omega
  ·rw[iN];simp[cz]
 ·rename_i hn
  have:l=[]:=List.getLast?_eq_none_iff.1 hn
  subst this;simp[cz]
theorem eT(l:List Lt)(x:Lt):(aR l x).length<=l.length+1:=by
 unfold aR
 split
 ·omega
 split
 ·rename_i y hy
  have e:=congrArg List.length (fR hy)
  split<;>simp at e⊢<;>omega
 ·simp
end
section
structure UJ where
 O3:List Lt
 RI:List Lt
 fr:Int
 to:Int
def wv(l:Lt)(s:UJ)(x:Lt):UJ:=
 if x.f<l.f\/x.f=l.f/\x.a+x.n<s.fr then { s with O3:=s.O3++[x] }
 else if l.f<x.f\/s.to<x.a then { s with RI:=s.RI++[x] }
 else { s with fr:=min s.fr x.a,to:=max s.to (x.a+x.n) }
def O4(l:Lt)(s:UJ):List Lt:=s.O3++[⟨l.f,s.fr,s.to-s.fr⟩]++s.RI
def j9(s:List Lt)(l:Lt):List Lt:=O4 l (s.foldl (wv l) ⟨[],[],l.a,l.a+l.n⟩)
def cL(l:List Lt):List Lt:=l.foldl j9 []
structure yu(l:Lt)(p:List Lt)(s:UJ):Prop where
 bs:s.O3.Sublist p
 as:s.RI.Sublist p
 bg:∀x∈s.O3,x.f<l.f\/x.f=l.f/\x.a+x.n<s.fr
 ag:∀x∈s.RI,l.f<x.f\/x.f=l.f/\s.to<x.a
 fr:s.fr<=l.a
 to:l.a+l.n<=s.to
 un:∀f u,has s.O3 f u\/has s.RI f u\/(l.f=f/\s.fr<=u/\u<s.to)↔has p f u\/dZ l f u
theorem NS.sub{l r:List Lt}(h:NS r)(hs:l.Sublist r):NS l:=⟨h.pD.sublist hs,fun x hx=>h.pos x (hs.subset hx)⟩
theorem yu.step{l:Lt}{p:List Lt}{s:UJ}{x:Lt}(h:yu l p s)(hl:1<=l.n)(hp:NS (p++[x])):yu l (p++[x]) (wv l s x):=by
 have hx:=hp.pos x (by simp)
 have hg:∀y∈p,zO y x:=fun y hy=>(List.pairwise_append.1 hp.pD).2.2 y hy x (aco.2 rfl)
 obtain⟨h1,h2,h3,h4,h5,h6,h7⟩:=h
 have wu:∀f u,has [x] f u↔dZ x f u:=fun f u=>by rw[bj];exact⟨fun h=>h.resolve_right br,.inl⟩
 unfold wv
 split
 ·rename_i hc
  refine⟨h1.append_right [x],h2.trans (List.sublist_append_left _ _),fun y hy=>?_,h4,h5,h6,fun f u=>?_⟩
  ·rcases acr.1 hy with hy|hy
   ·exact h3 y hy
   ·rw[aco]at hy;subst hy;exact hc
  ·show has (s.O3++[x]) f u\/_↔_
   rw[dw,dw,wu]
   have:=h7 f u
   constructor
   ·rintro((h|h)|h|h)
    ·exact(this.1 (.inl h)).imp .inl id
    ·exact .inl (.inr h)
    ·exact(this.1 (.inr (.inl h))).imp .inl id
    ·exact(this.1 (.inr (.inr h))).imp .inl id
   ·rintro((h|h)|h)
    ·rcases this.2 (.inl h)with h|h|h
     ·exact .inl (.inl h)
     ·exact .inr (.inl h)
     ·exact .inr (.inr h)
    ·exact .inl (.inr h)
    ·rcases this.2 (.inr h)with h|h|h
     ·exact .inl (.inl h)
     ·exact .inr (.inl h)
     ·exact .inr (.inr h)
 rename_i tJ
 split
 ·rename_i hc
  refine⟨h1.trans (List.sublist_append_left _ _),h2.append_right [x],h3,fun y hy=>?_,h5,h6,fun f u=>?_⟩
  ·rcases acr.1 hy with hy|hy
   ·exact h4 y hy
   ·rw[aco]at hy;subst hy
    show l.f<y.f\/y.f=l.f/\s.to<y.a
    omega
  ·show has s.O3 f u\/has (s.RI++[x]) f u\/_↔_
   rw[dw,dw,wu]
   have:=h7 f u
   constructor
   ·rintro(h|(h|h)|h)
    ·exact(this.1 (.inl h)).imp .inl id
    ·exact(this.1 (.inr (.inl h))).imp .inl id
    ·exact .inl (.inr h)
    ·exact(this.1 (.inr (.inr h))).imp .inl id
   ·rintro((h|h)|h)
    ·rcases this.2 (.inl h)with h|h|h
     ·exact .inl h
     ·exact .inr (.inl (.inl h))
     ·exact .inr (.inr h)
    ·exact .inr (.inl (.inr h))
    ·rcases this.2 (.inr h)with h|h|h
     ·exact .inl h
     ·exact .inr (.inl (.inl h))
     ·exact .inr (.inr h)
 ·rename_i ya
  have ef:x.f=l.f:=by omega
  refine⟨h1.trans (List.sublist_append_left _ _),h2.trans (List.sublist_append_left _ _),fun y hy=>?_,fun y hy=>?_,?_,?_,fun f u=>?_⟩
  ·have a1:=h3 y hy
   have a2:=hg y (h1.subset hy)
   show y.f<l.f\/y.f=l.f/\y.a+y.n<min s.fr x.a
   unfold zO at a2
   omega
  ·have a1:=h4 y hy
   have a2:=hg y (h2.subset hy)
   have a3:=hp.pos y (List.mem_append_left _ (h2.subset hy))
   unfold zO at a2
   omega
  ·show min s.fr x.a<=l.a;omega
  ·show l.a+l.n<=max s.to (x.a+x.n);omega
  ·show has s.O3 f u\/has s.RI f u\/(l.f=f/\min s.fr x.a<=u/\u<max s.to (x.a+x.n))↔_
   rw[dw,wu]
   have:=h7 f u
   constructor
   ·rintro(h|h|h)
    ·exact(this.1 (.inl h)).imp .inl id
    ·exact(this.1 (.inr (.inl h))).imp .inl id
    ·by_cases hu:s.fr<=u/\u<s.to
     ·exact(this.1 (.inr (.inr ⟨h.1,hu⟩))).imp .inl id
     ·exact .inl (.inr ⟨by omega,by omega,by omega⟩)
   ·rintro((h|h)|h)
    ·rcases this.2 (.inl h)with h|h|h
     ·exact .inl h
     ·exact .inr (.inl h)
     ·exact .inr (.inr ⟨h.1,by omega,by omega⟩)
    ·exact .inr (.inr ⟨by rw[<-ef];exact h.1,by have:=h.2.1;omega,by have:=h.2.2;omega⟩)
    ·rcases this.2 (.inr h)with h|h|h
     ·exact .inl h
     ·exact .inr (.inl h)
     ·exact .inr (.inr ⟨h.1,by omega,by omega⟩)
theorem yu.fold{l:Lt}(hl:1<=l.n):∀(r p:List Lt) (s:UJ),NS (p++r)->yu l p s->yu l (p++r) (r.foldl (wv l) s)
 |[],p,s,_,h=>by simpa using h
 |x::r,p,s,hn,h=>by
  rw[List.foldl_cons]
  have e:p++x::r=(p++[x])++r:=by simp
  rw[e]at hn⊢
  exact yu.fold hl r (p++[x]) _ hn (h.step hl (hn.sub (List.sublist_append_left _ _)))
theorem Kd{s:List Lt}{l:Lt}(hs:NS s)(hl:1<=l.n):NS (j9 s l)/\∀f u,has (j9 s l) f u↔has s f u\/dZ l f u:=by
 have h0:yu l [] ⟨[],[],l.a,l.a+l.n⟩:=⟨.slnil,.slnil,fun _ h=>(by cases h),fun _ h=>(by cases h),Int.le_refl _,Int.le_refl _,fun f u=>by
  have a:¬has [] f u:=br
  exact⟨fun h=>.inr ((h.resolve_left a).resolve_left a),fun h=>.inr (.inr (h.resolve_left a))⟩⟩
 have h:=yu.fold hl s [] _ (by simpa using hs) h0
 simp only[List.nil_append]at h
 unfold j9 O4
 generalize s.foldl (wv l) ⟨[],[],l.a,l.a+l.n⟩=z at h
 obtain⟨h1,h2,h3,h4,h5,h6,h7⟩:=h
 refine⟨⟨?_,fun x hx=>?_⟩,fun f u=>?_⟩
 ·rw[List.pairwise_append,List.pairwise_append]
  refine⟨⟨(hs.sub h1).pD,acR _ _,fun x hx y hy=>?_⟩,(hs.sub h2).pD,fun x hx y hy=>?_⟩
  ·rw[aco]at hy;subst hy;exact h3 x hx
  ·rcases acr.1 hx with hx|hx
   ·have a1:=h3 x hx
    have a2:=h4 y hy
    unfold zO
    omega
   ·rw[aco]at hx;subst hx
    have a2:=h4 y hy
    unfold zO
    simp only
    omega
 ·rcases acr.1 hx with hx|hx
  ·rcases acr.1 hx with hx|hx
   ·exact hs.pos x (h1.subset hx)
   ·rw[aco]at hx;subst hx;simp only;omega
  ·exact hs.pos x (h2.subset hx)
 ·rw[dw,dw,or_assoc,<-h7]
  refine or_congr Iff.rfl ?_
  rw[or_comm]
  refine or_congr Iff.rfl ?_
  rw[bj]
  constructor
  ·rintro(h|h)
   ·exact⟨h.1,h.2.1,by have:=h.2.2;simp only at this;omega⟩
   ·exact absurd h br
  ·rintro h
   exact .inl ⟨h.1,h.2.1,by simp only;omega⟩
theorem Bc:∀(l s:List Lt),NS s->(∀x∈l,1<=x.n)->NS (l.foldl j9 s)/\∀f u,has (l.foldl j9 s) f u↔has s f u\/has l f u
 |[],s,hs,_=>⟨hs,fun f u=>⟨.inl,fun h=>h.resolve_right br⟩⟩
 |x::l,s,hs,hl=>by
  have h1:=Kd hs (hl x acv)
  have h2:=Bc l (j9 s x) h1.1 fun y hy=>hl y (acq _ hy)
  refine⟨h2.1,fun f u=>?_⟩
  rw[List.foldl_cons,h2.2,h1.2,bj,or_assoc]
theorem gj{l:List Lt}(hl:∀x∈l,1<=x.n):NS (cL l)/\∀f u,has (cL l) f u↔has l f u:=by
 have h:=Bc l [] NS.nil hl
 exact⟨h.1,fun f u=>(h.2 f u).trans ⟨fun h=>h.resolve_left br,.inr⟩⟩
def pE(s:List Lt)(x:Lt):List Lt:=match s.getLast? with
 |some y=>if y.f=x.f/\x.a<=y.a+y.n then s.dropLast++[⟨y.f,y.a,max y.n (x.a+x.n-y.a)⟩]else s++[x]
 |none=>[x]
def leq(x y:Lt):Prop:=x.f<y.f\/x.f=y.f/\x.a<=y.a
theorem O5{s:List Lt}{x:Lt}(hs:NS s)(hx:1<=x.n)(hl:∀y∈s,leq y x):NS (pE s x)/\(∀f u,has (pE s x) f u↔has s f u\/dZ x f u)/\∀z,leq x z->(∀y∈s,leq y z)->∀y∈pE s x,leq y z:=by
 unfold pE
 split
 ·rename_i y hy
  have e:=fR hy
  have hyn:=hs.pos y (List.mem_of_getLast? hy)
  have RJ:=hl y (List.mem_of_getLast? hy)
  split
  ·rename_i hc
   have hg:=hs.pD
   rw[e]at hg
   have D3:=List.pairwise_append.1 hg
   refine⟨⟨?_,fun z hz=>?_⟩,fun f u=>?_,fun z h1 h2 w hw=>?_⟩
   ·rw[List.pairwise_append]
    refine⟨D3.1,acR _ _,fun p hp q hq=>?_⟩
    rw[aco]at hq;subst hq
    exact D3.2.2 p hp y (aco.2 rfl)
   ·rcases acr.1 hz with hz|hz
    ·exact hs.pos z (List.dropLast_subset _ hz)
    ·rw[aco]at hz;subst hz;simp only;omega
   ·rw[dw]
    conv=>rhs;rw[e,dw]
    rw[or_assoc]
    refine or_congr Iff.rfl ?_
    unfold leq at RJ
    constructor
    ·rintro⟨z,hz,h⟩
     rw[aco]at hz;subst hz
     obtain⟨h1,h2,h3⟩:=h
     simp only at h1 h2 h3
     by_cases hu:u<y.a+y.n
     ·exact .inl ⟨y,aco.2 rfl,h1,h2,hu⟩
     ·exact .inr ⟨by omega,by omega,by omega⟩
    ·rintro(⟨z,hz,h⟩|h)
     ·rw[aco]at hz;subst hz
      exact⟨_,aco.2 rfl,h.1,h.2.1,by have:=h.2.2;simp only;omega⟩
     ·exact⟨_,aco.2 rfl,by rw[hc.1];exact h.1,by have:=h.2.1;simp only;omega,by have:=h.2.2;simp only;omega⟩
   ·rcases acr.1 hw with hw|hw
    ·exact h2 w (List.dropLast_subset _ hw)
    ·rw[aco]at hw;subst hw
     exact h2 y (List.mem_of_getLast? hy)
  ·rename_i hc
   refine⟨⟨?_,fun z hz=>?_⟩,fun f u=>?_,fun z h1 h2 w hw=>?_⟩
   ·rw[List.pairwise_append]
    refine⟨hs.pD,acR _ _,fun p hp q hq=>?_⟩
    rw[aco]at hq;subst hq
    have hyq:zO y q:=by unfold zO;unfold leq at RJ;omega
    rw[e]at hp
    rcases acr.1 hp with hp|hp
    ·have hg:=hs.pD
     rw[e]at hg
     have:=(List.pairwise_append.1 hg).2.2 p hp y (aco.2 rfl)
     unfold zO at*
     omega
    ·rw[aco]at hp;subst hp;exact hyq
   ·rcases acr.1 hz with hz|hz
    ·exact hs.pos z hz
    ·rw[aco]at hz;subst hz;exact hx
   ·rw[dw]
    refine or_congr Iff.rfl ?_
    rw[bj]
    exact⟨fun h=>h.resolve_right br,.inl⟩
   ·rcases acr.1 hw with hw|hw
    ·exact h2 w hw
    ·rw[aco]at hw;subst hw;exact h1
 ·rename_i hn
  have:s=[]:=List.getLast?_eq_none_iff.1 hn
  subst this
  refine⟨⟨acR _ _,fun z hz=>?_⟩,fun f u=>?_,fun z h1 _ w hw=>?_⟩
  ·rw[aco]at hz;subst hz;exact hx
  ·rw[bj]
   exact⟨fun h=>.inr (h.resolve_right br),fun h=>.inl (h.resolve_left br)⟩
  ·rw[aco]at hw;subst hw;exact h1
theorem Fi:∀(l s:List Lt),NS s->(∀x∈l,1<=x.n)->l.Pairwise leq->(∀x∈l,∀y∈s,leq y x)->NS (l.foldl pE s)/\∀f u,has (l.foldl pE s) f u↔has s f u\/has l f u
 |[],s,hs,_,_,_=>⟨hs,fun f u=>⟨.inl,fun h=>h.resolve_right br⟩⟩
 |x::l,s,hs,hl,hp,hb=>by
  obtain⟨h1,h2,h3⟩:=O5 hs (hl x acv) (hb x acv)
  have YH:=List.pairwise_cons.1 hp
  have h4:=Fi l (pE s x) h1 (fun y hy=>hl y (acq _ hy)) YH.2 fun z hz=>h3 z (YH.1 z hz) (hb z (acq _ hz))
  refine⟨h4.1,fun f u=>?_⟩
  rw[List.foldl_cons,h4.2,h2,bj,or_assoc]
theorem SD{l d:List Lt}(hl:∀x∈l,1<=x.n)(hp:d.Perm l)(hd:d.Pairwise leq):d.foldl pE []=cL l:=by
 have h1:=Fi d [] NS.nil (fun x hx=>hl x (hp.mem_iff.1 hx)) hd fun _ _ _ h=>by cases h
 have h2:=gj hl
 refine h1.1.uniq h2.1 fun f u=>?_
 rw[h1.2,h2.2]
 constructor
 ·rintro(h|⟨x,hx,h⟩)
  ·exact absurd h br
  ·exact⟨x,hp.mem_iff.1 hx,h⟩
 ·rintro⟨x,hx,h⟩
  exact .inr ⟨x,hp.mem_iff.2 hx,h⟩
theorem Ke{l:List Lt}(h:NS l):cL l=l:=(gj h.pos).1.uniq h (gj h.pos).2
end
section
def jP(x s:Lt):Bool:=decide (x.f<s.f\/s.f=x.f/\x.a<s.a+s.n)
def zP:Lt->List Lt->List (Lt×Bool)
 |x,[]=>if 0<x.n then[(x,false)]else[]
 |x,s::r=>if 0<x.n/\s.f=x.f/\s.a<x.a+x.n then
  (if 0<max 0 (s.a-x.a)then[(⟨x.f,x.a,max 0 (s.a-x.a)⟩,false)]else[])++
   (⟨x.f,x.a+max 0 (s.a-x.a),min (x.n-max 0 (s.a-x.a)) (s.a+s.n-(x.a+max 0 (s.a-x.a)))⟩,true)::
    zP ⟨x.f,x.a+max 0 (s.a-x.a)+min (x.n-max 0 (s.a-x.a)) (s.a+s.n-(x.a+max 0 (s.a-x.a))),x.n-max 0 (s.a-x.a)-min (x.n-max 0 (s.a-x.a)) (s.a+s.n-(x.a+max 0 (s.a-x.a)))⟩ r
  else if 0<x.n then[(x,false)]else[]
def ja(set:List Lt)(x:Lt):List (Lt×Bool):=zP x (set.dropWhile fun s=>!jP x s)
def wx(b:Bool)(l:List (Lt×Bool)):List Lt:=(l.filter fun p=>p.2==b).map (·.1)
theorem wU(b:Bool)(l r:List (Lt×Bool)):wx b (l++r)=wx b l++wx b r:=by simp[wx]
structure UL(x:Lt)(set:List Lt)(l:List (Lt×Bool)):Prop where
 ins:∀f u,has (wx true l) f u↔dZ x f u/\has set f u
 out:∀f u,has (wx false l) f u↔dZ x f u/\¬has set f u
 pos:∀p∈l,1<=p.1.n/\p.1.f=x.f/\x.a<=p.1.a/\p.1.a+p.1.n<=x.a+x.n
 pD:(wx false l).Pairwise zO
theorem dC{x:Lt}{f u:Int}:has [x] f u↔dZ x f u:=by rw[bj];exact⟨fun h=>h.resolve_right br,.inl⟩
theorem O6:∀(set:List Lt) (x:Lt),NS set->0<=x.n->(∀s∈set,jP x s=true)->UL x set (zP x set)
 |[],x,_,hx,_=>by
  unfold zP
  split
  ·rename_i h0
   refine⟨fun f u=>?_,fun f u=>?_,fun p hp=>?_,acR _ _⟩
   ·exact⟨fun h=>absurd h br,fun h=>absurd h.2 br⟩
   ·show has [x] f u↔_
    rw[dC]
    exact⟨fun h=>⟨h,br⟩,fun h=>h.1⟩
   ·rw[aco]at hp;subst hp;exact⟨h0,rfl,Int.le_refl _,Int.le_refl _⟩
  ·rename_i h0
   have dR:∀f u,¬dZ x f u:=fun f u h=>by have:=h.2;omega
   exact⟨fun f u=>⟨fun h=>absurd h br,fun h=>absurd h.1 (dR f u)⟩,fun f u=>⟨fun h=>absurd h br,fun h=>absurd h.1 (dR f u)⟩,fun p hp=>(by cases hp),.nil⟩
 |s::r,x,hs,hx,hk=>by
  have h1:=hs.head.1
  have h2:=hs.head.2
  have qk:x.f<s.f\/s.f=x.f/\x.a<s.a+s.n:=by simpa[jP]using hk s acv
  unfold zP
  split
  ·rename_i hc
   obtain⟨c1,c2,c3⟩:=hc
   generalize ho:max 0 (s.a-x.a)=o
   generalize hi:min (x.n-o) (s.a+s.n-(x.a+o))=i
   have o0:0<=o:=by omega
   have i1:1<=i:=by omega
   have ih:=O6 r ⟨x.f,x.a+o+i,x.n-o-i⟩ hs.tail (by simp only;omega) fun t ht=>by
    have a1:=hk t (acq _ ht)
    have a2:=h2 t ht
    have a3:=hs.tail.pos t ht
    simp only[jP,decide_eq_true_eq]at a1⊢
    unfold zO at a2
    omega
   generalize zP ⟨x.f,x.a+o+i,x.n-o-i⟩ r=L at ih
   have yi:∀f u,f=x.f->u<x.a+o+i->¬has r f u:=by
    rintro f u rfl hu ⟨t,ht,q⟩
    have a2:=h2 t ht
    obtain⟨q1,q2,q3⟩:=q
    unfold zO at a2
    omega
   have RE:∀f u,dZ ⟨x.f,x.a+o+i,x.n-o-i⟩ f u↔dZ x f u/\x.a+o+i<=u:=fun f u=>by
    constructor
    ·rintro⟨q1,q2,q3⟩
     exact⟨⟨q1,by simp only at q2;omega,by simp only at q3;omega⟩,q2⟩
    ·rintro⟨⟨q1,q2,q3⟩,q4⟩
     exact⟨q1,q4,by simp only;omega⟩
   refine⟨fun f u=>?_,fun f u=>?_,fun p hp=>?_,?_⟩
   ·rw[wU]
    have e0:wx true (if 0<o then[((⟨x.f,x.a,o⟩:Lt),false)]else[])=[]:=by split<;>rfl
    rw[e0,List.nil_append]
    show has (⟨x.f,x.a+o,i⟩::wx true L) f u↔_
    rw[bj,ih.ins,RE,bj]
    constructor
    ·rintro(h|h)
     ·obtain⟨q1,q2,q3⟩:=h
      simp only at q1 q2 q3
      exact⟨⟨q1,by omega,by omega⟩,.inl ⟨by omega,by omega,by omega⟩⟩
     ·exact⟨h.1.1,.inr h.2⟩
    ·rintro⟨h3,h4|h4⟩
     ·obtain⟨q1,q2,q3⟩:=h3
      obtain⟨q4,q5,q6⟩:=h4
      exact .inl ⟨q1,by simp only;omega,by simp only;omega⟩
     ·by_cases hu:x.a+o+i<=u
      ·exact .inr ⟨⟨h3,hu⟩,h4⟩
      ·exact absurd h4 (yi f u h3.1.symm (by omega))
   ·rw[wU]
    show has (_++wx false L) f u↔_
    rw[dw,ih.out,RE,bj]
    have e0:has (wx false (if 0<o then[((⟨x.f,x.a,o⟩:Lt),false)]else[])) f u↔dZ ⟨x.f,x.a,o⟩ f u:=by
     split
     ·exact dC
     ·exact⟨fun h=>absurd h br,fun h=>by have:=h.2;simp only at this;omega⟩
    rw[e0]
    constructor
    ·rintro(h|h)
     ·obtain⟨q1,q2,q3⟩:=h
      simp only at q1 q2 q3
      refine⟨⟨q1,by omega,by omega⟩,?_⟩
      rintro(⟨q4,q5,q6⟩|h)
      ·omega
      ·exact yi f u q1.symm (by omega) h
     ·refine⟨h.1.1,?_⟩
      rintro(⟨q4,q5,q6⟩|h5)
      ·have:=h.1.2;have:=h.1.1.2;omega
      ·exact h.2 h5
    ·rintro⟨h3,h4⟩
     obtain⟨q1,q2,q3⟩:=h3
     by_cases hu:u<x.a+o
     ·exact .inl ⟨q1,q2,hu⟩
     ·refine .inr ⟨⟨⟨q1,q2,q3⟩,?_⟩,fun h=>h4 (.inr h)⟩
      rcases Int.lt_or_le u (x.a+o+i)with aw|hle
      ·exact absurd (.inl ⟨by omega,by omega,by omega⟩) h4
      ·exact hle
   ·rcases acr.1 hp with hp|hp
    ·split at hp
     ·rw[aco]at hp;subst hp;exact⟨by simp only;omega,rfl,Int.le_refl _,by simp only;omega⟩
     ·cases hp
    ·rcases acp.1 hp with rfl|hp
     ·exact⟨i1,rfl,by simp only;omega,by simp only;omega⟩
     ·have:=ih.pos p hp
      simp only at this
      exact⟨this.1,this.2.1,by omega,by omega⟩
   ·rw[wU]
    show List.Pairwise zO (_++wx false L)
    rw[List.pairwise_append]
    refine⟨by split;exact acR _ _;exact .nil,ih.pD,fun y hy z hz=>?_⟩
    obtain⟨q,hq,rfl⟩:=acL.1 hz
    have CM:=ih.pos q (List.mem_filter.1 hq).1
    simp only at CM
    split at hy
    ·have:y=⟨x.f,x.a,o⟩:=by simpa[wx]using hy
     subst this
     right
     simp only
     omega
    ·cases hy
  ·rename_i hc
   have dR:∀f u,dZ x f u->¬has (s::r) f u:=by
    rintro f u ⟨q1,q2,q3⟩ ⟨t,ht,q4,q5,q6⟩
    have hf:x.f<s.f\/s.f=x.f/\x.a+x.n<=s.a:=by omega
    rcases acp.1 ht with rfl|ht
    ·omega
    ·have a2:=h2 t ht
     unfold zO at a2
     omega
   split
   ·rename_i h0
    refine⟨fun f u=>⟨fun h=>absurd h br,fun h=>absurd h.2 (dR f u h.1)⟩,fun f u=>?_,fun p hp=>?_,acR _ _⟩
    ·show has [x] f u↔_
     rw[dC]
     exact⟨fun h=>⟨h,dR f u h⟩,fun h=>h.1⟩
    ·rw[aco]at hp;subst hp;exact⟨h0,rfl,Int.le_refl _,Int.le_refl _⟩
   ·have Zm:∀f u,¬dZ x f u:=fun f u h=>by have:=h.2;omega
    exact⟨fun f u=>⟨fun h=>absurd h br,fun h=>absurd h.1 (Zm f u)⟩,fun f u=>⟨fun h=>absurd h br,fun h=>absurd h.1 (Zm f u)⟩,fun p hp=>(by cases hp),.nil⟩
theorem CN(x:Lt):∀(set:List Lt),NS set->NS (set.dropWhile fun s=>!jP x s)/\(∀s∈set.dropWhile fun s=>!jP x s,jP x s=true)/\∀f u,dZ x f u->(has (set.dropWhile fun s=>!jP x s) f u↔has set f u)
 |[],_=>⟨NS.nil,fun _ h=>(by cases h),fun _ _ _=>Iff.rfl⟩
 |s::r,h=>by
  cases hk:jP x s with
  |true=>
   have e:(s::r).dropWhile (fun s=>!jP x s)=s::r:=by simp[hk]
   rw[e]
   refine⟨h,fun t ht=>?_,fun _ _ _=>Iff.rfl⟩
   rcases acp.1 ht with rfl|ht
   ·exact hk
   ·have a2:=h.head.2 t ht
    have a3:=h.tail.pos t ht
    simp only[jP,decide_eq_true_eq]at hk⊢
    unfold zO at a2
    omega
  |false=>
   have e:(s::r).dropWhile (fun s=>!jP x s)=r.dropWhile fun s=>!jP x s:=by simp[hk]
   rw[e]
   have ih:=CN x r h.tail
   refine⟨ih.1,ih.2.1,fun f u hu=>?_⟩
   rw[ih.2.2 f u hu,bj]
   refine⟨.inr,fun h2=>h2.resolve_left fun h3=>?_⟩
   simp only[jP,acV]at hk
   obtain⟨q1,q2,q3⟩:=h3
   have:=hu.1
   have:=hu.2.1
   omega
theorem jy{set:List Lt}{x:Lt}(hs:NS set)(hx:0<=x.n):UL x set (ja set x):=by
 obtain⟨h1,h2,h3⟩:=CN x set hs
 have h:=O6 _ x h1 hx h2
 refine⟨fun f u=>?_,fun f u=>?_,h.pos,h.pD⟩
 ·exact(h.ins f u).trans (and_congr_right fun hu=>h3 f u hu)
 ·exact(h.out f u).trans (and_congr_right fun hu=>not_congr (h3 f u hu))
def gz(y x:Lt):List Lt:=if x.f≠y.f\/y.a+y.n<=x.a\/x.a+x.n<=y.a then[x]else(if x.a<y.a then[⟨y.f,x.a,y.a-x.a⟩]else[])++(if y.a+y.n<x.a+x.n then[⟨y.f,y.a+y.n,x.a+x.n-y.a-y.n⟩]else[])
def iO(l:List Lt)(y:Lt):List Lt:=l.flatMap (gz y)
def mS(x:Lt)(set:List Lt):List Lt:=set.foldl iO [x]
theorem Kf{y x:Lt}(hy:1<=y.n)(hx:1<=x.n):NS (gz y x)/\(∀z∈gz y x,z.f=x.f/\x.a<=z.a/\z.a+z.n<=x.a+x.n)/\∀f u,has (gz y x) f u↔dZ x f u/\¬dZ y f u:=by
 unfold gz
 split
 ·rename_i hc
  refine⟨⟨acR _ _,fun z hz=>?_⟩,fun z hz=>?_,fun f u=>?_⟩
  ·rw[aco]at hz;subst hz;exact hx
  ·rw[aco]at hz;subst hz;exact⟨rfl,Int.le_refl _,Int.le_refl _⟩
  ·rw[dC]
   refine⟨fun h=>⟨h,fun h2=>?_⟩,fun h=>h.1⟩
   obtain⟨q1,q2,q3⟩:=h
   obtain⟨q4,q5,q6⟩:=h2
   omega
 ·rename_i hc
  have ef:x.f=y.f:=by omega
  have mem:∀z,z∈(if x.a<y.a then[(⟨y.f,x.a,y.a-x.a⟩:Lt)]else[])++(if y.a+y.n<x.a+x.n then[(⟨y.f,y.a+y.n,x.a+x.n-y.a-y.n⟩:Lt)]else[])↔(x.a<y.a/\z=⟨y.f,x.a,y.a-x.a⟩)\/(y.a+y.n<x.a+x.n/\z=⟨y.f,y.a+y.n,x.a+x.n-y.a-y.n⟩):=fun z=>by
   rw[acr]
   refine or_congr ?_ ?_<;>split<;>rename_i hh<;>simp[hh]
  refine⟨⟨?_,fun z hz=>?_⟩,fun z hz=>?_,fun f u=>?_⟩
  ·rw[List.pairwise_append]
   refine⟨by split;exact acR _ _;exact .nil,by split;exact acR _ _;exact .nil,fun p hp q hq=>?_⟩
   split at hp
   ·split at hq
    ·rw[aco]at hp hq;subst hp;subst hq
     exact .inr ⟨rfl,by show x.a+(y.a-x.a)<y.a+y.n;omega⟩
    ·cases hq
   ·cases hp
  ·rcases(mem z).1 hz with⟨h1,rfl⟩|⟨h1,rfl⟩<;>simp only<;>omega
  ·rcases(mem z).1 hz with⟨h1,rfl⟩|⟨h1,rfl⟩<;>simp only<;>omega
  ·constructor
   ·rintro⟨z,hz,q1,q2,q3⟩
    rcases(mem z).1 hz with⟨h1,rfl⟩|⟨h1,rfl⟩
    ·simp only at q1 q2 q3
     exact⟨⟨by omega,by omega,by omega⟩,fun h=>by have:=h.2;omega⟩
    ·simp only at q1 q2 q3
     exact⟨⟨by omega,by omega,by omega⟩,fun h=>by have:=h.2;omega⟩
   ·rintro⟨⟨q1,q2,q3⟩,h⟩
    by_cases hu:u<y.a
    ·exact⟨_,(mem _).2 (.inl ⟨by omega,rfl⟩),by simp only;omega,q2,by simp only;omega⟩
    ·by_cases hu2:u<y.a+y.n
     ·exact absurd ⟨by omega,by omega,hu2⟩ h
     ·exact⟨_,(mem _).2 (.inr ⟨by omega,rfl⟩),by simp only;omega,by simp only;omega,by simp only;omega⟩
theorem CO{y:Lt}(hy:1<=y.n):∀{l:List Lt},NS l->NS (iO l y)/\(∀z∈iO l y,∃x∈l,z.f=x.f/\x.a<=z.a/\z.a+z.n<=x.a+x.n)/\∀f u,has (iO l y) f u↔has l f u/\¬dZ y f u
 |[],_=>⟨NS.nil,fun _ h=>(by cases h),fun f u=>⟨fun h=>absurd h br,fun h=>absurd h.1 br⟩⟩
 |x::l,h=>by
  obtain⟨a1,a2,a3⟩:=Kf hy h.head.1
  obtain⟨b1,b2,b3⟩:=CO hy h.tail
  have e:iO (x::l) y=gz y x++iO l y:=rfl
  rw[e]
  refine⟨⟨?_,fun z hz=>?_⟩,fun z hz=>?_,fun f u=>?_⟩
  ·rw[List.pairwise_append]
   refine⟨a1.pD,b1.pD,fun p hp q hq=>?_⟩
   have c1:=a2 p hp
   obtain⟨t,ht,c2⟩:=b2 q hq
   have c3:=h.head.2 t ht
   unfold zO at*
   omega
  ·rcases acr.1 hz with hz|hz
   ·exact a1.pos z hz
   ·exact b1.pos z hz
  ·rcases acr.1 hz with hz|hz
   ·exact⟨x,acv,a2 z hz⟩
   ·obtain⟨t,ht,c⟩:=b2 z hz
    exact⟨t,acq _ ht,c⟩
  ·rw[dw,a3,b3,bj,or_and_right]
theorem Bd:∀(set l:List Lt),NS l->(∀y∈set,1<=y.n)->NS (set.foldl iO l)/\∀f u,has (set.foldl iO l) f u↔has l f u/\¬has set f u
 |[],l,h,_=>⟨h,fun f u=>⟨fun h=>⟨h,br⟩,fun h=>h.1⟩⟩
 |y::set,l,h,hp=>by
  obtain⟨a1,_,a3⟩:=CO (hp y acv) h
  obtain⟨b1,b2⟩:=Bd set (iO l y) a1 fun z hz=>hp z (acq _ hz)
  refine⟨b1,fun f u=>?_⟩
  rw[List.foldl_cons,b2,a3,bj,not_or,and_assoc]
theorem sW{x:Lt}(hx:1<=x.n){set:List Lt}(hs:∀y∈set,1<=y.n):NS (mS x set)/\∀f u,has (mS x set) f u↔dZ x f u/\¬has set f u:=by
 have h:=Bd set [x] ⟨acR _ _,fun z hz=>by rw[aco]at hz;subst hz;exact hx⟩ hs
 exact⟨h.1,fun f u=>by rw[<-dC];exact h.2 f u⟩
theorem Wi{set:List Lt}{x:Lt}(hs:NS set)(hx:0<=x.n):NS (wx false (ja set x)):=by
 have h:=jy hs hx
 refine⟨h.pD,fun z hz=>?_⟩
 obtain⟨q,hq,rfl⟩:=acL.1 hz
 exact(h.pos q (List.mem_filter.1 hq).1).1
theorem SE{set P:List Lt}{x:Lt}(hs:NS set)(hx:1<=x.n)(hP:∀y∈P,1<=y.n)(hu:∀f u,has set f u↔has P f u):wx false (ja set x)=mS x P:=by
 have h:=sW hx hP
 refine(Wi hs (by omega)).uniq h.1 fun f u=>?_
 rw[(jy hs (by omega)).out,h.2,hu]
def gl(p:List Lt×List Lt)(q:Lt×Bool):List Lt×List Lt:=bif q.2 then(aR p.1 q.1,p.2)else(p.1,aR p.2 q.1)
def kp(l set:List Lt):List Lt×List Lt:=(l.flatMap (ja set)).foldl gl ([],[])
theorem wV:∀(l:List (Lt×Bool)) (p:List Lt×List Lt),l.foldl gl p=((wx true l).foldl aR p.1,(wx false l).foldl aR p.2)
 |[],p=>rfl
 |(x,true)::l,p=>by rw[List.foldl_cons,wV l];rfl
 |(x,false)::l,p=>by rw[List.foldl_cons,wV l];rfl
def mu(l P:List Lt):List Lt:=(l.flatMap fun x=>mS x P).foldl aR []
theorem yv(b:Bool)(g:Lt->List (Lt×Bool)):∀l:List Lt,wx b (l.flatMap g)=l.flatMap fun x=>wx b (g x)
 |[]=>rfl
 |x::l=>by rw[List.flatMap_cons,wU,yv b g l,List.flatMap_cons]
theorem SF{l P:List Lt}(hl:∀x∈l,1<=x.n)(hP:∀y∈P,1<=y.n){set:List Lt}(hs:NS set)(hu:∀f u,has set f u↔has P f u):(kp l set).2=mu l P:=by
 unfold kp mu
 rw[wV]
 show(wx false (l.flatMap (ja set))).foldl aR []=_
 rw[yv]
 have:(l.flatMap fun x=>wx false (ja set x))=l.flatMap fun x=>mS x P:=by
  induction l with
  |nil=>rfl
  |cons x l ih=>
   rw[List.flatMap_cons,List.flatMap_cons,ih fun y hy=>hl y (acq _ hy),SE hs (hl x acv) hP hu]
 rw[this]
theorem CP:∀(l r:List Lt),(∀x∈l,1<=x.n)->(∀x∈r,1<=x.n)->(∀x∈l.foldl aR r,1<=x.n)/\∀f u,has (l.foldl aR r) f u↔has r f u\/has l f u
 |[],r,_,hr=>⟨hr,fun f u=>⟨.inl,fun h=>h.resolve_right br⟩⟩
 |x::l,r,hl,hr=>by
  have hx:=hl x acv
  have h1:=CP l (aR r x) (fun y hy=>hl y (acq _ hy)) (Fh hr (by omega))
  refine⟨h1.1,fun f u=>?_⟩
  rw[List.foldl_cons,h1.2,yq (fun y hy=>by have:=hr y hy;omega) (by omega),bj,or_assoc]
theorem pF{g:Lt->List Lt}{f u:Int}:∀{l:List Lt},has (l.flatMap g) f u↔∃x∈l,has (g x) f u
 |[]=>⟨fun h=>absurd h br,fun⟨_,h,_⟩=>by cases h⟩
 |x::l=>by rw[List.flatMap_cons,dw,pF (l:=l)];simp
theorem CQ{l P:List Lt}(hl:∀x∈l,1<=x.n)(hP:∀y∈P,1<=y.n):(∀x∈mu l P,1<=x.n)/\∀f u,has (mu l P) f u↔has l f u/\¬has P f u:=by
 have h:=CP (l.flatMap fun x=>mS x P) [] (fun y hy=>by
  obtain⟨x,hx,hy⟩:=List.mem_flatMap.1 hy
  exact(sW (hl x hx) hP).1.pos y hy) fun _ h=>by cases h
 refine⟨h.1,fun f u=>?_⟩
 show has (List.foldl aR [] _) f u↔_
 rw[h.2,pF]
 constructor
 ·rintro(h|⟨x,hx,h⟩)
  ·exact absurd h br
  ·have:=((sW (hl x hx) hP).2 f u).1 h
   exact⟨⟨x,hx,this.1⟩,this.2⟩
 ·rintro⟨⟨x,hx,h1⟩,h2⟩
  exact .inr ⟨x,hx,((sW (hl x hx) hP).2 f u).2 ⟨h1,h2⟩⟩
theorem yw{l:List Lt}(hl:∀x∈l,1<=x.n)(h:∀f u,¬has l f u):l=[]:=by
 cases l with
 |nil=>rfl
 |cons x l=>exact absurd (bj.2 (.inl ⟨rfl,Int.le_refl _,by have:=hl x acv;omega⟩)) (h x.f x.a)
theorem SH{a b:List Lt}(ha:∀x∈a,1<=x.n)(hb:∀y∈b,1<=y.n):mu (cL a) b=[]↔∀f u,has a f u->has b f u:=by
 have h1:=gj ha
 have h2:=CQ h1.1.pos hb
 constructor
 ·intro h f u hu
  refine Classical.byContradiction fun hn=>?_
  have:=(h2.2 f u).2 ⟨(h1.2 f u).2 hu,hn⟩
  rw[h]at this
  exact br this
 ·intro h
  exact yw h2.1 fun f u hu=>((h2.2 f u).1 hu).2 (h f u ((h1.2 f u).1 ((h2.2 f u).1 hu).1))
theorem SI{a set:List Lt}(ha:∀x∈a,1<=x.n)(hs:NS set):(∀p∈a.flatMap (ja set),p.2=true)↔∀f u,has a f u->has set f u:=by
 constructor
 ·rintro h f u ⟨x,hx,h1⟩
  refine Classical.byContradiction fun hn=>?_
  obtain⟨y,hy,_⟩:=((jy hs (by have:=ha x hx;omega)).out f u).2 ⟨h1,hn⟩
  obtain⟨q,hq,rfl⟩:=acL.1 hy
  obtain⟨q1,q2⟩:=List.mem_filter.1 hq
  have:=h q (List.mem_flatMap.2 ⟨x,hx,q1⟩)
  simp[this]at q2
 ·intro h p hp
  obtain⟨x,hx,hp⟩:=List.mem_flatMap.1 hp
  have cw:=jy hs (x:=x) (by have:=ha x hx;omega)
  cases hb:p.2 with
  |true=>rfl
  |false=>
   exfalso
   have hm:p.1∈wx false (ja set x):=acL.2 ⟨p,List.mem_filter.2 ⟨hp,by rw[hb];rfl⟩,rfl⟩
   have hq:=((cw.out p.1.f p.1.a).1 ⟨p.1,hm,rfl,Int.le_refl _,by have:=(cw.pos p hp).1;omega⟩)
   exact hq.2 (h _ _ ⟨x,hx,hq.1⟩)
theorem SJ{a b:List Lt}(ha:∀x∈a,1<=x.n)(hb:∀y∈b,1<=y.n):mu (cL a) (mu (cL a) b)=[]↔∀f u,has a f u->¬has b f u:=by
 have h1:=gj ha
 have h2:=CQ h1.1.pos hb
 have h3:=CQ h1.1.pos h2.1
 constructor
 ·intro h f u hu hn
  have:=(h3.2 f u).2 ⟨(h1.2 f u).2 hu,fun h4=>((h2.2 f u).1 h4).2 hn⟩
  rw[h]at this
  exact br this
 ·intro h
  refine yw h3.1 fun f u hu=>?_
  have h4:=(h3.2 f u).1 hu
  exact h4.2 ((h2.2 f u).2 ⟨h4.1,h f u ((h1.2 f u).1 h4.1)⟩)
theorem Kg{a set:List Lt}(ha:∀x∈a,1<=x.n)(hs:NS set):(kp a set).1=[]↔∀f u,has a f u->¬has set f u:=by
 unfold kp
 rw[wV]
 show(wx true (a.flatMap (ja set))).foldl aR []=[]↔_
 rw[yv]
 have h:=CP (a.flatMap fun x=>wx true (ja set x)) [] (fun y hy=>by
  obtain⟨x,hx,hy⟩:=List.mem_flatMap.1 hy
  obtain⟨q,hq,rfl⟩:=acL.1 hy
  exact((jy hs (by have:=ha x hx;omega)).pos q (List.mem_filter.1 hq).1).1) fun _ h=>by cases h
 constructor
 ·rintro h0 f u ⟨x,hx,hu⟩ hn
  have h0:List.foldl aR [] (a.flatMap fun x=>wx true (ja set x))=[]:=h0
  have:=(h.2 f u).2 (.inr (pF.2 ⟨x,hx,((jy hs (by have:=ha x hx;omega)).ins f u).2 ⟨hu,hn⟩⟩))
  rw[h0]at this
  exact br this
 ·intro h0
  refine yw h.1 fun f u hu=>?_
  rcases(h.2 f u).1 hu with h4|h4
  ·exact br h4
  ·obtain⟨x,hx,h5⟩:=pF.1 h4
   have h6:=((jy hs (by have:=ha x hx;omega)).ins f u).1 h5
   exact h0 f u ⟨x,hx,h6.1⟩ h6.2
end
section
def eY(rs:List Int)(i j:Nat):Bool:=decide (rs.getD j 0<rs.getD i 0\/rs.getD i 0=rs.getD j 0/\i<j)
def O7(rs:List Int)(i:Nat):Nat:=(List.range rs.length).countP fun j=>eY rs j i
theorem SK{rs:List Int}{i j:Nat}(h:i≠j):eY rs i j=true\/eY rs j i=true:=by
 simp only[eY,decide_eq_true_eq];omega
theorem SL{rs:List Int}{i j:Nat}(h:eY rs i j=true):eY rs j i=false:=by
 simp only[eY,decide_eq_true_eq,acV]at *; omega
theorem Wj{rs:List Int}{i j k:Nat}(h:eY rs i j=true)(h2:eY rs j k=true):eY rs i k=true:=by
 simp only[eY,decide_eq_true_eq]at *; omega
structure Ord(rs:List Int)(o:List Nat):Prop where
 perm:o.Perm (List.range rs.length)
 srt:o.Pairwise fun i j=>eY rs i j=true
theorem Ord.nodup{rs:List Int}{o:List Nat}(h:Ord rs o):o.Nodup:=h.perm.nodup_iff.2 List.nodup_range
theorem Ord.len{rs:List Int}{o:List Nat}(h:Ord rs o):o.length=rs.length:=by rw[h.perm.length_eq,List.length_range]
theorem H7(rs:List Int):∃o,Ord rs o:=by
 let le:Nat->Nat->Bool:=fun i j=>eY rs i j||i==j
 refine⟨(List.range rs.length).mergeSort le,List.mergeSort_perm _ _,?_⟩
 have h1:((List.range rs.length).mergeSort le).Pairwise fun a b=>le a b=true:=List.pairwise_mergeSort (fun a b c h h2=>by
  simp only[le,Bool.or_eq_true,beq_iff_eq]at*
  rcases h with h|rfl
  ·rcases h2 with h2|rfl
   ·exact .inl (Wj h h2)
   ·exact .inl h
  ·exact h2) (fun a b=>by
  simp only[le,Bool.or_eq_true,beq_iff_eq]
  by_cases e:a=b
  ·exact .inl (.inr e)
  ·rcases SK (rs:=rs) e with h|h
   ·exact .inl (.inl h)
   ·exact .inr (.inl h)) _
 have h2:((List.range rs.length).mergeSort le).Nodup:=(List.mergeSort_perm _ _).nodup_iff.2 List.nodup_range
 refine(List.Pairwise.and h1 h2).imp fun h=>?_
 simp only[le,Bool.or_eq_true,beq_iff_eq]at h
 exact h.1.resolve_right h.2
theorem Ord.LO{rs:List Int}{o:List Nat}(h:Ord rs o){k i:Nat}(hk:o[k]?=some i):O7 rs i=k:=by
 unfold O7
 rw[<-h.perm.countP_eq]
 have e:o=o.take k++i::o.drop (k+1):=by
  have hl:=(aci.1 hk).1
  conv=>lhs;rw[<-List.take_append_drop k o,List.drop_eq_getElem_cons hl]
  rw[(aci.1 hk).2]
 have hs:=h.srt
 rw[e,List.pairwise_append]at hs
 obtain⟨h1,h2,h3⟩:=hs
 have h4:=List.pairwise_cons.1 h2
 rw[e,List.countP_append,List.countP_cons]
 have c1:(o.take k).countP (fun j=>eY rs j i)=k:=by
  rw[List.countP_eq_length.2 fun j hj=>h3 j hj i acv,acE]
  have hl:=(aci.1 hk).1
  omega
 have c2:(o.drop (k+1)).countP (fun j=>eY rs j i)=0:=List.countP_eq_zero.2 fun j hj=>by rw[SL (h4.1 j hj)];simp
 have c3:eY rs i i=false:=by simp[eY]
 rw[c1,c2,c3];rfl
theorem Ord.mem{rs:List Int}{o:List Nat}(h:Ord rs o){m i:Nat}(hi:i<rs.length):i∈o.take m↔O7 rs i<m:=by
 obtain⟨k,hk⟩:=acF (h.perm.mem_iff.2 (acM.2 hi))
 rw[h.LO hk]
 constructor
 ·intro hm
  obtain⟨q,hq⟩:=acF hm
  have hqm:q<m:=by have:=(aci.1 hq).1;rw[acE]at this;omega
  rw[List.getElem?_take_of_lt hqm]at hq
  have hl:=(aci.1 hq).1
  have:=(List.getElem?_inj hl h.nodup).1 (hq.trans hk.symm)
  omega
 ·intro hm
  exact ack ((List.getElem?_take_of_lt hm).trans hk)
def kq(l:List Int)(i:Nat):List Int:=l.set i (l.getD i 0+1)
def plus(rs qs:List Int)(m:Nat):List Int:=(List.range rs.length).map fun i=>qs.getD i 0+bif decide (O7 rs i<m)then 1 else 0
theorem wW(l:List Int)(i:Nat):(kq l i).length=l.length:=List.length_set ..
theorem SN(l:List Int)(i j:Nat)(hi:i<l.length):(kq l i).getD j 0=l.getD j 0+if i=j then 1 else 0:=by
 unfold kq
 rw[acn,List.getElem?_set]
 split
 ·rename_i e;subst e
  simp[hi]
 ·rename_i e
  rw[<-acn];omega
theorem yx:∀(o:List Nat) (l:List Int),o.Nodup->(∀i∈o,i<l.length)->(o.foldl kq l).length=l.length/\∀j,(o.foldl kq l).getD j 0=l.getD j 0+if j∈o then 1 else 0
 |[],l,_,_=>⟨rfl,fun j=>by simp⟩
 |i::o,l,hn,hl=>by
  have G5:=List.nodup_cons.1 hn
  have ih:=yx o (kq l i) G5.2 fun k hk=>by rw[wW];exact hl k (acq _ hk)
  rw[List.foldl_cons]
  refine⟨by rw[ih.1,wW],fun j=>?_⟩
  rw[ih.2,SN _ _ _ (hl i acv)]
  by_cases e:i=j
  ·subst e
   rw[if_pos rfl,if_neg G5.1,if_pos acv];omega
  ·rw[if_neg e]
   have:j∈i::o↔j∈o:=by simp[Ne.symm e]
   simp only[this];omega
theorem O8{a b:List Int}(hl:a.length=b.length)(h:∀j,j<a.length->a.getD j 0=b.getD j 0):a=b:=by
 refine List.ext_getElem hl fun i h1 h2=>?_
 have:=h i h1
 rwa[acn,acn,aaS h1,aaS h2]at this
theorem Fj(rs qs:List Int)(m:Nat):(plus rs qs m).length=rs.length:=by simp[plus]
theorem yz{rs qs:List Int}{m j:Nat}(h:j<rs.length):(plus rs qs m).getD j 0=qs.getD j 0+if O7 rs j<m then 1 else 0:=by
 unfold plus
 rw[acn,acj,List.getElem?_range h]
 simp only[Option.map_some,Option.getD_some]
 by_cases hc:O7 rs j<m
 ·rw[if_pos hc,acG hc];rfl
 ·rw[if_neg hc,acH hc];rfl
theorem yA{rs qs:List Int}{o:List Nat}(h:Ord rs o)(hl:qs.length=rs.length)(m:Nat):(o.take m).foldl kq qs=plus rs qs m:=by
 have hn:(o.take m).Nodup:=h.nodup.sublist (List.take_sublist _ _)
 have hm:∀i∈o.take m,i<qs.length:=fun i hi=>by
  have:=h.perm.mem_iff.1 (List.mem_of_mem_take hi)
  rw[hl];exact acM.1 this
 obtain⟨h1,h2⟩:=yx _ qs hn hm
 refine O8 (by rw[h1,Fj,hl]) fun j hj=>?_
 have hj:j<rs.length:=by rw[h1,hl]at hj;exact hj
 rw[h2,yz hj]
 simp only[h.mem hj]
def Ag(rs:List Int)(b i:Nat):Nat:=if rs.getD b 0<rs.getD i 0 then i else b
def yB(rs:List Int):Nat:=(List.range' 1 (rs.length-1)).foldl (Ag rs) 0
def onR(p:List Int×List Int):List Int×List Int:=(kq p.1 (yB p.2),p.2.set (yB p.2) (-1))
def Ah(p:List Int×List Int):Nat->List Int×List Int
 |0=>p
 |k+1=>onR (Ah p k)
theorem yC(rs:List Int):∀(n s b:Nat),b<s->(∀j,j<s->eY rs j b=false)->((List.range' s n).foldl (Ag rs) b)<s+n/\∀j,j<s+n->eY rs j ((List.range' s n).foldl (Ag rs) b)=false
 |0,s,b,hb,h=>⟨by simpa using hb,by simpa using h⟩
 |n+1,s,b,hb,h=>by
  rw[List.range'_succ,List.foldl_cons]
  have:=yC rs n (s+1) (Ag rs b s) (by unfold Ag;split<;>omega) fun j hj=>by
   unfold Ag
   have Wk:=h b hb
   split
   ·rename_i hc
    by_cases e:j=s
    ·subst e;simp[eY]
    ·have:=h j (by omega)
     simp only[eY,acV]at*
     omega
   ·rename_i hc
    by_cases e:j=s
    ·subst e
     simp only[eY,acV];omega
    ·exact h j (by omega)
  rw[show s+(n+1)=s+1+n by omega]
  exact this
theorem Wl{rs:List Int}(h:0<rs.length):yB rs<rs.length/\∀j,j<rs.length->eY rs j (yB rs)=false:=by
 have:=yC rs (rs.length-1) 1 0 (by omega) fun j hj=>by
  have:j=0:=by omega
  subst this;simp[eY]
 rw[show 1+(rs.length-1)=rs.length by omega]at this
 exact this
theorem O9{rs qs:List Int}{o:List Nat}(h:Ord rs o)(hp:∀r∈rs,0<=r)(hl:qs.length=rs.length):∀k,k<=rs.length->(Ah (qs,rs) k).1=(o.take k).foldl kq qs/\(Ah (qs,rs) k).2.length=rs.length/\∀j,j<rs.length->(Ah (qs,rs) k).2.getD j 0=if j∈o.take k then -1 else rs.getD j 0
 |0,_=>⟨rfl,rfl,fun j _=>by simp[Ah]⟩
 |k+1,hk=>by
  obtain⟨h1,h2,h3⟩:=O9 h hp hl k (by omega)
  have oq:k<o.length:=by rw[h.len];omega
  have cw:o[k]?=some o[k]:=aaS oq
  have ht:o.take (k+1)=o.take k++[o[k]]:=by rw[acs,cw];rfl
  have H8:o[k]<rs.length:=acM.1 (h.perm.mem_iff.1 (acQ oq))
  have hrk:=h.LO cw
  have dc:∀j,j<rs.length->0<=rs.getD j 0:=fun j hj=>by
   rw[acn,aaS hj];exact hp _ (acQ hj)
  have hb:yB (Ah (qs,rs) k).2=o[k]:=by
   obtain⟨b1,b2⟩:=Wl (rs:=(Ah (qs,rs) k).2) (by omega)
   rw[h2]at b1 b2
   have b3:=b2 o[k] H8
   generalize yB (Ah (qs,rs) k).2=b at b1 b3
   have g1:=h3 b b1
   have g2:=h3 o[k] H8
   have dR:o[k]∉o.take k:=fun hm=>by have:=(h.mem H8).1 hm;omega
   rw[if_neg dR]at g2
   have p1:=dc o[k] H8
   refine Classical.byContradiction fun cC=>?_
   by_cases hbm:b∈o.take k
   ·rw[if_pos hbm]at g1
    simp only[eY,acV]at b3
    omega
   ·rw[if_neg hbm]at g1
    have Yb:k<O7 rs b:=by
     have h5:¬O7 rs b<k:=fun h6=>hbm ((h.mem b1).2 h6)
     rcases Nat.lt_or_eq_of_le (Nat.le_of_not_lt h5)with h6|h6
     ·exact h6
     ·obtain⟨q,hq⟩:=acF (h.perm.mem_iff.2 (acM.2 b1))
      have CM:=h.LO hq
      have:q=k:=by omega
      subst this
      rw[cw]at hq
      injection hq with hq
      exact absurd hq.symm cC
    obtain⟨q,hq⟩:=acF (h.perm.mem_iff.2 (acM.2 b1))
    have CM:=h.LO hq
    have Zn:=(aci.1 hq).1
    have hbt:=List.pairwise_iff_getElem.1 h.srt k q oq Zn (by omega)
    rw[(aci.1 hq).2]at hbt
    simp only[eY,acV,decide_eq_true_eq]at b3 hbt
    omega
  have eo:Ah (qs,rs) (k+1)=(kq (Ah (qs,rs) k).1 o[k],(Ah (qs,rs) k).2.set o[k] (-1)):=by show onR _=_;unfold onR;rw[hb]
  rw[eo]
  refine⟨by rw[ht,acJ,<-h1];rfl,(List.length_set ..).trans h2,fun j hj=>?_⟩
  show((Ah (qs,rs) k).2.set o[k] (-1)).getD j 0=_
  by_cases e:o[k]=j
  ·subst e
   rw[acn,List.getElem?_set_self (by omega),if_pos (by rw[ht];exact acr.2 (.inr (aco.2 rfl)))];rfl
  ·rw[acn,List.getElem?_set_ne e,<-acn,h3 j hj]
   have:j∈o.take (k+1)↔j∈o.take k:=by rw[ht,acr,aco];exact⟨fun h=>h.resolve_right fun h=>e h.symm,.inl⟩
   simp only[this]
theorem Pa{rs qs:List Int}(hp:∀r∈rs,0<=r)(hl:qs.length=rs.length){k:Nat}(hk:k<=rs.length):(Ah (qs,rs) k).1=plus rs qs k:=by
 obtain⟨o,h⟩:=H7 rs
 rw[(O9 h hp hl k hk).1,yA h hl]
def qL(t s:Int)(ws:List Int):List Int:=ws.map fun w=>t*w/s
def rL(t s:Int)(ws:List Int):List Int:=ws.map fun w=>t*w%s
def fS(t s:Int)(ws:List Int):Int:=t-(qL t s ws).sum
def zQ(t:Int)(ws:List Int):List Int:=plus (rL t ws.sum ws) (qL t ws.sum ws) (fS t ws.sum ws).toNat
theorem Pb(t s:Int):∀ws:List Int,s*(qL t s ws).sum+(rL t s ws).sum=t*ws.sum
 |[]=>by simp[qL,rL]
 |w::ws=>by
  have ih:=Pb t s ws
  have:=Int.mul_ediv_add_emod (t*w) s
  simp only[qL,rL,List.map_cons,List.sum_cons]at*
  rw[Int.mul_add,Int.mul_add];omega
theorem Wm{t s:Int}(hs:0<s){ws:List Int}:∀r∈rL t s ws,0<=r/\r<s:=fun r hr=>by
 obtain⟨w,_,rfl⟩:=acL.1 hr
 exact⟨Int.emod_nonneg _ (by omega),Int.emod_lt_of_pos _ hs⟩
theorem yD:∀{l:List Int},(∀x∈l,0<=x)->0<=l.sum
 |[],_=>by simp
 |x::l,h=>by
  have:=h x acv
  have:=yD fun y hy=>h y (acq x hy)
  simp only[List.sum_cons];omega
theorem yE{s:Int}(hs:0<s):∀{l:List Int},(∀x∈l,0<=x/\x<s)->l.sum<=s*(l.countP (fun x=>decide (0<x)):Nat)/\(0<l.sum->l.sum<s*(l.countP (fun x=>decide (0<x)):Nat))
 |[],_=>by simp
 |x::l,h=>by
  have hx:=h x acv
  have ih:=yE hs fun y hy=>h y (acq x hy)
  simp only[List.sum_cons,List.countP_cons]
  by_cases hp:0<x
  ·rw[acG hp]
   simp only[if_true]
   have:s*((l.countP (fun x=>decide (0<x))+1:Nat):Int)=s*(l.countP (fun x=>decide (0<x)):Nat)+s:=by rw[Int.natCast_add,Int.mul_add];simp
   rw[this]
   omega
  ·rw[acH hp]
   simp only[Bool.false_eq_true,if_false,Nat.add_zero]
   have:x=0:=by omega
   subst this
   simpa using ih
theorem wX{t:Int}{ws:List Int}(hs:0<ws.sum):0<=fS t ws.sum ws/\fS t ws.sum ws<=((rL t ws.sum ws).countP fun x=>decide (0<x):Nat)/\(0<fS t ws.sum ws->fS t ws.sum ws<((rL t ws.sum ws).countP fun x=>decide (0<x):Nat)):=by
 have h1:=Pb t ws.sum ws
 have h2:=Wm (t:=t) hs (ws:=ws)
 have h3:=yD fun x hx=>(h2 x hx).1
 have h4:=yE hs h2
 have e:(rL t ws.sum ws).sum=ws.sum*fS t ws.sum ws:=by unfold fS;rw[Int.mul_sub,Int.mul_comm ws.sum t];omega
 generalize fS t ws.sum ws=L at*
 generalize ((rL t ws.sum ws).countP fun x=>decide (0<x))=C at*
 rw[e]at h3 h4
 refine⟨?_,?_,fun hL=>?_⟩
 ·exact Classical.byContradiction fun hn=>by
   have:=Int.mul_neg_of_pos_of_neg hs (show L<0 by omega);omega
 ·exact Int.le_of_mul_le_mul_left h4.1 hs
 ·exact Int.lt_of_mul_lt_mul_left (h4.2 (Int.mul_pos hs hL)) (by omega)
theorem Kh(t:Int)(ws:List Int):(zQ t ws).length=ws.length:=by simp[zQ,Fj,rL]
theorem SO{rs:List Int}(hp:∀r∈rs,0<=r){i:Nat}(hi:i<rs.length)(h:O7 rs i<rs.countP fun x=>decide (0<x)):0<rs.getD i 0:=by
 refine Classical.byContradiction fun hn=>?_
 have h0:rs.getD i 0<=0:=by omega
 have:rs.countP (fun x=>decide (0<x))<=O7 rs i:=by
  unfold O7
  have e:rs=(List.range rs.length).map fun j=>rs.getD j 0:=by
   refine List.ext_getElem (by simp) fun j h1 h2=>?_
   simp[acn,h1]
  conv=>lhs;rw[e,List.countP_map]
  refine List.countP_mono_left fun j _ hj=>?_
  simp only[Function.comp,decide_eq_true_eq]at hj
  simp only[eY,decide_eq_true_eq]
  omega
 omega
theorem UM{t:Int}{ws:List Int}(ht:0<=t)(hw:∀w∈ws,0<=w)(hs:0<ws.sum)(G6:t<=ws.sum){i:Nat}(hi:i<ws.length):0<=(zQ t ws).getD i 0/\(zQ t ws).getD i 0<=ws.getD i 0:=by
 unfold zQ
 have hr:i<(rL t ws.sum ws).length:=by simpa[rL]using hi
 rw[yz hr]
 have Zo:=hw _ (acQ hi)
 have eq:(qL t ws.sum ws).getD i 0=t*ws[i]/ws.sum:=by simp[qL,acn,hi]
 have er:(rL t ws.sum ws).getD i 0=t*ws[i]%ws.sum:=by simp[rL,acn,hi]
 have ew:ws.getD i 0=ws[i]:=by simp[acn,hi]
 rw[eq,ew]
 have Zp:0<=t*ws[i]/ws.sum:=Int.ediv_nonneg (Int.mul_nonneg ht Zo) (by omega)
 have hm:=Int.mul_ediv_add_emod (t*ws[i]) ws.sum
 have hle:t*ws[i]<=ws.sum*ws[i]:=Int.mul_le_mul_of_nonneg_right G6 Zo
 have Yb:=Wm (t:=t) hs (ws:=ws)
 split
 ·rename_i hc
  obtain⟨l1,l2,l3⟩:=wX (t:=t) hs
  have dc:0<fS t ws.sum ws:=by omega
  have hrp:=SO (fun r hr=>(Yb r hr).1) hr (by have:=l3 dc;omega)
  rw[er]at hrp
  refine⟨by omega,?_⟩
  have:ws.sum*(t*ws[i]/ws.sum)<ws.sum*ws[i]:=by omega
  have:=Int.lt_of_mul_lt_mul_left this (by omega)
  omega
 ·refine⟨by omega,?_⟩
  have h0:=Int.emod_nonneg (t*ws[i]) (show ws.sum≠0 by omega)
  have:ws.sum*(t*ws[i]/ws.sum)<=ws.sum*ws[i]:=by omega
  have:=Int.le_of_mul_le_mul_left this hs
  omega
end
section
open Go.TM
section
variable {κ β:Type} [DecidableEq κ]
def aW:List (κ×β)->κ->Option β
 |[],_=>none
 |(k',v)::r,k=>if k'=k then some v else aW r k
def aI:List (κ×β)->κ->β->List (κ×β)
 |[],k,x=>[(k,x)]
 |(k',v)::r,k,x=>if k'=k then(k,x)::r else(k',v)::aI r k x
def sX:List (κ×β)->κ->List (κ×β)
 |[],_=>[]
 |(k',v)::r,k=>if k'=k then r else(k',v)::sX r k
def Nk(m:List (κ×β)):Prop:=(m.map (·.1)).Nodup
theorem jQ(m:List (κ×β))(k k':κ)(x:β):aW (aI m k x) k'=if k=k' then some x else aW m k':=by
 induction m with
 |nil=>simp[aI,aW]
 |cons p r ih=>
  obtain⟨q,v⟩:=p
  simp only[aI]
  by_cases h:q=k
  ·rw[if_pos h]
   subst h
   simp only[aW]
   by_cases h2:q=k'
   ·rw[if_pos h2,if_pos h2]
   ·rw[if_neg h2,if_neg h2,if_neg h2]
  ·rw[if_neg h]
   simp only[aW,ih]
   by_cases h2:q=k'
   ·rw[if_pos h2,if_pos h2,if_neg (by rintro rfl;exact h h2)]
   ·rw[if_neg h2,if_neg h2]
theorem lx{m:List (κ×β)}{k:κ}{x:β}(h:aW m k=some x):(k,x)∈m:=by
 induction m with
 |nil=>cases h
 |cons p r ih=>
  obtain⟨q,v⟩:=p
  simp only[aW]at h
  by_cases h2:q=k
  ·rw[if_pos h2]at h;injection h with h;subst h;subst h2;exact acv
  ·rw[if_neg h2]at h;exact acq _ (ih h)
theorem mT{m:List (κ×β)}{k:κ}(h:k∉m.map (·.1)):aW m k=none:=by
 cases hg:aW m k with
 |none=>rfl
 |some x=>exact absurd (acL.2 ⟨_,lx hg,rfl⟩) h
theorem Pc{m:List (κ×β)}{k:κ}:aW m k=none↔k∉m.map (·.1):=by
 refine⟨fun h hm=>?_,mT⟩
 induction m with
 |nil=>cases hm
 |cons p r ih=>
  obtain⟨q,v⟩:=p
  simp only[aW]at h
  by_cases h2:q=k
  ·rw[if_pos h2]at h;cases h
  ·rw[if_neg h2]at h
   rcases acp.1 hm with e|hm
   ·exact h2 e.symm
   ·exact ih h hm
theorem qq{m:List (κ×β)}{k:κ}{x:β}(hn:Nk m)(h:(k,x)∈m):aW m k=some x:=by
 induction m with
 |nil=>cases h
 |cons p r ih=>
  obtain⟨q,v⟩:=p
  have G5:=List.nodup_cons.1 hn
  simp only[aW]
  rcases acp.1 h with e|h
  ·injection e with e1 e2;subst e1;subst e2;exact if_pos rfl
  ·rw[if_neg,ih G5.2 h]
   rintro rfl
   exact G5.1 (acL.2 ⟨_,h,rfl⟩)
theorem uG(m:List (κ×β))(k:κ)(x:β):(aI m k x).map (·.1)=if k∈m.map (·.1)then m.map (·.1)else m.map (·.1)++[k]:=by
 induction m with
 |nil=>simp[aI]
 |cons p r ih=>
  obtain⟨q,v⟩:=p
  simp only[aI,List.map_cons,acp]
  by_cases h:q=k
  ·subst h;simp
  ·rw[if_neg h,List.map_cons,ih]
   have:k≠q:=fun e=>h e.symm
   by_cases h2:k∈r.map (·.1)
   ·rw[if_pos h2,if_pos (.inr h2)]
   ·rw[if_neg h2,if_neg (by simp[this,h2])];rfl
theorem Nk.put{m:List (κ×β)}(h:Nk m)(k:κ)(x:β):Nk (aI m k x):=by
 unfold Nk
 rw[uG]
 split
 ·exact h
 ·rename_i h2
  rw[List.nodup_append]
  refine⟨h,by simp,fun a ha b hb=>?_⟩
  rw[aco]at hb;subst hb
  rintro rfl;exact h2 ha
theorem Pd(m:List (κ×β))(k:κ):(sX m k).Sublist m:=by
 induction m with
 |nil=>exact .slnil
 |cons p r ih=>
  obtain⟨q,v⟩:=p
  simp only[sX]
  split
  ·exact List.sublist_cons_self _ _
  ·exact ih.cons_cons _
theorem Nk.del{m:List (κ×β)}(h:Nk m)(k:κ):Nk (sX m k):=h.sublist ((Pd m k).map _)
theorem Fk{m:List (κ×β)}(h:Nk m)(k k':κ):aW (sX m k) k'=if k=k' then none else aW m k':=by
 induction m with
 |nil=>simp[sX,aW]
 |cons p r ih=>
  obtain⟨q,v⟩:=p
  have G5:=List.nodup_cons.1 h
  simp only[sX]
  by_cases h1:q=k
  ·subst h1
   rw[if_pos rfl]
   by_cases h2:q=k'
   ·subst h2
    rw[if_pos rfl];exact mT G5.1
   ·rw[if_neg h2];simp only[aW];rw[if_neg h2]
  ·rw[if_neg h1]
   simp only[aW,ih G5.2]
   by_cases h2:q=k'
   ·rw[if_pos h2,if_pos h2,if_neg (by rintro rfl;exact h1 h2)]
   ·rw[if_neg h2,if_neg h2]
theorem Nk.perm{m m':List (κ×β)}(h:Nk m)(p:m.Perm m'):Nk m':=(p.map _).nodup_iff.1 h
theorem Be{m m':List (κ×β)}(h:Nk m)(p:m.Perm m')(k:κ):aW m k=aW m' k:=by
 cases hg:aW m k with
 |some x=>exact(qq (h.perm p) (p.mem_iff.1 (lx hg))).symm
 |none=>
  have:=Pc.1 hg
  exact(mT fun hm=>this ((p.map _).mem_iff.2 hm)).symm
def eM(ek:κ->DV)(ev:β->DV)(m:List (κ×β)):List DV:=m.map fun p=>.fF (ek p.1) (ev p.2)
variable {ek:κ->DV} {ev:β->DV} (hk:∀a b,tI (ek a) (ek b)=decide (a=b))
include hk
theorem jz(m:List (κ×β))(k:κ):bY (eM ek ev m) (ek k)=(aW m k).map ev:=by
 induction m with
 |nil=>rfl
 |cons p r ih=>
  obtain⟨q,v⟩:=p
  show(bif tI (ek q) (ek k)then some (ev v)else bY (eM ek ev r) (ek k))=_
  rw[hk,ih]
  simp only[aW]
  by_cases h:q=k
  ·rw[acG h,if_pos h];rfl
  ·rw[acH h,if_neg h];rfl
theorem cY(m:List (κ×β))(k:κ)(x:β):cR (eM ek ev m) (ek k) (ev x)=eM ek ev (aI m k x):=by
 induction m with
 |nil=>rfl
 |cons p r ih=>
  obtain⟨q,v⟩:=p
  show(bif tI (ek q) (ek k)then DV.fF (ek k) (ev x)::eM ek ev r else .fF (ek q) (ev v)::cR (eM ek ev r) (ek k) (ev x))=_
  rw[hk,ih]
  simp only[aI]
  by_cases h:q=k
  ·rw[acG h,if_pos h];rfl
  ·rw[acH h,if_neg h];rfl
theorem SP(m:List (κ×β))(k:κ):iz (eM ek ev m) (ek k)=eM ek ev (sX m k):=by
 induction m with
 |nil=>rfl
 |cons p r ih=>
  obtain⟨q,v⟩:=p
  show(bif tI (ek q) (ek k)then eM ek ev r else .fF (ek q) (ev v)::iz (eM ek ev r) (ek k))=_
  rw[hk,ih]
  simp only[sX]
  by_cases h:q=k
  ·rw[acG h,if_pos h];rfl
  ·rw[acH h,if_neg h];rfl
end
end
end Go.Proofs.YtmojfblpbcficaaGreatDoor
