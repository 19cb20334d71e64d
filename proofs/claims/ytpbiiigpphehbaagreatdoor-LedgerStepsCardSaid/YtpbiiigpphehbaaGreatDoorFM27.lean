import Derived.Test.YtpbiiigpphehbaaGreatDoorFM26
set_option linter.all false
namespace Go.Proofs.YtpbiiigpphehbaaGreatDoor
section
structure Lt where
 f:Int
 a:Int
 n:Int
theorem Lt.ext'{x y:Lt}(h1:x.f=y.f)(h2:x.a=y.a)(h3:x.n=y.n):x=y:=by cases x;cases y;simp_all
def lA(x:Lt)(f u:Int):Prop:=x.f=f/\x.a<=u/\u<x.a+x.n
def has(l:List Lt)(f u:Int):Prop:=∃x∈l,lA x f u
theorem bG{f u:Int}:¬has [] f u:=fun⟨_,h,_⟩=>by cases h
theorem bE{x:Lt}{l:List Lt}{f u:Int}:has (x::l) f u↔lA x f u\/has l f u:=by
 constructor
 ·rintro⟨y,hy,h⟩
  rcases abG.1 hy with rfl|hy
  ·exact .inl h
  ·exact .inr ⟨y,hy,h⟩
 ·rintro(h|⟨y,hy,h⟩)
  ·exact⟨x,abL,h⟩
  ·exact⟨y,abH _ hy,h⟩
theorem eH{l r:List Lt}{f u:Int}:has (l++r) f u↔has l f u\/has r f u:=by
 induction l with
 |nil=>simp[bG]
 |cons x l ih=>rw[List.cons_append,bE,bE,ih,or_assoc]
def Am(x y:Lt):Prop:=x.f<y.f\/x.f=y.f/\x.a+x.n<y.a
structure NS(l:List Lt):Prop where
 rJ:l.Pairwise Am
 pos:∀x∈l,1<=x.n
theorem NS.nil:NS []:=⟨.nil,fun _ h=>by cases h⟩
theorem NS.tail{x:Lt}{l:List Lt}(h:NS (x::l)):NS l:=⟨(List.pairwise_cons.1 h.rJ).2,fun y hy=>h.pos y (abH _ hy)⟩
theorem NS.head{x:Lt}{l:List Lt}(h:NS (x::l)):1<=x.n/\∀y∈l,Am x y:=⟨h.pos x abL,(List.pairwise_cons.1 h.rJ).1⟩
theorem NS.first{x:Lt}{l:List Lt}(h:NS (x::l)){f u:Int}(hu:has (x::l) f u):x.f<f\/x.f=f/\x.a<=u:=by
 rcases bE.1 hu with h1|⟨y,hy,h1⟩
 ·exact .inr ⟨h1.1,h1.2.1⟩
 ·have:=h.head.2 y hy
  have:=h.head.1
  obtain⟨h2,h3,h4⟩:=h1
  unfold Am at*
  omega
theorem NS.uniq:∀{l r:List Lt},NS l->NS r->(∀f u,has l f u↔has r f u)->l=r
 |[],[],_,_,_=>rfl
 |[],y::r,_,hr,h=>absurd ((h y.f y.a).2 (bE.2 (.inl ⟨rfl,Int.le_refl _,by have:=hr.head.1;omega⟩))) bG
 |x::l,[],hl,_,h=>absurd ((h x.f x.a).1 (bE.2 (.inl ⟨rfl,Int.le_refl _,by have:=hl.head.1;omega⟩))) bG
 |x::l,y::r,hl,hr,h=>by
  have px:=hl.head.1
  have py:=hr.head.1
  have h1:=hr.first ((h x.f x.a).1 (bE.2 (.inl ⟨rfl,Int.le_refl _,by omega⟩)))
  have h2:=hl.first ((h y.f y.a).2 (bE.2 (.inl ⟨rfl,Int.le_refl _,by omega⟩)))
  have ef:x.f=y.f:=by omega
  have ea:x.a=y.a:=by omega
  have key:∀{p q:Lt} {l r:List Lt},NS (p::l)->NS (q::r)->(∀f u,has (p::l) f u->has (q::r) f u)->p.f=q.f->p.a=q.a->p.n<=q.n:=by
   intro p q l r hp hq hh e1 e2
   rcases Int.lt_or_le q.n p.n with au|hle
   ·exfalso
    have p1:=hp.head.1
    have q1:=hq.head.1
    rcases bE.1 (hh p.f (q.a+q.n) (bE.2 (.inl ⟨rfl,by omega,by omega⟩)))with h3|⟨z,hz,h3⟩
    ·have:=h3.2.2;omega
    ·have:=hq.head.2 z hz
     obtain⟨h4,h5,h6⟩:=h3
     unfold Am at this
     omega
   ·exact hle
  have en:x.n=y.n:=Int.le_antisymm (key hl hr (fun f u=>(h f u).1) ef ea) (key hr hl (fun f u=>(h f u).2) ef.symm ea.symm)
  have exy:=Lt.ext' ef ea en
  subst exy
  congr 1
  refine NS.uniq hl.tail hr.tail fun f u=>?_
  have dis:∀{s:List Lt},NS (x::s)->has s f u->¬lA x f u:=by
   rintro s hs ⟨z,hz,h4⟩ h5
   have:=hs.head.2 z hz
   obtain⟨a1,a2,a3⟩:=h4
   obtain⟨b1,b2,b3⟩:=h5
   unfold Am at this
   omega
  constructor
  ·intro h3
   rcases bE.1 ((h f u).1 (bE.2 (.inr h3)))with h4|h4
   ·exact absurd h4 (dis hl h3)
   ·exact h4
  ·intro h3
   rcases bE.1 ((h f u).2 (bE.2 (.inr h3)))with h4|h4
   ·exact absurd h4 (dis hr h3)
   ·exact h4
def du(l:List Lt):Int:=(l.map (·.n)).sum
def bj(l:List Lt)(x:Lt):List Lt:=
 if x.n=0 then l else match l.getLast? with
  |some y=>if y.f=x.f/\y.a+y.n=x.a then l.dropLast++[⟨y.f,y.a,y.n+x.n⟩]else l++[x]
  |none=>[x]
theorem gS{l:List Lt}{y:Lt}(h:l.getLast?=some y):l=l.dropLast++[y]:=by
 rcases List.eq_nil_or_concat l with rfl|⟨r,z,rfl⟩
 ·cases h
 ·rw[List.concat_eq_append]at h⊢
  simp at h
  subst h
  simp
theorem OY{l:List Lt}{x:Lt}(hl:∀y∈l,0<=y.n)(hx:0<=x.n){f u:Int}:has (bj l x) f u↔has l f u\/lA x f u:=by
 unfold bj
 split
 ·rename_i h0
  constructor
  ·exact .inl
  ·rintro(h|h)
   ·exact h
   ·have:=h.2;omega
 split
 ·rename_i y hy
  have e:=gS hy
  have hyn:=hl y (List.mem_of_getLast? hy)
  split
  ·rename_i hc
   rw[eH]
   conv=>rhs;rw[e,eH]
   rw[or_assoc]
   refine or_congr Iff.rfl ?_
   constructor
   ·rintro⟨z,hz,h⟩
    rw[abF]at hz;subst hz
    obtain⟨h1,h2,h3⟩:=h
    simp only at h1 h2 h3
    by_cases hu:u<y.a+y.n
    ·exact .inl ⟨y,abF.2 rfl,h1,h2,hu⟩
    ·exact .inr ⟨by omega,by omega,by omega⟩
   ·rintro(⟨z,hz,h⟩|h)
    ·rw[abF]at hz;subst hz
     exact⟨_,abF.2 rfl,h.1,h.2.1,by have:=h.2.2;simp only;omega⟩
    ·exact⟨_,abF.2 rfl,by rw[hc.1];exact h.1,by have:=h.2.1;simp only;omega,by have:=h.2.2;simp only;omega⟩
  ·rw[eH]
   refine or_congr Iff.rfl ?_
   rw[bE]
   exact⟨fun h=>h.resolve_right bG,.inl⟩
 ·rename_i hn
  have:l=[]:=List.getLast?_eq_none_iff.1 hn
  subst this
  rw[bE]
  exact⟨fun h=>.inr (h.resolve_right bG),fun h=>.inl (h.resolve_left bG)⟩
theorem Fv{l:List Lt}{x:Lt}(hl:∀y∈l,1<=y.n)(hx:0<=x.n):∀y∈bj l x,1<=y.n:=by
 unfold bj
 split
 ·exact hl
 rename_i h0
 split
 ·rename_i y hy
  have hyn:=hl y (List.mem_of_getLast? hy)
  intro z hz
  split at hz
  ·rcases abI.1 hz with h|h
   ·exact hl z (List.dropLast_subset _ h)
   ·rw[abF]at h;subst h;simp only;omega
  ·rcases abI.1 hz with h|h
   ·exact hl z h
   ·rw[abF]at h;subst h;omega
 ·intro z hz
  rw[abF]at hz;subst hz;omega
theorem sW(l r:List Lt):du (l++r)=du l+du r:=by simp[du]
theorem Fw(l:List Lt)(x:Lt):du (bj l x)=du l+x.n:=by
 unfold bj
 split
 ·rename_i h;omega
 split
 ·rename_i y hy
  have e:=gS hy
  split
  ·rw[sW]
   conv=>rhs;rw[e,sW]
   simp[du];omega
  ·rw[sW];simp[du]
 ·rename_i hn
  have:l=[]:=List.getLast?_eq_none_iff.1 hn
  subst this;simp[du]
theorem fj(l:List Lt)(x:Lt):(bj l x).length<=l.length+1:=by
 unfold bj
 split
 ·omega
 split
 ·rename_i y hy
  have e:=congrArg List.length (gS hy)
  split<;>simp at e⊢<;>omega
 ·simp
end
section
structure TX where
 OZ:List Lt
 Q3:List Lt
 fr:Int
 to:Int
def wz(l:Lt)(s:TX)(x:Lt):TX:=
 if x.f<l.f\/x.f=l.f/\x.a+x.n<s.fr then { s with OZ:=s.OZ++[x] }
 else if l.f<x.f\/s.to<x.a then { s with Q3:=s.Q3++[x] }
 else { s with fr:=min s.fr x.a,to:=max s.to (x.a+x.n) }
def O0(l:Lt)(s:TX):List Lt:=s.OZ++[⟨l.f,s.fr,s.to-s.fr⟩]++s.Q3
def jX(s:List Lt)(l:Lt):List Lt:=O0 l (s.foldl (wz l) ⟨[],[],l.a,l.a+l.n⟩)
def iT(l:List Lt):List Lt:=l.foldl jX []
structure yI(l:Lt)(p:List Lt)(s:TX):Prop where
 bs:s.OZ.Sublist p
 as:s.Q3.Sublist p
 bg:∀x∈s.OZ,x.f<l.f\/x.f=l.f/\x.a+x.n<s.fr
 ag:∀x∈s.Q3,l.f<x.f\/x.f=l.f/\s.to<x.a
 fr:s.fr<=l.a
 to:l.a+l.n<=s.to
 un:∀f u,has s.OZ f u\/has s.Q3 f u\/(l.f=f/\s.fr<=u/\u<s.to)↔has p f u\/lA l f u
theorem NS.sub{l r:List Lt}(h:NS r)(hs:l.Sublist r):NS l:=⟨h.rJ.sublist hs,fun x hx=>h.pos x (hs.subset hx)⟩
theorem yI.step{l:Lt}{p:List Lt}{s:TX}{x:Lt}(h:yI l p s)(hl:1<=l.n)(hp:NS (p++[x])):yI l (p++[x]) (wz l s x):=by
 have hx:=hp.pos x (by simp)
 have hg:∀y∈p,Am y x:=fun y hy=>(List.pairwise_append.1 hp.rJ).2.2 y hy x (abF.2 rfl)
 obtain⟨h1,h2,h3,h4,h5,h6,h7⟩:=h
 have wj:∀f u,has [x] f u↔lA x f u:=fun f u=>by rw[bE];exact⟨fun h=>h.resolve_right bG,.inl⟩
 unfold wz
 split
 ·rename_i hc
  refine⟨h1.append_right [x],h2.trans (List.sublist_append_left _ _),fun y hy=>?_,h4,h5,h6,fun f u=>?_⟩
  ·rcases abI.1 hy with hy|hy
   ·exact h3 y hy
   ·rw[abF]at hy;subst hy;exact hc
  ·show has (s.OZ++[x]) f u\/_↔_
   rw[eH,eH,wj]
   have:=h7 f u
   constructor
   ·rintro((h|h)|h|h)
    ·exact(this.1 (.inl h)).imp .inl id
    ·exact .inl (.inr h)
    ·exact(this.1 (.inr (.inl h))).imp .inl id
    ·exact(this.1 (.inr (.inr h))).imp .inl id
   ·rintro((h|h)|h)
    ·rcases this.2 (.inl h)with h|h|h
     ·exact .inl (.inl h)
     ·exact .inr (.inl h)
     ·exact .inr (.inr h)
    ·exact .inl (.inr h)
    ·rcases this.2 (.inr h)with h|h|h
     ·exact .inl (.inl h)
     ·exact .inr (.inl h)
     ·exact .inr (.inr h)
 rename_i tJ
 split
 ·rename_i hc
  refine⟨h1.trans (List.sublist_append_left _ _),h2.append_right [x],h3,fun y hy=>?_,h5,h6,fun f u=>?_⟩
  ·rcases abI.1 hy with hy|hy
   ·exact h4 y hy
   ·rw[abF]at hy;subst hy
    show l.f<y.f\/y.f=l.f/\s.to<y.a
    omega
  ·show has s.OZ f u\/has (s.Q3++[x]) f u\/_↔_
   rw[eH,eH,wj]
   have:=h7 f u
   constructor
   ·rintro(h|(h|h)|h)
    ·exact(this.1 (.inl h)).imp .inl id
    ·exact(this.1 (.inr (.inl h))).imp .inl id
    ·exact .inl (.inr h)
    ·exact(this.1 (.inr (.inr h))).imp .inl id
   ·rintro((h|h)|h)
    ·rcases this.2 (.inl h)with h|h|h
     ·exact .inl h
     ·exact .inr (.inl (.inl h))
     ·exact .inr (.inr h)
    ·exact .inr (.inl (.inr h))
    ·rcases this.2 (.inr h)with h|h|h
     ·exact .inl h
     ·exact .inr (.inl (.inl h))
     ·exact .inr (.inr h)
 ·rename_i yx
  have ef:x.f=l.f:=by omega
  refine⟨h1.trans (List.sublist_append_left _ _),h2.trans (List.sublist_append_left _ _),fun y hy=>?_,fun y hy=>?_,?_,?_,fun f u=>?_⟩
  ·have a1:=h3 y hy
   have a2:=hg y (h1.subset hy)
   show y.f<l.f\/y.f=l.f/\y.a+y.n<min s.fr x.a
   unfold Am at a2
   omega
  ·have a1:=h4 y hy
   have a2:=hg y (h2.subset hy)
   have a3:=hp.pos y (List.mem_append_left _ (h2.subset hy))
   unfold Am at a2
   omega
  ·show min s.fr x.a<=l.a;omega
  ·show l.a+l.n<=max s.to (x.a+x.n);omega
  ·show has s.OZ f u\/has s.Q3 f u\/(l.f=f/\min s.fr x.a<=u/\u<max s.to (x.a+x.n))↔_
   rw[eH,wj]
   have:=h7 f u
   constructor
   ·rintro(h|h|h)
    ·exact(this.1 (.inl h)).imp .inl id
    ·exact(this.1 (.inr (.inl h))).imp .inl id
    ·by_cases hu:s.fr<=u/\u<s.to
     ·exact(this.1 (.inr (.inr ⟨h.1,hu⟩))).imp .inl id
     ·exact .inl (.inr ⟨by omega,by omega,by omega⟩)
   ·rintro((h|h)|h)
    ·rcases this.2 (.inl h)with h|h|h
     ·exact .inl h
     ·exact .inr (.inl h)
     ·exact .inr (.inr ⟨h.1,by omega,by omega⟩)
    ·exact .inr (.inr ⟨by rw[<-ef];exact h.1,by have:=h.2.1;omega,by have:=h.2.2;omega⟩)
    ·rcases this.2 (.inr h)with h|h|h
     ·exact .inl h
     ·exact .inr (.inl h)
     ·exact .inr (.inr ⟨h.1,by omega,by omega⟩)
theorem yI.fold{l:Lt}(hl:1<=l.n):∀(r p:List Lt) (s:TX),NS (p++r)->yI l p s->yI l (p++r) (r.foldl (wz l) s)
 |[],p,s,_,h=>by simpa using h
 |x::r,p,s,hn,h=>by
  rw[List.foldl_cons]
  have e:p++x::r=(p++[x])++r:=by simp
  rw[e]at hn⊢
  exact yI.fold hl r (p++[x]) _ hn (h.step hl (hn.sub (List.sublist_append_left _ _)))
theorem J8{s:List Lt}{l:Lt}(hs:NS s)(hl:1<=l.n):NS (jX s l)/\∀f u,has (jX s l) f u↔has s f u\/lA l f u:=by
 have h0:yI l [] ⟨[],[],l.a,l.a+l.n⟩:=⟨.slnil,.slnil,fun _ h=>(by cases h),fun _ h=>(by cases h),Int.le_refl _,Int.le_refl _,fun f u=>by
  have a:¬has [] f u:=bG
  exact⟨fun h=>.inr ((h.resolve_left a).resolve_left a),fun h=>.inr (.inr (h.resolve_left a))⟩⟩
 have h:=yI.fold hl s [] _ (by simpa using hs) h0
 simp only[List.nil_append]at h
 unfold jX O0
 generalize s.foldl (wz l) ⟨[],[],l.a,l.a+l.n⟩=z at h
 obtain⟨h1,h2,h3,h4,h5,h6,h7⟩:=h
 refine⟨⟨?_,fun x hx=>?_⟩,fun f u=>?_⟩
 ·rw[List.pairwise_append,List.pairwise_append]
  refine⟨⟨(hs.sub h1).rJ,ab7 _ _,fun x hx y hy=>?_⟩,(hs.sub h2).rJ,fun x hx y hy=>?_⟩
  ·rw[abF]at hy;subst hy;exact h3 x hx
  ·rcases abI.1 hx with hx|hx
   ·have a1:=h3 x hx
    have a2:=h4 y hy
    unfold Am
    omega
   ·rw[abF]at hx;subst hx
    have a2:=h4 y hy
    unfold Am
    simp only
    omega
 ·rcases abI.1 hx with hx|hx
  ·rcases abI.1 hx with hx|hx
   ·exact hs.pos x (h1.subset hx)
   ·rw[abF]at hx;subst hx;simp only;omega
  ·exact hs.pos x (h2.subset hx)
 ·rw[eH,eH,or_assoc,<-h7]
  refine or_congr Iff.rfl ?_
  rw[or_comm]
  refine or_congr Iff.rfl ?_
  rw[bE]
  constructor
  ·rintro(h|h)
   ·exact⟨h.1,h.2.1,by have:=h.2.2;simp only at this;omega⟩
   ·exact absurd h bG
  ·rintro h
   exact .inl ⟨h.1,h.2.1,by simp only;omega⟩
theorem Bm:∀(l s:List Lt),NS s->(∀x∈l,1<=x.n)->NS (l.foldl jX s)/\∀f u,has (l.foldl jX s) f u↔has s f u\/has l f u
 |[],s,hs,_=>⟨hs,fun f u=>⟨.inl,fun h=>h.resolve_right bG⟩⟩
 |x::l,s,hs,hl=>by
  have h1:=J8 hs (hl x abL)
  have h2:=Bm l (jX s x) h1.1 fun y hy=>hl y (abH _ hy)
  refine⟨h2.1,fun f u=>?_⟩
  rw[List.foldl_cons,h2.2,h1.2,bE,or_assoc]
theorem w4{l:List Lt}(hl:∀x∈l,1<=x.n):NS (iT l)/\∀f u,has (iT l) f u↔has l f u:=by
 have h:=Bm l [] NS.nil hl
 exact⟨h.1,fun f u=>(h.2 f u).trans ⟨fun h=>h.resolve_left bG,.inr⟩⟩
def pz(s:List Lt)(x:Lt):List Lt:=match s.getLast? with
 |some y=>if y.f=x.f/\x.a<=y.a+y.n then s.dropLast++[⟨y.f,y.a,max y.n (x.a+x.n-y.a)⟩]else s++[x]
 |none=>[x]
def leq(x y:Lt):Prop:=x.f<y.f\/x.f=y.f/\x.a<=y.a
theorem O1{s:List Lt}{x:Lt}(hs:NS s)(hx:1<=x.n)(hl:∀y∈s,leq y x):NS (pz s x)/\(∀f u,has (pz s x) f u↔has s f u\/lA x f u)/\∀z,leq x z->(∀y∈s,leq y z)->∀y∈pz s x,leq y z:=by
 unfold pz
 split
 ·rename_i y hy
  have e:=gS hy
  have hyn:=hs.pos y (List.mem_of_getLast? hy)
  have hyl:=hl y (List.mem_of_getLast? hy)
  split
  ·rename_i hc
   have hg:=hs.rJ
   rw[e]at hg
   have DZ:=List.pairwise_append.1 hg
   refine⟨⟨?_,fun z hz=>?_⟩,fun f u=>?_,fun z h1 h2 w hw=>?_⟩
   ·rw[List.pairwise_append]
    refine⟨DZ.1,ab7 _ _,fun p hp q hq=>?_⟩
    rw[abF]at hq;subst hq
    exact DZ.2.2 p hp y (abF.2 rfl)
   ·rcases abI.1 hz with hz|hz
    ·exact hs.pos z (List.dropLast_subset _ hz)
    ·rw[abF]at hz;subst hz;simp only;omega
   ·rw[eH]
    conv=>rhs;rw[e,eH]
    rw[or_assoc]
    refine or_congr Iff.rfl ?_
    unfold leq at hyl
    constructor
    ·rintro⟨z,hz,h⟩
     rw[abF]at hz;subst hz
     obtain⟨h1,h2,h3⟩:=h
     simp only at h1 h2 h3
     by_cases hu:u<y.a+y.n
     ·exact .inl ⟨y,abF.2 rfl,h1,h2,hu⟩
     ·exact .inr ⟨by omega,by omega,by omega⟩
    ·rintro(⟨z,hz,h⟩|h)
     ·rw[abF]at hz;subst hz
      exact⟨_,abF.2 rfl,h.1,h.2.1,by have:=h.2.2;simp only;omega⟩
     ·exact⟨_,abF.2 rfl,by rw[hc.1];exact h.1,by have:=h.2.1;simp only;omega,by have:=h.2.2;simp only;omega⟩
   ·rcases abI.1 hw with hw|hw
    ·exact h2 w (List.dropLast_subset _ hw)
    ·rw[abF]at hw;subst hw
     exact h2 y (List.mem_of_getLast? hy)
  ·rename_i hc
   refine⟨⟨?_,fun z hz=>?_⟩,fun f u=>?_,fun z h1 h2 w hw=>?_⟩
   ·rw[List.pairwise_append]
    refine⟨hs.rJ,ab7 _ _,fun p hp q hq=>?_⟩
    rw[abF]at hq;subst hq
    have hyq:Am y q:=by unfold Am;unfold leq at hyl;omega
    rw[e]at hp
    rcases abI.1 hp with hp|hp
    ·have hg:=hs.rJ
     rw[e]at hg
     have:=(List.pairwise_append.1 hg).2.2 p hp y (abF.2 rfl)
     unfold Am at*
     omega
    ·rw[abF]at hp;subst hp;exact hyq
   ·rcases abI.1 hz with hz|hz
    ·exact hs.pos z hz
    ·rw[abF]at hz;subst hz;exact hx
   ·rw[eH]
    refine or_congr Iff.rfl ?_
    rw[bE]
    exact⟨fun h=>h.resolve_right bG,.inl⟩
   ·rcases abI.1 hw with hw|hw
    ·exact h2 w hw
    ·rw[abF]at hw;subst hw;exact h1
 ·rename_i hn
  have:s=[]:=List.getLast?_eq_none_iff.1 hn
  subst this
  refine⟨⟨ab7 _ _,fun z hz=>?_⟩,fun f u=>?_,fun z h1 _ w hw=>?_⟩
  ·rw[abF]at hz;subst hz;exact hx
  ·rw[bE]
   exact⟨fun h=>.inr (h.resolve_right bG),fun h=>.inl (h.resolve_left bG)⟩
  ·rw[abF]at hw;subst hw;exact h1
theorem Fx:∀(l s:List Lt),NS s->(∀x∈l,1<=x.n)->l.Pairwise leq->(∀x∈l,∀y∈s,leq y x)->NS (l.foldl pz s)/\∀f u,has (l.foldl pz s) f u↔has s f u\/has l f u
 |[],s,hs,_,_,_=>⟨hs,fun f u=>⟨.inl,fun h=>h.resolve_right bG⟩⟩
 |x::l,s,hs,hl,hp,hb=>by
  obtain⟨h1,h2,h3⟩:=O1 hs (hl x abL) (hb x abL)
  have X4:=List.pairwise_cons.1 hp
  have h4:=Fx l (pz s x) h1 (fun y hy=>hl y (abH _ hy)) X4.2 fun z hz=>h3 z (X4.1 z hz) (hb z (abH _ hz))
  refine⟨h4.1,fun f u=>?_⟩
  rw[List.foldl_cons,h4.2,h2,bE,or_assoc]
theorem R9{l d:List Lt}(hl:∀x∈l,1<=x.n)(hp:d.Perm l)(hd:d.Pairwise leq):d.foldl pz []=iT l:=by
 have h1:=Fx d [] NS.nil (fun x hx=>hl x (hp.mem_iff.1 hx)) hd fun _ _ _ h=>by cases h
 have h2:=w4 hl
 refine h1.1.uniq h2.1 fun f u=>?_
 rw[h1.2,h2.2]
 constructor
 ·rintro(h|⟨x,hx,h⟩)
  ·exact absurd h bG
  ·exact⟨x,hp.mem_iff.1 hx,h⟩
 ·rintro⟨x,hx,h⟩
  exact .inr ⟨x,hp.mem_iff.2 hx,h⟩
theorem Sa{l:List Lt}(h:NS l):iT l=l:=(w4 h.pos).1.uniq h (w4 h.pos).2
end
section
def jG(x s:Lt):Bool:=decide (x.f<s.f\/s.f=x.f/\x.a<s.a+s.n)
def D0:Lt->List Lt->List (Lt×Bool)
 |x,[]=>if 0<x.n then[(x,false)]else[]
 |x,s::r=>if 0<x.n/\s.f=x.f/\s.a<x.a+x.n then
  (if 0<max 0 (s.a-x.a)then[(⟨x.f,x.a,max 0 (s.a-x.a)⟩,false)]else[])++
   (⟨x.f,x.a+max 0 (s.a-x.a),min (x.n-max 0 (s.a-x.a)) (s.a+s.n-(x.a+max 0 (s.a-x.a)))⟩,true)::
    D0 ⟨x.f,x.a+max 0 (s.a-x.a)+min (x.n-max 0 (s.a-x.a)) (s.a+s.n-(x.a+max 0 (s.a-x.a))),x.n-max 0 (s.a-x.a)-min (x.n-max 0 (s.a-x.a)) (s.a+s.n-(x.a+max 0 (s.a-x.a)))⟩ r
  else if 0<x.n then[(x,false)]else[]
def oA(set:List Lt)(x:Lt):List (Lt×Bool):=D0 x (set.dropWhile fun s=>!jG x s)
def Bn(b:Bool)(l:List (Lt×Bool)):List Lt:=(l.filter fun p=>p.2==b).map (·.1)
theorem w5(b:Bool)(l r:List (Lt×Bool)):Bn b (l++r)=Bn b l++Bn b r:=by simp[Bn]
structure TY(x:Lt)(set:List Lt)(l:List (Lt×Bool)):Prop where
 ins:∀f u,has (Bn true l) f u↔lA x f u/\has set f u
 out:∀f u,has (Bn false l) f u↔lA x f u/\¬has set f u
 pos:∀p∈l,1<=p.1.n/\p.1.f=x.f/\x.a<=p.1.a/\p.1.a+p.1.n<=x.a+x.n
 rJ:(Bn false l).Pairwise Am
theorem sX{x:Lt}{f u:Int}:has [x] f u↔lA x f u:=by rw[bE];exact⟨fun h=>h.resolve_right bG,.inl⟩
theorem O2:∀(set:List Lt) (x:Lt),NS set->0<=x.n->(∀s∈set,jG x s=true)->TY x set (D0 x set)
 |[],x,_,hx,_=>by
  unfold D0
  split
  ·rename_i h0
   refine⟨fun f u=>?_,fun f u=>?_,fun p hp=>?_,ab7 _ _⟩
   ·exact⟨fun h=>absurd h bG,fun h=>absurd h.2 bG⟩
   ·show has [x] f u↔_
    rw[sX]
    exact⟨fun h=>⟨h,bG⟩,fun h=>h.1⟩
   ·rw[abF]at hp;subst hp;exact⟨h0,rfl,Int.le_refl _,Int.le_refl _⟩
  ·rename_i h0
   have c6:∀f u,¬lA x f u:=fun f u h=>by have:=h.2;omega
   exact⟨fun f u=>⟨fun h=>absurd h bG,fun h=>absurd h.1 (c6 f u)⟩,fun f u=>⟨fun h=>absurd h bG,fun h=>absurd h.1 (c6 f u)⟩,fun p hp=>(by cases hp),.nil⟩
 |s::r,x,hs,hx,hk=>by
  have h1:=hs.head.1
  have h2:=hs.head.2
  have oP:x.f<s.f\/s.f=x.f/\x.a<s.a+s.n:=by simpa[jG]using hk s abL
  unfold D0
  split
  ·rename_i hc
   obtain⟨c1,c2,c3⟩:=hc
   generalize ho:max 0 (s.a-x.a)=o
   generalize hi:min (x.n-o) (s.a+s.n-(x.a+o))=i
   have o0:0<=o:=by omega
   have i1:1<=i:=by omega
   have ih:=O2 r ⟨x.f,x.a+o+i,x.n-o-i⟩ hs.tail (by simp only;omega) fun t ht=>by
    have a1:=hk t (abH _ ht)
    have a2:=h2 t ht
    have a3:=hs.tail.pos t ht
    simp only[jG,decide_eq_true_eq]at a1⊢
    unfold Am at a2
    omega
   generalize D0 ⟨x.f,x.a+o+i,x.n-o-i⟩ r=L at ih
   have wm:∀f u,f=x.f->u<x.a+o+i->¬has r f u:=by
    rintro f u rfl hu ⟨t,ht,q⟩
    have a2:=h2 t ht
    obtain⟨q1,q2,q3⟩:=q
    unfold Am at a2
    omega
   have Q0:∀f u,lA ⟨x.f,x.a+o+i,x.n-o-i⟩ f u↔lA x f u/\x.a+o+i<=u:=fun f u=>by
    constructor
    ·rintro⟨q1,q2,q3⟩
     exact⟨⟨q1,by simp only at q2;omega,by simp only at q3;omega⟩,q2⟩
    ·rintro⟨⟨q1,q2,q3⟩,q4⟩
     exact⟨q1,q4,by simp only;omega⟩
   refine⟨fun f u=>?_,fun f u=>?_,fun p hp=>?_,?_⟩
   ·rw[w5]
    have e0:Bn true (if 0<o then[((⟨x.f,x.a,o⟩:Lt),false)]else[])=[]:=by split<;>rfl
    rw[e0,List.nil_append]
    show has (⟨x.f,x.a+o,i⟩::Bn true L) f u↔_
    rw[bE,ih.ins,Q0,bE]
    constructor
    ·rintro(h|h)
     ·obtain⟨q1,q2,q3⟩:=h
      simp only at q1 q2 q3
      exact⟨⟨q1,by omega,by omega⟩,.inl ⟨by omega,by omega,by omega⟩⟩
     ·exact⟨h.1.1,.inr h.2⟩
    ·rintro⟨h3,h4|h4⟩
     ·obtain⟨q1,q2,q3⟩:=h3
      obtain⟨q4,q5,q6⟩:=h4
      exact .inl ⟨q1,by simp only;omega,by simp only;omega⟩
     ·by_cases hu:x.a+o+i<=u
      ·exact .inr ⟨⟨h3,hu⟩,h4⟩
      ·exact absurd h4 (wm f u h3.1.symm (by omega))
   ·rw[w5]
    show has (_++Bn false L) f u↔_
    rw[eH,ih.out,Q0,bE]
    have e0:has (Bn false (if 0<o then[((⟨x.f,x.a,o⟩:Lt),false)]else[])) f u↔lA ⟨x.f,x.a,o⟩ f u:=by
     split
     ·exact sX
     ·exact⟨fun h=>absurd h bG,fun h=>by have:=h.2;simp only at this;omega⟩
    rw[e0]
    constructor
    ·rintro(h|h)
     ·obtain⟨q1,q2,q3⟩:=h
      simp only at q1 q2 q3
      refine⟨⟨q1,by omega,by omega⟩,?_⟩
      rintro(⟨q4,q5,q6⟩|h)
      ·omega
      ·exact wm f u q1.symm (by omega) h
     ·refine⟨h.1.1,?_⟩
      rintro(⟨q4,q5,q6⟩|h5)
      ·have:=h.1.2;have:=h.1.1.2;omega
      ·exact h.2 h5
    ·rintro⟨h3,h4⟩
     obtain⟨q1,q2,q3⟩:=h3
     by_cases hu:u<x.a+o
     ·exact .inl ⟨q1,q2,hu⟩
     ·refine .inr ⟨⟨⟨q1,q2,q3⟩,?_⟩,fun h=>h4 (.inr h)⟩
      rcases Int.lt_or_le u (x.a+o+i)with au|hle
      ·exact absurd (.inl ⟨by omega,by omega,by omega⟩) h4
      ·exact hle
   ·rcases abI.1 hp with hp|hp
    ·split at hp
     ·rw[abF]at hp;subst hp;exact⟨by simp only;omega,rfl,Int.le_refl _,by simp only;omega⟩
     ·cases hp
    ·rcases abG.1 hp with rfl|hp
     ·exact⟨i1,rfl,by simp only;omega,by simp only;omega⟩
     ·have:=ih.pos p hp
      simp only at this
      exact⟨this.1,this.2.1,by omega,by omega⟩
   ·rw[w5]
    show List.Pairwise Am (_++Bn false L)
    rw[List.pairwise_append]
    refine⟨by split;exact ab7 _ _;exact .nil,ih.rJ,fun y hy z hz=>?_⟩
    obtain⟨q,hq,rfl⟩:=ab1.1 hz
    have B1:=ih.pos q (List.mem_filter.1 hq).1
    simp only at B1
    split at hy
    ·have:y=⟨x.f,x.a,o⟩:=by simpa[Bn]using hy
     subst this
     right
     simp only
     omega
    ·cases hy
  ·rename_i hc
   have c6:∀f u,lA x f u->¬has (s::r) f u:=by
    rintro f u ⟨q1,q2,q3⟩ ⟨t,ht,q4,q5,q6⟩
    have hf:x.f<s.f\/s.f=x.f/\x.a+x.n<=s.a:=by omega
    rcases abG.1 ht with rfl|ht
    ·omega
    ·have a2:=h2 t ht
     unfold Am at a2
     omega
   split
   ·rename_i h0
    refine⟨fun f u=>⟨fun h=>absurd h bG,fun h=>absurd h.2 (c6 f u h.1)⟩,fun f u=>?_,fun p hp=>?_,ab7 _ _⟩
    ·show has [x] f u↔_
     rw[sX]
     exact⟨fun h=>⟨h,c6 f u h⟩,fun h=>h.1⟩
    ·rw[abF]at hp;subst hp;exact⟨h0,rfl,Int.le_refl _,Int.le_refl _⟩
   ·have YM:∀f u,¬lA x f u:=fun f u h=>by have:=h.2;omega
    exact⟨fun f u=>⟨fun h=>absurd h bG,fun h=>absurd h.1 (YM f u)⟩,fun f u=>⟨fun h=>absurd h bG,fun h=>absurd h.1 (YM f u)⟩,fun p hp=>(by cases hp),.nil⟩
theorem C0(x:Lt):∀(set:List Lt),NS set->NS (set.dropWhile fun s=>!jG x s)/\(∀s∈set.dropWhile fun s=>!jG x s,jG x s=true)/\∀f u,lA x f u->(has (set.dropWhile fun s=>!jG x s) f u↔has set f u)
 |[],_=>⟨NS.nil,fun _ h=>(by cases h),fun _ _ _=>Iff.rfl⟩
 |s::r,h=>by
  cases hk:jG x s with
  |true=>
   have e:(s::r).dropWhile (fun s=>!jG x s)=s::r:=by simp[hk]
   rw[e]
   refine⟨h,fun t ht=>?_,fun _ _ _=>Iff.rfl⟩
   rcases abG.1 ht with rfl|ht
   ·exact hk
   ·have a2:=h.head.2 t ht
    have a3:=h.tail.pos t ht
    simp only[jG,decide_eq_true_eq]at hk⊢
    unfold Am at a2
    omega
  |false=>
   have e:(s::r).dropWhile (fun s=>!jG x s)=r.dropWhile fun s=>!jG x s:=by simp[hk]
   rw[e]
   have ih:=C0 x r h.tail
   refine⟨ih.1,ih.2.1,fun f u hu=>?_⟩
   rw[ih.2.2 f u hu,bE]
   refine⟨.inr,fun h2=>h2.resolve_left fun h3=>?_⟩
   simp only[jG,acb]at hk
   obtain⟨q1,q2,q3⟩:=h3
   have:=hu.1
   have:=hu.2.1
   omega
theorem sY{set:List Lt}{x:Lt}(hs:NS set)(hx:0<=x.n):TY x set (oA set x):=by
 obtain⟨h1,h2,h3⟩:=C0 x set hs
 have h:=O2 _ x h1 hx h2
 refine⟨fun f u=>?_,fun f u=>?_,h.pos,h.rJ⟩
 ·exact(h.ins f u).trans (and_congr_right fun hu=>h3 f u hu)
 ·exact(h.out f u).trans (and_congr_right fun hu=>not_congr (h3 f u hu))
def kT(y x:Lt):List Lt:=if x.f≠y.f\/y.a+y.n<=x.a\/x.a+x.n<=y.a then[x]else(if x.a<y.a then[⟨y.f,x.a,y.a-x.a⟩]else[])++(if y.a+y.n<x.a+x.n then[⟨y.f,y.a+y.n,x.a+x.n-y.a-y.n⟩]else[])
def ji(l:List Lt)(y:Lt):List Lt:=l.flatMap (kT y)
def wA(x:Lt)(set:List Lt):List Lt:=set.foldl ji [x]
theorem J9{y x:Lt}(hy:1<=y.n)(hx:1<=x.n):NS (kT y x)/\(∀z∈kT y x,z.f=x.f/\x.a<=z.a/\z.a+z.n<=x.a+x.n)/\∀f u,has (kT y x) f u↔lA x f u/\¬lA y f u:=by
 unfold kT
 split
 ·rename_i hc
  refine⟨⟨ab7 _ _,fun z hz=>?_⟩,fun z hz=>?_,fun f u=>?_⟩
  ·rw[abF]at hz;subst hz;exact hx
  ·rw[abF]at hz;subst hz;exact⟨rfl,Int.le_refl _,Int.le_refl _⟩
  ·rw[sX]
   refine⟨fun h=>⟨h,fun h2=>?_⟩,fun h=>h.1⟩
   obtain⟨q1,q2,q3⟩:=h
   obtain⟨q4,q5,q6⟩:=h2
   omega
 ·rename_i hc
  have ef:x.f=y.f:=by omega
  have mem:∀z,z∈(if x.a<y.a then[(⟨y.f,x.a,y.a-x.a⟩:Lt)]else[])++(if y.a+y.n<x.a+x.n then[(⟨y.f,y.a+y.n,x.a+x.n-y.a-y.n⟩:Lt)]else[])↔(x.a<y.a/\z=⟨y.f,x.a,y.a-x.a⟩)\/(y.a+y.n<x.a+x.n/\z=⟨y.f,y.a+y.n,x.a+x.n-y.a-y.n⟩):=fun z=>by
   rw[abI]
   refine or_congr ?_ ?_<;>split<;>rename_i hh<;>simp[hh]
  refine⟨⟨?_,fun z hz=>?_⟩,fun z hz=>?_,fun f u=>?_⟩
  ·rw[List.pairwise_append]
   refine⟨by split;exact ab7 _ _;exact .nil,by split;exact ab7 _ _;exact .nil,fun p hp q hq=>?_⟩
   split at hp
   ·split at hq
    ·rw[abF]at hp hq;subst hp;subst hq
     exact .inr ⟨rfl,by show x.a+(y.a-x.a)<y.a+y.n;omega⟩
    ·cases hq
   ·cases hp
  ·rcases(mem z).1 hz with⟨h1,rfl⟩|⟨h1,rfl⟩<;>simp only<;>omega
  ·rcases(mem z).1 hz with⟨h1,rfl⟩|⟨h1,rfl⟩<;>simp only<;>omega
  ·constructor
   ·rintro⟨z,hz,q1,q2,q3⟩
    rcases(mem z).1 hz with⟨h1,rfl⟩|⟨h1,rfl⟩
    ·simp only at q1 q2 q3
     exact⟨⟨by omega,by omega,by omega⟩,fun h=>by have:=h.2;omega⟩
    ·simp only at q1 q2 q3
     exact⟨⟨by omega,by omega,by omega⟩,fun h=>by have:=h.2;omega⟩
   ·rintro⟨⟨q1,q2,q3⟩,h⟩
    by_cases hu:u<y.a
    ·exact⟨_,(mem _).2 (.inl ⟨by omega,rfl⟩),by simp only;omega,q2,by simp only;omega⟩
    ·by_cases XP:u<y.a+y.n
     ·exact absurd ⟨by omega,by omega,XP⟩ h
     ·exact⟨_,(mem _).2 (.inr ⟨by omega,rfl⟩),by simp only;omega,by simp only;omega,by simp only;omega⟩
theorem C1{y:Lt}(hy:1<=y.n):∀{l:List Lt},NS l->NS (ji l y)/\(∀z∈ji l y,∃x∈l,z.f=x.f/\x.a<=z.a/\z.a+z.n<=x.a+x.n)/\∀f u,has (ji l y) f u↔has l f u/\¬lA y f u
 |[],_=>⟨NS.nil,fun _ h=>(by cases h),fun f u=>⟨fun h=>absurd h bG,fun h=>absurd h.1 bG⟩⟩
 |x::l,h=>by
  obtain⟨a1,a2,a3⟩:=J9 hy h.head.1
  obtain⟨b1,b2,b3⟩:=C1 hy h.tail
  have e:ji (x::l) y=kT y x++ji l y:=rfl
  rw[e]
  refine⟨⟨?_,fun z hz=>?_⟩,fun z hz=>?_,fun f u=>?_⟩
  ·rw[List.pairwise_append]
   refine⟨a1.rJ,b1.rJ,fun p hp q hq=>?_⟩
   have c1:=a2 p hp
   obtain⟨t,ht,c2⟩:=b2 q hq
   have c3:=h.head.2 t ht
   unfold Am at*
   omega
  ·rcases abI.1 hz with hz|hz
   ·exact a1.pos z hz
   ·exact b1.pos z hz
  ·rcases abI.1 hz with hz|hz
   ·exact⟨x,abL,a2 z hz⟩
   ·obtain⟨t,ht,c⟩:=b2 z hz
    exact⟨t,abH _ ht,c⟩
  ·rw[eH,a3,b3,bE,or_and_right]
theorem Bo:∀(set l:List Lt),NS l->(∀y∈set,1<=y.n)->NS (set.foldl ji l)/\∀f u,has (set.foldl ji l) f u↔has l f u/\¬has set f u
 |[],l,h,_=>⟨h,fun f u=>⟨fun h=>⟨h,bG⟩,fun h=>h.1⟩⟩
 |y::set,l,h,hp=>by
  obtain⟨a1,_,a3⟩:=C1 (hp y abL) h
  obtain⟨b1,b2⟩:=Bo set (ji l y) a1 fun z hz=>hp z (abH _ hz)
  refine⟨b1,fun f u=>?_⟩
  rw[List.foldl_cons,b2,a3,bE,not_or,and_assoc]
theorem C2{x:Lt}(hx:1<=x.n){set:List Lt}(hs:∀y∈set,1<=y.n):NS (wA x set)/\∀f u,has (wA x set) f u↔lA x f u/\¬has set f u:=by
 have h:=Bo set [x] ⟨ab7 _ _,fun z hz=>by rw[abF]at hz;subst hz;exact hx⟩ hs
 exact⟨h.1,fun f u=>by rw[<-sX];exact h.2 f u⟩
def gf(p:List Lt×List Lt)(q:Lt×Bool):List Lt×List Lt:=bif q.2 then(bj p.1 q.1,p.2)else(p.1,bj p.2 q.1)
def An(l set:List Lt):List Lt×List Lt:=(l.flatMap (oA set)).foldl gf ([],[])
theorem C3:∀(l:List (Lt×Bool)) (p:List Lt×List Lt),l.foldl gf p=((Bn true l).foldl bj p.1,(Bn false l).foldl bj p.2)
 |[],p=>rfl
 |(x,true)::l,p=>by rw[List.foldl_cons,C3 l];rfl
 |(x,false)::l,p=>by rw[List.foldl_cons,C3 l];rfl
def O3(l P:List Lt):List Lt:=(l.flatMap fun x=>wA x P).foldl bj []
theorem Fy(b:Bool)(g:Lt->List (Lt×Bool)):∀l:List Lt,Bn b (l.flatMap g)=l.flatMap fun x=>Bn b (g x)
 |[]=>rfl
 |x::l=>by rw[List.flatMap_cons,w5,Fy b g l,List.flatMap_cons]
theorem C4:∀(l r:List Lt),(∀x∈l,1<=x.n)->(∀x∈r,1<=x.n)->(∀x∈l.foldl bj r,1<=x.n)/\∀f u,has (l.foldl bj r) f u↔has r f u\/has l f u
 |[],r,_,hr=>⟨hr,fun f u=>⟨.inl,fun h=>h.resolve_right bG⟩⟩
 |x::l,r,hl,hr=>by
  have hx:=hl x abL
  have h1:=C4 l (bj r x) (fun y hy=>hl y (abH _ hy)) (Fv hr (by omega))
  refine⟨h1.1,fun f u=>?_⟩
  rw[List.foldl_cons,h1.2,OY (fun y hy=>by have:=hr y hy;omega) (by omega),bE,or_assoc]
theorem sZ{g:Lt->List Lt}{f u:Int}:∀{l:List Lt},has (l.flatMap g) f u↔∃x∈l,has (g x) f u
 |[]=>⟨fun h=>absurd h bG,fun⟨_,h,_⟩=>by cases h⟩
 |x::l=>by rw[List.flatMap_cons,eH,sZ (l:=l)];simp
theorem VI{l P:List Lt}(hl:∀x∈l,1<=x.n)(hP:∀y∈P,1<=y.n):(∀x∈O3 l P,1<=x.n)/\∀f u,has (O3 l P) f u↔has l f u/\¬has P f u:=by
 have h:=C4 (l.flatMap fun x=>wA x P) [] (fun y hy=>by
  obtain⟨x,hx,hy⟩:=List.mem_flatMap.1 hy
  exact(C2 (hl x hx) hP).1.pos y hy) fun _ h=>by cases h
 refine⟨h.1,fun f u=>?_⟩
 show has (List.foldl bj [] _) f u↔_
 rw[h.2,sZ]
 constructor
 ·rintro(h|⟨x,hx,h⟩)
  ·exact absurd h bG
  ·have:=((C2 (hl x hx) hP).2 f u).1 h
   exact⟨⟨x,hx,this.1⟩,this.2⟩
 ·rintro⟨⟨x,hx,h1⟩,h2⟩
  exact .inr ⟨x,hx,((C2 (hl x hx) hP).2 f u).2 ⟨h1,h2⟩⟩
theorem Fz{l:List Lt}(hl:∀x∈l,1<=x.n)(h:∀f u,¬has l f u):l=[]:=by
 cases l with
 |nil=>rfl
 |cons x l=>exact absurd (bE.2 (.inl ⟨rfl,Int.le_refl _,by have:=hl x abL;omega⟩)) (h x.f x.a)
theorem Sb{a b:List Lt}(ha:∀x∈a,1<=x.n)(hb:∀y∈b,1<=y.n):O3 (iT a) b=[]↔∀f u,has a f u->has b f u:=by
 have h1:=w4 ha
 have h2:=VI h1.1.pos hb
 constructor
 ·intro h f u hu
  refine Classical.byContradiction fun hn=>?_
  have:=(h2.2 f u).2 ⟨(h1.2 f u).2 hu,hn⟩
  rw[h]at this
  exact bG this
 ·intro h
  exact Fz h2.1 fun f u hu=>((h2.2 f u).1 hu).2 (h f u ((h1.2 f u).1 ((h2.2 f u).1 hu).1))
theorem Sc{a set:List Lt}(ha:∀x∈a,1<=x.n)(hs:NS set):(An a set).1=[]↔∀f u,has a f u->¬has set f u:=by
 unfold An
 rw[C3]
 show(Bn true (a.flatMap (oA set))).foldl bj []=[]↔_
 rw[Fy]
 have h:=C4 (a.flatMap fun x=>Bn true (oA set x)) [] (fun y hy=>by
  obtain⟨x,hx,hy⟩:=List.mem_flatMap.1 hy
  obtain⟨q,hq,rfl⟩:=ab1.1 hy
  exact((sY hs (by have:=ha x hx;omega)).pos q (List.mem_filter.1 hq).1).1) fun _ h=>by cases h
 constructor
 ·rintro h0 f u ⟨x,hx,hu⟩ hn
  have h0:List.foldl bj [] (a.flatMap fun x=>Bn true (oA set x))=[]:=h0
  have:=(h.2 f u).2 (.inr (sZ.2 ⟨x,hx,((sY hs (by have:=ha x hx;omega)).ins f u).2 ⟨hu,hn⟩⟩))
  rw[h0]at this
  exact bG this
 ·intro h0
  refine Fz h.1 fun f u hu=>?_
  rcases(h.2 f u).1 hu with h4|h4
  ·exact bG h4
  ·obtain⟨x,hx,h5⟩:=sZ.1 h4
   have h6:=((sY hs (by have:=ha x hx;omega)).ins f u).1 h5
   exact h0 f u ⟨x,hx,h6.1⟩ h6.2
end
end Go.Proofs.YtpbiiigpphehbaaGreatDoor
