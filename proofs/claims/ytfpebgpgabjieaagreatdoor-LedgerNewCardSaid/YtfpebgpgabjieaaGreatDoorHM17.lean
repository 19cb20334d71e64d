import Derived.Test.YtfpebgpgabjieaaGreatDoorHM15
import Derived.Test.YtfpebgpgabjieaaGreatDoorHM13
import Derived.Test.YtfpebgpgabjieaaGreatDoorProg
import Derived.Test.YtfpebgpgabjieaaGreatDoorChecked
import Derived.KernelRfl
set_option linter.all false
namespace Go.Proofs.YtfpebgpgabjieaaGreatDoor
section
structure Lt where
 f:Int
 a:Int
 n:Int
theorem Lt.ext'{x y:Lt}(h1:x.f=y.f)(h2:x.a=y.a)(h3:x.n=y.n):x=y:=by cases x;simp_all
def fa(x:Lt)(f u:Int):Prop:=x.f=f/\x.a<=u/\u<x.a+x.n
def has(l:List Lt)(f u:Int):Prop:=∃x∈l,fa x f u
theorem cA{f u:Int}:¬has [] f u:=nofun
theorem bn{x:Lt}{l:List Lt}{f u:Int}:has (x::l) f u↔fa x f u\/has l f u:=by
 constructor
 ·rintro⟨y,hy,h⟩
  rcases adp.1 hy with rfl|hy
  ·grind
  ·exact .inr ⟨y,hy,h⟩
 ·rintro(h|⟨y,hy,h⟩)
  ·exact⟨x,adu,h⟩
  ·exact⟨y,adq _ hy,h⟩
theorem eD{l r:List Lt}{f u:Int}:has (l++r) f u↔has l f u\/has r f u:=by
 induction l with
 |nil=>simp[cA]
 |cons x l ih=>simp_all [bn,or_assoc]
def Ab(x y:Lt):Prop:=x.f<y.f\/x.f=y.f/\x.a+x.n<y.a
structure NS(l:List Lt):Prop where
 pF:l.Pairwise Ab
 pos:∀x∈l,1<=x.n
theorem NS.nil:NS []:=⟨.nil,nofun⟩
theorem NS.tail{x:Lt}{l:List Lt}(h:NS (x::l)):NS l:=⟨(List.pairwise_cons.1 h.pF).2,fun y hy=>h.pos y (adq _ hy)⟩
theorem NS.head{x:Lt}{l:List Lt}(h:NS (x::l)):1<=x.n/\∀y∈l,Ab x y:=⟨h.pos x adu,(List.pairwise_cons.1 h.pF).1⟩
theorem NS.first{x:Lt}{l:List Lt}(h:NS (x::l)){f u:Int}(hu:has (x::l) f u):x.f<f\/x.f=f/\x.a<=u:=by
 rcases bn.1 hu with h1|⟨y,hy,h1⟩
 ·exact .inr ⟨h1.1,h1.2.1⟩
 ·have:=h.head.2 y hy
  have:=h.head.1
  obtain⟨h2,h3,h4⟩:=h1
  grind [Ab]
theorem NS.uniq:∀{l r:List Lt},NS l->NS r->(∀f u,has l f u↔has r f u)->l=r
 |[],[],_,_,_=>rfl
 |[],y::r,_,hr,h=>absurd ((h y.f y.a).2 (bn.2 (.inl ⟨rfl,Int.le_refl _,by have:=hr.head.1;omega⟩))) cA
 |x::l,[],hl,_,h=>absurd ((h x.f x.a).1 (bn.2 (.inl ⟨rfl,Int.le_refl _,by have:=hl.head.1;omega⟩))) cA
 |x::l,y::r,hl,hr,h=>by
  have px:=hl.head.1
  have py:=hr.head.1
  have h1:=hr.first ((h x.f x.a).1 (bn.2 (.inl ⟨rfl,Int.le_refl _,by omega⟩)))
  have h2:=hl.first ((h y.f y.a).2 (bn.2 (.inl ⟨rfl,Int.le_refl _,by omega⟩)))
  have ef:x.f=y.f:=by omega
  have ea:x.a=y.a:=by omega
  have key:∀{p q:Lt} {l r:List Lt},NS (p::l)->NS (q::r)->(∀f u,has (p::l) f u->has (q::r) f u)->p.f=q.f->p.a=q.a->p.n<=q.n:=by
   intro p q l r hp hq hh e1 e2
   rcases Int.lt_or_le q.n p.n with aB|hle
   ·exfalso
    have q1:=hq.head.1
    rcases bn.1 (hh p.f (q.a+q.n) (bn.2 (.inl ⟨rfl,by omega,by omega⟩)))with h3|⟨z,hz,h3⟩
    ·have:=h3.2.2;omega
    ·have:=hq.head.2 z hz
     obtain⟨h4,h5,h6⟩:=h3
     grind [Ab]
   grind
  have exy:=Lt.ext' ef ea (Int.le_antisymm (key hl hr (fun f u=>(h f u).1) ef ea) (key hr hl (fun f u=>(h f u).2) ef.symm ea.symm))
  subst exy
  congr 1
  refine NS.uniq hl.tail hr.tail fun f u=>?_
  have dis:∀{s:List Lt},NS (x::s)->has s f u->¬fa x f u:=by
   rintro s hs ⟨z,hz,h4⟩ h5
   have:=hs.head.2 z hz
   obtain⟨a1,a2,a3⟩:=h4
   obtain⟨b1,b2,b3⟩:=h5
   grind [Ab]
  constructor
  ·intro h3
   rcases bn.1 ((h f u).1 (bn.2 (.inr h3)))with h4|h4
   ·grind
   grind
  ·intro h3
   rcases bn.1 ((h f u).2 (bn.2 (.inr h3)))with h4|h4
   ·grind
   grind
def cM(l:List Lt):Int:=(l.map (·.n)).sum
def aT(l:List Lt)(x:Lt):List Lt:=
 if x.n=0 then l else match l.getLast? with
  |some y=>if y.f=x.f/\y.a+y.n=x.a then l.dropLast++[⟨y.f,y.a,y.n+x.n⟩]else l++[x]
  |none=>[x]
theorem iu{l:List Lt}{y:Lt}(h:l.getLast?=some y):l=l.dropLast++[y]:=by
 rcases List.eq_nil_or_concat l with rfl|⟨r,z,rfl⟩
 ·grind
 grind
theorem yd{l:List Lt}{x:Lt}(hl:∀y∈l,0<=y.n)(hx:0<=x.n){f u:Int}:has (aT l x) f u↔has l f u\/fa x f u:=by
 unfold aT
 split
 ·constructor
  ·grind
  ·rintro(h|h)
   ·grind
   ·have:=h.2;omega
 split
 ·rename_i y hy
  split
  ·rename_i hc
   rw[eD]
   conv=>rhs;rw[(iu hy),eD]
   rw[or_assoc]
   refine or_congr Iff.rfl ?_
   constructor
   ·rintro⟨z,hz,h⟩
    rw[ado]at hz;subst hz
    obtain⟨h1,h2,h3⟩:=h
    simp at h1 h2 h3
    by_cases hu:u<y.a+y.n
    ·exact .inl ⟨y,ado.2 rfl,h1,h2,hu⟩
    ·exact .inr ⟨by omega,by omega,by omega⟩
   ·rintro(⟨z,hz,h⟩|h)
    ·rw[ado]at hz;subst hz
     exact⟨_,ado.2 rfl,h.1,h.2.1,by have:=h.2.2;grind⟩
    ·exact⟨_,ado.2 rfl,by rw[hc.1];exact h.1,by have:=h.2.1;grind,by have:=h.2.2;grind⟩
  ·rw[eD]
   refine or_congr Iff.rfl ?_
   grind [bn,cA]
 grind [List.getLast?_eq_none_iff,bn,cA]
theorem E4{l:List Lt}{x:Lt}(hl:∀y∈l,1<=y.n)(hx:0<=x.n):∀y∈aT l x,1<=y.n:=by
 unfold aT
 split
 ·grind
 split
 ·rename_i y hy
  have hyn:=hl y (List.mem_of_getLast? hy)
  intro z hz
  split at hz
  ·rcases adr.1 hz with h|h
   ·exact hl z (List.dropLast_subset _ h)
   ·rw[ado]at h;subst h;simp;omega
  ·rcases adr.1 hz with h|h
   ·exact hl z h
   ·rw[ado]at h;subst h;omega
 ·grind
theorem iX(l r:List Lt):cM (l++r)=cM l+cM r:=by simp[cM]
theorem ye(l:List Lt)(x:Lt):cM (aT l x)=cM l+x.n:=by
 unfold aT
 split
 ·grind
 split
 ·rename_i y hy
  split
  ·rw[iX]
   conv=>rhs;rw[(iu hy),iX]
   grind [cM]
  ·rw[iX];simp[cM]
 grind [List.getLast?_eq_none_iff,cM]
theorem fb(l:List Lt)(x:Lt):(aT l x).length<=l.length+1:=by
 unfold aT
 grind
end
section
structure V3 where
 TN:List Lt
 TO:List Lt
 fr:Int
 to:Int
def wo(l:Lt)(s:V3)(x:Lt):V3:=
 if x.f<l.f\/x.f=l.f/\x.a+x.n<s.fr then { s with TN:=s.TN++[x] }
 else if l.f<x.f\/s.to<x.a then { s with TO:=s.TO++[x] }
 else { s with fr:=min s.fr x.a,to:=max s.to (x.a+x.n) }
def Pc(l:Lt)(s:V3):List Lt:=s.TN++[⟨l.f,s.fr,s.to-s.fr⟩]++s.TO
def kB(s:List Lt)(l:Lt):List Lt:=Pc l (s.foldl (wo l) ⟨[],[],l.a,l.a+l.n⟩)
def cW(l:List Lt):List Lt:=l.foldl kB []
structure yf(l:Lt)(p:List Lt)(s:V3):Prop where
 bs:s.TN.Sublist p
 aq:s.TO.Sublist p
 bg:∀x∈s.TN,x.f<l.f\/x.f=l.f/\x.a+x.n<s.fr
 ag:∀x∈s.TO,l.f<x.f\/x.f=l.f/\s.to<x.a
 fr:s.fr<=l.a
 to:l.a+l.n<=s.to
 un:∀f u,has s.TN f u\/has s.TO f u\/(l.f=f/\s.fr<=u/\u<s.to)↔has p f u\/fa l f u
theorem NS.sub{l r:List Lt}(h:NS r)(hs:l.Sublist r):NS l:=⟨h.pF.sublist hs,fun x hx=>h.pos x (hs.subset hx)⟩
theorem yf.step{l:Lt}{p:List Lt}{s:V3}{x:Lt}(h:yf l p s)(hl:1<=l.n)(hp:NS (p++[x])):yf l (p++[x]) (wo l s x):=by
 have hx:=hp.pos x (by simp)
 have hg:=fun y hy=>(List.pairwise_append.1 hp.pF).2.2 y hy x (ado.2 rfl)
 obtain⟨h1,h2,h3,h4,h5,h6,h7⟩:=h
 have Aa:∀f u,has [x] f u↔fa x f u:=fun f u=>by grind [bn,cA]
 unfold wo
 split
 ·rename_i hc
  refine⟨h1.append_right [x],h2.trans (List.sublist_append_left _ _),fun y hy=>?_,h4,h5,h6,fun f u=>?_⟩
  ·grind
  grind [has,eD,id]
 rename_i D5
 split
 ·rename_i hc
  refine⟨h1.trans (List.sublist_append_left _ _),h2.append_right [x],h3,fun y hy=>?_,h5,h6,fun f u=>?_⟩
  ·grind
  grind [has,eD,id]
 ·rename_i AO
  have ef:x.f=l.f:=by omega
  refine⟨h1.trans (List.sublist_append_left _ _),h2.trans (List.sublist_append_left _ _),fun y hy=>?_,fun y hy=>?_,?_,?_,fun f u=>?_⟩
  ·have a1:=h3 y hy
   have a2:=hg y (h1.subset hy)
   show y.f<l.f\/y.f=l.f/\y.a+y.n<min s.fr x.a
   unfold Ab at a2
   omega
  ·have a1:=h4 y hy
   have a2:=hg y (h2.subset hy)
   have a3:=hp.pos y (List.mem_append_left _ (h2.subset hy))
   unfold Ab at a2
   omega
  ·show min s.fr x.a<=l.a;omega
  ·show l.a+l.n<=max s.to _;omega
  ·show has s.TN f u\/has s.TO f u\/(l.f=f/\min s.fr x.a<=u/\u<max s.to _)↔_
   rw[eD,Aa]
   have:=h7 f u
   constructor
   ·rintro(h|h|h)
    ·exact(this.1 (.inl h)).imp .inl id
    ·exact(this.1 (.inr (.inl h))).imp .inl id
    ·by_cases hu:s.fr<=u/\u<s.to
     ·exact(this.1 (.inr (.inr ⟨h.1,hu⟩))).imp .inl id
     ·exact .inl (.inr ⟨by omega,by omega,by omega⟩)
   ·rintro((h|h)|h)
    ·rcases this.2 (.inl h)with h|h|h
     ·exact .inl h
     ·grind
     ·exact .inr (.inr ⟨h.1,by omega,by omega⟩)
    ·exact .inr (.inr ⟨by rw[<-ef];exact h.1,by have:=h.2.1;omega,by have:=h.2.2;omega⟩)
    ·rcases this.2 (.inr h)with h|h|h
     ·exact .inl h
     ·exact .inr (.inl h)
     ·exact .inr (.inr ⟨h.1,by omega,by omega⟩)
theorem yf.fold{l:Lt}(hl:1<=l.n):∀(r p:List Lt) (s:V3),NS (p++r)->yf l p s->yf l (p++r) (r.foldl (wo l) s)
 |[],p,s,_,h=>by grind
 |x::r,p,s,hn,h=>by
  rw[List.foldl_cons]
  have e:p++x::r=(p++[x])++r:=by simp
  rw[e]at hn⊢
  exact yf.fold hl r _ _ hn (h.step hl (hn.sub (List.sublist_append_left _ _)))
theorem J8{s:List Lt}{l:Lt}(hs:NS s)(hl:1<=l.n):NS (kB s l)/\∀f u,has (kB s l) f u↔has s f u\/fa l f u:=by
 have h0:yf l [] ⟨[],[],l.a,l.a+l.n⟩:=⟨.slnil,.slnil,nofun,nofun,Int.le_refl _,Int.le_refl _,fun f u=>by
  have a:¬has [] f u:=cA
  exact⟨fun h=>.inr ((h.resolve_left a).resolve_left a),fun h=>.inr (.inr (h.resolve_left a))⟩⟩
 have h:=yf.fold hl s [] _ (by simpa using hs) h0
 simp[List.nil_append]at h
 unfold kB Pc
 generalize s.foldl (wo l) ⟨[],[],l.a,l.a+l.n⟩=z at h
 obtain⟨h1,h2,h3,h4,h5,h6,h7⟩:=h
 refine⟨⟨?_,fun x hx=>?_⟩,fun f u=>?_⟩
 ·rw[List.pairwise_append,List.pairwise_append]
  refine⟨⟨(hs.sub h1).pF,adQ _ _,fun x hx y hy=>?_⟩,(hs.sub h2).pF,fun x hx y hy=>?_⟩
  ·rw[ado]at hy;subst hy;exact h3 x hx
  ·rcases adr.1 hx with hx|hx
   ·grind [Ab]
   ·grind [List.mem_singleton,Ab]
 ·rcases adr.1 hx with hx|hx
  ·rcases adr.1 hx with hx|hx
   ·exact hs.pos x (h1.subset hx)
   grind
  ·exact hs.pos x (h2.subset hx)
 ·rw[eD,eD,or_assoc,<-h7]
  refine or_congr Iff.rfl ?_
  rw[or_comm]
  refine or_congr Iff.rfl ?_
  rw[bn]
  constructor
  ·rintro(h|h)
   ·exact⟨h.1,h.2.1,by have:=h.2.2;grind⟩
   ·exact absurd h cA
  ·rintro h
   exact .inl ⟨h.1,h.2.1,by grind⟩
theorem A1:∀(l s:List Lt),NS s->(∀x∈l,1<=x.n)->NS (l.foldl kB s)/\∀f u,has (l.foldl kB s) f u↔has s f u\/has l f u
 |[],s,hs,_=>⟨hs,fun f u=>⟨.inl,fun h=>h.resolve_right cA⟩⟩
 |x::l,s,hs,hl=>by
  have h1:=J8 hs (hl x adu)
  have h2:=A1 l _ h1.1 fun y hy=>hl y (adq _ hy)
  simp_all [bn,or_assoc]
theorem gA{l:List Lt}(hl:∀x∈l,1<=x.n):NS (cW l)/\∀f u,has (cW l) f u↔has l f u:=by
 have h:=A1 l [] NS.nil hl
 exact⟨h.1,fun f u=>(h.2 f u).trans ⟨fun h=>h.resolve_left cA,.inr⟩⟩
def qN(s:List Lt)(x:Lt):List Lt:=match s.getLast? with
 |some y=>if y.f=x.f/\x.a<=y.a+y.n then s.dropLast++[⟨y.f,y.a,max y.n (x.a+x.n-y.a)⟩]else s++[x]
 |none=>[x]
def leq(x y:Lt):Prop:=x.f<y.f\/x.f=y.f/\x.a<=y.a
theorem Pd{s:List Lt}{x:Lt}(hs:NS s)(hx:1<=x.n)(hl:∀y∈s,leq y x):NS (qN s x)/\(∀f u,has (qN s x) f u↔has s f u\/fa x f u)/\∀z,leq x z->(∀y∈s,leq y z)->∀y∈qN s x,leq y z:=by
 unfold qN
 split
 ·rename_i y hy
  have e:=iu hy
  have hyn:=hs.pos y (List.mem_of_getLast? hy)
  have hyl:=hl y (List.mem_of_getLast? hy)
  split
  ·rename_i hc
   have hg:=hs.pF
   rw[e]at hg
   have D7:=List.pairwise_append.1 hg
   refine⟨⟨?_,fun z hz=>?_⟩,fun f u=>?_,fun z h1 h2 w hw=>?_⟩
   ·rw[List.pairwise_append]
    refine⟨D7.1,adQ _ _,fun p hp q hq=>?_⟩
    rw[ado]at hq;subst hq
    exact D7.2.2 p hp y (ado.2 rfl)
   ·rcases adr.1 hz with hz|hz
    ·exact hs.pos z (List.dropLast_subset _ hz)
    grind
   ·rw[eD]
    conv=>rhs;rw[e,eD]
    rw[or_assoc]
    refine or_congr Iff.rfl ?_
    unfold leq at hyl
    constructor
    ·rintro⟨z,hz,h⟩
     rw[ado]at hz;subst hz
     obtain⟨h1,h2,h3⟩:=h
     simp only at h1 h2 h3
     by_cases hu:u<y.a+y.n
     ·exact .inl ⟨y,ado.2 rfl,h1,h2,hu⟩
     ·exact .inr ⟨by omega,by omega,by omega⟩
    ·rintro(⟨z,hz,h⟩|h)
     ·rw[ado]at hz;subst hz
      exact⟨_,ado.2 rfl,h.1,h.2.1,by have:=h.2.2;grind⟩
     ·exact⟨_,ado.2 rfl,by rw[hc.1];exact h.1,by have:=h.2.1;simp;omega,by have:=h.2.2;simp only;omega⟩
   ·rcases adr.1 hw with hw|hw
    ·exact h2 w (List.dropLast_subset _ hw)
    ·rw[ado]at hw;subst hw
     exact h2 y (List.mem_of_getLast? hy)
  ·rename_i hc
   refine⟨⟨?_,fun z hz=>?_⟩,fun f u=>?_,fun z h1 h2 w hw=>?_⟩
   ·rw[List.pairwise_append]
    refine⟨hs.pF,adQ _ _,fun p hp q hq=>?_⟩
    rw[ado]at hq;subst hq
    have hyq:Ab y q:=by grind [Ab,leq]
    rw[e]at hp
    rcases adr.1 hp with hp|hp
    ·have hg:=hs.pF
     rw[e]at hg
     have:=(List.pairwise_append.1 hg).2.2 p hp y (ado.2 rfl)
     unfold Ab at*
     omega
    ·rw[ado]at hp;subst hp;exact hyq
   ·rcases adr.1 hz with hz|hz
    ·exact hs.pos z hz
    ·rw[ado]at hz;subst hz;exact hx
   ·rw[eD]
    refine or_congr Iff.rfl ?_
    rw[bn]
    exact⟨fun h=>h.resolve_right cA,.inl⟩
   ·rcases adr.1 hw with hw|hw
    ·exact h2 w hw
    ·rw[ado]at hw;subst hw;exact h1
 ·rename_i hn
  have:=List.getLast?_eq_none_iff.1 hn
  subst this
  refine⟨⟨adQ _ _,fun z hz=>?_⟩,fun f u=>?_,fun z h1 _ w hw=>?_⟩
  ·rw[ado]at hz;subst hz;exact hx
  ·rw[bn]
   exact⟨fun h=>.inr (h.resolve_right cA),fun h=>.inl (h.resolve_left cA)⟩
  ·rw[ado]at hw;subst hw;exact h1
theorem E5:∀(l s:List Lt),NS s->(∀x∈l,1<=x.n)->l.Pairwise leq->(∀x∈l,∀y∈s,leq y x)->NS (l.foldl qN s)/\∀f u,has (l.foldl qN s) f u↔has s f u\/has l f u
 |[],s,hs,_,_,_=>⟨hs,fun f u=>⟨.inl,fun h=>h.resolve_right cA⟩⟩
 |x::l,s,hs,hl,hp,hb=>by
  obtain⟨h1,h2,h3⟩:=Pd hs (hl x adu) (hb x adu)
  have ZH:=List.pairwise_cons.1 hp
  have h4:=E5 l _ h1 (fun y hy=>hl y (adq _ hy)) ZH.2 fun z hz=>h3 z (ZH.1 z hz) (hb z (adq _ hz))
  simp_all [bn,or_assoc]
theorem TP{l d:List Lt}(hl:∀x∈l,1<=x.n)(hp:d.Perm l)(hd:d.Pairwise leq):d.foldl qN []=cW l:=by
 have h1:=E5 d [] NS.nil (fun x hx=>hl x (hp.mem_iff.1 hx)) hd nofun
 have h2:=gA hl
 refine h1.1.uniq h2.1 fun f u=>?_
 rw[h1.2,h2.2]
 constructor
 ·rintro(h|⟨x,hx,h⟩)
  ·exact absurd h cA
  ·exact⟨x,hp.mem_iff.1 hx,h⟩
 ·rintro⟨x,hx,h⟩
  exact .inr ⟨x,hp.mem_iff.2 hx,h⟩
theorem J9{l:List Lt}(h:NS l):cW l=l:=(gA h.pos).1.uniq h (gA h.pos).2
end
section
def jX(x s:Lt):Bool:=decide (x.f<s.f\/s.f=x.f/\x.a<s.a+s.n)
def zJ:Lt->List Lt->List (Lt×Bool)
 |x,[]=>if 0<x.n then[(x,false)]else[]
 |x,s::r=>if 0<x.n/\s.f=x.f/\s.a<x.a+x.n then
  (if 0<max 0 (s.a-x.a)then[(⟨x.f,x.a,max 0 (s.a-x.a)⟩,false)]else[])++
   (⟨x.f,x.a+max 0 (s.a-x.a),min (x.n-max 0 (s.a-x.a)) (s.a+s.n-(x.a+max 0 (s.a-x.a)))⟩,true)::
    zJ ⟨x.f,x.a+max 0 (s.a-x.a)+min (x.n-max 0 (s.a-x.a)) (s.a+s.n-(x.a+max 0 (s.a-x.a))),x.n-max 0 (s.a-x.a)-min (x.n-max 0 (s.a-x.a)) (s.a+s.n-(x.a+max 0 (s.a-x.a)))⟩ r
  else if 0<x.n then[(x,false)]else[]
def kC(set:List Lt)(x:Lt):List (Lt×Bool):=zJ x (set.dropWhile fun s=>!jX x s)
def zK(b:Bool)(l:List (Lt×Bool)):List Lt:=(l.filter fun p=>p.2==b).map (·.1)
theorem wQ(b:Bool)(l r:List (Lt×Bool)):zK b (l++r)=zK b l++zK b r:=by simp[zK]
structure V4(x:Lt)(set:List Lt)(l:List (Lt×Bool)):Prop where
 ins:∀f u,has (zK true l) f u↔fa x f u/\has set f u
 out:∀f u,has (zK false l) f u↔fa x f u/\¬has set f u
 pos:∀p∈l,1<=p.1.n/\p.1.f=x.f/\x.a<=p.1.a/\p.1.a+p.1.n<=x.a+x.n
 pF:(zK false l).Pairwise Ab
theorem dY{x:Lt}{f u:Int}:has [x] f u↔fa x f u:=by grind [bn,cA]
theorem Pe:∀(set:List Lt) (x:Lt),NS set->0<=x.n->(∀s∈set,jX x s=true)->V4 x set (zJ x set)
 |[],x,_,hx,_=>by
  unfold zJ
  split
  ·rename_i h0
   refine⟨fun f u=>?_,fun f u=>?_,fun p hp=>?_,adQ _ _⟩
   ·exact⟨nofun,nofun⟩
   ·show has [x] f u↔_
    grind [dY,cA]
   grind
  ·rename_i h0
   exact⟨fun f u=>⟨nofun,nofun⟩,fun f u=>⟨nofun,fun h=>absurd h.1 ((fun f u h=>by have:=h.2;omega) f u)⟩,nofun,.nil⟩
 |s::r,x,hs,hx,hk=>by
  have h1:=hs.head.1
  have h2:=hs.head.2
  have ql:=by simpa[jX]using hk s adu
  unfold zJ
  split
  ·rename_i hc
   obtain⟨c1,c2,c3⟩:=hc
   generalize ho:max 0 (s.a-x.a)=o
   generalize hi:min (x.n-o) (s.a+s.n-(x.a+o))=i
   have o0:=by omega
   have i1:1<=i:=by omega
   have ih:=Pe r ⟨x.f,x.a+o+i,x.n-o-i⟩ hs.tail (by grind) fun t ht=>by
    have a1:=hk t (adq _ ht)
    have a2:=h2 t ht
    have a3:=hs.tail.pos t ht
    simp only[jX,decide_eq_true_eq]at a1⊢
    grind [Ab]
   generalize zJ ⟨x.f,x.a+o+i,x.n-o-i⟩ r=L at ih
   have zI:∀f u,f=x.f->u<x.a+o+i->¬has r f u:=by
    rintro f u rfl hu ⟨t,ht,q⟩
    have a2:=h2 t ht
    obtain⟨q1,q2,q3⟩:=q
    grind [Ab]
   have SN:∀f u,fa ⟨x.f,x.a+o+i,x.n-o-i⟩ f u↔fa x f u/\x.a+o+i<=u:=fun f u=>by
    constructor
    ·rintro⟨q1,q2,q3⟩
     exact⟨⟨q1,by grind,by grind⟩,q2⟩
    ·rintro⟨⟨q1,q2,q3⟩,q4⟩
     exact⟨q1,q4,by grind⟩
   refine⟨fun f u=>?_,fun f u=>?_,fun p hp=>?_,?_⟩
   ·rw[wQ]
    have e0:zK true (if 0<o then[((⟨x.f,x.a,o⟩),false)]else[])=[]:=by split<;>rfl
    rw[e0,List.nil_append]
    show has (⟨x.f,x.a+o,i⟩::zK true L) f u↔_
    rw[bn,ih.ins,SN,bn]
    constructor
    ·rintro(h|h)
     ·obtain⟨q1,q2,q3⟩:=h
      simp only at q1 q2 q3
      exact⟨⟨q1,by omega,by omega⟩,.inl ⟨by omega,by omega,by omega⟩⟩
     grind
    ·rintro⟨h3,h4|h4⟩
     ·obtain⟨q1,q2,q3⟩:=h3
      obtain⟨q4,q5,q6⟩:=h4
      exact .inl ⟨q1,by grind,by grind⟩
     ·by_cases hu:x.a+o+i<=u
      ·grind
      ·exact absurd h4 (zI f u h3.1.symm (by omega))
   ·rw[wQ]
    show has (_++zK false L) f u↔_
    rw[eD,ih.out,SN,bn]
    have e0:has (zK false (if 0<o then[((⟨x.f,x.a,o⟩),false)]else[])) f u↔fa ⟨x.f,x.a,o⟩ f u:=by
     split
     ·exact dY
     ·exact⟨nofun,fun h=>by have:=h.2;grind⟩
    rw[e0]
    constructor
    ·rintro(h|h)
     ·obtain⟨q1,q2,q3⟩:=h
      simp only at q1 q2 q3
      refine⟨⟨q1,by omega,by omega⟩,?_⟩
      rintro(⟨q4,q5,q6⟩|h)
      ·omega
      grind
     ·refine⟨h.1.1,?_⟩
      rintro(⟨q4,q5,q6⟩|h5)
      ·have:=h.1.2;have:=h.1.1.2;omega
      grind
    ·rintro⟨h3,h4⟩
     obtain⟨q1,q2,q3⟩:=h3
     by_cases hu:u<x.a+o
     ·exact .inl ⟨q1,q2,hu⟩
     ·refine .inr ⟨⟨⟨q1,q2,q3⟩,?_⟩,fun h=>h4 (.inr h)⟩
      rcases Int.lt_or_le u (x.a+o+i)with aB|hle
      ·exact absurd (.inl ⟨by omega,by omega,by omega⟩) h4
      grind
   ·rcases adr.1 hp with hp|hp
    ·grind
    ·rcases adp.1 hp with rfl|hp
     ·exact⟨i1,rfl,by simp only;omega,by simp only;omega⟩
     ·have:=ih.pos p hp
      simp only at this
      exact⟨this.1,this.2.1,by omega,by omega⟩
   ·rw[wQ]
    show List.Pairwise Ab (_++zK false L)
    rw[List.pairwise_append]
    refine⟨by split;exact adQ _ _;exact .nil,ih.pF,fun y hy z hz=>?_⟩
    obtain⟨q,hq,rfl⟩:=adK.1 hz
    have Cu:=ih.pos q (List.mem_filter.1 hq).1
    simp only at Cu
    split at hy
    ·have:=by simpa[zK]using hy
     subst this
     right
     grind
    ·cases hy
  ·rename_i hc
   have fP:∀f u,fa x f u->¬has (s::r) f u:=by
    rintro f u ⟨q1,q2,q3⟩ ⟨t,ht,q4,q5,q6⟩
    have hf:=by omega
    rcases adp.1 ht with rfl|ht
    ·omega
    ·have a2:=h2 t ht
     unfold Ab at a2
     omega
   split
   ·rename_i h0
    refine⟨fun f u=>⟨nofun,fun h=>absurd h.2 (fP f u h.1)⟩,fun f u=>?_,fun p hp=>?_,adQ _ _⟩
    ·show has [x] f u↔_
     rw[dY]
     exact⟨fun h=>⟨h,fP f u h⟩,fun h=>h.1⟩
    ·rw[ado]at hp;subst hp;exact⟨h0,rfl,Int.le_refl _,Int.le_refl _⟩
   ·have aam:∀f u,¬fa x f u:=fun f u h=>by have:=h.2;omega
    exact⟨fun f u=>⟨nofun,fun h=>absurd h.1 (aam f u)⟩,fun f u=>⟨nofun,fun h=>absurd h.1 (aam f u)⟩,nofun,.nil⟩
theorem Cv(x:Lt):∀(set:List Lt),NS set->NS (set.dropWhile fun s=>!jX x s)/\(∀s∈set.dropWhile fun s=>!jX x s,jX x s=true)/\∀f u,fa x f u->(has (set.dropWhile fun s=>!jX x s) f u↔has set f u)
 |[],_=>⟨NS.nil,nofun,fun _ _ _=>Iff.rfl⟩
 |s::r,h=>by
  cases hk:jX x s with
  |true=>
   have e:(s::r).dropWhile (fun s=>!jX x s)=s::r:=by simp_all
   rw[e]
   refine⟨h,fun t ht=>?_,fun _ _ _=>Iff.rfl⟩
   rcases adp.1 ht with rfl|ht
   ·grind
   ·have a2:=h.head.2 t ht
    have a3:=h.tail.pos t ht
    simp[jX,decide_eq_true_eq]at hk⊢
    grind [Ab]
  |false=>
   have e:(s::r).dropWhile (fun s=>!jX x s)=r.dropWhile fun s=>!jX x s:=by simp_all
   rw[e]
   have ih:=Cv x r h.tail
   refine⟨ih.1,ih.2.1,fun f u hu=>?_⟩
   rw[ih.2.2 f u hu,bn]
   refine⟨.inr,fun h2=>h2.resolve_left fun h3=>?_⟩
   simp[jX,adU]at hk
   obtain⟨q1,q2,q3⟩:=h3
   have:=hu.1
   have:=hu.2.1
   omega
theorem jI{set:List Lt}{x:Lt}(hs:NS set)(hx:0<=x.n):V4 x set (kC set x):=by
 obtain⟨h1,h2,h3⟩:=Cv x set hs
 have h:=Pe _ x h1 hx h2
 exact⟨fun f u=>(h.ins f u).trans (and_congr_right fun hu=>h3 f u hu),fun f u=>(h.out f u).trans (and_congr_right fun hu=>not_congr (h3 f u hu)),h.pos,h.pF⟩
def gV(y x:Lt):List Lt:=if x.f≠y.f\/y.a+y.n<=x.a\/x.a+x.n<=y.a then[x]else(if x.a<y.a then[⟨y.f,x.a,y.a-x.a⟩]else[])++(if y.a+y.n<x.a+x.n then[⟨y.f,y.a+y.n,x.a+x.n-y.a-y.n⟩]else[])
def jq(l:List Lt)(y:Lt):List Lt:=l.flatMap (gV y)
def mQ(x:Lt)(set:List Lt):List Lt:=set.foldl jq [x]
theorem Ka{y x:Lt}(hy:1<=y.n)(hx:1<=x.n):NS (gV y x)/\(∀z∈gV y x,z.f=x.f/\x.a<=z.a/\z.a+z.n<=x.a+x.n)/\∀f u,has (gV y x) f u↔fa x f u/\¬fa y f u:=by
 unfold gV
 split
 ·refine⟨⟨adQ _ _,fun z hz=>?_⟩,fun z hz=>?_,fun f u=>?_⟩
  ·grind
  ·grind
  ·rw[dY]
   refine⟨fun h=>⟨h,fun h2=>?_⟩,fun h=>h.1⟩
   obtain⟨q1,q2,q3⟩:=h
   obtain⟨q4,q5,q6⟩:=h2
   omega
 ·have ef:=by omega
  have mem:∀z,z∈(if x.a<y.a then[(⟨y.f,x.a,y.a-x.a⟩)]else[])++(if y.a+y.n<x.a+x.n then[(⟨y.f,y.a+y.n,x.a+x.n-y.a-y.n⟩:Lt)]else[])↔(x.a<y.a/\z=⟨y.f,x.a,y.a-x.a⟩)\/(y.a+y.n<x.a+x.n/\z=⟨y.f,y.a+y.n,x.a+x.n-y.a-y.n⟩):=fun z=>by
   grind
  refine⟨⟨?_,fun z hz=>?_⟩,fun z hz=>?_,fun f u=>?_⟩
  ·rw[List.pairwise_append]
   refine⟨by split;exact adQ _ _;simp_all,by split;exact adQ _ _;simp_all,fun p hp q hq=>?_⟩
   split at hp
   ·split at hq
    ·rw[ado]at hp hq;subst hp;subst hq
     exact .inr ⟨rfl,by grind⟩
    grind
   grind
  ·grind
  ·grind
  ·constructor
   ·rintro⟨z,hz,q1,q2,q3⟩
    rcases(mem z).1 hz with⟨h1,rfl⟩|⟨h1,rfl⟩
    ·simp at q1 q2 q3
     exact⟨⟨by omega,by omega,by omega⟩,fun h=>by have:=h.2;omega⟩
    ·simp at q1 q2 q3
     exact⟨⟨by omega,by omega,by omega⟩,fun h=>by have:=h.2;omega⟩
   ·rintro⟨⟨q1,q2,q3⟩,h⟩
    by_cases hu:u<y.a
    ·exact⟨_,(mem _).2 (.inl ⟨by omega,rfl⟩),by grind,q2,by grind⟩
    ·by_cases hu2:u<y.a+y.n
     ·exact absurd ⟨by omega,by omega,hu2⟩ h
     ·exact⟨_,(mem _).2 (.inr ⟨by omega,rfl⟩),by grind,by grind,by grind⟩
theorem Cw{y:Lt}(hy:1<=y.n):∀{l:List Lt},NS l->NS (jq l y)/\(∀z∈jq l y,∃x∈l,z.f=x.f/\x.a<=z.a/\z.a+z.n<=x.a+x.n)/\∀f u,has (jq l y) f u↔has l f u/\¬fa y f u
 |[],_=>⟨NS.nil,nofun,fun f u=>⟨nofun,nofun⟩⟩
 |x::l,h=>by
  obtain⟨a1,a2,a3⟩:=Ka hy h.head.1
  obtain⟨b1,b2,b3⟩:=Cw hy h.tail
  have e:jq (x::l) y=gV y x++jq l y:=rfl
  rw[e]
  refine⟨⟨?_,fun z hz=>?_⟩,fun z hz=>?_,fun f u=>?_⟩
  ·rw[List.pairwise_append]
   refine⟨a1.pF,b1.pF,fun p hp q hq=>?_⟩
   obtain⟨t,ht,c2⟩:=b2 q hq
   have c3:=h.head.2 t ht
   grind [Ab]
  ·rcases adr.1 hz with hz|hz
   ·exact a1.pos z hz
   ·exact b1.pos z hz
  ·grind
  ·rw[eD,a3,b3,bn,or_and_right]
theorem A2:∀(set l:List Lt),NS l->(∀y∈set,1<=y.n)->NS (set.foldl jq l)/\∀f u,has (set.foldl jq l) f u↔has l f u/\¬has set f u
 |[],l,h,_=>⟨h,fun f u=>⟨fun h=>⟨h,cA⟩,fun h=>h.1⟩⟩
 |y::set,l,h,hp=>by
  obtain⟨a1,_,a3⟩:=Cw (hp y adu) h
  obtain⟨b1,b2⟩:=A2 set _ a1 fun z hz=>hp z (adq _ hz)
  simp_all [bn,and_assoc]
theorem sZ{x:Lt}(hx:1<=x.n){set:List Lt}(hs:∀y∈set,1<=y.n):NS (mQ x set)/\∀f u,has (mQ x set) f u↔fa x f u/\¬has set f u:=by
 have h:=A2 set [x] ⟨adQ _ _,fun z hz=>by grind⟩ hs
 exact⟨h.1,fun f u=>by rw[<-dY];exact h.2 f u⟩
theorem Xl{set:List Lt}{x:Lt}(hs:NS set)(hx:0<=x.n):NS (zK false (kC set x)):=by
 have h:=jI hs hx
 refine⟨h.pF,fun z hz=>?_⟩
 obtain⟨q,hq,rfl⟩:=adK.1 hz
 exact(h.pos q (List.mem_filter.1 hq).1).1
theorem TQ{set P:List Lt}{x:Lt}(hs:NS set)(hx:1<=x.n)(hP:∀y∈P,1<=y.n)(hu:∀f u,has set f u↔has P f u):zK false (kC set x)=mQ x P:=by
 have h:=sZ hx hP
 refine(Xl hs (by omega)).uniq h.1 fun f u=>?_
 rw[(jI hs (by omega)).out,h.2,hu]
def gB(p:List Lt×List Lt)(q:Lt×Bool):List Lt×List Lt:=bif q.2 then(aT p.1 q.1,p.2)else(p.1,aT p.2 q.1)
def kD(l set:List Lt):List Lt×List Lt:=(l.flatMap (kC set)).foldl gB ([],[])
theorem wS:∀(l:List (Lt×Bool)) (p:List Lt×List Lt),l.foldl gB p=((zK true l).foldl aT p.1,(zK false l).foldl aT p.2)
 |[],p=>rfl
 |(x,true)::l,p=>by rw[List.foldl_cons,wS l];rfl
 |(x,false)::l,p=>by rw[List.foldl_cons,wS l];rfl
def mu(l P:List Lt):List Lt:=(l.flatMap fun x=>mQ x P).foldl aT []
theorem yg(b:Bool)(g:Lt->List (Lt×Bool)):∀l:List Lt,zK b (l.flatMap g)=l.flatMap fun x=>zK b (g x)
 |[]=>rfl
 |x::l=>by rw[List.flatMap_cons,wQ,yg b g l,List.flatMap_cons]
theorem TR{l P:List Lt}(hl:∀x∈l,1<=x.n)(hP:∀y∈P,1<=y.n){set:List Lt}(hs:NS set)(hu:∀f u,has set f u↔has P f u):(kD l set).2=mu l P:=by
 unfold kD mu
 rw[wS]
 show(zK false _).foldl aT []=_
 rw[yg]
 have:(l.flatMap fun x=>zK false (kC set x))=l.flatMap fun x=>mQ x P:=by
  induction l with
  |nil=>rfl
  |cons x l ih=>
   rw[List.flatMap_cons,List.flatMap_cons,ih fun y hy=>hl y (adq _ hy),TQ hs (hl x adu) hP hu]
 grind
theorem Cx:∀(l r:List Lt),(∀x∈l,1<=x.n)->(∀x∈r,1<=x.n)->(∀x∈l.foldl aT r,1<=x.n)/\∀f u,has (l.foldl aT r) f u↔has r f u\/has l f u
 |[],r,_,hr=>⟨hr,fun f u=>⟨.inl,fun h=>h.resolve_right cA⟩⟩
 |x::l,r,hl,hr=>by
  have hx:=hl x adu
  have h1:=Cx l (aT r x) (fun y hy=>hl y (adq _ hy)) (E4 hr (by omega))
  refine⟨h1.1,fun f u=>?_⟩
  rw[List.foldl_cons,h1.2,yd (fun y hy=>by grind) (by omega),bn,or_assoc]
theorem pG{g:Lt->List Lt}{f u:Int}:∀{l:List Lt},has (l.flatMap g) f u↔∃x∈l,has (g x) f u
 |[]=>⟨nofun,nofun⟩
 |x::l=>by rw[List.flatMap_cons,eD,pG];simp
theorem Cy{l P:List Lt}(hl:∀x∈l,1<=x.n)(hP:∀y∈P,1<=y.n):(∀x∈mu l P,1<=x.n)/\∀f u,has (mu l P) f u↔has l f u/\¬has P f u:=by
 have h:=Cx (l.flatMap fun x=>mQ x P) [] (fun y hy=>by
  obtain⟨x,hx,hy⟩:=List.mem_flatMap.1 hy
  exact(sZ (hl x hx) hP).1.pos y hy) nofun
 refine⟨h.1,fun f u=>?_⟩
 show has (List.foldl aT [] _) f u↔_
 rw[h.2,pG]
 constructor
 ·rintro(h|⟨x,hx,h⟩)
  ·exact absurd h cA
  ·have:=((sZ (hl x hx) hP).2 f u).1 h
   exact⟨⟨x,hx,this.1⟩,this.2⟩
 ·rintro⟨⟨x,hx,h1⟩,h2⟩
  grind [sZ]
theorem yh{l:List Lt}(hl:∀x∈l,1<=x.n)(h:∀f u,¬has l f u):l=[]:=by
 cases l with
 |nil=>rfl
 |cons x l=>exact absurd (bn.2 (.inl ⟨rfl,Int.le_refl _,by grind⟩)) (h x.f x.a)
theorem TS{a b:List Lt}(ha:∀x∈a,1<=x.n)(hb:∀y∈b,1<=y.n):mu (cW a) b=[]↔∀f u,has a f u->has b f u:=by
 have h1:=gA ha
 have h2:=Cy h1.1.pos hb
 constructor
 ·intro h f u hu
  refine Classical.byContradiction fun hn=>?_
  grind [cA]
 ·intro h
  exact yh h2.1 fun f u hu=>((h2.2 f u).1 hu).2 (h f u ((h1.2 f u).1 ((h2.2 f u).1 hu).1))
theorem TT{a set:List Lt}(ha:∀x∈a,1<=x.n)(hs:NS set):(∀p∈a.flatMap (kC set),p.2=true)↔∀f u,has a f u->has set f u:=by
 constructor
 ·rintro h f u ⟨x,hx,h1⟩
  refine Classical.byContradiction fun hn=>?_
  obtain⟨y,hy,_⟩:=((jI hs (by grind)).out f u).2 ⟨h1,hn⟩
  obtain⟨q,hq,rfl⟩:=adK.1 hy
  grind
 ·intro h p hp
  obtain⟨x,hx,hp⟩:=List.mem_flatMap.1 hp
  have cI:=jI hs (x:=x) (by grind)
  cases hb:p.2 with
  |true=>rfl
  |false=>
   exfalso
   have hq:=((cI.out p.1.f p.1.a).1 ⟨p.1,(adK.2 ⟨p,List.mem_filter.2 ⟨hp,by grind⟩,rfl⟩),rfl,Int.le_refl _,by have:=(cI.pos p hp).1;omega⟩)
   exact hq.2 (h _ _ ⟨x,hx,hq.1⟩)
theorem TU{a b:List Lt}(ha:∀x∈a,1<=x.n)(hb:∀y∈b,1<=y.n):mu (cW a) (mu (cW a) b)=[]↔∀f u,has a f u->¬has b f u:=by
 have h1:=gA ha
 have h2:=Cy h1.1.pos hb
 have h3:=Cy h1.1.pos h2.1
 constructor
 ·grind [cA]
 ·intro h
  refine yh h3.1 fun f u hu=>?_
  grind
theorem Kb{a set:List Lt}(ha:∀x∈a,1<=x.n)(hs:NS set):(kD a set).1=[]↔∀f u,has a f u->¬has set f u:=by
 unfold kD
 rw[wS]
 rw[yg]
 have h:=Cx (a.flatMap fun x=>zK true (kC set x)) [] (fun y hy=>by
  obtain⟨x,hx,hy⟩:=List.mem_flatMap.1 hy
  obtain⟨q,hq,rfl⟩:=adK.1 hy
  exact((jI hs (by grind)).pos q (List.mem_filter.1 hq).1).1) nofun
 constructor
 ·rintro h0 f u ⟨x,hx,hu⟩ hn
  have:=(h.2 f u).2 (.inr (pG.2 ⟨x,hx,((jI hs (by grind)).ins f u).2 ⟨hu,hn⟩⟩))
  grind [cA]
 ·intro h0
  refine yh h.1 fun f u hu=>?_
  rcases(h.2 f u).1 hu with h4|h4
  ·exact cA h4
  ·obtain⟨x,hx,h5⟩:=pG.1 h4
   have h6:=((jI hs (by grind)).ins f u).1 h5
   exact h0 f u ⟨x,hx,h6.1⟩ h6.2
end
section
def fE(rs:List Int)(i j:Nat):Bool:=decide (rs.getD j 0<rs.getD i 0\/rs.getD i 0=rs.getD j 0/\i<j)
def TV(rs:List Int)(i:Nat):Nat:=(List.range rs.length).countP fun j=>fE rs j i
theorem TW{rs:List Int}{i j:Nat}(h:i≠j):fE rs i j=true\/fE rs j i=true:=by
 simp[fE,decide_eq_true_eq];omega
theorem TX{rs:List Int}{i j:Nat}(h:fE rs i j=true):fE rs j i=false:=by
 simp[fE,decide_eq_true_eq,adU]at *; omega
theorem Xm{rs:List Int}{i j k:Nat}(h:fE rs i j=true)(h2:fE rs j k=true):fE rs i k=true:=by
 simp[fE,decide_eq_true_eq]at *; omega
structure Ord(rs:List Int)(o:List Nat):Prop where
 perm:o.Perm (List.range rs.length)
 srt:o.Pairwise fun i j=>fE rs i j=true
theorem Ord.nodup{rs:List Int}{o:List Nat}(h:Ord rs o):o.Nodup:=h.perm.nodup_iff.2 List.nodup_range
theorem Ord.len{rs:List Int}{o:List Nat}(h:Ord rs o):o.length=rs.length:=by rw[h.perm.length_eq,List.length_range]
theorem HO(rs:List Int):∃o,Ord rs o:=by
 let le:=fun i j=>fE rs i j||i==j
 refine⟨(List.range rs.length).mergeSort le,List.mergeSort_perm _ _,?_⟩
 have h1:((List.range rs.length).mergeSort le).Pairwise fun a b=>le a b=true:=List.pairwise_mergeSort (fun a b c h h2=>by
  simp[le,Bool.or_eq_true,beq_iff_eq]at*
  rcases h with h|rfl
  ·rcases h2 with h2|rfl
   ·grind [Xm]
   grind
  grind) (fun a b=>by
  simp[Bool.or_eq_true,beq_iff_eq]
  grind [TW]) _
 refine(List.Pairwise.and h1 ((List.mergeSort_perm _ _).nodup_iff.2 List.nodup_range)).imp fun h=>?_
 grind
theorem Ord.LJ{rs:List Int}{o:List Nat}(h:Ord rs o){k i:Nat}(hk:o[k]?=some i):TV rs i=k:=by
 unfold TV
 rw[<-h.perm.countP_eq]
 have e:o=o.take k++i::o.drop (k+1):=by
  grind [List.take_append_drop,List.drop_eq_getElem_cons,List.getElem?_eq_some_iff]
 have hs:=h.srt
 rw[e,List.pairwise_append]at hs
 obtain⟨h1,h2,h3⟩:=hs
 rw[e,List.countP_append,List.countP_cons]
 have c1:(o.take k).countP (fun j=>fE rs j i)=k:=by
  grind [List.countP_eq_length,List.mem_cons_self,List.length_take,List.getElem?_eq_some_iff]
 have c3:fE rs i i=false:=by simp[fE]
 rw[c1,(List.countP_eq_zero.2 fun j hj=>by grind [TX,List.pairwise_cons]),c3];rfl
theorem Ord.mem{rs:List Int}{o:List Nat}(h:Ord rs o){m i:Nat}(hi:i<rs.length):i∈o.take m↔TV rs i<m:=by
 obtain⟨k,hk⟩:=adE (h.perm.mem_iff.2 (adL.2 hi))
 rw[h.LJ hk]
 constructor
 ·intro hm
  obtain⟨q,hq⟩:=adE hm
  have hqm:q<m:=by grind
  rw[List.getElem?_take_of_lt hqm]at hq
  have:=(List.getElem?_inj ((adj.1 hq).1) h.nodup).1 (hq.trans hk.symm)
  omega
 ·intro hm
  exact adl ((List.getElem?_take_of_lt hm).trans hk)
def kE(l:List Int)(i:Nat):List Int:=l.set i (l.getD i 0+1)
def plus(rs qs:List Int)(m:Nat):List Int:=(List.range rs.length).map fun i=>qs.getD i 0+bif decide (TV rs i<m)then 1 else 0
theorem wT(l:List Int)(i:Nat):(kE l i).length=l.length:=List.length_set ..
theorem TY(l:List Int)(i j:Nat)(hi:i<l.length):(kE l i).getD j 0=l.getD j 0+if i=j then 1 else 0:=by
 unfold kE
 rw[adn,List.getElem?_set]
 split
 ·grind
 ·grind
theorem yi:∀(o:List Nat) (l:List Int),o.Nodup->(∀i∈o,i<l.length)->(o.foldl kE l).length=l.length/\∀j,(o.foldl kE l).getD j 0=l.getD j 0+if j∈o then 1 else 0
 |[],l,_,_=>⟨rfl,fun j=>by simp⟩
 |i::o,l,hn,hl=>by
  have ih:=yi o (kE l i) (List.nodup_cons.1 hn).2 fun k hk=>by grind [wT,List.mem_cons_of_mem]
  rw[List.foldl_cons]
  refine⟨by rw[ih.1,wT],fun j=>?_⟩
  rw[ih.2,TY _ _ _ (hl i adu)]
  grind
theorem Pf{a b:List Int}(hl:a.length=b.length)(h:∀j,j<a.length->a.getD j 0=b.getD j 0):a=b:=by
 refine List.ext_getElem hl fun i h1 h2=>?_
 have:=h i h1
 rwa[adn,adn,abK h1,abK h2]at this
theorem E6(rs qs:List Int)(m:Nat):(plus rs qs m).length=rs.length:=by simp[plus]
theorem yj{rs qs:List Int}{m j:Nat}(h:j<rs.length):(plus rs qs m).getD j 0=qs.getD j 0+if TV rs j<m then 1 else 0:=by
 unfold plus
 grind
theorem yk{rs qs:List Int}{o:List Nat}(h:Ord rs o)(hl:qs.length=rs.length)(m:Nat):(o.take m).foldl kE qs=plus rs qs m:=by
 have hm:∀i∈o.take m,i<qs.length:=fun i hi=>by
  have:=h.perm.mem_iff.1 (List.mem_of_mem_take hi)
  grind
 obtain⟨h1,h2⟩:=yi _ qs (h.nodup.sublist (List.take_sublist _ _)) hm
 refine Pf (by rw[h1,E6,hl]) fun j hj=>?_
 have hj:=by rwa[h1,hl]at hj
 rw[h2,yj hj]
 simp[h.mem hj]
def Ac(rs:List Int)(b i:Nat):Nat:=if rs.getD b 0<rs.getD i 0 then i else b
def yl(rs:List Int):Nat:=(List.range' 1 (rs.length-1)).foldl (Ac rs) 0
def onR(p:List Int×List Int):List Int×List Int:=(kE p.1 (yl p.2),p.2.set (yl p.2) (-1))
def Cz(p:List Int×List Int):Nat->List Int×List Int
 |0=>p
 |k+1=>onR (Cz p k)
theorem ym(rs:List Int):∀(n s b:Nat),b<s->(∀j,j<s->fE rs j b=false)->((List.range' s n).foldl (Ac rs) b)<s+n/\∀j,j<s+n->fE rs j ((List.range' s n).foldl (Ac rs) b)=false
 |0,s,b,hb,h=>⟨by grind,by grind⟩
 |n+1,s,b,hb,h=>by
  rw[List.range'_succ,List.foldl_cons]
  have:=ym rs n (s+1) (Ac rs b s) (by grind [Ac]) fun j hj=>by
   grind [Ac,fE,decide_eq_false_iff_not]
  grind
theorem Xn{rs:List Int}(h:0<rs.length):yl rs<rs.length/\∀j,j<rs.length->fE rs j (yl rs)=false:=by
 have:=ym rs (rs.length-1) 1 0 (by omega) fun j hj=>by
  grind [fE]
 rwa[show 1+(rs.length-1)=rs.length by omega]at this
theorem Pg{rs qs:List Int}{o:List Nat}(h:Ord rs o)(hp:∀r∈rs,0<=r)(hl:qs.length=rs.length):∀k,k<=rs.length->(Cz (qs,rs) k).1=(o.take k).foldl kE qs/\(Cz (qs,rs) k).2.length=rs.length/\∀j,j<rs.length->(Cz (qs,rs) k).2.getD j 0=if j∈o.take k then -1 else rs.getD j 0
 |0,_=>⟨rfl,rfl,fun j _=>by rfl⟩
 |k+1,hk=>by
  obtain⟨h1,h2,h3⟩:=Pg h hp hl k (by omega)
  have oJ:k<o.length:=by rw[h.len];omega
  have ht:o.take (k+1)=o.take k++[o[k]]:=by simp_all
  have CA:=adL.1 (h.perm.mem_iff.1 (adP oJ))
  have hrk:=h.LJ (abK oJ)
  have dK:∀j,j<rs.length->0<=rs.getD j 0:=fun j hj=>by
   simp_all
  have hb:yl (Cz (qs,rs) k).2=o[k]:=by
   obtain⟨b1,b2⟩:=Xn (rs:=(Cz (qs,rs) k).2) (by omega)
   rw[h2]at b1 b2
   have b3:=b2 o[k] CA
   generalize yl (Cz (qs,rs) k).2=b at b1 b3
   have g1:=h3 b b1
   have g2:=h3 o[k] CA
   rw[if_neg (fun hm=>by have:=(h.mem CA).1 hm;omega)]at g2
   have p1:=dK o[k] CA
   refine Classical.byContradiction fun dw=>?_
   by_cases hbm:b∈o.take k
   ·rw[if_pos hbm]at g1
    grind [fE,decide_eq_false_iff_not]
   ·rw[if_neg hbm]at g1
    have hrb:k<TV rs b:=by
     rcases Nat.lt_or_eq_of_le (Nat.le_of_not_lt (fun h6=>hbm ((h.mem b1).2 h6)))with h6|h6
     ·grind
     ·obtain⟨q,hq⟩:=adE (h.perm.mem_iff.2 (adL.2 b1))
      have Cu:=h.LJ hq
      grind
    obtain⟨q,hq⟩:=adE (h.perm.mem_iff.2 (adL.2 b1))
    have Cu:=h.LJ hq
    have hbt:=List.pairwise_iff_getElem.1 h.srt k q oJ ((adj.1 hq).1) (by omega)
    rw[(adj.1 hq).2]at hbt
    simp only[fE,adU,decide_eq_true_eq]at b3 hbt
    omega
  have eo:Cz (qs,rs) (k+1)=(kE (Cz (qs,rs) k).1 o[k],(Cz (qs,rs) k).2.set o[k] (-1)):=by show onR _=_;grind [onR]
  grind
theorem Ph{rs qs:List Int}(hp:∀r∈rs,0<=r)(hl:qs.length=rs.length){k:Nat}(hk:k<=rs.length):(Cz (qs,rs) k).1=plus rs qs k:=by
 obtain⟨o,h⟩:=HO rs
 rw[(Pg h hp hl k hk).1,yk h hl]
def qL(t s:Int)(ws:List Int):List Int:=ws.map fun w=>t*w/s
def rL(t s:Int)(ws:List Int):List Int:=ws.map fun w=>t*w%s
def gf(t s:Int)(ws:List Int):Int:=t-(qL t s ws).sum
def zL(t:Int)(ws:List Int):List Int:=plus (rL t ws.sum ws) (qL t ws.sum ws) (gf t ws.sum ws).toNat
theorem Pj(t s:Int):∀ws:List Int,s*(qL t s ws).sum+(rL t s ws).sum=t*ws.sum
 |[]=>by simp[qL,rL]
 |w::ws=>by
  have ih:=Pj t s ws
  have:=Int.mul_ediv_add_emod (t*w) s
  simp[qL,rL,List.map_cons,List.sum_cons]at*
  rw[Int.mul_add,Int.mul_add];omega
theorem Xo{t s:Int}(hs:0<s){ws:List Int}:∀r∈rL t s ws,0<=r/\r<s:=fun r hr=>by
 obtain⟨w,_,rfl⟩:=adK.1 hr
 exact⟨Int.emod_nonneg _ (by omega),Int.emod_lt_of_pos _ hs⟩
theorem yn:∀{l:List Int},(∀x∈l,0<=x)->0<=l.sum
 |[],_=>by simp
 |x::l,h=>by
  have:=h x adu
  have:=yn fun y hy=>h y (adq x hy)
  grind
theorem yp{s:Int}(hs:0<s):∀{l:List Int},(∀x∈l,0<=x/\x<s)->l.sum<=s*(l.countP (fun x=>decide (0<x)):Nat)/\(0<l.sum->l.sum<s*(l.countP (fun x=>decide (0<x)):Nat))
 |[],_=>by simp
 |x::l,h=>by
  have hx:=h x adu
  have ih:=yp hs fun y hy=>h y (adq x hy)
  simp[List.countP_cons]
  grind
theorem wU{t:Int}{ws:List Int}(hs:0<ws.sum):0<=gf t ws.sum ws/\gf t ws.sum ws<=((rL t ws.sum ws).countP fun x=>decide (0<x):Nat)/\(0<gf t ws.sum ws->gf t ws.sum ws<((rL t ws.sum ws).countP fun x=>decide (0<x):Nat)):=by
 have h1:=Pj t ws.sum ws
 have h2:=Xo (t:=t) hs (ws:=ws)
 have h3:=yn fun x hx=>(h2 x hx).1
 have h4:=yp hs h2
 have e:(rL t ws.sum ws).sum=ws.sum*gf t ws.sum ws:=by grind [gf,Int.mul_sub,Int.mul_comm]
 generalize gf t ws.sum ws=L at*
 generalize ((rL t ws.sum ws).countP fun x=>decide (0<x))=C at*
 rw[e]at h3 h4
 refine⟨?_,?_,fun hL=>?_⟩
 ·exact Classical.byContradiction fun hn=>by
   have:=Int.mul_neg_of_pos_of_neg hs (show L<0 by omega);omega
 ·simp_all
 simp_all [Int.mul_pos]
theorem Kc(t:Int)(ws:List Int):(zL t ws).length=ws.length:=by simp[zL,E6,rL]
theorem TZ{rs:List Int}(hp:∀r∈rs,0<=r){i:Nat}(hi:i<rs.length)(h:TV rs i<rs.countP fun x=>decide (0<x)):0<rs.getD i 0:=by
 refine Classical.byContradiction fun hn=>?_
 have:rs.countP (fun x=>decide (0<x))<=TV rs i:=by
  unfold TV
  have e:rs=(List.range rs.length).map fun j=>rs.getD j 0:=by
   refine List.ext_getElem (by simp) fun j h1 h2=>?_
   grind
  conv=>lhs;rw[e,List.countP_map]
  refine List.countP_mono_left fun j _ hj=>?_
  simp only[Function.comp,decide_eq_true_eq]at hj
  simp only[fE,decide_eq_true_eq]
  omega
 omega
theorem V5{t:Int}{ws:List Int}(ht:0<=t)(hw:∀w∈ws,0<=w)(hs:0<ws.sum)(GX:t<=ws.sum){i:Nat}(hi:i<ws.length):0<=(zL t ws).getD i 0/\(zL t ws).getD i 0<=ws.getD i 0:=by
 unfold zL
 have hr:i<(rL t ws.sum ws).length:=by grind [rL]
 rw[yj hr]
 have hwi:=hw _ (adP hi)
 have eq:(qL t ws.sum ws).getD i 0=t*ws[i]/ws.sum:=by simp[qL,hi]
 have er:(rL t ws.sum ws).getD i 0=t*ws[i]%ws.sum:=by simp[rL,hi]
 have ew:ws.getD i 0=ws[i]:=by grind
 rw[eq,ew]
 have vz:0<=t*ws[i]/ws.sum:=Int.ediv_nonneg (Int.mul_nonneg ht hwi) (by omega)
 have hm:=Int.mul_ediv_add_emod (t*ws[i]) ws.sum
 have hle:=Int.mul_le_mul_of_nonneg_right GX hwi
 split
 ·obtain⟨l1,l2,l3⟩:=wU hs
  have dK:0<gf t ws.sum ws:=by omega
  have hrp:=TZ (fun r hr=>((Xo (t:=t) hs (ws:=ws)) r hr).1) hr (by have:=l3 dK;omega)
  rw[er]at hrp
  refine⟨by omega,?_⟩
  have:ws.sum*(t*ws[i]/ws.sum)<ws.sum*ws[i]:=by omega
  have:=Int.lt_of_mul_lt_mul_left this (by omega)
  omega
 ·refine⟨by omega,?_⟩
  have h0:=Int.emod_nonneg (t*ws[i]) (show ws.sum≠0 by omega)
  have:ws.sum*(t*ws[i]/ws.sum)<=ws.sum*ws[i]:=by omega
  simp_all
end
section
open Go.TM
section
variable {κ β:Type} [DecidableEq κ]
def aV:List (κ×β)->κ->Option β
 |[],_=>none
 |(k',v)::r,k=>if k'=k then some v else aV r k
def aN:List (κ×β)->κ->β->List (κ×β)
 |[],k,x=>[(k,x)]
 |(k',v)::r,k,x=>if k'=k then(k,x)::r else(k',v)::aN r k x
def s0:List (κ×β)->κ->List (κ×β)
 |[],_=>[]
 |(k',v)::r,k=>if k'=k then r else(k',v)::s0 r k
def Nk(m:List (κ×β)):Prop:=(m.map (·.1)).Nodup
theorem iY(m:List (κ×β))(k k':κ)(x:β):aV (aN m k x) k'=if k=k' then some x else aV m k':=by
 induction m with
 |nil=>rfl
 |cons p r ih=>
  obtain⟨q,v⟩:=p
  simp[aN]
  by_cases h:q=k
  ·simp_all [aV,if_neg]
  ·rw[if_neg h]
   simp[aV,ih]
   grind
theorem mR{m:List (κ×β)}{k:κ}{x:β}(h:aV m k=some x):(k,x)∈m:=by
 induction m with
 |nil=>cases h
 |cons p r ih=>
  obtain⟨q,v⟩:=p
  simp[aV]at h
  grind
theorem mS{m:List (κ×β)}{k:κ}(h:k∉m.map (·.1)):aV m k=none:=by
 cases hg:aV m k with
 |none=>rfl
 |some x=>exact absurd (adK.2 ⟨_,mR hg,rfl⟩) h
theorem Pk{m:List (κ×β)}{k:κ}:aV m k=none↔k∉m.map (·.1):=by
 refine⟨fun h hm=>?_,mS⟩
 induction m with
 |nil=>grind
 |cons p r ih=>
  obtain⟨q,v⟩:=p
  simp[aV]at h
  grind
theorem CB{m:List (κ×β)}{k:κ}{x:β}(hn:Nk m)(h:(k,x)∈m):aV m k=some x:=by
 induction m with
 |nil=>grind
 |cons p r ih=>
  obtain⟨q,v⟩:=p
  have Pl:=List.nodup_cons.1 hn
  simp[aV]
  rcases adp.1 h with e|h
  ·grind
  ·rw[if_neg,ih Pl.2 h]
   grind
theorem uL(m:List (κ×β))(k:κ)(x:β):(aN m k x).map (·.1)=if k∈m.map (·.1)then m.map (·.1)else m.map (·.1)++[k]:=by
 induction m with
 |nil=>rfl
 |cons p r ih=>
  obtain⟨q,v⟩:=p
  simp[aN,adp]
  grind
theorem Nk.put{m:List (κ×β)}(h:Nk m)(k:κ)(x:β):Nk (aN m k x):=by
 unfold Nk
 rw[uL]
 split
 ·exact h
 ·rw[List.nodup_append]
  refine⟨h,by simp,fun a ha b hb=>?_⟩
  grind
theorem Pm(m:List (κ×β))(k:κ):(s0 m k).Sublist m:=by
 induction m with
 |nil=>exact .slnil
 |cons p r ih=>
  grind [s0,List.sublist_cons_self]
theorem Nk.del{m:List (κ×β)}(h:Nk m)(k:κ):Nk (s0 m k):=h.sublist ((Pm m k).map _)
theorem E7{m:List (κ×β)}(h:Nk m)(k k':κ):aV (s0 m k) k'=if k=k' then none else aV m k':=by
 induction m with
 |nil=>simp[s0,aV]
 |cons p r ih=>
  obtain⟨q,v⟩:=p
  have Pl:=List.nodup_cons.1 h
  simp[s0]
  by_cases h1:q=k
  ·subst h1
   rw[if_pos rfl]
   by_cases h2:q=k'
   ·subst h2
    rw[if_pos rfl];exact mS Pl.1
   simp_all [aV]
  ·rw[if_neg h1]
   simp[aV,ih Pl.2]
   grind
theorem Nk.perm{m m':List (κ×β)}(h:Nk m)(p:m.Perm m'):Nk m':=(p.map _).nodup_iff.1 h
theorem A3{m m':List (κ×β)}(h:Nk m)(p:m.Perm m')(k:κ):aV m k=aV m' k:=by
 cases hg:aV m k with
 |some x=>exact(CB (h.perm p) (p.mem_iff.1 (mR hg))).symm
 |none=>
  grind [Pk,mS]
def eM(ek:κ->DV)(ev:β->DV)(m:List (κ×β)):List DV:=m.map fun p=>.fV (ek p.1) (ev p.2)
variable {ek:κ->DV} {ev:β->DV} (hk:∀a b,sq (ek a) (ek b)=decide (a=b))
include hk
theorem hU(m:List (κ×β))(k:κ):ca (eM ek ev m) (ek k)=(aV m k).map ev:=by
 induction m with
 |nil=>rfl
 |cons p r ih=>
  obtain⟨q,v⟩:=p
  show(bif sq _ _ then some _ else ca (eM ek ev r) _)=_
  rw[hk,ih]
  simp[aV]
  grind
theorem cY(m:List (κ×β))(k:κ)(x:β):dh (eM ek ev m) (ek k) (ev x)=eM ek ev (aN m k x):=by
 induction m with
 |nil=>rfl
 |cons p r ih=>
  obtain⟨q,v⟩:=p
  show(bif sq _ _ then DV.fV _ _::eM ek ev r else .fV _ _::dh (eM ek ev r) _ _)=_
  rw[hk,ih]
  simp[aN]
  by_cases h:q=k
  ·rw[adF h,if_pos h];rfl
  ·rw[adG h,if_neg h];rfl
theorem T0(m:List (κ×β))(k:κ):iJ (eM ek ev m) (ek k)=eM ek ev (s0 m k):=by
 induction m with
 |nil=>rfl
 |cons p r ih=>
  obtain⟨q,v⟩:=p
  show(bif sq _ _ then eM ek ev r else .fV _ _::iJ (eM ek ev r) _)=_
  rw[hk,ih]
  simp[s0]
  by_cases h:q=k
  ·grind
  ·rw[adG h,if_neg h];rfl
end
end
section
open Go.TM
def wV:TI:=⟨false,1,0,false,[],[],false,false,0,0,0,[],none,false,0,[]⟩
def bp:TI:=⟨true,1,8,false,[],[.jL],false,false,0,7,0,[],none,false,0,[]⟩
def ty2:TI:=⟨true,1,8,false,[],[.int .i64 0],false,false,0,2,0,[],some .i64,false,0,[]⟩
def ty3:TI:=⟨true,1,1,false,[],[.int .u8 0],false,false,0,2,0,[],some .u8,false,0,[]⟩
def ty4:TI:=⟨true,4,24,true,[(0,1),(1,1),(2,1),(3,1)],[.int .i64 0,.int .i64 0,.bool false,.int .u8 0],false,false,0,9,0,[2,3,4,6],none,false,0,[2,2,1,2]⟩
def ty5:TI:=⟨true,1,16,false,[],[.str ⟨#[]⟩],false,true,0,3,0,[],none,false,0,[]⟩
def ty6:TI:=⟨true,1,8,false,[],[.int .u64 0],false,false,0,2,0,[],some .u64,false,0,[]⟩
def ty7:TI:=⟨true,2,24,true,[(0,1),(1,1)],[.str ⟨#[]⟩,.int .u64 0],false,false,0,9,0,[9,12],none,false,0,[]⟩
def NA:TI:=⟨true,1,8,false,[],[.eJ],false,false,0,5,0,[],none,false,0,[]⟩
def ty9:TI:=⟨true,1,8,true,[(0,1)],[.eJ],false,false,0,9,0,[17],none,false,0,[]⟩
def Xp:TI:=⟨true,1,16,false,[],[.nt],false,false,0,8,0,[],none,false,0,[]⟩
def Xq:TI:=⟨true,1,4,false,[],[.int .i32 0],false,false,0,2,0,[],some .i32,false,0,[]⟩
def aan:TI:=⟨true,4,96,true,[(0,1),(1,1),(2,1),(3,1)],[.aH,.aH,.aH,.aH],false,false,0,9,0,[30,31,32,33],none,false,0,[]⟩
def aao:TI:=⟨true,5,56,true,[(0,1),(1,1),(2,1),(3,1),(4,1)],[.int .i64 0,.int .i64 0,.int .i64 0,.int .i64 0,.aH],false,false,0,9,0,[3,3,3,3,46],none,false,0,[]⟩
def aap:TI:=⟨true,7,72,true,[(0,1),(1,1),(2,1),(3,1),(4,1),(5,1),(6,1)],[.int .i64 0,.int .i64 0,.int .i64 0,.int .i64 0,.int .i64 0,.int .i64 0,.aH],false,false,0,9,0,[3,3,3,3,3,3,49],none,false,0,[]⟩
def aaq:TI:=⟨true,7,48,true,[(0,1),(1,1),(2,1),(3,1),(4,1),(5,1),(6,1)],[.str ⟨#[]⟩,.bool false,.bool false,.bool false,.int .i64 0,.int .i64 0,.int .i64 0],false,false,0,9,0,[9,4,4,4,3,3,3],none,false,0,[3,1,1,1,2,2,2]⟩
def aar:TI:=⟨true,11,120,true,[(0,1),(1,1),(2,1),(3,1),(4,1),(5,1),(6,1),(7,1),(8,1),(9,1),(10,1)],[.int .i64 0,.int .i64 0,.int .i64 0,.int .i64 0,.int .i64 0,.int .i64 0,.int .i64 0,.int .i64 0,.int .i64 0,.aH,.aH],false,false,0,9,0,[3,3,3,3,3,3,3,3,3,46,22],none,false,0,[]⟩
def T1:TI:=⟨true,3,24,true,[(0,1),(1,1),(2,1)],[.int .i64 0,.int .i64 0,.int .i64 0],false,false,0,9,0,[3,3,3],none,false,0,[2,2,2]⟩
def aas:TI:=⟨true,11,184,true,[(0,1),(1,4),(5,1),(6,1),(7,1),(8,1),(9,1),(10,1)],[.int .i64 0,.aH,.aH,.aH,.aH,.hZ,.hZ,.aH,.aH,.hZ,.hZ],false,false,0,9,0,[3,35,82,83,25,38,84,84],none,false,0,[]⟩
def LK:TI:=⟨true,2,16,true,[(0,1),(1,1)],[.int .i64 0,.int .i64 0],false,false,0,9,0,[3,3],none,true,0,[2,2]⟩
def aat:TI:=⟨true,9,128,true,[(0,1),(1,1),(2,1),(3,1),(4,1),(5,1),(6,1),(7,1),(8,1)],[.str ⟨#[]⟩,.bool false,.int .i64 0,.int .i64 0,.int .i64 0,.int .i64 0,.aH,.aH,.aH],false,false,0,9,0,[9,4,3,3,3,3,90,90,90],none,false,0,[]⟩
def aau:TI:=⟨true,2,32,true,[(0,1),(1,1)],[.int .i64 0,.aH],false,false,0,9,0,[3,90],none,false,0,[]⟩
def aav:TI:=⟨true,2,40,true,[(0,1),(1,1)],[.str ⟨#[]⟩,.aH],false,false,0,9,0,[9,95],none,false,0,[]⟩
def aaw:TI:=⟨true,2,40,true,[(0,1),(1,1)],[.str ⟨#[]⟩,.aH],false,false,0,9,0,[9,100],none,false,0,[]⟩
def aax:TI:=⟨true,14,160,true,[(0,1),(1,7),(8,1),(9,1),(10,1),(11,1),(12,1),(13,1)],[.eJ,.int .i64 0,.int .i64 0,.int .i64 0,.int .i64 0,.int .i64 0,.int .i64 0,.aH,.hZ,.hZ,.hZ,.hZ,.aH,.aH],false,false,0,9,0,[23,51,82,83,84,84,38,22],none,false,0,[]⟩
def aay:TI:=⟨true,5,104,true,[(0,1),(1,1),(2,1),(3,1),(4,1)],[.aH,.aH,.hZ,.aH,.aH],false,false,0,9,0,[38,153,83,22,154],none,false,0,[]⟩
def aaz:TI:=⟨true,8,176,true,[(0,1),(1,4),(5,1),(6,1),(7,1)],[.int .i64 0,.aH,.aH,.aH,.aH,.aH,.aH,.aH],false,false,0,9,0,[3,35,167,38,25],none,false,0,[]⟩
def aaA:TI:=⟨true,3,40,true,[(0,1),(1,1),(2,1)],[.int .i64 0,.int .i64 0,.aH],false,false,0,9,0,[3,3,46],none,false,0,[]⟩
def Xr:TI:=⟨true,4,40,true,[(0,1),(1,1),(2,1),(3,1)],[.int .i64 0,.str ⟨#[]⟩,.int .i64 0,.int .i64 0],false,false,0,9,0,[3,9,3,3],none,false,0,[2,3,2,2]⟩
def aaB:TI:=⟨true,4,32,true,[(0,1),(1,1),(2,1),(3,1)],[.jL,.jL,.bool false,.jL],false,false,0,9,0,[182,182,4,220],none,false,0,[]⟩
def aaC:TI:=⟨true,4,40,true,[(0,1),(1,1),(2,1),(3,1)],[.eJ,.eJ,.eJ,.str ⟨#[]⟩],false,false,0,9,0,[17,17,17,9],none,false,0,[]⟩
def aaD:TI:=⟨true,0,0,true,[(0,0)],[],false,false,0,9,0,[336],none,false,0,[]⟩
def aaE:TI:=⟨true,11,48,true,[(0,1),(1,1),(2,1),(3,1),(4,1),(5,1),(6,1),(7,1),(8,1),(9,1),(10,1)],[.int .u64 0,.int .u64 0,.int .u32 0,.int .u8 0,.int .u8 0,.int .u8 0,.int .u8 0,.jL,.eJ,.int .i32 0,.int .i32 0],false,false,0,9,0,[12,12,217,339,5,5,340,341,342,343,344],none,false,0,[]⟩
def aaF:TI:=⟨true,1,16,true,[(0,1)],[.str ⟨#[]⟩],false,false,0,9,0,[9],none,false,0,[3]⟩
def jk:List TI:=[
 wV,bp,ty2,ty2,⟨true,1,1,false,[],[.bool false],false,false,0,1,0,[],none,false,0,[]⟩,ty3,ty3,ty4,ty4,ty5,ty5,ty5,ty6,ty7,ty7,NA,NA,NA,ty9,ty9,Xp,Xq,⟨true,1,24,false,[],[.aH],true,false,3,4,0,[],none,false,0,[]⟩,NA,bp,⟨true,1,24,false,[],[.aH],true,false,51,4,0,[],none,false,0,[]⟩,bp,ty2,wV,bp,⟨true,1,24,false,[],[.aH],true,false,58,4,0,[],none,false,0,[]⟩,⟨true,1,24,false,[],[.aH],true,false,92,4,0,[],none,false,0,[]⟩,⟨true,1,24,false,[],[.aH],true,false,97,4,0,[],none,false,0,[]⟩,⟨true,1,24,false,[],[.aH],true,false,102,4,0,[],none,false,0,[]⟩,aan,aan,bp,bp,⟨true,1,24,false,[],[.aH],true,false,64,4,0,[],none,false,0,[]⟩,bp,bp,bp,
 ⟨true,1,24,false,[],[.aH],true,false,108,4,0,[],none,false,0,[]⟩,bp,bp,bp,⟨true,1,24,false,[],[.aH],true,false,71,4,0,[],none,false,0,[]⟩,aao,aao,⟨true,1,24,false,[],[.aH],true,false,48,4,0,[],none,false,0,[]⟩,aap,aap,wV,bp,bp,bp,bp,aaq,aaq,bp,bp,bp,bp,aar,aar,NA,wV,bp,bp,bp,T1,T1,bp,wV,bp,bp,NA,wV,bp,bp,bp,bp,⟨true,1,8,false,[],[.hZ],false,false,46,6,110,[],none,false,0,[]⟩,⟨true,1,8,false,[],[.hZ],false,false,3,6,3,[],none,false,0,[]⟩,⟨true,1,8,false,[],[.hZ],false,false,46,6,3,[],none,false,0,[]⟩,aas,aas,bp,LK,LK,⟨true,1,24,false,[],[.aH],true,false,89,4,0,[],none,false,0,[]⟩,aat,aat,aau,aau,
 ⟨true,1,24,false,[],[.aH],true,false,94,4,0,[],none,false,0,[]⟩,aav,aav,LK,LK,⟨true,1,24,false,[],[.aH],true,false,99,4,0,[],none,false,0,[]⟩,aaw,aaw,bp,bp,bp,bp,T1,T1,LK,LK,bp,bp,bp,bp,bp,bp,bp,bp,NA,wV,bp,aax,aax,bp,bp,bp,⟨true,1,24,false,[],[.aH],true,false,129,4,0,[],none,false,0,[]⟩,bp,⟨true,1,24,false,[],[.aH],true,false,9,4,0,[],none,false,0,[]⟩,bp,bp,bp,wV,bp,bp,bp,⟨true,1,24,false,[],[.aH],true,false,90,4,0,[],none,false,0,[]⟩,bp,⟨true,1,24,false,[],[.aH],true,false,4,4,0,[],none,false,0,[]⟩,⟨true,1,24,false,[],[.aH],true,false,27,4,0,[],none,false,0,[]⟩,bp,bp,bp,bp,bp,bp,bp,bp,bp,bp,bp,bp,
 ⟨true,1,24,false,[],[.aH],true,false,22,4,0,[],none,false,0,[]⟩,⟨true,1,24,false,[],[.aH],true,false,219,4,0,[],none,false,0,[]⟩,aay,aay,bp,wV,bp,bp,bp,bp,bp,bp,wV,bp,⟨true,1,24,false,[],[.aH],true,false,172,4,0,[],none,false,0,[]⟩,aaz,aaz,bp,aaA,aaA,bp,bp,bp,bp,bp,bp,bp,bp,ty6,bp,bp,bp,⟨true,1,24,false,[],[.aH],true,false,189,4,0,[],none,false,0,[]⟩,wV,bp,Xr,Xr,bp,bp,bp,bp,bp,bp,bp,bp,bp,bp,bp,bp,bp,bp,bp,bp,wV,bp,bp,bp,ty2,wV,bp,bp,bp,bp,bp,⟨true,1,4,false,[],[.int .u32 0],false,false,0,2,0,[],some .u32,false,0,[]⟩,bp,ty6,bp,aaB,aaB,wV,bp,bp,bp,bp,bp,bp,bp,bp,bp,bp,bp,bp,bp,bp,bp,bp,bp,bp,bp,bp,bp,bp,bp,bp,bp,bp,bp,bp,
 bp,bp,bp,bp,wV,bp,bp,ty6,bp,bp,bp,NA,bp,wV,⟨true,1,24,false,[],[.aH],true,false,269,4,0,[],none,false,0,[]⟩,wV,bp,Xr,⟨true,1,8,false,[],[.hZ],false,false,4,6,9,[],none,false,0,[]⟩,bp,bp,bp,NA,wV,bp,bp,bp,NA,bp,wV,bp,bp,bp,bp,bp,wV,bp,bp,bp,bp,bp,bp,bp,bp,wV,bp,wV,bp,bp,bp,bp,bp,bp,wV,bp,bp,bp,bp,bp,bp,bp,bp,bp,wV,bp,bp,bp,bp,
 ⟨true,128,128,true,[],[.int .u8 0,.int .u8 0,.int .u8 0,.int .u8 0,.int .u8 0,.int .u8 0,.int .u8 0,.int .u8 0,.int .u8 0,.int .u8 0,.int .u8 0,.int .u8 0,.int .u8 0,.int .u8 0,.int .u8 0,.int .u8 0,.int .u8 0,.int .u8 0,.int .u8 0,.int .u8 0,.int .u8 0,.int .u8 0,.int .u8 0,.int .u8 0,.int .u8 0,.int .u8 0,.int .u8 0,.int .u8 0,.int .u8 0,.int .u8 0,.int .u8 0,.int .u8 0,.int .u8 0,.int .u8 0,.int .u8 0,.int .u8 0,.int .u8 0,.int .u8 0,.int .u8 0,.int .u8 0,.int .u8 0,.int .u8 0,.int .u8 0,.int .u8 0,.int .u8 0,.int .u8 0,.int .u8 0,.int .u8 0,.int .u8 0,.int .u8 0,.int .u8 0,.int .u8 0,.int .u8 0,.int .u8 0,.int .u8 0,.int .u8 0,.int .u8 0,.int .u8 0,.int .u8 0,.int .u8 0,.int .u8 0,.int .u8 0,.int .u8 0,.int .u8 0,.int .u8 0,.int .u8 0,.int .u8 0,.int .u8 0,.int .u8 0,.int .u8 0,.int .u8 0,.int .u8 0,.int .u8 0,.int .u8 0,.int .u8 0,.int .u8 0,.int .u8 0,.int .u8 0,.int .u8 0,.int .u8 0,.int .u8 0,.int .u8 0,.int .u8 0,.int .u8 0,.int .u8 0,.int .u8 0,.int .u8 0,.int .u8 0,.int .u8 0,.int .u8 0,.int .u8 0,.int .u8 0,.int .u8 0,.int .u8 0,.int .u8 0,.int .u8 0,.int .u8 0,.int .u8 0,.int .u8 0,.int .u8 0,.int .u8 0,.int .u8 0,.int .u8 0,.int .u8 0,.int .u8 0,.int .u8 0,.int .u8 0,.int .u8 0,.int .u8 0,.int .u8 0,.int .u8 0,.int .u8 0,.int .u8 0,.int .u8 0,.int .u8 0,.int .u8 0,.int .u8 0,.int .u8 0,.int .u8 0,.int .u8 0,.int .u8 0,.int .u8 0,.int .u8 0,.int .u8 0,.int .u8 0,.int .u8 0,.int .u8 0,.int .u8 0],false,false,5,10,0,[],none,false,128,[]⟩,
 bp,Xp,Xp,bp,bp,bp,bp,bp,bp,bp,bp,NA,bp,aaC,aaC,⟨true,0,0,true,[],[],false,false,16,10,0,[],none,false,0,[]⟩,aaD,aaD,ty3,ty3,bp,NA,Xq,Xq,aaE,aaE,aaF,aaF,⟨true,1,8,false,[],[.eJ],false,false,0,0,0,[],none,false,0,[]⟩]
theorem T2(f:Nat->TI)(l:List Nat)(t:Nat):nth (l.map f) t=match l[t]? with|some i=>f i|none=>TI.no:=by
 induction l generalizing t with
 |nil=>cases t<;>rfl
 |cons x r ih=>cases t with
  |zero=>rfl
  |succ t=>simpa[nth]using ih t
theorem Xs:(List.range 350).map (TI.of Tryz.prog)=jk:=by kernel_rfl
theorem aG:fB Tryz.prog jk:=by
 intro t h
 rw[<-Xs,T2]at h⊢
 by_cases ht:t<350
 ·rw[List.getElem?_range ht]
 ·rw[List.getElem?_eq_none (by simp;omega)]at h;cases h
theorem mixed:Tryz.prog.follows .mixedOrders=true:=Checked.mixed Tryz.checked
end
end Go.Proofs.YtfpebgpgabjieaaGreatDoor
