import Derived.Test.YtfpebgpgabjieaaGreatDoorGM15
import Derived.Test.YtfpebgpgabjieaaGreatDoorGM13
import Derived.Test.YtfpebgpgabjieaaGreatDoorProg
import Derived.Test.YtfpebgpgabjieaaGreatDoorChecked
import Derived.KernelRfl
set_option linter.all false
namespace Go.Proofs.YtfpebgpgabjieaaGreatDoor
section
structure Lt where
 f:Int
 a:Int
 n:Int
theorem Lt.ext'{x y:Lt}(h1:x.f=y.f)(h2:x.a=y.a)(h3:x.n=y.n):x=y:=by cases x;simp_all
def eG(x:Lt)(f u:Int):Prop:=x.f=f/\x.a<=u/\u<x.a+x.n
def has(l:List Lt)(f u:Int):Prop:=∃x∈l,eG x f u
theorem bY{f u:Int}:¬has [] f u:=nofun
theorem bo{x:Lt}{l:List Lt}{f u:Int}:has (x::l) f u↔eG x f u\/has l f u:=by
 constructor
 ·rintro⟨y,hy,h⟩
  rcases adV.1 hy with rfl|hy
  ·grind
  ·exact .inr ⟨y,hy,h⟩
 ·rintro(h|⟨y,hy,h⟩)
  ·exact⟨x,ad0,h⟩
  ·exact⟨y,adW _ hy,h⟩
theorem dT{l r:List Lt}{f u:Int}:has (l++r) f u↔has l f u\/has r f u:=by
 induction l with
 |nil=>simp[bY]
 |cons x l ih=>simp_all [bo,or_assoc]
def Ax(x y:Lt):Prop:=x.f<y.f\/x.f=y.f/\x.a+x.n<y.a
structure NS(l:List Lt):Prop where
 pL:l.Pairwise Ax
 pos:∀x∈l,1<=x.n
theorem NS.nil:NS []:=⟨.nil,nofun⟩
theorem NS.tail{x:Lt}{l:List Lt}(h:NS (x::l)):NS l:=⟨(List.pairwise_cons.1 h.pL).2,fun y hy=>h.pos y (adW _ hy)⟩
theorem NS.head{x:Lt}{l:List Lt}(h:NS (x::l)):1<=x.n/\∀y∈l,Ax x y:=⟨h.pos x ad0,(List.pairwise_cons.1 h.pL).1⟩
theorem NS.first{x:Lt}{l:List Lt}(h:NS (x::l)){f u:Int}(hu:has (x::l) f u):x.f<f\/x.f=f/\x.a<=u:=by
 rcases bo.1 hu with h1|⟨y,hy,h1⟩
 ·exact .inr ⟨h1.1,h1.2.1⟩
 ·have:=h.head.2 y hy
  have:=h.head.1
  obtain⟨h2,h3,h4⟩:=h1
  grind [Ax]
theorem NS.uniq:∀{l r:List Lt},NS l->NS r->(∀f u,has l f u↔has r f u)->l=r
 |[],[],_,_,_=>rfl
 |[],y::r,_,hr,h=>absurd ((h y.f y.a).2 (bo.2 (.inl ⟨rfl,Int.le_refl _,by have:=hr.head.1;omega⟩))) bY
 |x::l,[],hl,_,h=>absurd ((h x.f x.a).1 (bo.2 (.inl ⟨rfl,Int.le_refl _,by have:=hl.head.1;omega⟩))) bY
 |x::l,y::r,hl,hr,h=>by
  have px:=hl.head.1
  have py:=hr.head.1
  have h1:=hr.first ((h x.f x.a).1 (bo.2 (.inl ⟨rfl,Int.le_refl _,by omega⟩)))
  have h2:=hl.first ((h y.f y.a).2 (bo.2 (.inl ⟨rfl,Int.le_refl _,by omega⟩)))
  have ef:x.f=y.f:=by omega
  have ea:x.a=y.a:=by omega
  have key:∀{p q:Lt} {l r:List Lt},NS (p::l)->NS (q::r)->(∀f u,has (p::l) f u->has (q::r) f u)->p.f=q.f->p.a=q.a->p.n<=q.n:=by
   intro p q l r hp hq hh e1 e2
   rcases Int.lt_or_le q.n p.n with ay|hle
   ·exfalso
    have q1:=hq.head.1
    rcases bo.1 (hh p.f (q.a+q.n) (bo.2 (.inl ⟨rfl,by omega,by omega⟩)))with h3|⟨z,hz,h3⟩
    ·have:=h3.2.2;omega
    ·have:=hq.head.2 z hz
     obtain⟨h4,h5,h6⟩:=h3
     grind [Ax]
   grind
  have exy:=Lt.ext' ef ea (Int.le_antisymm (key hl hr (fun f u=>(h f u).1) ef ea) (key hr hl (fun f u=>(h f u).2) ef.symm ea.symm))
  subst exy
  congr 1
  refine NS.uniq hl.tail hr.tail fun f u=>?_
  have dis:∀{s:List Lt},NS (x::s)->has s f u->¬eG x f u:=by
   rintro s hs ⟨z,hz,h4⟩ h5
   have:=hs.head.2 z hz
   obtain⟨a1,a2,a3⟩:=h4
   obtain⟨b1,b2,b3⟩:=h5
   grind [Ax]
  constructor
  ·intro h3
   rcases bo.1 ((h f u).1 (bo.2 (.inr h3)))with h4|h4
   ·grind
   grind
  ·intro h3
   rcases bo.1 ((h f u).2 (bo.2 (.inr h3)))with h4|h4
   ·grind
   grind
def aJ(l:List Lt):Int:=(l.map (·.n)).sum
def aN(l:List Lt)(x:Lt):List Lt:=
 if x.n=0 then l else match l.getLast? with
  |some y=>if y.f=x.f/\y.a+y.n=x.a then l.dropLast++[⟨y.f,y.a,y.n+x.n⟩]else l++[x]
  |none=>[x]
theorem ic{l:List Lt}{y:Lt}(h:l.getLast?=some y):l=l.dropLast++[y]:=by
 rcases List.eq_nil_or_concat l with rfl|⟨r,z,rfl⟩
 ·grind
 grind
theorem pM{l:List Lt}{x:Lt}(hl:∀y∈l,0<=y.n)(hx:0<=x.n){f u:Int}:has (aN l x) f u↔has l f u\/eG x f u:=by
 unfold aN
 split
 ·constructor
  ·grind
  ·rintro(h|h)
   ·grind
   ·have:=h.2;omega
 split
 ·rename_i y hy
  split
  ·rename_i hc
   rw[dT]
   conv=>rhs;rw[(ic hy),dT]
   rw[or_assoc]
   refine or_congr Iff.rfl ?_
   constructor
   ·rintro⟨z,hz,h⟩
    rw[adU]at hz;subst hz
    obtain⟨h1,h2,h3⟩:=h
    simp at h1 h2 h3
    by_cases hu:u<y.a+y.n
    ·exact .inl ⟨y,adU.2 rfl,h1,h2,hu⟩
    ·exact .inr ⟨by omega,by omega,by omega⟩
   ·rintro(⟨z,hz,h⟩|h)
    ·rw[adU]at hz;subst hz
     exact⟨_,adU.2 rfl,h.1,h.2.1,by have:=h.2.2;grind⟩
    ·exact⟨_,adU.2 rfl,by rw[hc.1];exact h.1,by have:=h.2.1;grind,by have:=h.2.2;grind⟩
  ·rw[dT]
   refine or_congr Iff.rfl ?_
   grind [bo,bY]
 grind [List.getLast?_eq_none_iff,bo,bY]
theorem FB{l:List Lt}{x:Lt}(hl:∀y∈l,1<=y.n)(hx:0<=x.n):∀y∈aN l x,1<=y.n:=by
 unfold aN
 split
 ·grind
 split
 ·rename_i y hy
  have hyn:=hl y (List.mem_of_getLast? hy)
  intro z hz
  split at hz
  ·rcases adX.1 hz with h|h
   ·exact hl z (List.dropLast_subset _ h)
   ·rw[adU]at h;subst h;simp;omega
  ·rcases adX.1 hz with h|h
   ·exact hl z h
   ·rw[adU]at h;subst h;omega
 ·grind
theorem eH(l r:List Lt):aJ (l++r)=aJ l+aJ r:=by simp[aJ]
theorem pN(l:List Lt)(x:Lt):aJ (aN l x)=aJ l+x.n:=by
 unfold aN
 split
 ·grind
 split
 ·rename_i y hy
  split
  ·rw[eH]
   conv=>rhs;rw[(ic hy),eH]
   grind [aJ]
  ·rw[eH];simp[aJ]
 grind [List.getLast?_eq_none_iff,aJ]
theorem dR(l:List Lt)(x:Lt):(aN l x).length<=l.length+1:=by
 unfold aN
 grind
end
section
structure Wb where
 TW:List Lt
 TX:List Lt
 fr:Int
 to:Int
def wJ(l:Lt)(s:Wb)(x:Lt):Wb:=
 if x.f<l.f\/x.f=l.f/\x.a+x.n<s.fr then { s with TW:=s.TW++[x] }
 else if l.f<x.f\/s.to<x.a then { s with TX:=s.TX++[x] }
 else { s with fr:=min s.fr x.a,to:=max s.to (x.a+x.n) }
def PC(l:Lt)(s:Wb):List Lt:=s.TW++[⟨l.f,s.fr,s.to-s.fr⟩]++s.TX
def kB(s:List Lt)(l:Lt):List Lt:=PC l (s.foldl (wJ l) ⟨[],[],l.a,l.a+l.n⟩)
def cL(l:List Lt):List Lt:=l.foldl kB []
structure yv(l:Lt)(p:List Lt)(s:Wb):Prop where
 bs:s.TW.Sublist p
 aq:s.TX.Sublist p
 bg:∀x∈s.TW,x.f<l.f\/x.f=l.f/\x.a+x.n<s.fr
 ag:∀x∈s.TX,l.f<x.f\/x.f=l.f/\s.to<x.a
 fr:s.fr<=l.a
 to:l.a+l.n<=s.to
 un:∀f u,has s.TW f u\/has s.TX f u\/(l.f=f/\s.fr<=u/\u<s.to)↔has p f u\/eG l f u
theorem NS.sub{l r:List Lt}(h:NS r)(hs:l.Sublist r):NS l:=⟨h.pL.sublist hs,fun x hx=>h.pos x (hs.subset hx)⟩
theorem yv.step{l:Lt}{p:List Lt}{s:Wb}{x:Lt}(h:yv l p s)(hl:1<=l.n)(hp:NS (p++[x])):yv l (p++[x]) (wJ l s x):=by
 have hx:=hp.pos x (by simp)
 have hg:=fun y hy=>(List.pairwise_append.1 hp.pL).2.2 y hy x (adU.2 rfl)
 obtain⟨h1,h2,h3,h4,h5,h6,h7⟩:=h
 have Aw:∀f u,has [x] f u↔eG x f u:=fun f u=>by grind [bo,bY]
 unfold wJ
 split
 ·rename_i hc
  refine⟨h1.append_right [x],h2.trans (List.sublist_append_left _ _),fun y hy=>?_,h4,h5,h6,fun f u=>?_⟩
  ·grind
  grind [has,dT,id]
 rename_i Au
 split
 ·rename_i hc
  refine⟨h1.trans (List.sublist_append_left _ _),h2.append_right [x],h3,fun y hy=>?_,h5,h6,fun f u=>?_⟩
  ·grind
  grind [has,dT,id]
 ·rename_i wI
  have ef:x.f=l.f:=by omega
  refine⟨h1.trans (List.sublist_append_left _ _),h2.trans (List.sublist_append_left _ _),fun y hy=>?_,fun y hy=>?_,?_,?_,fun f u=>?_⟩
  ·have a1:=h3 y hy
   have a2:=hg y (h1.subset hy)
   show y.f<l.f\/y.f=l.f/\y.a+y.n<min s.fr x.a
   unfold Ax at a2
   omega
  ·have a1:=h4 y hy
   have a2:=hg y (h2.subset hy)
   have a3:=hp.pos y (List.mem_append_left _ (h2.subset hy))
   unfold Ax at a2
   omega
  ·show min s.fr x.a<=l.a;omega
  ·show l.a+l.n<=max s.to _;omega
  ·show has s.TW f u\/has s.TX f u\/(l.f=f/\min s.fr x.a<=u/\u<max s.to _)↔_
   rw[dT,Aw]
   have:=h7 f u
   constructor
   ·rintro(h|h|h)
    ·exact(this.1 (.inl h)).imp .inl id
    ·exact(this.1 (.inr (.inl h))).imp .inl id
    ·by_cases hu:s.fr<=u/\u<s.to
     ·exact(this.1 (.inr (.inr ⟨h.1,hu⟩))).imp .inl id
     ·exact .inl (.inr ⟨by omega,by omega,by omega⟩)
   ·rintro((h|h)|h)
    ·rcases this.2 (.inl h)with h|h|h
     ·exact .inl h
     ·grind
     ·exact .inr (.inr ⟨h.1,by omega,by omega⟩)
    ·exact .inr (.inr ⟨by rw[<-ef];exact h.1,by have:=h.2.1;omega,by have:=h.2.2;omega⟩)
    ·rcases this.2 (.inr h)with h|h|h
     ·exact .inl h
     ·exact .inr (.inl h)
     ·exact .inr (.inr ⟨h.1,by omega,by omega⟩)
theorem yv.fold{l:Lt}(hl:1<=l.n):∀(r p:List Lt) (s:Wb),NS (p++r)->yv l p s->yv l (p++r) (r.foldl (wJ l) s)
 |[],p,s,_,h=>by grind
 |x::r,p,s,hn,h=>by
  rw[List.foldl_cons]
  have e:p++x::r=(p++[x])++r:=by simp
  rw[e]at hn⊢
  exact yv.fold hl r _ _ hn (h.step hl (hn.sub (List.sublist_append_left _ _)))
theorem KX{s:List Lt}{l:Lt}(hs:NS s)(hl:1<=l.n):NS (kB s l)/\∀f u,has (kB s l) f u↔has s f u\/eG l f u:=by
 have h0:yv l [] ⟨[],[],l.a,l.a+l.n⟩:=⟨.slnil,.slnil,nofun,nofun,Int.le_refl _,Int.le_refl _,fun f u=>by
  have a:¬has [] f u:=bY
  exact⟨fun h=>.inr ((h.resolve_left a).resolve_left a),fun h=>.inr (.inr (h.resolve_left a))⟩⟩
 have h:=yv.fold hl s [] _ (by simpa using hs) h0
 simp[List.nil_append]at h
 unfold kB PC
 generalize s.foldl (wJ l) ⟨[],[],l.a,l.a+l.n⟩=z at h
 obtain⟨h1,h2,h3,h4,h5,h6,h7⟩:=h
 refine⟨⟨?_,fun x hx=>?_⟩,fun f u=>?_⟩
 ·rw[List.pairwise_append,List.pairwise_append]
  refine⟨⟨(hs.sub h1).pL,aem _ _,fun x hx y hy=>?_⟩,(hs.sub h2).pL,fun x hx y hy=>?_⟩
  ·rw[adU]at hy;subst hy;exact h3 x hx
  ·rcases adX.1 hx with hx|hx
   ·grind [Ax]
   ·grind [List.mem_singleton,Ax]
 ·rcases adX.1 hx with hx|hx
  ·rcases adX.1 hx with hx|hx
   ·exact hs.pos x (h1.subset hx)
   grind
  ·exact hs.pos x (h2.subset hx)
 ·rw[dT,dT,or_assoc,<-h7]
  refine or_congr Iff.rfl ?_
  rw[or_comm]
  refine or_congr Iff.rfl ?_
  rw[bo]
  constructor
  ·rintro(h|h)
   ·exact⟨h.1,h.2.1,by have:=h.2.2;grind⟩
   ·exact absurd h bY
  ·rintro h
   exact .inl ⟨h.1,h.2.1,by grind⟩
theorem Br:∀(l s:List Lt),NS s->(∀x∈l,1<=x.n)->NS (l.foldl kB s)/\∀f u,has (l.foldl kB s) f u↔has s f u\/has l f u
 |[],s,hs,_=>⟨hs,fun f u=>⟨.inl,fun h=>h.resolve_right bY⟩⟩
 |x::l,s,hs,hl=>by
  have h1:=KX hs (hl x ad0)
  have h2:=Br l _ h1.1 fun y hy=>hl y (adW _ hy)
  simp_all [bo,or_assoc]
theorem fQ{l:List Lt}(hl:∀x∈l,1<=x.n):NS (cL l)/\∀f u,has (cL l) f u↔has l f u:=by
 have h:=Br l [] NS.nil hl
 exact⟨h.1,fun f u=>(h.2 f u).trans ⟨fun h=>h.resolve_left bY,.inr⟩⟩
def qW(s:List Lt)(x:Lt):List Lt:=match s.getLast? with
 |some y=>if y.f=x.f/\x.a<=y.a+y.n then s.dropLast++[⟨y.f,y.a,max y.n (x.a+x.n-y.a)⟩]else s++[x]
 |none=>[x]
def leq(x y:Lt):Prop:=x.f<y.f\/x.f=y.f/\x.a<=y.a
theorem PD{s:List Lt}{x:Lt}(hs:NS s)(hx:1<=x.n)(hl:∀y∈s,leq y x):NS (qW s x)/\(∀f u,has (qW s x) f u↔has s f u\/eG x f u)/\∀z,leq x z->(∀y∈s,leq y z)->∀y∈qW s x,leq y z:=by
 unfold qW
 split
 ·rename_i y hy
  have e:=ic hy
  have hyn:=hs.pos y (List.mem_of_getLast? hy)
  have TY:=hl y (List.mem_of_getLast? hy)
  split
  ·rename_i hc
   have hg:=hs.pL
   rw[e]at hg
   have Ex:=List.pairwise_append.1 hg
   refine⟨⟨?_,fun z hz=>?_⟩,fun f u=>?_,fun z h1 h2 w hw=>?_⟩
   ·rw[List.pairwise_append]
    refine⟨Ex.1,aem _ _,fun p hp q hq=>?_⟩
    rw[adU]at hq;subst hq
    exact Ex.2.2 p hp y (adU.2 rfl)
   ·rcases adX.1 hz with hz|hz
    ·exact hs.pos z (List.dropLast_subset _ hz)
    grind
   ·rw[dT]
    conv=>rhs;rw[e,dT]
    rw[or_assoc]
    refine or_congr Iff.rfl ?_
    unfold leq at TY
    constructor
    ·rintro⟨z,hz,h⟩
     rw[adU]at hz;subst hz
     obtain⟨h1,h2,h3⟩:=h
     simp only at h1 h2 h3
     by_cases hu:u<y.a+y.n
     ·exact .inl ⟨y,adU.2 rfl,h1,h2,hu⟩
     ·exact .inr ⟨by omega,by omega,by omega⟩
    ·rintro(⟨z,hz,h⟩|h)
     ·rw[adU]at hz;subst hz
      exact⟨_,adU.2 rfl,h.1,h.2.1,by have:=h.2.2;grind⟩
     ·exact⟨_,adU.2 rfl,by rw[hc.1];exact h.1,by have:=h.2.1;simp;omega,by have:=h.2.2;simp only;omega⟩
   ·rcases adX.1 hw with hw|hw
    ·exact h2 w (List.dropLast_subset _ hw)
    ·rw[adU]at hw;subst hw
     exact h2 y (List.mem_of_getLast? hy)
  ·rename_i hc
   refine⟨⟨?_,fun z hz=>?_⟩,fun f u=>?_,fun z h1 h2 w hw=>?_⟩
   ·rw[List.pairwise_append]
    refine⟨hs.pL,aem _ _,fun p hp q hq=>?_⟩
    rw[adU]at hq;subst hq
    have hyq:Ax y q:=by grind [Ax,leq]
    rw[e]at hp
    rcases adX.1 hp with hp|hp
    ·have hg:=hs.pL
     rw[e]at hg
     have:=(List.pairwise_append.1 hg).2.2 p hp y (adU.2 rfl)
     unfold Ax at*
     omega
    ·rw[adU]at hp;subst hp;exact hyq
   ·rcases adX.1 hz with hz|hz
    ·exact hs.pos z hz
    ·rw[adU]at hz;subst hz;exact hx
   ·rw[dT]
    refine or_congr Iff.rfl ?_
    rw[bo]
    exact⟨fun h=>h.resolve_right bY,.inl⟩
   ·rcases adX.1 hw with hw|hw
    ·exact h2 w hw
    ·rw[adU]at hw;subst hw;exact h1
 ·rename_i hn
  have:=List.getLast?_eq_none_iff.1 hn
  subst this
  refine⟨⟨aem _ _,fun z hz=>?_⟩,fun f u=>?_,fun z h1 _ w hw=>?_⟩
  ·rw[adU]at hz;subst hz;exact hx
  ·rw[bo]
   exact⟨fun h=>.inr (h.resolve_right bY),fun h=>.inl (h.resolve_left bY)⟩
  ·rw[adU]at hw;subst hw;exact h1
theorem FC:∀(l s:List Lt),NS s->(∀x∈l,1<=x.n)->l.Pairwise leq->(∀x∈l,∀y∈s,leq y x)->NS (l.foldl qW s)/\∀f u,has (l.foldl qW s) f u↔has s f u\/has l f u
 |[],s,hs,_,_,_=>⟨hs,fun f u=>⟨.inl,fun h=>h.resolve_right bY⟩⟩
 |x::l,s,hs,hl,hp,hb=>by
  obtain⟨h1,h2,h3⟩:=PD hs (hl x ad0) (hb x ad0)
  have hp2:=List.pairwise_cons.1 hp
  have h4:=FC l _ h1 (fun y hy=>hl y (adW _ hy)) hp2.2 fun z hz=>h3 z (hp2.1 z hz) (hb z (adW _ hz))
  simp_all [bo,or_assoc]
theorem TZ{l d:List Lt}(hl:∀x∈l,1<=x.n)(hp:d.Perm l)(hd:d.Pairwise leq):d.foldl qW []=cL l:=by
 have h1:=FC d [] NS.nil (fun x hx=>hl x (hp.mem_iff.1 hx)) hd nofun
 have h2:=fQ hl
 refine h1.1.uniq h2.1 fun f u=>?_
 rw[h1.2,h2.2]
 constructor
 ·rintro(h|⟨x,hx,h⟩)
  ·exact absurd h bY
  ·exact⟨x,hp.mem_iff.1 hx,h⟩
 ·rintro⟨x,hx,h⟩
  exact .inr ⟨x,hp.mem_iff.2 hx,h⟩
theorem KY{l:List Lt}(h:NS l):cL l=l:=(fQ h.pos).1.uniq h (fQ h.pos).2
end
section
def jV(x s:Lt):Bool:=decide (x.f<s.f\/s.f=x.f/\x.a<s.a+s.n)
def Ab:Lt->List Lt->List (Lt×Bool)
 |x,[]=>if 0<x.n then[(x,false)]else[]
 |x,s::r=>if 0<x.n/\s.f=x.f/\s.a<x.a+x.n then
  (if 0<max 0 (s.a-x.a)then[(⟨x.f,x.a,max 0 (s.a-x.a)⟩,false)]else[])++
   (⟨x.f,x.a+max 0 (s.a-x.a),min (x.n-max 0 (s.a-x.a)) (s.a+s.n-(x.a+max 0 (s.a-x.a)))⟩,true)::
    Ab ⟨x.f,x.a+max 0 (s.a-x.a)+min (x.n-max 0 (s.a-x.a)) (s.a+s.n-(x.a+max 0 (s.a-x.a))),x.n-max 0 (s.a-x.a)-min (x.n-max 0 (s.a-x.a)) (s.a+s.n-(x.a+max 0 (s.a-x.a)))⟩ r
  else if 0<x.n then[(x,false)]else[]
def kC(set:List Lt)(x:Lt):List (Lt×Bool):=Ab x (set.dropWhile fun s=>!jV x s)
def Ac(b:Bool)(l:List (Lt×Bool)):List Lt:=(l.filter fun p=>p.2==b).map (·.1)
theorem xa(b:Bool)(l r:List (Lt×Bool)):Ac b (l++r)=Ac b l++Ac b r:=by simp[Ac]
structure Wc(x:Lt)(set:List Lt)(l:List (Lt×Bool)):Prop where
 ins:∀f u,has (Ac true l) f u↔eG x f u/\has set f u
 out:∀f u,has (Ac false l) f u↔eG x f u/\¬has set f u
 pos:∀p∈l,1<=p.1.n/\p.1.f=x.f/\x.a<=p.1.a/\p.1.a+p.1.n<=x.a+x.n
 pL:(Ac false l).Pairwise Ax
theorem cM{x:Lt}{f u:Int}:has [x] f u↔eG x f u:=by grind [bo,bY]
theorem PE:∀(set:List Lt) (x:Lt),NS set->0<=x.n->(∀s∈set,jV x s=true)->Wc x set (Ab x set)
 |[],x,_,hx,_=>by
  unfold Ab
  split
  ·rename_i h0
   refine⟨fun f u=>?_,fun f u=>?_,fun p hp=>?_,aem _ _⟩
   ·exact⟨nofun,nofun⟩
   ·show has [x] f u↔_
    grind [cM,bY]
   grind
  ·rename_i h0
   exact⟨fun f u=>⟨nofun,nofun⟩,fun f u=>⟨nofun,fun h=>absurd h.1 ((fun f u h=>by have:=h.2;omega) f u)⟩,nofun,.nil⟩
 |s::r,x,hs,hx,hk=>by
  have h1:=hs.head.1
  have h2:=hs.head.2
  have qw:=by simpa[jV]using hk s ad0
  unfold Ab
  split
  ·rename_i hc
   obtain⟨c1,c2,c3⟩:=hc
   generalize ho:max 0 (s.a-x.a)=o
   generalize hi:min (x.n-o) (s.a+s.n-(x.a+o))=i
   have o0:=by omega
   have i1:1<=i:=by omega
   have ih:=PE r ⟨x.f,x.a+o+i,x.n-o-i⟩ hs.tail (by grind) fun t ht=>by
    have a1:=hk t (adW _ ht)
    have a2:=h2 t ht
    have a3:=hs.tail.pos t ht
    simp only[jV,decide_eq_true_eq]at a1⊢
    grind [Ax]
   generalize Ab ⟨x.f,x.a+o+i,x.n-o-i⟩ r=L at ih
   have w8:∀f u,f=x.f->u<x.a+o+i->¬has r f u:=by
    rintro f u rfl hu ⟨t,ht,q⟩
    have a2:=h2 t ht
    obtain⟨q1,q2,q3⟩:=q
    grind [Ax]
   have SS:∀f u,eG ⟨x.f,x.a+o+i,x.n-o-i⟩ f u↔eG x f u/\x.a+o+i<=u:=fun f u=>by
    constructor
    ·rintro⟨q1,q2,q3⟩
     exact⟨⟨q1,by grind,by grind⟩,q2⟩
    ·rintro⟨⟨q1,q2,q3⟩,q4⟩
     exact⟨q1,q4,by grind⟩
   refine⟨fun f u=>?_,fun f u=>?_,fun p hp=>?_,?_⟩
   ·rw[xa]
    have e0:Ac true (if 0<o then[((⟨x.f,x.a,o⟩),false)]else[])=[]:=by split<;>rfl
    rw[e0,List.nil_append]
    show has (⟨x.f,x.a+o,i⟩::Ac true L) f u↔_
    rw[bo,ih.ins,SS,bo]
    constructor
    ·rintro(h|h)
     ·obtain⟨q1,q2,q3⟩:=h
      simp only at q1 q2 q3
      exact⟨⟨q1,by omega,by omega⟩,.inl ⟨by omega,by omega,by omega⟩⟩
     grind
    ·rintro⟨h3,h4|h4⟩
     ·obtain⟨q1,q2,q3⟩:=h3
      obtain⟨q4,q5,q6⟩:=h4
      exact .inl ⟨q1,by grind,by grind⟩
     ·by_cases hu:x.a+o+i<=u
      ·grind
      ·exact absurd h4 (w8 f u h3.1.symm (by omega))
   ·rw[xa]
    show has (_++Ac false L) f u↔_
    rw[dT,ih.out,SS,bo]
    have e0:has (Ac false (if 0<o then[((⟨x.f,x.a,o⟩),false)]else[])) f u↔eG ⟨x.f,x.a,o⟩ f u:=by
     split
     ·exact cM
     ·exact⟨nofun,fun h=>by have:=h.2;grind⟩
    rw[e0]
    constructor
    ·rintro(h|h)
     ·obtain⟨q1,q2,q3⟩:=h
      simp only at q1 q2 q3
      refine⟨⟨q1,by omega,by omega⟩,?_⟩
      rintro(⟨q4,q5,q6⟩|h)
      ·omega
      grind
     ·refine⟨h.1.1,?_⟩
      rintro(⟨q4,q5,q6⟩|h5)
      ·have:=h.1.2;have:=h.1.1.2;omega
      grind
    ·rintro⟨h3,h4⟩
     obtain⟨q1,q2,q3⟩:=h3
     by_cases hu:u<x.a+o
     ·exact .inl ⟨q1,q2,hu⟩
     ·refine .inr ⟨⟨⟨q1,q2,q3⟩,?_⟩,fun h=>h4 (.inr h)⟩
      rcases Int.lt_or_le u (x.a+o+i)with ay|hle
      ·exact absurd (.inl ⟨by omega,by omega,by omega⟩) h4
      grind
   ·rcases adX.1 hp with hp|hp
    ·grind
    ·rcases adV.1 hp with rfl|hp
     ·exact⟨i1,rfl,by simp only;omega,by simp only;omega⟩
     ·have:=ih.pos p hp
      simp only at this
      exact⟨this.1,this.2.1,by omega,by omega⟩
   ·rw[xa]
    show List.Pairwise Ax (_++Ac false L)
    rw[List.pairwise_append]
    refine⟨by split;exact aem _ _;exact .nil,ih.pL,fun y hy z hz=>?_⟩
    obtain⟨q,hq,rfl⟩:=aeg.1 hz
    have yw:=ih.pos q (List.mem_filter.1 hq).1
    simp only at yw
    split at hy
    ·have:=by simpa[Ac]using hy
     subst this
     right
     grind
    ·cases hy
  ·rename_i hc
   have fy:∀f u,eG x f u->¬has (s::r) f u:=by
    rintro f u ⟨q1,q2,q3⟩ ⟨t,ht,q4,q5,q6⟩
    have hf:=by omega
    rcases adV.1 ht with rfl|ht
    ·omega
    ·have a2:=h2 t ht
     unfold Ax at a2
     omega
   split
   ·rename_i h0
    refine⟨fun f u=>⟨nofun,fun h=>absurd h.2 (fy f u h.1)⟩,fun f u=>?_,fun p hp=>?_,aem _ _⟩
    ·show has [x] f u↔_
     rw[cM]
     exact⟨fun h=>⟨h,fy f u h⟩,fun h=>h.1⟩
    ·rw[adU]at hp;subst hp;exact⟨h0,rfl,Int.le_refl _,Int.le_refl _⟩
   ·have aaQ:∀f u,¬eG x f u:=fun f u h=>by have:=h.2;omega
    exact⟨fun f u=>⟨nofun,fun h=>absurd h.1 (aaQ f u)⟩,fun f u=>⟨nofun,fun h=>absurd h.1 (aaQ f u)⟩,nofun,.nil⟩
theorem CS(x:Lt):∀(set:List Lt),NS set->NS (set.dropWhile fun s=>!jV x s)/\(∀s∈set.dropWhile fun s=>!jV x s,jV x s=true)/\∀f u,eG x f u->(has (set.dropWhile fun s=>!jV x s) f u↔has set f u)
 |[],_=>⟨NS.nil,nofun,fun _ _ _=>Iff.rfl⟩
 |s::r,h=>by
  cases hk:jV x s with
  |true=>
   have e:(s::r).dropWhile (fun s=>!jV x s)=s::r:=by simp_all
   rw[e]
   refine⟨h,fun t ht=>?_,fun _ _ _=>Iff.rfl⟩
   rcases adV.1 ht with rfl|ht
   ·grind
   ·have a2:=h.head.2 t ht
    have a3:=h.tail.pos t ht
    simp[jV,decide_eq_true_eq]at hk⊢
    grind [Ax]
  |false=>
   have e:(s::r).dropWhile (fun s=>!jV x s)=r.dropWhile fun s=>!jV x s:=by simp_all
   rw[e]
   have ih:=CS x r h.tail
   refine⟨ih.1,ih.2.1,fun f u hu=>?_⟩
   rw[ih.2.2 f u hu,bo]
   refine⟨.inr,fun h2=>h2.resolve_left fun h3=>?_⟩
   simp[jV,aeq]at hk
   obtain⟨q1,q2,q3⟩:=h3
   have:=hu.1
   have:=hu.2.1
   omega
theorem jG{set:List Lt}{x:Lt}(hs:NS set)(hx:0<=x.n):Wc x set (kC set x):=by
 obtain⟨h1,h2,h3⟩:=CS x set hs
 have h:=PE _ x h1 hx h2
 exact⟨fun f u=>(h.ins f u).trans (and_congr_right fun hu=>h3 f u hu),fun f u=>(h.out f u).trans (and_congr_right fun hu=>not_congr (h3 f u hu)),h.pos,h.pL⟩
def gP(y x:Lt):List Lt:=if x.f≠y.f\/y.a+y.n<=x.a\/x.a+x.n<=y.a then[x]else(if x.a<y.a then[⟨y.f,x.a,y.a-x.a⟩]else[])++(if y.a+y.n<x.a+x.n then[⟨y.f,y.a+y.n,x.a+x.n-y.a-y.n⟩]else[])
def ji(l:List Lt)(y:Lt):List Lt:=l.flatMap (gP y)
def mZ(x:Lt)(set:List Lt):List Lt:=set.foldl ji [x]
theorem KZ{y x:Lt}(hy:1<=y.n)(hx:1<=x.n):NS (gP y x)/\(∀z∈gP y x,z.f=x.f/\x.a<=z.a/\z.a+z.n<=x.a+x.n)/\∀f u,has (gP y x) f u↔eG x f u/\¬eG y f u:=by
 unfold gP
 split
 ·refine⟨⟨aem _ _,fun z hz=>?_⟩,fun z hz=>?_,fun f u=>?_⟩
  ·grind
  ·grind
  ·rw[cM]
   refine⟨fun h=>⟨h,fun h2=>?_⟩,fun h=>h.1⟩
   obtain⟨q1,q2,q3⟩:=h
   obtain⟨q4,q5,q6⟩:=h2
   omega
 ·have ef:=by omega
  have mem:∀z,z∈(if x.a<y.a then[(⟨y.f,x.a,y.a-x.a⟩)]else[])++(if y.a+y.n<x.a+x.n then[(⟨y.f,y.a+y.n,x.a+x.n-y.a-y.n⟩:Lt)]else[])↔(x.a<y.a/\z=⟨y.f,x.a,y.a-x.a⟩)\/(y.a+y.n<x.a+x.n/\z=⟨y.f,y.a+y.n,x.a+x.n-y.a-y.n⟩):=fun z=>by
   grind
  refine⟨⟨?_,fun z hz=>?_⟩,fun z hz=>?_,fun f u=>?_⟩
  ·rw[List.pairwise_append]
   refine⟨by split;exact aem _ _;simp_all,by split;exact aem _ _;simp_all,fun p hp q hq=>?_⟩
   split at hp
   ·split at hq
    ·rw[adU]at hp hq;subst hp;subst hq
     exact .inr ⟨rfl,by grind⟩
    grind
   grind
  ·grind
  ·grind
  ·constructor
   ·rintro⟨z,hz,q1,q2,q3⟩
    rcases(mem z).1 hz with⟨h1,rfl⟩|⟨h1,rfl⟩
    ·simp at q1 q2 q3
     exact⟨⟨by omega,by omega,by omega⟩,fun h=>by have:=h.2;omega⟩
    ·simp at q1 q2 q3
     exact⟨⟨by omega,by omega,by omega⟩,fun h=>by have:=h.2;omega⟩
   ·rintro⟨⟨q1,q2,q3⟩,h⟩
    by_cases hu:u<y.a
    ·exact⟨_,(mem _).2 (.inl ⟨by omega,rfl⟩),by grind,q2,by grind⟩
    ·by_cases T0:u<y.a+y.n
     ·exact absurd ⟨by omega,by omega,T0⟩ h
     ·exact⟨_,(mem _).2 (.inr ⟨by omega,rfl⟩),by grind,by grind,by grind⟩
theorem CT{y:Lt}(hy:1<=y.n):∀{l:List Lt},NS l->NS (ji l y)/\(∀z∈ji l y,∃x∈l,z.f=x.f/\x.a<=z.a/\z.a+z.n<=x.a+x.n)/\∀f u,has (ji l y) f u↔has l f u/\¬eG y f u
 |[],_=>⟨NS.nil,nofun,fun f u=>⟨nofun,nofun⟩⟩
 |x::l,h=>by
  obtain⟨a1,a2,a3⟩:=KZ hy h.head.1
  obtain⟨b1,b2,b3⟩:=CT hy h.tail
  have e:ji (x::l) y=gP y x++ji l y:=rfl
  rw[e]
  refine⟨⟨?_,fun z hz=>?_⟩,fun z hz=>?_,fun f u=>?_⟩
  ·rw[List.pairwise_append]
   refine⟨a1.pL,b1.pL,fun p hp q hq=>?_⟩
   obtain⟨t,ht,c2⟩:=b2 q hq
   have c3:=h.head.2 t ht
   grind [Ax]
  ·rcases adX.1 hz with hz|hz
   ·exact a1.pos z hz
   ·exact b1.pos z hz
  ·grind
  ·rw[dT,a3,b3,bo,or_and_right]
theorem Bs:∀(set l:List Lt),NS l->(∀y∈set,1<=y.n)->NS (set.foldl ji l)/\∀f u,has (set.foldl ji l) f u↔has l f u/\¬has set f u
 |[],l,h,_=>⟨h,fun f u=>⟨fun h=>⟨h,bY⟩,fun h=>h.1⟩⟩
 |y::set,l,h,hp=>by
  obtain⟨a1,_,a3⟩:=CT (hp y ad0) h
  obtain⟨b1,b2⟩:=Bs set _ a1 fun z hz=>hp z (adW _ hz)
  simp_all [bo,and_assoc]
theorem tc{x:Lt}(hx:1<=x.n){set:List Lt}(hs:∀y∈set,1<=y.n):NS (mZ x set)/\∀f u,has (mZ x set) f u↔eG x f u/\¬has set f u:=by
 have h:=Bs set [x] ⟨aem _ _,fun z hz=>by grind⟩ hs
 exact⟨h.1,fun f u=>by rw[<-cM];exact h.2 f u⟩
theorem Xz{set:List Lt}{x:Lt}(hs:NS set)(hx:0<=x.n):NS (Ac false (kC set x)):=by
 have h:=jG hs hx
 refine⟨h.pL,fun z hz=>?_⟩
 obtain⟨q,hq,rfl⟩:=aeg.1 hz
 exact(h.pos q (List.mem_filter.1 hq).1).1
theorem T1{set P:List Lt}{x:Lt}(hs:NS set)(hx:1<=x.n)(hP:∀y∈P,1<=y.n)(hu:∀f u,has set f u↔has P f u):Ac false (kC set x)=mZ x P:=by
 have h:=tc hx hP
 refine(Xz hs (by omega)).uniq h.1 fun f u=>?_
 rw[(jG hs (by omega)).out,h.2,hu]
def gy(p:List Lt×List Lt)(q:Lt×Bool):List Lt×List Lt:=bif q.2 then(aN p.1 q.1,p.2)else(p.1,aN p.2 q.1)
def kD(l set:List Lt):List Lt×List Lt:=(l.flatMap (kC set)).foldl gy ([],[])
theorem xb:∀(l:List (Lt×Bool)) (p:List Lt×List Lt),l.foldl gy p=((Ac true l).foldl aN p.1,(Ac false l).foldl aN p.2)
 |[],p=>rfl
 |(x,true)::l,p=>by rw[List.foldl_cons,xb l];rfl
 |(x,false)::l,p=>by rw[List.foldl_cons,xb l];rfl
def mD(l P:List Lt):List Lt:=(l.flatMap fun x=>mZ x P).foldl aN []
theorem yx(b:Bool)(g:Lt->List (Lt×Bool)):∀l:List Lt,Ac b (l.flatMap g)=l.flatMap fun x=>Ac b (g x)
 |[]=>rfl
 |x::l=>by rw[List.flatMap_cons,xa,yx b g l,List.flatMap_cons]
theorem T2{l P:List Lt}(hl:∀x∈l,1<=x.n)(hP:∀y∈P,1<=y.n){set:List Lt}(hs:NS set)(hu:∀f u,has set f u↔has P f u):(kD l set).2=mD l P:=by
 unfold kD mD
 rw[xb]
 show(Ac false _).foldl aN []=_
 rw[yx]
 have:(l.flatMap fun x=>Ac false (kC set x))=l.flatMap fun x=>mZ x P:=by
  induction l with
  |nil=>rfl
  |cons x l ih=>
   rw[List.flatMap_cons,List.flatMap_cons,ih fun y hy=>hl y (adW _ hy),T1 hs (hl x ad0) hP hu]
 grind
theorem CU:∀(l r:List Lt),(∀x∈l,1<=x.n)->(∀x∈r,1<=x.n)->(∀x∈l.foldl aN r,1<=x.n)/\∀f u,has (l.foldl aN r) f u↔has r f u\/has l f u
 |[],r,_,hr=>⟨hr,fun f u=>⟨.inl,fun h=>h.resolve_right bY⟩⟩
 |x::l,r,hl,hr=>by
  have hx:=hl x ad0
  have h1:=CU l (aN r x) (fun y hy=>hl y (adW _ hy)) (FB hr (by omega))
  refine⟨h1.1,fun f u=>?_⟩
  rw[List.foldl_cons,h1.2,pM (fun y hy=>by grind) (by omega),bo,or_assoc]
theorem pP{g:Lt->List Lt}{f u:Int}:∀{l:List Lt},has (l.flatMap g) f u↔∃x∈l,has (g x) f u
 |[]=>⟨nofun,nofun⟩
 |x::l=>by rw[List.flatMap_cons,dT,pP];simp
theorem yz{l P:List Lt}(hl:∀x∈l,1<=x.n)(hP:∀y∈P,1<=y.n):(∀x∈mD l P,1<=x.n)/\∀f u,has (mD l P) f u↔has l f u/\¬has P f u:=by
 have h:=CU (l.flatMap fun x=>mZ x P) [] (fun y hy=>by
  obtain⟨x,hx,hy⟩:=List.mem_flatMap.1 hy
  exact(tc (hl x hx) hP).1.pos y hy) nofun
 refine⟨h.1,fun f u=>?_⟩
 show has (List.foldl aN [] _) f u↔_
 rw[h.2,pP]
 constructor
 ·rintro(h|⟨x,hx,h⟩)
  ·exact absurd h bY
  ·have:=((tc (hl x hx) hP).2 f u).1 h
   exact⟨⟨x,hx,this.1⟩,this.2⟩
 ·rintro⟨⟨x,hx,h1⟩,h2⟩
  grind [tc]
theorem yA{l:List Lt}(hl:∀x∈l,1<=x.n)(h:∀f u,¬has l f u):l=[]:=by
 cases l with
 |nil=>rfl
 |cons x l=>exact absurd (bo.2 (.inl ⟨rfl,Int.le_refl _,by grind⟩)) (h x.f x.a)
theorem T3{a b:List Lt}(ha:∀x∈a,1<=x.n)(hb:∀y∈b,1<=y.n):mD (cL a) b=[]↔∀f u,has a f u->has b f u:=by
 have h1:=fQ ha
 have h2:=yz h1.1.pos hb
 constructor
 ·intro h f u hu
  refine Classical.byContradiction fun hn=>?_
  grind [bY]
 ·intro h
  exact yA h2.1 fun f u hu=>((h2.2 f u).1 hu).2 (h f u ((h1.2 f u).1 ((h2.2 f u).1 hu).1))
theorem T4{a set:List Lt}(ha:∀x∈a,1<=x.n)(hs:NS set):(∀p∈a.flatMap (kC set),p.2=true)↔∀f u,has a f u->has set f u:=by
 constructor
 ·rintro h f u ⟨x,hx,h1⟩
  refine Classical.byContradiction fun hn=>?_
  obtain⟨y,hy,_⟩:=((jG hs (by grind)).out f u).2 ⟨h1,hn⟩
  obtain⟨q,hq,rfl⟩:=aeg.1 hy
  grind
 ·intro h p hp
  obtain⟨x,hx,hp⟩:=List.mem_flatMap.1 hp
  have b8:=jG hs (x:=x) (by grind)
  cases hb:p.2 with
  |true=>rfl
  |false=>
   exfalso
   have hq:=((b8.out p.1.f p.1.a).1 ⟨p.1,(aeg.2 ⟨p,List.mem_filter.2 ⟨hp,by grind⟩,rfl⟩),rfl,Int.le_refl _,by have:=(b8.pos p hp).1;omega⟩)
   exact hq.2 (h _ _ ⟨x,hx,hq.1⟩)
theorem T5{a b:List Lt}(ha:∀x∈a,1<=x.n)(hb:∀y∈b,1<=y.n):mD (cL a) (mD (cL a) b)=[]↔∀f u,has a f u->¬has b f u:=by
 have h1:=fQ ha
 have h2:=yz h1.1.pos hb
 have h3:=yz h1.1.pos h2.1
 constructor
 ·grind [bY]
 ·intro h
  refine yA h3.1 fun f u hu=>?_
  grind
theorem CV{a set:List Lt}(ha:∀x∈a,1<=x.n)(hs:NS set):(kD a set).1=[]↔∀f u,has a f u->¬has set f u:=by
 unfold kD
 rw[xb]
 rw[yx]
 have h:=CU (a.flatMap fun x=>Ac true (kC set x)) [] (fun y hy=>by
  obtain⟨x,hx,hy⟩:=List.mem_flatMap.1 hy
  obtain⟨q,hq,rfl⟩:=aeg.1 hy
  exact((jG hs (by grind)).pos q (List.mem_filter.1 hq).1).1) nofun
 constructor
 ·rintro h0 f u ⟨x,hx,hu⟩ hn
  have:=(h.2 f u).2 (.inr (pP.2 ⟨x,hx,((jG hs (by grind)).ins f u).2 ⟨hu,hn⟩⟩))
  grind [bY]
 ·intro h0
  refine yA h.1 fun f u hu=>?_
  rcases(h.2 f u).1 hu with h4|h4
  ·exact bY h4
  ·obtain⟨x,hx,h5⟩:=pP.1 h4
   have h6:=((jG hs (by grind)).ins f u).1 h5
   exact h0 f u ⟨x,hx,h6.1⟩ h6.2
end
section
def fE(rs:List Int)(i j:Nat):Bool:=decide (rs.getD j 0<rs.getD i 0\/rs.getD i 0=rs.getD j 0/\i<j)
def T6(rs:List Int)(i:Nat):Nat:=(List.range rs.length).countP fun j=>fE rs j i
theorem T7{rs:List Int}{i j:Nat}(h:i≠j):fE rs i j=true\/fE rs j i=true:=by
 simp[fE,decide_eq_true_eq];omega
theorem T8{rs:List Int}{i j:Nat}(h:fE rs i j=true):fE rs j i=false:=by
 simp[fE,decide_eq_true_eq,aeq]at *; omega
theorem XA{rs:List Int}{i j k:Nat}(h:fE rs i j=true)(h2:fE rs j k=true):fE rs i k=true:=by
 simp[fE,decide_eq_true_eq]at *; omega
structure Ord(rs:List Int)(o:List Nat):Prop where
 perm:o.Perm (List.range rs.length)
 srt:o.Pairwise fun i j=>fE rs i j=true
theorem Ord.nodup{rs:List Int}{o:List Nat}(h:Ord rs o):o.Nodup:=h.perm.nodup_iff.2 List.nodup_range
theorem Ord.len{rs:List Int}{o:List Nat}(h:Ord rs o):o.length=rs.length:=by rw[h.perm.length_eq,List.length_range]
theorem IK(rs:List Int):∃o,Ord rs o:=by
 let le:=fun i j=>fE rs i j||i==j
 refine⟨(List.range rs.length).mergeSort le,List.mergeSort_perm _ _,?_⟩
 have h1:((List.range rs.length).mergeSort le).Pairwise fun a b=>le a b=true:=List.pairwise_mergeSort (fun a b c h h2=>by
  simp[le,Bool.or_eq_true,beq_iff_eq]at*
  rcases h with h|rfl
  ·rcases h2 with h2|rfl
   ·grind [XA]
   grind
  grind) (fun a b=>by
  simp[Bool.or_eq_true,beq_iff_eq]
  grind [T7]) _
 refine(List.Pairwise.and h1 ((List.mergeSort_perm _ _).nodup_iff.2 List.nodup_range)).imp fun h=>?_
 grind
theorem Ord.Mr{rs:List Int}{o:List Nat}(h:Ord rs o){k i:Nat}(hk:o[k]?=some i):T6 rs i=k:=by
 unfold T6
 rw[<-h.perm.countP_eq]
 have e:o=o.take k++i::o.drop (k+1):=by
  grind [List.take_append_drop,List.drop_eq_getElem_cons,List.getElem?_eq_some_iff]
 have hs:=h.srt
 rw[e,List.pairwise_append]at hs
 obtain⟨h1,h2,h3⟩:=hs
 rw[e,List.countP_append,List.countP_cons]
 have c1:(o.take k).countP (fun j=>fE rs j i)=k:=by
  grind [List.countP_eq_length,List.mem_cons_self,List.length_take,List.getElem?_eq_some_iff]
 have c3:fE rs i i=false:=by simp[fE]
 rw[c1,(List.countP_eq_zero.2 fun j hj=>by grind [T8,List.pairwise_cons]),c3];rfl
theorem Ord.mem{rs:List Int}{o:List Nat}(h:Ord rs o){m i:Nat}(hi:i<rs.length):i∈o.take m↔T6 rs i<m:=by
 obtain⟨k,hk⟩:=aea (h.perm.mem_iff.2 (aeh.2 hi))
 rw[h.Mr hk]
 constructor
 ·intro hm
  obtain⟨q,hq⟩:=aea hm
  have hqm:q<m:=by grind
  rw[List.getElem?_take_of_lt hqm]at hq
  have:=(List.getElem?_inj ((adP.1 hq).1) h.nodup).1 (hq.trans hk.symm)
  omega
 ·intro hm
  exact adR ((List.getElem?_take_of_lt hm).trans hk)
def kE(l:List Int)(i:Nat):List Int:=l.set i (l.getD i 0+1)
def plus(rs qs:List Int)(m:Nat):List Int:=(List.range rs.length).map fun i=>qs.getD i 0+bif decide (T6 rs i<m)then 1 else 0
theorem xc(l:List Int)(i:Nat):(kE l i).length=l.length:=List.length_set ..
theorem T9(l:List Int)(i j:Nat)(hi:i<l.length):(kE l i).getD j 0=l.getD j 0+if i=j then 1 else 0:=by
 unfold kE
 rw[adT,List.getElem?_set]
 split
 ·grind
 ·grind
theorem yB:∀(o:List Nat) (l:List Int),o.Nodup->(∀i∈o,i<l.length)->(o.foldl kE l).length=l.length/\∀j,(o.foldl kE l).getD j 0=l.getD j 0+if j∈o then 1 else 0
 |[],l,_,_=>⟨rfl,fun j=>by simp⟩
 |i::o,l,hn,hl=>by
  have ih:=yB o (kE l i) (List.nodup_cons.1 hn).2 fun k hk=>by grind [xc,List.mem_cons_of_mem]
  rw[List.foldl_cons]
  refine⟨by rw[ih.1,xc],fun j=>?_⟩
  rw[ih.2,T9 _ _ _ (hl i ad0)]
  grind
theorem PF{a b:List Int}(hl:a.length=b.length)(h:∀j,j<a.length->a.getD j 0=b.getD j 0):a=b:=by
 refine List.ext_getElem hl fun i h1 h2=>?_
 have:=h i h1
 rwa[adT,adT,ace h1,ace h2]at this
theorem FD(rs qs:List Int)(m:Nat):(plus rs qs m).length=rs.length:=by simp[plus]
theorem yC{rs qs:List Int}{m j:Nat}(h:j<rs.length):(plus rs qs m).getD j 0=qs.getD j 0+if T6 rs j<m then 1 else 0:=by
 unfold plus
 grind
theorem yD{rs qs:List Int}{o:List Nat}(h:Ord rs o)(hl:qs.length=rs.length)(m:Nat):(o.take m).foldl kE qs=plus rs qs m:=by
 have hm:∀i∈o.take m,i<qs.length:=fun i hi=>by
  have:=h.perm.mem_iff.1 (List.mem_of_mem_take hi)
  grind
 obtain⟨h1,h2⟩:=yB _ qs (h.nodup.sublist (List.take_sublist _ _)) hm
 refine PF (by rw[h1,FD,hl]) fun j hj=>?_
 have hj:=by rwa[h1,hl]at hj
 rw[h2,yC hj]
 simp[h.mem hj]
def Ay(rs:List Int)(b i:Nat):Nat:=if rs.getD b 0<rs.getD i 0 then i else b
def yE(rs:List Int):Nat:=(List.range' 1 (rs.length-1)).foldl (Ay rs) 0
def onR(p:List Int×List Int):List Int×List Int:=(kE p.1 (yE p.2),p.2.set (yE p.2) (-1))
def CW(p:List Int×List Int):Nat->List Int×List Int
 |0=>p
 |k+1=>onR (CW p k)
theorem yF(rs:List Int):∀(n s b:Nat),b<s->(∀j,j<s->fE rs j b=false)->((List.range' s n).foldl (Ay rs) b)<s+n/\∀j,j<s+n->fE rs j ((List.range' s n).foldl (Ay rs) b)=false
 |0,s,b,hb,h=>⟨by grind,by grind⟩
 |n+1,s,b,hb,h=>by
  rw[List.range'_succ,List.foldl_cons]
  have:=yF rs n (s+1) (Ay rs b s) (by grind [Ay]) fun j hj=>by
   grind [Ay,fE,decide_eq_false_iff_not]
  grind
theorem XB{rs:List Int}(h:0<rs.length):yE rs<rs.length/\∀j,j<rs.length->fE rs j (yE rs)=false:=by
 have:=yF rs (rs.length-1) 1 0 (by omega) fun j hj=>by
  grind [fE]
 rwa[show 1+(rs.length-1)=rs.length by omega]at this
theorem PG{rs qs:List Int}{o:List Nat}(h:Ord rs o)(hp:∀r∈rs,0<=r)(hl:qs.length=rs.length):∀k,k<=rs.length->(CW (qs,rs) k).1=(o.take k).foldl kE qs/\(CW (qs,rs) k).2.length=rs.length/\∀j,j<rs.length->(CW (qs,rs) k).2.getD j 0=if j∈o.take k then -1 else rs.getD j 0
 |0,_=>⟨rfl,rfl,fun j _=>by rfl⟩
 |k+1,hk=>by
  obtain⟨h1,h2,h3⟩:=PG h hp hl k (by omega)
  have oP:k<o.length:=by rw[h.len];omega
  have ht:o.take (k+1)=o.take k++[o[k]]:=by simp_all
  have FE:=aeh.1 (h.perm.mem_iff.1 (ael oP))
  have hrk:=h.Mr (ace oP)
  have du:∀j,j<rs.length->0<=rs.getD j 0:=fun j hj=>by
   simp_all
  have hb:yE (CW (qs,rs) k).2=o[k]:=by
   obtain⟨b1,b2⟩:=XB (rs:=(CW (qs,rs) k).2) (by omega)
   rw[h2]at b1 b2
   have b3:=b2 o[k] FE
   generalize yE (CW (qs,rs) k).2=b at b1 b3
   have g1:=h3 b b1
   have g2:=h3 o[k] FE
   rw[if_neg (fun hm=>by have:=(h.mem FE).1 hm;omega)]at g2
   have p1:=du o[k] FE
   refine Classical.byContradiction fun c6=>?_
   by_cases hbm:b∈o.take k
   ·rw[if_pos hbm]at g1
    grind [fE,decide_eq_false_iff_not]
   ·rw[if_neg hbm]at g1
    have hrb:k<T6 rs b:=by
     rcases Nat.lt_or_eq_of_le (Nat.le_of_not_lt (fun h6=>hbm ((h.mem b1).2 h6)))with h6|h6
     ·grind
     ·obtain⟨q,hq⟩:=aea (h.perm.mem_iff.2 (aeh.2 b1))
      have yw:=h.Mr hq
      grind
    obtain⟨q,hq⟩:=aea (h.perm.mem_iff.2 (aeh.2 b1))
    have yw:=h.Mr hq
    have hbt:=List.pairwise_iff_getElem.1 h.srt k q oP ((adP.1 hq).1) (by omega)
    rw[(adP.1 hq).2]at hbt
    simp only[fE,aeq,decide_eq_true_eq]at b3 hbt
    omega
  have eo:CW (qs,rs) (k+1)=(kE (CW (qs,rs) k).1 o[k],(CW (qs,rs) k).2.set o[k] (-1)):=by show onR _=_;grind [onR]
  grind
theorem PH{rs qs:List Int}(hp:∀r∈rs,0<=r)(hl:qs.length=rs.length){k:Nat}(hk:k<=rs.length):(CW (qs,rs) k).1=plus rs qs k:=by
 obtain⟨o,h⟩:=IK rs
 rw[(PG h hp hl k hk).1,yD h hl]
def qL(t s:Int)(ws:List Int):List Int:=ws.map fun w=>t*w/s
def rL(t s:Int)(ws:List Int):List Int:=ws.map fun w=>t*w%s
def fZ(t s:Int)(ws:List Int):Int:=t-(qL t s ws).sum
def Ad(t:Int)(ws:List Int):List Int:=plus (rL t ws.sum ws) (qL t ws.sum ws) (fZ t ws.sum ws).toNat
theorem PI(t s:Int):∀ws:List Int,s*(qL t s ws).sum+(rL t s ws).sum=t*ws.sum
 |[]=>by simp[qL,rL]
 |w::ws=>by
  have ih:=PI t s ws
  have:=Int.mul_ediv_add_emod (t*w) s
  simp[qL,rL,List.map_cons,List.sum_cons]at*
  rw[Int.mul_add,Int.mul_add];omega
theorem XD{t s:Int}(hs:0<s){ws:List Int}:∀r∈rL t s ws,0<=r/\r<s:=fun r hr=>by
 obtain⟨w,_,rfl⟩:=aeg.1 hr
 exact⟨Int.emod_nonneg _ (by omega),Int.emod_lt_of_pos _ hs⟩
theorem yG:∀{l:List Int},(∀x∈l,0<=x)->0<=l.sum
 |[],_=>by simp
 |x::l,h=>by
  have:=h x ad0
  have:=yG fun y hy=>h y (adW x hy)
  grind
theorem yH{s:Int}(hs:0<s):∀{l:List Int},(∀x∈l,0<=x/\x<s)->l.sum<=s*(l.countP (fun x=>decide (0<x)):Nat)/\(0<l.sum->l.sum<s*(l.countP (fun x=>decide (0<x)):Nat))
 |[],_=>by simp
 |x::l,h=>by
  have hx:=h x ad0
  have ih:=yH hs fun y hy=>h y (adW x hy)
  simp[List.countP_cons]
  grind
theorem xd{t:Int}{ws:List Int}(hs:0<ws.sum):0<=fZ t ws.sum ws/\fZ t ws.sum ws<=((rL t ws.sum ws).countP fun x=>decide (0<x):Nat)/\(0<fZ t ws.sum ws->fZ t ws.sum ws<((rL t ws.sum ws).countP fun x=>decide (0<x):Nat)):=by
 have h1:=PI t ws.sum ws
 have h2:=XD (t:=t) hs (ws:=ws)
 have h3:=yG fun x hx=>(h2 x hx).1
 have h4:=yH hs h2
 have e:(rL t ws.sum ws).sum=ws.sum*fZ t ws.sum ws:=by grind [fZ,Int.mul_sub,Int.mul_comm]
 generalize fZ t ws.sum ws=L at*
 generalize ((rL t ws.sum ws).countP fun x=>decide (0<x))=C at*
 rw[e]at h3 h4
 refine⟨?_,?_,fun hL=>?_⟩
 ·exact Classical.byContradiction fun hn=>by
   have:=Int.mul_neg_of_pos_of_neg hs (show L<0 by omega);omega
 ·simp_all
 simp_all [Int.mul_pos]
theorem K4(t:Int)(ws:List Int):(Ad t ws).length=ws.length:=by simp[Ad,FD,rL]
theorem Ua{rs:List Int}(hp:∀r∈rs,0<=r){i:Nat}(hi:i<rs.length)(h:T6 rs i<rs.countP fun x=>decide (0<x)):0<rs.getD i 0:=by
 refine Classical.byContradiction fun hn=>?_
 have:rs.countP (fun x=>decide (0<x))<=T6 rs i:=by
  unfold T6
  have e:rs=(List.range rs.length).map fun j=>rs.getD j 0:=by
   refine List.ext_getElem (by simp) fun j h1 h2=>?_
   grind
  conv=>lhs;rw[e,List.countP_map]
  refine List.countP_mono_left fun j _ hj=>?_
  simp only[Function.comp,decide_eq_true_eq]at hj
  simp only[fE,decide_eq_true_eq]
  omega
 omega
theorem Wd{t:Int}{ws:List Int}(ht:0<=t)(hw:∀w∈ws,0<=w)(hs:0<ws.sum)(HX:t<=ws.sum){i:Nat}(hi:i<ws.length):0<=(Ad t ws).getD i 0/\(Ad t ws).getD i 0<=ws.getD i 0:=by
 unfold Ad
 have hr:i<(rL t ws.sum ws).length:=by grind [rL]
 rw[yC hr]
 have hwi:=hw _ (ael hi)
 have eq:(qL t ws.sum ws).getD i 0=t*ws[i]/ws.sum:=by simp[qL,hi]
 have er:(rL t ws.sum ws).getD i 0=t*ws[i]%ws.sum:=by simp[rL,hi]
 have ew:ws.getD i 0=ws[i]:=by grind
 rw[eq,ew]
 have hq0:0<=t*ws[i]/ws.sum:=Int.ediv_nonneg (Int.mul_nonneg ht hwi) (by omega)
 have hm:=Int.mul_ediv_add_emod (t*ws[i]) ws.sum
 have hle:=Int.mul_le_mul_of_nonneg_right HX hwi
 split
 ·obtain⟨l1,l2,l3⟩:=xd hs
  have du:0<fZ t ws.sum ws:=by omega
  have hrp:=Ua (fun r hr=>((XD (t:=t) hs (ws:=ws)) r hr).1) hr (by have:=l3 du;omega)
  rw[er]at hrp
  refine⟨by omega,?_⟩
  have:ws.sum*(t*ws[i]/ws.sum)<ws.sum*ws[i]:=by omega
  have:=Int.lt_of_mul_lt_mul_left this (by omega)
  omega
 ·refine⟨by omega,?_⟩
  have h0:=Int.emod_nonneg (t*ws[i]) (show ws.sum≠0 by omega)
  have:ws.sum*(t*ws[i]/ws.sum)<=ws.sum*ws[i]:=by omega
  simp_all
end
section
open Go.TM
section
variable {κ β:Type} [DecidableEq κ]
def aU:List (κ×β)->κ->Option β
 |[],_=>none
 |(k',v)::r,k=>if k'=k then some v else aU r k
def aH:List (κ×β)->κ->β->List (κ×β)
 |[],k,x=>[(k,x)]
 |(k',v)::r,k,x=>if k'=k then(k,x)::r else(k',v)::aH r k x
def td:List (κ×β)->κ->List (κ×β)
 |[],_=>[]
 |(k',v)::r,k=>if k'=k then r else(k',v)::td r k
def Nk(m:List (κ×β)):Prop:=(m.map (·.1)).Nodup
theorem iY(m:List (κ×β))(k k':κ)(x:β):aU (aH m k x) k'=if k=k' then some x else aU m k':=by
 induction m with
 |nil=>rfl
 |cons p r ih=>
  obtain⟨q,v⟩:=p
  simp[aH]
  by_cases h:q=k
  ·simp_all [aU,if_neg]
  ·rw[if_neg h]
   simp[aU,ih]
   grind
theorem lC{m:List (κ×β)}{k:κ}{x:β}(h:aU m k=some x):(k,x)∈m:=by
 induction m with
 |nil=>cases h
 |cons p r ih=>
  obtain⟨q,v⟩:=p
  simp[aU]at h
  grind
theorem kQ{m:List (κ×β)}{k:κ}(h:k∉m.map (·.1)):aU m k=none:=by
 cases hg:aU m k with
 |none=>rfl
 |some x=>exact absurd (aeg.2 ⟨_,lC hg,rfl⟩) h
theorem PJ{m:List (κ×β)}{k:κ}:aU m k=none↔k∉m.map (·.1):=by
 refine⟨fun h hm=>?_,kQ⟩
 induction m with
 |nil=>grind
 |cons p r ih=>
  obtain⟨q,v⟩:=p
  simp[aU]at h
  grind
theorem xe{m:List (κ×β)}{k:κ}{x:β}(hn:Nk m)(h:(k,x)∈m):aU m k=some x:=by
 induction m with
 |nil=>grind
 |cons p r ih=>
  obtain⟨q,v⟩:=p
  have N4:=List.nodup_cons.1 hn
  simp[aU]
  rcases adV.1 h with e|h
  ·grind
  ·rw[if_neg,ih N4.2 h]
   grind
theorem uW(m:List (κ×β))(k:κ)(x:β):(aH m k x).map (·.1)=if k∈m.map (·.1)then m.map (·.1)else m.map (·.1)++[k]:=by
 induction m with
 |nil=>rfl
 |cons p r ih=>
  obtain⟨q,v⟩:=p
  simp[aH,adV]
  grind
theorem Nk.put{m:List (κ×β)}(h:Nk m)(k:κ)(x:β):Nk (aH m k x):=by
 unfold Nk
 rw[uW]
 split
 ·exact h
 ·rw[List.nodup_append]
  refine⟨h,by simp,fun a ha b hb=>?_⟩
  grind
theorem PK(m:List (κ×β))(k:κ):(td m k).Sublist m:=by
 induction m with
 |nil=>exact .slnil
 |cons p r ih=>
  grind [td,List.sublist_cons_self]
theorem Nk.del{m:List (κ×β)}(h:Nk m)(k:κ):Nk (td m k):=h.sublist ((PK m k).map _)
theorem FF{m:List (κ×β)}(h:Nk m)(k k':κ):aU (td m k) k'=if k=k' then none else aU m k':=by
 induction m with
 |nil=>simp[td,aU]
 |cons p r ih=>
  obtain⟨q,v⟩:=p
  have N4:=List.nodup_cons.1 h
  simp[td]
  by_cases h1:q=k
  ·subst h1
   rw[if_pos rfl]
   by_cases h2:q=k'
   ·subst h2
    rw[if_pos rfl];exact kQ N4.1
   simp_all [aU]
  ·rw[if_neg h1]
   simp[aU,ih N4.2]
   grind
theorem Nk.perm{m m':List (κ×β)}(h:Nk m)(p:m.Perm m'):Nk m':=(p.map _).nodup_iff.1 h
theorem Bt{m m':List (κ×β)}(h:Nk m)(p:m.Perm m')(k:κ):aU m k=aU m' k:=by
 cases hg:aU m k with
 |some x=>exact(xe (h.perm p) (p.mem_iff.1 (lC hg))).symm
 |none=>
  grind [PJ,kQ]
def eM(ek:κ->DV)(ev:β->DV)(m:List (κ×β)):List DV:=m.map fun p=>.fT (ek p.1) (ev p.2)
variable {ek:κ->DV} {ev:β->DV} (hk:∀a b,tZ (ek a) (ek b)=decide (a=b))
include hk
theorem dU(m:List (κ×β))(k:κ):b7 (eM ek ev m) (ek k)=(aU m k).map ev:=by
 induction m with
 |nil=>rfl
 |cons p r ih=>
  obtain⟨q,v⟩:=p
  show(bif tZ _ _ then some _ else b7 (eM ek ev r) _)=_
  rw[hk,ih]
  simp[aU]
  grind
theorem cP(m:List (κ×β))(k:κ)(x:β):cW (eM ek ev m) (ek k) (ev x)=eM ek ev (aH m k x):=by
 induction m with
 |nil=>rfl
 |cons p r ih=>
  obtain⟨q,v⟩:=p
  show(bif tZ _ _ then DV.fT _ _::eM ek ev r else .fT _ _::cW (eM ek ev r) _ _)=_
  rw[hk,ih]
  simp[aH]
  by_cases h:q=k
  ·rw[aeb h,if_pos h];rfl
  ·rw[aec h,if_neg h];rfl
theorem Ub(m:List (κ×β))(k:κ):iJ (eM ek ev m) (ek k)=eM ek ev (td m k):=by
 induction m with
 |nil=>rfl
 |cons p r ih=>
  obtain⟨q,v⟩:=p
  show(bif tZ _ _ then eM ek ev r else .fT _ _::iJ (eM ek ev r) _)=_
  rw[hk,ih]
  simp[td]
  by_cases h:q=k
  ·grind
  ·rw[aec h,if_neg h];rfl
end
end
section
open Go.TM
def xf:TI:=⟨false,1,0,false,[],[],false,false,0,0,0,[],none,false,0,[]⟩
def br:TI:=⟨true,1,8,false,[],[.jJ],false,false,0,7,0,[],none,false,0,[]⟩
def ty2:TI:=⟨true,1,8,false,[],[.int .i64 0],false,false,0,2,0,[],some .i64,false,0,[]⟩
def ty3:TI:=⟨true,1,1,false,[],[.int .u8 0],false,false,0,2,0,[],some .u8,false,0,[]⟩
def ty4:TI:=⟨true,4,24,true,[(0,1),(1,1),(2,1),(3,1)],[.int .i64 0,.int .i64 0,.bool false,.int .u8 0],false,false,0,9,0,[2,3,4,6],none,false,0,[2,2,1,2]⟩
def ty5:TI:=⟨true,1,16,false,[],[.str ⟨#[]⟩],false,true,0,3,0,[],none,false,0,[]⟩
def ty6:TI:=⟨true,1,8,false,[],[.int .u64 0],false,false,0,2,0,[],some .u64,false,0,[]⟩
def ty7:TI:=⟨true,2,24,true,[(0,1),(1,1)],[.str ⟨#[]⟩,.int .u64 0],false,false,0,9,0,[9,12],none,false,0,[]⟩
def N5:TI:=⟨true,1,8,false,[],[.eZ],false,false,0,5,0,[],none,false,0,[]⟩
def ty9:TI:=⟨true,1,8,true,[(0,1)],[.eZ],false,false,0,9,0,[17],none,false,0,[]⟩
def XE:TI:=⟨true,1,16,false,[],[.nA],false,false,0,8,0,[],none,false,0,[]⟩
def XF:TI:=⟨true,1,4,false,[],[.int .i32 0],false,false,0,2,0,[],some .i32,false,0,[]⟩
def aaR:TI:=⟨true,4,96,true,[(0,1),(1,1),(2,1),(3,1)],[.aw,.aw,.aw,.aw],false,false,0,9,0,[30,31,32,33],none,false,0,[]⟩
def aaS:TI:=⟨true,5,56,true,[(0,1),(1,1),(2,1),(3,1),(4,1)],[.int .i64 0,.int .i64 0,.int .i64 0,.int .i64 0,.aw],false,false,0,9,0,[3,3,3,3,46],none,false,0,[]⟩
def aaT:TI:=⟨true,7,72,true,[(0,1),(1,1),(2,1),(3,1),(4,1),(5,1),(6,1)],[.int .i64 0,.int .i64 0,.int .i64 0,.int .i64 0,.int .i64 0,.int .i64 0,.aw],false,false,0,9,0,[3,3,3,3,3,3,49],none,false,0,[]⟩
def aaU:TI:=⟨true,7,48,true,[(0,1),(1,1),(2,1),(3,1),(4,1),(5,1),(6,1)],[.str ⟨#[]⟩,.bool false,.bool false,.bool false,.int .i64 0,.int .i64 0,.int .i64 0],false,false,0,9,0,[9,4,4,4,3,3,3],none,false,0,[3,1,1,1,2,2,2]⟩
def aaV:TI:=⟨true,11,120,true,[(0,1),(1,1),(2,1),(3,1),(4,1),(5,1),(6,1),(7,1),(8,1),(9,1),(10,1)],[.int .i64 0,.int .i64 0,.int .i64 0,.int .i64 0,.int .i64 0,.int .i64 0,.int .i64 0,.int .i64 0,.int .i64 0,.aw,.aw],false,false,0,9,0,[3,3,3,3,3,3,3,3,3,46,22],none,false,0,[]⟩
def Uc:TI:=⟨true,3,24,true,[(0,1),(1,1),(2,1)],[.int .i64 0,.int .i64 0,.int .i64 0],false,false,0,9,0,[3,3,3],none,false,0,[2,2,2]⟩
def aaW:TI:=⟨true,11,184,true,[(0,1),(1,4),(5,1),(6,1),(7,1),(8,1),(9,1),(10,1)],[.int .i64 0,.aw,.aw,.aw,.aw,.gW,.gW,.aw,.aw,.gW,.gW],false,false,0,9,0,[3,35,82,83,25,38,84,84],none,false,0,[]⟩
def Ms:TI:=⟨true,2,16,true,[(0,1),(1,1)],[.int .i64 0,.int .i64 0],false,false,0,9,0,[3,3],none,true,0,[2,2]⟩
def aaX:TI:=⟨true,9,128,true,[(0,1),(1,1),(2,1),(3,1),(4,1),(5,1),(6,1),(7,1),(8,1)],[.str ⟨#[]⟩,.bool false,.int .i64 0,.int .i64 0,.int .i64 0,.int .i64 0,.aw,.aw,.aw],false,false,0,9,0,[9,4,3,3,3,3,90,90,90],none,false,0,[]⟩
def aaY:TI:=⟨true,2,32,true,[(0,1),(1,1)],[.int .i64 0,.aw],false,false,0,9,0,[3,90],none,false,0,[]⟩
def aaZ:TI:=⟨true,2,40,true,[(0,1),(1,1)],[.str ⟨#[]⟩,.aw],false,false,0,9,0,[9,95],none,false,0,[]⟩
def aa0:TI:=⟨true,2,40,true,[(0,1),(1,1)],[.str ⟨#[]⟩,.aw],false,false,0,9,0,[9,100],none,false,0,[]⟩
def aa1:TI:=⟨true,14,160,true,[(0,1),(1,7),(8,1),(9,1),(10,1),(11,1),(12,1),(13,1)],[.eZ,.int .i64 0,.int .i64 0,.int .i64 0,.int .i64 0,.int .i64 0,.int .i64 0,.aw,.gW,.gW,.gW,.gW,.aw,.aw],false,false,0,9,0,[23,51,82,83,84,84,38,22],none,false,0,[]⟩
def aa2:TI:=⟨true,5,104,true,[(0,1),(1,1),(2,1),(3,1),(4,1)],[.aw,.aw,.gW,.aw,.aw],false,false,0,9,0,[38,153,83,22,154],none,false,0,[]⟩
def aa3:TI:=⟨true,8,176,true,[(0,1),(1,4),(5,1),(6,1),(7,1)],[.int .i64 0,.aw,.aw,.aw,.aw,.aw,.aw,.aw],false,false,0,9,0,[3,35,167,38,25],none,false,0,[]⟩
def aa4:TI:=⟨true,3,40,true,[(0,1),(1,1),(2,1)],[.int .i64 0,.int .i64 0,.aw],false,false,0,9,0,[3,3,46],none,false,0,[]⟩
def XG:TI:=⟨true,4,40,true,[(0,1),(1,1),(2,1),(3,1)],[.int .i64 0,.str ⟨#[]⟩,.int .i64 0,.int .i64 0],false,false,0,9,0,[3,9,3,3],none,false,0,[2,3,2,2]⟩
def aa5:TI:=⟨true,4,32,true,[(0,1),(1,1),(2,1),(3,1)],[.jJ,.jJ,.bool false,.jJ],false,false,0,9,0,[182,182,4,220],none,false,0,[]⟩
def aa6:TI:=⟨true,4,40,true,[(0,1),(1,1),(2,1),(3,1)],[.eZ,.eZ,.eZ,.str ⟨#[]⟩],false,false,0,9,0,[17,17,17,9],none,false,0,[]⟩
def aa7:TI:=⟨true,0,0,true,[(0,0)],[],false,false,0,9,0,[336],none,false,0,[]⟩
def aa8:TI:=⟨true,11,48,true,[(0,1),(1,1),(2,1),(3,1),(4,1),(5,1),(6,1),(7,1),(8,1),(9,1),(10,1)],[.int .u64 0,.int .u64 0,.int .u32 0,.int .u8 0,.int .u8 0,.int .u8 0,.int .u8 0,.jJ,.eZ,.int .i32 0,.int .i32 0],false,false,0,9,0,[12,12,217,339,5,5,340,341,342,343,344],none,false,0,[]⟩
def aa9:TI:=⟨true,1,16,true,[(0,1)],[.str ⟨#[]⟩],false,false,0,9,0,[9],none,false,0,[3]⟩
def na:List TI:=[
 xf,br,ty2,ty2,⟨true,1,1,false,[],[.bool false],false,false,0,1,0,[],none,false,0,[]⟩,ty3,ty3,ty4,ty4,ty5,ty5,ty5,ty6,ty7,ty7,N5,N5,N5,ty9,ty9,XE,XF,⟨true,1,24,false,[],[.aw],true,false,3,4,0,[],none,false,0,[]⟩,N5,br,⟨true,1,24,false,[],[.aw],true,false,51,4,0,[],none,false,0,[]⟩,br,ty2,xf,br,⟨true,1,24,false,[],[.aw],true,false,58,4,0,[],none,false,0,[]⟩,⟨true,1,24,false,[],[.aw],true,false,92,4,0,[],none,false,0,[]⟩,⟨true,1,24,false,[],[.aw],true,false,97,4,0,[],none,false,0,[]⟩,⟨true,1,24,false,[],[.aw],true,false,102,4,0,[],none,false,0,[]⟩,aaR,aaR,br,br,⟨true,1,24,false,[],[.aw],true,false,64,4,0,[],none,false,0,[]⟩,br,br,br,
 ⟨true,1,24,false,[],[.aw],true,false,108,4,0,[],none,false,0,[]⟩,br,br,br,⟨true,1,24,false,[],[.aw],true,false,71,4,0,[],none,false,0,[]⟩,aaS,aaS,⟨true,1,24,false,[],[.aw],true,false,48,4,0,[],none,false,0,[]⟩,aaT,aaT,xf,br,br,br,br,aaU,aaU,br,br,br,br,aaV,aaV,N5,xf,br,br,br,Uc,Uc,br,xf,br,br,N5,xf,br,br,br,br,⟨true,1,8,false,[],[.gW],false,false,46,6,110,[],none,false,0,[]⟩,⟨true,1,8,false,[],[.gW],false,false,3,6,3,[],none,false,0,[]⟩,⟨true,1,8,false,[],[.gW],false,false,46,6,3,[],none,false,0,[]⟩,aaW,aaW,br,Ms,Ms,⟨true,1,24,false,[],[.aw],true,false,89,4,0,[],none,false,0,[]⟩,aaX,aaX,aaY,aaY,
 ⟨true,1,24,false,[],[.aw],true,false,94,4,0,[],none,false,0,[]⟩,aaZ,aaZ,Ms,Ms,⟨true,1,24,false,[],[.aw],true,false,99,4,0,[],none,false,0,[]⟩,aa0,aa0,br,br,br,br,Uc,Uc,Ms,Ms,br,br,br,br,br,br,br,br,N5,xf,br,aa1,aa1,br,br,br,⟨true,1,24,false,[],[.aw],true,false,129,4,0,[],none,false,0,[]⟩,br,⟨true,1,24,false,[],[.aw],true,false,9,4,0,[],none,false,0,[]⟩,br,br,br,xf,br,br,br,⟨true,1,24,false,[],[.aw],true,false,90,4,0,[],none,false,0,[]⟩,br,⟨true,1,24,false,[],[.aw],true,false,4,4,0,[],none,false,0,[]⟩,⟨true,1,24,false,[],[.aw],true,false,27,4,0,[],none,false,0,[]⟩,br,br,br,br,br,br,br,br,br,br,br,br,
 ⟨true,1,24,false,[],[.aw],true,false,22,4,0,[],none,false,0,[]⟩,⟨true,1,24,false,[],[.aw],true,false,219,4,0,[],none,false,0,[]⟩,aa2,aa2,br,xf,br,br,br,br,br,br,xf,br,⟨true,1,24,false,[],[.aw],true,false,172,4,0,[],none,false,0,[]⟩,aa3,aa3,br,aa4,aa4,br,br,br,br,br,br,br,br,ty6,br,br,br,⟨true,1,24,false,[],[.aw],true,false,189,4,0,[],none,false,0,[]⟩,xf,br,XG,XG,br,br,br,br,br,br,br,br,br,br,br,br,br,br,br,br,xf,br,br,br,ty2,xf,br,br,br,br,br,⟨true,1,4,false,[],[.int .u32 0],false,false,0,2,0,[],some .u32,false,0,[]⟩,br,ty6,br,aa5,aa5,xf,br,br,br,br,br,br,br,br,br,br,br,br,br,br,br,br,br,br,br,br,br,br,br,br,br,br,br,br,
 br,br,br,br,xf,br,br,ty6,br,br,br,N5,br,xf,⟨true,1,24,false,[],[.aw],true,false,269,4,0,[],none,false,0,[]⟩,xf,br,XG,⟨true,1,8,false,[],[.gW],false,false,4,6,9,[],none,false,0,[]⟩,br,br,br,N5,xf,br,br,br,N5,br,xf,br,br,br,br,br,xf,br,br,br,br,br,br,br,br,xf,br,xf,br,br,br,br,br,br,xf,br,br,br,br,br,br,br,br,br,xf,br,br,br,br,
 ⟨true,128,128,true,[],[.int .u8 0,.int .u8 0,.int .u8 0,.int .u8 0,.int .u8 0,.int .u8 0,.int .u8 0,.int .u8 0,.int .u8 0,.int .u8 0,.int .u8 0,.int .u8 0,.int .u8 0,.int .u8 0,.int .u8 0,.int .u8 0,.int .u8 0,.int .u8 0,.int .u8 0,.int .u8 0,.int .u8 0,.int .u8 0,.int .u8 0,.int .u8 0,.int .u8 0,.int .u8 0,.int .u8 0,.int .u8 0,.int .u8 0,.int .u8 0,.int .u8 0,.int .u8 0,.int .u8 0,.int .u8 0,.int .u8 0,.int .u8 0,.int .u8 0,.int .u8 0,.int .u8 0,.int .u8 0,.int .u8 0,.int .u8 0,.int .u8 0,.int .u8 0,.int .u8 0,.int .u8 0,.int .u8 0,.int .u8 0,.int .u8 0,.int .u8 0,.int .u8 0,.int .u8 0,.int .u8 0,.int .u8 0,.int .u8 0,.int .u8 0,.int .u8 0,.int .u8 0,.int .u8 0,.int .u8 0,.int .u8 0,.int .u8 0,.int .u8 0,.int .u8 0,.int .u8 0,.int .u8 0,.int .u8 0,.int .u8 0,.int .u8 0,.int .u8 0,.int .u8 0,.int .u8 0,.int .u8 0,.int .u8 0,.int .u8 0,.int .u8 0,.int .u8 0,.int .u8 0,.int .u8 0,.int .u8 0,.int .u8 0,.int .u8 0,.int .u8 0,.int .u8 0,.int .u8 0,.int .u8 0,.int .u8 0,.int .u8 0,.int .u8 0,.int .u8 0,.int .u8 0,.int .u8 0,.int .u8 0,.int .u8 0,.int .u8 0,.int .u8 0,.int .u8 0,.int .u8 0,.int .u8 0,.int .u8 0,.int .u8 0,.int .u8 0,.int .u8 0,.int .u8 0,.int .u8 0,.int .u8 0,.int .u8 0,.int .u8 0,.int .u8 0,.int .u8 0,.int .u8 0,.int .u8 0,.int .u8 0,.int .u8 0,.int .u8 0,.int .u8 0,.int .u8 0,.int .u8 0,.int .u8 0,.int .u8 0,.int .u8 0,.int .u8 0,.int .u8 0,.int .u8 0,.int .u8 0,.int .u8 0,.int .u8 0,.int .u8 0],false,false,5,10,0,[],none,false,128,[]⟩,
 br,XE,XE,br,br,br,br,br,br,br,br,N5,br,aa6,aa6,⟨true,0,0,true,[],[],false,false,16,10,0,[],none,false,0,[]⟩,aa7,aa7,ty3,ty3,br,N5,XF,XF,aa8,aa8,aa9,aa9,⟨true,1,8,false,[],[.eZ],false,false,0,0,0,[],none,false,0,[]⟩]
theorem Ud(f:Nat->TI)(l:List Nat)(t:Nat):nth (l.map f) t=match l[t]? with|some i=>f i|none=>TI.no:=by
 induction l generalizing t with
 |nil=>cases t<;>rfl
 |cons x r ih=>cases t with
  |zero=>rfl
  |succ t=>simpa[nth]using ih t
theorem XH:(List.range 350).map (TI.of Tryz.prog)=na:=by kernel_rfl
theorem fO:fD Tryz.prog na:=by
 intro t h
 rw[<-XH,Ud]at h⊢
 by_cases ht:t<350
 ·rw[List.getElem?_range ht]
 ·rw[List.getElem?_eq_none (by simp;omega)]at h;cases h
theorem mixed:Tryz.prog.follows .mixedOrders=true:=Checked.mixed Tryz.checked
end
end Go.Proofs.YtfpebgpgabjieaaGreatDoor
