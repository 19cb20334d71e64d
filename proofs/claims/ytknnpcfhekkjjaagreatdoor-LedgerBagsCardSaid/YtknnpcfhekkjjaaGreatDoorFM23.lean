import Derived.Test.YtknnpcfhekkjjaaGreatDoorFM22
set_option linter.all false
namespace Go.Proofs.YtknnpcfhekkjjaaGreatDoor
set_option maxRecDepth 100000
set_option maxHeartbeats 4000000
section
open Go.TM
def ck:Int->List Lt->List Int
 |_,[]=>[]
 |n,x::r=>min n x.n::ck (n-min n x.n) r
theorem yP:∀(n:Int) (s:List Lt),(ck n s).length=s.length
 |_,[]=>rfl
 |n,x::r=>by simp[ck,yP]
theorem yQ:∀{n:Int} {s:List Lt} {i:Nat} {x:Lt},s[i]?=some x->(ck n s)[i]?=some (min (n-((ck n s).take i).sum) x.n)
 |n,y::r,0,x,h=>by simp at h;subst h;simp[ck]
 |n,y::r,i+1,x,h=>by
  have ih:=yQ (n:=n-min n y.n) (s:=r) (i:=i) (by simpa using h)
  simp only[ck,List.getElem?_cons_succ,List.take_succ_cons,List.sum_cons]
  rw[ih,<-Int.sub_sub]
theorem yR:∀{n:Int} {s:List Lt},0<=n->(∀x∈s,0<=x.n)->(∀k∈ck n s,0<=k)/\(ck n s).sum<=n/\(n<=dD s->(ck n s).sum=n)
 |n,[],h,_=>by refine⟨by simp[ck],by simpa[ck]using h,fun h2=>?_⟩;simp[dD]at h2;simp[ck];omega
 |n,x::r,h,hx=>by
  have h1:=hx x abT
  obtain⟨a1,a2,a3⟩:=yR (n:=n-min n x.n) (s:=r) (by omega) fun y hy=>hx y (abP _ hy)
  refine⟨fun k hk=>?_,by simp only[ck,List.sum_cons];omega,fun h2=>?_⟩
  ·simp only[ck,abO]at hk
   rcases hk with rfl|hk
   ·omega
   ·exact a1 k hk
  ·simp only[dD,List.map_cons,List.sum_cons]at h2 a3
   simp only[ck,List.sum_cons]
   by_cases hc:n<=x.n
   ·have:min n x.n=n:=by omega
    rw[this]at a2⊢
    have:=yK a1
    rw[show min n x.n=n by omega]at this
    omega
   ·have:=a3 (by omega)
    omega
def qx(s:List Lt)(n:Int)(mixed:Bool):List Int:=bif mixed&&decide (0<n)then zR n (s.map (·.n))else ck n s
def tkF(p:List Lt×List Lt)(q:Lt×Int):List Lt×List Lt:=(bj p.1 ⟨q.1.f,q.1.a,q.2⟩,bj p.2 ⟨q.1.f,q.1.a+q.2,q.1.n-q.2⟩)
def mo(s:List Lt)(ks:List Int)(i:Nat):List Lt×List Lt:=((s.zip ks).take i).foldl tkF ([],[])
def fW(s:List Lt)(n:Int)(mixed:Bool):List Lt×List Lt:=mo s (qx s n mixed) s.length
def Ua(s:List Lt)(ks:List Int):Prop:=ks.length=s.length/\∀(i:Nat) (x:Lt),s[i]?=some x->0<=ks.getD i 0/\ks.getD i 0<=x.n
theorem pD(s:List Lt):(s.map (·.n)).sum=dD s:=rfl
theorem CX{s:List Lt}{n:Int}(mixed:Bool)(hn:0<=n)(hs:∀x∈s,aO x=true)(ht:n<=dD s):Ua s (qx s n mixed):=by
 have hp:∀x∈s,0<=x.n:=fun x hx=>(mR (hs x hx)).1
 unfold qx
 cases hc:mixed&&decide (0<n)with
 |true=>
  have h0:0<n:=by simp at hc;exact hc.2
  refine⟨by simp[J4],fun i x hx=>?_⟩
  have hl:=(abI.1 hx).1
  have:=T5 (t:=n) (ws:=s.map (·.n)) hn (fun w hw=>by obtain⟨y,hy,rfl⟩:=ab9.1 hw;exact hp y hy) (by rw[pD];omega) (by rw[pD];exact ht) (i:=i) (by simpa using hl)
  rw[show(s.map (·.n)).getD i 0=x.n by simp[abM,hx]]at this
  exact this
 |false=>
  refine⟨yP _ _,fun i x hx=>?_⟩
  have h1:=yQ (n:=n) hx
  obtain⟨a1,a2,_⟩:=yR (s:=s) hn hp
  have h2:=s8 i a1
  have h3:=hp x (abK hx)
  show 0<=(ck n s).getD i 0/\(ck n s).getD i 0<=x.n
  rw[abM,h1]
  simp only[Option.getD_some]
  omega
theorem hZ{l:List Lt}{x:Lt}(hl:∀y∈l,aO y=true)(hx:0<=x.f/\0<=x.a/\0<=x.n/\x.a+x.n<=1099511627776):∀y∈bj l x,aO y=true:=by
 have h1:=Fe (l:=l) (x:=x) (fun y hy=>(ax.1 (hl y hy)).2.2.1) hx.2.2.1
 intro y hy
 have h2:=h1 y hy
 unfold bj at hy
 split at hy
 ·exact hl y hy
 split at hy
 ·rename_i h0 z hz
  have hzp:=ax.1 (hl z (List.mem_of_getLast? hz))
  split at hy
  ·rename_i hc
   rcases abQ.1 hy with h|h
   ·exact hl y (List.dropLast_subset _ h)
   ·rw[abN]at h;subst h;rw[ax];simp only;omega
  ·rcases abQ.1 hy with h|h
   ·exact hl y h
   ·rw[abN]at h;subst h;rw[ax];omega
 ·rw[abN]at hy;subst hy;rw[ax];omega
theorem yS{s:List Lt}{ks:List Int}{i:Nat}{x:Lt}{k:Int}(hx:s[i]?=some x)(hk:ks[i]?=some k):mo s ks (i+1)=tkF (mo s ks i) (x,k):=by
 unfold mo
 rw[abR,List.getElem?_zip_eq_some (z:=(x,k)) |>.2 ⟨hx,hk⟩,ab7];rfl
theorem H4{s:List Lt}{ks:List Int}(hs:∀x∈s,aO x=true)(hk:Ua s ks):∀i,i<=s.length->(∀y∈(mo s ks i).1,aO y=true)/\(∀y∈(mo s ks i).2,aO y=true)/\(mo s ks i).1.length<=i/\(mo s ks i).2.length<=i
 |0,_=>by simp[mo]
 |i+1,h=>by
  obtain⟨h1,h2,h3,h4⟩:=H4 hs hk i (by omega)
  obtain⟨x,hx⟩:∃x,s[i]?=some x:=⟨_,aaj (show i<s.length by omega)⟩
  obtain⟨k,A1⟩:∃k,ks[i]?=some k:=⟨_,aaj (show i<ks.length by rw[hk.1];omega)⟩
  have hb:=hk.2 i _ hx
  rw[abM,A1]at hb
  simp only[Option.getD_some]at hb
  have hp:=ax.1 (hs _ (abK hx))
  rw[yS hx A1]
  generalize mo s ks i=p at*
  refine⟨hZ h1 ⟨hp.1,hp.2.1,hb.1,by simp only;omega⟩,hZ h2 ⟨hp.1,by simp only;omega,by simp only;omega,by simp only;omega⟩,?_,?_⟩
  ·exact Nat.le_trans (fp p.1 _) (by omega)
  ·exact Nat.le_trans (fp p.2 _) (by omega)
variable [bG]
theorem Ft(s:List Lt)(n:Int)(mixed:Bool)(hn:0<=n/\n<=1099511627776)(hs:cg s=true)(ht:n<=dD s):aI Tryz.prog 179 [aU s,I n,B mixed] [Ints (qx s n mixed)]:=by
 refine pO Tryz.func179 rfl (by kernel_rfl) rfl ?_
 obtain⟨hl,hp⟩:=hU hs
 have hp0:∀x∈s,0<=x.n:=fun x hx=>(mR (hp x hx)).1
 obtain⟨a1,a2,_⟩:=yR (s:=s) hn.1 hp0
 have oH:=yP n s
 refine⟨Nat,fun i=>⟨2,[(0,.dv (aU s)),(1,.dv (I n)),(2,.dv (B mixed)),(7,.own 0 0 0 []),(8,.own 1 0 0 []),(9,.dv (I (n-((ck n s).take i).sum))),(10,.dv (I i))],[(0,.tree 0 0 (.aB 1 ((s.take i).map fun x=>I x.n))),(1,.tree 0 0 (.aB 1 (((ck n s).take i).map I)))]⟩,fun i=>i<=s.length,fun i=>s.length-i,0,fun _=>rfl,⟨⟨rf,rf,rf,⟨rfl,rfl,rfl,rfl,1,rfl⟩,⟨rfl,rfl,rfl,rfl,1,rfl⟩,aF (by simp),rf,tv⟩,⟨⟨rfl,rfl,1,rfl⟩,⟨rfl,rfl,1,rfl⟩,tv⟩,rfl,rfl⟩,abW _,?_⟩
 rintro i hi
 have c1:=s8 i a1
 refine abG ?_ ?_
 ·intro h
  have au:i<s.length:=by have:=abY h;rw[abH]at this;omega
  have hx:=aaj au
  generalize s[i]=x at hx
  have Ub:=mR (hp x (abK hx))
  have e1:=yQ (n:=n) hx
  have e3:=yO e1
  have f1:((s.take (i+1)).map fun x=>I x.n)=((s.take i).map fun x=>I x.n)++[I x.n]:=by rw[abR,hx];simp
  have f2:((ck n s).take (i+1)).map I=((ck n s).take i).map I++[I (min (n-((ck n s).take i).sum) x.n)]:=by rw[abR,e1];simp
  have l1:((s.take i).map fun x=>I x.n).length<=5000:=by rw[abH,ab2];omega
  have l2:(((ck n s).take i).map I).length<=5000:=by rw[abH,ab2];omega
  refine⟨aC x,fun _=>⟨by omega,by rw[abJ];simp[hx]⟩,?_⟩
  refine .inl ⟨[I x.n],rfl,⟨rf,tv⟩,(by simp;rfl),?_⟩
  refine .inr ⟨[I x.n],cd.refl _,bI (by simp only[List.length_cons,List.length_nil];omega),by simp only[List.length_cons,List.length_nil];omega,?_⟩
  refine⟨aC x,fun _=>⟨by omega,by rw[abJ];simp[hx]⟩,?_⟩
  have em:(if x.n<n-((ck n s).take i).sum then x.n else n-((ck n s).take i).sum)=min (n-((ck n s).take i).sum) x.n:=by split<;>omega
  refine .inl ⟨[I (min (n-((ck n s).take i).sum) x.n)],rfl,⟨aF em,tv⟩,(by simp;rfl),?_⟩
  refine .inr ⟨[I (min (n-((ck n s).take i).sum) x.n)],cd.refl _,bI (by simp only[List.length_cons,List.length_nil];omega),by simp only[List.length_cons,List.length_nil];omega,?_⟩
  exact⟨fun _=>by rw[em];omega,fun _=>⟨by omega,by omega⟩,i+1,⟨⟨rf,rf,rf,rfl,rfl,aF (by rw[em];omega),rf,tv⟩,⟨⟨rfl,by rw[f1]⟩,⟨rfl,by rw[f2]⟩,tv⟩,rfl,rfl⟩,by omega,mlt au⟩
 intro h
 have he:i=s.length:=by have:=abZ h;rw[abH]at this;omega
 subst he
 have eF:(ck n s).take s.length=ck n s:=List.take_of_length_le (by omega)
 simp only[abX,eF]
 repeat first|apply g1|apply g2|apply g3|apply g4|apply g5
 refine abG ?_ ?_
 ·intro h
  have h:=eh h
  have h0:0<n:=abY h.2
  have hm:mixed=true:=h.1
  have hc:qx s n mixed=zR n (s.map (·.n)):=by unfold qx;rw[hm,ab4 h0];rfl
  have my:=(Fq n (s.map (·.n)) hn (fun w hw=>by obtain⟨y,hy,rfl⟩:=ab9.1 hw;exact mR (hp y hy)) (by rw[abH];omega) (by rw[pD];omega) (by rw[pD];exact ht)).ok
  have hz:qt (.aB 1 (s.map fun x=>I x.n))=Ints (s.map (·.n)):=by
   show DV.sl 1 (zQ _)=DV.sl 1 _
   rw[gK (fun _=>rfl),List.map_map];rfl
  rw[<-hz]at my
  refine .inl (.inr ⟨_,fun _=>my,?_⟩)
  rw[hc]
  exact⟨rf,tv⟩
 ·intro h
  have hc:qx s n mixed=ck n s:=by
   unfold qx
   have:=mQ h
   cases mixed with
   |false=>rfl
   |true=>
    have:¬0<n:=fun h0=>this ⟨rfl,ab4 h0⟩
    rw[ab5 this];rfl
  rw[hc]
  exact⟨DV.Le.of_eq (by show DV.sl 1 (zQ ((ck n s).map I))=_;rw[gK (fun _=>rfl)]),tv⟩
def Fu(s:List Lt)(n:Int)(mixed:Bool):List DV:=bif decide (b9 s<n)then[aU [],aU [],I 10]else[aU (fW s n mixed).1,aU (fW s n mixed).2,I 0]
theorem Sr{s:List Lt}(h:cg s=true):b9 s=dD s:=by unfold b9;rw[h];rfl
theorem H5(s:List Lt)(n:Int)(mixed:Bool)(hn:0<=n/\n<=1099511627776)(hs:cg s=true):aI Tryz.prog 154 [aU s,I n,B mixed] (Fu s n mixed):=by
 refine pO Tryz.func154 rfl (by kernel_rfl) rfl ?_
 obtain⟨hl,hp⟩:=hU hs
 refine .inl ⟨_,fun _=>(gj s (by omega)).ok,?_⟩
 rw[hs]
 repeat first|apply g1|apply g2|apply g3|apply g4|apply g5
 refine abG (fun h=>by simp at h;omega) fun _=>?_
 refine .inl ⟨_,fun _=>(mS s (by omega)).ok,?_⟩
 refine abG ?_ ?_
 ·intro h
  unfold Fu
  rw[h]
  exact⟨DV.aK 3,DV.aK 3,rf,tv⟩
 intro h
 have ht:n<=dD s:=by have:=abZ h;rw[Sr hs]at this;omega
 unfold Fu
 rw[h]
 have hk:=CX mixed hn.1 hp ht
 refine .inl ⟨_,fun _=>(Ft s n mixed hn hs ht).ok,?_⟩
 have hM:fW s n mixed=mo s (qx s n mixed) s.length:=rfl
 generalize qx s n mixed=ks at*
 refine⟨Nat,fun i=>⟨0,[(0,.dv (aU s)),(10,.dv (Ints ks)),(11,.dv (aU (mo s ks i).1)),(12,.dv (aU (mo s ks i).2)),(13,.dv (I i))],[]⟩,fun i=>i<=s.length,fun i=>s.length-i,0,fun _=>rfl,⟨⟨rf,rf,DV.aK 3,DV.aK 3,rf,tv⟩,tv,rfl,rfl⟩,abW _,?_⟩
 rintro i hi
 refine abG ?_ ?_
 ·intro h
  have au:i<s.length:=by have:=abY h;rw[abH]at this;omega
  obtain⟨x,hx⟩:∃x,s[i]?=some x:=⟨_,aaj au⟩
  obtain⟨k,A1⟩:∃k,ks[i]?=some k:=⟨_,aaj (show i<ks.length by rw[hk.1];omega)⟩
  have hb:=hk.2 i _ hx
  rw[abM,A1]at hb
  simp only[Option.getD_some]at hb
  have Ub:=ax.1 (hp x (abK hx))
  obtain⟨p1,p2,p3,p4⟩:=H4 hp hk i (by omega)
  have dZ:=yS hx A1
  generalize hq:mo s ks i=q at*
  have ab:∀{l:List Lt},(∀y∈l,aO y=true)->∀y∈l,0<=y.a/\y.a<=1099511627776/\0<=y.n/\y.n<=1099511627776:=fun h y hy=>by have:=ax.1 (h y hy);omega
  have ix:(s.map aC)[(i:Int).toNat]?=some (aC x):=by rw[abJ];simp[hx]
  have ik:(ks.map I)[(i:Int).toNat]?=some (I k):=by rw[abJ];simp[A1]
  have iY:=(pC q.1 ⟨x.f,x.a,k⟩ (by omega) (ab p1) (by simp only;omega)).ok
  have lJ:=(pC q.2 ⟨x.f,x.a+k,x.n-k⟩ (by omega) (ab p2) (by simp only;omega)).ok
  refine⟨aC x,fun _=>⟨by omega,ix⟩,aC x,fun _=>⟨by omega,ix⟩,I k,fun _=>⟨by omega,ik⟩,?_⟩
  simp only[hq]
  refine .inl ⟨_,fun _=>iY,?_⟩
  refine⟨by kernel_rfl,?_⟩
  refine⟨aC x,fun _=>⟨by omega,ix⟩,aC x,fun _=>⟨by omega,ix⟩,I k,fun _=>⟨by omega,ik⟩,fun _=>⟨by omega,by omega⟩,aC x,fun _=>⟨by omega,ix⟩,I k,fun _=>⟨by omega,ik⟩,fun _=>⟨by omega,by omega⟩,?_⟩
  refine .inl ⟨_,fun _=>lJ,?_⟩
  exact⟨by kernel_rfl,fun _=>⟨by omega,by omega⟩,i+1,jn (by simp only[dZ];rfl) rfl rfl rfl,by omega,mlt au⟩
 ·intro h
  have he:i=s.length:=by have:=abZ h;rw[abH]at this;omega
  subst he
  rw[hM]
  exact⟨rf,rf,rf,tv⟩
end
section
open Go.TM
def jM(l:Lt)(s:List Lt)(i:Nat):T3:=(s.take i).foldl (wG l) ⟨[],[],l.a,l.a+l.n⟩
theorem Br{l:Lt}{s:List Lt}{i:Nat}{x:Lt}(hx:s[i]?=some x):jM l s (i+1)=wG l (jM l s i) x:=by
 unfold jM;rw[abR,hx,ab7];rfl
structure InB(l:Lt)(i:Nat)(s:T3):Prop where
 lo:0<=s.fr/\s.fr<=l.a
 hi:l.a+l.n<=s.to/\s.to<=1099511627776
 len:s.OR.length+s.Rb.length<=i
theorem H6{l:Lt}{s:List Lt}(hs:∀x∈s,aO x=true)(hl:aO l=true):∀i,InB l i (jM l s i)
 |0=>by have:=ax.1 hl;exact⟨⟨this.2.1,Int.le_refl _⟩,⟨Int.le_refl _,this.2.2.2⟩,acb _⟩
 |i+1=>by
  obtain⟨h1,h2,h3⟩:=H6 hs hl i
  cases hx:s[i]? with
  |none=>
   have:jM l s (i+1)=jM l s i:=by unfold jM;rw[abR,hx];simp
   rw[this];exact⟨h1,h2,by omega⟩
  |some x=>
   have hp:=ax.1 (hs x (abK hx))
   rw[Br hx]
   generalize jM l s i=z at*
   unfold wG
   split
   ·exact⟨h1,h2,by simp only[abU,List.length_cons,List.length_nil];omega⟩
   split
   ·exact⟨h1,h2,by simp only[abU,List.length_cons,List.length_nil];omega⟩
   ·exact⟨by simp only;omega,by simp only;omega,by simp only;omega⟩
theorem aaJ(l:List Lt):∀x,x∈l.map aC->x.aQ:=fun x hx d hd=>by
 obtain⟨y,_,rfl⟩:=ab9.1 hx
 simp only[aC,DV.cells,abO,List.mem_nil_iff,or_false]at hd
 rcases hd with rfl|rfl|rfl<;>rfl
theorem Pa{s:List Lt}{l:Lt}(hs:∀x∈s,aO x=true)(hl:aO l=true)(hn:NS s):(∀x∈j7 s l,aO x=true)/\(j7 s l).length<=s.length+1:=by
 have hb:=H6 hs hl s.length
 have hr:j7 s l=OS l (jM l s s.length):=by unfold j7 jM;rw[abX]
 have h0:yE l [] ⟨[],[],l.a,l.a+l.n⟩:=⟨.slnil,.slnil,fun _ h=>(by cases h),fun _ h=>(by cases h),Int.le_refl _,Int.le_refl _,fun f u=>by
  have a:¬has [] f u:=bE
  exact⟨fun h=>.inr ((h.resolve_left a).resolve_left a),fun h=>.inr (.inr (h.resolve_left a))⟩⟩
 have XY:=ax.1 hl
 have h:=yE.fold (by omega) s [] _ (by simpa using hn) h0
 simp only[List.nil_append]at h
 have e:s.foldl (wG l) ⟨[],[],l.a,l.a+l.n⟩=jM l s s.length:=by unfold jM;rw[abX]
 rw[e]at h
 rw[hr]
 generalize jM l s s.length=z at*
 obtain⟨⟨lo1,lo2⟩,⟨MJ,uY⟩,hlen⟩:=hb
 unfold OS
 refine⟨fun x hx=>?_,by simp only[abU,List.length_cons,List.length_nil];omega⟩
 rcases abQ.1 hx with hx|hx
 ·rcases abQ.1 hx with hx|hx
  ·exact hs x (h.bs.subset hx)
  ·rw[abN]at hx;subst hx;rw[ax];simp only;omega
 ·exact hs x (h.as.subset hx)
theorem CY{l:List Lt}(hl:∀x∈l,aO x=true):∀i,(∀x∈(l.take i).foldl j7 [],aO x=true)/\((l.take i).foldl j7 []).length<=i/\NS ((l.take i).foldl j7 [])
 |0=>⟨fun _ h=>(by cases h),acb _,NS.nil⟩
 |i+1=>by
  obtain⟨h1,h2,h3⟩:=CY hl i
  cases hx:l[i]? with
  |none=>
   have:l.take (i+1)=l.take i:=by rw[abR,hx];simp
   rw[this];exact⟨h1,by omega,h3⟩
  |some x=>
   have hp:=hl x (abK hx)
   rw[abR,hx,ab7]
   show(∀y∈j7 _ x,_)/\(j7 _ x).length<=_/\NS (j7 _ x)
   have h4:=Pa h1 hp h3
   exact⟨h4.1,by omega,(J2 h3 (ax.1 hp).2.2.1).1⟩
theorem Bs{l:List Lt}(hl:∀x∈l,aO x=true):(∀x∈iW l,aO x=true)/\(iW l).length<=l.length/\NS (iW l):=by
 have h:=CY hl l.length
 rw[abX]at h
 exact h
variable [bG]
def cLt(x:Lt):List AV:=[.dv (I x.f),.dv (I x.a),.dv (I x.n)]
theorem Pb(s:List Lt)(l:Lt)(hs:∀x∈s,aO x=true)(hl:aO l=true)(hn:s.length<=10000):aI Tryz.prog 176 [aU s,aC l] [aU (j7 s l)]:=by
 refine pO Tryz.func176 rfl (by kernel_rfl) rfl ?_
 have XY:=ax.1 hl
 have hN:=H6 hs hl
 refine⟨fun _=>⟨by omega,by omega⟩,?_⟩
 refine⟨Nat,fun i=>⟨3,[(0,.dv (aU s)),(3,.ptr 0 0),(5,.own 1 0 0 []),(6,.own 2 0 0 []),(7,.dv (I (jM l s i).fr)),(8,.dv (I (jM l s i).to)),(9,.dv (I i))],[(0,.cells (cLt l)),(1,.tree 0 0 (.aB 3 ((jM l s i).OR.map aC))),(2,.tree 0 0 (.aB 3 ((jM l s i).Rb.map aC)))]⟩,fun i=>i<=s.length,fun i=>s.length-i,0,fun _=>rfl,⟨⟨rf,rfl,⟨rfl,rfl,rfl,rfl,3,rfl⟩,⟨rfl,rfl,rfl,rfl,3,rfl⟩,rf,rf,rf,tv⟩,⟨⟨rf,rf,rf,tv⟩,⟨rfl,rfl,3,rfl⟩,⟨rfl,rfl,3,rfl⟩,tv⟩,rfl,rfl⟩,abW _,?_⟩
 rintro i hi
 have hNi:=hN i
 have cW:jM l s i=jM l s i:=rfl
 refine abG ?_ ?_
 ·intro h
  have au:i<s.length:=by have:=abY h;rw[abH]at this;omega
  obtain⟨x,hx⟩:∃x,s[i]?=some x:=⟨_,aaj au⟩
  have Ub:=ax.1 (hs x (abK hx))
  have dZ:=Br (l:=l) hx
  have ix:(s.map aC)[(i:Int).toNat]?=some (aC x):=by rw[abJ];simp[hx]
  refine⟨aC x,fun _=>⟨by omega,ix⟩,?_⟩
  generalize hz:jM l s i=z at*
  obtain⟨bf,af,fr,to⟩:=z
  obtain⟨⟨lo1,lo2⟩,⟨MJ,uY⟩,hlen⟩:=hNi
  simp only at lo1 lo2 MJ uY hlen
  simp only[hz]
  repeat first|apply g1|apply g2|apply g3|apply g4|apply g5|refine⟨fun _=>⟨by omega,by omega⟩,?_⟩
  have lb:∀{q:List Lt},q.length<=i->(q.map aC).length<=20000:=fun h=>by rw[abH];omega
  refine abG ?_ ?_
  ·intro h
   have hc:x.f<l.f\/x.f=l.f/\x.a+x.n<fr:=by simpa using h
   have e:jM l s (i+1)=⟨bf++[x],af,fr,to⟩:=by rw[dZ];unfold wG;rw[if_pos hc]
   have l1:=lb (q:=bf) (by omega)
   refine .inl ⟨[aC x],rfl,⟨rf,rf,rf,tv⟩,(by simp;rfl),?_⟩
   refine .inr ⟨[aC x],cd.refl _,bL (by simp only[List.length_cons,List.length_nil];omega),by simp only[List.length_cons,List.length_nil];omega,?_⟩
   exact⟨fun _=>⟨by omega,by omega⟩,i+1,jn (by simp only[e];rfl) (by simp only[e,ab0];rfl) rfl rfl,by omega,mlt au⟩
  intro h
  have hc:¬(x.f<l.f\/x.f=l.f/\x.a+x.n<fr):=by simpa using h
  repeat first|apply g1|apply g2|apply g3|apply g4|apply g5
  refine abG ?_ ?_
  ·intro h
   have A3:l.f<x.f\/to<x.a:=by simpa using h
   have e:jM l s (i+1)=⟨bf,af++[x],fr,to⟩:=by rw[dZ];unfold wG;rw[if_neg hc,if_pos A3]
   have l1:=lb (q:=af) (by omega)
   refine .inl ⟨[aC x],rfl,⟨rf,rf,rf,tv⟩,(by simp;rfl),?_⟩
   refine .inr ⟨[aC x],cd.refl _,bL (by simp only[List.length_cons,List.length_nil];omega),by simp only[List.length_cons,List.length_nil];omega,?_⟩
   exact⟨fun _=>⟨by omega,by omega⟩,i+1,jn (by simp only[e];rfl) (by simp only[e,ab0];rfl) rfl rfl,by omega,mlt au⟩
  ·intro h
   have A3:¬(l.f<x.f\/to<x.a):=by simpa using h
   have e:jM l s (i+1)=⟨bf,af,min fr x.a,max to (x.a+x.n)⟩:=by rw[dZ];unfold wG;rw[if_neg hc,if_neg A3]
   have e1:(if x.a<fr then x.a else fr)=min fr x.a:=by split<;>omega
   have e2:(if to<x.a+x.n then x.a+x.n else to)=max to (x.a+x.n):=by split<;>omega
   refine⟨fun _=>⟨by omega,by omega⟩,fun _=>⟨by omega,by omega⟩,i+1,jn (by simp only[e,e1,e2];rfl) (by simp only[e];rfl) rfl rfl,by omega,mlt au⟩
 ·intro h
  have he:i=s.length:=by have:=abZ h;rw[abH]at this;omega
  subst he
  have hr:j7 s l=OS l (jM l s s.length):=by unfold j7 jM;rw[abX]
  rw[hr]
  generalize hz:jM l s s.length=z at*
  obtain⟨bf,af,fr,to⟩:=z
  obtain⟨⟨lo1,lo2⟩,⟨MJ,uY⟩,hlen⟩:=hNi
  simp only at lo1 lo2 MJ uY hlen
  simp only[hz]
  have l1:(bf.map aC).length<=20000:=by rw[abH];omega
  have l2:(af.map aC).length<=20000:=by rw[abH];omega
  refine⟨fun _=>⟨by omega,by omega⟩,?_⟩
  refine .inl ⟨[aC ⟨l.f,fr,to-fr⟩],rfl,⟨rf,rf,rf,tv⟩,(by simp;rfl),?_⟩
  refine .inr ⟨[aC ⟨l.f,fr,to-fr⟩],cd.refl _,bL (by simp only[List.length_cons,List.length_nil];omega),by simp only[List.length_cons,List.length_nil];omega,?_⟩
  refine .inr (.inl ⟨aaJ af,af.map aC,cd.refl _,bL (by simp only[abU,List.length_cons,List.length_nil];omega),by simp only[abU,List.length_cons,List.length_nil];omega,?_⟩)
  refine⟨?_,tv⟩
  have:=qi (bf++[(⟨l.f,fr,to-fr⟩:Lt)]++af)
  rw[ab0,ab0]at this
  exact this
theorem Bt(l:List Lt)(hl:l.length<=9000):aI Tryz.prog 151 [aU l] [aU (bif cg l then iW l else[])]:=by
 refine pO Tryz.func151 rfl (by kernel_rfl) rfl ?_
 refine .inl ⟨_,fun _=>(gj l (by omega)).ok,?_⟩
 have hb:=fun h=>(hU (l:=l) h).2
 have hs:iW l=l.foldl j7 []:=rfl
 generalize cg l=v at*
 refine⟨Nat,fun i=>⟨0,[(0,.dv (aU l)),(3,.dv (aU ((l.take i).foldl j7 []))),(4,.dv (B v)),(5,.dv (I i))],[]⟩,fun i=>i<=l.length/\(v=false->i=0),fun i=>l.length-i,0,fun _=>rfl,⟨⟨rf,DV.aK 3,rf,rf,tv⟩,tv,rfl,rfl⟩,⟨abW _,fun _=>rfl⟩,?_⟩
 rintro i ⟨hi,hv⟩
 repeat first|apply g1|apply g2|apply g3|apply g4|apply g5
 refine abG ?_ ?_
 ·intro h
  have h:=eh h
  have VW:v=true:=h.2
  have au:i<l.length:=by have:=abY h.1;rw[abH]at this;omega
  obtain⟨x,hx⟩:∃x,l[i]?=some x:=⟨_,aaj au⟩
  have hp:=hb VW
  obtain⟨h1,h2,h3⟩:=CY hp i
  have e:(l.take (i+1)).foldl j7 []=j7 ((l.take i).foldl j7 []) x:=by rw[abR,hx,ab7];rfl
  refine⟨aC x,fun _=>⟨by omega,by rw[abJ];simp[hx]⟩,?_⟩
  refine .inl ⟨_,fun _=>(Pb _ x h1 (hp x (abK hx)) (by omega)).ok,?_⟩
  exact⟨fun _=>⟨by omega,by omega⟩,i+1,jn (by simp only[e];rfl) rfl rfl rfl,⟨by omega,by simp[VW]⟩,mlt au⟩
 ·intro h
  have h:=mQ h
  refine⟨DV.Le.of_eq ?_,tv⟩
  cases v with
  |true=>
   have:i=l.length:=by
    have:¬(i:Int)<(l.map aC).length:=fun hh=>h ⟨ab4 hh,rfl⟩
    rw[abH]at this;omega
   subst this
   rw[abX];rfl
  |false=>rw[hv rfl];rfl
end
section
open Go.TM
theorem LD{x y:Lt}(hx:aO x=true)(hy:aO y=true):(∀z∈lj y x,aO z=true)/\(lj y x).length<=2:=by
 have hx:=ax.1 hx
 have hy:=ax.1 hy
 obtain⟨a1,a2,_⟩:=J3 hy.2.2.1 hx.2.2.1
 refine⟨fun z hz=>?_,?_⟩
 ·have b1:=a1.pos z hz
  have b2:=a2 z hz
  rw[ax];omega
 ·unfold lj
  split
  ·simp
  ·split<;>split<;>simp
theorem Bu{l:List Lt}{y:Lt}(hl:∀x∈l,aO x=true)(hy:aO y=true):(∀z∈jq l y,aO z=true)/\(jq l y).length<=2*l.length:=by
 induction l with
 |nil=>exact⟨fun _ h=>(by cases h),acb _⟩
 |cons x l ih=>
  obtain⟨a1,a2⟩:=LD (hl x abT) hy
  obtain⟨b1,b2⟩:=ih fun z hz=>hl z (abP _ hz)
  have e:jq (x::l) y=lj y x++jq l y:=rfl
  rw[e]
  refine⟨fun z hz=>?_,by simp only[abU,List.length_cons];omega⟩
  rcases abQ.1 hz with hz|hz
  ·exact a1 z hz
  ·exact b1 z hz
def yT(l:List Lt)(y:Lt)(i:Nat):List Lt:=jq (l.take i) y
theorem LF{l:List Lt}{y x:Lt}{i:Nat}(hx:l[i]?=some x):yT l y (i+1)=yT l y i++lj y x:=by
 unfold yT jq;rw[abR,hx,List.flatMap_append];simp
def s9(x:Lt)(P:List Lt)(k:Nat):List Lt:=(P.take k).foldl jq [x]
theorem Bv{x y:Lt}{P:List Lt}{k:Nat}(hy:P[k]?=some y):s9 x P (k+1)=jq (s9 x P k) y:=by
 unfold s9;rw[abR,hy,ab7];rfl
theorem Fv{y:Lt}(hy:1<=y.n):∀{l:List Lt},NS l->(jq l y).length<=l.length+1
 |[],_=>by simp[jq]
 |x::l,h=>by
  have e:jq (x::l) y=lj y x++jq l y:=rfl
  rw[e,abU]
  by_cases hc:x.f=y.f/\y.a+y.n<x.a+x.n
  ·have vJ:jq l y=l:=by
    have:∀z∈l,lj y z=[z]:=fun z hz=>by
     have:=h.head.2 z hz
     unfold Ak at this
     unfold lj
     rw[if_pos (by omega)]
    clear e hc
    induction l with
    |nil=>rfl
    |cons z l ih=>
     show lj y z++jq l y=_
     have h2:=h.tail
     rw[this z abT,ih ⟨(List.pairwise_cons.2 ⟨fun w hw=>h.head.2 w (abP _ hw),h2.tail.rK⟩),fun w hw=>by
      rcases abO.1 hw with rfl|hw
      ·exact h.head.1
      ·exact h2.tail.pos w hw⟩ fun w hw=>this w (abP _ hw)]
     rfl
   rw[vJ]
   have:(lj y x).length<=2:=by
    unfold lj
    split
    ·simp
    ·split<;>split<;>simp
   simp only[List.length_cons];omega
  ·have:(lj y x).length<=1:=by
    unfold lj
    split
    ·simp
    ·rw[if_neg (show¬y.a+y.n<x.a+x.n by omega)];split<;>simp
   have:=Fv hy h.tail
   simp only[List.length_cons];omega
theorem CZ{x:Lt}{P:List Lt}(hx:aO x=true)(hP:∀y∈P,aO y=true):∀k,(∀z∈s9 x P k,aO z=true)/\NS (s9 x P k)/\(s9 x P k).length<=k+1
 |0=>⟨fun z hz=>by rw[show s9 x P 0=[x]from rfl,abN]at hz;subst hz;exact hx,⟨acg _ _,fun z hz=>by rw[show s9 x P 0=[x]from rfl,abN]at hz;subst hz;exact(ax.1 hx).2.2.1⟩,acb _⟩
 |k+1=>by
  obtain⟨h1,h2,h3⟩:=CZ hx hP k
  cases hy:P[k]? with
  |none=>
   have:s9 x P (k+1)=s9 x P k:=by unfold s9;rw[abR,hy];simp
   rw[this];exact⟨h1,h2,by omega⟩
  |some y=>
   have hp:=hP y (abK hy)
   rw[Bv hy]
   have h4:=Fv (ax.1 hp).2.2.1 h2
   exact⟨(Bu h1 hp).1,(CQ (ax.1 hp).2.2.1 h2).1,by omega⟩
def J7(s P:List Lt)(i:Nat):List Lt:=((s.take i).flatMap fun x=>wH x P).foldl bj []
theorem ta:∀(r l:List Lt),(∀x∈r,aO x=true)->(∀x∈l,aO x=true)->(∀x∈r.foldl bj l,aO x=true)/\(r.foldl bj l).length<=l.length+r.length
 |[],l,_,h=>⟨h,acb _⟩
 |x::r,l,hr,h=>by
  have hp:=ax.1 (hr x abT)
  have h1:=hZ h ⟨hp.1,hp.2.1,by omega,hp.2.2.2⟩
  have h2:=ta r (bj l x) (fun y hy=>hr y (abP _ hy)) h1
  have h3:=fp l x
  exact⟨h2.1,by rw[List.foldl_cons,List.length_cons];omega⟩
variable [bG]
theorem LG(l:List Lt)(y:Lt)(hl:∀x∈l,aO x=true)(hy:aO y=true)(hn:l.length<=9000):aI Tryz.prog 178 [aU l,aC y] [aU (jq l y)]:=by
 refine pO Tryz.func178 rfl (by kernel_rfl) rfl ?_
 have hyp:=ax.1 hy
 refine⟨Nat,fun i=>⟨2,[(0,.dv (aU l)),(3,.ptr 0 0),(5,.own 1 0 0 []),(6,.dv (I i))],[(0,.cells (cLt y)),(1,.tree 0 0 (.aB 3 ((yT l y i).map aC)))]⟩,fun i=>i<=l.length,fun i=>l.length-i,0,fun _=>rfl,⟨⟨rf,rfl,⟨rfl,rfl,rfl,rfl,3,rfl⟩,rf,tv⟩,⟨⟨rf,rf,rf,tv⟩,⟨rfl,rfl,3,rfl⟩,tv⟩,rfl,rfl⟩,abW _,?_⟩
 rintro i hi
 refine abG ?_ ?_
 ·intro h
  have au:i<l.length:=by have:=abY h;rw[abH]at this;omega
  obtain⟨x,hx⟩:∃x,l[i]?=some x:=⟨_,aaj au⟩
  have Ub:=ax.1 (hl x (abK hx))
  have dZ:=LF (y:=y) hx
  have iw:(yT l y i).length<=2*i:=by
   have:=(Bu (l:=l.take i) (fun z hz=>hl z (List.mem_of_mem_take hz)) hy).2
   rw[ab2]at this;unfold yT;omega
  have ix:(l.map aC)[(i:Int).toNat]?=some (aC x):=by rw[abJ];simp[hx]
  generalize hz:yT l y i=z at*
  have l1:(z.map aC).length<=20000:=by rw[abH];omega
  repeat first|apply g1|apply g2|apply g3|apply g4|apply g5|refine⟨fun _=>⟨by omega,by omega⟩,?_⟩|refine⟨aC x,fun _=>⟨by omega,ix⟩,?_⟩|refine⟨by kernel_rfl,?_⟩
  refine abG ?_ ?_
  ·intro h
   have hc:x.f≠y.f\/y.a+y.n<=x.a\/x.a+x.n<=y.a:=by simp at h;omega
   have e:yT l y (i+1)=z++[x]:=by rw[dZ];unfold lj;rw[if_pos hc]
   refine⟨aC x,fun _=>⟨by omega,ix⟩,?_⟩
   refine .inl ⟨[aC x],rfl,⟨rf,rf,rf,tv⟩,(by simp;rfl),?_⟩
   refine .inr ⟨[aC x],cd.refl _,bL (by simp only[List.length_cons,List.length_nil];omega),by simp only[List.length_cons,List.length_nil];omega,?_⟩
   exact⟨fun _=>⟨by omega,by omega⟩,i+1,jn (by simp only[e];rfl) (by simp only[e,ab0];rfl) rfl rfl,by omega,mlt au⟩
  ·intro h
   have hc:¬(x.f≠y.f\/y.a+y.n<=x.a\/x.a+x.n<=y.a):=by simp at h;omega
   have e:yT l y (i+1)=z++((if x.a<y.a then[⟨y.f,x.a,y.a-x.a⟩]else[])++(if y.a+y.n<x.a+x.n then[⟨y.f,y.a+y.n,x.a+x.n-y.a-y.n⟩]else[])):=by rw[dZ];unfold lj;rw[if_neg hc]
   refine abG ?_ ?_
   ·intro h2
    have h2:=abY h2
    repeat first|refine⟨fun _=>⟨by omega,by omega⟩,?_⟩
    refine .inl ⟨[aC ⟨y.f,x.a,y.a-x.a⟩],rfl,⟨rf,rf,rf,tv⟩,(by simp;rfl),?_⟩
    refine .inr ⟨[aC ⟨y.f,x.a,y.a-x.a⟩],cd.refl _,bL (by simp only[abU,List.length_cons,List.length_nil];omega),by simp only[abU,List.length_cons,List.length_nil];omega,?_⟩
    repeat first|refine⟨fun _=>⟨by omega,by omega⟩,?_⟩
    refine abG ?_ ?_
    ·intro h3
     have h3:=abY h3
     rw[if_pos h2,if_pos h3]at e
     repeat first|refine⟨fun _=>⟨by omega,by omega⟩,?_⟩
     refine .inl ⟨[aC ⟨y.f,y.a+y.n,x.a+x.n-y.a-y.n⟩],rfl,⟨rf,rf,rf,tv⟩,(by simp;rfl),?_⟩
     refine .inr ⟨[aC ⟨y.f,y.a+y.n,x.a+x.n-y.a-y.n⟩],cd.refl _,bL (by simp only[abU,List.length_cons,List.length_nil];omega),by simp only[abU,List.length_cons,List.length_nil];omega,?_⟩
     exact⟨fun _=>⟨by omega,by omega⟩,i+1,jn (by simp only[e];rfl) (by simp only[e,ab0,List.append_nil,List.nil_append,ab8];rfl) rfl rfl,by omega,mlt au⟩
    ·intro h3
     have h3:=abZ h3
     rw[if_pos h2,if_neg h3]at e
     exact⟨fun _=>⟨by omega,by omega⟩,i+1,jn (by simp only[e];rfl) (by simp only[e,ab0,List.append_nil,List.nil_append,ab8];rfl) rfl rfl,by omega,mlt au⟩
   ·intro h2
    have h2:=abZ h2
    repeat first|refine⟨fun _=>⟨by omega,by omega⟩,?_⟩
    refine abG ?_ ?_
    ·intro h3
     have h3:=abY h3
     rw[if_neg h2,if_pos h3]at e
     repeat first|refine⟨fun _=>⟨by omega,by omega⟩,?_⟩
     refine .inl ⟨[aC ⟨y.f,y.a+y.n,x.a+x.n-y.a-y.n⟩],rfl,⟨rf,rf,rf,tv⟩,(by simp;rfl),?_⟩
     refine .inr ⟨[aC ⟨y.f,y.a+y.n,x.a+x.n-y.a-y.n⟩],cd.refl _,bL (by simp only[abU,List.length_cons,List.length_nil];omega),by simp only[abU,List.length_cons,List.length_nil];omega,?_⟩
     exact⟨fun _=>⟨by omega,by omega⟩,i+1,jn (by simp only[e];rfl) (by simp only[e,ab0,List.append_nil,List.nil_append,ab8];rfl) rfl rfl,by omega,mlt au⟩
    ·intro h3
     have h3:=abZ h3
     rw[if_neg h2,if_neg h3]at e
     exact⟨fun _=>⟨by omega,by omega⟩,i+1,jn (by simp only[e];rfl) (by simp only[e,ab0,List.append_nil,List.nil_append,ab8];rfl) rfl rfl,by omega,mlt au⟩
 ·intro h
  have he:i=l.length:=by have:=abZ h;rw[abH]at this;omega
  subst he
  have:yT l y l.length=jq l y:=by unfold yT;rw[abX]
  rw[this]
  exact⟨qi _,tv⟩
end
section
open Go.TM
theorem Fw{s P:List Lt}{i:Nat}{x:Lt}(hx:s[i]?=some x):J7 s P (i+1)=(wH x P).foldl bj (J7 s P i):=by
 unfold J7;rw[abR,hx,List.flatMap_append,ab7];simp
theorem yU(x:Lt)(P:List Lt):s9 x P P.length=wH x P:=by unfold s9 wH;rw[abX]
theorem H7{s P:List Lt}(hs:∀x∈s,aO x=true)(hP:∀y∈P,aO y=true):∀i,(∀x∈J7 s P i,aO x=true)/\(J7 s P i).length<=i*(P.length+1)
 |0=>⟨fun _ h=>(by cases h),by simp[J7]⟩
 |i+1=>by
  obtain⟨h1,h2⟩:=H7 hs hP i
  have em:(i+1)*(P.length+1)=i*(P.length+1)+(P.length+1):=Nat.succ_mul ..
  cases hx:s[i]? with
  |none=>
   have:J7 s P (i+1)=J7 s P i:=by unfold J7;rw[abR,hx];simp
   rw[this];exact⟨h1,by omega⟩
  |some x=>
   have hp:=hs x (abK hx)
   obtain⟨r1,r2,r3⟩:=CZ hp hP P.length
   rw[yU]at r1 r3
   rw[Fw hx]
   have:=ta _ _ r1 h1
   exact⟨this.1,by omega⟩
theorem Y4(l:List Lt):(((l.map aC).length:Int)==0)=decide (l=[]):=by
 cases l with
 |nil=>rfl
 |cons x l=>
  have h:(((((x::l).map aC).length:Nat):Int)==0)=false:=by
   rw[beq_eq_false_iff_ne,abH,List.length_cons];omega
  rw[h,ab5 (by simp)]
variable [bG]
def J8(s P:List Lt):List Lt:=bif cg s&&cg P then OV s P else[]
theorem tc(s P:List Lt)(hs:s.length<=5000)(hP:P.length<=5000)(aV:s.length*(P.length+1)<=90000):aI Tryz.prog 153 [aU s,aU P] [aU (J8 s P)]:=by
 refine pO Tryz.func153 rfl (by kernel_rfl) rfl ?_
 refine .inl ⟨_,fun _=>(gj s (by omega)).ok,?_⟩
 refine .inl ⟨_,fun _=>(gj P (by omega)).ok,?_⟩
 repeat first|apply g1|apply g2|apply g3|apply g4|apply g5
 refine abG ?_ ?_
 ·intro h
  have:J8 s P=[]:=by
   unfold J8
   have h:(bif !cg s then true else !cg P)=true:=h
   cases hv:cg s<;>cases dK:cg P<;>rw[hv,dK]at h<;>first|rfl|cases h
  rw[this]
  exact⟨DV.aK 3,tv⟩
 intro h
 have hv:cg s=true/\cg P=true:=by
  have h:(bif !cg s then true else !cg P)=false:=h
  cases hv:cg s<;>cases dK:cg P<;>rw[hv,dK]at h<;>first|exact⟨rfl,rfl⟩|cases h
 have my:=(hU hv.1).2
 have hPp:=(hU hv.2).2
 have he:J8 s P=J7 s P s.length:=by unfold J8 J7 OV;rw[hv.1,hv.2,abX];rfl
 rw[he]
 clear he h hv
 refine⟨Nat,fun i=>⟨0,[(0,.dv (aU s)),(1,.dv (aU P)),(7,.dv (aU (J7 s P i))),(8,.dv (I i))],[]⟩,fun i=>i<=s.length,fun i=>s.length-i,0,fun _=>rfl,⟨⟨rf,rf,DV.aK 3,rf,tv⟩,tv,rfl,rfl⟩,abW _,?_⟩
 rintro i hi
 refine abG ?_ ?_
 ·intro h
  have au:i<s.length:=by have:=abY h;rw[abH]at this;omega
  obtain⟨x,hx⟩:∃x,s[i]?=some x:=⟨_,aaj au⟩
  have Ub:=my x (abK hx)
  have dZ:=Fw (P:=P) hx
  obtain⟨w1,w2⟩:=H7 my hPp i
  have hR:=CZ Ub hPp
  have hmul:i*(P.length+1)<=s.length*(P.length+1):=acd _ (by omega)
  generalize hW:J7 s P i=W at*
  refine⟨aC x,fun _=>⟨by omega,by rw[abJ];simp[hx]⟩,?_⟩
  refine .inl ⟨[aC x],rfl,⟨rf,rf,rf,tv⟩,(by simp;rfl),?_⟩
  refine⟨Nat,fun k=>⟨0,[(0,.dv (aU s)),(1,.dv (aU P)),(7,.dv (aU W)),(8,.dv (I i)),(9,.dv (aU (s9 x P k))),(10,.dv (I k))],[]⟩,fun k=>k<=P.length,fun k=>P.length-k,0,fun _=>rfl,jn (by simp only[hW];rfl) rfl rfl rfl,abW _,?_⟩
  rintro k hk
  refine abG ?_ ?_
  ·intro h
   have MK:k<P.length:=by have:=abY h;rw[abH]at this;omega
   obtain⟨y,hy⟩:∃y,P[k]?=some y:=⟨_,aaj MK⟩
   obtain⟨r1,r2,r3⟩:=hR k
   have e:=Bv (x:=x) hy
   refine⟨aC y,fun _=>⟨by omega,by rw[abJ];simp[hy]⟩,?_⟩
   refine .inl ⟨_,fun _=>(LG _ y r1 (hPp y (abK hy)) (by omega)).ok,?_⟩
   exact⟨fun _=>⟨by omega,by omega⟩,k+1,jn (by simp only[e];rfl) rfl rfl rfl,by omega,mlt MK⟩
  intro h
  have he:k=P.length:=by have:=abZ h;rw[abH]at this;omega
  subst he
  obtain⟨r1,r2,r3⟩:=hR P.length
  simp only[yU]
  rw[yU]at r1 r3
  generalize wH x P=R at*
  have hK:=fun q=>ta (R.take q) W (fun z hz=>r1 z (List.mem_of_mem_take hz)) w1
  refine⟨Nat,fun q=>⟨0,[(0,.dv (aU s)),(1,.dv (aU P)),(7,.dv (aU ((R.take q).foldl bj W))),(8,.dv (I i)),(9,.dv (aU R)),(11,.dv (I q))],[]⟩,fun q=>q<=R.length,fun q=>R.length-q,0,fun _=>rfl,jn rfl rfl rfl rfl,abW _,?_⟩
  rintro q hq
  refine abG ?_ ?_
  ·intro h
   have hqt:q<R.length:=by have:=abY h;rw[abH]at this;omega
   obtain⟨y,hy⟩:∃y,R[q]?=some y:=⟨_,aaj hqt⟩
   have hyp:=ax.1 (r1 y (abK hy))
   obtain⟨k1,k2⟩:=hK q
   rw[ab2]at k2
   have e:(R.take (q+1)).foldl bj W=bj ((R.take q).foldl bj W) y:=by rw[abR,hy,ab7];rfl
   refine⟨aC y,fun _=>⟨by omega,by rw[abJ];simp[hy]⟩,?_⟩
   refine .inl ⟨_,fun _=>(pC _ y (by omega) (fun z hz=>by have:=ax.1 (k1 z hz);omega) (by omega)).ok,?_⟩
   exact⟨fun _=>⟨by omega,by omega⟩,q+1,jn (by simp only[e];rfl) rfl rfl rfl,by omega,mlt hqt⟩
  ·intro h
   have he:q=R.length:=by have:=abZ h;rw[abH]at this;omega
   subst he
   refine⟨fun _=>⟨by omega,by omega⟩,i+1,jn (by simp only[dZ,abX];rfl) rfl rfl rfl,by omega,mlt au⟩
 ·intro h
  have he:i=s.length:=by have:=abZ h;rw[abH]at this;omega
  subst he
  exact⟨rf,tv⟩
def me(l:List Lt):List Lt:=bif cg l then iW l else[]
def wI(a b:List Lt):List Lt:=J8 (me a) b
def td(a b:List Lt):Bool:=cg a&&cg b&&decide (wI a b=[])
theorem yV(l:List Lt):(me l).length<=l.length/\∀x∈me l,aO x=true:=by
 unfold me
 cases hv:cg l with
 |true=>have:=Bs (hU hv).2;exact⟨this.2.1,this.1⟩
 |false=>exact⟨abW _,fun _ h=>(by cases h)⟩
theorem rN(a b:List Lt)(ha:a.length<=5000)(hb:b.length<=5000)(aV:a.length*(b.length+1)<=90000):aI Tryz.prog 177 [aU a,aU b] [aU (wI a b)]:=by
 refine pO Tryz.func177 rfl (by kernel_rfl) rfl ?_
 have hl:=(yV a).1
 have hm:(me a).length*(b.length+1)<=a.length*(b.length+1):=acd _ hl
 refine .inl ⟨_,fun _=>(Bt a (by omega)).ok,?_⟩
 refine .inl ⟨_,fun _=>(tc (me a) b (by omega) hb (by omega)).ok,?_⟩
 exact⟨rf,tv⟩
theorem vW(a b:List Lt)(ha:a.length<=5000)(hb:b.length<=5000)(aV:a.length*(b.length+1)<=90000):aI Tryz.prog 152 [aU a,aU b] [B (td a b)]:=by
 refine pO Tryz.func152 rfl (by kernel_rfl) rfl ?_
 refine .inl ⟨_,fun _=>(gj a (by omega)).ok,?_⟩
 refine .inl ⟨_,fun _=>(gj b (by omega)).ok,?_⟩
 repeat first|apply g1|apply g2|apply g3|apply g4|apply g5
 refine .inl ⟨_,fun _=>(rN a b ha hb aV).ok,?_⟩
 repeat first|apply g1|apply g2|apply g3|apply g4|apply g5
 refine⟨DV.Le.of_eq ?_,tv⟩
 show DV.bool (bif bif cg a then cg b else false then(((wI a b).map aC).length:Int)==0 else false)=B (td a b)
 unfold td
 rw[Y4]
 cases cg a<;>cases cg b<;>rfl
theorem Ss{s P:List Lt}(hs:∀x∈s,aO x=true):(J8 s P).length<=s.length*(P.length+1):=by
 unfold J8
 cases hv:cg s&&cg P with
 |true=>
  rw[acj]at hv
  have:=(H7 hs (hU hv.2).2 s.length).2
  unfold J7 at this
  rw[abX]at this
  exact this
 |false=>exact abW _
def LH(a b:List Lt):List Lt:=bif cg b then wI a (wI a b)else[]
theorem Bw(a b:List Lt)(ha:a.length<=5000)(hb:b.length<=5000)(aV:a.length*(b.length+1)<=5000)(abv:a.length*(a.length*(b.length+1)+1)<=90000):aI Tryz.prog 180 [aU a,aU b] [aU (LH a b)]:=by
 refine pO Tryz.func180 rfl (by kernel_rfl) rfl ?_
 refine .inl ⟨_,fun _=>(gj b (by omega)).ok,?_⟩
 unfold LH
 refine abG ?_ ?_
 ·intro h
  have h:cg b=false:=by simpa using h
  rw[h]
  exact⟨DV.aK 3,tv⟩
 ·intro h
  have h:cg b=true:=by simpa using h
  rw[h]
  have h1:=yV a
  have h2:=Ss (P:=b) h1.2
  have h3:(me a).length*(b.length+1)<=a.length*(b.length+1):=acd _ h1.1
  have h4:a.length*((wI a b).length+1)<=a.length*(a.length*(b.length+1)+1):=Nat.mul_le_mul_left _ (by unfold wI;omega)
  refine .inl ⟨_,fun _=>(rN a b ha hb (by omega)).ok,?_⟩
  refine .inl ⟨_,fun _=>(rN a (wI a b) ha (by unfold wI;omega) (by omega)).ok,?_⟩
  exact⟨rf,tv⟩
end
section
open Go.TM
structure fa where
 fr:Int
 to:Int
 it:Int
 n:Int
 ps:List Lt
structure dW where
 id:Int
 kind:Int
 gE:Int
 tick:Int
 aL:Int
 times:Int
 mv:List fa
structure qy where
 id:Int
 step:Int
 kind:Int
 tick:Int
 gE:Int
 fr:Int
 to:Int
 it:Int
 n:Int
 ps:List Lt
 md:List Int
abbrev Ky:=Int×Int
abbrev SM:=List (Ky×List Lt)
def ak(m:fa):DV:=.agg [I m.fr,I m.to,I m.it,I m.n,aU m.ps]
def aP(s:dW):DV:=.agg [I s.id,I s.kind,I s.gE,I s.tick,I s.aL,I s.times,.sl 5 (s.mv.map ak)]
def bB(f:qy):DV:=.agg [I f.id,I f.step,I f.kind,I f.tick,I f.gE,I f.fr,I f.to,I f.it,I f.n,aU f.ps,Ints f.md]
def j8(p:Ky×List Lt):DV:=.agg [I p.1.1,I p.1.2,aU p.2]
structure RL where
 sh:Int
 st:SM
 fl:List qy
 sp:List dW
structure Pc where
 nm:ByteArray
 sp:Bool
 lv:Int
 tm:Int
 ch:Int
 of:Int
 tk:List Ky
 gv:List Ky
 bk:List Ky
def fq(p:Ky):DV:=.agg [I p.1,I p.2]
def gT(r:Pc):DV:=.agg [.str r.nm,B r.sp,I r.lv,I r.tm,I r.ch,I r.of,.sl 2 (r.tk.map fq),.sl 2 (r.gv.map fq),.sl 2 (r.bk.map fq)]
def dB:List Pc:=[⟨⟨⟨[100,105,103]⟩⟩,true,0,0,1,1,[],[(1,4),(2,3)],[]⟩,⟨⟨⟨[115,109,101,108,116]⟩⟩,false,2,5,2,3,[(1,2),(2,1)],[(3,1)],[(1,1)]⟩,
 ⟨⟨⟨[102,111,114,103,101]⟩⟩,false,3,10,1,1,[(3,3)],[(4,1)],[]⟩,⟨⟨⟨[115,99,114,97,112]⟩⟩,false,0,1,1,1,[(4,1)],[(3,3)],[]⟩,⟨⟨⟨[115,101,108,108]⟩⟩,false,0,1,1,1,[(3,1)],[(0,7)],[]⟩]
abbrev jc:List DV:=[.sl 7 (CV (I 2) (I 20)),.sl 9 (dB.map gT),T6,O6]
def rlC(R:RL):List AV:=.dv (I R.sh)::fc jc++[.own 1 0 0 [],.own 2 0 0 [],.own 3 0 0 []]
def dU(R:RL):ae:=[(0,.cells (rlC R)),(1,.tree 0 0 (.aB 3 (R.st.map j8))),(2,.tree 0 0 (.aB 11 (R.fl.map bB))),(3,.tree 0 0 (.aB 7 (R.sp.map aP)))]
def qM:SM->Ky->Nat
 |[],_=>0
 |p::r,k=>if p.1=k then 0 else qM r k+1
theorem Pd:∀(m:SM) (k:Ky),qM m k<=m.length
 |[],_=>acb _
 |p::r,k=>by unfold qM;split;exact abW _;have:=Pd r k;simp only[List.length_cons];omega
theorem H8:∀{m:SM} {k:Ky} {j:Nat} {p:Ky×List Lt},m[j]?=some p->j<=qM m k->(p.1=k->qM m k=j)/\(p.1≠k->j+1<=qM m k)
 |q::r,k,0,p,h,hj=>by
  simp at h;subst h
  unfold qM
  exact⟨fun e=>if_pos e,fun e=>by rw[if_neg e];omega⟩
 |q::r,k,j+1,p,h,hj=>by
  unfold qM at hj⊢
  split at hj
  ·omega
  ·rename_i hq
   rw[if_neg hq]
   have:=H8 (m:=r) (k:=k) (j:=j) (p:=p) (by simpa using h) (by omega)
   exact⟨fun e=>by rw[this.1 e],fun e=>by have:=this.2 e;omega⟩
theorem C0:∀(m:SM) (k:Ky),aR m k=(m[qM m k]?).map (·.2)
 |[],k=>rfl
 |p::r,k=>by
  obtain⟨q,l⟩:=p
  unfold qM aR
  split
  ·simp
  ·rw[C0 r k];simp
theorem C1:∀(m:SM) (k:Ky) (l:List Lt),aS m k l=if qM m k<m.length then m.set (qM m k) (k,l)else m++[(k,l)]
 |[],k,l=>by simp[aS,qM]
 |p::r,k,l=>by
  obtain⟨q,v⟩:=p
  unfold qM aS
  split
  ·simp
  ·rw[C1 r k l]
   simp only[List.length_cons]
   by_cases h:qM r k<r.length
   ·rw[if_pos h,if_pos (by omega)];rfl
   ·rw[if_neg h,if_neg (by omega)];rfl
theorem Su{m:SM}{k:Ky}(h:qM m k<m.length):∃l,m[qM m k]?=some (k,l):=by
 have hx:=aaj h
 have:=(H8 hx (acb _))
 by_cases e:m[qM m k].1=k
 ·exact⟨m[qM m k].2,by rw[hx];exact congrArg some (Prod.ext e rfl)⟩
 ·have:=this.2 e;omega
def b5(m:SM)(k:Ky):List Lt:=(aR m k).getD []
variable [bG]
theorem find_spec(R:RL)(a i:Int)(hn:R.st.length<=100000):ar Tryz.prog 140 [.ptr 0 0,.dv (I a),.dv (I i)] 4 (dU R) 0 [.dv (I (if qM R.st (a,i)<R.st.length then(qM R.st (a,i):Int)else -1))] (dU R):=by
 refine cO Tryz.func140 rfl (by kernel_rfl) ?_
 refine⟨Nat,fun j=>⟨4,[(0,.ptr 0 0),(1,.dv (I a)),(2,.dv (I i)),(7,.dv (I j))],dU R⟩,fun j=>j<=qM R.st (a,i),fun j=>R.st.length-j,0,fun _=>rfl,jn rfl rfl rfl rfl,abW _,?_⟩
 rintro j hj
 have oH:=Pd R.st (a,i)
 refine abG ?_ ?_
 ·intro h
  have au:j<R.st.length:=by have:=abY h;rw[abH]at this;omega
  obtain⟨p,hp⟩:∃p,R.st[j]?=some p:=⟨_,aaj au⟩
  have hf:=H8 (k:=(a,i)) hp hj
  obtain⟨⟨pa,pi⟩,pl⟩:=p
  have ip:(R.st.map j8)[(j:Int).toNat]?=some (j8 ((pa,pi),pl)):=by rw[abJ];simp[hp]
  repeat first|refine g1 ?_|refine g3 ?_|refine⟨fun _=>⟨by omega,by rw[abH];omega⟩,?_⟩|refine⟨j8 ((pa,pi),pl),fun _=>ip,?_⟩
  refine abG ?_ ?_
  ·intro h
   have e:(pa,pi)=(a,i):=by
    have h:=eh h
    exact Prod.ext (beq_iff_eq.1 h.1) (beq_iff_eq.1 h.2)
   rw[hf.1 e,if_pos au]
   exact ext (by kernel_rfl) rfl rfl
  ·intro h
   have e:(pa,pi)≠(a,i):=fun e=>by
    injection e with e1 e2
    have h:(bif pa==a then pi==i else false)=false:=h
    subst e1;subst e2;simp at h
   exact⟨fun _=>⟨by omega,by omega⟩,j+1,jn rfl rfl rfl rfl,hf.2 e,mlt au⟩
 ·intro h
  have tS:R.st.length<=j:=by have:=abZ h;rw[abH]at this;omega
  rw[if_neg (by omega)]
  exact ext (by kernel_rfl) rfl rfl
theorem Pe{m:SM}{k:Ky}(h:qM m k<m.length):m[qM m k]?=some (k,b5 m k):=by
 obtain⟨l,hl⟩:=Su h
 unfold b5
 rw[C0,hl];rfl
theorem V0{m:SM}{k:Ky}(h:¬qM m k<m.length):b5 m k=[]:=by
 unfold b5
 rw[C0,List.getElem?_eq_none (by omega)];rfl
theorem ic(R:RL)(a i:Int)(hn:R.st.length<=100000):ar Tryz.prog 78 [.ptr 0 0,.dv (I a),.dv (I i)] 4 (dU R) 0 [.dv (aU (b5 R.st (a,i)))] (dU R):=by
 refine cO Tryz.func78 rfl (by kernel_rfl) ?_
 refine .inr (cl [0,1,2,3] (find_spec R a i hn) (by kernel_rfl) rfl rfl ?_)
 refine abG ?_ ?_
 ·intro h
  have h:=abY h
  have hc:¬qM R.st (a,i)<R.st.length:=fun hc=>by rw[if_pos hc]at h;omega
  rw[V0 hc]
  exact⟨_,_,⟨rfl,rfl⟩,by kernel_rfl,⟨DV.aK 3,tv⟩,bp (k:=dU R) rfl⟩
 ·intro h
  have h:=abZ h
  have hc:qM R.st (a,i)<R.st.length:=Decidable.byContradiction fun hc=>by rw[if_neg hc]at h;omega
  have hx:=Pe hc
  simp only[if_pos hc]
  refine⟨fun _=>⟨by omega,by rw[abH];omega⟩,j8 ((a,i),b5 R.st (a,i)),fun _=>by rw[abJ];simp[hx],?_⟩
  exact ext (by kernel_rfl) rfl rfl
theorem LI(R:RL)(a i:Int)(hn:R.st.length<=100000)(hl:(b5 R.st (a,i)).length<=1000000):ar Tryz.prog 47 [.ptr 0 0,.dv (I a),.dv (I i)] 4 (dU R) 0 [.dv (I (b9 (b5 R.st (a,i))))] (dU R):=by
 refine cO Tryz.func47 rfl (by kernel_rfl) ?_
 refine .inr (cl [0,1,2,3] (ic R a i hn) (by kernel_rfl) rfl rfl ?_)
 refine .inl ⟨_,fun _=>(mS _ hl).ok,?_⟩
 exact ext (by kernel_rfl) rfl rfl
end
end Go.Proofs.YtknnpcfhekkjjaaGreatDoor
