import Derived.Test.YtmojfblpbcficaaGreatDoorCM19
set_option linter.all false
open Go.TM.oA Go.TM.oB Go.TM.oC Go.TM.oD Go.TM.oE
namespace Go.Proofs.YtmojfblpbcficaaGreatDoor
set_option maxRecDepth 100000
set_option maxHeartbeats 4000000
section
open Go.TM
def cj:Int->List Lt->List Int
 |_,[]=>[]
 |n,x::r=>min n x.n::cj (n-min n x.n) r
theorem yP:∀(n:Int) (s:List Lt),(cj n s).length=s.length
 |_,[]=>rfl
 |n,x::r=>by simp[cj,yP]
theorem yQ:∀{n:Int} {s:List Lt} {i:Nat} {x:Lt},s[i]?=some x->(cj n s)[i]?=some (min (n-((cj n s).take i).sum) x.n)
 |n,y::r,0,x,h=>by simp at h;subst h;simp[cj]
 |n,y::r,i+1,x,h=>by
  have ih:=yQ (n:=n-min n y.n) (s:=r) (i:=i) (by simpa using h)
  simp only[cj,List.getElem?_cons_succ,List.take_succ_cons,List.sum_cons]
  rw[ih,<-Int.sub_sub]
theorem yR:∀{n:Int} {s:List Lt},0<=n->(∀x∈s,0<=x.n)->(∀k∈cj n s,0<=k)/\(cj n s).sum<=n/\(n<=cz s->(cj n s).sum=n)
 |n,[],h,_=>by refine⟨by simp[cj],by simpa[cj]using h,fun h2=>?_⟩;simp[cz]at h2;simp[cj];omega
 |n,x::r,h,hx=>by
  have h1:=hx x acv
  obtain⟨a1,a2,a3⟩:=yR (n:=n-min n x.n) (s:=r) (by omega) fun y hy=>hx y (acq _ hy)
  refine⟨fun k hk=>?_,by simp only[cj,List.sum_cons];omega,fun h2=>?_⟩
  ·simp only[cj,acp]at hk
   rcases hk with rfl|hk
   ·omega
   ·exact a1 k hk
  ·simp only[cz,List.map_cons,List.sum_cons]at h2 a3
   simp only[cj,List.sum_cons]
   by_cases hc:n<=x.n
   ·have:min n x.n=n:=by omega
    rw[this]at a2⊢
    have:=yD a1
    rw[show min n x.n=n by omega]at this
    omega
   ·have:=a3 (by omega)
    omega
def pI(s:List Lt)(n:Int)(mixed:Bool):List Int:=bif mixed&&decide (0<n)then zQ n (s.map (·.n))else cj n s
def tkF(p:List Lt×List Lt)(q:Lt×Int):List Lt×List Lt:=(aR p.1 ⟨q.1.f,q.1.a,q.2⟩,aR p.2 ⟨q.1.f,q.1.a+q.2,q.1.n-q.2⟩)
def mw(s:List Lt)(ks:List Int)(i:Nat):List Lt×List Lt:=((s.zip ks).take i).foldl tkF ([],[])
def fp(s:List Lt)(n:Int)(mixed:Bool):List Lt×List Lt:=mw s (pI s n mixed) s.length
def US(s:List Lt)(ks:List Int):Prop:=ks.length=s.length/\∀(i:Nat) (x:Lt),s[i]?=some x->0<=ks.getD i 0/\ks.getD i 0<=x.n
theorem pJ(s:List Lt):(s.map (·.n)).sum=cz s:=rfl
theorem w6{s:List Lt}{n:Int}(mixed:Bool)(hn:0<=n)(hs:∀x∈s,aD x=true)(ht:n<=cz s):US s (pI s n mixed):=by
 have hp:∀x∈s,0<=x.n:=fun x hx=>(l7 (hs x hx)).1
 unfold pI
 cases hc:mixed&&decide (0<n)with
 |true=>
  have h0:0<n:=by simp at hc;exact hc.2
  refine⟨by simp[Kh],fun i x hx=>?_⟩
  have hl:=(aci.1 hx).1
  have:=UM (t:=n) (ws:=s.map (·.n)) hn (fun w hw=>by obtain⟨y,hy,rfl⟩:=acL.1 hw;exact hp y hy) (by rw[pJ];omega) (by rw[pJ];exact ht) (i:=i) (by simpa using hl)
  rw[show(s.map (·.n)).getD i 0=x.n by simp[acn,hx]]at this
  exact this
 |false=>
  refine⟨yP _ _,fun i x hx=>?_⟩
  have h1:=yQ (n:=n) hx
  obtain⟨a1,a2,_⟩:=yR (s:=s) hn hp
  have h2:=sZ i a1
  have h3:=hp x (ack hx)
  show 0<=(cj n s).getD i 0/\(cj n s).getD i 0<=x.n
  rw[acn,h1]
  simp only[Option.getD_some]
  omega
theorem ic{l:List Lt}{x:Lt}(hl:∀y∈l,aD y=true)(hx:0<=x.f/\0<=x.a/\0<=x.n/\x.a+x.n<=1099511627776):∀y∈aR l x,aD y=true:=by
 have h1:=Fh (l:=l) (x:=x) (fun y hy=>(ai.1 (hl y hy)).2.2.1) hx.2.2.1
 intro y hy
 have h2:=h1 y hy
 unfold aR at hy
 split at hy
 ·exact hl y hy
 split at hy
 ·rename_i h0 z hz
  have ZN:=ai.1 (hl z (List.mem_of_getLast? hz))
  split at hy
  ·rename_i hc
   rcases acr.1 hy with h|h
   ·exact hl y (List.dropLast_subset _ h)
   ·rw[aco]at h;subst h;rw[ai];simp only;omega
  ·rcases acr.1 hy with h|h
   ·exact hl y h
   ·rw[aco]at h;subst h;rw[ai];omega
 ·rw[aco]at hy;subst hy;rw[ai];omega
theorem yS{s:List Lt}{ks:List Int}{i:Nat}{x:Lt}{k:Int}(hx:s[i]?=some x)(hk:ks[i]?=some k):mw s ks (i+1)=tkF (mw s ks i) (x,k):=by
 unfold mw
 rw[acs,List.getElem?_zip_eq_some (z:=(x,k)) |>.2 ⟨hx,hk⟩,acJ];rfl
theorem Ij{s:List Lt}{ks:List Int}(hs:∀x∈s,aD x=true)(hk:US s ks):∀i,i<=s.length->(∀y∈(mw s ks i).1,aD y=true)/\(∀y∈(mw s ks i).2,aD y=true)/\(mw s ks i).1.length<=i/\(mw s ks i).2.length<=i
 |0,_=>by simp[mw]
 |i+1,h=>by
  obtain⟨h1,h2,h3,h4⟩:=Ij hs hk i (by omega)
  obtain⟨x,hx⟩:∃x,s[i]?=some x:=⟨_,aaS (show i<s.length by omega)⟩
  obtain⟨k,D1⟩:∃k,ks[i]?=some k:=⟨_,aaS (show i<ks.length by rw[hk.1];omega)⟩
  have hb:=hk.2 i _ hx
  rw[acn,D1]at hb
  simp only[Option.getD_some]at hb
  have hp:=ai.1 (hs _ (ack hx))
  rw[yS hx D1]
  generalize mw s ks i=p at*
  refine⟨ic h1 ⟨hp.1,hp.2.1,hb.1,by simp only;omega⟩,ic h2 ⟨hp.1,by simp only;omega,by simp only;omega,by simp only;omega⟩,?_,?_⟩
  ·exact Nat.le_trans (eT p.1 _) (by omega)
  ·exact Nat.le_trans (eT p.2 _) (by omega)
variable [bp]
theorem Fv(s:List Lt)(n:Int)(mixed:Bool)(hn:0<=n/\n<=1099511627776)(hs:bH s=true)(ht:n<=cz s):aQ Tryz.prog 216 [aS s,I n,B mixed] [Ints (pI s n mixed)]:=by
 refine pO Tryz.func216 rfl (by kernel_rfl) rfl ?_
 obtain⟨hl,hp⟩:=fb hs
 have hp0:∀x∈s,0<=x.n:=fun x hx=>(l7 (hp x hx)).1
 obtain⟨a1,a2,_⟩:=yR (s:=s) hn.1 hp0
 have lT:=yP n s
 refine⟨Nat,fun i=>⟨2,[(0,.dv (aS s)),(1,.dv (I n)),(2,.dv (B mixed)),(7,.own 0 0 0 []),(8,.own 1 0 0 []),(9,.dv (I (n-((cj n s).take i).sum))),(10,.dv (I i))],[(0,.tree 0 0 (.aC 1 ((s.take i).map fun x=>I x.n))),(1,.tree 0 0 (.aC 1 (((cj n s).take i).map I)))]⟩,fun i=>i<=s.length,fun i=>s.length-i,0,fun _=>rfl,⟨⟨rf,rf,rf,⟨rfl,rfl,rfl,rfl,1,rfl⟩,⟨rfl,rfl,rfl,rfl,1,rfl⟩,aF (by simp),rf,tv⟩,⟨⟨rfl,rfl,1,rfl⟩,⟨rfl,rfl,1,rfl⟩,tv⟩,rfl,rfl⟩,acy _,?_⟩
 rintro i hi
 have c1:=sZ i a1
 refine acg ?_ ?_
 ·intro h
  have aw:i<s.length:=by have:=acA h;rw[ach]at this;omega
  have hx:=aaS aw
  generalize s[i]=x at hx
  have RN:=l7 (hp x (ack hx))
  have e1:=yQ (n:=n) hx
  have e3:=yK e1
  have f1:((s.take (i+1)).map fun x=>I x.n)=((s.take i).map fun x=>I x.n)++[I x.n]:=by rw[acs,hx];simp
  have f2:((cj n s).take (i+1)).map I=((cj n s).take i).map I++[I (min (n-((cj n s).take i).sum) x.n)]:=by rw[acs,e1];simp
  have l1:((s.take i).map fun x=>I x.n).length<=5000:=by rw[ach,acE];omega
  have l2:(((cj n s).take i).map I).length<=5000:=by rw[ach,acE];omega
  refine⟨az x,fun _=>⟨by omega,by rw[acj];simp[hx]⟩,?_⟩
  refine .inl ⟨[I x.n],rfl,⟨rf,tv⟩,(by simp;rfl),?_⟩
  refine .inr ⟨[I x.n],ca.refl _,bI (by simp only[List.length_cons,List.length_nil];omega),by simp only[List.length_cons,List.length_nil];omega,?_⟩
  refine⟨az x,fun _=>⟨by omega,by rw[acj];simp[hx]⟩,?_⟩
  have em:(if x.n<n-((cj n s).take i).sum then x.n else n-((cj n s).take i).sum)=min (n-((cj n s).take i).sum) x.n:=by split<;>omega
  refine .inl ⟨[I (min (n-((cj n s).take i).sum) x.n)],rfl,⟨aF em,tv⟩,(by simp;rfl),?_⟩
  refine .inr ⟨[I (min (n-((cj n s).take i).sum) x.n)],ca.refl _,bI (by simp only[List.length_cons,List.length_nil];omega),by simp only[List.length_cons,List.length_nil];omega,?_⟩
  exact⟨fun _=>by rw[em];omega,fun _=>by omega,i+1,⟨⟨rf,rf,rf,rfl,rfl,aF (by rw[em];omega),rf,tv⟩,⟨⟨rfl,by rw[f1]⟩,⟨rfl,by rw[f2]⟩,tv⟩,rfl,rfl⟩,by omega,mlt aw⟩
 intro h
 have he:i=s.length:=by have:=acB h;rw[ach]at this;omega
 subst he
 have eF:(cj n s).take s.length=cj n s:=List.take_of_length_le (by omega)
 simp only[acz,eF]
 repeat refine gG ?_
 refine acg ?_ ?_
 ·intro h
  have h:=c6 h
  have h0:0<n:=acA h.2
  have hm:mixed=true:=h.1
  have hc:pI s n mixed=zQ n (s.map (·.n)):=by unfold pI;rw[hm,acG h0];rfl
  have lU:=(Fq n (s.map (·.n)) hn (fun w hw=>by obtain⟨y,hy,rfl⟩:=acL.1 hw;exact l7 (hp y hy)) (by rw[ach];omega) (by rw[pJ];omega) (by rw[pJ];exact ht)).ok
  have hz:qc (.aC 1 (s.map fun x=>I x.n))=Ints (s.map (·.n)):=by
   show DV.sl 1 (yF _)=DV.sl 1 _
   rw[gm (fun _=>rfl),List.map_map];rfl
  rw[<-hz]at lU
  refine .inl (.inr ⟨_,fun _=>lU,?_⟩)
  rw[hc]
  exact⟨rf,tv⟩
 ·intro h
  have hc:pI s n mixed=cj n s:=by
   unfold pI
   have:=lZ h
   cases mixed with
   |false=>rfl
   |true=>
    have:¬0<n:=fun h0=>this ⟨rfl,acG h0⟩
    rw[acH this];rfl
  rw[hc]
  exact⟨DV.Le.of_eq (by show DV.sl 1 (yF ((cj n s).map I))=_;rw[gm (fun _=>rfl)]),tv⟩
def Fw(s:List Lt)(n:Int)(mixed:Bool):List DV:=bif decide (bZ s<n)then[aS [],aS [],I 10]else[aS (fp s n mixed).1,aS (fp s n mixed).2,I 0]
theorem S4{s:List Lt}(h:bH s=true):bZ s=cz s:=by unfold bZ;rw[h];rfl
theorem Ik(s:List Lt)(n:Int)(mixed:Bool)(hn:0<=n/\n<=1099511627776)(hs:bH s=true):aQ Tryz.prog 148 [aS s,I n,B mixed] (Fw s n mixed):=by
 refine pO Tryz.func148 rfl (by kernel_rfl) rfl ?_
 obtain⟨hl,hp⟩:=fb hs
 refine .inl ⟨_,fun _=>(gn s (by omega)).ok,?_⟩
 rw[hs]
 repeat refine gG ?_
 refine acg (fun h=>by simp at h;omega) fun _=>?_
 refine .inl ⟨_,fun _=>(mU s (by omega)).ok,?_⟩
 refine acg ?_ ?_
 ·intro h
  unfold Fw
  rw[h]
  exact⟨DV.aK 3,DV.aK 3,rf,tv⟩
 intro h
 have ht:n<=cz s:=by have:=acB h;rw[S4 hs]at this;omega
 unfold Fw
 rw[h]
 have hk:=w6 mixed hn.1 hp ht
 refine .inl ⟨_,fun _=>(Fv s n mixed hn hs ht).ok,?_⟩
 have hM:fp s n mixed=mw s (pI s n mixed) s.length:=rfl
 generalize pI s n mixed=ks at*
 refine⟨Nat,fun i=>⟨0,[(0,.dv (aS s)),(10,.dv (Ints ks)),(11,.dv (aS (mw s ks i).1)),(12,.dv (aS (mw s ks i).2)),(13,.dv (I i))],[]⟩,fun i=>i<=s.length,fun i=>s.length-i,0,fun _=>rfl,⟨⟨rf,rf,DV.aK 3,DV.aK 3,rf,tv⟩,tv,rfl,rfl⟩,acy _,?_⟩
 rintro i hi
 refine acg ?_ ?_
 ·intro h
  have aw:i<s.length:=by have:=acA h;rw[ach]at this;omega
  obtain⟨x,hx⟩:∃x,s[i]?=some x:=⟨_,aaS aw⟩
  obtain⟨k,D1⟩:∃k,ks[i]?=some k:=⟨_,aaS (show i<ks.length by rw[hk.1];omega)⟩
  have hb:=hk.2 i _ hx
  rw[acn,D1]at hb
  simp only[Option.getD_some]at hb
  have RN:=ai.1 (hp x (ack hx))
  obtain⟨p1,p2,p3,p4⟩:=Ij hp hk i (by omega)
  have eE:=yS hx D1
  generalize hq:mw s ks i=q at*
  have ab:∀{l:List Lt},(∀y∈l,aD y=true)->∀y∈l,0<=y.a/\y.a<=1099511627776/\0<=y.n/\y.n<=1099511627776:=fun h y hy=>by have:=ai.1 (h y hy);omega
  have ix:(s.map az)[(i:Int).toNat]?=some (az x):=by rw[acj];simp[hx]
  have ik:(ks.map I)[(i:Int).toNat]?=some (I k):=by rw[acj];simp[D1]
  have j5:=(pG q.1 ⟨x.f,x.a,k⟩ (by omega) (ab p1) (by simp only;omega)).ok
  have lV:=(pG q.2 ⟨x.f,x.a+k,x.n-k⟩ (by omega) (ab p2) (by simp only;omega)).ok
  refine⟨az x,fun _=>⟨by omega,ix⟩,az x,fun _=>⟨by omega,ix⟩,I k,fun _=>⟨by omega,ik⟩,?_⟩
  simp only[hq]
  refine .inl ⟨_,fun _=>j5,?_⟩
  refine⟨by kernel_rfl,?_⟩
  refine⟨az x,fun _=>⟨by omega,ix⟩,az x,fun _=>⟨by omega,ix⟩,I k,fun _=>⟨by omega,ik⟩,fun _=>by omega,az x,fun _=>⟨by omega,ix⟩,I k,fun _=>⟨by omega,ik⟩,fun _=>by omega,?_⟩
  refine .inl ⟨_,fun _=>lV,?_⟩
  exact⟨by kernel_rfl,fun _=>by omega,i+1,jn (by simp only[eE];rfl) rfl rfl rfl,by omega,mlt aw⟩
 ·intro h
  have he:i=s.length:=by have:=acB h;rw[ach]at this;omega
  subst he
  rw[hM]
  exact⟨rf,rf,rf,tv⟩
end
section
open Go.TM
def jR(l:Lt)(s:List Lt)(i:Nat):UJ:=(s.take i).foldl (wv l) ⟨[],[],l.a,l.a+l.n⟩
theorem Bl{l:Lt}{s:List Lt}{i:Nat}{x:Lt}(hx:s[i]?=some x):jR l s (i+1)=wv l (jR l s i) x:=by
 unfold jR;rw[acs,hx,acJ];rfl
structure InB(l:Lt)(i:Nat)(s:UJ):Prop where
 lo:0<=s.fr/\s.fr<=l.a
 hi:l.a+l.n<=s.to/\s.to<=1099511627776
 len:s.O3.length+s.RI.length<=i
theorem Il{l:Lt}{s:List Lt}(hs:∀x∈s,aD x=true)(hl:aD l=true):∀i,InB l i (jR l s i)
 |0=>by have:=ai.1 hl;exact⟨⟨this.2.1,Int.le_refl _⟩,⟨Int.le_refl _,this.2.2.2⟩,acN _⟩
 |i+1=>by
  obtain⟨h1,h2,h3⟩:=Il hs hl i
  cases hx:s[i]? with
  |none=>
   have:jR l s (i+1)=jR l s i:=by unfold jR;rw[acs,hx];simp
   rw[this];exact⟨h1,h2,by omega⟩
  |some x=>
   have hp:=ai.1 (hs x (ack hx))
   rw[Bl hx]
   generalize jR l s i=z at*
   unfold wv
   split
   ·exact⟨h1,h2,by simp only[acw,List.length_cons,List.length_nil];omega⟩
   split
   ·exact⟨h1,h2,by simp only[acw,List.length_cons,List.length_nil];omega⟩
   ·exact⟨by simp only;omega,by simp only;omega,by simp only;omega⟩
theorem abf(l:List Lt):∀x,x∈l.map az->x.aU:=fun x hx d hd=>by
 obtain⟨y,_,rfl⟩:=acL.1 hx
 simp only[az,DV.cells,acp,List.mem_nil_iff,or_false]at hd
 rcases hd with rfl|rfl|rfl<;>rfl
theorem Px{s:List Lt}{l:Lt}(hs:∀x∈s,aD x=true)(hl:aD l=true)(hn:NS s):(∀x∈j9 s l,aD x=true)/\(j9 s l).length<=s.length+1:=by
 have hb:=Il hs hl s.length
 have hr:j9 s l=O4 l (jR l s s.length):=by unfold j9 jR;rw[acz]
 have h0:yu l [] ⟨[],[],l.a,l.a+l.n⟩:=⟨.slnil,.slnil,fun _ h=>(by cases h),fun _ h=>(by cases h),Int.le_refl _,Int.le_refl _,fun f u=>by
  have a:¬has [] f u:=br
  exact⟨fun h=>.inr ((h.resolve_left a).resolve_left a),fun h=>.inr (.inr (h.resolve_left a))⟩⟩
 have Ui:=ai.1 hl
 have h:=yu.fold (by omega) s [] _ (by simpa using hn) h0
 simp only[List.nil_append]at h
 have e:s.foldl (wv l) ⟨[],[],l.a,l.a+l.n⟩=jR l s s.length:=by unfold jR;rw[acz]
 rw[e]at h
 rw[hr]
 generalize jR l s s.length=z at*
 obtain⟨⟨lo1,lo2⟩,⟨Nc,tL⟩,hlen⟩:=hb
 unfold O4
 refine⟨fun x hx=>?_,by simp only[acw,List.length_cons,List.length_nil];omega⟩
 rcases acr.1 hx with hx|hx
 ·rcases acr.1 hx with hx|hx
  ·exact hs x (h.bs.subset hx)
  ·rw[aco]at hx;subst hx;rw[ai];simp only;omega
 ·exact hs x (h.as.subset hx)
theorem CV{l:List Lt}(hl:∀x∈l,aD x=true):∀i,(∀x∈(l.take i).foldl j9 [],aD x=true)/\((l.take i).foldl j9 []).length<=i/\NS ((l.take i).foldl j9 [])
 |0=>⟨fun _ h=>(by cases h),acN _,NS.nil⟩
 |i+1=>by
  obtain⟨h1,h2,h3⟩:=CV hl i
  cases hx:l[i]? with
  |none=>
   have:l.take (i+1)=l.take i:=by rw[acs,hx];simp
   rw[this];exact⟨h1,by omega,h3⟩
  |some x=>
   have hp:=hl x (ack hx)
   rw[acs,hx,acJ]
   show(∀y∈j9 _ x,_)/\(j9 _ x).length<=_/\NS (j9 _ x)
   have h4:=Px h1 hp h3
   exact⟨h4.1,by omega,(Kd h3 (ai.1 hp).2.2.1).1⟩
theorem qv{l:List Lt}(hl:∀x∈l,aD x=true):(∀x∈cL l,aD x=true)/\(cL l).length<=l.length/\NS (cL l):=by
 have h:=CV hl l.length
 rw[acz]at h
 exact h
variable [bp]
def cLt(x:Lt):List AV:=[.dv (I x.f),.dv (I x.a),.dv (I x.n)]
theorem Py(s:List Lt)(l:Lt)(hs:∀x∈s,aD x=true)(hl:aD l=true)(hn:s.length<=10000):aQ Tryz.prog 213 [aS s,az l] [aS (j9 s l)]:=by
 refine pO Tryz.func213 rfl (by kernel_rfl) rfl ?_
 have Ui:=ai.1 hl
 have hN:=Il hs hl
 refine⟨fun _=>by omega,?_⟩
 refine⟨Nat,fun i=>⟨3,[(0,.dv (aS s)),(3,.ptr 0 0),(5,.own 1 0 0 []),(6,.own 2 0 0 []),(7,.dv (I (jR l s i).fr)),(8,.dv (I (jR l s i).to)),(9,.dv (I i))],[(0,.cells (cLt l)),(1,.tree 0 0 (.aC 3 ((jR l s i).O3.map az))),(2,.tree 0 0 (.aC 3 ((jR l s i).RI.map az)))]⟩,fun i=>i<=s.length,fun i=>s.length-i,0,fun _=>rfl,⟨⟨rf,rfl,⟨rfl,rfl,rfl,rfl,3,rfl⟩,⟨rfl,rfl,rfl,rfl,3,rfl⟩,rf,rf,rf,tv⟩,⟨⟨rf,rf,rf,tv⟩,⟨rfl,rfl,3,rfl⟩,⟨rfl,rfl,3,rfl⟩,tv⟩,rfl,rfl⟩,acy _,?_⟩
 rintro i hi
 have hNi:=hN i
 have dR:jR l s i=jR l s i:=rfl
 refine acg ?_ ?_
 ·intro h
  have aw:i<s.length:=by have:=acA h;rw[ach]at this;omega
  obtain⟨x,hx⟩:∃x,s[i]?=some x:=⟨_,aaS aw⟩
  have RN:=ai.1 (hs x (ack hx))
  have eE:=Bl (l:=l) hx
  have ix:(s.map az)[(i:Int).toNat]?=some (az x):=by rw[acj];simp[hx]
  refine⟨az x,fun _=>⟨by omega,ix⟩,?_⟩
  generalize hz:jR l s i=z at*
  obtain⟨bf,af,fr,to⟩:=z
  obtain⟨⟨lo1,lo2⟩,⟨Nc,tL⟩,hlen⟩:=hNi
  simp only at lo1 lo2 Nc tL hlen
  simp only[hz]
  repeat first|refine gG ?_|refine⟨fun _=>by omega,?_⟩
  have lb:∀{q:List Lt},q.length<=i->(q.map az).length<=20000:=fun h=>by rw[ach];omega
  refine acg ?_ ?_
  ·intro h
   have hc:x.f<l.f\/x.f=l.f/\x.a+x.n<fr:=by simpa using h
   have e:jR l s (i+1)=⟨bf++[x],af,fr,to⟩:=by rw[eE];unfold wv;rw[if_pos hc]
   have l1:=lb (q:=bf) (by omega)
   refine .inl ⟨[az x],rfl,⟨rf,rf,rf,tv⟩,(by simp;rfl),?_⟩
   refine .inr ⟨[az x],ca.refl _,bL (by simp only[List.length_cons,List.length_nil];omega),by simp only[List.length_cons,List.length_nil];omega,?_⟩
   exact⟨fun _=>by omega,i+1,jn (by simp only[e];rfl) (by simp only[e,acC];rfl) rfl rfl,by omega,mlt aw⟩
  intro h
  have hc:¬(x.f<l.f\/x.f=l.f/\x.a+x.n<fr):=by simpa using h
  repeat refine gG ?_
  refine acg ?_ ?_
  ·intro h
   have ya:l.f<x.f\/to<x.a:=by simpa using h
   have e:jR l s (i+1)=⟨bf,af++[x],fr,to⟩:=by rw[eE];unfold wv;rw[if_neg hc,if_pos ya]
   have l1:=lb (q:=af) (by omega)
   refine .inl ⟨[az x],rfl,⟨rf,rf,rf,tv⟩,(by simp;rfl),?_⟩
   refine .inr ⟨[az x],ca.refl _,bL (by simp only[List.length_cons,List.length_nil];omega),by simp only[List.length_cons,List.length_nil];omega,?_⟩
   exact⟨fun _=>by omega,i+1,jn (by simp only[e];rfl) (by simp only[e,acC];rfl) rfl rfl,by omega,mlt aw⟩
  ·intro h
   have ya:¬(l.f<x.f\/to<x.a):=by simpa using h
   have e:jR l s (i+1)=⟨bf,af,min fr x.a,max to (x.a+x.n)⟩:=by rw[eE];unfold wv;rw[if_neg hc,if_neg ya]
   have e1:(if x.a<fr then x.a else fr)=min fr x.a:=by split<;>omega
   have e2:(if to<x.a+x.n then x.a+x.n else to)=max to (x.a+x.n):=by split<;>omega
   refine⟨fun _=>by omega,fun _=>by omega,i+1,jn (by simp only[e,e1,e2];rfl) (by simp only[e];rfl) rfl rfl,by omega,mlt aw⟩
 ·intro h
  have he:i=s.length:=by have:=acB h;rw[ach]at this;omega
  subst he
  have hr:j9 s l=O4 l (jR l s s.length):=by unfold j9 jR;rw[acz]
  rw[hr]
  generalize hz:jR l s s.length=z at*
  obtain⟨bf,af,fr,to⟩:=z
  obtain⟨⟨lo1,lo2⟩,⟨Nc,tL⟩,hlen⟩:=hNi
  simp only at lo1 lo2 Nc tL hlen
  simp only[hz]
  have l1:(bf.map az).length<=20000:=by rw[ach];omega
  have l2:(af.map az).length<=20000:=by rw[ach];omega
  refine⟨fun _=>by omega,?_⟩
  refine .inl ⟨[az ⟨l.f,fr,to-fr⟩],rfl,⟨rf,rf,rf,tv⟩,(by simp;rfl),?_⟩
  refine .inr ⟨[az ⟨l.f,fr,to-fr⟩],ca.refl _,bL (by simp only[List.length_cons,List.length_nil];omega),by simp only[List.length_cons,List.length_nil];omega,?_⟩
  refine .inr (.inl ⟨abf af,af.map az,ca.refl _,bL (by simp only[acw,List.length_cons,List.length_nil];omega),by simp only[acw,List.length_cons,List.length_nil];omega,?_⟩)
  refine⟨?_,tv⟩
  have:=qu (bf++[(⟨l.f,fr,to-fr⟩:Lt)]++af)
  rw[acC,acC]at this
  exact this
theorem Bm(l:List Lt)(hl:l.length<=9000):aQ Tryz.prog 145 [aS l] [aS (bif bH l then cL l else[])]:=by
 refine pO Tryz.func145 rfl (by kernel_rfl) rfl ?_
 refine .inl ⟨_,fun _=>(gn l (by omega)).ok,?_⟩
 have hb:=fun h=>(fb (l:=l) h).2
 have hs:cL l=l.foldl j9 []:=rfl
 generalize bH l=v at*
 refine⟨Nat,fun i=>⟨0,[(0,.dv (aS l)),(3,.dv (aS ((l.take i).foldl j9 []))),(4,.dv (B v)),(5,.dv (I i))],[]⟩,fun i=>i<=l.length/\(v=false->i=0),fun i=>l.length-i,0,fun _=>rfl,⟨⟨rf,DV.aK 3,rf,rf,tv⟩,tv,rfl,rfl⟩,⟨acy _,fun _=>rfl⟩,?_⟩
 rintro i ⟨hi,hv⟩
 repeat refine gG ?_
 refine acg ?_ ?_
 ·intro h
  have h:=c6 h
  have Wt:v=true:=h.2
  have aw:i<l.length:=by have:=acA h.1;rw[ach]at this;omega
  obtain⟨x,hx⟩:∃x,l[i]?=some x:=⟨_,aaS aw⟩
  have hp:=hb Wt
  obtain⟨h1,h2,h3⟩:=CV hp i
  have e:(l.take (i+1)).foldl j9 []=j9 ((l.take i).foldl j9 []) x:=by rw[acs,hx,acJ];rfl
  refine⟨az x,fun _=>⟨by omega,by rw[acj];simp[hx]⟩,?_⟩
  refine .inl ⟨_,fun _=>(Py _ x h1 (hp x (ack hx)) (by omega)).ok,?_⟩
  exact⟨fun _=>by omega,i+1,jn (by simp only[e];rfl) rfl rfl rfl,⟨by omega,by simp[Wt]⟩,mlt aw⟩
 ·intro h
  have h:=lZ h
  refine⟨DV.Le.of_eq ?_,tv⟩
  cases v with
  |true=>
   have:i=l.length:=by
    have:¬(i:Int)<(l.map az).length:=fun hh=>h ⟨acG hh,rfl⟩
    rw[ach]at this;omega
   subst this
   rw[acz];rfl
  |false=>rw[hv rfl];rfl
end
section
open Go.TM
theorem L1{x y:Lt}(hx:aD x=true)(hy:aD y=true):(∀z∈gz y x,aD z=true)/\(gz y x).length<=2:=by
 have hx:=ai.1 hx
 have hy:=ai.1 hy
 obtain⟨a1,a2,_⟩:=Kf hy.2.2.1 hx.2.2.1
 refine⟨fun z hz=>?_,?_⟩
 ·have b1:=a1.pos z hz
  have b2:=a2 z hz
  rw[ai];omega
 ·unfold gz
  split
  ·simp
  ·split<;>split<;>simp
theorem Bn{l:List Lt}{y:Lt}(hl:∀x∈l,aD x=true)(hy:aD y=true):(∀z∈iO l y,aD z=true)/\(iO l y).length<=2*l.length:=by
 induction l with
 |nil=>exact⟨fun _ h=>(by cases h),acN _⟩
 |cons x l ih=>
  obtain⟨a1,a2⟩:=L1 (hl x acv) hy
  obtain⟨b1,b2⟩:=ih fun z hz=>hl z (acq _ hz)
  have e:iO (x::l) y=gz y x++iO l y:=rfl
  rw[e]
  refine⟨fun z hz=>?_,by simp only[acw,List.length_cons];omega⟩
  rcases acr.1 hz with hz|hz
  ·exact a1 z hz
  ·exact b1 z hz
def yT(l:List Lt)(y:Lt)(i:Nat):List Lt:=iO (l.take i) y
theorem L2{l:List Lt}{y x:Lt}{i:Nat}(hx:l[i]?=some x):yT l y (i+1)=yT l y i++gz y x:=by
 unfold yT iO;rw[acs,hx,List.flatMap_append];simp
def s5(x:Lt)(P:List Lt)(k:Nat):List Lt:=(P.take k).foldl iO [x]
theorem Bo{x y:Lt}{P:List Lt}{k:Nat}(hy:P[k]?=some y):s5 x P (k+1)=iO (s5 x P k) y:=by
 unfold s5;rw[acs,hy,acJ];rfl
theorem Fx{y:Lt}(hy:1<=y.n):∀{l:List Lt},NS l->(iO l y).length<=l.length+1
 |[],_=>by simp[iO]
 |x::l,h=>by
  have e:iO (x::l) y=gz y x++iO l y:=rfl
  rw[e,acw]
  by_cases hc:x.f=y.f/\y.a+y.n<x.a+x.n
  ·have qH:iO l y=l:=by
    have:∀z∈l,gz y z=[z]:=fun z hz=>by
     have:=h.head.2 z hz
     unfold zO at this
     unfold gz
     rw[if_pos (by omega)]
    clear e hc
    induction l with
    |nil=>rfl
    |cons z l ih=>
     show gz y z++iO l y=_
     have h2:=h.tail
     rw[this z acv,ih ⟨(List.pairwise_cons.2 ⟨fun w hw=>h.head.2 w (acq _ hw),h2.tail.pD⟩),fun w hw=>by
      rcases acp.1 hw with rfl|hw
      ·exact h.head.1
      ·exact h2.tail.pos w hw⟩ fun w hw=>this w (acq _ hw)]
     rfl
   rw[qH]
   have:(gz y x).length<=2:=by
    unfold gz
    split
    ·simp
    ·split<;>split<;>simp
   simp only[List.length_cons];omega
  ·have:(gz y x).length<=1:=by
    unfold gz
    split
    ·simp
    ·rw[if_neg (show¬y.a+y.n<x.a+x.n by omega)];split<;>simp
   have:=Fx hy h.tail
   simp only[List.length_cons];omega
theorem CW{x:Lt}{P:List Lt}(hx:aD x=true)(hP:∀y∈P,aD y=true):∀k,(∀z∈s5 x P k,aD z=true)/\NS (s5 x P k)/\(s5 x P k).length<=k+1
 |0=>⟨fun z hz=>by rw[show s5 x P 0=[x]from rfl,aco]at hz;subst hz;exact hx,⟨acR _ _,fun z hz=>by rw[show s5 x P 0=[x]from rfl,aco]at hz;subst hz;exact(ai.1 hx).2.2.1⟩,acN _⟩
 |k+1=>by
  obtain⟨h1,h2,h3⟩:=CW hx hP k
  cases hy:P[k]? with
  |none=>
   have:s5 x P (k+1)=s5 x P k:=by unfold s5;rw[acs,hy];simp
   rw[this];exact⟨h1,h2,by omega⟩
  |some y=>
   have hp:=hP y (ack hy)
   rw[Bo hy]
   have h4:=Fx (ai.1 hp).2.2.1 h2
   exact⟨(Bn h1 hp).1,(CO (ai.1 hp).2.2.1 h2).1,by omega⟩
def Fy(s P:List Lt)(i:Nat):List Lt:=((s.take i).flatMap fun x=>mS x P).foldl aR []
theorem s6:∀(r l:List Lt),(∀x∈r,aD x=true)->(∀x∈l,aD x=true)->(∀x∈r.foldl aR l,aD x=true)/\(r.foldl aR l).length<=l.length+r.length
 |[],l,_,h=>⟨h,acN _⟩
 |x::r,l,hr,h=>by
  have hp:=ai.1 (hr x acv)
  have h1:=ic h ⟨hp.1,hp.2.1,by omega,hp.2.2.2⟩
  have h2:=s6 r (aR l x) (fun y hy=>hr y (acq _ hy)) h1
  have h3:=eT l x
  exact⟨h2.1,by rw[List.foldl_cons,List.length_cons];omega⟩
variable [bp]
theorem L3(l:List Lt)(y:Lt)(hl:∀x∈l,aD x=true)(hy:aD y=true)(hn:l.length<=9000):aQ Tryz.prog 215 [aS l,az y] [aS (iO l y)]:=by
 refine pO Tryz.func215 rfl (by kernel_rfl) rfl ?_
 have hyp:=ai.1 hy
 refine⟨Nat,fun i=>⟨2,[(0,.dv (aS l)),(3,.ptr 0 0),(5,.own 1 0 0 []),(6,.dv (I i))],[(0,.cells (cLt y)),(1,.tree 0 0 (.aC 3 ((yT l y i).map az)))]⟩,fun i=>i<=l.length,fun i=>l.length-i,0,fun _=>rfl,⟨⟨rf,rfl,⟨rfl,rfl,rfl,rfl,3,rfl⟩,rf,tv⟩,⟨⟨rf,rf,rf,tv⟩,⟨rfl,rfl,3,rfl⟩,tv⟩,rfl,rfl⟩,acy _,?_⟩
 rintro i hi
 refine acg ?_ ?_
 ·intro h
  have aw:i<l.length:=by have:=acA h;rw[ach]at this;omega
  obtain⟨x,hx⟩:∃x,l[i]?=some x:=⟨_,aaS aw⟩
  have RN:=ai.1 (hl x (ack hx))
  have eE:=L2 (y:=y) hx
  have gB:(yT l y i).length<=2*i:=by
   have:=(Bn (l:=l.take i) (fun z hz=>hl z (List.mem_of_mem_take hz)) hy).2
   rw[acE]at this;unfold yT;omega
  have ix:(l.map az)[(i:Int).toNat]?=some (az x):=by rw[acj];simp[hx]
  generalize hz:yT l y i=z at*
  have l1:(z.map az).length<=20000:=by rw[ach];omega
  repeat first|refine gG ?_|refine⟨fun _=>by omega,?_⟩|refine⟨az x,fun _=>⟨by omega,ix⟩,?_⟩|refine⟨by kernel_rfl,?_⟩
  refine acg ?_ ?_
  ·intro h
   have hc:x.f≠y.f\/y.a+y.n<=x.a\/x.a+x.n<=y.a:=by simp at h;omega
   have e:yT l y (i+1)=z++[x]:=by rw[eE];unfold gz;rw[if_pos hc]
   refine⟨az x,fun _=>⟨by omega,ix⟩,?_⟩
   refine .inl ⟨[az x],rfl,⟨rf,rf,rf,tv⟩,(by simp;rfl),?_⟩
   refine .inr ⟨[az x],ca.refl _,bL (by simp only[List.length_cons,List.length_nil];omega),by simp only[List.length_cons,List.length_nil];omega,?_⟩
   exact⟨fun _=>by omega,i+1,jn (by simp only[e];rfl) (by simp only[e,acC];rfl) rfl rfl,by omega,mlt aw⟩
  ·intro h
   have hc:¬(x.f≠y.f\/y.a+y.n<=x.a\/x.a+x.n<=y.a):=by simp at h;omega
   have e:yT l y (i+1)=z++((if x.a<y.a then[⟨y.f,x.a,y.a-x.a⟩]else[])++(if y.a+y.n<x.a+x.n then[⟨y.f,y.a+y.n,x.a+x.n-y.a-y.n⟩]else[])):=by rw[eE];unfold gz;rw[if_neg hc]
   refine acg ?_ ?_
   ·intro h2
    have h2:=acA h2
    repeat first|refine⟨fun _=>by omega,?_⟩
    refine .inl ⟨[az ⟨y.f,x.a,y.a-x.a⟩],rfl,⟨rf,rf,rf,tv⟩,(by simp;rfl),?_⟩
    refine .inr ⟨[az ⟨y.f,x.a,y.a-x.a⟩],ca.refl _,bL (by simp only[acw,List.length_cons,List.length_nil];omega),by simp only[acw,List.length_cons,List.length_nil];omega,?_⟩
    repeat first|refine⟨fun _=>by omega,?_⟩
    refine acg ?_ ?_
    ·intro h3
     have h3:=acA h3
     rw[if_pos h2,if_pos h3]at e
     repeat first|refine⟨fun _=>by omega,?_⟩
     refine .inl ⟨[az ⟨y.f,y.a+y.n,x.a+x.n-y.a-y.n⟩],rfl,⟨rf,rf,rf,tv⟩,(by simp;rfl),?_⟩
     refine .inr ⟨[az ⟨y.f,y.a+y.n,x.a+x.n-y.a-y.n⟩],ca.refl _,bL (by simp only[acw,List.length_cons,List.length_nil];omega),by simp only[acw,List.length_cons,List.length_nil];omega,?_⟩
     exact⟨fun _=>by omega,i+1,jn (by simp only[e];rfl) (by simp only[e,acC,List.append_nil,List.nil_append,acK];rfl) rfl rfl,by omega,mlt aw⟩
    ·intro h3
     have h3:=acB h3
     rw[if_pos h2,if_neg h3]at e
     exact⟨fun _=>by omega,i+1,jn (by simp only[e];rfl) (by simp only[e,acC,List.append_nil,List.nil_append,acK];rfl) rfl rfl,by omega,mlt aw⟩
   ·intro h2
    have h2:=acB h2
    repeat first|refine⟨fun _=>by omega,?_⟩
    refine acg ?_ ?_
    ·intro h3
     have h3:=acA h3
     rw[if_neg h2,if_pos h3]at e
     repeat first|refine⟨fun _=>by omega,?_⟩
     refine .inl ⟨[az ⟨y.f,y.a+y.n,x.a+x.n-y.a-y.n⟩],rfl,⟨rf,rf,rf,tv⟩,(by simp;rfl),?_⟩
     refine .inr ⟨[az ⟨y.f,y.a+y.n,x.a+x.n-y.a-y.n⟩],ca.refl _,bL (by simp only[acw,List.length_cons,List.length_nil];omega),by simp only[acw,List.length_cons,List.length_nil];omega,?_⟩
     exact⟨fun _=>by omega,i+1,jn (by simp only[e];rfl) (by simp only[e,acC,List.append_nil,List.nil_append,acK];rfl) rfl rfl,by omega,mlt aw⟩
    ·intro h3
     have h3:=acB h3
     rw[if_neg h2,if_neg h3]at e
     exact⟨fun _=>by omega,i+1,jn (by simp only[e];rfl) (by simp only[e,acC,List.append_nil,List.nil_append,acK];rfl) rfl rfl,by omega,mlt aw⟩
 ·intro h
  have he:i=l.length:=by have:=acB h;rw[ach]at this;omega
  subst he
  have:yT l y l.length=iO l y:=by unfold yT;rw[acz]
  rw[this]
  exact⟨qu _,tv⟩
end
section
open Go.TM
theorem Fz{s P:List Lt}{i:Nat}{x:Lt}(hx:s[i]?=some x):Fy s P (i+1)=(mS x P).foldl aR (Fy s P i):=by
 unfold Fy;rw[acs,hx,List.flatMap_append,acJ];simp
theorem yU(x:Lt)(P:List Lt):s5 x P P.length=mS x P:=by unfold s5 mS;rw[acz]
theorem yV{s P:List Lt}(hs:∀x∈s,aD x=true)(hP:∀y∈P,aD y=true):∀i,(∀x∈Fy s P i,aD x=true)/\(Fy s P i).length<=i*(P.length+1)
 |0=>⟨fun _ h=>(by cases h),by simp[Fy]⟩
 |i+1=>by
  obtain⟨h1,h2⟩:=yV hs hP i
  have em:(i+1)*(P.length+1)=i*(P.length+1)+(P.length+1):=Nat.succ_mul ..
  cases hx:s[i]? with
  |none=>
   have:Fy s P (i+1)=Fy s P i:=by unfold Fy;rw[acs,hx];simp
   rw[this];exact⟨h1,by omega⟩
  |some x=>
   have hp:=hs x (ack hx)
   obtain⟨r1,r2,r3⟩:=CW hp hP P.length
   rw[yU]at r1 r3
   rw[Fz hx]
   have:=s6 _ _ r1 h1
   exact⟨this.1,by omega⟩
theorem ZO(l:List Lt):(((l.map az).length:Int)==0)=decide (l=[]):=by
 cases l with
 |nil=>rfl
 |cons x l=>
  have h:(((((x::l).map az).length:Nat):Int)==0)=false:=by
   rw[beq_eq_false_iff_ne,ach,List.length_cons];omega
  rw[h,acH (by simp)]
variable [bp]
def Im(s P:List Lt):List Lt:=bif bH s&&bH P then mu s P else[]
theorem s7(s P:List Lt)(hs:s.length<=5000)(hP:P.length<=5000)(bz:s.length*(P.length+1)<=90000):aQ Tryz.prog 147 [aS s,aS P] [aS (Im s P)]:=by
 refine pO Tryz.func147 rfl (by kernel_rfl) rfl ?_
 refine .inl ⟨_,fun _=>(gn s (by omega)).ok,?_⟩
 refine .inl ⟨_,fun _=>(gn P (by omega)).ok,?_⟩
 repeat refine gG ?_
 refine acg ?_ ?_
 ·intro h
  have:Im s P=[]:=by
   unfold Im
   have h:(bif !bH s then true else !bH P)=true:=h
   cases hv:bH s<;>cases dU:bH P<;>rw[hv,dU]at h<;>first|rfl|cases h
  rw[this]
  exact⟨DV.aK 3,tv⟩
 intro h
 have hv:bH s=true/\bH P=true:=by
  have h:(bif !bH s then true else !bH P)=false:=h
  cases hv:bH s<;>cases dU:bH P<;>rw[hv,dU]at h<;>first|exact⟨rfl,rfl⟩|cases h
 have lU:=(fb hv.1).2
 have hPp:=(fb hv.2).2
 have he:Im s P=Fy s P s.length:=by unfold Im Fy mu;rw[hv.1,hv.2,acz];rfl
 rw[he]
 clear he h hv
 refine⟨Nat,fun i=>⟨0,[(0,.dv (aS s)),(1,.dv (aS P)),(7,.dv (aS (Fy s P i))),(8,.dv (I i))],[]⟩,fun i=>i<=s.length,fun i=>s.length-i,0,fun _=>rfl,⟨⟨rf,rf,DV.aK 3,rf,tv⟩,tv,rfl,rfl⟩,acy _,?_⟩
 rintro i hi
 refine acg ?_ ?_
 ·intro h
  have aw:i<s.length:=by have:=acA h;rw[ach]at this;omega
  obtain⟨x,hx⟩:∃x,s[i]?=some x:=⟨_,aaS aw⟩
  have RN:=lU x (ack hx)
  have eE:=Fz (P:=P) hx
  obtain⟨w1,w2⟩:=yV lU hPp i
  have hR:=CW RN hPp
  have hmul:i*(P.length+1)<=s.length*(P.length+1):=acO _ (by omega)
  generalize hW:Fy s P i=W at*
  refine⟨az x,fun _=>⟨by omega,by rw[acj];simp[hx]⟩,?_⟩
  refine .inl ⟨[az x],rfl,⟨rf,rf,rf,tv⟩,(by simp;rfl),?_⟩
  refine⟨Nat,fun k=>⟨0,[(0,.dv (aS s)),(1,.dv (aS P)),(7,.dv (aS W)),(8,.dv (I i)),(9,.dv (aS (s5 x P k))),(10,.dv (I k))],[]⟩,fun k=>k<=P.length,fun k=>P.length-k,0,fun _=>rfl,jn (by simp only[hW];rfl) rfl rfl rfl,acy _,?_⟩
  rintro k hk
  refine acg ?_ ?_
  ·intro h
   have Nd:k<P.length:=by have:=acA h;rw[ach]at this;omega
   obtain⟨y,hy⟩:∃y,P[k]?=some y:=⟨_,aaS Nd⟩
   obtain⟨r1,r2,r3⟩:=hR k
   have e:=Bo (x:=x) hy
   refine⟨az y,fun _=>⟨by omega,by rw[acj];simp[hy]⟩,?_⟩
   refine .inl ⟨_,fun _=>(L3 _ y r1 (hPp y (ack hy)) (by omega)).ok,?_⟩
   exact⟨fun _=>by omega,k+1,jn (by simp only[e];rfl) rfl rfl rfl,by omega,mlt Nd⟩
  intro h
  have he:k=P.length:=by have:=acB h;rw[ach]at this;omega
  subst he
  obtain⟨r1,r2,r3⟩:=hR P.length
  simp only[yU]
  rw[yU]at r1 r3
  generalize mS x P=R at*
  have hK:=fun q=>s6 (R.take q) W (fun z hz=>r1 z (List.mem_of_mem_take hz)) w1
  refine⟨Nat,fun q=>⟨0,[(0,.dv (aS s)),(1,.dv (aS P)),(7,.dv (aS ((R.take q).foldl aR W))),(8,.dv (I i)),(9,.dv (aS R)),(11,.dv (I q))],[]⟩,fun q=>q<=R.length,fun q=>R.length-q,0,fun _=>rfl,jn rfl rfl rfl rfl,acy _,?_⟩
  rintro q hq
  refine acg ?_ ?_
  ·intro h
   have hqt:q<R.length:=by have:=acA h;rw[ach]at this;omega
   obtain⟨y,hy⟩:∃y,R[q]?=some y:=⟨_,aaS hqt⟩
   have hyp:=ai.1 (r1 y (ack hy))
   obtain⟨k1,k2⟩:=hK q
   rw[acE]at k2
   have e:(R.take (q+1)).foldl aR W=aR ((R.take q).foldl aR W) y:=by rw[acs,hy,acJ];rfl
   refine⟨az y,fun _=>⟨by omega,by rw[acj];simp[hy]⟩,?_⟩
   refine .inl ⟨_,fun _=>(pG _ y (by omega) (fun z hz=>by have:=ai.1 (k1 z hz);omega) (by omega)).ok,?_⟩
   exact⟨fun _=>by omega,q+1,jn (by simp only[e];rfl) rfl rfl rfl,by omega,mlt hqt⟩
  ·intro h
   have he:q=R.length:=by have:=acB h;rw[ach]at this;omega
   subst he
   refine⟨fun _=>by omega,i+1,jn (by simp only[eE,acz];rfl) rfl rfl rfl,by omega,mlt aw⟩
 ·intro h
  have he:i=s.length:=by have:=acB h;rw[ach]at this;omega
  subst he
  exact⟨rf,tv⟩
def kr(l:List Lt):List Lt:=bif bH l then cL l else[]
def uL(a b:List Lt):List Lt:=Im (kr a) b
def qK(a b:List Lt):Bool:=bH a&&bH b&&decide (uL a b=[])
theorem pK(l:List Lt):(kr l).length<=l.length/\∀x∈kr l,aD x=true:=by
 unfold kr
 cases hv:bH l with
 |true=>have:=qv (fb hv).2;exact⟨this.2.1,this.1⟩
 |false=>exact⟨acy _,fun _ h=>(by cases h)⟩
theorem rS(a b:List Lt)(ha:a.length<=5000)(hb:b.length<=5000)(bz:a.length*(b.length+1)<=90000):aQ Tryz.prog 214 [aS a,aS b] [aS (uL a b)]:=by
 refine pO Tryz.func214 rfl (by kernel_rfl) rfl ?_
 have hl:=(pK a).1
 have hm:(kr a).length*(b.length+1)<=a.length*(b.length+1):=acO _ hl
 refine .inl ⟨_,fun _=>(Bm a (by omega)).ok,?_⟩
 refine .inl ⟨_,fun _=>(s7 (kr a) b (by omega) hb (by omega)).ok,?_⟩
 exact⟨rf,tv⟩
theorem vG(a b:List Lt)(ha:a.length<=5000)(hb:b.length<=5000)(bz:a.length*(b.length+1)<=90000):aQ Tryz.prog 146 [aS a,aS b] [B (qK a b)]:=by
 refine pO Tryz.func146 rfl (by kernel_rfl) rfl ?_
 refine .inl ⟨_,fun _=>(gn a (by omega)).ok,?_⟩
 refine .inl ⟨_,fun _=>(gn b (by omega)).ok,?_⟩
 repeat refine gG ?_
 refine .inl ⟨_,fun _=>(rS a b ha hb bz).ok,?_⟩
 repeat refine gG ?_
 refine⟨DV.Le.of_eq ?_,tv⟩
 show DV.bool (bif bif bH a then bH b else false then(((uL a b).map az).length:Int)==0 else false)=B (qK a b)
 unfold qK
 rw[ZO]
 cases bH a<;>cases bH b<;>rfl
theorem S5{s P:List Lt}(hs:∀x∈s,aD x=true):(Im s P).length<=s.length*(P.length+1):=by
 unfold Im
 cases hv:bH s&&bH P with
 |true=>
  rw[acU]at hv
  have:=(yV hs (fb hv.2).2 s.length).2
  unfold Fy at this
  rw[acz]at this
  exact this
 |false=>exact acy _
def Ak(a b:List Lt):List Lt:=bif bH b then uL a (uL a b)else[]
theorem Bp(a b:List Lt)(ha:a.length<=5000)(hb:b.length<=5000)(bz:a.length*(b.length+1)<=5000)(ab6:a.length*(a.length*(b.length+1)+1)<=90000):aQ Tryz.prog 217 [aS a,aS b] [aS (Ak a b)]:=by
 refine pO Tryz.func217 rfl (by kernel_rfl) rfl ?_
 refine .inl ⟨_,fun _=>(gn b (by omega)).ok,?_⟩
 unfold Ak
 refine acg ?_ ?_
 ·intro h
  have h:bH b=false:=by simpa using h
  rw[h]
  exact⟨DV.aK 3,tv⟩
 ·intro h
  have h:bH b=true:=by simpa using h
  rw[h]
  have h1:=pK a
  have h2:=S5 (P:=b) h1.2
  have h3:(kr a).length*(b.length+1)<=a.length*(b.length+1):=acO _ h1.1
  have h4:a.length*((uL a b).length+1)<=a.length*(a.length*(b.length+1)+1):=Nat.mul_le_mul_left _ (by unfold uL;omega)
  refine .inl ⟨_,fun _=>(rS a b ha hb (by omega)).ok,?_⟩
  refine .inl ⟨_,fun _=>(rS a (uL a b) ha (by unfold uL;omega) (by omega)).ok,?_⟩
  exact⟨rf,tv⟩
end
section
open Go.TM
structure di where
 fr:Int
 to:Int
 it:Int
 n:Int
 ps:List Lt
structure cM where
 id:Int
 kind:Int
 je:Int
 tick:Int
 aL:Int
 times:Int
 mv:List di
structure gC where
 id:Int
 step:Int
 kind:Int
 tick:Int
 je:Int
 fr:Int
 to:Int
 it:Int
 n:Int
 ps:List Lt
 md:List Int
abbrev Ky:=Int×Int
abbrev SM:=List (Ky×List Lt)
def aq(m:di):DV:=.agg [I m.fr,I m.to,I m.it,I m.n,aS m.ps]
def aO(s:cM):DV:=.agg [I s.id,I s.kind,I s.je,I s.tick,I s.aL,I s.times,.sl 5 (s.mv.map aq)]
def aM(f:gC):DV:=.agg [I f.id,I f.step,I f.kind,I f.tick,I f.je,I f.fr,I f.to,I f.it,I f.n,aS f.ps,Ints f.md]
def iA(p:Ky×List Lt):DV:=.agg [I p.1.1,I p.1.2,aS p.2]
structure RL where
 sh:Int
 st:SM
 fl:List gC
 sp:List cM
structure S6 where
 nm:ByteArray
 sp:Bool
 lv:Int
 tm:Int
 ch:Int
 of:Int
 tk:List Ky
 gv:List Ky
 bk:List Ky
def fq(p:Ky):DV:=.agg [I p.1,I p.2]
def gU(r:S6):DV:=.agg [.str r.nm,B r.sp,I r.lv,I r.tm,I r.ch,I r.of,.sl 2 (r.tk.map fq),.sl 2 (r.gv.map fq),.sl 2 (r.bk.map fq)]
def dV:List S6:=[⟨⟨⟨[100,105,103]⟩⟩,true,0,0,1,1,[],[(1,4),(2,3)],[]⟩,⟨⟨⟨[115,109,101,108,116]⟩⟩,false,2,5,2,3,[(1,2),(2,1)],[(3,1)],[(1,1)]⟩,
 ⟨⟨⟨[102,111,114,103,101]⟩⟩,false,3,10,1,1,[(3,3)],[(4,1)],[]⟩,⟨⟨⟨[115,99,114,97,112]⟩⟩,false,0,1,1,1,[(4,1)],[(3,3)],[]⟩,⟨⟨⟨[115,101,108,108]⟩⟩,false,0,1,1,1,[(3,1)],[(0,7)],[]⟩]
abbrev iP:List DV:=[.sl 7 (CR (I 2) (I 20)),.sl 9 (dV.map gU),UN,Pg]
def rlC(R:RL):List AV:=.dv (I R.sh)::eV iP++[.own 1 0 0 [],.own 2 0 0 [],.own 3 0 0 []]
def dr(R:RL):ae:=[(0,.cells (rlC R)),(1,.tree 0 0 (.aC 3 (R.st.map iA))),(2,.tree 0 0 (.aC 11 (R.fl.map aM))),(3,.tree 0 0 (.aC 7 (R.sp.map aO)))]
def qW:SM->Ky->Nat
 |[],_=>0
 |p::r,k=>if p.1=k then 0 else qW r k+1
theorem Pz:∀(m:SM) (k:Ky),qW m k<=m.length
 |[],_=>acN _
 |p::r,k=>by unfold qW;split;exact acy _;have:=Pz r k;simp only[List.length_cons];omega
theorem Io:∀{m:SM} {k:Ky} {j:Nat} {p:Ky×List Lt},m[j]?=some p->j<=qW m k->(p.1=k->qW m k=j)/\(p.1≠k->j+1<=qW m k)
 |q::r,k,0,p,h,hj=>by
  simp at h;subst h
  unfold qW
  exact⟨fun e=>if_pos e,fun e=>by rw[if_neg e];omega⟩
 |q::r,k,j+1,p,h,hj=>by
  unfold qW at hj⊢
  split at hj
  ·omega
  ·rename_i hq
   rw[if_neg hq]
   have:=Io (m:=r) (k:=k) (j:=j) (p:=p) (by simpa using h) (by omega)
   exact⟨fun e=>by rw[this.1 e],fun e=>by have:=this.2 e;omega⟩
theorem CX:∀(m:SM) (k:Ky),aW m k=(m[qW m k]?).map (·.2)
 |[],k=>rfl
 |p::r,k=>by
  obtain⟨q,l⟩:=p
  unfold qW aW
  split
  ·simp
  ·rw[CX r k];simp
theorem CY:∀(m:SM) (k:Ky) (l:List Lt),aI m k l=if qW m k<m.length then m.set (qW m k) (k,l)else m++[(k,l)]
 |[],k,l=>by simp[aI,qW]
 |p::r,k,l=>by
  obtain⟨q,v⟩:=p
  unfold qW aI
  split
  ·simp
  ·rw[CY r k l]
   simp only[List.length_cons]
   by_cases h:qW r k<r.length
   ·rw[if_pos h,if_pos (by omega)];rfl
   ·rw[if_neg h,if_neg (by omega)];rfl
theorem S7{m:SM}{k:Ky}(h:qW m k<m.length):∃l,m[qW m k]?=some (k,l):=by
 have hx:=aaS h
 have:=(Io hx (acN _))
 by_cases e:m[qW m k].1=k
 ·exact⟨m[qW m k].2,by rw[hx];exact congrArg some (Prod.ext e rfl)⟩
 ·have:=this.2 e;omega
def bP(m:SM)(k:Ky):List Lt:=(aW m k).getD []
variable [bp]
theorem find_spec(R:RL)(a i:Int)(hn:R.st.length<=100000):ao Tryz.prog 95 [.ptr 0 0,.dv (I a),.dv (I i)] 4 (dr R) 0 [.dv (I (if qW R.st (a,i)<R.st.length then(qW R.st (a,i):Int)else -1))] (dr R):=by
 refine cO Tryz.func95 rfl (by kernel_rfl) ?_
 refine⟨Nat,fun j=>⟨4,[(0,.ptr 0 0),(1,.dv (I a)),(2,.dv (I i)),(7,.dv (I j))],dr R⟩,fun j=>j<=qW R.st (a,i),fun j=>R.st.length-j,0,fun _=>rfl,jn rfl rfl rfl rfl,acy _,?_⟩
 rintro j hj
 have lT:=Pz R.st (a,i)
 refine acg ?_ ?_
 ·intro h
  have aw:j<R.st.length:=by have:=acA h;rw[ach]at this;omega
  obtain⟨p,hp⟩:∃p,R.st[j]?=some p:=⟨_,aaS aw⟩
  have hf:=Io (k:=(a,i)) hp hj
  obtain⟨⟨pa,pi⟩,pl⟩:=p
  have ip:(R.st.map iA)[(j:Int).toNat]?=some (iA ((pa,pi),pl)):=by rw[acj];simp[hp]
  repeat first|refine g1 ?_|refine g3 ?_|refine⟨fun _=>⟨by omega,by rw[ach];omega⟩,?_⟩|refine⟨iA ((pa,pi),pl),fun _=>ip,?_⟩
  refine acg ?_ ?_
  ·intro h
   have e:(pa,pi)=(a,i):=by
    have h:=c6 h
    exact Prod.ext (beq_iff_eq.1 h.1) (beq_iff_eq.1 h.2)
   rw[hf.1 e,if_pos aw]
   exact ext (by kernel_rfl) rfl rfl
  ·intro h
   have e:(pa,pi)≠(a,i):=fun e=>by
    injection e with e1 e2
    have h:(bif pa==a then pi==i else false)=false:=h
    subst e1;subst e2;simp at h
   exact⟨fun _=>by omega,j+1,jn rfl rfl rfl rfl,hf.2 e,mlt aw⟩
 ·intro h
  have AI:R.st.length<=j:=by have:=acB h;rw[ach]at this;omega
  rw[if_neg (by omega)]
  exact ext (by kernel_rfl) rfl rfl
theorem PA{m:SM}{k:Ky}(h:qW m k<m.length):m[qW m k]?=some (k,bP m k):=by
 obtain⟨l,hl⟩:=S7 h
 unfold bP
 rw[CX,hl];rfl
theorem Wz{m:SM}{k:Ky}(h:¬qW m k<m.length):bP m k=[]:=by
 unfold bP
 rw[CX,List.getElem?_eq_none (by omega)];rfl
theorem ij(R:RL)(a i:Int)(hn:R.st.length<=100000):ao Tryz.prog 56 [.ptr 0 0,.dv (I a),.dv (I i)] 4 (dr R) 0 [.dv (aS (bP R.st (a,i)))] (dr R):=by
 refine cO Tryz.func56 rfl (by kernel_rfl) ?_
 refine .inr (cl [0,1,2,3] (find_spec R a i hn) (by kernel_rfl) rfl rfl ?_)
 refine acg ?_ ?_
 ·intro h
  have h:=acA h
  have hc:¬qW R.st (a,i)<R.st.length:=fun hc=>by rw[if_pos hc]at h;omega
  rw[Wz hc]
  exact⟨_,_,⟨rfl,rfl⟩,by kernel_rfl,⟨DV.aK 3,tv⟩,aX (k:=dr R) rfl⟩
 ·intro h
  have h:=acB h
  have hc:qW R.st (a,i)<R.st.length:=Decidable.byContradiction fun hc=>by rw[if_neg hc]at h;omega
  have hx:=PA hc
  simp only[if_pos hc]
  refine⟨fun _=>⟨by omega,by rw[ach];omega⟩,iA ((a,i),bP R.st (a,i)),fun _=>by rw[acj];simp[hx],?_⟩
  exact ext (by kernel_rfl) rfl rfl
theorem L4(R:RL)(a i:Int)(hn:R.st.length<=100000)(hl:(bP R.st (a,i)).length<=1000000):ao Tryz.prog 44 [.ptr 0 0,.dv (I a),.dv (I i)] 4 (dr R) 0 [.dv (I (bZ (bP R.st (a,i))))] (dr R):=by
 refine cO Tryz.func44 rfl (by kernel_rfl) ?_
 refine .inr (cl [0,1,2,3] (ij R a i hn) (by kernel_rfl) rfl rfl ?_)
 refine .inl ⟨_,fun _=>(mU _ hl).ok,?_⟩
 exact ext (by kernel_rfl) rfl rfl
end
end Go.Proofs.YtmojfblpbcficaaGreatDoor
