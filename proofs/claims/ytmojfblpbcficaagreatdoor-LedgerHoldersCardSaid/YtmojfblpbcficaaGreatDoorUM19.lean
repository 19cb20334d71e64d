import Derived.Test.YtmojfblpbcficaaGreatDoorUM18
set_option linter.all false
open Go.TM.oA Go.TM.oB Go.TM.oC Go.TM.oD Go.TM.oE
namespace Go.Proofs.YtmojfblpbcficaaGreatDoor
set_option maxRecDepth 100000
set_option maxHeartbeats 4000000
section
open Go.TM
def cu:Int->List Lt->List Int
 |_,[]=>[]
 |n,x::r=>min n x.n::cu (n-min n x.n) r
theorem zk:∀(n:Int) (s:List Lt),(cu n s).length=s.length
 |_,[]=>rfl
 |n,x::r=>by simp[cu,zk]
theorem zm:∀{n:Int} {s:List Lt} {i:Nat} {x:Lt},s[i]?=some x->(cu n s)[i]?=some (min (n-((cu n s).take i).sum) x.n)
 |n,y::r,0,x,h=>by simp at h;subst h;simp[cu]
 |n,y::r,i+1,x,h=>by
  have ih:=zm (n:=n-min n y.n) (s:=r) (i:=i) (by simpa using h)
  simp only[cu,List.getElem?_cons_succ,List.take_succ_cons,List.sum_cons]
  rw[ih,<-Int.sub_sub]
theorem zn:∀{n:Int} {s:List Lt},0<=n->(∀x∈s,0<=x.n)->(∀k∈cu n s,0<=k)/\(cu n s).sum<=n/\(n<=b8 s->(cu n s).sum=n)
 |n,[],h,_=>by refine⟨by simp[cu],by simpa[cu]using h,fun h2=>?_⟩;simp[b8]at h2;simp[cu];omega
 |n,x::r,h,hx=>by
  have h1:=hx x adu
  obtain⟨a1,a2,a3⟩:=zn (n:=n-min n x.n) (s:=r) (by omega) fun y hy=>hx y (adq _ hy)
  refine⟨fun k hk=>?_,by simp only[cu,List.sum_cons];omega,fun h2=>?_⟩
  ·simp only[cu,adp]at hk
   rcases hk with rfl|hk
   ·omega
   ·exact a1 k hk
  ·simp only[b8,List.map_cons,List.sum_cons]at h2 a3
   simp only[cu,List.sum_cons]
   by_cases hc:n<=x.n
   ·have:min n x.n=n:=by omega
    rw[this]at a2⊢
    have:=y4 a1
    rw[show min n x.n=n by omega]at this
    omega
   ·have:=a3 (by omega)
    omega
def pg(s:List Lt)(n:Int)(mixed:Bool):List Int:=bif mixed&&decide (0<n)then Ar n (s.map (·.n))else cu n s
def XO(p:List Lt×List Lt)(q:Lt×Int):List Lt×List Lt:=(aR p.1 ⟨q.1.f,q.1.a,q.2⟩,aR p.2 ⟨q.1.f,q.1.a+q.2,q.1.n-q.2⟩)
def mA(s:List Lt)(ks:List Int)(i:Nat):List Lt×List Lt:=((s.zip ks).take i).foldl XO ([],[])
def eP(s:List Lt)(n:Int)(mixed:Bool):List Lt×List Lt:=mA s (pg s n mixed) s.length
def VV(s:List Lt)(ks:List Int):Prop:=ks.length=s.length/\∀(i:Nat) (x:Lt),s[i]?=some x->0<=ks.getD i 0/\ks.getD i 0<=x.n
theorem qc(s:List Lt):(s.map (·.n)).sum=b8 s:=rfl
theorem tA{s:List Lt}{n:Int}(mixed:Bool)(hn:0<=n)(hs:∀x∈s,az x=true)(ht:n<=b8 s):VV s (pg s n mixed):=by
 have hp:∀x∈s,0<=x.n:=fun x hx=>(j5 (hs x hx)).1
 unfold pg
 cases hc:mixed&&decide (0<n)with
 |true=>
  have h0:0<n:=by simp at hc;exact hc.2
  refine⟨by simp[Lm],fun i x hx=>?_⟩
  have hl:=(W8.1 hx).1
  have:=VP (t:=n) (ws:=s.map (·.n)) hn (fun w hw=>by obtain⟨y,hy,rfl⟩:=adK.1 hw;exact hp y hy) (by rw[qc];omega) (by rw[qc];exact ht) (i:=i) (by simpa using hl)
  rw[show(s.map (·.n)).getD i 0=x.n by simp[acb,hx]]at this
  exact this
 |false=>
  refine⟨zk _ _,fun i x hx=>?_⟩
  have h1:=zm (n:=n) hx
  obtain⟨a1,a2,_⟩:=zn (s:=s) hn hp
  have h2:=tx i a1
  have h3:=hp x (ab6 hx)
  show 0<=(cu n s).getD i 0/\(cu n s).getD i 0<=x.n
  rw[acb,h1]
  simp only[Option.getD_some]
  omega
theorem iJ{l:List Lt}{x:Lt}(hl:∀y∈l,az y=true)(hx:0<=x.f/\0<=x.a/\0<=x.n/\x.a+x.n<=1099511627776):∀y∈aR l x,az y=true:=by
 have h1:=FZ (l:=l) (x:=x) (fun y hy=>(ai.1 (hl y hy)).2.2.1) hx.2.2.1
 intro y hy
 have h2:=h1 y hy
 unfold aR at hy
 split at hy
 ·exact hl y hy
 split at hy
 ·rename_i h0 z hz
  have hzp:=ai.1 (hl z (List.mem_of_getLast? hz))
  split at hy
  ·rename_i hc
   rcases adr.1 hy with h|h
   ·exact hl y (List.dropLast_subset _ h)
   ·rw[ado]at h;subst h;rw[ai];simp only;omega
  ·rcases adr.1 hy with h|h
   ·exact hl y h
   ·rw[ado]at h;subst h;rw[ai];omega
 ·rw[ado]at hy;subst hy;rw[ai];omega
theorem zo{s:List Lt}{ks:List Int}{i:Nat}{x:Lt}{k:Int}(hx:s[i]?=some x)(hk:ks[i]?=some k):mA s ks (i+1)=XO (mA s ks i) (x,k):=by
 unfold mA
 rw[ads,List.getElem?_zip_eq_some (z:=(x,k)) |>.2 ⟨hx,hk⟩,adI];rfl
theorem Ja{s:List Lt}{ks:List Int}(hs:∀x∈s,az x=true)(hk:VV s ks):∀i,i<=s.length->(∀y∈(mA s ks i).1,az y=true)/\(∀y∈(mA s ks i).2,az y=true)/\(mA s ks i).1.length<=i/\(mA s ks i).2.length<=i
 |0,_=>by simp[mA]
 |i+1,h=>by
  obtain⟨h1,h2,h3,h4⟩:=Ja hs hk i (by omega)
  obtain⟨x,hx⟩:∃x,s[i]?=some x:=⟨_,IF (show i<s.length by omega)⟩
  obtain⟨k,Ga⟩:∃k,ks[i]?=some k:=⟨_,IF (show i<ks.length by rw[hk.1];omega)⟩
  have hb:=hk.2 i _ hx
  rw[acb,Ga]at hb
  simp only[Option.getD_some]at hb
  have hp:=ai.1 (hs _ (ab6 hx))
  rw[zo hx Ga]
  generalize mA s ks i=p at*
  refine⟨iJ h1 ⟨hp.1,hp.2.1,hb.1,by simp only;omega⟩,iJ h2 ⟨hp.1,by simp only;omega,by simp only;omega,by simp only;omega⟩,?_,?_⟩
  ·exact Nat.le_trans (fh p.1 _) (by omega)
  ·exact Nat.le_trans (fh p.2 _) (by omega)
variable [bp]
theorem Gb(s:List Lt)(n:Int)(mixed:Bool)(hn:0<=n/\n<=1099511627776)(hs:bB s=true)(ht:n<=b8 s):aN Tryz.prog 216 [aM s,I n,B mixed] [Ints (pg s n mixed)]:=by
 refine pO Tryz.func216 rfl (by kernel_rfl) rfl ?_
 obtain⟨hl,hp⟩:=eU hs
 have hp0:∀x∈s,0<=x.n:=fun x hx=>(j5 (hp x hx)).1
 obtain⟨a1,a2,_⟩:=zn (s:=s) hn.1 hp0
 have kP:=zk n s
 refine⟨Nat,fun i=>⟨2,[(0,.dv (aM s)),(1,.dv (I n)),(2,.dv (B mixed)),(7,.own 0 0 0 []),(8,.own 1 0 0 []),(9,.dv (I (n-((cu n s).take i).sum))),(10,.dv (I i))],[(0,.tree 0 0 (.aD 1 ((s.take i).map fun x=>I x.n))),(1,.tree 0 0 (.aD 1 (((cu n s).take i).map I)))]⟩,fun i=>i<=s.length,fun i=>s.length-i,0,fun _=>rfl,⟨⟨rf,rf,rf,⟨rfl,rfl,rfl,rfl,1,rfl⟩,⟨rfl,rfl,rfl,rfl,1,rfl⟩,aJ (by simp),rf,tv⟩,⟨⟨rfl,rfl,1,rfl⟩,⟨rfl,rfl,1,rfl⟩,tv⟩,rfl,rfl⟩,adx _,?_⟩
 rintro i hi
 have c1:=tx i a1
 refine T5 ?_ ?_
 ·intro h
  have au:i<s.length:=by have:=adz h;rw[WY]at this;omega
  have hx:=IF au
  generalize s[i]=x at hx
  have SP:=j5 (hp x (ab6 hx))
  have e1:=zm (n:=n) hx
  have e3:=zb e1
  have f1:((s.take (i+1)).map fun x=>I x.n)=((s.take i).map fun x=>I x.n)++[I x.n]:=by rw[ads,hx];simp
  have f2:((cu n s).take (i+1)).map I=((cu n s).take i).map I++[I (min (n-((cu n s).take i).sum) x.n)]:=by rw[ads,e1];simp
  have l1:((s.take i).map fun x=>I x.n).length<=5000:=by rw[WY,adD];omega
  have l2:(((cu n s).take i).map I).length<=5000:=by rw[WY,adD];omega
  refine⟨aA x,fun _=>⟨by omega,by rw[abW];simp[hx]⟩,?_⟩
  refine .inl ⟨[I x.n],rfl,⟨rf,tv⟩,(by simp;rfl),?_⟩
  refine .inr ⟨[I x.n],b7.refl _,bI (by simp only[List.length_cons,List.length_nil];omega),by simp only[List.length_cons,List.length_nil];omega,?_⟩
  refine⟨aA x,fun _=>⟨by omega,by rw[abW];simp[hx]⟩,?_⟩
  have em:(if x.n<n-((cu n s).take i).sum then x.n else n-((cu n s).take i).sum)=min (n-((cu n s).take i).sum) x.n:=by split<;>omega
  refine .inl ⟨[I (min (n-((cu n s).take i).sum) x.n)],rfl,⟨aJ em,tv⟩,(by simp;rfl),?_⟩
  refine .inr ⟨[I (min (n-((cu n s).take i).sum) x.n)],b7.refl _,bI (by simp only[List.length_cons,List.length_nil];omega),by simp only[List.length_cons,List.length_nil];omega,?_⟩
  exact⟨fun _=>by rw[em];omega,fun _=>by omega,i+1,⟨⟨rf,rf,rf,rfl,rfl,aJ (by rw[em];omega),rf,tv⟩,⟨⟨rfl,by rw[f1]⟩,⟨rfl,by rw[f2]⟩,tv⟩,rfl,rfl⟩,by omega,mlt au⟩
 intro h
 have he:i=s.length:=by have:=adA h;rw[WY]at this;omega
 subst he
 have eF:(cu n s).take s.length=cu n s:=List.take_of_length_le (by omega)
 simp only[ady,eF]
 repeat refine gG ?_
 refine T5 ?_ ?_
 ·intro h
  have h:=c6 h
  have h0:0<n:=adz h.2
  have hm:mixed=true:=h.1
  have hc:pg s n mixed=Ar n (s.map (·.n)):=by unfold pg;rw[hm,adF h0];rfl
  have jv:=(F7 n (s.map (·.n)) hn (fun w hw=>by obtain⟨y,hy,rfl⟩:=adK.1 hw;exact j5 (hp y hy)) (by rw[WY];omega) (by rw[qc];omega) (by rw[qc];exact ht)).ok
  have hz:pk (.aD 1 (s.map fun x=>I x.n))=Ints (s.map (·.n)):=by
   show DV.sl 1 (xx _)=DV.sl 1 _
   rw[fT (fun _=>rfl),List.map_map];rfl
  rw[<-hz]at jv
  refine .inl (.inr ⟨_,fun _=>jv,?_⟩)
  rw[hc]
  exact⟨rf,tv⟩
 ·intro h
  have hc:pg s n mixed=cu n s:=by
   unfold pg
   have:=lM h
   cases mixed with
   |false=>rfl
   |true=>
    have:¬0<n:=fun h0=>this ⟨rfl,adF h0⟩
    rw[adG this];rfl
  rw[hc]
  exact⟨DV.Le.of_eq (by show DV.sl 1 (xx ((cu n s).map I))=_;rw[fT (fun _=>rfl)]),tv⟩
def Gc(s:List Lt)(n:Int)(mixed:Bool):List DV:=bif decide (br s<n)then[aM [],aM [],I 10]else[aM (eP s n mixed).1,aM (eP s n mixed).2,I 0]
theorem T7{s:List Lt}(h:bB s=true):br s=b8 s:=by unfold br;rw[h];rfl
theorem Jb(s:List Lt)(n:Int)(mixed:Bool)(hn:0<=n/\n<=1099511627776)(hs:bB s=true):aN Tryz.prog 148 [aM s,I n,B mixed] (Gc s n mixed):=by
 refine pO Tryz.func148 rfl (by kernel_rfl) rfl ?_
 obtain⟨hl,hp⟩:=eU hs
 refine .inl ⟨_,fun _=>(gB s (by omega)).ok,?_⟩
 rw[hs]
 repeat refine gG ?_
 refine T5 (fun h=>by simp at h;omega) fun _=>?_
 refine .inl ⟨_,fun _=>(kV s (by omega)).ok,?_⟩
 refine T5 ?_ ?_
 ·intro h
  unfold Gc
  rw[h]
  exact⟨DV.aI 3,DV.aI 3,rf,tv⟩
 intro h
 have ht:n<=b8 s:=by have:=adA h;rw[T7 hs]at this;omega
 unfold Gc
 rw[h]
 have hk:=tA mixed hn.1 hp ht
 refine .inl ⟨_,fun _=>(Gb s n mixed hn hs ht).ok,?_⟩
 have hM:eP s n mixed=mA s (pg s n mixed) s.length:=rfl
 generalize pg s n mixed=ks at*
 refine⟨Nat,fun i=>⟨0,[(0,.dv (aM s)),(10,.dv (Ints ks)),(11,.dv (aM (mA s ks i).1)),(12,.dv (aM (mA s ks i).2)),(13,.dv (I i))],[]⟩,fun i=>i<=s.length,fun i=>s.length-i,0,fun _=>rfl,⟨⟨rf,rf,DV.aI 3,DV.aI 3,rf,tv⟩,tv,rfl,rfl⟩,adx _,?_⟩
 rintro i hi
 refine T5 ?_ ?_
 ·intro h
  have au:i<s.length:=by have:=adz h;rw[WY]at this;omega
  obtain⟨x,hx⟩:∃x,s[i]?=some x:=⟨_,IF au⟩
  obtain⟨k,Ga⟩:∃k,ks[i]?=some k:=⟨_,IF (show i<ks.length by rw[hk.1];omega)⟩
  have hb:=hk.2 i _ hx
  rw[acb,Ga]at hb
  simp only[Option.getD_some]at hb
  have SP:=ai.1 (hp x (ab6 hx))
  obtain⟨p1,p2,p3,p4⟩:=Ja hp hk i (by omega)
  have eG:=zo hx Ga
  generalize hq:mA s ks i=q at*
  have ab:∀{l:List Lt},(∀y∈l,az y=true)->∀y∈l,0<=y.a/\y.a<=1099511627776/\0<=y.n/\y.n<=1099511627776:=fun h y hy=>by have:=ai.1 (h y hy);omega
  have ix:(s.map aA)[(i:Int).toNat]?=some (aA x):=by rw[abW];simp[hx]
  have ik:(ks.map I)[(i:Int).toNat]?=some (I k):=by rw[abW];simp[Ga]
  have jR:=(qa q.1 ⟨x.f,x.a,k⟩ (by omega) (ab p1) (by simp only;omega)).ok
  have lZ:=(qa q.2 ⟨x.f,x.a+k,x.n-k⟩ (by omega) (ab p2) (by simp only;omega)).ok
  refine⟨aA x,fun _=>⟨by omega,ix⟩,aA x,fun _=>⟨by omega,ix⟩,I k,fun _=>⟨by omega,ik⟩,?_⟩
  simp only[hq]
  refine .inl ⟨_,fun _=>jR,?_⟩
  refine⟨by kernel_rfl,?_⟩
  refine⟨aA x,fun _=>⟨by omega,ix⟩,aA x,fun _=>⟨by omega,ix⟩,I k,fun _=>⟨by omega,ik⟩,fun _=>by omega,aA x,fun _=>⟨by omega,ix⟩,I k,fun _=>⟨by omega,ik⟩,fun _=>by omega,?_⟩
  refine .inl ⟨_,fun _=>lZ,?_⟩
  exact⟨by kernel_rfl,fun _=>by omega,i+1,jn (by simp only[eG];rfl) rfl rfl rfl,by omega,mlt au⟩
 ·intro h
  have he:i=s.length:=by have:=adA h;rw[WY]at this;omega
  subst he
  rw[hM]
  exact⟨rf,rf,rf,tv⟩
end
section
open Go.TM
def j6(l:Lt)(s:List Lt)(i:Nat):VN:=(s.take i).foldl (wY l) ⟨[],[],l.a,l.a+l.n⟩
theorem BO{l:Lt}{s:List Lt}{i:Nat}{x:Lt}(hx:s[i]?=some x):j6 l s (i+1)=wY l (j6 l s i) x:=by
 unfold j6;rw[ads,hx,adI];rfl
structure InB(l:Lt)(i:Nat)(s:VN):Prop where
 lo:0<=s.fr/\s.fr<=l.a
 hi:l.a+l.n<=s.to/\s.to<=1099511627776
 len:s.P3.length+s.SK.length<=i
theorem Jc{l:Lt}{s:List Lt}(hs:∀x∈s,az x=true)(hl:az l=true):∀i,InB l i (j6 l s i)
 |0=>by have:=ai.1 hl;exact⟨⟨this.2.1,Int.le_refl _⟩,⟨Int.le_refl _,this.2.2.2⟩,adM _⟩
 |i+1=>by
  obtain⟨h1,h2,h3⟩:=Jc hs hl i
  cases hx:s[i]? with
  |none=>
   have:j6 l s (i+1)=j6 l s i:=by unfold j6;rw[ads,hx];simp
   rw[this];exact⟨h1,h2,by omega⟩
  |some x=>
   have hp:=ai.1 (hs x (ab6 hx))
   rw[BO hx]
   generalize j6 l s i=z at*
   unfold wY
   split
   ·exact⟨h1,h2,by simp only[adv,List.length_cons,List.length_nil];omega⟩
   split
   ·exact⟨h1,h2,by simp only[adv,List.length_cons,List.length_nil];omega⟩
   ·exact⟨by simp only;omega,by simp only;omega,by simp only;omega⟩
theorem acm(l:List Lt):∀x,x∈l.map aA->x.aT:=fun x hx d hd=>by
 obtain⟨y,_,rfl⟩:=adK.1 hx
 simp only[aA,DV.cells,adp,List.mem_nil_iff,or_false]at hd
 rcases hd with rfl|rfl|rfl<;>rfl
theorem Qv{s:List Lt}{l:Lt}(hs:∀x∈s,az x=true)(hl:az l=true)(hn:NS s):(∀x∈ko s l,az x=true)/\(ko s l).length<=s.length+1:=by
 have hb:=Jc hs hl s.length
 have hr:ko s l=P4 l (j6 l s s.length):=by unfold ko j6;rw[ady]
 have h0:yU l [] ⟨[],[],l.a,l.a+l.n⟩:=⟨.slnil,.slnil,fun _ h=>(by cases h),fun _ h=>(by cases h),Int.le_refl _,Int.le_refl _,fun f u=>by
  have a:¬has [] f u:=aZ
  exact⟨fun h=>.inr ((h.resolve_left a).resolve_left a),fun h=>.inr (.inr (h.resolve_left a))⟩⟩
 have Vl:=ai.1 hl
 have h:=yU.fold (by omega) s [] _ (by simpa using hn) h0
 simp only[List.nil_append]at h
 have e:s.foldl (wY l) ⟨[],[],l.a,l.a+l.n⟩=j6 l s s.length:=by unfold j6;rw[ady]
 rw[e]at h
 rw[hr]
 generalize j6 l s s.length=z at*
 obtain⟨⟨lo1,lo2⟩,⟨Oc,uo⟩,hlen⟩:=hb
 unfold P4
 refine⟨fun x hx=>?_,by simp only[adv,List.length_cons,List.length_nil];omega⟩
 rcases adr.1 hx with hx|hx
 ·rcases adr.1 hx with hx|hx
  ·exact hs x (h.bs.subset hx)
  ·rw[ado]at hx;subst hx;rw[ai];simp only;omega
 ·exact hs x (h.as.subset hx)
theorem Dr{l:List Lt}(hl:∀x∈l,az x=true):∀i,(∀x∈(l.take i).foldl ko [],az x=true)/\((l.take i).foldl ko []).length<=i/\NS ((l.take i).foldl ko [])
 |0=>⟨fun _ h=>(by cases h),adM _,NS.nil⟩
 |i+1=>by
  obtain⟨h1,h2,h3⟩:=Dr hl i
  cases hx:l[i]? with
  |none=>
   have:l.take (i+1)=l.take i:=by rw[ads,hx];simp
   rw[this];exact⟨h1,by omega,h3⟩
  |some x=>
   have hp:=hl x (ab6 hx)
   rw[ads,hx,adI]
   show(∀y∈ko _ x,_)/\(ko _ x).length<=_/\NS (ko _ x)
   have h4:=Qv h1 hp h3
   exact⟨h4.1,by omega,(Li h3 (ai.1 hp).2.2.1).1⟩
theorem nC{l:List Lt}(hl:∀x∈l,az x=true):(∀x∈ct l,az x=true)/\(ct l).length<=l.length/\NS (ct l):=by
 have h:=Dr hl l.length
 rw[ady]at h
 exact h
variable [bp]
def cLt(x:Lt):List AV:=[.dv (I x.f),.dv (I x.a),.dv (I x.n)]
theorem Qw(s:List Lt)(l:Lt)(hs:∀x∈s,az x=true)(hl:az l=true)(hn:s.length<=10000):aN Tryz.prog 213 [aM s,aA l] [aM (ko s l)]:=by
 refine pO Tryz.func213 rfl (by kernel_rfl) rfl ?_
 have Vl:=ai.1 hl
 have hN:=Jc hs hl
 refine⟨fun _=>by omega,?_⟩
 refine⟨Nat,fun i=>⟨3,[(0,.dv (aM s)),(3,.ptr 0 0),(5,.own 1 0 0 []),(6,.own 2 0 0 []),(7,.dv (I (j6 l s i).fr)),(8,.dv (I (j6 l s i).to)),(9,.dv (I i))],[(0,.cells (cLt l)),(1,.tree 0 0 (.aD 3 ((j6 l s i).P3.map aA))),(2,.tree 0 0 (.aD 3 ((j6 l s i).SK.map aA)))]⟩,fun i=>i<=s.length,fun i=>s.length-i,0,fun _=>rfl,⟨⟨rf,rfl,⟨rfl,rfl,rfl,rfl,3,rfl⟩,⟨rfl,rfl,rfl,rfl,3,rfl⟩,rf,rf,rf,tv⟩,⟨⟨rf,rf,rf,tv⟩,⟨rfl,rfl,3,rfl⟩,⟨rfl,rfl,3,rfl⟩,tv⟩,rfl,rfl⟩,adx _,?_⟩
 rintro i hi
 have hNi:=hN i
 have dI:j6 l s i=j6 l s i:=rfl
 refine T5 ?_ ?_
 ·intro h
  have au:i<s.length:=by have:=adz h;rw[WY]at this;omega
  obtain⟨x,hx⟩:∃x,s[i]?=some x:=⟨_,IF au⟩
  have SP:=ai.1 (hs x (ab6 hx))
  have eG:=BO (l:=l) hx
  have ix:(s.map aA)[(i:Int).toNat]?=some (aA x):=by rw[abW];simp[hx]
  refine⟨aA x,fun _=>⟨by omega,ix⟩,?_⟩
  generalize hz:j6 l s i=z at*
  obtain⟨bf,af,fr,to⟩:=z
  obtain⟨⟨lo1,lo2⟩,⟨Oc,uo⟩,hlen⟩:=hNi
  simp only at lo1 lo2 Oc uo hlen
  simp only[hz]
  repeat first|refine gG ?_|refine⟨fun _=>by omega,?_⟩
  have lb:∀{q:List Lt},q.length<=i->(q.map aA).length<=20000:=fun h=>by rw[WY];omega
  refine T5 ?_ ?_
  ·intro h
   have hc:x.f<l.f\/x.f=l.f/\x.a+x.n<fr:=by simpa using h
   have e:j6 l s (i+1)=⟨bf++[x],af,fr,to⟩:=by rw[eG];unfold wY;rw[if_pos hc]
   have l1:=lb (q:=bf) (by omega)
   refine .inl ⟨[aA x],rfl,⟨rf,rf,rf,tv⟩,(by simp;rfl),?_⟩
   refine .inr ⟨[aA x],b7.refl _,bL (by simp only[List.length_cons,List.length_nil];omega),by simp only[List.length_cons,List.length_nil];omega,?_⟩
   exact⟨fun _=>by omega,i+1,jn (by simp only[e];rfl) (by simp only[e,adB];rfl) rfl rfl,by omega,mlt au⟩
  intro h
  have hc:¬(x.f<l.f\/x.f=l.f/\x.a+x.n<fr):=by simpa using h
  repeat refine gG ?_
  refine T5 ?_ ?_
  ·intro h
   have yE:l.f<x.f\/to<x.a:=by simpa using h
   have e:j6 l s (i+1)=⟨bf,af++[x],fr,to⟩:=by rw[eG];unfold wY;rw[if_neg hc,if_pos yE]
   have l1:=lb (q:=af) (by omega)
   refine .inl ⟨[aA x],rfl,⟨rf,rf,rf,tv⟩,(by simp;rfl),?_⟩
   refine .inr ⟨[aA x],b7.refl _,bL (by simp only[List.length_cons,List.length_nil];omega),by simp only[List.length_cons,List.length_nil];omega,?_⟩
   exact⟨fun _=>by omega,i+1,jn (by simp only[e];rfl) (by simp only[e,adB];rfl) rfl rfl,by omega,mlt au⟩
  ·intro h
   have yE:¬(l.f<x.f\/to<x.a):=by simpa using h
   have e:j6 l s (i+1)=⟨bf,af,min fr x.a,max to (x.a+x.n)⟩:=by rw[eG];unfold wY;rw[if_neg hc,if_neg yE]
   have e1:(if x.a<fr then x.a else fr)=min fr x.a:=by split<;>omega
   have e2:(if to<x.a+x.n then x.a+x.n else to)=max to (x.a+x.n):=by split<;>omega
   refine⟨fun _=>by omega,fun _=>by omega,i+1,jn (by simp only[e,e1,e2];rfl) (by simp only[e];rfl) rfl rfl,by omega,mlt au⟩
 ·intro h
  have he:i=s.length:=by have:=adA h;rw[WY]at this;omega
  subst he
  have hr:ko s l=P4 l (j6 l s s.length):=by unfold ko j6;rw[ady]
  rw[hr]
  generalize hz:j6 l s s.length=z at*
  obtain⟨bf,af,fr,to⟩:=z
  obtain⟨⟨lo1,lo2⟩,⟨Oc,uo⟩,hlen⟩:=hNi
  simp only at lo1 lo2 Oc uo hlen
  simp only[hz]
  have l1:(bf.map aA).length<=20000:=by rw[WY];omega
  have l2:(af.map aA).length<=20000:=by rw[WY];omega
  refine⟨fun _=>by omega,?_⟩
  refine .inl ⟨[aA ⟨l.f,fr,to-fr⟩],rfl,⟨rf,rf,rf,tv⟩,(by simp;rfl),?_⟩
  refine .inr ⟨[aA ⟨l.f,fr,to-fr⟩],b7.refl _,bL (by simp only[List.length_cons,List.length_nil];omega),by simp only[List.length_cons,List.length_nil];omega,?_⟩
  refine .inr (.inl ⟨acm af,af.map aA,b7.refl _,bL (by simp only[adv,List.length_cons,List.length_nil];omega),by simp only[adv,List.length_cons,List.length_nil];omega,?_⟩)
  refine⟨?_,tv⟩
  have:=qT (bf++[(⟨l.f,fr,to-fr⟩:Lt)]++af)
  rw[adB,adB]at this
  exact this
theorem BP(l:List Lt)(hl:l.length<=9000):aN Tryz.prog 145 [aM l] [aM (bif bB l then ct l else[])]:=by
 refine pO Tryz.func145 rfl (by kernel_rfl) rfl ?_
 refine .inl ⟨_,fun _=>(gB l (by omega)).ok,?_⟩
 have hb:=fun h=>(eU (l:=l) h).2
 have hs:ct l=l.foldl ko []:=rfl
 generalize bB l=v at*
 refine⟨Nat,fun i=>⟨0,[(0,.dv (aM l)),(3,.dv (aM ((l.take i).foldl ko []))),(4,.dv (B v)),(5,.dv (I i))],[]⟩,fun i=>i<=l.length/\(v=false->i=0),fun i=>l.length-i,0,fun _=>rfl,⟨⟨rf,DV.aI 3,rf,rf,tv⟩,tv,rfl,rfl⟩,⟨adx _,fun _=>rfl⟩,?_⟩
 rintro i ⟨hi,hv⟩
 repeat refine gG ?_
 refine T5 ?_ ?_
 ·intro h
  have h:=c6 h
  have TX:v=true:=h.2
  have au:i<l.length:=by have:=adz h.1;rw[WY]at this;omega
  obtain⟨x,hx⟩:∃x,l[i]?=some x:=⟨_,IF au⟩
  have hp:=hb TX
  obtain⟨h1,h2,h3⟩:=Dr hp i
  have e:(l.take (i+1)).foldl ko []=ko ((l.take i).foldl ko []) x:=by rw[ads,hx,adI];rfl
  refine⟨aA x,fun _=>⟨by omega,by rw[abW];simp[hx]⟩,?_⟩
  refine .inl ⟨_,fun _=>(Qw _ x h1 (hp x (ab6 hx)) (by omega)).ok,?_⟩
  exact⟨fun _=>by omega,i+1,jn (by simp only[e];rfl) rfl rfl rfl,⟨by omega,by simp[TX]⟩,mlt au⟩
 ·intro h
  have h:=lM h
  refine⟨DV.Le.of_eq ?_,tv⟩
  cases v with
  |true=>
   have:i=l.length:=by
    have:¬(i:Int)<(l.map aA).length:=fun hh=>h ⟨adF hh,rfl⟩
    rw[WY]at this;omega
   subst this
   rw[ady];rfl
  |false=>rw[hv rfl];rfl
end
section
open Go.TM
theorem M0{x y:Lt}(hx:az x=true)(hy:az y=true):(∀z∈gJ y x,az z=true)/\(gJ y x).length<=2:=by
 have hx:=ai.1 hx
 have hy:=ai.1 hy
 obtain⟨a1,a2,_⟩:=Lk hy.2.2.1 hx.2.2.1
 refine⟨fun z hz=>?_,?_⟩
 ·have b1:=a1.pos z hz
  have b2:=a2 z hz
  rw[ai];omega
 ·unfold gJ
  split
  ·simp
  ·split<;>split<;>simp
theorem BQ{l:List Lt}{y:Lt}(hl:∀x∈l,az x=true)(hy:az y=true):(∀z∈jc l y,az z=true)/\(jc l y).length<=2*l.length:=by
 induction l with
 |nil=>exact⟨fun _ h=>(by cases h),adM _⟩
 |cons x l ih=>
  obtain⟨a1,a2⟩:=M0 (hl x adu) hy
  obtain⟨b1,b2⟩:=ih fun z hz=>hl z (adq _ hz)
  have e:jc (x::l) y=gJ y x++jc l y:=rfl
  rw[e]
  refine⟨fun z hz=>?_,by simp only[adv,List.length_cons];omega⟩
  rcases adr.1 hz with hz|hz
  ·exact a1 z hz
  ·exact b1 z hz
def zp(l:List Lt)(y:Lt)(i:Nat):List Lt:=jc (l.take i) y
theorem M1{l:List Lt}{y x:Lt}{i:Nat}(hx:l[i]?=some x):zp l y (i+1)=zp l y i++gJ y x:=by
 unfold zp jc;rw[ads,hx,List.flatMap_append];simp
def tB(x:Lt)(P:List Lt)(k:Nat):List Lt:=(P.take k).foldl jc [x]
theorem BR{x y:Lt}{P:List Lt}{k:Nat}(hy:P[k]?=some y):tB x P (k+1)=jc (tB x P k) y:=by
 unfold tB;rw[ads,hy,adI];rfl
theorem Gd{y:Lt}(hy:1<=y.n):∀{l:List Lt},NS l->(jc l y).length<=l.length+1
 |[],_=>by simp[jc]
 |x::l,h=>by
  have e:jc (x::l) y=gJ y x++jc l y:=rfl
  rw[e,adv]
  by_cases hc:x.f=y.f/\y.a+y.n<x.a+x.n
  ·have rj:jc l y=l:=by
    have:∀z∈l,gJ y z=[z]:=fun z hz=>by
     have:=h.head.2 z hz
     unfold Ap at this
     unfold gJ
     rw[if_pos (by omega)]
    clear e hc
    induction l with
    |nil=>rfl
    |cons z l ih=>
     show gJ y z++jc l y=_
     have h2:=h.tail
     rw[this z adu,ih ⟨(List.pairwise_cons.2 ⟨fun w hw=>h.head.2 w (adq _ hw),h2.tail.p7⟩),fun w hw=>by
      rcases adp.1 hw with rfl|hw
      ·exact h.head.1
      ·exact h2.tail.pos w hw⟩ fun w hw=>this w (adq _ hw)]
     rfl
   rw[rj]
   have:(gJ y x).length<=2:=by
    unfold gJ
    split
    ·simp
    ·split<;>split<;>simp
   simp only[List.length_cons];omega
  ·have:(gJ y x).length<=1:=by
    unfold gJ
    split
    ·simp
    ·rw[if_neg (show¬y.a+y.n<x.a+x.n by omega)];split<;>simp
   have:=Gd hy h.tail
   simp only[List.length_cons];omega
theorem Ds{x:Lt}{P:List Lt}(hx:az x=true)(hP:∀y∈P,az y=true):∀k,(∀z∈tB x P k,az z=true)/\NS (tB x P k)/\(tB x P k).length<=k+1
 |0=>⟨fun z hz=>by rw[show tB x P 0=[x]from rfl,ado]at hz;subst hz;exact hx,⟨adQ _ _,fun z hz=>by rw[show tB x P 0=[x]from rfl,ado]at hz;subst hz;exact(ai.1 hx).2.2.1⟩,adM _⟩
 |k+1=>by
  obtain⟨h1,h2,h3⟩:=Ds hx hP k
  cases hy:P[k]? with
  |none=>
   have:tB x P (k+1)=tB x P k:=by unfold tB;rw[ads,hy];simp
   rw[this];exact⟨h1,h2,by omega⟩
  |some y=>
   have hp:=hP y (ab6 hy)
   rw[BR hy]
   have h4:=Gd (ai.1 hp).2.2.1 h2
   exact⟨(BQ h1 hp).1,(Dl (ai.1 hp).2.2.1 h2).1,by omega⟩
def Ge(s P:List Lt)(i:Nat):List Lt:=((s.take i).flatMap fun x=>nv x P).foldl aR []
theorem tC:∀(r l:List Lt),(∀x∈r,az x=true)->(∀x∈l,az x=true)->(∀x∈r.foldl aR l,az x=true)/\(r.foldl aR l).length<=l.length+r.length
 |[],l,_,h=>⟨h,adM _⟩
 |x::r,l,hr,h=>by
  have hp:=ai.1 (hr x adu)
  have h1:=iJ h ⟨hp.1,hp.2.1,by omega,hp.2.2.2⟩
  have h2:=tC r (aR l x) (fun y hy=>hr y (adq _ hy)) h1
  have h3:=fh l x
  exact⟨h2.1,by rw[List.foldl_cons,List.length_cons];omega⟩
variable [bp]
theorem M3(l:List Lt)(y:Lt)(hl:∀x∈l,az x=true)(hy:az y=true)(hn:l.length<=9000):aN Tryz.prog 215 [aM l,aA y] [aM (jc l y)]:=by
 refine pO Tryz.func215 rfl (by kernel_rfl) rfl ?_
 have hyp:=ai.1 hy
 refine⟨Nat,fun i=>⟨2,[(0,.dv (aM l)),(3,.ptr 0 0),(5,.own 1 0 0 []),(6,.dv (I i))],[(0,.cells (cLt y)),(1,.tree 0 0 (.aD 3 ((zp l y i).map aA)))]⟩,fun i=>i<=l.length,fun i=>l.length-i,0,fun _=>rfl,⟨⟨rf,rfl,⟨rfl,rfl,rfl,rfl,3,rfl⟩,rf,tv⟩,⟨⟨rf,rf,rf,tv⟩,⟨rfl,rfl,3,rfl⟩,tv⟩,rfl,rfl⟩,adx _,?_⟩
 rintro i hi
 refine T5 ?_ ?_
 ·intro h
  have au:i<l.length:=by have:=adz h;rw[WY]at this;omega
  obtain⟨x,hx⟩:∃x,l[i]?=some x:=⟨_,IF au⟩
  have SP:=ai.1 (hl x (ab6 hx))
  have eG:=M1 (y:=y) hx
  have gM:(zp l y i).length<=2*i:=by
   have:=(BQ (l:=l.take i) (fun z hz=>hl z (List.mem_of_mem_take hz)) hy).2
   rw[adD]at this;unfold zp;omega
  have ix:(l.map aA)[(i:Int).toNat]?=some (aA x):=by rw[abW];simp[hx]
  generalize hz:zp l y i=z at*
  have l1:(z.map aA).length<=20000:=by rw[WY];omega
  repeat first|refine gG ?_|refine⟨fun _=>by omega,?_⟩|refine⟨aA x,fun _=>⟨by omega,ix⟩,?_⟩|refine⟨by kernel_rfl,?_⟩
  refine T5 ?_ ?_
  ·intro h
   have hc:x.f≠y.f\/y.a+y.n<=x.a\/x.a+x.n<=y.a:=by simp at h;omega
   have e:zp l y (i+1)=z++[x]:=by rw[eG];unfold gJ;rw[if_pos hc]
   refine⟨aA x,fun _=>⟨by omega,ix⟩,?_⟩
   refine .inl ⟨[aA x],rfl,⟨rf,rf,rf,tv⟩,(by simp;rfl),?_⟩
   refine .inr ⟨[aA x],b7.refl _,bL (by simp only[List.length_cons,List.length_nil];omega),by simp only[List.length_cons,List.length_nil];omega,?_⟩
   exact⟨fun _=>by omega,i+1,jn (by simp only[e];rfl) (by simp only[e,adB];rfl) rfl rfl,by omega,mlt au⟩
  ·intro h
   have hc:¬(x.f≠y.f\/y.a+y.n<=x.a\/x.a+x.n<=y.a):=by simp at h;omega
   have e:zp l y (i+1)=z++((if x.a<y.a then[⟨y.f,x.a,y.a-x.a⟩]else[])++(if y.a+y.n<x.a+x.n then[⟨y.f,y.a+y.n,x.a+x.n-y.a-y.n⟩]else[])):=by rw[eG];unfold gJ;rw[if_neg hc]
   refine T5 ?_ ?_
   ·intro h2
    have h2:=adz h2
    repeat first|refine⟨fun _=>by omega,?_⟩
    refine .inl ⟨[aA ⟨y.f,x.a,y.a-x.a⟩],rfl,⟨rf,rf,rf,tv⟩,(by simp;rfl),?_⟩
    refine .inr ⟨[aA ⟨y.f,x.a,y.a-x.a⟩],b7.refl _,bL (by simp only[adv,List.length_cons,List.length_nil];omega),by simp only[adv,List.length_cons,List.length_nil];omega,?_⟩
    repeat first|refine⟨fun _=>by omega,?_⟩
    refine T5 ?_ ?_
    ·intro h3
     have h3:=adz h3
     rw[if_pos h2,if_pos h3]at e
     repeat first|refine⟨fun _=>by omega,?_⟩
     refine .inl ⟨[aA ⟨y.f,y.a+y.n,x.a+x.n-y.a-y.n⟩],rfl,⟨rf,rf,rf,tv⟩,(by simp;rfl),?_⟩
     refine .inr ⟨[aA ⟨y.f,y.a+y.n,x.a+x.n-y.a-y.n⟩],b7.refl _,bL (by simp only[adv,List.length_cons,List.length_nil];omega),by simp only[adv,List.length_cons,List.length_nil];omega,?_⟩
     exact⟨fun _=>by omega,i+1,jn (by simp only[e];rfl) (by simp only[e,adB,List.append_nil,List.nil_append,adJ];rfl) rfl rfl,by omega,mlt au⟩
    ·intro h3
     have h3:=adA h3
     rw[if_pos h2,if_neg h3]at e
     exact⟨fun _=>by omega,i+1,jn (by simp only[e];rfl) (by simp only[e,adB,List.append_nil,List.nil_append,adJ];rfl) rfl rfl,by omega,mlt au⟩
   ·intro h2
    have h2:=adA h2
    repeat first|refine⟨fun _=>by omega,?_⟩
    refine T5 ?_ ?_
    ·intro h3
     have h3:=adz h3
     rw[if_neg h2,if_pos h3]at e
     repeat first|refine⟨fun _=>by omega,?_⟩
     refine .inl ⟨[aA ⟨y.f,y.a+y.n,x.a+x.n-y.a-y.n⟩],rfl,⟨rf,rf,rf,tv⟩,(by simp;rfl),?_⟩
     refine .inr ⟨[aA ⟨y.f,y.a+y.n,x.a+x.n-y.a-y.n⟩],b7.refl _,bL (by simp only[adv,List.length_cons,List.length_nil];omega),by simp only[adv,List.length_cons,List.length_nil];omega,?_⟩
     exact⟨fun _=>by omega,i+1,jn (by simp only[e];rfl) (by simp only[e,adB,List.append_nil,List.nil_append,adJ];rfl) rfl rfl,by omega,mlt au⟩
    ·intro h3
     have h3:=adA h3
     rw[if_neg h2,if_neg h3]at e
     exact⟨fun _=>by omega,i+1,jn (by simp only[e];rfl) (by simp only[e,adB,List.append_nil,List.nil_append,adJ];rfl) rfl rfl,by omega,mlt au⟩
 ·intro h
  have he:i=l.length:=by have:=adA h;rw[WY]at this;omega
  subst he
  have:zp l y l.length=jc l y:=by unfold zp;rw[ady]
  rw[this]
  exact⟨qT _,tv⟩
end
section
open Go.TM
theorem Gf{s P:List Lt}{i:Nat}{x:Lt}(hx:s[i]?=some x):Ge s P (i+1)=(nv x P).foldl aR (Ge s P i):=by
 unfold Ge;rw[ads,hx,List.flatMap_append,adI];simp
theorem zq(x:Lt)(P:List Lt):tB x P P.length=nv x P:=by unfold tB nv;rw[ady]
theorem vh{s P:List Lt}(hs:∀x∈s,az x=true)(hP:∀y∈P,az y=true):∀i,(∀x∈Ge s P i,az x=true)/\(Ge s P i).length<=i*(P.length+1)
 |0=>⟨fun _ h=>(by cases h),by simp[Ge]⟩
 |i+1=>by
  obtain⟨h1,h2⟩:=vh hs hP i
  have em:(i+1)*(P.length+1)=i*(P.length+1)+(P.length+1):=Nat.succ_mul ..
  cases hx:s[i]? with
  |none=>
   have:Ge s P (i+1)=Ge s P i:=by unfold Ge;rw[ads,hx];simp
   rw[this];exact⟨h1,by omega⟩
  |some x=>
   have hp:=hs x (ab6 hx)
   obtain⟨r1,r2,r3⟩:=Ds hp hP P.length
   rw[zq]at r1 r3
   rw[Gf hx]
   have:=tC _ _ r1 h1
   exact⟨this.1,by omega⟩
theorem aaX(l:List Lt):(((l.map aA).length:Int)==0)=decide (l=[]):=by
 cases l with
 |nil=>rfl
 |cons x l=>
  have h:(((((x::l).map aA).length:Nat):Int)==0)=false:=by
   rw[beq_eq_false_iff_ne,WY,List.length_cons];omega
  rw[h,adG (by simp)]
variable [bp]
def Jd(s P:List Lt):List Lt:=bif bB s&&bB P then my s P else[]
theorem tD(s P:List Lt)(hs:s.length<=5000)(hP:P.length<=5000)(bP:s.length*(P.length+1)<=90000):aN Tryz.prog 147 [aM s,aM P] [aM (Jd s P)]:=by
 refine pO Tryz.func147 rfl (by kernel_rfl) rfl ?_
 refine .inl ⟨_,fun _=>(gB s (by omega)).ok,?_⟩
 refine .inl ⟨_,fun _=>(gB P (by omega)).ok,?_⟩
 repeat refine gG ?_
 refine T5 ?_ ?_
 ·intro h
  have:Jd s P=[]:=by
   unfold Jd
   have h:(bif !bB s then true else !bB P)=true:=h
   cases hv:bB s<;>cases ec:bB P<;>rw[hv,ec]at h<;>first|rfl|cases h
  rw[this]
  exact⟨DV.aI 3,tv⟩
 intro h
 have hv:bB s=true/\bB P=true:=by
  have h:(bif !bB s then true else !bB P)=false:=h
  cases hv:bB s<;>cases ec:bB P<;>rw[hv,ec]at h<;>first|exact⟨rfl,rfl⟩|cases h
 have jv:=(eU hv.1).2
 have hPp:=(eU hv.2).2
 have he:Jd s P=Ge s P s.length:=by unfold Jd Ge my;rw[hv.1,hv.2,ady];rfl
 rw[he]
 clear he h hv
 refine⟨Nat,fun i=>⟨0,[(0,.dv (aM s)),(1,.dv (aM P)),(7,.dv (aM (Ge s P i))),(8,.dv (I i))],[]⟩,fun i=>i<=s.length,fun i=>s.length-i,0,fun _=>rfl,⟨⟨rf,rf,DV.aI 3,rf,tv⟩,tv,rfl,rfl⟩,adx _,?_⟩
 rintro i hi
 refine T5 ?_ ?_
 ·intro h
  have au:i<s.length:=by have:=adz h;rw[WY]at this;omega
  obtain⟨x,hx⟩:∃x,s[i]?=some x:=⟨_,IF au⟩
  have SP:=jv x (ab6 hx)
  have eG:=Gf (P:=P) hx
  obtain⟨w1,w2⟩:=vh jv hPp i
  have hR:=Ds SP hPp
  have hmul:i*(P.length+1)<=s.length*(P.length+1):=adN _ (by omega)
  generalize hW:Ge s P i=W at*
  refine⟨aA x,fun _=>⟨by omega,by rw[abW];simp[hx]⟩,?_⟩
  refine .inl ⟨[aA x],rfl,⟨rf,rf,rf,tv⟩,(by simp;rfl),?_⟩
  refine⟨Nat,fun k=>⟨0,[(0,.dv (aM s)),(1,.dv (aM P)),(7,.dv (aM W)),(8,.dv (I i)),(9,.dv (aM (tB x P k))),(10,.dv (I k))],[]⟩,fun k=>k<=P.length,fun k=>P.length-k,0,fun _=>rfl,jn (by simp only[hW];rfl) rfl rfl rfl,adx _,?_⟩
  rintro k hk
  refine T5 ?_ ?_
  ·intro h
   have EH:k<P.length:=by have:=adz h;rw[WY]at this;omega
   obtain⟨y,hy⟩:∃y,P[k]?=some y:=⟨_,IF EH⟩
   obtain⟨r1,r2,r3⟩:=hR k
   have e:=BR (x:=x) hy
   refine⟨aA y,fun _=>⟨by omega,by rw[abW];simp[hy]⟩,?_⟩
   refine .inl ⟨_,fun _=>(M3 _ y r1 (hPp y (ab6 hy)) (by omega)).ok,?_⟩
   exact⟨fun _=>by omega,k+1,jn (by simp only[e];rfl) rfl rfl rfl,by omega,mlt EH⟩
  intro h
  have he:k=P.length:=by have:=adA h;rw[WY]at this;omega
  subst he
  obtain⟨r1,r2,r3⟩:=hR P.length
  simp only[zq]
  rw[zq]at r1 r3
  generalize nv x P=R at*
  have hK:=fun q=>tC (R.take q) W (fun z hz=>r1 z (List.mem_of_mem_take hz)) w1
  refine⟨Nat,fun q=>⟨0,[(0,.dv (aM s)),(1,.dv (aM P)),(7,.dv (aM ((R.take q).foldl aR W))),(8,.dv (I i)),(9,.dv (aM R)),(11,.dv (I q))],[]⟩,fun q=>q<=R.length,fun q=>R.length-q,0,fun _=>rfl,jn rfl rfl rfl rfl,adx _,?_⟩
  rintro q hq
  refine T5 ?_ ?_
  ·intro h
   have hqt:q<R.length:=by have:=adz h;rw[WY]at this;omega
   obtain⟨y,hy⟩:∃y,R[q]?=some y:=⟨_,IF hqt⟩
   have hyp:=ai.1 (r1 y (ab6 hy))
   obtain⟨k1,k2⟩:=hK q
   rw[adD]at k2
   have e:(R.take (q+1)).foldl aR W=aR ((R.take q).foldl aR W) y:=by rw[ads,hy,adI];rfl
   refine⟨aA y,fun _=>⟨by omega,by rw[abW];simp[hy]⟩,?_⟩
   refine .inl ⟨_,fun _=>(qa _ y (by omega) (fun z hz=>by have:=ai.1 (k1 z hz);omega) (by omega)).ok,?_⟩
   exact⟨fun _=>by omega,q+1,jn (by simp only[e];rfl) rfl rfl rfl,by omega,mlt hqt⟩
  ·intro h
   have he:q=R.length:=by have:=adA h;rw[WY]at this;omega
   subst he
   refine⟨fun _=>by omega,i+1,jn (by simp only[eG,ady];rfl) rfl rfl rfl,by omega,mlt au⟩
 ·intro h
  have he:i=s.length:=by have:=adA h;rw[WY]at this;omega
  subst he
  exact⟨rf,tv⟩
def kI(l:List Lt):List Lt:=bif bB l then ct l else[]
def vj(a b:List Lt):List Lt:=Jd (kI a) b
def rn(a b:List Lt):Bool:=bB a&&bB b&&decide (vj a b=[])
theorem qd(l:List Lt):(kI l).length<=l.length/\∀x∈kI l,az x=true:=by
 unfold kI
 cases hv:bB l with
 |true=>have:=nC (eU hv).2;exact⟨this.2.1,this.1⟩
 |false=>exact⟨adx _,fun _ h=>(by cases h)⟩
theorem sj(a b:List Lt)(ha:a.length<=5000)(hb:b.length<=5000)(bP:a.length*(b.length+1)<=90000):aN Tryz.prog 214 [aM a,aM b] [aM (vj a b)]:=by
 refine pO Tryz.func214 rfl (by kernel_rfl) rfl ?_
 have hl:=(qd a).1
 have hm:(kI a).length*(b.length+1)<=a.length*(b.length+1):=adN _ hl
 refine .inl ⟨_,fun _=>(BP a (by omega)).ok,?_⟩
 refine .inl ⟨_,fun _=>(tD (kI a) b (by omega) hb (by omega)).ok,?_⟩
 exact⟨rf,tv⟩
theorem wh(a b:List Lt)(ha:a.length<=5000)(hb:b.length<=5000)(bP:a.length*(b.length+1)<=90000):aN Tryz.prog 146 [aM a,aM b] [B (rn a b)]:=by
 refine pO Tryz.func146 rfl (by kernel_rfl) rfl ?_
 refine .inl ⟨_,fun _=>(gB a (by omega)).ok,?_⟩
 refine .inl ⟨_,fun _=>(gB b (by omega)).ok,?_⟩
 repeat refine gG ?_
 refine .inl ⟨_,fun _=>(sj a b ha hb bP).ok,?_⟩
 repeat refine gG ?_
 refine⟨DV.Le.of_eq ?_,tv⟩
 show DV.bool (bif bif bB a then bB b else false then(((vj a b).map aA).length:Int)==0 else false)=B (rn a b)
 unfold rn
 rw[aaX]
 cases bB a<;>cases bB b<;>rfl
theorem T8{s P:List Lt}(hs:∀x∈s,az x=true):(Jd s P).length<=s.length*(P.length+1):=by
 unfold Jd
 cases hv:bB s&&bB P with
 |true=>
  rw[adT]at hv
  have:=(vh hs (eU hv.2).2 s.length).2
  unfold Ge at this
  rw[ady]at this
  exact this
 |false=>exact adx _
def AN(a b:List Lt):List Lt:=bif bB b then vj a (vj a b)else[]
theorem BS(a b:List Lt)(ha:a.length<=5000)(hb:b.length<=5000)(bP:a.length*(b.length+1)<=5000)(adf:a.length*(a.length*(b.length+1)+1)<=90000):aN Tryz.prog 217 [aM a,aM b] [aM (AN a b)]:=by
 refine pO Tryz.func217 rfl (by kernel_rfl) rfl ?_
 refine .inl ⟨_,fun _=>(gB b (by omega)).ok,?_⟩
 unfold AN
 refine T5 ?_ ?_
 ·intro h
  have h:bB b=false:=by simpa using h
  rw[h]
  exact⟨DV.aI 3,tv⟩
 ·intro h
  have h:bB b=true:=by simpa using h
  rw[h]
  have h1:=qd a
  have h2:=T8 (P:=b) h1.2
  have h3:(kI a).length*(b.length+1)<=a.length*(b.length+1):=adN _ h1.1
  have h4:a.length*((vj a b).length+1)<=a.length*(a.length*(b.length+1)+1):=Nat.mul_le_mul_left _ (by unfold vj;omega)
  refine .inl ⟨_,fun _=>(sj a b ha hb (by omega)).ok,?_⟩
  refine .inl ⟨_,fun _=>(sj a (vj a b) ha (by unfold vj;omega) (by omega)).ok,?_⟩
  exact⟨rf,tv⟩
end
section
open Go.TM
structure dc where
 fr:Int
 to:Int
 it:Int
 n:Int
 ps:List Lt
structure cJ where
 id:Int
 kind:Int
 jt:Int
 tick:Int
 aP:Int
 times:Int
 mv:List dc
structure eS where
 id:Int
 step:Int
 kind:Int
 tick:Int
 jt:Int
 fr:Int
 to:Int
 it:Int
 n:Int
 ps:List Lt
 md:List Int
abbrev Ky:=Int×Int
abbrev SM:=List (Ky×List Lt)
def ao(m:dc):DV:=.agg [I m.fr,I m.to,I m.it,I m.n,aM m.ps]
def aC(s:cJ):DV:=.agg [I s.id,I s.kind,I s.jt,I s.tick,I s.aP,I s.times,.sl 5 (s.mv.map ao)]
def aG(f:eS):DV:=.agg [I f.id,I f.step,I f.kind,I f.tick,I f.jt,I f.fr,I f.to,I f.it,I f.n,aM f.ps,Ints f.md]
def fB(p:Ky×List Lt):DV:=.agg [I p.1.1,I p.1.2,aM p.2]
structure RL where
 sh:Int
 st:SM
 fl:List eS
 sp:List cJ
structure T9 where
 nm:ByteArray
 sp:Bool
 lv:Int
 tm:Int
 ch:Int
 of:Int
 tk:List Ky
 gv:List Ky
 bk:List Ky
def fK(p:Ky):DV:=.agg [I p.1,I p.2]
def iB(r:T9):DV:=.agg [.str r.nm,B r.sp,I r.lv,I r.tm,I r.ch,I r.of,.sl 2 (r.tk.map fK),.sl 2 (r.gv.map fK),.sl 2 (r.bk.map fK)]
def dY:List T9:=[⟨⟨⟨[100,105,103]⟩⟩,true,0,0,1,1,[],[(1,4),(2,3)],[]⟩,⟨⟨⟨[115,109,101,108,116]⟩⟩,false,2,5,2,3,[(1,2),(2,1)],[(3,1)],[(1,1)]⟩,
 ⟨⟨⟨[102,111,114,103,101]⟩⟩,false,3,10,1,1,[(3,3)],[(4,1)],[]⟩,⟨⟨⟨[115,99,114,97,112]⟩⟩,false,0,1,1,1,[(4,1)],[(3,3)],[]⟩,⟨⟨⟨[115,101,108,108]⟩⟩,false,0,1,1,1,[(3,1)],[(0,7)],[]⟩]
abbrev gE:List DV:=[.sl 7 (y7 (I 2) (I 20)),.sl 9 (dY.map iB),VQ,Qf]
def rlC(R:RL):List AV:=.dv (I R.sh)::ed gE++[.own 1 0 0 [],.own 2 0 0 [],.own 3 0 0 []]
def de(R:RL):ae:=[(0,.cells (rlC R)),(1,.tree 0 0 (.aD 3 (R.st.map fB))),(2,.tree 0 0 (.aD 11 (R.fl.map aG))),(3,.tree 0 0 (.aD 7 (R.sp.map aC)))]
def rB:SM->Ky->Nat
 |[],_=>0
 |p::r,k=>if p.1=k then 0 else rB r k+1
theorem Qx:∀(m:SM) (k:Ky),rB m k<=m.length
 |[],_=>adM _
 |p::r,k=>by unfold rB;split;exact adx _;have:=Qx r k;simp only[List.length_cons];omega
theorem Je:∀{m:SM} {k:Ky} {j:Nat} {p:Ky×List Lt},m[j]?=some p->j<=rB m k->(p.1=k->rB m k=j)/\(p.1≠k->j+1<=rB m k)
 |q::r,k,0,p,h,hj=>by
  simp at h;subst h
  unfold rB
  exact⟨fun e=>if_pos e,fun e=>by rw[if_neg e];omega⟩
 |q::r,k,j+1,p,h,hj=>by
  unfold rB at hj⊢
  split at hj
  ·omega
  ·rename_i hq
   rw[if_neg hq]
   have:=Je (m:=r) (k:=k) (j:=j) (p:=p) (by simpa using h) (by omega)
   exact⟨fun e=>by rw[this.1 e],fun e=>by have:=this.2 e;omega⟩
theorem Dt:∀(m:SM) (k:Ky),aX m k=(m[rB m k]?).map (·.2)
 |[],k=>rfl
 |p::r,k=>by
  obtain⟨q,l⟩:=p
  unfold rB aX
  split
  ·simp
  ·rw[Dt r k];simp
theorem Du:∀(m:SM) (k:Ky) (l:List Lt),aH m k l=if rB m k<m.length then m.set (rB m k) (k,l)else m++[(k,l)]
 |[],k,l=>by simp[aH,rB]
 |p::r,k,l=>by
  obtain⟨q,v⟩:=p
  unfold rB aH
  split
  ·simp
  ·rw[Du r k l]
   simp only[List.length_cons]
   by_cases h:rB r k<r.length
   ·rw[if_pos h,if_pos (by omega)];rfl
   ·rw[if_neg h,if_neg (by omega)];rfl
theorem Ua{m:SM}{k:Ky}(h:rB m k<m.length):∃l,m[rB m k]?=some (k,l):=by
 have hx:=IF h
 have:=(Je hx (adM _))
 by_cases e:m[rB m k].1=k
 ·exact⟨m[rB m k].2,by rw[hx];exact congrArg some (Prod.ext e rfl)⟩
 ·have:=this.2 e;omega
def aW(m:SM)(k:Ky):List Lt:=(aX m k).getD []
variable [bp]
theorem find_spec(R:RL)(a i:Int)(hn:R.st.length<=100000):aj Tryz.prog 95 [.ptr 0 0,.dv (I a),.dv (I i)] 4 (de R) 0 [.dv (I (if rB R.st (a,i)<R.st.length then(rB R.st (a,i):Int)else -1))] (de R):=by
 refine cO Tryz.func95 rfl (by kernel_rfl) ?_
 refine⟨Nat,fun j=>⟨4,[(0,.ptr 0 0),(1,.dv (I a)),(2,.dv (I i)),(7,.dv (I j))],de R⟩,fun j=>j<=rB R.st (a,i),fun j=>R.st.length-j,0,fun _=>rfl,jn rfl rfl rfl rfl,adx _,?_⟩
 rintro j hj
 have kP:=Qx R.st (a,i)
 refine T5 ?_ ?_
 ·intro h
  have au:j<R.st.length:=by have:=adz h;rw[WY]at this;omega
  obtain⟨p,hp⟩:∃p,R.st[j]?=some p:=⟨_,IF au⟩
  have hf:=Je (k:=(a,i)) hp hj
  obtain⟨⟨pa,pi⟩,pl⟩:=p
  have ip:(R.st.map fB)[(j:Int).toNat]?=some (fB ((pa,pi),pl)):=by rw[abW];simp[hp]
  repeat first|refine g1 ?_|refine g3 ?_|refine⟨fun _=>⟨by omega,by rw[WY];omega⟩,?_⟩|refine⟨fB ((pa,pi),pl),fun _=>ip,?_⟩
  refine T5 ?_ ?_
  ·intro h
   have e:(pa,pi)=(a,i):=by
    have h:=c6 h
    exact Prod.ext (beq_iff_eq.1 h.1) (beq_iff_eq.1 h.2)
   rw[hf.1 e,if_pos au]
   exact ext (by kernel_rfl) rfl rfl
  ·intro h
   have e:(pa,pi)≠(a,i):=fun e=>by
    injection e with e1 e2
    have h:(bif pa==a then pi==i else false)=false:=h
    subst e1;subst e2;simp at h
   exact⟨fun _=>by omega,j+1,jn rfl rfl rfl rfl,hf.2 e,mlt au⟩
 ·intro h
  have CL:R.st.length<=j:=by have:=adA h;rw[WY]at this;omega
  rw[if_neg (by omega)]
  exact ext (by kernel_rfl) rfl rfl
theorem Qy{m:SM}{k:Ky}(h:rB m k<m.length):m[rB m k]?=some (k,aW m k):=by
 obtain⟨l,hl⟩:=Ua h
 unfold aW
 rw[Dt,hl];rfl
theorem XP{m:SM}{k:Ky}(h:¬rB m k<m.length):aW m k=[]:=by
 unfold aW
 rw[Dt,List.getElem?_eq_none (by omega)];rfl
theorem gj(R:RL)(a i:Int)(hn:R.st.length<=100000):aj Tryz.prog 56 [.ptr 0 0,.dv (I a),.dv (I i)] 4 (de R) 0 [.dv (aM (aW R.st (a,i)))] (de R):=by
 refine cO Tryz.func56 rfl (by kernel_rfl) ?_
 refine .inr (cl [0,1,2,3] (find_spec R a i hn) (by kernel_rfl) rfl rfl ?_)
 refine T5 ?_ ?_
 ·intro h
  have h:=adz h
  have hc:¬rB R.st (a,i)<R.st.length:=fun hc=>by rw[if_pos hc]at h;omega
  rw[XP hc]
  exact⟨_,_,⟨rfl,rfl⟩,by kernel_rfl,⟨DV.aI 3,tv⟩,aV (k:=de R) rfl⟩
 ·intro h
  have h:=adA h
  have hc:rB R.st (a,i)<R.st.length:=Decidable.byContradiction fun hc=>by rw[if_neg hc]at h;omega
  have hx:=Qy hc
  simp only[if_pos hc]
  refine⟨fun _=>⟨by omega,by rw[WY];omega⟩,fB ((a,i),aW R.st (a,i)),fun _=>by rw[abW];simp[hx],?_⟩
  exact ext (by kernel_rfl) rfl rfl
theorem BT(R:RL)(a i:Int)(hn:R.st.length<=100000)(hl:(aW R.st (a,i)).length<=1000000):aj Tryz.prog 44 [.ptr 0 0,.dv (I a),.dv (I i)] 4 (de R) 0 [.dv (I (br (aW R.st (a,i))))] (de R):=by
 refine cO Tryz.func44 rfl (by kernel_rfl) ?_
 refine .inr (cl [0,1,2,3] (gj R a i hn) (by kernel_rfl) rfl rfl ?_)
 refine .inl ⟨_,fun _=>(kV _ hl).ok,?_⟩
 exact ext (by kernel_rfl) rfl rfl
end
end Go.Proofs.YtmojfblpbcficaaGreatDoor
