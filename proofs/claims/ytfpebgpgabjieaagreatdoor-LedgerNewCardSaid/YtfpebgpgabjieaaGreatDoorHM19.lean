import Derived.Test.YtfpebgpgabjieaaGreatDoorHM18
set_option linter.all false
open Go.TM.oA Go.TM.oB Go.TM.oC Go.TM.oD Go.TM.oE
namespace Go.Proofs.YtfpebgpgabjieaaGreatDoor
set_option maxRecDepth 100000
set_option maxHeartbeats 2000000
section
open Go.TM
theorem yw{l:List Int}{j:Nat}{x:Int}(hx:l[j]?=some x):(l.take (j+1)).sum=(l.take j).sum+x:=by
 rw[ads,hx,List.sum_append];simp
theorem V9:∀{l:List Int},(∀x∈l,0<=x/\x<=1099511627776)->0<=l.sum/\l.sum<=1099511627776*l.length
 |[],_=>by simp
 |x::l,h=>by
  have h1:=h x adu
  have h2:=V9 fun y hy=>h y (adq x hy)
  simp only[List.sum_cons,List.length_cons]at*
  omega
theorem Xv{l:List Int}(h:∀x∈l,0<=x/\x<=1099511627776)(hl:l.length<=5000)(j:Nat):0<=(l.take j).sum/\(l.take j).sum<=5497558138880000:=by
 have h1:=V9 fun x hx=>h x (List.mem_of_mem_take (i:=j) hx)
 have h2:(l.take j).length<=l.length:=by rw[adD];omega
 omega
theorem HX:∀{l:List Int},(∀x∈l,0<=x)->∀x∈l,x<=l.sum
 |y::l,h,x,hx=>by
  have h1:=h y adu
  have h3:=yn fun z hz=>h z (adq y hz)
  rw[List.sum_cons]
  rcases adp.1 hx with rfl|hx
  ·omega
  ·have h2:=HX (fun z hz=>h z (adq y hz)) x hx
   omega
theorem ta:∀{l:List Int} (j:Nat),(∀x∈l,0<=x)->0<=(l.take j).sum/\(l.take j).sum<=l.sum
 |l,0,h=>by simpa using yn h
 |[],j+1,_=>by simp
 |x::l,j+1,h=>by
  have h1:=h x adu
  have h2:=ta (l:=l) j fun y hy=>h y (adq x hy)
  simp only[List.take_succ_cons,List.sum_cons];omega
def rQ(rs:List Int)(i:Nat):Nat:=(List.range' 1 (i-1)).foldl (Ac rs) 0
theorem LX(rs:List Int){i:Nat}(h:1<=i):rQ rs (i+1)=Ac rs (rQ rs i) i:=by
 unfold rQ
 rw[show i+1-1=(i-1)+1 by omega,List.range'_1_concat,adI]
 rw[show 1+(i-1)=i by omega];rfl
theorem Ua(rs:List Int){i:Nat}(h:1<=i):rQ rs i<i:=by
 have:=(ym rs (i-1) 1 0 (by omega) fun j hj=>by
  have:j=0:=by omega
  subst this;simp[fE]).1
 unfold rQ;omega
variable [aW]
theorem bI{n:Nat}(h:n<=1000000):n*(nth jk (nth jk 22).elem).bytes<=140737488355328:=by
 rw[show(nth jk (nth jk 22).elem).bytes=8 by kernel_rfl];omega
theorem Ba(n:Int):ai Tryz.prog 252 [I n] [B (decide (0<=n/\n<=1099511627776))]:=by
 refine pO Tryz.func252 rfl (by kernel_rfl) rfl ?_
 repeat refine gG ?_
 refine⟨DV.Le.of_eq ?_,tv⟩
 congr 1
 rw[adO];simp
theorem Fg(t:Int)(ws:List Int)(ht:0<=t/\t<=1099511627776)(hw:∀w∈ws,0<=w/\w<=1099511627776)(hl:ws.length<=5000)(hs:0<ws.sum)(GX:t<=ws.sum):ai Tryz.prog 241 [I t,Ints ws] [Ints (zL t ws),I 0]:=by
 refine pO Tryz.func241 rfl (by kernel_rfl) rfl ?_
 have aq:=Xv hw hl
 have hsm:=aq ws.length
 rw[ady]at hsm
 refine⟨Nat,fun i=>⟨0,[(0,.dv (I t)),(1,.dv (Ints ws)),(6,.dv (I (ws.take i).sum)),(7,.dv (I i))],[]⟩,fun i=>i<=ws.length,fun i=>ws.length-i,0,fun _=>rfl,jn rfl rfl rfl rfl,adx _,?_⟩
 rintro i hi
 have b1:=aq i
 refine adh ?_ ?_
 ·intro h
  have aB:i<ws.length:=by have:=adz h;rw[adi]at this;omega
  have hx:=abK aB
  generalize ws[i]=x at hx
  have Fh:=hw x (adl hx)
  refine⟨I x,fun _=>⟨by omega,by rw[adk];simp[hx]⟩,?_⟩
  refine .inl ⟨_,fun _=>(Ba x).ok,?_⟩
  rw[adF Fh]
  repeat refine gG ?_
  refine adh (fun h=>by simp at h;omega) fun _=>?_
  refine⟨I x,fun _=>⟨by omega,by rw[adk];simp[hx]⟩,?_⟩
  exact⟨fun _=>by omega,fun _=>by omega,i+1,jn (by simp only[yw hx];rfl) rfl rfl rfl,by omega,mlt aB⟩
 intro h
 have he:i=ws.length:=by have:=adA h;rw[adi]at this;omega
 subst he
 simp only[ady]
 refine .inl ⟨_,fun _=>(Ba t).ok,?_⟩
 rw[adF ht]
 repeat refine gG ?_
 refine adh (fun h=>by simp at h;omega) fun _=>?_
 have hql:(qL t ws.sum ws).length=ws.length:=by simp[qL]
 have SR:(rL t ws.sum ws).length=ws.length:=by simp[rL]
 have vz:∀x∈qL t ws.sum ws,0<=x:=fun x hx=>by
  obtain⟨w,K9,rfl⟩:=adK.1 hx
  exact Int.ediv_nonneg (Int.mul_nonneg ht.1 (hw w K9).1) (by omega)
 have ZW:=Xo (t:=t) hs (ws:=ws)
 obtain⟨l1,l2,l3⟩:=wU (t:=t) hs
 have Xw:(qL t ws.sum ws).sum<=t:=by unfold gf at l1;omega
 have hw0:∀w∈ws,0<=w:=fun w K9=>(hw w K9).1
 have hqe:∀{i:Nat} {x:Int},ws[i]?=some x->(qL t ws.sum ws)[i]?=some (t*x/ws.sum)/\(rL t ws.sum ws)[i]?=some (t*x%ws.sum):=fun h=>by simp[qL,rL,h]
 have Ub:zL t ws=plus (rL t ws.sum ws) (qL t ws.sum ws) (gf t ws.sum ws).toNat:=rfl
 have hLd:gf t ws.sum ws=t-(qL t ws.sum ws).sum:=rfl
 have hLl:(gf t ws.sum ws).toNat<=ws.length:=by
  have:(rL t ws.sum ws).countP (fun x=>decide (0<x))<=(rL t ws.sum ws).length:=List.countP_le_length
  omega
 generalize zL t ws=res at*
 generalize gf t ws.sum ws=L at*
 generalize qL t ws.sum ws=Q at*
 generalize rL t ws.sum ws=R at*
 refine⟨Nat,fun i=>⟨2,[(0,.dv (I t)),(1,.dv (Ints ws)),(6,.dv (I ws.sum)),(10,.own 0 0 0 []),(11,.own 1 0 0 []),(12,.dv (I (t-(Q.take i).sum))),(13,.dv (I i))],[(0,.tree 0 0 (.aI 1 ((Q.take i).map I))),(1,.tree 0 0 (.aI 1 ((R.take i).map I)))]⟩,fun i=>i<=ws.length,fun i=>ws.length-i,0,fun _=>rfl,⟨⟨rf,rf,rf,⟨rfl,rfl,rfl,rfl,1,rfl⟩,⟨rfl,rfl,rfl,rfl,1,rfl⟩,aM (by simp),rf,tv⟩,⟨⟨rfl,rfl,1,rfl⟩,⟨rfl,rfl,1,rfl⟩,tv⟩,rfl,rfl⟩,adx _,?_⟩
 rintro i hi
 have c1:=ta i vz
 refine adh ?_ ?_
 ·intro h
  have aB:i<ws.length:=by have:=adz h;rw[adi]at this;omega
  have hx:=abK aB
  generalize ws[i]=x at hx
  have hxm:=adl hx
  have Fh:=hw x hxm
  have D4:=HX hw0 x hxm
  obtain⟨e1,e2⟩:=hqe hx
  have c2:=ta (i+1) vz
  have e3:=yw e1
  rw[e3]at c2
  refine⟨I x,fun _=>⟨by omega,by rw[adk];simp[hx]⟩,?_⟩
  refine .inl ⟨_,fun _=>(LW t x ws.sum (by omega) ⟨by omega,D4⟩ (by omega)).ok,?_⟩
  generalize t*x/ws.sum=q at*
  generalize t*x%ws.sum=r at*
  have f1:(Q.take (i+1)).map I=(Q.take i).map I++[I q]:=by rw[ads,e1];simp
  have f2:(R.take (i+1)).map I=(R.take i).map I++[I r]:=by rw[ads,e2];simp
  have g1':((Q.take i).map I).length<=5000:=by rw[adi,adD];omega
  have g2':((R.take i).map I).length<=5000:=by rw[adi,adD];omega
  refine .inl ⟨[I q],rfl,⟨rf,tv⟩,(by simp;rfl),?_⟩
  refine .inr ⟨[I q],bW.refl _,bI (by simp only[List.length_cons,List.length_nil];omega),by simp only[List.length_cons,List.length_nil];omega,?_⟩
  refine .inl ⟨[I r],rfl,⟨rf,tv⟩,(by simp;rfl),?_⟩
  refine .inr ⟨[I r],bW.refl _,bI (by simp only[List.length_cons,List.length_nil];omega),by simp only[List.length_cons,List.length_nil];omega,?_⟩
  exact⟨fun _=>by omega,fun _=>by omega,i+1,jn (by simp only[e3,<-Int.sub_sub];rfl) (by simp only[f1,f2];rfl) rfl rfl,by omega,mlt aB⟩
 intro h
 have he:i=ws.length:=by have:=adA h;rw[adi]at this;omega
 subst he
 have eQ:Q.take ws.length=Q:=List.take_of_length_le (by omega)
 have eR:R.take ws.length=R:=List.take_of_length_le (by omega)
 have hRn:∀r∈R,0<=r:=fun r hr=>(ZW r hr).1
 have hon:=fun k=>@Ph R Q hRn (by omega) k
 have Xx:∀k,(Cz (Q,R) k).1.length=ws.length/\(Cz (Q,R) k).2.length=ws.length:=fun k=>by
  induction k with
  |zero=>exact⟨hql,SR⟩
  |succ k ih=>exact⟨(wT _ _).trans ih.1,(List.length_set ..).trans ih.2⟩
 refine⟨Nat,fun k=>⟨2,[(10,.own 0 0 0 []),(11,.own 1 0 0 []),(12,.dv (I (L-k)))],[(0,.tree 0 0 (.aI 1 ((Cz (Q,R) k).1.map I))),(1,.tree 0 0 (.aI 1 ((Cz (Q,R) k).2.map I)))]⟩,fun k=>k<=L.toNat,fun k=>L.toNat-k,0,fun _=>rfl,⟨⟨rfl,rfl,aM (by rw[eQ,<-hLd];simp),tv⟩,⟨⟨rfl,by rw[eQ];rfl⟩,⟨rfl,by rw[eR];rfl⟩,tv⟩,rfl,rfl⟩,adx _,?_⟩
 rintro k hk
 refine adh ?_ ?_
 ·intro h
  have aB:k<L.toNat:=by have:=adz h;omega
  obtain⟨n1,n2⟩:=Xx k
  have fM:Cz (Q,R) (k+1)=onR (Cz (Q,R) k):=rfl
  have K8:=hon (k+1) (by omega)
  have LY:=hon k (by omega)
  generalize CF:Cz (Q,R) k=o at*
  obtain⟨o1,o2⟩:=o
  simp only at n1 n2
  refine⟨Nat,fun i=>⟨2,[(10,.own 0 0 0 []),(11,.own 1 0 0 []),(12,.dv (I (L-k))),(17,.dv (I (rQ o2 i))),(18,.dv (I i))],[(0,.tree 0 0 (.aI 1 (o1.map I))),(1,.tree 0 0 (.aI 1 (o2.map I)))]⟩,fun i=>1<=i/\i<=ws.length,fun i=>ws.length-i,1,fun _=>rfl,jn (by simp only[CF];rfl) (by simp only[CF];rfl) rfl rfl,by omega,?_⟩
  rintro i ⟨NC,zM⟩
  have hbl:=Ua o2 NC
  have Hh:=LX o2 NC
  refine adh ?_ ?_
  ·intro h
   have Fi:i<ws.length:=by have:=adz h;rw[adi]at this;omega
   have hx:=abK (show i<o2.length by omega)
   have hy:=abK (show rQ o2 i<o2.length by omega)
   have dx:o2.getD i 0=o2[i]:=by rw[adn,hx];rfl
   have dy:o2.getD (rQ o2 i) 0=o2[rQ o2 i]:=by rw[adn,hy];rfl
   generalize o2[i]=x at hx dx
   generalize o2[rQ o2 i]=y at hy dy
   refine⟨fun _=>⟨by omega,by rw[adi];omega⟩,I x,fun _=>by rw[adk];simp[hx],?_⟩
   refine⟨fun _=>⟨by omega,by rw[adi];omega⟩,I y,fun _=>by rw[adk];simp[hy],?_⟩
   refine adh (by kernel_rfl) (adh ?_ ?_)
   ·intro h
    have h:=adz h
    have hb:rQ o2 (i+1)=i:=by rw[Hh];unfold Ac;rw[dx,dy,if_pos h]
    exact⟨fun _=>by omega,i+1,jn (by simp only[hb];rfl) rfl rfl rfl,by omega,mlt Fi⟩
   ·intro h
    have h:=adA h
    have hb:rQ o2 (i+1)=rQ o2 i:=by rw[Hh];unfold Ac;rw[dx,dy,if_neg h]
    exact⟨fun _=>by omega,i+1,jn (by simp only[hb];rfl) rfl rfl rfl,by omega,mlt Fi⟩
  ·intro h
   have Fi:i=ws.length:=by have:=adA h;rw[adi]at this;omega
   subst Fi
   have Zd:rQ o2 ws.length=yl o2:=by unfold rQ yl;rw[n2]
   simp only[Zd]
   rw[Zd]at hbl
   simp only at LY
   have aaH:Cz (Q,R) (k+1)=(kE o1 (yl o2),o2.set (yl o2) (-1)):=fM
   clear fM K8
   generalize yl o2=b at*
   have hx:=abK (show b<o1.length by omega)
   have hy:=abK (show b<o2.length by omega)
   have dx:o1.getD b 0=o1[b]:=by rw[adn,hx];rfl
   have Fh:0<=o1[b]/\o1[b]<=t+1:=by
    rw[<-dx,LY,yj (by omega)]
    have hq:Q.getD b 0∈Q:=by rw[adn,abK (by omega)];exact adP _
    have h1:=HX vz _ hq
    have h2:=vz _ hq
    split<;>omega
   generalize o1[b]=x at hx dx Fh
   generalize o2[b]=y at hy
   refine⟨fun _=>⟨by omega,by rw[adi];omega⟩,I x,fun _=>by rw[adk];simp[hx],?_⟩
   refine⟨fun _=>by omega,fun _=>⟨by omega,by rw[adi];omega⟩,?_⟩
   refine⟨[I (x+1)],⟨rf,tv⟩,I x,by rw[adk];simp[hx],?_⟩
   refine⟨fun _=>⟨by omega,by rw[adi];omega⟩,?_⟩
   refine⟨[I (-1)],⟨rf,tv⟩,I y,by rw[adk];simp[hy],?_⟩
   have f1:(o1.map I).set (b:Int).toNat (I (x+1))=(kE o1 b).map I:=by
    rw[Int.toNat_natCast];unfold kE;rw[dx,List.map_set]
   have f2:(o2.map I).set (b:Int).toNat (I (-1))=(o2.set b (-1)).map I:=by
    rw[Int.toNat_natCast,List.map_set]
   exact⟨fun _=>by omega,k+1,⟨⟨rfl,rfl,aM (by omega),tv⟩,⟨⟨rfl,by rw[aaH];exact congrArg (DV.aI 1) f1⟩,⟨rfl,by rw[aaH];exact congrArg (DV.aI 1) f2⟩,tv⟩,rfl,rfl⟩,by omega,mlt aB⟩
 ·intro h
  have hkL:k=L.toNat:=by have:=adA h;omega
  subst hkL
  refine⟨?_,rf,tv⟩
  rw[hon _ (by omega),<-Ub]
  exact DV.Le.of_eq (by show DV.sl 1 (wW (res.map I))=_;rw[fq (fun _=>rfl)])
end
section
open Go.TM
def cw:Int->List Lt->List Int
 |_,[]=>[]
 |n,x::r=>min n x.n::cw (n-min n x.n) r
theorem yx:∀(n:Int) (s:List Lt),(cw n s).length=s.length
 |_,[]=>rfl
 |n,x::r=>by simp[cw,yx]
theorem yz:∀{n:Int} {s:List Lt} {i:Nat} {x:Lt},s[i]?=some x->(cw n s)[i]?=some (min (n-((cw n s).take i).sum) x.n)
 |n,y::r,0,x,h=>by simp at h;subst h;simp[cw]
 |n,y::r,i+1,x,h=>by
  have ih:=yz (n:=n-min n y.n) (s:=r) (i:=i) (by simpa using h)
  simp only[cw,List.getElem?_cons_succ,List.take_succ_cons,List.sum_cons]
  rw[ih,<-Int.sub_sub]
theorem yA:∀{n:Int} {s:List Lt},0<=n->(∀x∈s,0<=x.n)->(∀k∈cw n s,0<=k)/\(cw n s).sum<=n/\(n<=cM s->(cw n s).sum=n)
 |n,[],h,_=>by refine⟨by simp[cw],by simpa[cw]using h,fun h2=>?_⟩;simp[cM]at h2;simp[cw];omega
 |n,x::r,h,hx=>by
  have h1:=hx x adu
  obtain⟨a1,a2,a3⟩:=yA (n:=n-min n x.n) (s:=r) (by omega) fun y hy=>hx y (adq _ hy)
  refine⟨fun k hk=>?_,by simp only[cw,List.sum_cons];omega,fun h2=>?_⟩
  ·simp only[cw,adp]at hk
   rcases hk with rfl|hk
   ·omega
   ·exact a1 k hk
  ·simp only[cM,List.map_cons,List.sum_cons]at h2 a3
   simp only[cw,List.sum_cons]
   by_cases hc:n<=x.n
   ·have:min n x.n=n:=by omega
    rw[this]at a2⊢
    have:=yn a1
    rw[show min n x.n=n by omega]at this
    omega
   ·have:=a3 (by omega)
    omega
def pK(s:List Lt)(n:Int)(mixed:Bool):List Int:=bif mixed&&decide (0<n)then zL n (s.map (·.n))else cw n s
def tkF(p:List Lt×List Lt)(q:Lt×Int):List Lt×List Lt:=(aT p.1 ⟨q.1.f,q.1.a,q.2⟩,aT p.2 ⟨q.1.f,q.1.a+q.2,q.1.n-q.2⟩)
def mi(s:List Lt)(ks:List Int)(i:Nat):List Lt×List Lt:=((s.zip ks).take i).foldl tkF ([],[])
def fJ(s:List Lt)(n:Int)(mixed:Bool):List Lt×List Lt:=mi s (pK s n mixed) s.length
def Wa(s:List Lt)(ks:List Int):Prop:=ks.length=s.length/\∀(i:Nat) (x:Lt),s[i]?=some x->0<=ks.getD i 0/\ks.getD i 0<=x.n
theorem pL(s:List Lt):(s.map (·.n)).sum=cM s:=rfl
theorem wX{s:List Lt}{n:Int}(mixed:Bool)(hn:0<=n)(hs:∀x∈s,aJ x=true)(ht:n<=cM s):Wa s (pK s n mixed):=by
 have hp:∀x∈s,0<=x.n:=fun x hx=>(mU (hs x hx)).1
 unfold pK
 cases hc:mixed&&decide (0<n)with
 |true=>
  have h0:0<n:=by simp at hc;exact hc.2
  refine⟨by simp[Kc],fun i x hx=>?_⟩
  have hl:=(adj.1 hx).1
  have:=V5 (t:=n) (ws:=s.map (·.n)) hn (fun w hw=>by obtain⟨y,hy,rfl⟩:=adK.1 hw;exact hp y hy) (by rw[pL];omega) (by rw[pL];exact ht) (i:=i) (by simpa using hl)
  rw[show(s.map (·.n)).getD i 0=x.n by simp[adn,hx]]at this
  exact this
 |false=>
  refine⟨yx _ _,fun i x hx=>?_⟩
  have h1:=yz (n:=n) hx
  obtain⟨a1,a2,_⟩:=yA (s:=s) hn hp
  have h2:=ta i a1
  have h3:=hp x (adl hx)
  show 0<=(cw n s).getD i 0/\(cw n s).getD i 0<=x.n
  rw[adn,h1]
  simp only[Option.getD_some]
  omega
theorem iF{l:List Lt}{x:Lt}(hl:∀y∈l,aJ y=true)(hx:0<=x.f/\0<=x.a/\0<=x.n/\x.a+x.n<=1099511627776):∀y∈aT l x,aJ y=true:=by
 have h1:=E4 (l:=l) (x:=x) (fun y hy=>(ak.1 (hl y hy)).2.2.1) hx.2.2.1
 intro y hy
 have h2:=h1 y hy
 unfold aT at hy
 split at hy
 ·exact hl y hy
 split at hy
 ·rename_i h0 z hz
  have hzp:=ak.1 (hl z (List.mem_of_getLast? hz))
  split at hy
  ·rename_i hc
   rcases adr.1 hy with h|h
   ·exact hl y (List.dropLast_subset _ h)
   ·rw[ado]at h;subst h;rw[ak];simp only;omega
  ·rcases adr.1 hy with h|h
   ·exact hl y h
   ·rw[ado]at h;subst h;rw[ak];omega
 ·rw[ado]at hy;subst hy;rw[ak];omega
theorem yB{s:List Lt}{ks:List Int}{i:Nat}{x:Lt}{k:Int}(hx:s[i]?=some x)(hk:ks[i]?=some k):mi s ks (i+1)=tkF (mi s ks i) (x,k):=by
 unfold mi
 rw[ads,List.getElem?_zip_eq_some (z:=(x,k)) |>.2 ⟨hx,hk⟩,adI];rfl
theorem HY{s:List Lt}{ks:List Int}(hs:∀x∈s,aJ x=true)(hk:Wa s ks):∀i,i<=s.length->(∀y∈(mi s ks i).1,aJ y=true)/\(∀y∈(mi s ks i).2,aJ y=true)/\(mi s ks i).1.length<=i/\(mi s ks i).2.length<=i
 |0,_=>by simp[mi]
 |i+1,h=>by
  obtain⟨h1,h2,h3,h4⟩:=HY hs hk i (by omega)
  obtain⟨x,hx⟩:∃x,s[i]?=some x:=⟨_,abK (show i<s.length by omega)⟩
  obtain⟨k,Fj⟩:∃k,ks[i]?=some k:=⟨_,abK (show i<ks.length by rw[hk.1];omega)⟩
  have hb:=hk.2 i _ hx
  rw[adn,Fj]at hb
  simp only[Option.getD_some]at hb
  have hp:=ak.1 (hs _ (adl hx))
  rw[yB hx Fj]
  generalize mi s ks i=p at*
  refine⟨iF h1 ⟨hp.1,hp.2.1,hb.1,by simp only;omega⟩,iF h2 ⟨hp.1,by simp only;omega,by simp only;omega,by simp only;omega⟩,?_,?_⟩
  ·exact Nat.le_trans (fb p.1 _) (by omega)
  ·exact Nat.le_trans (fb p.2 _) (by omega)
variable [aW]
theorem Fk(s:List Lt)(n:Int)(mixed:Bool)(hn:0<=n/\n<=1099511627776)(hs:bE s=true)(ht:n<=cM s):ai Tryz.prog 227 [aR s,I n,B mixed] [Ints (pK s n mixed)]:=by
 refine pO Tryz.func227 rfl (by kernel_rfl) rfl ?_
 obtain⟨hl,hp⟩:=fI hs
 have hp0:∀x∈s,0<=x.n:=fun x hx=>(mU (hp x hx)).1
 obtain⟨a1,a2,_⟩:=yA (s:=s) hn.1 hp0
 have ou:=yx n s
 refine⟨Nat,fun i=>⟨2,[(0,.dv (aR s)),(1,.dv (I n)),(2,.dv (B mixed)),(7,.own 0 0 0 []),(8,.own 1 0 0 []),(9,.dv (I (n-((cw n s).take i).sum))),(10,.dv (I i))],[(0,.tree 0 0 (.aI 1 ((s.take i).map fun x=>I x.n))),(1,.tree 0 0 (.aI 1 (((cw n s).take i).map I)))]⟩,fun i=>i<=s.length,fun i=>s.length-i,0,fun _=>rfl,⟨⟨rf,rf,rf,⟨rfl,rfl,rfl,rfl,1,rfl⟩,⟨rfl,rfl,rfl,rfl,1,rfl⟩,aM (by simp),rf,tv⟩,⟨⟨rfl,rfl,1,rfl⟩,⟨rfl,rfl,1,rfl⟩,tv⟩,rfl,rfl⟩,adx _,?_⟩
 rintro i hi
 have c1:=ta i a1
 refine adh ?_ ?_
 ·intro h
  have aB:i<s.length:=by have:=adz h;rw[adi]at this;omega
  have hx:=abK aB
  generalize s[i]=x at hx
  have ND:=mU (hp x (adl hx))
  have e1:=yz (n:=n) hx
  have e3:=yw e1
  have f1:((s.take (i+1)).map fun x=>I x.n)=((s.take i).map fun x=>I x.n)++[I x.n]:=by rw[ads,hx];simp
  have f2:((cw n s).take (i+1)).map I=((cw n s).take i).map I++[I (min (n-((cw n s).take i).sum) x.n)]:=by rw[ads,e1];simp
  have l1:((s.take i).map fun x=>I x.n).length<=5000:=by rw[adi,adD];omega
  have l2:(((cw n s).take i).map I).length<=5000:=by rw[adi,adD];omega
  refine⟨aD x,fun _=>⟨by omega,by rw[adk];simp[hx]⟩,?_⟩
  refine .inl ⟨[I x.n],rfl,⟨rf,tv⟩,(by simp;rfl),?_⟩
  refine .inr ⟨[I x.n],bW.refl _,bI (by simp only[List.length_cons,List.length_nil];omega),by simp only[List.length_cons,List.length_nil];omega,?_⟩
  refine⟨aD x,fun _=>⟨by omega,by rw[adk];simp[hx]⟩,?_⟩
  have em:(if x.n<n-((cw n s).take i).sum then x.n else n-((cw n s).take i).sum)=min (n-((cw n s).take i).sum) x.n:=by split<;>omega
  refine .inl ⟨[I (min (n-((cw n s).take i).sum) x.n)],rfl,⟨aM em,tv⟩,(by simp;rfl),?_⟩
  refine .inr ⟨[I (min (n-((cw n s).take i).sum) x.n)],bW.refl _,bI (by simp only[List.length_cons,List.length_nil];omega),by simp only[List.length_cons,List.length_nil];omega,?_⟩
  exact⟨fun _=>by rw[em];omega,fun _=>by omega,i+1,⟨⟨rf,rf,rf,rfl,rfl,aM (by rw[em];omega),rf,tv⟩,⟨⟨rfl,by rw[f1]⟩,⟨rfl,by rw[f2]⟩,tv⟩,rfl,rfl⟩,by omega,mlt aB⟩
 intro h
 have he:i=s.length:=by have:=adA h;rw[adi]at this;omega
 subst he
 have eF:(cw n s).take s.length=cw n s:=List.take_of_length_le (by omega)
 simp only[ady,eF]
 repeat refine gG ?_
 refine adh ?_ ?_
 ·intro h
  have h:=bZ h
  have h0:0<n:=adz h.2
  have hm:mixed=true:=h.1
  have hc:pK s n mixed=zL n (s.map (·.n)):=by unfold pK;rw[hm,adF h0];rfl
  have ns:=(Fg n (s.map (·.n)) hn (fun w hw=>by obtain⟨y,hy,rfl⟩:=adK.1 hw;exact mU (hp y hy)) (by rw[adi];omega) (by rw[pL];omega) (by rw[pL];exact ht)).ok
  have hz:oT (.aI 1 (s.map fun x=>I x.n))=Ints (s.map (·.n)):=by
   show DV.sl 1 (wW _)=DV.sl 1 _
   rw[fq (fun _=>rfl),List.map_map];rfl
  rw[<-hz]at ns
  refine .inl (.inr ⟨_,fun _=>ns,?_⟩)
  rw[hc]
  exact⟨rf,tv⟩
 ·intro h
  have hc:pK s n mixed=cw n s:=by
   unfold pK
   have:=gI h
   cases mixed with
   |false=>rfl
   |true=>
    have:¬0<n:=fun h0=>this ⟨rfl,adF h0⟩
    rw[adG this];rfl
  rw[hc]
  exact⟨DV.Le.of_eq (by show DV.sl 1 (wW ((cw n s).map I))=_;rw[fq (fun _=>rfl)]),tv⟩
def Fl(s:List Lt)(n:Int)(mixed:Bool):List DV:=bif decide (cT s<n)then[aR [],aR [],I 10]else[aR (fJ s n mixed).1,aR (fJ s n mixed).2,I 0]
theorem Uc{s:List Lt}(h:bE s=true):cT s=cM s:=by unfold cT;rw[h];rfl
theorem HZ(s:List Lt)(n:Int)(mixed:Bool)(hn:0<=n/\n<=1099511627776)(hs:bE s=true):ai Tryz.prog 200 [aR s,I n,B mixed] (Fl s n mixed):=by
 refine pO Tryz.func200 rfl (by kernel_rfl) rfl ?_
 obtain⟨hl,hp⟩:=fI hs
 refine .inl ⟨_,fun _=>(gD s (by omega)).ok,?_⟩
 rw[hs]
 repeat refine gG ?_
 refine adh (fun h=>by simp at h;omega) fun _=>?_
 refine .inl ⟨_,fun _=>(qu s (by omega)).ok,?_⟩
 refine adh ?_ ?_
 ·intro h
  unfold Fl
  rw[h]
  exact⟨DV.aY 3,DV.aY 3,rf,tv⟩
 intro h
 have ht:n<=cM s:=by have:=adA h;rw[Uc hs]at this;omega
 unfold Fl
 rw[h]
 have hk:=wX mixed hn.1 hp ht
 refine .inl ⟨_,fun _=>(Fk s n mixed hn hs ht).ok,?_⟩
 have hM:fJ s n mixed=mi s (pK s n mixed) s.length:=rfl
 generalize pK s n mixed=ks at*
 refine⟨Nat,fun i=>⟨0,[(0,.dv (aR s)),(10,.dv (Ints ks)),(11,.dv (aR (mi s ks i).1)),(12,.dv (aR (mi s ks i).2)),(13,.dv (I i))],[]⟩,fun i=>i<=s.length,fun i=>s.length-i,0,fun _=>rfl,⟨⟨rf,rf,DV.aY 3,DV.aY 3,rf,tv⟩,tv,rfl,rfl⟩,adx _,?_⟩
 rintro i hi
 refine adh ?_ ?_
 ·intro h
  have aB:i<s.length:=by have:=adz h;rw[adi]at this;omega
  obtain⟨x,hx⟩:∃x,s[i]?=some x:=⟨_,abK aB⟩
  obtain⟨k,Fj⟩:∃k,ks[i]?=some k:=⟨_,abK (show i<ks.length by rw[hk.1];omega)⟩
  have hb:=hk.2 i _ hx
  rw[adn,Fj]at hb
  simp only[Option.getD_some]at hb
  have ND:=ak.1 (hp x (adl hx))
  obtain⟨p1,p2,p3,p4⟩:=HY hp hk i (by omega)
  have fM:=yB hx Fj
  generalize hq:mi s ks i=q at*
  have ab:∀{l:List Lt},(∀y∈l,aJ y=true)->∀y∈l,0<=y.a/\y.a<=1099511627776/\0<=y.n/\y.n<=1099511627776:=fun h y hy=>by have:=ak.1 (h y hy);omega
  have ix:(s.map aD)[(i:Int).toNat]?=some (aD x):=by rw[adk];simp[hx]
  have ik:(ks.map I)[(i:Int).toNat]?=some (I k):=by rw[adk];simp[Fj]
  have ku:=(pJ q.1 ⟨x.f,x.a,k⟩ (by omega) (ab p1) (by simp only;omega)).ok
  have lH:=(pJ q.2 ⟨x.f,x.a+k,x.n-k⟩ (by omega) (ab p2) (by simp only;omega)).ok
  refine⟨aD x,fun _=>⟨by omega,ix⟩,aD x,fun _=>⟨by omega,ix⟩,I k,fun _=>⟨by omega,ik⟩,?_⟩
  simp only[hq]
  refine .inl ⟨_,fun _=>ku,?_⟩
  refine⟨by kernel_rfl,?_⟩
  refine⟨aD x,fun _=>⟨by omega,ix⟩,aD x,fun _=>⟨by omega,ix⟩,I k,fun _=>⟨by omega,ik⟩,fun _=>by omega,aD x,fun _=>⟨by omega,ix⟩,I k,fun _=>⟨by omega,ik⟩,fun _=>by omega,?_⟩
  refine .inl ⟨_,fun _=>lH,?_⟩
  exact⟨by kernel_rfl,fun _=>by omega,i+1,jn (by simp only[fM];rfl) rfl rfl rfl,by omega,mlt aB⟩
 ·intro h
  have he:i=s.length:=by have:=adA h;rw[adi]at this;omega
  subst he
  rw[hM]
  exact⟨rf,rf,rf,tv⟩
end
section
open Go.TM
def jZ(l:Lt)(s:List Lt)(i:Nat):V3:=(s.take i).foldl (wo l) ⟨[],[],l.a,l.a+l.n⟩
theorem Bb{l:Lt}{s:List Lt}{i:Nat}{x:Lt}(hx:s[i]?=some x):jZ l s (i+1)=wo l (jZ l s i) x:=by
 unfold jZ;rw[ads,hx,adI];rfl
structure InB(l:Lt)(i:Nat)(s:V3):Prop where
 lo:0<=s.fr/\s.fr<=l.a
 hi:l.a+l.n<=s.to/\s.to<=1099511627776
 len:s.TN.length+s.TO.length<=i
theorem H0{l:Lt}{s:List Lt}(hs:∀x∈s,aJ x=true)(hl:aJ l=true):∀i,InB l i (jZ l s i)
 |0=>by have:=ak.1 hl;exact⟨⟨this.2.1,Int.le_refl _⟩,⟨Int.le_refl _,this.2.2.2⟩,adM _⟩
 |i+1=>by
  obtain⟨h1,h2,h3⟩:=H0 hs hl i
  cases hx:s[i]? with
  |none=>
   have:jZ l s (i+1)=jZ l s i:=by unfold jZ;rw[ads,hx];simp
   rw[this];exact⟨h1,h2,by omega⟩
  |some x=>
   have hp:=ak.1 (hs x (adl hx))
   rw[Bb hx]
   generalize jZ l s i=z at*
   unfold wo
   split
   ·exact⟨h1,h2,by simp only[adv,List.length_cons,List.length_nil];omega⟩
   split
   ·exact⟨h1,h2,by simp only[adv,List.length_cons,List.length_nil];omega⟩
   ·exact⟨by simp only;omega,by simp only;omega,by simp only;omega⟩
theorem ab5(l:List Lt):∀x,x∈l.map aD->x.aQ:=fun x hx d hd=>by
 obtain⟨y,_,rfl⟩:=adK.1 hx
 simp only[aD,DV.cells,adp,List.mem_nil_iff,or_false]at hd
 rcases hd with rfl|rfl|rfl<;>rfl
theorem PC{s:List Lt}{l:Lt}(hs:∀x∈s,aJ x=true)(hl:aJ l=true)(hn:NS s):(∀x∈kB s l,aJ x=true)/\(kB s l).length<=s.length+1:=by
 have hb:=H0 hs hl s.length
 have hr:kB s l=Pc l (jZ l s s.length):=by unfold kB jZ;rw[ady]
 have h0:yf l [] ⟨[],[],l.a,l.a+l.n⟩:=⟨.slnil,.slnil,fun _ h=>(by cases h),fun _ h=>(by cases h),Int.le_refl _,Int.le_refl _,fun f u=>by
  have a:¬has [] f u:=cA
  exact⟨fun h=>.inr ((h.resolve_left a).resolve_left a),fun h=>.inr (.inr (h.resolve_left a))⟩⟩
 have ZG:=ak.1 hl
 have h:=yf.fold (by omega) s [] _ (by simpa using hn) h0
 simp only[List.nil_append]at h
 have e:s.foldl (wo l) ⟨[],[],l.a,l.a+l.n⟩=jZ l s s.length:=by unfold jZ;rw[ady]
 rw[e]at h
 rw[hr]
 generalize jZ l s s.length=z at*
 obtain⟨⟨lo1,lo2⟩,⟨NC,zM⟩,hlen⟩:=hb
 unfold Pc
 refine⟨fun x hx=>?_,by simp only[adv,List.length_cons,List.length_nil];omega⟩
 rcases adr.1 hx with hx|hx
 ·rcases adr.1 hx with hx|hx
  ·exact hs x (h.bs.subset hx)
  ·rw[ado]at hx;subst hx;rw[ak];simp only;omega
 ·exact hs x (h.aq.subset hx)
theorem CG{l:List Lt}(hl:∀x∈l,aJ x=true):∀i,(∀x∈(l.take i).foldl kB [],aJ x=true)/\((l.take i).foldl kB []).length<=i/\NS ((l.take i).foldl kB [])
 |0=>⟨fun _ h=>(by cases h),adM _,NS.nil⟩
 |i+1=>by
  obtain⟨h1,h2,h3⟩:=CG hl i
  cases hx:l[i]? with
  |none=>
   have:l.take (i+1)=l.take i:=by rw[ads,hx];simp
   rw[this];exact⟨h1,by omega,h3⟩
  |some x=>
   have hp:=hl x (adl hx)
   rw[ads,hx,adI]
   show(∀y∈kB _ x,_)/\(kB _ x).length<=_/\NS (kB _ x)
   have h4:=PC h1 hp h3
   exact⟨h4.1,by omega,(J8 h3 (ak.1 hp).2.2.1).1⟩
theorem qw{l:List Lt}(hl:∀x∈l,aJ x=true):(∀x∈cW l,aJ x=true)/\(cW l).length<=l.length/\NS (cW l):=by
 have h:=CG hl l.length
 rw[ady]at h
 exact h
variable [aW]
def cLt(x:Lt):List AV:=[.dv (I x.f),.dv (I x.a),.dv (I x.n)]
theorem PD(s:List Lt)(l:Lt)(hs:∀x∈s,aJ x=true)(hl:aJ l=true)(hn:s.length<=10000):ai Tryz.prog 224 [aR s,aD l] [aR (kB s l)]:=by
 refine pO Tryz.func224 rfl (by kernel_rfl) rfl ?_
 have ZG:=ak.1 hl
 have hN:=H0 hs hl
 refine⟨fun _=>by omega,?_⟩
 refine⟨Nat,fun i=>⟨3,[(0,.dv (aR s)),(3,.ptr 0 0),(5,.own 1 0 0 []),(6,.own 2 0 0 []),(7,.dv (I (jZ l s i).fr)),(8,.dv (I (jZ l s i).to)),(9,.dv (I i))],[(0,.cells (cLt l)),(1,.tree 0 0 (.aI 3 ((jZ l s i).TN.map aD))),(2,.tree 0 0 (.aI 3 ((jZ l s i).TO.map aD)))]⟩,fun i=>i<=s.length,fun i=>s.length-i,0,fun _=>rfl,⟨⟨rf,rfl,⟨rfl,rfl,rfl,rfl,3,rfl⟩,⟨rfl,rfl,rfl,rfl,3,rfl⟩,rf,rf,rf,tv⟩,⟨⟨rf,rf,rf,tv⟩,⟨rfl,rfl,3,rfl⟩,⟨rfl,rfl,3,rfl⟩,tv⟩,rfl,rfl⟩,adx _,?_⟩
 rintro i hi
 have hNi:=hN i
 have fP:jZ l s i=jZ l s i:=rfl
 refine adh ?_ ?_
 ·intro h
  have aB:i<s.length:=by have:=adz h;rw[adi]at this;omega
  obtain⟨x,hx⟩:∃x,s[i]?=some x:=⟨_,abK aB⟩
  have ND:=ak.1 (hs x (adl hx))
  have fM:=Bb (l:=l) hx
  have ix:(s.map aD)[(i:Int).toNat]?=some (aD x):=by rw[adk];simp[hx]
  refine⟨aD x,fun _=>⟨by omega,ix⟩,?_⟩
  generalize hz:jZ l s i=z at*
  obtain⟨bf,af,fr,to⟩:=z
  obtain⟨⟨lo1,lo2⟩,⟨NC,zM⟩,hlen⟩:=hNi
  simp only at lo1 lo2 NC zM hlen
  simp only[hz]
  repeat first|refine gG ?_|refine⟨fun _=>by omega,?_⟩
  have lb:∀{q:List Lt},q.length<=i->(q.map aD).length<=20000:=fun h=>by rw[adi];omega
  refine adh ?_ ?_
  ·intro h
   have hc:x.f<l.f\/x.f=l.f/\x.a+x.n<fr:=by simpa using h
   have e:jZ l s (i+1)=⟨bf++[x],af,fr,to⟩:=by rw[fM];unfold wo;rw[if_pos hc]
   have l1:=lb (q:=bf) (by omega)
   refine .inl ⟨[aD x],rfl,⟨rf,rf,rf,tv⟩,(by simp;rfl),?_⟩
   refine .inr ⟨[aD x],bW.refl _,bL (by simp only[List.length_cons,List.length_nil];omega),by simp only[List.length_cons,List.length_nil];omega,?_⟩
   exact⟨fun _=>by omega,i+1,jn (by simp only[e];rfl) (by simp only[e,adB];rfl) rfl rfl,by omega,mlt aB⟩
  intro h
  have hc:¬(x.f<l.f\/x.f=l.f/\x.a+x.n<fr):=by simpa using h
  repeat refine gG ?_
  refine adh ?_ ?_
  ·intro h
   have AO:l.f<x.f\/to<x.a:=by simpa using h
   have e:jZ l s (i+1)=⟨bf,af++[x],fr,to⟩:=by rw[fM];unfold wo;rw[if_neg hc,if_pos AO]
   have l1:=lb (q:=af) (by omega)
   refine .inl ⟨[aD x],rfl,⟨rf,rf,rf,tv⟩,(by simp;rfl),?_⟩
   refine .inr ⟨[aD x],bW.refl _,bL (by simp only[List.length_cons,List.length_nil];omega),by simp only[List.length_cons,List.length_nil];omega,?_⟩
   exact⟨fun _=>by omega,i+1,jn (by simp only[e];rfl) (by simp only[e,adB];rfl) rfl rfl,by omega,mlt aB⟩
  ·intro h
   have AO:¬(l.f<x.f\/to<x.a):=by simpa using h
   have e:jZ l s (i+1)=⟨bf,af,min fr x.a,max to (x.a+x.n)⟩:=by rw[fM];unfold wo;rw[if_neg hc,if_neg AO]
   have e1:(if x.a<fr then x.a else fr)=min fr x.a:=by split<;>omega
   have e2:(if to<x.a+x.n then x.a+x.n else to)=max to (x.a+x.n):=by split<;>omega
   refine⟨fun _=>by omega,fun _=>by omega,i+1,jn (by simp only[e,e1,e2];rfl) (by simp only[e];rfl) rfl rfl,by omega,mlt aB⟩
 ·intro h
  have he:i=s.length:=by have:=adA h;rw[adi]at this;omega
  subst he
  have hr:kB s l=Pc l (jZ l s s.length):=by unfold kB jZ;rw[ady]
  rw[hr]
  generalize hz:jZ l s s.length=z at*
  obtain⟨bf,af,fr,to⟩:=z
  obtain⟨⟨lo1,lo2⟩,⟨NC,zM⟩,hlen⟩:=hNi
  simp only at lo1 lo2 NC zM hlen
  simp only[hz]
  have l1:(bf.map aD).length<=20000:=by rw[adi];omega
  have l2:(af.map aD).length<=20000:=by rw[adi];omega
  refine⟨fun _=>by omega,?_⟩
  refine .inl ⟨[aD ⟨l.f,fr,to-fr⟩],rfl,⟨rf,rf,rf,tv⟩,(by simp;rfl),?_⟩
  refine .inr ⟨[aD ⟨l.f,fr,to-fr⟩],bW.refl _,bL (by simp only[List.length_cons,List.length_nil];omega),by simp only[List.length_cons,List.length_nil];omega,?_⟩
  refine .inr (.inl ⟨ab5 af,af.map aD,bW.refl _,bL (by simp only[adv,List.length_cons,List.length_nil];omega),by simp only[adv,List.length_cons,List.length_nil];omega,?_⟩)
  refine⟨?_,tv⟩
  have:=qv (bf++[(⟨l.f,fr,to-fr⟩:Lt)]++af)
  rw[adB,adB]at this
  exact this
theorem Bc(l:List Lt)(hl:l.length<=9000):ai Tryz.prog 197 [aR l] [aR (bif bE l then cW l else[])]:=by
 refine pO Tryz.func197 rfl (by kernel_rfl) rfl ?_
 refine .inl ⟨_,fun _=>(gD l (by omega)).ok,?_⟩
 have hb:=fun h=>(fI (l:=l) h).2
 have hs:cW l=l.foldl kB []:=rfl
 generalize bE l=v at*
 refine⟨Nat,fun i=>⟨0,[(0,.dv (aR l)),(3,.dv (aR ((l.take i).foldl kB []))),(4,.dv (B v)),(5,.dv (I i))],[]⟩,fun i=>i<=l.length/\(v=false->i=0),fun i=>l.length-i,0,fun _=>rfl,⟨⟨rf,DV.aY 3,rf,rf,tv⟩,tv,rfl,rfl⟩,⟨adx _,fun _=>rfl⟩,?_⟩
 rintro i ⟨hi,hv⟩
 repeat refine gG ?_
 refine adh ?_ ?_
 ·intro h
  have h:=bZ h
  have Xu:v=true:=h.2
  have aB:i<l.length:=by have:=adz h.1;rw[adi]at this;omega
  obtain⟨x,hx⟩:∃x,l[i]?=some x:=⟨_,abK aB⟩
  have hp:=hb Xu
  obtain⟨h1,h2,h3⟩:=CG hp i
  have e:(l.take (i+1)).foldl kB []=kB ((l.take i).foldl kB []) x:=by rw[ads,hx,adI];rfl
  refine⟨aD x,fun _=>⟨by omega,by rw[adk];simp[hx]⟩,?_⟩
  refine .inl ⟨_,fun _=>(PD _ x h1 (hp x (adl hx)) (by omega)).ok,?_⟩
  exact⟨fun _=>by omega,i+1,jn (by simp only[e];rfl) rfl rfl rfl,⟨by omega,by simp[Xu]⟩,mlt aB⟩
 ·intro h
  have h:=gI h
  refine⟨DV.Le.of_eq ?_,tv⟩
  cases v with
  |true=>
   have:i=l.length:=by
    have:¬(i:Int)<(l.map aD).length:=fun hh=>h ⟨adF hh,rfl⟩
    rw[adi]at this;omega
   subst this
   rw[ady];rfl
  |false=>rw[hv rfl];rfl
end
end Go.Proofs.YtfpebgpgabjieaaGreatDoor
