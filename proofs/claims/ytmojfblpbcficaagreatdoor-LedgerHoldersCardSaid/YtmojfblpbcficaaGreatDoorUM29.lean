import Derived.Test.YtmojfblpbcficaaGreatDoorUM25
import Derived.Test.YtmojfblpbcficaaGreatDoorUM19
import Derived.Test.YtmojfblpbcficaaGreatDoorUM27
import Derived.Test.YtmojfblpbcficaaGreatDoorUM28
import Derived.Test.YtmojfblpbcficaaGreatDoorUM23
set_option linter.all false
open Go.TM.oA Go.TM.oB Go.TM.oC Go.TM.oD Go.TM.oE
namespace Go.Proofs.YtmojfblpbcficaaGreatDoor
set_option maxRecDepth 100000
set_option maxHeartbeats 4000000
section
open Go.TM
def Of(d:List Lt)(i:Nat):List Lt:=(d.take i).foldl p8 []
theorem GB{d:List Lt}{i:Nat}{x:Lt}(h:d[i]?=some x):Of d (i+1)=p8 (Of d i) x:=by
 unfold Of;rw[ads,h,adI];rfl
theorem Uv{s:List Lt}{x:Lt}(hs:∀y∈s,az y=true)(hx:az x=true):(∀y∈p8 s x,az y=true)/\(p8 s x).length<=s.length+1:=by
 unfold p8
 split
 ·rename_i y hy
  have Oe:=ai.1 (hs y (List.mem_of_getLast? hy))
  have Dn:=ai.1 hx
  split
  ·rename_i hc
   refine⟨fun z hz=>?_,by simp⟩
   rcases adr.1 hz with hz|hz
   ·exact hs z (List.dropLast_subset _ hz)
   ·rw[ado]at hz;subst hz
    rw[ai];dsimp only;omega
  ·refine⟨fun z hz=>?_,by simp⟩
   rcases adr.1 hz with hz|hz
   ·exact hs z hz
   ·rw[ado]at hz;subst hz;exact hx
 ·refine⟨fun z hz=>?_,by simp⟩
  rw[ado]at hz;subst hz;exact hx
theorem Q1{d:List Lt}(hd:∀x∈d,az x=true):∀i,(∀y∈Of d i,az y=true)/\(Of d i).length<=i
 |0=>⟨fun _ h=>(by cases h),adM _⟩
 |i+1=>by
  have ih:=Q1 hd i
  cases h:d[i]? with
  |none=>
   have:Of d (i+1)=Of d i:=by unfold Of;rw[ads,h];simp
   rw[this];exact⟨ih.1,by omega⟩
  |some x=>
   rw[GB h]
   have:=Uv ih.1 (hd x (ab6 h))
   exact⟨this.1,by omega⟩
variable [bp]
theorem mC(l:List Lt):(pk (.aD 3 (l.map aA))).Le (aM l):=DV.Le.of_eq (by
 show DV.sl 3 (xx (l.map aA))=_
 rw[fT (fun _=>rfl)])
theorem cX{f:Nat}{fn:Func}{c:Code}{args:List AV}{m ex:Nat}{K:ae}{rs:List AV}{K':ae}(hf:Tryz.prog.funcs[f]?=some fn)(hb:fn.body=some c)
 (ha:((!(fn.name== "runtime.NumGoroutine"))&&(Nat.ble args.length fn.ntmps&&cQ.wf ⟨m,dt 0 args,K⟩))=true) (h:fH Tryz.prog kp .rel fn.ntmps m c (pL kp fn m ex fun r k=>r=rs/\k=K') m (dt 0 args) K):aj Tryz.prog f args m K ex rs K':=by
 rw[adT,adV]at ha
 exact Iv gi mixed (fg _) (fM _) hf hb ha.1 ha.2 h
theorem eD(l:List Lt)(hl:l.length<=1000000):aj Tryz.prog 58 [.dv (aM l)] 0 [] 1 [.own 0 0 0 []] [(0,.tree 0 0 (.aD 3 (l.map aA)))]:=by
 refine cO Tryz.func58 rfl (by kernel_rfl) ?_
 by_cases hn:l=[]
 ·subst hn
  refine .inl ⟨⟨_,_,⟨rfl,rfl⟩,by kernel_rfl,⟨⟨rfl,rfl,rfl,rfl,3,rfl⟩,tv⟩,⟨rfl,rfl,3,rfl⟩,tv⟩,?_⟩
  refine .inr (.inl ⟨[],rfl,tv,(fun _ h=>by cases h),?_⟩)
  refine .inr ⟨_,b7.refl _,bL (by simp),by simp,?_⟩
  exact ext (by kernel_rfl) rfl rfl
 ·refine .inr ⟨fun h=>hn (List.map_eq_nil_iff.1 h),T5 (fun h=>by cases h) fun _=>?_⟩
  refine .inr (.inl ⟨[],rfl,tv,(fun _ h=>by cases h),?_⟩)
  refine .inr ⟨_,b7.refl _,bL (by simp;omega),by simp;omega,?_⟩
  exact ext (by kernel_rfl) rfl rfl
theorem Nn(l:List Lt)(hp:∀x∈l,az x=true)(hl:l.length<=5000):aj Tryz.prog 60 [.dv (aM l)] 0 [] 0 [.dv (aM (ct l))] []:=by
 refine cX Tryz.func60 rfl (by kernel_rfl) ?_
 refine .inl (.inr (cl [] (eD l (by omega)) (by kernel_rfl) rfl rfl ?_))
 refine .inr ⟨[0],[.own 0 0 0 [],.dv (.fn 98 [])],_,0,_,Gw l (by omega),by kernel_rfl,⟨rfl,rf,tv⟩,⟨⟨rfl,rfl⟩,tv⟩,?_⟩
 rintro rs K2 ⟨rfl,d,⟨zy,Uw⟩,rfl⟩
 refine⟨by kernel_rfl,?_⟩
 have Zg:=zy.length_eq
 have hdp:∀x∈d,az x=true:=fun x hx=>hp x (zy.mem_iff.1 hx)
 have hZ:=TH (fun x hx=>(ai.1 (hp x hx)).2.2.1) zy Uw
 have ll:(d.map aA).length=d.length:=WY ..
 refine⟨Nat,fun i=>⟨2,[(4,.own 1 0 0 []),(13,.own 0 0 0 []),(14,.dv (I d.length)),(15,.dv (I i))],[(0,.tree 0 0 (.aD 3 (d.map aA))),(1,.tree 0 0 (.aD 3 ((Of d i).map aA)))]⟩,fun i=>i<=d.length,fun i=>d.length-i,0,fun _=>rfl,⟨⟨⟨rfl,rfl,rfl,rfl,3,rfl⟩,rfl,aJ (by rw[ll]),rf,tv⟩,⟨⟨rfl,rfl⟩,⟨rfl,rfl,3,rfl⟩,tv⟩,rfl,rfl⟩,adx _,?_⟩
 rintro i hi
 obtain⟨jI,cx⟩:=Q1 hdp i
 refine T5 (fun h=>?_) fun h=>?_
 ·have au:i<d.length:=by have:=adz h;omega
  obtain⟨x,hx⟩:∃x,d[i]?=some x:=⟨_,IF au⟩
  have ix:(d.map aA)[(i:Int).toNat]?=some (aA x):=by rw[abW];simp[hx]
  have Dn:=ai.1 (hdp x (ab6 hx))
  have eG:=GB hx
  refine⟨fun _=>by omega,aA x,fun _=>ix,?_⟩
  generalize Of d i=s at*
  have ls:(s.map aA).length=s.length:=WY ..
  obtain⟨y,hy⟩:∃y,y=s.getLastD ⟨0,0,0⟩:=⟨_,rfl⟩
  have dD:bw (decide (0<(((s.map aA).length:Nat):Int))) true=true->0<s.length:=fun h=>by have:=adz (gL h);omega
  have ia:∀h:bw (decide (0<(((s.map aA).length:Nat):Int))) true=true,-9223372036854775808<=(((s.map aA).length:Nat):Int)-1/\(((s.map aA).length:Nat):Int)-1<=9223372036854775807:=fun h=>by omega
  have ib:∀h:bw (decide (0<(((s.map aA).length:Nat):Int))) true=true,0<=(((s.map aA).length:Nat):Int)-1/\(((s.map aA).length:Nat):Int)-1<(((s.map aA).length:Nat):Int):=fun h=>by have:=dD h;omega
  have ie:∀h:bw (decide (0<(((s.map aA).length:Nat):Int))) true=true,(s.map aA)[((((s.map aA).length:Nat):Int)-1).toNat]?=some (aA y):=fun h=>by
   have:=(oZ (dD h)).1
   rw[abW,show((((s.map aA).length:Nat):Int)-1).toNat=s.length-1 by omega,this,hy];rfl
  have Oe:∀h:bw (decide (0<(((s.map aA).length:Nat):Int))) true=true,0<=y.f/\0<=y.a/\1<=y.n/\y.a+y.n<=1099511627776:=fun h=>ai.1 (jI y (by rw[hy];exact ab6 (oZ (dD h)).1))
  have EF:bw (bif decide (0<(((s.map aA).length:Nat):Int))then y.f==x.f else false) true=true->bw (decide (0<(((s.map aA).length:Nat):Int))) true=true:=fun h=>rl (c6 (gL h)).1
  repeat refine gG ?_
  refine⟨fun h=>ia h,?_⟩
  repeat refine gG ?_
  refine⟨fun h=>ib h,?_⟩
  repeat refine gG ?_
  refine⟨aA y,fun h=>ie h,?_⟩
  repeat refine gG ?_
  refine⟨fun h=>ia (EF h),?_⟩
  repeat refine gG ?_
  refine⟨fun h=>ib (EF h),?_⟩
  repeat refine gG ?_
  refine⟨aA y,fun h=>ie (EF h),?_⟩
  repeat refine gG ?_
  refine⟨fun h=>ia (EF h),?_⟩
  repeat refine gG ?_
  refine⟨fun h=>ib (EF h),?_⟩
  repeat refine gG ?_
  refine⟨aA y,fun h=>ie (EF h),?_⟩
  repeat refine gG ?_
  refine⟨fun h=>(by have:=Oe (EF h);omega),?_⟩
  repeat refine gG ?_
  refine .inl ⟨by kernel_rfl,T5 (fun h=>?_) fun h=>?_⟩
  ·have h1:=c6 h
   have h2:=c6 h1.1
   have hb:=rl h2.1
   have Oe:=Oe hb
   have hle:=adz h1.2
   have ei:((((s.map aA).length:Nat):Int)-1).toNat=s.length-1:=by omega
   have e:p8 s x=s.set (s.length-1) ⟨y.f,y.a,if y.n<x.a+x.n-y.a then x.a+x.n-y.a else y.n⟩:=by
    have xj:=(oZ (dD hb)).2
    rw[<-hy]at xj
    have hc:y.f=x.f/\x.a<=y.a+y.n:=⟨beq_iff_eq.1 h2.2,hle⟩
    unfold p8
    rw[xj]
    simp only
    rw[if_pos hc,show max y.n (x.a+x.n-y.a)=if y.n<x.a+x.n-y.a then x.a+x.n-y.a else y.n by split<;>omega]
    conv=>rhs;rw[gf xj]
    have:(s.dropLast++[y]).length-1=s.dropLast.length:=by simp
    simp
   rw[e]at eG
   refine⟨fun _=>ia hb,fun _=>ib hb,aA y,fun _=>ie hb,fun _=>by omega,aA y,fun _=>ie hb,fun _=>by omega,?_⟩
   refine⟨[I (if y.n<x.a+x.n-y.a then x.a+x.n-y.a else y.n)],⟨rf,tv⟩,aA y,ie hb,?_⟩
   refine .inl ⟨by kernel_rfl,?_⟩
   exact⟨fun _=>by omega,i+1,jn rfl (by simp only[eG,List.map_set,<-ei];rfl) rfl rfl,au,mlt au⟩
  ·have e:p8 s x=s++[x]:=by
    unfold p8
    by_cases hp:0<s.length
    ·have xj:=(oZ hp).2
     rw[<-hy]at xj
     rw[xj]
     simp only
     rw[if_neg]
     intro hc
     exact lM h ⟨by rw[adF (by omega),hc.1];simp,adF hc.2⟩
    ·have:s=[]:=List.length_eq_zero_iff.1 (by omega)
     subst this;rfl
   rw[e]at eG
   refine .inl ⟨[aA x],rfl,⟨rf,rf,rf,tv⟩,(by simp;rfl),?_⟩
   refine .inr ⟨[aA x],b7.refl _,bL (by simp;omega),by simp;omega,?_⟩
   exact⟨fun _=>by omega,i+1,jn rfl (by simp only[eG,adB];rfl) rfl rfl,au,mlt au⟩
 ·have he:i=d.length:=by have:=adA h;omega
  subst he
  have:Of d d.length=ct l:=by unfold Of;rw[ady,hZ]
  rw[this]
  exact⟨_,_,⟨rfl,rfl⟩,by kernel_rfl,⟨mC _,tv⟩,tv⟩
theorem lV(l:List Lt)(hp:∀x∈l,az x=true)(hl:l.length<=5000):aN Tryz.prog 60 [aM l] [aM (ct l)]:=qf (Nn l hp hl)
end
section
open Go.TM
abbrev HL:=List (Ky×Int)
def JA(a b:Ky):Bool:=bif decide (a.1<b.1)then true else bif a.1==b.1 then decide (a.2<b.2)else false
def sr:HL->Ky->Nat
 |[],_=>0
 |p::r,k=>if JA p.1 k then sr r k+1 else 0
def vp(L:HL)(x:Ky×Int):HL:=L.take (sr L x.1)++x::L.drop (sr L x.1)
theorem DM:∀(L:HL) (k:Ky),sr L k<=L.length
 |[],_=>by simp[sr]
 |p::r,k=>by
  simp only[sr]
  split
  ·have:=DM r k;simp;omega
  ·simp
theorem LJ{L:HL}{k:Ky}{j:Nat}(h:j<=sr L k){q:Ky×Int}(hq:L[j]?=some q):(JA q.1 k=true->j+1<=sr L k)/\(JA q.1 k=false->sr L k=j):=by
 induction L generalizing j with
 |nil=>simp at hq
 |cons p r ih=>
  simp only[sr]at h⊢
  cases j with
  |zero=>
   simp at hq;subst hq
   exact⟨fun h=>by rw[if_pos h];omega,fun h=>by rw[if_neg (by rw[h];simp)]⟩
  |succ j=>
   split at h
   ·rename_i hp
    rw[if_pos hp]
    have:=ih (j:=j) (by omega) (by simpa using hq)
    exact⟨fun h=>by have:=this.1 h;omega,fun h=>by rw[this.2 h]⟩
   ·omega
def Yb(L:HL)(p:Ky×List Lt):HL:=if br p.2=0 then L else vp L (p.1,br p.2)
def LK(m:SM)(i:Nat):HL:=(m.take i).foldl Yb []
def tM(m:SM):HL:=m.foldl Yb []
theorem GC{m:SM}{i:Nat}{p:Ky×List Lt}(h:m[i]?=some p):LK m (i+1)=Yb (LK m i) p:=by
 unfold LK;rw[ads,h,adI];rfl
theorem Q2(L:HL)(x:Ky×Int):(vp L x).length=L.length+1:=by
 have:=DM L x.1
 simp[vp];omega
theorem LL(m:SM):∀i,(LK m i).length<=i
 |0=>by simp[LK]
 |i+1=>by
  have ih:=LL m i
  cases h:m[i]? with
  |none=>
   have:m.take (i+1)=m.take i:=by rw[ads,h];simp
   unfold LK at *; rw[this];omega
  |some p=>
   rw[GC h];unfold Yb
   split
   ·omega
   ·rw[Q2];omega
variable [bp]
theorem Yc(L:HL):(pk (.aD 3 (L.map fq))).Le (.sl 3 (L.map fq)):=DV.Le.of_eq (by
 show DV.sl 3 (xx (L.map fq))=_
 rw[fT (fun _=>rfl)])
theorem bH{n:Nat}(h:n<=1000000):n*(nth kp (nth kp 30).elem).bytes<=140737488355328:=by
 rw[show(nth kp (nth kp 30).elem).bytes=24 by kernel_rfl];omega
theorem Yd{b:Bool}(h:bw b true=true):b=true:=by cases b<;>simp_all [bw]
theorem Q3{a b:Bool}(h:(a&&b)=true):a=true:=by cases a<;>simp_all
theorem zC:Qe.Le (.sl 9 (dY.map iB)):=DV.ZL rfl fun i x y hx hy=>by
 have hi:i<5:=(W8.1 hy).1
 have hc:∀d,d∈y.cells->d.aq=true:=by
  rw[abW]at hy
  cases hr:dY[i]? with
  |none=>rw[hr]at hy;cases hy
  |some r=>
   rw[hr]at hy;injection hy with hy;subst hy
   intro d hd
   simp only[iB,DV.cells,adp,List.mem_nil_iff,or_false]at hd
   rcases hd with rfl|rfl|rfl|rfl|rfl|rfl|rfl|rfl|rfl<;>rfl
 refine⟨?_,hc⟩
 match i,hi with
 |0,_=>injection hx with hx;injection hy with hy;subst hx;subst hy;exact⟨rf,rf,rf,rf,rf,rf,DV.aI 2,rf,DV.aI 2,tv⟩
 |1,_=>injection hx with hx;injection hy with hy;subst hx;subst hy;exact⟨rf,rf,rf,rf,rf,rf,rf,rf,rf,tv⟩
 |2,_=>injection hx with hx;injection hy with hy;subst hx;subst hy;exact⟨rf,rf,rf,rf,rf,rf,rf,rf,DV.aI 2,tv⟩
 |3,_=>injection hx with hx;injection hy with hy;subst hx;subst hy;exact⟨rf,rf,rf,rf,rf,rf,rf,rf,DV.aI 2,tv⟩
 |4,_=>injection hx with hx;injection hy with hy;subst hx;subst hy;exact⟨rf,rf,rf,rf,rf,rf,rf,rf,DV.aI 2,tv⟩
theorem No(sh:Int)(h:0<=sh/\sh<=11):aj Tryz.prog 43 [.dv (I sh),cH F3] 0 [] 2 [.ptr 1 0,.dv (I 0)] [(1,.cells (.dv (I sh)::ed gE++[.dv .ax,.dv .ax,.dv .ax]))]:=by
 refine cO Tryz.func43 rfl (by kernel_rfl) ?_
 repeat refine gG ?_
 refine T5 (fun hc=>?_) fun _=>?_
 ·simp[bw]at hc;omega
 refine .inl ⟨_,fun _=>F4.ok,?_⟩
 refine T5 (fun h=>by cases h) fun _=>?_
 exact⟨_,_,⟨rfl,rfl⟩,by kernel_rfl,⟨rfl,rf,tv⟩,⟨rf,rf,zC,rf,rf,rf,rf,rf,tv⟩,tv⟩
theorem JB(R:RL)(h1:R.st.length<=900)(hl:∀p∈R.st,p.2.length<=1000000):aj Tryz.prog 54 [.ptr 0 0] 4 (de R) 0 [.dv (.sl 3 ((tM R.st).map fq))] (de R):=by
 refine cO Tryz.func54 rfl (by kernel_rfl) ?_
 have lst:(R.st.map fB).length=R.st.length:=WY ..
 refine⟨Nat,fun i=>⟨4,[(0,.ptr 0 0),(3,.dv (.sl 3 ((LK R.st i).map fq))),(4,.dv (I i))],de R⟩,fun i=>i<=R.st.length,fun i=>R.st.length-i,0,fun _=>rfl,⟨⟨rfl,DV.aI 3,rf,tv⟩,aV (k:=de R) rfl,rfl,rfl⟩,adx _,?_⟩
 rintro i hi
 have hL:=LL R.st i
 refine T5 ?_ ?_
 ·intro h
  have au:i<R.st.length:=by have:=adz h;omega
  obtain⟨p,hp⟩:∃p,R.st[i]?=some p:=⟨_,IF au⟩
  have ip:(R.st.map fB)[(i:Int).toNat]?=some (fB p):=by rw[abW];simp[hp]
  have ib:(0:Int)<=i/\(i:Int)<(R.st.map fB).length:=(by omega)
  have eG:=GC hp
  refine⟨fun _=>ib,fB p,fun _=>ip,?_⟩
  refine⟨fun _=>ib,fB p,fun _=>ip,?_⟩
  refine⟨fun _=>ib,fB p,fun _=>ip,?_⟩
  refine .inl ⟨_,fun _=>(kV p.2 (hl p (ab6 hp))).ok,?_⟩
  refine⟨by kernel_rfl,T5 (fun h0=>?_) fun h0=>?_⟩
  ·have e:LK R.st (i+1)=LK R.st i:=by rw[eG];exact if_pos (beq_iff_eq.1 h0)
   exact⟨fun _=>by omega,i+1,jn (by simp only[e];rfl) rfl rfl rfl,au,mlt au⟩
  have e:LK R.st (i+1)=vp (LK R.st i) (p.1,br p.2):=by rw[eG];exact if_neg (beq_eq_false_iff_ne.1 h0)
  generalize LK R.st i=L at*
  have ll:(L.map fq).length=L.length:=WY ..
  obtain⟨⟨pa,pi⟩,pl⟩:=p
  refine⟨Nat,fun j=>⟨5,[(0,.ptr 0 0),(3,.dv (.sl 3 (L.map fq))),(4,.dv (I i)),(5,.ptr 4 0),(6,.dv (I j))],de R++[(4,.cells (ed (fq ((pa,pi),br pl)).cells))]⟩,fun j=>j<=sr L (pa,pi),fun j=>L.length-j,0,fun _=>rfl,jn rfl rfl rfl rfl,adx _,?_⟩
  rintro j hj
  have Io:=DM L (pa,pi)
  repeat refine gG ?_
  obtain⟨q,hq⟩:∃q,j<L.length->L[j]?=some q:=by
   by_cases h:j<L.length
   ·exact⟨L[j],fun _=>IF h⟩
   ·exact⟨((0,0),0),fun h2=>absurd h2 h⟩
  have iq:bw (decide ((j:Int)<((L.map fq).length:Nat))) true=true->(0:Int)<=j/\(L.map fq)[(j:Int).toNat]?=some (fq q):=fun hg=>by
   have iN:j<L.length:=by
    have:=adz (Yd hg);omega
   refine⟨by omega,?_⟩
   rw[abW];simp[hq iN]
  refine⟨fq q,fun hg=>iq hg,?_⟩
  repeat refine gG ?_
  refine⟨fq q,fun hg=>iq (Q3 hg),?_⟩
  repeat refine gG ?_
  refine⟨fq q,fun hg=>iq (Q3 (Q3 hg)),?_⟩
  repeat refine gG ?_
  refine⟨by kernel_rfl,T5 (fun hc=>?_) fun hc=>?_⟩
  ·have h2:=c6 hc
   have iN:j<L.length:=by have:=adz h2.1;omega
   exact⟨fun _=>by omega,j+1,jn rfl rfl rfl rfl,(LJ hj (hq iN)).1 h2.2,mlt iN⟩
  have hpj:sr L (pa,pi)=j:=by
   by_cases iN:j<L.length
   ·have hk:JA q.1 (pa,pi)=false:=by
     have h2:=lM hc
     rw[Bool.eq_false_iff]
     exact fun h3=>h2 ⟨adF (by omega),h3⟩
    exact(LJ hj (hq iN)).2 hk
   ·omega
  have hX:((L.map fq).take j++[fq ((pa,pi),br pl)])++(L.map fq).drop j=(vp L ((pa,pi),br pl)).map fq:=by
   unfold vp
   rw[show sr L ((pa,pi),br pl).1=j from hpj]
   simp[List.map_take,List.map_drop]
  refine⟨fun _=>⟨by simp,by simp,by simp;omega⟩,?_⟩
  refine .inr ⟨_,b7.refl _,bH (by simp;omega),by simp;omega,?_⟩
  refine .inl ⟨[fq ((pa,pi),br pl)],rfl,⟨rf,rf,rf,tv⟩,(by simp;rfl),?_⟩
  refine .inr ⟨[fq ((pa,pi),br pl)],b7.refl _,bH (by simp;omega),by simp;omega,?_⟩
  refine⟨fun _=>⟨by simp,by simp;omega,by simp⟩,?_⟩
  refine .inr ⟨_,b7.refl _,bH (by simp;omega),by simp;omega,?_⟩
  refine⟨by kernel_rfl,?_⟩
  refine⟨fun _=>by omega,i+1,⟨⟨rfl,?_,rf,tv⟩,aV (k:=de R) rfl,rfl,rfl⟩,au,mlt au⟩
  rw[e]
  refine DV.Le.trans (DV.Le.of_eq (congrArg (fun z=>pk (.aD 3 z)) ?_)) (Yc _)
  rw[<-hX]
  simp only[Option.getD_none,Option.getD_some,Int.toNat_natCast,Int.toNat_zero,List.drop_zero,ady,adJ]
 ·intro h
  have he:i=R.st.length:=by have:=adA h;omega
  subst he
  have:LK R.st R.st.length=tM R.st:=by unfold LK tM;rw[ady]
  rw[this]
  exact ext (by kernel_rfl) rfl rfl
end
section
open Go.TM
variable [bp]
def abd:DV:=.agg gE
theorem bM{n:Nat}(h:n<=1000000):n*(nth kp (nth kp 40).elem).bytes<=140737488355328:=by
 rw[show(nth kp (nth kp 40).elem).bytes=56 by kernel_rfl];omega
theorem Q4{s:cJ}:(DV.agg [I s.id,I s.kind,I s.jt,I s.tick,I s.aP,I s.times,pk (.aD 5 (s.mv.map ao))]).Le (aC s):=DV.Le.of_eq (by
 show DV.agg [_,_,_,_,_,_,.sl 5 (xx (s.mv.map ao))]=_
 rw[fT fun _=>rfl];rfl)
def vq(a times:Int)(l:List Ky):List dc:=l.map fun p=>⟨a,0,p.1,p.2*times,[]⟩
def vt(a times:Int)(l:List Ky):List dc:=l.map fun p=>⟨0,a,p.1,p.2*times,[]⟩
theorem qh{l:List Ky}{i:Nat}{p:Ky}(h:l[i]?=some p):(l.map fK)[(i:Int).toNat]?=some (fK p):=by rw[abW];simp[h]
theorem B3(aP times a t:Int)(failed:Bool)(r:T9)(hr:dY[aP.toNat]?=some r)(h0:0<=aP/\aP<=4)(ht:0<=times/\times<=1000):aN Tryz.prog 45 [abd,I aP,B failed,I times,I a,I t] [aC ⟨0,4,a,t,bif failed then -2-aP else aP,times,vq a times r.tk++vt a times (bif failed then r.bk else r.gv)⟩]:=by
 have hrm:r∈dY:=ab6 hr
 have hlen:r.tk.length<=5/\r.gv.length<=5/\r.bk.length<=5/\(∀p∈r.tk,0<=p.2/\p.2<=10)/\(∀p∈r.gv,0<=p.2/\p.2<=10)/\∀p∈r.bk,0<=p.2/\p.2<=10:=by
  revert hrm
  generalize r=x
  intro hx
  simp only[dY,adp,List.mem_nil_iff,or_false]at hx
  rcases hx with rfl|rfl|rfl|rfl|rfl<;>simp
 have ir:(dY.map iB)[aP.toNat]?=some (iB r):=by rw[abW,hr];rfl
 have hr:=hlen
 refine pO Tryz.func45 rfl (by kernel_rfl) rfl ?_
 refine⟨iB r,fun _=>⟨h0.1,ir⟩,?_⟩
 refine T5 (fun hf=>?_) fun hf=>?_
 ·have hf:failed=true:=hf
  subst hf
  refine⟨fun _=>by omega,iB r,fun _=>⟨h0.1,ir⟩,?_⟩
  refine⟨iB r,fun _=>⟨h0.1,ir⟩,?_⟩
  refine⟨Nat,fun i=>⟨4,[(3,.dv (I times)),(4,.dv (I a)),(12,.ptr 1 0),(13,.ptr 2 0),(14,.dv (.sl 2 (r.bk.map fK))),(15,.dv (.sl 2 (r.tk.map fK))),(16,.dv (I i))],[(1,.cells [.dv (I 0),.dv (I 0),.dv (I 0),.dv (I 0),.dv (I 0),.dv (I 0),.dv .ax]),(2,.cells [.dv (I 0),.dv (I 4),.dv (I a),.dv (I t),.dv (I (-2-aP)),.dv (I times),.own 3 0 0 []]),(3,.tree 0 0 (.aD 5 ((vq a times (r.tk.take i)).map ao)))]⟩,fun i=>i<=r.tk.length,fun i=>r.tk.length-i,0,fun _=>rfl,⟨⟨rf,rf,rfl,rfl,rf,rf,rf,tv⟩,⟨⟨rf,rf,rf,rf,rf,rf,rf,tv⟩,⟨rf,rf,rf,rf,rf,rf,⟨rfl,rfl,rfl,rfl,5,rfl⟩,tv⟩,⟨rfl,rfl,5,rfl⟩,tv⟩,rfl,rfl⟩,adx _,?_⟩
  rintro i hi
  refine T5 (fun h=>?_) fun h=>?_
  ·-- one taken
   have au:i<r.tk.length:=by have:=adz h;rw[WY]at this;omega
   obtain⟨p,hp⟩:∃p,r.tk[i]?=some p:=⟨_,IF au⟩
   have hb:=hlen.2.2.2.1 p (ab6 hp)
   have m1:0<=p.2*times:=Int.mul_nonneg hb.1 ht.1
   have m2:p.2*times<=10*1000:=Int.mul_le_mul hb.2 ht.2 ht.1 (by omega)
   have eG:vq a times (r.tk.take (i+1))=vq a times (r.tk.take i)++[(⟨a,0,p.1,p.2*times,[]⟩:dc)]:=by
    unfold vq;rw[ads,hp,adB];rfl
   have il:(0:Int)<=i:=by omega
   refine⟨fK p,fun _=>⟨il,qh hp⟩,fK p,fun _=>⟨il,qh hp⟩,fun _=>by omega,?_⟩
   refine .inl ⟨[ao (⟨a,0,p.1,p.2*times,[]⟩:dc)],rfl,⟨rf,rf,rf,rf,DV.aI 3,tv⟩,(by simp;rfl),?_⟩
   refine .inr ⟨[ao (⟨a,0,p.1,p.2*times,[]⟩:dc)],b7.refl _,bM (by simp[vq,vt];omega),by simp[vq,vt];omega,?_⟩
   refine⟨by kernel_rfl,?_⟩
   exact⟨fun _=>by omega,i+1,jn rfl (by simp only[eG,adB,adJ];rfl) rfl rfl,au,mlt au⟩
  have he:i=r.tk.length:=by have:=adA h;rw[WY]at this;omega
  subst he
  rw[ady]
  refine⟨Nat,fun i=>⟨4,[(3,.dv (I times)),(4,.dv (I a)),(12,.ptr 1 0),(13,.ptr 2 0),(14,.dv (.sl 2 (r.bk.map fK))),(15,.dv (.sl 2 (r.tk.map fK))),(17,.dv (I i))],[(1,.cells [.dv (I 0),.dv (I 0),.dv (I 0),.dv (I 0),.dv (I 0),.dv (I 0),.dv .ax]),(2,.cells [.dv (I 0),.dv (I 4),.dv (I a),.dv (I t),.dv (I (-2-aP)),.dv (I times),.own 3 0 0 []]),(3,.tree 0 0 (.aD 5 ((vq a times r.tk++vt a times (r.bk.take i)).map ao)))]⟩,fun i=>i<=r.bk.length,fun i=>r.bk.length-i,0,fun _=>rfl,jn rfl (by simp only[List.take_zero,vt,List.map_nil,List.append_nil];rfl) rfl rfl,adx _,?_⟩
  clear hi h
  rintro i hi
  refine T5 (fun h=>?_) fun h=>?_
  ·-- one given
   have au:i<r.bk.length:=by have:=adz h;rw[WY]at this;omega
   obtain⟨p,hp⟩:∃p,r.bk[i]?=some p:=⟨_,IF au⟩
   have hb:=hlen.2.2.2.2.2 p (ab6 hp)
   have m1:0<=p.2*times:=Int.mul_nonneg hb.1 ht.1
   have m2:p.2*times<=10*1000:=Int.mul_le_mul hb.2 ht.2 ht.1 (by omega)
   have eG:vt a times (r.bk.take (i+1))=vt a times (r.bk.take i)++[(⟨0,a,p.1,p.2*times,[]⟩:dc)]:=by
    unfold vt;rw[ads,hp,adB];rfl
   have il:(0:Int)<=i:=by omega
   refine⟨fK p,fun _=>⟨il,qh hp⟩,fK p,fun _=>⟨il,qh hp⟩,fun _=>by omega,?_⟩
   refine .inl ⟨[ao (⟨0,a,p.1,p.2*times,[]⟩:dc)],rfl,⟨rf,rf,rf,rf,DV.aI 3,tv⟩,(by simp;rfl),?_⟩
   refine .inr ⟨[ao (⟨0,a,p.1,p.2*times,[]⟩:dc)],b7.refl _,bM (by simp[vq,vt];omega),by simp[vq,vt];omega,?_⟩
   refine⟨by kernel_rfl,?_⟩
   exact⟨fun _=>by omega,i+1,jn rfl (by simp only[eG,adB,adJ];rfl) rfl rfl,au,mlt au⟩
  have he:i=r.bk.length:=by have:=adA h;rw[WY]at this;omega
  subst he
  rw[ady]
  exact⟨Q4 (s:=⟨0,4,a,t,-2-aP,times,vq a times r.tk++vt a times r.bk⟩),tv⟩
 ·have hf:failed=false:=hf
  subst hf
  skip
  refine⟨iB r,fun _=>⟨h0.1,ir⟩,?_⟩
  refine⟨Nat,fun i=>⟨4,[(3,.dv (I times)),(4,.dv (I a)),(12,.ptr 1 0),(13,.ptr 2 0),(14,.dv (.sl 2 (r.gv.map fK))),(15,.dv (.sl 2 (r.tk.map fK))),(16,.dv (I i))],[(1,.cells [.dv (I 0),.dv (I 0),.dv (I 0),.dv (I 0),.dv (I 0),.dv (I 0),.dv .ax]),(2,.cells [.dv (I 0),.dv (I 4),.dv (I a),.dv (I t),.dv (I (aP)),.dv (I times),.own 3 0 0 []]),(3,.tree 0 0 (.aD 5 ((vq a times (r.tk.take i)).map ao)))]⟩,fun i=>i<=r.tk.length,fun i=>r.tk.length-i,0,fun _=>rfl,⟨⟨rf,rf,rfl,rfl,rf,rf,rf,tv⟩,⟨⟨rf,rf,rf,rf,rf,rf,rf,tv⟩,⟨rf,rf,rf,rf,rf,rf,⟨rfl,rfl,rfl,rfl,5,rfl⟩,tv⟩,⟨rfl,rfl,5,rfl⟩,tv⟩,rfl,rfl⟩,adx _,?_⟩
  rintro i hi
  refine T5 (fun h=>?_) fun h=>?_
  ·-- one taken
   have au:i<r.tk.length:=by have:=adz h;rw[WY]at this;omega
   obtain⟨p,hp⟩:∃p,r.tk[i]?=some p:=⟨_,IF au⟩
   have hb:=hlen.2.2.2.1 p (ab6 hp)
   have m1:0<=p.2*times:=Int.mul_nonneg hb.1 ht.1
   have m2:p.2*times<=10*1000:=Int.mul_le_mul hb.2 ht.2 ht.1 (by omega)
   have eG:vq a times (r.tk.take (i+1))=vq a times (r.tk.take i)++[(⟨a,0,p.1,p.2*times,[]⟩:dc)]:=by
    unfold vq;rw[ads,hp,adB];rfl
   have il:(0:Int)<=i:=by omega
   refine⟨fK p,fun _=>⟨il,qh hp⟩,fK p,fun _=>⟨il,qh hp⟩,fun _=>by omega,?_⟩
   refine .inl ⟨[ao (⟨a,0,p.1,p.2*times,[]⟩:dc)],rfl,⟨rf,rf,rf,rf,DV.aI 3,tv⟩,(by simp;rfl),?_⟩
   refine .inr ⟨[ao (⟨a,0,p.1,p.2*times,[]⟩:dc)],b7.refl _,bM (by simp[vq,vt];omega),by simp[vq,vt];omega,?_⟩
   refine⟨by kernel_rfl,?_⟩
   exact⟨fun _=>by omega,i+1,jn rfl (by simp only[eG,adB,adJ];rfl) rfl rfl,au,mlt au⟩
  have he:i=r.tk.length:=by have:=adA h;rw[WY]at this;omega
  subst he
  rw[ady]
  refine⟨Nat,fun i=>⟨4,[(3,.dv (I times)),(4,.dv (I a)),(12,.ptr 1 0),(13,.ptr 2 0),(14,.dv (.sl 2 (r.gv.map fK))),(15,.dv (.sl 2 (r.tk.map fK))),(17,.dv (I i))],[(1,.cells [.dv (I 0),.dv (I 0),.dv (I 0),.dv (I 0),.dv (I 0),.dv (I 0),.dv .ax]),(2,.cells [.dv (I 0),.dv (I 4),.dv (I a),.dv (I t),.dv (I (aP)),.dv (I times),.own 3 0 0 []]),(3,.tree 0 0 (.aD 5 ((vq a times r.tk++vt a times (r.gv.take i)).map ao)))]⟩,fun i=>i<=r.gv.length,fun i=>r.gv.length-i,0,fun _=>rfl,jn rfl (by simp only[List.take_zero,vt,List.map_nil,List.append_nil];rfl) rfl rfl,adx _,?_⟩
  clear hi h
  rintro i hi
  refine T5 (fun h=>?_) fun h=>?_
  ·-- one given
   have au:i<r.gv.length:=by have:=adz h;rw[WY]at this;omega
   obtain⟨p,hp⟩:∃p,r.gv[i]?=some p:=⟨_,IF au⟩
   have hb:=hlen.2.2.2.2.1 p (ab6 hp)
   have m1:0<=p.2*times:=Int.mul_nonneg hb.1 ht.1
   have m2:p.2*times<=10*1000:=Int.mul_le_mul hb.2 ht.2 ht.1 (by omega)
   have eG:vt a times (r.gv.take (i+1))=vt a times (r.gv.take i)++[(⟨0,a,p.1,p.2*times,[]⟩:dc)]:=by
    unfold vt;rw[ads,hp,adB];rfl
   have il:(0:Int)<=i:=by omega
   refine⟨fK p,fun _=>⟨il,qh hp⟩,fK p,fun _=>⟨il,qh hp⟩,fun _=>by omega,?_⟩
   refine .inl ⟨[ao (⟨0,a,p.1,p.2*times,[]⟩:dc)],rfl,⟨rf,rf,rf,rf,DV.aI 3,tv⟩,(by simp;rfl),?_⟩
   refine .inr ⟨[ao (⟨0,a,p.1,p.2*times,[]⟩:dc)],b7.refl _,bM (by simp[vq,vt];omega),by simp[vq,vt];omega,?_⟩
   refine⟨by kernel_rfl,?_⟩
   exact⟨fun _=>by omega,i+1,jn rfl (by simp only[eG,adB,adJ];rfl) rfl rfl,au,mlt au⟩
  have he:i=r.gv.length:=by have:=adA h;rw[WY]at this;omega
  subst he
  rw[ady]
  exact⟨Q4 (s:=⟨0,4,a,t,aP,times,vq a times r.tk++vt a times r.gv⟩),tv⟩
end
section
open Go.TM
theorem vu{l:List DV}{z x:DV}{i:Nat}(h:l[i]?=some x):(l.take i++List.replicate (l.length-i) z).set i x=l.take (i+1)++List.replicate (l.length-(i+1)) z:=by
 have hi:=(W8.1 h).1
 have:l.length-i=(l.length-(i+1))+1:=by omega
 rw[List.set_append,if_neg (by rw[adD];omega),ads,h,this,List.replicate_succ]
 simp[Nat.min_eq_left (Nat.le_of_lt hi)]
theorem zD{l:List DV}{z:DV}{i:Nat}(h:i<l.length):(l.take i++List.replicate (l.length-i) z)[i]?=some z:=by
 rw[List.getElem?_append_right (by rw[adD];omega),List.getElem?_replicate,if_pos (by rw[adD];omega)]
theorem zF(l:List DV)(z:DV)(i:Nat)(h:i<=l.length):(l.take i++List.replicate (l.length-i) z).length=l.length:=by simp;omega
variable [bp]
theorem Ye{m:dc}:(DV.agg [I m.fr,I m.to,I m.it,I m.n,pk (.aD 3 (m.ps.map aA))]).Le (ao m):=DV.Le.of_eq (by
 show DV.agg [_,_,_,_,.sl 3 (xx (m.ps.map aA))]=_
 rw[fT fun _=>rfl];rfl)
theorem Yf{f:eS}:(DV.agg [I f.id,I f.step,I f.kind,I f.tick,I f.jt,I f.fr,I f.to,I f.it,I f.n,pk (.aD 3 (f.ps.map aA)),pk (.aD 1 (f.md.map I))]).Le (aG f):=DV.Le.of_eq (by
 show DV.agg [_,_,_,_,_,_,_,_,_,.sl 3 (xx (f.ps.map aA)),.sl 1 (xx (f.md.map I))]=_
 rw[fT fun _=>rfl,fT fun _=>rfl];rfl)
theorem qi{α:Type}(sz:Nat){e:α->DV}(h:∀x,pk (e x)=e x){l:List α}:(pk (.aD sz (l.map e))).Le (.sl sz (l.map e)):=DV.Le.of_eq (by
 show DV.sl sz (xx (l.map e))=_
 rw[fT h])
theorem GD(l:List Int)(hl:l.length<=1000000):aj Tryz.prog 78 [.dv (Ints l)] 0 [] 1 [.own 0 0 0 []] [(0,.tree 0 0 (.aD 1 (l.map I)))]:=by
 refine cO Tryz.func78 rfl (by kernel_rfl) ?_
 by_cases hn:l=[]
 ·subst hn
  refine .inl ⟨⟨_,_,⟨rfl,rfl⟩,by kernel_rfl,⟨⟨rfl,rfl,rfl,rfl,1,rfl⟩,tv⟩,⟨rfl,rfl,1,rfl⟩,tv⟩,?_⟩
  refine .inr (.inl ⟨[],rfl,tv,(fun _ h=>by cases h),?_⟩)
  refine .inr ⟨_,b7.refl _,bI (by simp),by simp,?_⟩
  exact ext (by kernel_rfl) rfl rfl
 ·refine .inr ⟨fun h=>hn (List.map_eq_nil_iff.1 h),T5 (fun h=>by cases h) fun _=>?_⟩
  refine .inr (.inl ⟨[],rfl,tv,(fun _ h=>by cases h),?_⟩)
  refine .inr ⟨_,b7.refl _,bI (by simp;omega),by simp;omega,?_⟩
  exact ext (by kernel_rfl) rfl rfl
theorem Np(m:dc)(hl:m.ps.length<=1000000):aN Tryz.prog 101 [ao m] [ao m]:=by
 refine pO Tryz.func101 rfl (by kernel_rfl) rfl ?_
 refine .inr (cl [] (eD m.ps hl) (by kernel_rfl) rfl rfl ?_)
 exact⟨Ye,tv⟩
theorem Nq(f:eS)(hl:f.ps.length<=1000000)(hm:f.md.length<=1000000):aN Tryz.prog 36 [aG f] [aG f]:=by
 refine pO Tryz.func36 rfl (by kernel_rfl) rfl ?_
 refine .inr (cl [] (eD f.ps hl) (by kernel_rfl) rfl rfl ?_)
 refine .inr (cl [] (GD f.md hm) (by kernel_rfl) rfl rfl ?_)
 exact⟨by kernel_rfl,Yf,tv⟩
theorem abe(l:List dc)(hl:l.length<=900000)(hp:∀m∈l,m.ps.length<=1000000):aj Tryz.prog 100 [.dv (.sl 5 (l.map ao)),.dv (.fn 101 [])] 0 [] 0 [.dv (.sl 5 (l.map ao))] []:=by
 have ll:(l.map ao).length=l.length:=WY ..
 refine cO Tryz.func100 rfl (by kernel_rfl) ?_
 refine T5 (fun h=>?_) fun h=>?_
 ·have hz:l=[]:=by have:=beq_iff_eq.1 h;exact List.length_eq_zero_iff.1 (by omega)
  subst hz
  exact⟨_,_,⟨rfl,rfl⟩,by kernel_rfl,⟨DV.aI 5,tv⟩,tv⟩
 refine⟨.agg [I 0,I 0,I 0,I 0,.ax],⟨rf,rf,rf,rf,rf,tv⟩,by omega,by omega,?_,by omega,false,(fun h=>by cases h),?_⟩
 ·have hb:=bM (n:=l.length) (by omega)
  rw[ll];exact Int.le_trans (Int.le_of_eq (Int.natCast_mul _ _).symm) (Int.ofNat_le.2 hb)
 have e0:List.replicate (((l.map ao).length:Int)).toNat (.agg [I 0,I 0,I 0,I 0,.ax])=(l.map ao).take 0++List.replicate ((l.map ao).length-0) (.agg [I 0,I 0,I 0,I 0,.ax]):=by simp
 rw[e0]
 refine⟨Nat,fun i=>⟨1,[(1,.dv (.fn 101 [])),(5,.own 0 0 0 []),(14,.dv (.sl 5 (l.map ao))),(15,.dv (I l.length)),(16,.dv (I i))],[(0,.tree 0 0 (.aD 5 ((l.map ao).take i++List.replicate ((l.map ao).length-i) (.agg [I 0,I 0,I 0,I 0,.ax]))))]⟩,fun i=>i<=l.length,fun i=>l.length-i,0,fun _=>rfl,jn (by simp only[ll];rfl) rfl rfl rfl,adx _,?_⟩
 rintro i hi
 refine T5 (fun h=>?_) fun h=>?_
 ·have au:i<l.length:=by have:=adz h;omega
  obtain⟨x,hx⟩:∃x,l[i]?=some x:=⟨_,IF au⟩
  have ix:(l.map ao)[(i:Int).toNat]?=some (ao x):=by rw[abW];simp[hx]
  have hlx:(l.map ao)[i]?=some (ao x):=by rw[abW,hx];rfl
  have Od:=vu (z:=.agg [I 0,I 0,I 0,I 0,.ax]) hlx
  have kP:=zF (l.map ao) (.agg [I 0,I 0,I 0,I 0,.ax]) i (by omega)
  have hfg:=zD (z:=.agg [I 0,I 0,I 0,I 0,.ax]) (show i<(l.map ao).length by omega)
  refine⟨ao x,fun _=>⟨by omega,ix⟩,?_⟩
  refine .inl ⟨_,fun _=>(Np x (hp x (ab6 hx))).ok,?_⟩
  refine⟨fun _=>⟨by omega,by rw[kP];omega⟩,(ao x).cells,⟨rf,rf,rf,rf,rf,tv⟩,.agg [I 0,I 0,I 0,I 0,.ax],hfg,?_⟩
  exact⟨fun _=>by omega,i+1,jn rfl (by simp only[<-Od];rfl) rfl rfl,au,mlt au⟩
 ·have he:i=l.length:=by have:=adA h;omega
  subst he
  have GF:(l.map ao).take l.length++List.replicate ((l.map ao).length-l.length) (.agg [I 0,I 0,I 0,I 0,.ax])=(l.map ao):=by rw[<-ll,ady];simp
  rw[GF]
  exact⟨_,_,⟨rfl,rfl⟩,by kernel_rfl,⟨qi 5 (fun _=>rfl),tv⟩,tv⟩
theorem vw(s:cJ)(hl:s.mv.length<=900000)(hp:∀m∈s.mv,m.ps.length<=1000000):aN Tryz.prog 63 [aC s] [aC s]:=by
 refine pO Tryz.func63 rfl (by kernel_rfl) rfl ?_
 refine .inr ⟨[],[.dv (.sl 5 (s.mv.map ao)),.dv (.fn 101 [])],[],0,_,[],abe s.mv hl hp,by kernel_rfl,by kernel_rfl,⟨rf,rf,tv⟩,tv,?_⟩
 exact⟨rf,tv⟩
theorem abf(l:List cJ)(hl:l.length<=900000)(hp:∀s∈l,s.mv.length<=900000/\∀m∈s.mv,m.ps.length<=1000000):aj Tryz.prog 62 [.own 0 0 0 [],.dv (.fn 63 [])] 1 [(0,.tree 0 0 (.aD 7 (l.map aC)))] 0 [.dv (.sl 7 (l.map aC))] [(0,.tree 0 0 (.aD 7 (l.map aC)))]:=by
 have ll:(l.map aC).length=l.length:=WY ..
 refine cO Tryz.func62 rfl (by kernel_rfl) ?_
 refine T5 (fun h=>?_) fun h=>?_
 ·have hz:l=[]:=by have:=beq_iff_eq.1 h;exact List.length_eq_zero_iff.1 (by omega)
  subst hz
  exact⟨_,_,⟨rfl,rfl⟩,by kernel_rfl,⟨DV.aI 7,tv⟩,⟨rfl,rfl⟩,tv⟩
 refine⟨.agg [I 0,I 0,I 0,I 0,I 0,I 0,.ax],⟨rf,rf,rf,rf,rf,rf,rf,tv⟩,by omega,by omega,?_,by omega,false,(fun h=>by cases h),?_⟩
 ·have hb:=bS (n:=l.length) (by omega)
  rw[ll];exact Int.le_trans (Int.le_of_eq (Int.natCast_mul _ _).symm) (Int.ofNat_le.2 hb)
 have e0:List.replicate (((l.map aC).length:Int)).toNat (.agg [I 0,I 0,I 0,I 0,I 0,I 0,.ax])=(l.map aC).take 0++List.replicate ((l.map aC).length-0) (.agg [I 0,I 0,I 0,I 0,I 0,I 0,.ax]):=by simp
 rw[e0]
 refine⟨Nat,fun i=>⟨2,[(1,.dv (.fn 63 [])),(5,.own 1 0 0 []),(14,.own 0 0 0 []),(15,.dv (I l.length)),(16,.dv (I i))],[(0,.tree 0 0 (.aD 7 (l.map aC))),(1,.tree 0 0 (.aD 7 ((l.map aC).take i++List.replicate ((l.map aC).length-i) (.agg [I 0,I 0,I 0,I 0,I 0,I 0,.ax]))))]⟩,fun i=>i<=l.length,fun i=>l.length-i,0,fun _=>rfl,jn (by simp only[ll];rfl) rfl rfl rfl,adx _,?_⟩
 rintro i hi
 refine T5 (fun h=>?_) fun h=>?_
 ·have au:i<l.length:=by have:=adz h;omega
  obtain⟨x,hx⟩:∃x,l[i]?=some x:=⟨_,IF au⟩
  have ix:(l.map aC)[(i:Int).toNat]?=some (aC x):=by rw[abW];simp[hx]
  have hlx:(l.map aC)[i]?=some (aC x):=by rw[abW,hx];rfl
  have Od:=vu (z:=.agg [I 0,I 0,I 0,I 0,I 0,I 0,.ax]) hlx
  have kP:=zF (l.map aC) (.agg [I 0,I 0,I 0,I 0,I 0,I 0,.ax]) i (by omega)
  have hfg:=zD (z:=.agg [I 0,I 0,I 0,I 0,I 0,I 0,.ax]) (show i<(l.map aC).length by omega)
  refine⟨fun _=>by omega,aC x,fun _=>ix,?_⟩
  refine .inl ⟨_,fun _=>(vw x (hp x (ab6 hx)).1 (hp x (ab6 hx)).2).ok,?_⟩
  refine⟨fun _=>⟨by omega,by rw[kP];omega⟩,(aC x).cells,⟨rf,rf,rf,rf,rf,rf,rf,tv⟩,.agg [I 0,I 0,I 0,I 0,I 0,I 0,.ax],hfg,?_⟩
  exact⟨fun _=>by omega,i+1,jn rfl (by simp only[<-Od];rfl) rfl rfl,au,mlt au⟩
 ·have he:i=l.length:=by have:=adA h;omega
  subst he
  have GF:(l.map aC).take l.length++List.replicate ((l.map aC).length-l.length) (.agg [I 0,I 0,I 0,I 0,I 0,I 0,.ax])=(l.map aC):=by rw[<-ll,ady];simp
  rw[GF]
  exact⟨_,_,⟨rfl,rfl⟩,by kernel_rfl,⟨qi 7 (fun _=>rfl),tv⟩,⟨rfl,rfl⟩,tv⟩
theorem abg(l:List eS)(hl:l.length<=900000)(hp:∀f∈l,f.ps.length<=1000000/\f.md.length<=1000000):aj Tryz.prog 35 [.own 0 0 0 [],.dv (.fn 36 [])] 1 [(0,.tree 0 0 (.aD 11 (l.map aG)))] 0 [.dv (.sl 11 (l.map aG))] [(0,.tree 0 0 (.aD 11 (l.map aG)))]:=by
 have ll:(l.map aG).length=l.length:=WY ..
 refine cO Tryz.func35 rfl (by kernel_rfl) ?_
 refine T5 (fun h=>?_) fun h=>?_
 ·have hz:l=[]:=by have:=beq_iff_eq.1 h;exact List.length_eq_zero_iff.1 (by omega)
  subst hz
  exact⟨_,_,⟨rfl,rfl⟩,by kernel_rfl,⟨DV.aI 11,tv⟩,⟨rfl,rfl⟩,tv⟩
 refine⟨.agg [I 0,I 0,I 0,I 0,I 0,I 0,I 0,I 0,I 0,.ax,.ax],⟨rf,rf,rf,rf,rf,rf,rf,rf,rf,rf,rf,tv⟩,by omega,by omega,?_,by omega,false,(fun h=>by cases h),?_⟩
 ·have hb:=bF (n:=l.length) (by omega)
  rw[ll];exact Int.le_trans (Int.le_of_eq (Int.natCast_mul _ _).symm) (Int.ofNat_le.2 hb)
 have e0:List.replicate (((l.map aG).length:Int)).toNat (.agg [I 0,I 0,I 0,I 0,I 0,I 0,I 0,I 0,I 0,.ax,.ax])=(l.map aG).take 0++List.replicate ((l.map aG).length-0) (.agg [I 0,I 0,I 0,I 0,I 0,I 0,I 0,I 0,I 0,.ax,.ax]):=by simp
 rw[e0]
 refine⟨Nat,fun i=>⟨2,[(1,.dv (.fn 36 [])),(5,.own 1 0 0 []),(14,.own 0 0 0 []),(15,.dv (I l.length)),(16,.dv (I i))],[(0,.tree 0 0 (.aD 11 (l.map aG))),(1,.tree 0 0 (.aD 11 ((l.map aG).take i++List.replicate ((l.map aG).length-i) (.agg [I 0,I 0,I 0,I 0,I 0,I 0,I 0,I 0,I 0,.ax,.ax]))))]⟩,fun i=>i<=l.length,fun i=>l.length-i,0,fun _=>rfl,jn (by simp only[ll];rfl) rfl rfl rfl,adx _,?_⟩
 rintro i hi
 refine T5 (fun h=>?_) fun h=>?_
 ·have au:i<l.length:=by have:=adz h;omega
  obtain⟨x,hx⟩:∃x,l[i]?=some x:=⟨_,IF au⟩
  have ix:(l.map aG)[(i:Int).toNat]?=some (aG x):=by rw[abW];simp[hx]
  have hlx:(l.map aG)[i]?=some (aG x):=by rw[abW,hx];rfl
  have Od:=vu (z:=.agg [I 0,I 0,I 0,I 0,I 0,I 0,I 0,I 0,I 0,.ax,.ax]) hlx
  have kP:=zF (l.map aG) (.agg [I 0,I 0,I 0,I 0,I 0,I 0,I 0,I 0,I 0,.ax,.ax]) i (by omega)
  have hfg:=zD (z:=.agg [I 0,I 0,I 0,I 0,I 0,I 0,I 0,I 0,I 0,.ax,.ax]) (show i<(l.map aG).length by omega)
  refine⟨fun _=>by omega,aG x,fun _=>ix,?_⟩
  refine .inl ⟨_,fun _=>(Nq x (hp x (ab6 hx)).1 (hp x (ab6 hx)).2).ok,?_⟩
  refine⟨fun _=>⟨by omega,by rw[kP];omega⟩,(aG x).cells,⟨rf,rf,rf,rf,rf,rf,rf,rf,rf,rf,rf,tv⟩,.agg [I 0,I 0,I 0,I 0,I 0,I 0,I 0,I 0,I 0,.ax,.ax],hfg,?_⟩
  exact⟨fun _=>by omega,i+1,jn rfl (by simp only[<-Od];rfl) rfl rfl,au,mlt au⟩
 ·have he:i=l.length:=by have:=adA h;omega
  subst he
  have GF:(l.map aG).take l.length++List.replicate ((l.map aG).length-l.length) (.agg [I 0,I 0,I 0,I 0,I 0,I 0,I 0,I 0,I 0,.ax,.ax])=(l.map aG):=by rw[<-ll,ady];simp
  rw[GF]
  exact⟨_,_,⟨rfl,rfl⟩,by kernel_rfl,⟨qi 11 (fun _=>rfl),tv⟩,⟨rfl,rfl⟩,tv⟩
end
section
open Go.TM
abbrev IM(β:Type):=List (Int×β)
structure PL where
 sh:Int
 st:SM
 b9:IM Int
 sp:List cJ
 fl:List eS
 imp:IM (List Lt)
 ret:IM (List Lt)
def qV(k:Ky):DV:=.agg [I k.1,I k.2]
def eI(n:Int):DV:=I n
def oq(m:SM):List DV:=eM qV (fun l:List Lt=>aM l) m
def nG(m:IM Int):List DV:=eM eI eI m
def mU(m:IM (List Lt)):List DV:=eM eI (fun l:List Lt=>aM l) m
theorem iC(a b:Ky):um (qV a) (qV b)=decide (a=b):=by
 obtain⟨a1,a2⟩:=a
 obtain⟨b1,b2⟩:=b
 rw[adO]
 simp[qV,um,Cs,EM]
theorem je(a b:Int):um (eI a) (eI b)=decide (a=b):=by
 rw[adO]
 simp[eI,um,EM]
def plC(P:PL):List AV:=.dv (I P.sh)::ed gE++[.own 1 0 0 [],.own 2 0 0 [],.own 3 0 0 [],.own 4 0 0 [],.own 5 0 0 [],.own 6 0 0 []]
def gY(P:PL):ae:=[(0,.cells (plC P)),(1,.tree 0 0 (.omap eb (oq P.st))),(2,.tree 0 0 (.omap cr (nG P.b9))),(3,.tree 0 0 (.aD 7 (P.sp.map aC))),(4,.tree 0 0 (.aD 11 (P.fl.map aG))),(5,.tree 0 0 (.omap cr (mU P.imp))),(6,.tree 0 0 (.omap cr (mU P.ret)))]
def GG(m:IM Int)(it:Int):Int:=(aX m it).getD 0
variable [bp]
theorem mD:uM Tryz.prog 89 eb:=Bk gi rfl
theorem j8:uM Tryz.prog 3 cr:=Ft gi rfl
theorem mE(P:PL)(a i:Int)(hl:(aW P.st (a,i)).length<=1000000):aj Tryz.prog 19 [.ptr 0 0,.dv (I a),.dv (I i)] 7 (gY P) 0 [.dv (aM (aW P.st (a,i)))] (gY P):=by
 have hg:=jd (ev:=fun l:List Lt=>aM l) iC P.st (a,i)
 refine cO Tryz.func19 rfl (by kernel_rfl) ?_
 refine⟨mD,qV (a,i),rfl,rfl,?_⟩
 unfold aW at hl⊢
 cases h:aX P.st (a,i)with
 |none=>
  rw[h]at hg hl
  refine⟨.ax,false,fun _=>hg,fun _=>rfl,rfl,?_⟩
  refine .inr ⟨[],[.dv (aM [])],[],1,_,_,eD [] (by simp),by kernel_rfl,by kernel_rfl,⟨DV.aI 3,tv⟩,tv,?_⟩
  exact⟨_,_,⟨rfl,rfl⟩,by kernel_rfl,⟨mC _,tv⟩,aV (k:=gY P) rfl⟩
 |some l=>
  rw[h]at hg hl
  refine⟨aM l,true,fun _=>hg,fun h=>(by cases h),rfl,?_⟩
  refine .inr (cl [] (eD l hl) (by kernel_rfl) rfl rfl ?_)
  exact⟨_,_,⟨rfl,rfl⟩,by kernel_rfl,⟨mC _,tv⟩,aV (k:=gY P) rfl⟩
theorem Nr(P:PL)(a i:Int)(hl:(aW P.st (a,i)).length<=1000000)(hn:∀x∈aW P.st (a,i),0<=x.n/\x.n<=1099511627776):aj Tryz.prog 55 [.ptr 0 0,.dv (I a),.dv (I i)] 7 (gY P) 0 [.dv (I (b8 (aW P.st (a,i))))] (gY P):=by
 have hg:=jd (ev:=fun l:List Lt=>aM l) iC P.st (a,i)
 refine cO Tryz.func55 rfl (by kernel_rfl) ?_
 refine⟨mD,qV (a,i),rfl,rfl,?_⟩
 unfold aW at hl hn⊢
 cases h:aX P.st (a,i)with
 |none=>
  rw[h]at hg
  refine⟨.ax,false,fun _=>hg,fun _=>rfl,rfl,?_⟩
  refine .inl ⟨_,fun _=>⟨[aM []],⟨DV.aI 3,tv⟩,nz [] (by simp) (fun _ h=>by cases h)⟩,?_⟩
  exact ext (by kernel_rfl) rfl rfl
 |some l=>
  rw[h]at hg hl hn
  refine⟨aM l,true,fun _=>hg,fun h=>(by cases h),rfl,?_⟩
  refine .inl ⟨_,fun _=>(nz l hl hn).ok,?_⟩
  exact ext (by kernel_rfl) rfl rfl
theorem wx(P:PL)(i:Int):aj Tryz.prog 11 [.ptr 0 0,.dv (I i)] 7 (gY P) 0 [.dv (I (GG P.b9 i))] (gY P):=by
 have hg:=jd (ev:=eI) je P.b9 i
 refine cO Tryz.func11 rfl (by kernel_rfl) ?_
 refine⟨j8,eI i,rfl,rfl,?_⟩
 unfold GG
 cases h:aX P.b9 i with
 |none=>
  rw[h]at hg
  refine⟨I 0,false,fun _=>hg,fun _=>rfl,rfl,?_⟩
  exact ext (by kernel_rfl) rfl rfl
 |some l=>
  rw[h]at hg
  refine⟨I l,true,fun _=>hg,fun h=>(by cases h),rfl,?_⟩
  exact ext (by kernel_rfl) rfl rfl
theorem B4(P:PL)(hn:P.sp.length<=1000000):aj Tryz.prog 52 [.ptr 0 0] 7 (gY P) 0 [.dv (I (eC P.sp))] (gY P):=by
 have lp:(P.sp.map aC).length=P.sp.length:=WY ..
 refine cO Tryz.func52 rfl (by kernel_rfl) ?_
 refine T5 (fun h=>?_) fun h=>?_
 ·have hz:P.sp=[]:=by have:=beq_iff_eq.1 h;exact List.length_eq_zero_iff.1 (by omega)
  rw[show eC P.sp=0 by rw[hz];rfl]
  exact ext (by kernel_rfl) rfl rfl
 ·have cF:0<P.sp.length:=by have:=beq_eq_false_iff_ne.1 h;omega
  have hx:=IF (show P.sp.length-1<P.sp.length by omega)
  generalize P.sp[P.sp.length-1]=s at hx
  have acw:eC P.sp=s.tick:=by unfold eC;rw[List.getLast?_eq_getElem?,hx]
  have ix:(P.sp.map aC)[((((P.sp.map aC).length:Nat):Int)-1).toNat]?=some (aC s):=by rw[abW,show((((P.sp.map aC).length:Nat):Int)-1).toNat=P.sp.length-1 by omega,hx];rfl
  refine⟨fun _=>by omega,fun _=>by omega,aC s,fun _=>ix,?_⟩
  rw[acw]
  exact⟨by kernel_rfl,ext (by kernel_rfl) rfl rfl⟩
theorem wy(P:PL)(hn:P.fl.length<=900000)(hp:∀f∈P.fl,f.ps.length<=1000000/\f.md.length<=1000000):aj Tryz.prog 9 [.ptr 0 0] 7 (gY P) 0 [.dv (.sl 11 (P.fl.map aG))] (gY P):=by
 refine cO Tryz.func9 rfl (by kernel_rfl) ?_
 refine .inr ⟨[4],[.own 0 0 0 [],.dv (.fn 36 [])],_,0,_,_,abg P.fl hn hp,by kernel_rfl,by kernel_rfl,⟨rfl,rf,tv⟩,⟨⟨rfl,rfl⟩,tv⟩,?_⟩
 exact ext (by kernel_rfl) rfl rfl
theorem GH(P:PL)(hn:P.sp.length<=900000)(hp:∀s∈P.sp,s.mv.length<=900000/\∀m∈s.mv,m.ps.length<=1000000):aj Tryz.prog 23 [.ptr 0 0] 7 (gY P) 0 [.dv (.sl 7 (P.sp.map aC))] (gY P):=by
 refine cO Tryz.func23 rfl (by kernel_rfl) ?_
 refine .inr ⟨[3],[.own 0 0 0 [],.dv (.fn 63 [])],_,0,_,_,abf P.sp hn hp,by kernel_rfl,by kernel_rfl,⟨rfl,rf,tv⟩,⟨⟨rfl,rfl⟩,tv⟩,?_⟩
 exact ext (by kernel_rfl) rfl rfl
end
section
open Go.TM
structure SeI where
 i:Nat
 j:Nat
theorem Q5{i j:Nat}(h:i+j<=1000000):IntKind.i64.wrap (IntKind.u64.wrap ((i:Int)+(j:Int))/2^min (Int.toNat 1) IntKind.u64.bits)=(((i+j)/2:Nat):Int):=by
 have e:min (Int.toNat 1) IntKind.u64.bits=1:=rfl
 rw[e,IntKind.wrap_u64,IntKind.wrap_i64]
 omega
def abh(f:Nat)(bQ:List AV)(m:Nat)(K:ae)(q:SeI):cQ:=⟨m,[(1,.fn f bQ),(5,.dv (I q.i)),(6,.dv (I q.j))],K⟩
def JC(set:List Lt)(x:Lt):Nat:=(set.takeWhile fun s=>!j3 x s).length
theorem Q6{p:Lt->Bool}:∀{l:List Lt} {y:Lt},y∈l.takeWhile p->p y=true
 |[],y,h=>by cases h
 |x::l,y,h=>by
  rw[List.takeWhile_cons]at h
  split at h
  ·rename_i hx
   rcases adp.1 h with rfl|h
   ·exact hx
   ·exact Q6 h
  ·cases h
theorem JD{set:List Lt}(hs:NS set)(x:Lt):JC set x<=set.length/\(set.dropWhile fun s=>!j3 x s)=set.drop (JC set x)/\(∀i y,i<JC set x->set[i]?=some y->j3 x y=false)/\∀i y,JC set x<=i->set[i]?=some y->j3 x y=true:=by
 have e:=List.takeWhile_append_dropWhile (p:=fun s=>!j3 x s) (l:=set)
 have hd:=(Dk x set hs).2.1
 have hl:=congrArg List.length e
 rw[adv]at hl
 have e2:(set.dropWhile fun s=>!j3 x s)=set.drop (JC set x):=by
  have h:=congrArg (List.drop (set.takeWhile fun s=>!j3 x s).length) e
  rw[List.drop_left]at h
  exact h
 refine⟨by unfold JC;omega,e2,fun i y hi hy=>?_,fun i y hi hy=>?_⟩
 ·rw[<-e,List.getElem?_append_left hi]at hy
  have:=Q6 (ab6 hy)
  simpa using this
 ·refine hd y ?_
  rw[e2]
  refine ab6 (i:=i-JC set x) ?_
  rw[List.getElem?_drop,show JC set x+(i-JC set x)=i by omega];exact hy
variable [bp]
def Zy(set:List Lt)(x:Lt):ae:=[(0,.cells [.dv (aM set)]),(1,.cells (ed (aA x).cells))]
theorem Ns(set:List Lt)(x y:Lt)(i:Nat)(hy:set[i]?=some y)(hb:0<=y.a/\y.a<=1099511627776/\0<=y.n/\y.n<=1099511627776):aj Tryz.prog 268 [.dv (I i),.ptr 0 0,.ptr 1 0] 2 (Zy set x) 0 [.dv (B (j3 x y))] (Zy set x):=by
 have iy:(set.map aA)[(i:Int).toNat]?=some (aA y):=by rw[abW];simp[hy]
 have i0:(0:Int)<=i:=by omega
 refine cO Tryz.func268 rfl (by kernel_rfl) ?_
 refine⟨aA y,fun _=>⟨i0,iy⟩,?_⟩
 repeat refine gG ?_
 refine⟨aA y,fun _=>⟨i0,iy⟩,?_⟩
 repeat refine gG ?_
 refine⟨aA y,fun _=>⟨i0,iy⟩,?_⟩
 repeat refine gG ?_
 refine⟨aA y,fun _=>⟨i0,iy⟩,?_⟩
 repeat refine gG ?_
 refine⟨fun _=>by omega,?_⟩
 repeat refine gG ?_
 refine⟨by kernel_rfl,?_⟩
 rw[show j3 x y=(bif decide (x.f<y.f)then true else bif y.f==x.f then decide (x.a<y.a+y.n)else false)by
  unfold j3;rw[adO];simp]
 exact ext (by kernel_rfl) rfl rfl
theorem tO(set:List Lt)(x:Lt)(hs:NS set)(hb:lB set):aj Tryz.prog 105 [.dv (I set.length),.fn 268 [.ptr 0 0,.ptr 1 0]] 2 (Zy set x) 0 [.dv (I (JC set x))] (Zy set x):=by
 obtain⟨hk,-,h1,h2⟩:=JD hs x
 obtain⟨hl,Kw⟩:=hb
 generalize JC set x=k at*
 refine cO Tryz.func105 rfl (by kernel_rfl) ?_
 refine⟨SeI,abh 268 [.ptr 0 0,.ptr 1 0] 2 (Zy set x),fun q=>q.i<=k/\k<=q.j/\q.j<=set.length,fun q=>q.j-q.i,⟨0,set.length⟩,fun _=>rfl,jn rfl rfl rfl rfl,⟨adx _,hk,adM _⟩,?_⟩
 rintro q ⟨p1,p2,p3⟩
 refine T5 (fun au=>?_) fun gV=>?_
 ·have au:q.i<q.j:=by have:=adz au;simp only[Int.ofNat_lt]at this;exact this
  refine⟨fun _=>by omega,?_⟩
  refine⟨fun _=>by omega,?_⟩
  obtain⟨y,hy⟩:∃y,set[(q.i+q.j)/2]?=some y:=⟨_,IF (by omega)⟩
  refine .inr ⟨[0,1],[.dv (I ((q.i+q.j)/2:Nat)),.ptr 0 0,.ptr 1 0],Zy set x,0,_,_,Ns set x y _ hy (Kw y (ab6 hy)),by kernel_rfl,by kernel_rfl,⟨?_,rfl,rfl,tv⟩,⟨⟨rf,tv⟩,⟨rf,rf,rf,tv⟩,tv⟩,?_⟩
  ·rw[Q5 (by omega)];exact rf
  rw[Q5 (by omega)]
  refine T5 (fun hb=>?_) fun hb=>?_
  ·have iN:(q.i+q.j)/2<k:=by
    rcases adC ((q.i+q.j)/2) k with h|h
    ·exact h
    ·have:=h2 _ _ h hy;rw[this]at hb;cases hb
   exact⟨fun _=>by omega,⟨(q.i+q.j)/2+1,q.j⟩,jn rfl rfl rfl rfl,⟨iN,p2,p3⟩,by simp only;omega⟩
  ·have acx:k<=(q.i+q.j)/2:=by
    rcases adC ((q.i+q.j)/2) k with h|h
    ·have:=h1 _ _ h hy;rw[this]at hb;cases hb
    ·exact h
   exact⟨⟨q.i,(q.i+q.j)/2⟩,jn rfl rfl rfl rfl,⟨p1,acx,by simp only;omega⟩,by simp only;omega⟩
 ·have gV:q.i=q.j:=by have:=adA gV;omega
  have I0:q.i=k:=by omega
  rw[<-I0]
  exact ext (by kernel_rfl) rfl rfl
end
section
open Go.TM
def GI:Code->Option RC
 |.seq a b=>match GI a with
  |some r=>some r
  |none=>GI b
 |.cond _ a b=>match GI a with
  |some r=>some r
  |none=>GI b
 |.block _ c=>GI c
 |.scope c=>GI c
 |.loop c=>GI c
 |.rangeFunc _ ps a b=>some ⟨ps,a,b⟩
 |_=>none
def Au(f:Func):RC:=match f.body with
 |some c=>(match GI c with
  |some r=>r
  |none=>⟨#[],.skip,.skip⟩)
 |none=>⟨#[],.skip,.skip⟩
abbrev ZZ:=List Lt×List Lt
def dL(x s:Lt):Int:=if 0<s.a-x.a then s.a-x.a else 0
def jq(x s:Lt):Int:=if s.a+s.n-(x.a+dL x s)<x.n-dL x s then s.a+s.n-(x.a+dL x s)else x.n-dL x s
def Og(x s:Lt):Bool:=decide (0<x.n)&&(s.f==x.f&&decide (s.a<x.a+x.n))
theorem DN{x s:Lt}{r:List Lt}(h:Og x s=true):Aq x (s::r)=(if 0<dL x s then[(⟨x.f,x.a,dL x s⟩,false)]else[])++(⟨x.f,x.a+dL x s,jq x s⟩,true)::Aq ⟨x.f,x.a+dL x s+jq x s,x.n-dL x s-jq x s⟩ r:=by
 simp only[Og,adT,decide_eq_true_eq,beq_iff_eq]at h
 have e1:dL x s=max 0 (s.a-x.a):=by unfold dL;split<;>omega
 have e2:jq x s=min (x.n-max 0 (s.a-x.a)) (s.a+s.n-(x.a+max 0 (s.a-x.a))):=by unfold jq;rw[e1];split<;>omega
 rw[e2,e1]
 conv=>lhs;unfold Aq
 rw[if_pos h]
theorem JE{x s:Lt}{r:List Lt}(h:Og x s=false):Aq x (s::r)=if 0<x.n then[(x,false)]else[]:=by
 have h2:¬(0<x.n/\s.f=x.f/\s.a<x.a+x.n):=fun hc=>by
  have:Og x s=true:=by simp only[Og,adT,decide_eq_true_eq,beq_iff_eq];exact hc
  rw[this]at h;cases h
 conv=>lhs;unfold Aq
 rw[if_neg h2]
def HX(n:Nat)(z:ZZ):Prop:=(∀y∈z.1,az y=true)/\(∀y∈z.2,az y=true)/\z.1.length<=n/\z.2.length<=n
theorem HX.lB{n:Nat}{z:ZZ}(h:HX n z)(hn:n<=100000):lB z.1/\lB z.2:=
 ⟨⟨by have:=h.2.2.1;omega,fun y hy=>by have:=ai.1 (h.1 y hy);omega⟩,⟨by have:=h.2.2.2;omega,fun y hy=>by have:=ai.1 (h.2.1 y hy);omega⟩⟩
theorem HX.put{n:Nat}{z:ZZ}(h:HX n z){p:Lt×Bool}(hp:az p.1=true):HX (n+1) (gA z p):=by
 obtain⟨h1,h2,h3,h4⟩:=h
 have hb:=ai.1 hp
 unfold gA
 cases p.2
 ·exact⟨h1,tC [p.1] z.2 (by simpa using hp) h2 |>.1,by show z.1.length<=_;omega,by have:=fh z.2 p.1;show(aR z.2 p.1).length<=_;omega⟩
 ·exact⟨tC [p.1] z.1 (by simpa using hp) h1 |>.1,h2,by have:=fh z.1 p.1;show(aR z.1 p.1).length<=_;omega,by show z.2.length<=_;omega⟩
theorem HX.fold:∀{l:List (Lt×Bool)} {n:Nat} {z:ZZ},HX n z->(∀p∈l,az p.1=true)->HX (n+l.length) (l.foldl gA z)
 |[],n,z,h,_=>h
 |p::l,n,z,h,hp=>by
  have:=HX.fold (h.put (hp p adu)) fun q hq=>hp q (adq _ hq)
  rw[List.length_cons,show n+(l.length+1)=n+1+l.length by omega]
  exact this
theorem LM:∀(s:List Lt) (x:Lt),(Aq x s).length<=2*s.length+1
 |[],x=>by unfold Aq;split<;>simp
 |s::r,x=>by
  cases h:Og x s with
  |true=>
   rw[DN h]
   have:=LM r ⟨x.f,x.a+dL x s+jq x s,x.n-dL x s-jq x s⟩
   simp only[adv,List.length_cons]
   split<;>simp<;>omega
  |false=>rw[JE h];split<;>simp
theorem GJ(set:List Lt)(x:Lt):(jm set x).length<=2*set.length+1:=by
 have h1:=LM (set.dropWhile fun s=>!j3 x s) x
 have h2:=(List.dropWhile_sublist (p:=fun s=>!j3 x s) (l:=set)).length_le
 unfold jm;omega
theorem DO{set:List Lt}{x:Lt}(hs:NS set)(hx:az x=true):∀p∈jm set x,az p.1=true:=fun p hp=>by
 have hb:=ai.1 hx
 have:=(jK hs (by omega:0<=x.n)).pos p hp
 rw[ai];omega
end
end Go.Proofs.YtmojfblpbcficaaGreatDoor
