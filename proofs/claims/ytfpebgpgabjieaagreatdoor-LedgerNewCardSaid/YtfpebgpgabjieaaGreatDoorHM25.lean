import Derived.Test.YtfpebgpgabjieaaGreatDoorHM23
import Derived.Test.YtfpebgpgabjieaaGreatDoorHM19
import Derived.Test.YtfpebgpgabjieaaGreatDoorHM21
import Derived.Test.YtfpebgpgabjieaaGreatDoorHM24
set_option linter.all false
open Go.TM.oA Go.TM.oB Go.TM.oC Go.TM.oD Go.TM.oE
namespace Go.Proofs.YtfpebgpgabjieaaGreatDoor
set_option maxRecDepth 100000
set_option maxHeartbeats 4000000
section
open Go.TM
def NJ(d:List Lt)(i:Nat):List Lt:=(d.take i).foldl qN []
theorem FG{d:List Lt}{i:Nat}{x:Lt}(h:d[i]?=some x):NJ d (i+1)=qN (NJ d i) x:=by
 unfold NJ;rw[ads,h,adI];rfl
theorem Uv{s:List Lt}{x:Lt}(hs:∀y∈s,aJ y=true)(hx:aJ x=true):(∀y∈qN s x,aJ y=true)/\(qN s x).length<=s.length+1:=by
 unfold qN
 split
 ·rename_i y hy
  have NG:=ak.1 (hs y (List.mem_of_getLast? hy))
  have Fh:=ak.1 hx
  split
  ·rename_i hc
   refine⟨fun z hz=>?_,by simp⟩
   rcases adr.1 hz with hz|hz
   ·exact hs z (List.dropLast_subset _ hz)
   ·rw[ado]at hz;subst hz
    rw[ak];dsimp only;omega
  ·refine⟨fun z hz=>?_,by simp⟩
   rcases adr.1 hz with hz|hz
   ·exact hs z hz
   ·rw[ado]at hz;subst hz;exact hx
 ·refine⟨fun z hz=>?_,by simp⟩
  rw[ado]at hz;subst hz;exact hx
theorem P7{d:List Lt}(hd:∀x∈d,aJ x=true):∀i,(∀y∈NJ d i,aJ y=true)/\(NJ d i).length<=i
 |0=>⟨fun _ h=>(by cases h),adM _⟩
 |i+1=>by
  have ih:=P7 hd i
  cases h:d[i]? with
  |none=>
   have:NJ d (i+1)=NJ d i:=by unfold NJ;rw[ads,h];simp
   rw[this];exact⟨ih.1,by omega⟩
  |some x=>
   rw[FG h]
   have:=Uv ih.1 (hd x (adl h))
   exact⟨this.1,by omega⟩
variable [aW]
theorem nS(l:List Lt):(oT (.aI 3 (l.map aD))).Le (aR l):=DV.Le.of_eq (by
 show DV.sl 3 (wW (l.map aD))=_
 rw[fq (fun _=>rfl)])
theorem cX{f:Nat}{fn:Func}{c:Code}{args:List AV}{m ex:Nat}{K:ae}{rs:List AV}{K':ae}(hf:Tryz.prog.funcs[f]?=some fn)(hb:fn.body=some c)
 (ha:((!(fn.name== "runtime.NumGoroutine"))&&(Nat.ble args.length fn.ntmps&&cU.wf ⟨m,dA 0 args,K⟩))=true) (h:fG Tryz.prog jk .rel fn.ntmps m c (pe jk fn m ex fun r k=>r=rs/\k=K') m (dA 0 args) K):aw Tryz.prog f args m K ex rs K':=by
 rw[adT,adV]at ha
 exact Hm aG mixed (eY _) (fL _) hf hb ha.1 ha.2 h
theorem fj(l:List Lt)(hl:l.length<=1000000):aw Tryz.prog 79 [.dv (aR l)] 0 [] 1 [.own 0 0 0 []] [(0,.tree 0 0 (.aI 3 (l.map aD)))]:=by
 refine cO Tryz.func79 rfl (by kernel_rfl) ?_
 by_cases hn:l=[]
 ·subst hn
  refine .inl ⟨⟨_,_,⟨rfl,rfl⟩,by kernel_rfl,⟨⟨rfl,rfl,rfl,rfl,3,rfl⟩,tv⟩,⟨rfl,rfl,3,rfl⟩,tv⟩,?_⟩
  refine .inr (.inl ⟨[],rfl,tv,(fun _ h=>by cases h),?_⟩)
  refine .inr ⟨_,bW.refl _,bL (by simp),by simp,?_⟩
  exact ext (by kernel_rfl) rfl rfl
 ·refine .inr ⟨fun h=>hn (List.map_eq_nil_iff.1 h),adh (fun h=>by cases h) fun _=>?_⟩
  refine .inr (.inl ⟨[],rfl,tv,(fun _ h=>by cases h),?_⟩)
  refine .inr ⟨_,bW.refl _,bL (by simp;omega),by simp;omega,?_⟩
  exact ext (by kernel_rfl) rfl rfl
theorem Mc(l:List Lt)(hp:∀x∈l,aJ x=true)(hl:l.length<=5000):aw Tryz.prog 214 [.dv (aR l)] 0 [] 0 [.dv (aR (cW l))] []:=by
 refine cX Tryz.func214 rfl (by kernel_rfl) ?_
 refine .inl (.inr (cl [] (fj l (by omega)) (by kernel_rfl) rfl rfl ?_))
 refine .inr ⟨[0],[.own 0 0 0 [],.dv (.fn 232 [])],_,0,_,FE l (by omega),by kernel_rfl,⟨rfl,rf,tv⟩,⟨⟨rfl,rfl⟩,tv⟩,?_⟩
 rintro rs K2 ⟨rfl,d,⟨yM,Uw⟩,rfl⟩
 refine⟨by kernel_rfl,?_⟩
 have Y0:=yM.length_eq
 have hdp:∀x∈d,aJ x=true:=fun x hx=>hp x (yM.mem_iff.1 hx)
 have jy:=TP (fun x hx=>(ak.1 (hp x hx)).2.2.1) yM Uw
 have ll:(d.map aD).length=d.length:=adi ..
 refine⟨Nat,fun i=>⟨2,[(4,.own 1 0 0 []),(13,.own 0 0 0 []),(14,.dv (I d.length)),(15,.dv (I i))],[(0,.tree 0 0 (.aI 3 (d.map aD))),(1,.tree 0 0 (.aI 3 ((NJ d i).map aD)))]⟩,fun i=>i<=d.length,fun i=>d.length-i,0,fun _=>rfl,⟨⟨⟨rfl,rfl,rfl,rfl,3,rfl⟩,rfl,aM (by rw[ll]),rf,tv⟩,⟨⟨rfl,rfl⟩,⟨rfl,rfl,3,rfl⟩,tv⟩,rfl,rfl⟩,adx _,?_⟩
 rintro i hi
 obtain⟨ji,ct⟩:=P7 hdp i
 refine adh (fun h=>?_) fun h=>?_
 ·have aB:i<d.length:=by have:=adz h;omega
  obtain⟨x,hx⟩:∃x,d[i]?=some x:=⟨_,abK aB⟩
  have ix:(d.map aD)[(i:Int).toNat]?=some (aD x):=by rw[adk];simp[hx]
  have Fh:=ak.1 (hdp x (adl hx))
  have fM:=FG hx
  refine⟨fun _=>by omega,aD x,fun _=>ix,?_⟩
  generalize NJ d i=s at*
  have ls:(s.map aD).length=s.length:=adi ..
  obtain⟨y,hy⟩:∃y,y=s.getLastD ⟨0,0,0⟩:=⟨_,rfl⟩
  have dK:bw (decide (0<(((s.map aD).length:Nat):Int))) true=true->0<s.length:=fun h=>by have:=adz (gL h);omega
  have ia:∀h:bw (decide (0<(((s.map aD).length:Nat):Int))) true=true,-9223372036854775808<=(((s.map aD).length:Nat):Int)-1/\(((s.map aD).length:Nat):Int)-1<=9223372036854775807:=fun h=>by omega
  have ib:∀h:bw (decide (0<(((s.map aD).length:Nat):Int))) true=true,0<=(((s.map aD).length:Nat):Int)-1/\(((s.map aD).length:Nat):Int)-1<(((s.map aD).length:Nat):Int):=fun h=>by have:=dK h;omega
  have ie:∀h:bw (decide (0<(((s.map aD).length:Nat):Int))) true=true,(s.map aD)[((((s.map aD).length:Nat):Int)-1).toNat]?=some (aD y):=fun h=>by
   have:=(oz (dK h)).1
   rw[adk,show((((s.map aD).length:Nat):Int)-1).toNat=s.length-1 by omega,this,hy];rfl
  have NG:∀h:bw (decide (0<(((s.map aD).length:Nat):Int))) true=true,0<=y.f/\0<=y.a/\1<=y.n/\y.a+y.n<=1099511627776:=fun h=>ak.1 (ji y (by rw[hy];exact adl (oz (dK h)).1))
  have D7:bw (bif decide (0<(((s.map aD).length:Nat):Int))then y.f==x.f else false) true=true->bw (decide (0<(((s.map aD).length:Nat):Int))) true=true:=fun h=>nP (bZ (gL h)).1
  repeat refine gG ?_
  refine⟨fun h=>ia h,?_⟩
  repeat refine gG ?_
  refine⟨fun h=>ib h,?_⟩
  repeat refine gG ?_
  refine⟨aD y,fun h=>ie h,?_⟩
  repeat refine gG ?_
  refine⟨fun h=>ia (D7 h),?_⟩
  repeat refine gG ?_
  refine⟨fun h=>ib (D7 h),?_⟩
  repeat refine gG ?_
  refine⟨aD y,fun h=>ie (D7 h),?_⟩
  repeat refine gG ?_
  refine⟨fun h=>ia (D7 h),?_⟩
  repeat refine gG ?_
  refine⟨fun h=>ib (D7 h),?_⟩
  repeat refine gG ?_
  refine⟨aD y,fun h=>ie (D7 h),?_⟩
  repeat refine gG ?_
  refine⟨fun h=>(by have:=NG (D7 h);omega),?_⟩
  repeat refine gG ?_
  refine .inl ⟨by kernel_rfl,adh (fun h=>?_) fun h=>?_⟩
  ·have h1:=bZ h
   have h2:=bZ h1.1
   have hb:=nP h2.1
   have NG:=NG hb
   have hle:=adz h1.2
   have ei:((((s.map aD).length:Nat):Int)-1).toNat=s.length-1:=by omega
   have e:qN s x=s.set (s.length-1) ⟨y.f,y.a,if y.n<x.a+x.n-y.a then x.a+x.n-y.a else y.n⟩:=by
    have w4:=(oz (dK hb)).2
    rw[<-hy]at w4
    have hc:y.f=x.f/\x.a<=y.a+y.n:=⟨beq_iff_eq.1 h2.2,hle⟩
    unfold qN
    rw[w4]
    simp only
    rw[if_pos hc,show max y.n (x.a+x.n-y.a)=if y.n<x.a+x.n-y.a then x.a+x.n-y.a else y.n by split<;>omega]
    conv=>rhs;rw[iu w4]
    have:(s.dropLast++[y]).length-1=s.dropLast.length:=by simp
    simp
   rw[e]at fM
   refine⟨fun _=>ia hb,fun _=>ib hb,aD y,fun _=>ie hb,fun _=>by omega,aD y,fun _=>ie hb,fun _=>by omega,?_⟩
   refine⟨[I (if y.n<x.a+x.n-y.a then x.a+x.n-y.a else y.n)],⟨rf,tv⟩,aD y,ie hb,?_⟩
   refine .inl ⟨by kernel_rfl,?_⟩
   exact⟨fun _=>by omega,i+1,jn rfl (by simp only[fM,List.map_set,<-ei];rfl) rfl rfl,aB,mlt aB⟩
  ·have e:qN s x=s++[x]:=by
    unfold qN
    by_cases hp:0<s.length
    ·have w4:=(oz hp).2
     rw[<-hy]at w4
     rw[w4]
     simp only
     rw[if_neg]
     intro hc
     exact gI h ⟨by rw[adF (by omega),hc.1];simp,adF hc.2⟩
    ·have:s=[]:=List.length_eq_zero_iff.1 (by omega)
     subst this;rfl
   rw[e]at fM
   refine .inl ⟨[aD x],rfl,⟨rf,rf,rf,tv⟩,(by simp;rfl),?_⟩
   refine .inr ⟨[aD x],bW.refl _,bL (by simp;omega),by simp;omega,?_⟩
   exact⟨fun _=>by omega,i+1,jn rfl (by simp only[fM,adB];rfl) rfl rfl,aB,mlt aB⟩
 ·have he:i=d.length:=by have:=adA h;omega
  subst he
  have:NJ d d.length=cW l:=by unfold NJ;rw[ady,jy]
  rw[this]
  exact⟨_,_,⟨rfl,rfl⟩,by kernel_rfl,⟨nS _,tv⟩,tv⟩
theorem mW(l:List Lt)(hp:∀x∈l,aJ x=true)(hl:l.length<=5000):ai Tryz.prog 214 [aR l] [aR (cW l)]:=yN (Mc l hp hl)
end
section
open Go.TM
def dG(m:eS):Bool:=decide (0<=m.it/\m.it<5/\1<=m.n/\m.n<=1099511627776/\m.fr≠m.to/\0<=m.fr/\0<=m.to/\m.fr<=1073741824/\m.to<=1073741824)
variable [aW]
def Bp(m:eS)(p:Bool):Bool:=dG m&&bif p then bE m.ps&&decide (cT m.ps=m.n)&&decide (cT (kF m.ps)=m.n)else decide (m.ps=[])
theorem Ir(R:RL)(m:eS)(p:Bool)(hl:m.ps.length<=4000):aw Tryz.prog 124 [.ptr 0 0,cP (ay m),.dv (B p)] 4 (gn R) 0 [.dv (B (Bp m p))] (gn R):=by
 refine cO Tryz.func124 rfl (by kernel_rfl) ?_
 repeat refine gG ?_
 have lN:(CC (I 2) (I 20)).length=5:=rfl
 refine⟨by kernel_rfl,?_⟩
 refine adh ?_ ?_
 ·intro h
  have hb:dG m=false:=by
   unfold dG
   rw[adU]
   simp at h
   omega
  have:Bp m p=false:=by unfold Bp;rw[hb];rfl
  rw[this]
  exact ext (by kernel_rfl) rfl rfl
 intro h
 have hb:dG m=true:=by
  unfold dG
  rw[adR]
  simp at h
  omega
 have hm:Bp m p=bif p then bE m.ps&&decide (cT m.ps=m.n)&&decide (cT (kF m.ps)=m.n)else decide (m.ps=[]):=by unfold Bp;rw[hb];rfl
 rw[hm]
 cases p with
 |false=>
  refine adh (fun _=>?_) fun h=>by cases h
  rw[show(bif false then bE m.ps&&decide (cT m.ps=m.n)&&decide (cT (kF m.ps)=m.n)else decide (m.ps=[]))=((((m.ps.map aD).length:Nat):Int)==0)from(aaR m.ps).symm]
  exact ext (by kernel_rfl) rfl rfl
 |true=>
  refine adh (fun h=>by cases h) fun _=>?_
  refine .inl ⟨_,fun _=>(gD m.ps (by omega)).ok,?_⟩
  repeat refine gG ?_
  refine .inl ⟨_,fun _=>(qu m.ps (by omega)).ok,?_⟩
  repeat refine gG ?_
  refine .inl ⟨_,fun _=>(Bc m.ps (by omega)).ok,?_⟩
  repeat refine gG ?_
  have gP:=(pN m.ps).1
  refine .inl ⟨_,fun _=>(qu (kF m.ps) (by omega)).ok,?_⟩
  repeat refine gG ?_
  refine⟨by kernel_rfl,?_⟩
  rw[show(bif true then bE m.ps&&decide (cT m.ps=m.n)&&decide (cT (kF m.ps)=m.n)else decide (m.ps=[]))=(bif bif bE m.ps then cT m.ps==m.n else false then cT (kF m.ps)==m.n else false)by
   rw[adO];cases bE m.ps<;>simp]
  exact ext (by kernel_rfl) rfl rfl
end
section
open Go.TM
def m0:eS:=⟨0,0,0,0,[]⟩
def P8(r:Int):Int:=if r<0 then -2-r else r
def X0(r:Int)(x:XU):List Ky:=if r<0 then x.bk else x.gv
def gY(mv:List eS)(tm:Int)(tk gv:List Ky)(k:Nat):Bool:=
 if k<tk.length then decide ((mv.getD k m0).fr=(mv.getD 0 m0).fr/\1<=(mv.getD k m0).fr/\(mv.getD k m0).to=0/\(mv.getD k m0).it=(tk.getD k (0,0)).1/\(mv.getD k m0).n=(tk.getD k (0,0)).2*tm)
 else decide ((mv.getD k m0).fr=0/\1<=(mv.getD k m0).to/\(mv.getD k m0).to=(mv.getD (mv.length-1) m0).to/\(mv.getD k m0).it=(gv.getD (k-tk.length) (0,0)).1/\(mv.getD k m0).n=(gv.getD (k-tk.length) (0,0)).2*tm)
def qQ(s:dI):Bool:=
 if P8 s.aX<0\/5<=P8 s.aX\/s.times<1\/1048576<s.times then false else match gh[(P8 s.aX).toNat]? with
  |some r=>bif r.sp then false else if(s.aX<0/\r.ch=r.of)\/s.mv.length≠r.tk.length+(X0 s.aX r).length then false else(List.range s.mv.length).all (gY s.mv s.times r.tk (X0 s.aX r))
  |none=>false
theorem CU{i:Nat}{r:XU}(h:gh[i]?=some r):(∀p∈r.tk,0<=p.2/\p.2<=100)/\(∀p∈r.gv,0<=p.2/\p.2<=100)/\(∀p∈r.bk,0<=p.2/\p.2<=100):=by
 have:∀r∈gh,(∀p∈r.tk,0<=p.2/\p.2<=100)/\(∀p∈r.gv,0<=p.2/\p.2<=100)/\(∀p∈r.bk,0<=p.2/\p.2<=100):=by
  intro r hr
  simp only[gh,adp,List.mem_nil_iff,or_false]at hr
  rcases hr with rfl|rfl|rfl|rfl|rfl<;>decide
 exact this r (adl h)
theorem CV{i:Nat}{r:XU}(h:gh[i]?=some r):r.tk.length<=10/\r.gv.length<=10/\r.bk.length<=10:=by
 have:∀r∈gh,r.tk.length<=10/\r.gv.length<=10/\r.bk.length<=10:=by
  intro r hr
  simp only[gh,adp,List.mem_nil_iff,or_false]at hr
  rcases hr with rfl|rfl|rfl|rfl|rfl<;>decide
 exact this r (adl h)
theorem vK{a t:Int}(ha:0<=a/\a<=100)(ht:1<=t/\t<=1048576):0<=a*t/\a*t<=104857600:=
 ⟨Int.mul_nonneg ha.1 (by omega),Int.le_trans (Int.mul_le_mul ha.2 ht.2 (by omega) (by omega)) (by omega)⟩
variable [aW]
theorem FH(R:RL)(s:dI)(hr:LM s.aX)(hl:s.mv.length<=1000)(h1:1<=s.mv.length):aw Tryz.prog 125 [.ptr 0 0,cP (aZ s)] 4 (gn R) 0 [.dv (B (qQ s))] (gn R):=by
 refine cO Tryz.func125 rfl (by kernel_rfl) ?_
 have SN:-9223372036854775808<=s.aX/\s.aX<=9223372036854775807:=hr
 have Ux:(gh.map kl).length=5:=rfl
 have acg:gh.length=5:=rfl
 refine adh ?_ ?_
 ·intro lA
  have lA:=adz lA
  refine⟨fun _=>by omega,?_⟩
  repeat refine gG ?_
  have hI:P8 s.aX=(-2-s.aX):=if_pos lA
  have hG:∀r,X0 s.aX r=r.bk:=fun r=>if_pos lA
  obtain⟨r,vl⟩:∃r,0<=(-2-s.aX)/\(-2-s.aX)<5->gh[(-2-s.aX).toNat]?=some r:=⟨(gh[(-2-s.aX).toNat]?).getD ⟨⟨#[]⟩,false,0,0,0,0,[],[],[]⟩,fun h=>by rw[abK (show(-2-s.aX).toNat<gh.length from(show(-2-s.aX).toNat<5 by omega))];rfl⟩
  have P9:0<=(-2-s.aX)/\(-2-s.aX)<5->(gh.map kl)[(-2-s.aX).toNat]?=some (kl r):=fun h=>by rw[adk,vl h];rfl
  refine⟨kl r,fun h=>?_,?_⟩
  ·simp[bw]at h
   exact⟨by omega,P9 (by omega)⟩
  repeat refine gG ?_
  refine adh ?_ ?_
  ·intro h
   have hc:qQ s=false:=by
    unfold qQ
    rw[hI]
    split
    ·rfl
    ·rename_i hn
     rw[vl (by omega)]
     have:r.sp=true:=by
      have h:=h
      rw[adG (show¬(-2-s.aX)<0 by omega),adG (show¬((gh.map kl).length:Int)<=(-2-s.aX)by omega),adG (show¬s.times<1 by omega),adG (show¬1048576<s.times by omega)]at h
      exact h
     simp only[this,cond_true]
   rw[hc]
   exact ext (by kernel_rfl) rfl rfl
  intro h
  have dz:(0<=(-2-s.aX)/\(-2-s.aX)<5)/\1<=s.times/\s.times<=1048576/\r.sp=false:=by
   simp at h
   exact⟨by omega,by omega,by omega,h.2⟩
  obtain⟨tl1,tl2,tl3⟩:=CV (vl dz.1)
  have jV:qQ s=if(s.aX<0/\r.ch=r.of)\/s.mv.length≠r.tk.length+(r.bk).length then false else(List.range s.mv.length).all (gY s.mv s.times r.tk (r.bk)):=by
   unfold qQ
   rw[hI,if_neg (by omega),vl dz.1]
   simp only[dz.2.2.2,cond_false,hG]
  repeat first|refine gG ?_|refine⟨kl r,fun _=>⟨by omega,P9 dz.1⟩,?_⟩|refine⟨fun _=>⟨by rw[adi,adi];omega,by rw[adi,adi];omega⟩,?_⟩
  refine adh (fun _=>?_) fun h=>absurd lA (adA h)
  repeat first|refine gG ?_|refine⟨kl r,fun _=>⟨by omega,P9 dz.1⟩,?_⟩|refine⟨fun _=>⟨by rw[adi,adi];omega,by rw[adi,adi];omega⟩,?_⟩
  refine⟨by kernel_rfl,?_⟩
  refine adh ?_ ?_
  ·intro h
   have hc:qQ s=false:=by
    rw[jV,if_pos]
    rw[adi,adi,adi]at h
    simp at h
    rcases h with h|h
    ·exact .inl h
    ·exact .inr (by omega)
   rw[hc]
   exact ext (by kernel_rfl) rfl rfl
  intro h
  have Is:¬((s.aX<0/\r.ch=r.of)\/s.mv.length≠r.tk.length+(r.bk).length):=by
   rw[adi,adi,adi]at h
   simp at h
   rintro(hh|hh)
   ·exact h.1 hh.1 hh.2
   ·omega
  rw[if_neg Is]at jV
  have Uo:s.mv.length=r.tk.length+(r.bk).length:=by omega
  rw[jV]
  generalize oo:r.bk=gv at*
  refine⟨Nat,fun k=>⟨5,[(3,.ptr 4 0),(6,.dv (.sl 2 (r.tk.map ja))),(7,.dv (.sl 2 (gv.map ja))),(8,.dv (I k))],gn R++[(4,.cells (fp (aZ s).cells))]⟩,fun k=>k<=s.mv.length/\∀j,j<k->gY s.mv s.times r.tk gv j=true,fun k=>s.mv.length-k,0,fun _=>rfl,jn rfl rfl rfl rfl,⟨adx _,fun j hj=>absurd hj (by omega)⟩,?_⟩
  rintro k ⟨hk,bO⟩
  refine adh ?_ ?_
  ·intro h
   have aB:k<s.mv.length:=by have:=adz h;rw[adi]at this;omega
   obtain⟨m,hm⟩:∃m,s.mv[k]?=some m:=⟨_,abK aB⟩
   obtain⟨f,hf⟩:∃f,s.mv[0]?=some f:=⟨_,abK (show 0<s.mv.length by omega)⟩
   obtain⟨g,hg⟩:∃g,s.mv[s.mv.length-1]?=some g:=⟨_,abK (show s.mv.length-1<s.mv.length by omega)⟩
   have dm:s.mv.getD k m0=m:=by rw[adn,hm];rfl
   have df:s.mv.getD 0 m0=f:=by rw[adn,hf];rfl
   have dg:s.mv.getD (s.mv.length-1) m0=g:=by rw[adn,hg];rfl
   have im:(s.mv.map ay)[(k:Int).toNat]?=some (ay m):=by rw[adk];simp[hm]
   have i0:(s.mv.map ay)[(0:Int).toNat]?=some (ay f):=by rw[adk];exact congrArg (Option.map ay) hf
   have ig:(s.mv.map ay)[(((s.mv.map ay).length:Int)-1).toNat]?=some (ay g):=by rw[adi,show((s.mv.length:Int)-1).toNat=s.mv.length-1 by omega,adk,hg];rfl
   have lm:(s.mv.map ay).length=s.mv.length:=adi ..
   have lt:(r.tk.map ja).length=r.tk.length:=adi ..
   have lg:(gv.map ja).length=gv.length:=adi ..
   obtain⟨X1,bt2,bt3⟩:=CU (vl dz.1)
   have bgv:∀p∈gv,0<=p.2/\p.2<=100:=by rw[<-oo];exact bt3
   refine⟨ay m,fun _=>⟨by omega,im⟩,?_⟩
   refine adh ?_ ?_
   ·intro ql
    have NI:k<r.tk.length:=by have:=adz ql;omega
    obtain⟨a,ha⟩:∃a,r.tk[k]?=some a:=⟨_,abK NI⟩
    have da:r.tk.getD k (0,0)=a:=by rw[adn,ha];rfl
    have ia:(r.tk.map ja)[(k:Int).toNat]?=some (ja a):=by rw[adk];simp[ha]
    have X2:=vK (X1 a (adl ha)) ⟨dz.2.1,dz.2.2.1⟩
    have qZ:gY s.mv s.times r.tk gv k=decide (m.fr=f.fr/\1<=m.fr/\m.to=0/\m.it=a.1/\m.n=a.2*s.times):=by unfold gY;rw[if_pos NI,dm,df,da]
    repeat first|refine gG ?_|refine⟨fun _=>by omega,?_⟩|refine⟨ja a,fun _=>⟨by omega,ia⟩,?_⟩|refine⟨ay f,fun _=>⟨by omega,i0⟩,?_⟩|refine⟨ay g,fun _=>⟨by omega,ig⟩,?_⟩
    refine⟨by kernel_rfl,?_⟩
    refine adh ?_ ?_
    ·intro h
     have oH:gY s.mv s.times r.tk gv k=false:=by
      rw[qZ,adU]
      rintro⟨q1,q2,q3,q4,q5⟩
      simp at h
      omega
     rw[show(List.range s.mv.length).all (gY s.mv s.times r.tk gv)=false from List.all_eq_false.2 ⟨k,adL.2 aB,by rw[oH];simp⟩]
     exact ext (by kernel_rfl) rfl rfl
    ·intro h
     have Iu:gY s.mv s.times r.tk gv k=true:=by
      rw[qZ,adR]
      simp at h
      omega
     refine⟨fun _=>by omega,k+1,jn rfl rfl rfl rfl,⟨by omega,fun j hj=>?_⟩,mlt aB⟩
     rcases adC j k with uR|uR
     ·exact bO j uR
     ·rw[show j=k by omega];exact Iu
   ·intro ql
    have NI:¬k<r.tk.length:=by have:=adA ql;omega
    obtain⟨a,ha⟩:∃a,gv[k-r.tk.length]?=some a:=⟨_,abK (show k-r.tk.length<gv.length by omega)⟩
    have da:gv.getD (k-r.tk.length) (0,0)=a:=by rw[adn,ha];rfl
    have ia:(gv.map ja)[((k:Int)-(r.tk.map ja).length).toNat]?=some (ja a):=by rw[lt,show((k:Int)-r.tk.length).toNat=k-r.tk.length by omega,adk,ha];rfl
    have X2:=vK (bgv a (adl ha)) ⟨dz.2.1,dz.2.2.1⟩
    have qZ:gY s.mv s.times r.tk gv k=decide (m.fr=0/\1<=m.to/\m.to=g.to/\m.it=a.1/\m.n=a.2*s.times):=by unfold gY;rw[if_neg NI,dm,dg,da]
    repeat first|refine gG ?_|refine⟨fun _=>by omega,?_⟩|refine⟨ja a,fun _=>⟨by omega,ia⟩,?_⟩|refine⟨ay f,fun _=>⟨by omega,i0⟩,?_⟩|refine⟨ay g,fun _=>⟨by omega,ig⟩,?_⟩
    refine⟨by kernel_rfl,?_⟩
    refine adh ?_ ?_
    ·intro h
     have oH:gY s.mv s.times r.tk gv k=false:=by
      rw[qZ,adU]
      rintro⟨q1,q2,q3,q4,q5⟩
      simp at h
      omega
     rw[show(List.range s.mv.length).all (gY s.mv s.times r.tk gv)=false from List.all_eq_false.2 ⟨k,adL.2 aB,by rw[oH];simp⟩]
     exact ext (by kernel_rfl) rfl rfl
    ·intro h
     have Iu:gY s.mv s.times r.tk gv k=true:=by
      rw[qZ,adR]
      simp at h
      omega
     refine⟨fun _=>by omega,k+1,jn rfl rfl rfl rfl,⟨by omega,fun j hj=>?_⟩,mlt aB⟩
     rcases adC j k with uR|uR
     ·exact bO j uR
     ·rw[show j=k by omega];exact Iu
  ·intro h
   have he:k=s.mv.length:=by have:=adA h;rw[adi]at this;omega
   subst he
   rw[show(List.range s.mv.length).all (gY s.mv s.times r.tk gv)=true from adH.2 fun j hj=>bO j (adL.1 hj)]
   exact ext (by kernel_rfl) rfl rfl
 ·intro lA
  have lA:=adA lA
  repeat refine gG ?_
  have hI:P8 s.aX=s.aX:=if_neg lA
  have hG:∀r,X0 s.aX r=r.gv:=fun r=>if_neg lA
  obtain⟨r,vl⟩:∃r,0<=s.aX/\s.aX<5->gh[s.aX.toNat]?=some r:=⟨(gh[s.aX.toNat]?).getD ⟨⟨#[]⟩,false,0,0,0,0,[],[],[]⟩,fun h=>by rw[abK (show s.aX.toNat<gh.length from(show s.aX.toNat<5 by omega))];rfl⟩
  have P9:0<=s.aX/\s.aX<5->(gh.map kl)[s.aX.toNat]?=some (kl r):=fun h=>by rw[adk,vl h];rfl
  refine⟨kl r,fun h=>?_,?_⟩
  ·simp[bw]at h
   exact⟨by omega,P9 (by omega)⟩
  repeat refine gG ?_
  refine adh ?_ ?_
  ·intro h
   have hc:qQ s=false:=by
    unfold qQ
    rw[hI]
    split
    ·rfl
    ·rename_i hn
     rw[vl (by omega)]
     have:r.sp=true:=by
      have h:=h
      rw[adG (show¬s.aX<0 by omega),adG (show¬((gh.map kl).length:Int)<=s.aX by omega),adG (show¬s.times<1 by omega),adG (show¬1048576<s.times by omega)]at h
      exact h
     simp only[this,cond_true]
   rw[hc]
   exact ext (by kernel_rfl) rfl rfl
  intro h
  have dz:(0<=s.aX/\s.aX<5)/\1<=s.times/\s.times<=1048576/\r.sp=false:=by
   simp at h
   exact⟨by omega,by omega,by omega,h.2⟩
  obtain⟨tl1,tl2,tl3⟩:=CV (vl dz.1)
  have jV:qQ s=if(s.aX<0/\r.ch=r.of)\/s.mv.length≠r.tk.length+(r.gv).length then false else(List.range s.mv.length).all (gY s.mv s.times r.tk (r.gv)):=by
   unfold qQ
   rw[hI,if_neg (by omega),vl dz.1]
   simp only[dz.2.2.2,cond_false,hG]
  repeat first|refine gG ?_|refine⟨kl r,fun _=>⟨by omega,P9 dz.1⟩,?_⟩|refine⟨fun _=>⟨by rw[adi,adi];omega,by rw[adi,adi];omega⟩,?_⟩
  refine adh (fun h=>absurd (adz h) lA) fun _=>?_
  repeat first|refine gG ?_|refine⟨kl r,fun _=>⟨by omega,P9 dz.1⟩,?_⟩|refine⟨fun _=>⟨by rw[adi,adi];omega,by rw[adi,adi];omega⟩,?_⟩
  refine⟨by kernel_rfl,?_⟩
  refine adh ?_ ?_
  ·intro h
   have hc:qQ s=false:=by
    rw[jV,if_pos]
    rw[adi,adi,adi]at h
    simp at h
    rcases h with h|h
    ·exact .inl h
    ·exact .inr (by omega)
   rw[hc]
   exact ext (by kernel_rfl) rfl rfl
  intro h
  have Is:¬((s.aX<0/\r.ch=r.of)\/s.mv.length≠r.tk.length+(r.gv).length):=by
   rw[adi,adi,adi]at h
   simp at h
   rintro(hh|hh)
   ·exact h.1 hh.1 hh.2
   ·omega
  rw[if_neg Is]at jV
  have Uo:s.mv.length=r.tk.length+(r.gv).length:=by omega
  rw[jV]
  generalize oo:r.gv=gv at*
  refine⟨Nat,fun k=>⟨5,[(3,.ptr 4 0),(6,.dv (.sl 2 (r.tk.map ja))),(7,.dv (.sl 2 (gv.map ja))),(8,.dv (I k))],gn R++[(4,.cells (fp (aZ s).cells))]⟩,fun k=>k<=s.mv.length/\∀j,j<k->gY s.mv s.times r.tk gv j=true,fun k=>s.mv.length-k,0,fun _=>rfl,jn rfl rfl rfl rfl,⟨adx _,fun j hj=>absurd hj (by omega)⟩,?_⟩
  rintro k ⟨hk,bO⟩
  refine adh ?_ ?_
  ·intro h
   have aB:k<s.mv.length:=by have:=adz h;rw[adi]at this;omega
   obtain⟨m,hm⟩:∃m,s.mv[k]?=some m:=⟨_,abK aB⟩
   obtain⟨f,hf⟩:∃f,s.mv[0]?=some f:=⟨_,abK (show 0<s.mv.length by omega)⟩
   obtain⟨g,hg⟩:∃g,s.mv[s.mv.length-1]?=some g:=⟨_,abK (show s.mv.length-1<s.mv.length by omega)⟩
   have dm:s.mv.getD k m0=m:=by rw[adn,hm];rfl
   have df:s.mv.getD 0 m0=f:=by rw[adn,hf];rfl
   have dg:s.mv.getD (s.mv.length-1) m0=g:=by rw[adn,hg];rfl
   have im:(s.mv.map ay)[(k:Int).toNat]?=some (ay m):=by rw[adk];simp[hm]
   have i0:(s.mv.map ay)[(0:Int).toNat]?=some (ay f):=by rw[adk];exact congrArg (Option.map ay) hf
   have ig:(s.mv.map ay)[(((s.mv.map ay).length:Int)-1).toNat]?=some (ay g):=by rw[adi,show((s.mv.length:Int)-1).toNat=s.mv.length-1 by omega,adk,hg];rfl
   have lm:(s.mv.map ay).length=s.mv.length:=adi ..
   have lt:(r.tk.map ja).length=r.tk.length:=adi ..
   have lg:(gv.map ja).length=gv.length:=adi ..
   obtain⟨X1,bt2,bt3⟩:=CU (vl dz.1)
   have bgv:∀p∈gv,0<=p.2/\p.2<=100:=by rw[<-oo];exact bt2
   refine⟨ay m,fun _=>⟨by omega,im⟩,?_⟩
   refine adh ?_ ?_
   ·intro ql
    have NI:k<r.tk.length:=by have:=adz ql;omega
    obtain⟨a,ha⟩:∃a,r.tk[k]?=some a:=⟨_,abK NI⟩
    have da:r.tk.getD k (0,0)=a:=by rw[adn,ha];rfl
    have ia:(r.tk.map ja)[(k:Int).toNat]?=some (ja a):=by rw[adk];simp[ha]
    have X2:=vK (X1 a (adl ha)) ⟨dz.2.1,dz.2.2.1⟩
    have qZ:gY s.mv s.times r.tk gv k=decide (m.fr=f.fr/\1<=m.fr/\m.to=0/\m.it=a.1/\m.n=a.2*s.times):=by unfold gY;rw[if_pos NI,dm,df,da]
    repeat first|refine gG ?_|refine⟨fun _=>by omega,?_⟩|refine⟨ja a,fun _=>⟨by omega,ia⟩,?_⟩|refine⟨ay f,fun _=>⟨by omega,i0⟩,?_⟩|refine⟨ay g,fun _=>⟨by omega,ig⟩,?_⟩
    refine⟨by kernel_rfl,?_⟩
    refine adh ?_ ?_
    ·intro h
     have oH:gY s.mv s.times r.tk gv k=false:=by
      rw[qZ,adU]
      rintro⟨q1,q2,q3,q4,q5⟩
      simp at h
      omega
     rw[show(List.range s.mv.length).all (gY s.mv s.times r.tk gv)=false from List.all_eq_false.2 ⟨k,adL.2 aB,by rw[oH];simp⟩]
     exact ext (by kernel_rfl) rfl rfl
    ·intro h
     have Iu:gY s.mv s.times r.tk gv k=true:=by
      rw[qZ,adR]
      simp at h
      omega
     refine⟨fun _=>by omega,k+1,jn rfl rfl rfl rfl,⟨by omega,fun j hj=>?_⟩,mlt aB⟩
     rcases adC j k with uR|uR
     ·exact bO j uR
     ·rw[show j=k by omega];exact Iu
   ·intro ql
    have NI:¬k<r.tk.length:=by have:=adA ql;omega
    obtain⟨a,ha⟩:∃a,gv[k-r.tk.length]?=some a:=⟨_,abK (show k-r.tk.length<gv.length by omega)⟩
    have da:gv.getD (k-r.tk.length) (0,0)=a:=by rw[adn,ha];rfl
    have ia:(gv.map ja)[((k:Int)-(r.tk.map ja).length).toNat]?=some (ja a):=by rw[lt,show((k:Int)-r.tk.length).toNat=k-r.tk.length by omega,adk,ha];rfl
    have X2:=vK (bgv a (adl ha)) ⟨dz.2.1,dz.2.2.1⟩
    have qZ:gY s.mv s.times r.tk gv k=decide (m.fr=0/\1<=m.to/\m.to=g.to/\m.it=a.1/\m.n=a.2*s.times):=by unfold gY;rw[if_neg NI,dm,dg,da]
    repeat first|refine gG ?_|refine⟨fun _=>by omega,?_⟩|refine⟨ja a,fun _=>⟨by omega,ia⟩,?_⟩|refine⟨ay f,fun _=>⟨by omega,i0⟩,?_⟩|refine⟨ay g,fun _=>⟨by omega,ig⟩,?_⟩
    refine⟨by kernel_rfl,?_⟩
    refine adh ?_ ?_
    ·intro h
     have oH:gY s.mv s.times r.tk gv k=false:=by
      rw[qZ,adU]
      rintro⟨q1,q2,q3,q4,q5⟩
      simp at h
      omega
     rw[show(List.range s.mv.length).all (gY s.mv s.times r.tk gv)=false from List.all_eq_false.2 ⟨k,adL.2 aB,by rw[oH];simp⟩]
     exact ext (by kernel_rfl) rfl rfl
    ·intro h
     have Iu:gY s.mv s.times r.tk gv k=true:=by
      rw[qZ,adR]
      simp at h
      omega
     refine⟨fun _=>by omega,k+1,jn rfl rfl rfl rfl,⟨by omega,fun j hj=>?_⟩,mlt aB⟩
     rcases adC j k with uR|uR
     ·exact bO j uR
     ·rw[show j=k by omega];exact Iu
  ·intro h
   have he:k=s.mv.length:=by have:=adA h;rw[adi]at this;omega
   subst he
   rw[show(List.range s.mv.length).all (gY s.mv s.times r.tk gv)=true from adH.2 fun j hj=>bO j (adL.1 hj)]
   exact ext (by kernel_rfl) rfl rfl
end
section
open Go.TM
def CW(s:dI):Bool:=decide (0<=s.kind/\s.kind<=10/\0<=s.ko/\s.ko<=1073741824)
def tu(s:dI):Bool:=decide (s.aX=-1/\1<=s.times/\s.times<=1048576/\s.mv.length=2/\(s.mv.getD 0 m0).to=0/\(s.mv.getD 1 m0).fr=0/\(s.mv.getD 1 m0).to=(s.mv.getD 0 m0).fr/\(s.mv.getD 0 m0).n.tmod s.times=0/\(s.mv.getD 1 m0).n.tmod s.times=0)
def pP(k:Int):Bool:=decide (k=5\/k=7\/k=9)
variable [aW]
def lO(now:Int)(s:dI):Bool:=
 CW s&&decide (now<=s.tick/\s.tick<=1099511627776/\1<=s.mv.length/\s.mv.length<=64)&&s.mv.all (fun m=>Bp m (pP s.kind))&&
  bif decide (s.kind=4)then qQ s else bif decide (s.kind=10)then tu s else s.mv.all (oG s.kind)&&decide (s.aX=-1/\s.times=0)
theorem yO(R:RL)(s:dI)(hr:LM s.aX)(hn:R.sp.length<=1000000)(hl:s.mv.length<=1000)(mM:∀m∈s.mv,m.ps.length<=4000):aw Tryz.prog 88 [.ptr 0 0,cP (aZ s)] 4 (gn R) 0 [.dv (B (lO (fw R.sp) s))] (gn R):=by
 refine cO Tryz.func88 rfl (by kernel_rfl) ?_
 repeat refine gG ?_
 by_cases hA:CW s=true
 ·have hA2:=adz hA
  refine .inr (cl [0,1,2,3] (Ma R hn) (by kernel_rfl) rfl rfl ?_)
  refine⟨by simp[bw];omega,?_⟩
  repeat first|refine gG ?_|refine⟨fun _=>rfl,?_⟩
  refine⟨by kernel_rfl,?_⟩
  refine adh ?_ ?_
  ·intro h
   have hc:lO (fw R.sp) s=false:=by
    have:decide (fw R.sp<=s.tick/\s.tick<=1099511627776/\1<=s.mv.length/\s.mv.length<=64)=false:=by
     rw[adU]
     rw[adi]at h
     simp at h
     omega
    unfold lO
    rw[this,Bool.and_false];rfl
   rw[hc]
   exact ext (by kernel_rfl) rfl rfl
  intro h
  have hB:fw R.sp<=s.tick/\s.tick<=1099511627776/\1<=s.mv.length/\s.mv.length<=64:=by
   rw[adi]at h
   simp at h
   omega
  have hp:lO (fw R.sp) s=(s.mv.all (fun m=>Bp m (pP s.kind))&&bif decide (s.kind=4)then qQ s else bif decide (s.kind=10)then tu s else s.mv.all (oG s.kind)&&decide (s.aX=-1/\s.times=0)):=by
   unfold lO
   rw[hA,adF hB];rfl
  rw[hp]
  refine .inl ⟨_,fun _=>(FD s.kind).ok,?_⟩
  have aq:pP s.kind=decide (s.kind=5\/s.kind=7\/s.kind=9):=rfl
  rw[<-aq]
  have lm:(s.mv.map ay).length=s.mv.length:=adi ..
  refine⟨Nat,fun i=>⟨5,[(0,.ptr 0 0),(3,.ptr 4 0),(5,.dv (B (pP s.kind))),(6,.dv (I i))],gn R++[(4,.cells (fp (aZ s).cells))]⟩,fun i=>i<=s.mv.length/\∀m∈s.mv.take i,Bp m (pP s.kind)=true,fun i=>s.mv.length-i,0,fun _=>rfl,jn rfl rfl rfl rfl,⟨adx _,fun _ h=>by simp at h⟩,?_⟩
  rintro i ⟨hi,bO⟩
  refine adh ?_ ?_
  ·intro h
   have aB:i<s.mv.length:=by have:=adz h;omega
   obtain⟨m,hm⟩:∃m,s.mv[i]?=some m:=⟨_,abK aB⟩
   have nT:=adl hm
   have im:(s.mv.map ay)[(i:Int).toNat]?=some (ay m):=by rw[adk];simp[hm]
   refine⟨ay m,fun _=>⟨by omega,im⟩,?_⟩
   refine .inr (cl [0,1,2,3] (Ir R m (pP s.kind) (mM m nT)) (by kernel_rfl) rfl rfl ?_)
   refine adh ?_ ?_
   ·intro h
    have h:Bp m (pP s.kind)=false:=by simpa using h
    rw[show s.mv.all (fun m=>Bp m (pP s.kind))=false from List.all_eq_false.2 ⟨m,nT,by rw[h];simp⟩]
    exact ext (by kernel_rfl) rfl rfl
   ·intro h
    have h:Bp m (pP s.kind)=true:=by simpa using h
    exact⟨fun _=>by omega,i+1,jn rfl rfl rfl rfl,⟨by omega,fun q hq=>by
     rw[ads,hm]at hq
     rcases adr.1 hq with hq|hq
     ·exact bO q hq
     ·simp at hq;subst hq;exact h⟩,mlt aB⟩
  intro h
  have he:i=s.mv.length:=by have:=adA h;omega
  subst he
  rw[ady]at bO
  rw[show s.mv.all (fun m=>Bp m (pP s.kind))=true from adH.2 bO,Bool.true_and]
  refine adh ?_ ?_
  ·intro h
   have h4:s.kind=4:=beq_iff_eq.1 h
   rw[adF h4]
   refine .inr (cl [0,1,2,3] (FH R s hr hl (by omega)) (by kernel_rfl) rfl rfl ?_)
   exact ext (by kernel_rfl) rfl rfl
  intro h
  have h4:¬s.kind=4:=beq_eq_false_iff_ne.1 h
  rw[adG h4]
  refine adh ?_ ?_
  ·intro h
   have NK:s.kind=10:=beq_iff_eq.1 h
   rw[adF NK]
   repeat first|refine gG ?_|refine⟨fun _=>rfl,?_⟩
   refine adh ?_ ?_
   ·intro h
    have hc:tu s=false:=by
     unfold tu
     rw[adU]
     rintro⟨q1,q2,q3,q4,-⟩
     rw[lm]at h
     simp at h
     omega
    rw[hc]
    exact ext (by kernel_rfl) rfl rfl
   intro h
   have hc:s.aX=-1/\1<=s.times/\s.times<=1048576/\s.mv.length=2:=by
    rw[lm]at h
    simp at h
    omega
   obtain⟨c1,c2,c3,c4⟩:=hc
   obtain⟨a,ha⟩:∃a,s.mv[0]?=some a:=⟨_,abK (show 0<s.mv.length by omega)⟩
   obtain⟨b,hb⟩:∃b,s.mv[1]?=some b:=⟨_,abK (show 1<s.mv.length by omega)⟩
   have ia:(s.mv.map ay)[(0:Int).toNat]?=some (ay a):=by rw[adk];exact congrArg (Option.map ay) ha
   have ib:(s.mv.map ay)[(1:Int).toNat]?=some (ay b):=by rw[adk];exact congrArg (Option.map ay) hb
   have da:s.mv.getD 0 m0=a:=by rw[adn,ha];rfl
   have db:s.mv.getD 1 m0=b:=by rw[adn,hb];rfl
   refine⟨ay a,fun _=>⟨by omega,ia⟩,ay b,fun _=>⟨by omega,ib⟩,?_⟩
   repeat first|refine gG ?_|refine⟨fun _ h=>by omega,?_⟩
   have hcv:tu s=(bif bif bif bif a.to==0 then b.fr==0 else false then b.to==a.fr else false then a.n.tmod s.times==0 else false then b.n.tmod s.times==0 else false):=by
    unfold tu
    rw[da,db,adO]
    simp[c1,c2,c3,c4,and_assoc]
   rw[hcv]
   exact ext (by kernel_rfl) rfl rfl
  ·intro h
   have NK:¬s.kind=10:=beq_eq_false_iff_ne.1 h
   rw[adG NK]
   refine⟨Nat,fun i=>⟨5,[(3,.ptr 4 0),(10,.dv (I i))],gn R++[(4,.cells (fp (aZ s).cells))]⟩,fun i=>i<=s.mv.length/\∀m∈s.mv.take i,oG s.kind m=true,fun i=>s.mv.length-i,0,fun _=>rfl,jn rfl rfl rfl rfl,⟨adx _,fun _ h=>by simp at h⟩,?_⟩
   rintro i ⟨hi,bO⟩
   refine adh ?_ ?_
   ·intro h
    have aB:i<s.mv.length:=by have:=adz h;omega
    obtain⟨m,hm⟩:∃m,s.mv[i]?=some m:=⟨_,abK aB⟩
    have nT:=adl hm
    have im:(s.mv.map ay)[(i:Int).toNat]?=some (ay m):=by rw[adk];simp[hm]
    refine⟨ay m,fun _=>⟨by omega,im⟩,?_⟩
    refine .inl ⟨_,fun _=>(Mb s.kind m).ok,?_⟩
    refine⟨by kernel_rfl,?_⟩
    refine adh ?_ ?_
    ·intro h
     have h:oG s.kind m=false:=by simpa using h
     rw[show s.mv.all (oG s.kind)=false from List.all_eq_false.2 ⟨m,nT,by rw[h];simp⟩]
     exact ext (by kernel_rfl) rfl rfl
    ·intro h
     have h:oG s.kind m=true:=by simpa using h
     exact⟨fun _=>by omega,i+1,jn rfl rfl rfl rfl,⟨by omega,fun q hq=>by
      rw[ads,hm]at hq
      rcases adr.1 hq with hq|hq
      ·exact bO q hq
      ·simp at hq;subst hq;exact h⟩,mlt aB⟩
   intro h
   have he:i=s.mv.length:=by have:=adA h;omega
   subst he
   rw[ady]at bO
   rw[show s.mv.all (oG s.kind)=true from adH.2 bO,Bool.true_and]
   repeat refine gG ?_
   rw[show(bif false then tu s else decide (s.aX=-1/\s.times=0))=(bif s.aX== -1 then s.times==0 else false)by rw[adO];simp]
   exact ext (by kernel_rfl) rfl rfl
 ·have hA2:¬(0<=s.kind/\s.kind<=10/\0<=s.ko/\s.ko<=1073741824):=fun h=>hA (adF h)
  refine .inl ⟨by simp[bw];omega,[I 0],fun h=>absurd h (by simp[bw];omega),rfl,?_⟩
  repeat first|refine gG ?_|refine⟨fun _=>rfl,?_⟩
  refine⟨by kernel_rfl,?_⟩
  refine adh ?_ ?_
  ·intro h
   have hc:lO (fw R.sp) s=false:=by unfold lO;rw[Bool.not_eq_true]at hA;rw[hA];rfl
   rw[hc]
   exact ext (by kernel_rfl) rfl rfl
  ·intro h
   simp at h
   omega
end
section
open Go.TM
variable [aW]
def Qa(x:Lt)(f:j4):Bool:=decide (f.kind=5)&& !decide (CO f.ps [x]=[])
def uS(sh:Int)(fl:List j4):List Lt->Int
 |[]=>0
 |x::r=>if x.f.tdiv 4294967296=sh\/11<x.f.tdiv 4294967296 then 1 else bif fl.any (Qa x)then 8 else uS sh fl r
theorem Md(R:RL)(ps:List Lt)(hl:ps.length<=5000)(hf:R.fl.length<=1000000)(mM:∀f∈R.fl,f.ps.length<=200)(hb:∀x∈ps,0<=x.f/\x.f<=9223372036854775807):aw Tryz.prog 201 [.ptr 0 0,.dv (aR ps)] 4 (gn R) 0 [.dv (I (uS R.sh R.fl ps))] (gn R):=by
 refine cO Tryz.func201 rfl (by kernel_rfl) ?_
 refine⟨Nat,fun i=>⟨4,[(0,.ptr 0 0),(1,.dv (aR ps)),(5,.dv (I i))],gn R⟩,fun i=>i<=ps.length/\uS R.sh R.fl ps=uS R.sh R.fl (ps.drop i),fun i=>ps.length-i,0,fun _=>rfl,jn rfl rfl rfl rfl,⟨adx _,rfl⟩,?_⟩
 rintro i ⟨hi,hd⟩
 have lp:(ps.map aD).length=ps.length:=adi ..
 have lf:(R.fl.map bB).length=R.fl.length:=adi ..
 refine adh ?_ ?_
 ·intro h
  have aB:i<ps.length:=by have:=adz h;omega
  obtain⟨x,hx⟩:∃x,ps[i]?=some x:=⟨_,abK aB⟩
  have Fh:=hb x (adl hx)
  have ix:(ps.map aD)[(i:Int).toNat]?=some (aD x):=by rw[adk];simp[hx]
  have aS:ps.drop i=x::ps.drop (i+1):=by
   rw[List.drop_eq_getElem_cons aB,(adj.1 hx).2]
  rw[aS]at hd
  have q0:=Int.tdiv_nonneg Fh.1 (show(0:Int)<=4294967296 by omega)
  have q1:x.f.tdiv 4294967296<=x.f:=Int.tdiv_le_self _ Fh.1
  refine⟨aD x,fun _=>⟨by omega,ix⟩,fun _ h=>by omega,fun _=>by omega,?_⟩
  repeat refine gG ?_
  refine adh ?_ ?_
  ·intro h
   have hc:x.f.tdiv 4294967296=R.sh\/11<x.f.tdiv 4294967296:=by simpa using h
   rw[hd]
   unfold uS
   rw[if_pos hc]
   exact ext (by kernel_rfl) rfl rfl
  intro h
  have hc:¬(x.f.tdiv 4294967296=R.sh\/11<x.f.tdiv 4294967296):=by simpa using h
  have Qb:uS R.sh R.fl ps=bif R.fl.any (Qa x)then 8 else uS R.sh R.fl (ps.drop (i+1)):=by rw[hd];exact if_neg hc
  refine⟨Nat,fun j=>⟨4,[(0,.ptr 0 0),(1,.dv (aR ps)),(5,.dv (I i)),(7,.dv (I j))],gn R⟩,fun j=>j<=R.fl.length/\∀f∈R.fl.take j,Qa x f=false,fun j=>R.fl.length-j,0,fun _=>rfl,jn rfl rfl rfl rfl,⟨adx _,fun _ h=>by simp at h⟩,?_⟩
  rintro j ⟨hj,bO⟩
  refine adh ?_ ?_
  ·intro h
   have Zi:j<R.fl.length:=by have:=adz h;omega
   obtain⟨f,ou⟩:∃f,R.fl[j]?=some f:=⟨_,abK Zi⟩
   have Zj:=adl ou
   have jf:(R.fl.map bB)[(j:Int).toNat]?=some (bB f):=by rw[adk];simp[ou]
   have hfp:=mM f Zj
   repeat first|refine g1 ?_|refine g2 ?_|refine g3 ?_|refine⟨fun _=>by omega,?_⟩|refine⟨bB f,fun _=>jf,?_⟩
   have gP:((ps.map aD).take ((i:Int)+1).toNat).drop (i:Int).toNat=[x].map aD:=by
    rw[show((i:Int)+1).toNat=i+1 by omega,Int.toNat_natCast,ads,adk,hx,List.drop_append_of_le_length (by rw[adD];omega),List.drop_of_length_le (by rw[adD];omega)];rfl
   have hm:=(Bm f.ps [x] (by omega) (by simp) (by simp only[List.length_cons,List.length_nil];omega) (by
    have:f.ps.length*(f.ps.length*(([x]:List Lt).length+1)+1)<=200*(200*(([x]:List Lt).length+1)+1):=Nat.mul_le_mul hfp (by simp only[List.length_cons,List.length_nil];omega)
    simp only[List.length_cons,List.length_nil]at this⊢;omega)).ok
   unfold aR at hm
   rw[<-gP]at hm
   refine⟨fun _=>⟨by show(0:Int)<=i;omega,by show(i:Int)<=i+1;omega,by show(i:Int)+1<=_;omega⟩,?_⟩
   repeat first|refine g1 ?_|refine g2 ?_|refine g3 ?_
   refine .inl ⟨_,fun _=>hm,?_⟩
   repeat first|refine g1 ?_|refine g2 ?_|refine g3 ?_
   refine⟨by kernel_rfl,?_⟩
   refine adh ?_ ?_
   ·intro h
    have h:=bZ h
    have ht:Qa x f=true:=by
     unfold Qa
     rw[adF (beq_iff_eq.1 h.1),Bool.true_and,adV,adU]
     intro e
     have h2:=adz h.2
     rw[e]at h2
     exact absurd h2 (by decide)
    rw[Qb,show R.fl.any (Qa x)=true from List.any_eq_true.2 ⟨f,Zj,ht⟩]
    exact ext (by kernel_rfl) rfl rfl
   ·intro h
    have h:=gI h
    have ht:Qa x f=false:=by
     rw[<-Bool.not_eq_true]
     intro ht
     unfold Qa at ht
     rw[adT,adR,adV,adU]at ht
     refine h ⟨beq_iff_eq.2 ht.1,adF ?_⟩
     have:=List.length_pos_iff.2 ht.2
     rw[adi];omega
    exact⟨fun _=>by omega,j+1,jn rfl rfl rfl rfl,⟨by omega,fun q hq=>by
     rw[ads,ou]at hq
     rcases adr.1 hq with hq|hq
     ·exact bO q hq
     ·simp at hq;subst hq;exact ht⟩,mlt Zi⟩
  ·intro h
   have he:j=R.fl.length:=by have:=adA h;omega
   subst he
   rw[ady]at bO
   have ha:R.fl.any (Qa x)=false:=by rw[List.any_eq_false];intro f hf;rw[bO f hf];simp
   rw[ha]at Qb
   exact⟨fun _=>by omega,i+1,jn rfl rfl rfl rfl,⟨by omega,Qb⟩,mlt aB⟩
 ·intro h
  have he:i=ps.length:=by have:=adA h;omega
  subst he
  rw[List.drop_length]at hd
  rw[hd]
  exact ext (by kernel_rfl) rfl rfl
end
section
open Go.TM
variable [aW]
def okF(it:Int)(x:Lt)(f:j4):Bool:=decide (f.kind≠6/\f.to=0/\f.it=it)&&rY [x] [⟨f.id,0,f.n⟩]
def FI(x:Lt)(f:j4):Bool:=decide (f.kind=9)&&decide (f.fr=0)&& !decide (CO f.ps [x]=[])
def tw(fl:List j4)(it:Int):List Lt->Int
 |[]=>0
 |x::r=>bif fl.any (FI x)|| !fl.any (okF it x)then 10 else tw fl it r
theorem Qc{p:j4->Bool}{l:List j4}{j:Nat}{f:j4}(h:l[j]?=some f):(l.take (j+1)).any p=((l.take j).any p||p f):=by
 rw[ads,h,List.any_append];simp
theorem Me(R:RL)(m:eS)(hl:m.ps.length<=5000)(hf:R.fl.length<=1000000)(mM:∀f∈R.fl,f.ps.length<=200):aw Tryz.prog 202 [.ptr 0 0,cP (ay m)] 4 (gn R) 0 [.dv (I (tw R.fl m.it m.ps))] (gn R):=by
 refine cO Tryz.func202 rfl (by kernel_rfl) ?_
 refine⟨Nat,fun i=>⟨5,[(0,.ptr 0 0),(3,.ptr 4 0),(5,.dv (I i))],gn R++[(4,.cells (fp (ay m).cells))]⟩,fun i=>i<=m.ps.length/\tw R.fl m.it m.ps=tw R.fl m.it (m.ps.drop i),fun i=>m.ps.length-i,0,fun _=>rfl,jn rfl rfl rfl rfl,⟨adx _,rfl⟩,?_⟩
 rintro i ⟨hi,hd⟩
 have lp:(m.ps.map aD).length=m.ps.length:=adi ..
 have lf:(R.fl.map bB).length=R.fl.length:=adi ..
 refine adh ?_ ?_
 ·intro h
  have aB:i<m.ps.length:=by have:=adz h;omega
  obtain⟨x,hx⟩:∃x,m.ps[i]?=some x:=⟨_,abK aB⟩
  have aS:m.ps.drop i=x::m.ps.drop (i+1):=by
   rw[List.drop_eq_getElem_cons aB,(adj.1 hx).2]
  rw[aS]at hd
  have Qb:tw R.fl m.it m.ps=bif R.fl.any (FI x)|| !R.fl.any (okF m.it x)then 10 else tw R.fl m.it (m.ps.drop (i+1)):=hd
  have gP:((m.ps.map aD).take ((i:Int)+1).toNat).drop (i:Int).toNat=[x].map aD:=by
   rw[show((i:Int)+1).toNat=i+1 by omega,Int.toNat_natCast,ads,adk,hx,List.drop_append_of_le_length (by rw[adD];omega),List.drop_of_length_le (by rw[adD];omega)];rfl
  refine⟨Nat,fun j=>⟨5,[(0,.ptr 0 0),(3,.ptr 4 0),(5,.dv (I i)),(6,.dv (B ((R.fl.take j).any (okF m.it x)))),(7,.dv (I j))],gn R++[(4,.cells (fp (ay m).cells))]⟩,fun j=>j<=R.fl.length/\∀f∈R.fl.take j,FI x f=false,fun j=>R.fl.length-j,0,fun _=>rfl,jn rfl rfl rfl rfl,⟨adx _,fun _ h=>by simp at h⟩,?_⟩
  rintro j ⟨hj,bO⟩
  refine adh ?_ ?_
  ·intro h
   have Zi:j<R.fl.length:=by have:=adz h;omega
   obtain⟨f,ou⟩:∃f,R.fl[j]?=some f:=⟨_,abK Zi⟩
   have Zj:=adl ou
   have jf:(R.fl.map bB)[(j:Int).toNat]?=some (bB f):=by rw[adk];simp[ou]
   have hfp:=mM f Zj
   have fM:=Qc (p:=okF m.it x) ou
   have hm:=(Bm f.ps [x] (by omega) (by simp) (by simp only[List.length_cons,List.length_nil];omega) (by
    have:f.ps.length*(f.ps.length*(([x]:List Lt).length+1)+1)<=200*(200*(([x]:List Lt).length+1)+1):=Nat.mul_le_mul hfp (by simp only[List.length_cons,List.length_nil];omega)
    simp only[List.length_cons,List.length_nil]at this⊢;omega)).ok
   have hw:=(vJ [x] [⟨f.id,0,f.n⟩] (by simp) (by simp) (by simp)).ok
   unfold aR at hm hw
   rw[<-gP]at hm hw
   refine⟨fun _=>by omega,bB f,fun _=>jf,?_⟩
   refine .inl ⟨[aD ⟨f.id,0,f.n⟩],rfl,⟨rf,rf,rf,tv⟩,(by simp;rfl),?_⟩
   refine⟨fun _=>by omega,fun _=>⟨by show(0:Int)<=i;omega,by show(i:Int)<=i+1;omega,by show(i:Int)+1<=_;omega⟩,?_⟩
   refine .inl ⟨_,fun _=>hw,?_⟩
   repeat refine gG ?_
   have aaV:okF m.it x f=(bif bif bif f.kind !=6 then f.to==0 else false then f.it==m.it else false then rY [x] [⟨f.id,0,f.n⟩]else false):=by
    unfold okF
    rw[adO];simp[and_assoc]
   refine adh ?_ ?_
   ·intro h
    have cI:okF m.it x f=true:=aaV.trans h
    repeat first|refine g1 ?_|refine g2 ?_|refine g3 ?_|refine⟨fun _=>by omega,?_⟩
    refine⟨fun _=>⟨by show(0:Int)<=i;omega,by show(i:Int)<=i+1;omega,by show(i:Int)+1<=_;omega⟩,?_⟩
    repeat first|refine g1 ?_|refine g2 ?_|refine g3 ?_
    refine .inl ⟨_,fun _=>hm,?_⟩
    repeat first|refine g1 ?_|refine g2 ?_|refine g3 ?_
    refine⟨by kernel_rfl,?_⟩
    refine adh ?_ ?_
    ·intro h
     have h:=bZ h
     have h1:=bZ h.1
     have ht:FI x f=true:=by
      unfold FI
      rw[adF (beq_iff_eq.1 h1.1),adF (beq_iff_eq.1 h1.2),Bool.true_and,Bool.true_and,adV,adU]
      intro e
      have h2:=adz h.2
      rw[e]at h2
      exact absurd h2 (by decide)
     rw[Qb,show R.fl.any (FI x)=true from List.any_eq_true.2 ⟨f,Zj,ht⟩]
     exact ext (by kernel_rfl) rfl rfl
    ·intro h
     have h:=gI h
     have ht:FI x f=false:=by
      rw[<-Bool.not_eq_true]
      intro ht
      unfold FI at ht
      simp only[adT,adR,adV,adU]at ht
      refine h ⟨by rw[beq_iff_eq.2 ht.1.1,beq_iff_eq.2 ht.1.2];rfl,adF ?_⟩
      have:=List.length_pos_iff.2 ht.2
      rw[adi];omega
     exact⟨fun _=>by omega,j+1,jn (by simp only[fM,cI,Bool.or_true];rfl) rfl rfl rfl,⟨by omega,fun q hq=>by
      rw[ads,ou]at hq
      rcases adr.1 hq with hq|hq
      ·exact bO q hq
      ·simp at hq;subst hq;exact ht⟩,mlt Zi⟩
   ·intro h
    have cI:okF m.it x f=false:=aaV.trans h
    repeat first|refine g1 ?_|refine g2 ?_|refine g3 ?_|refine⟨fun _=>by omega,?_⟩
    refine⟨fun _=>⟨by show(0:Int)<=i;omega,by show(i:Int)<=i+1;omega,by show(i:Int)+1<=_;omega⟩,?_⟩
    repeat first|refine g1 ?_|refine g2 ?_|refine g3 ?_
    refine .inl ⟨_,fun _=>hm,?_⟩
    repeat first|refine g1 ?_|refine g2 ?_|refine g3 ?_
    refine⟨by kernel_rfl,?_⟩
    refine adh ?_ ?_
    ·intro h
     have h:=bZ h
     have h1:=bZ h.1
     have ht:FI x f=true:=by
      unfold FI
      rw[adF (beq_iff_eq.1 h1.1),adF (beq_iff_eq.1 h1.2),Bool.true_and,Bool.true_and,adV,adU]
      intro e
      have h2:=adz h.2
      rw[e]at h2
      exact absurd h2 (by decide)
     rw[Qb,show R.fl.any (FI x)=true from List.any_eq_true.2 ⟨f,Zj,ht⟩]
     exact ext (by kernel_rfl) rfl rfl
    ·intro h
     have h:=gI h
     have ht:FI x f=false:=by
      rw[<-Bool.not_eq_true]
      intro ht
      unfold FI at ht
      simp only[adT,adR,adV,adU]at ht
      refine h ⟨by rw[beq_iff_eq.2 ht.1.1,beq_iff_eq.2 ht.1.2];rfl,adF ?_⟩
      have:=List.length_pos_iff.2 ht.2
      rw[adi];omega
     exact⟨fun _=>by omega,j+1,jn (by simp only[fM,cI,Bool.or_false];rfl) rfl rfl rfl,⟨by omega,fun q hq=>by
      rw[ads,ou]at hq
      rcases adr.1 hq with hq|hq
      ·exact bO q hq
      ·simp at hq;subst hq;exact ht⟩,mlt Zi⟩
  ·intro h
   have he:j=R.fl.length:=by have:=adA h;omega
   subst he
   rw[ady]at bO
   have ha:R.fl.any (FI x)=false:=by rw[List.any_eq_false];intro f hf;rw[bO f hf];simp
   rw[ha,Bool.false_or]at Qb
   simp only[ady]
   refine adh ?_ ?_
   ·intro h
    rw[Qb,show(!R.fl.any (okF m.it x))=true from h]
    exact ext (by kernel_rfl) rfl rfl
   ·intro h
    rw[show(!R.fl.any (okF m.it x))=false from h]at Qb
    exact⟨fun _=>by omega,i+1,jn rfl rfl rfl rfl,⟨by omega,Qb⟩,mlt aB⟩
 ·intro h
  have he:i=m.ps.length:=by have:=adA h;omega
  subst he
  rw[List.drop_length]at hd
  rw[hd]
  exact ext (by kernel_rfl) rfl rfl
end
section
open Go.TM
variable [aW]
def w6(it:Int):Bool:=it==0||it==2
theorem Mf(R:RL)(k:Int)(m:eS)(fo:0<m.fr)(hp:m.ps≠[])(hn:R.st.length<=100000)(ho:(bY R.st (m.fr,m.it)).length<=5000)(hl:m.ps.length<=5000)(ck:m.ps.length*((bY R.st (m.fr,m.it)).length+1)<=90000)(hsy:(bY R.st (m.fr,m.it)).length*(m.ps.length+1)<=90000):aw Tryz.prog 127 [.ptr 0 0,.dv (I k),cP (ay m)] 4 (gn R) 0 [.dv (aR (bif rY m.ps (bY R.st (m.fr,m.it))then m.ps else[])),.dv (I (bif rY m.ps (bY R.st (m.fr,m.it))then 0 else 10))] (bif rY m.ps (bY R.st (m.fr,m.it))then j6 1 0 0 (uQ R (m.fr,m.it) (Im (bY R.st (m.fr,m.it)) m.ps))else gn R):=by
 refine cO Tryz.func127 rfl (by kernel_rfl) ?_
 have K8:=List.length_pos_iff.2 hp
 have lp:(m.ps.map aD).length=m.ps.length:=adi ..
 refine adh (fun _=>?_) fun h=>by have:=adA h;omega
 refine .inr (cl [0,1,2,3] (j5 R m.fr m.it hn) (by kernel_rfl) rfl rfl ?_)
 refine adh (fun _=>?_) fun h=>by have:=adA h;omega
 refine .inl ⟨_,fun _=>(vJ m.ps (bY R.st (m.fr,m.it)) hl ho ck).ok,?_⟩
 generalize rY m.ps (bY R.st (m.fr,m.it))=w at*
 cases w with
 |false=>
  refine adh (fun _=>?_) fun h=>by cases h
  exact⟨_,_,⟨rfl,rfl⟩,by kernel_rfl,⟨DV.aY 3,rf,tv⟩,bl (k:=gn R) rfl⟩
 |true=>
  refine adh (fun h=>by cases h) fun _=>?_
  refine .inl ⟨_,fun _=>(tq (bY R.st (m.fr,m.it)) m.ps ho hl hsy).ok,?_⟩
  refine .inr (cl [0,1,2,3] (nQ R m.fr m.it (Im (bY R.st (m.fr,m.it)) m.ps) hn) (by kernel_rfl) rfl rfl ?_)
  refine⟨by kernel_rfl,?_⟩
  exact ext (by kernel_rfl) rfl rfl
theorem Mg(R:RL)(k:Int)(m:eS)(fo:0<m.fr)(hp:m.ps=[])(hi:0<=m.it/\m.it<5)(hm:0<=m.n/\m.n<=1099511627776)(hn:R.st.length<=100000)(hv:bE (bY R.st (m.fr,m.it))=true):aw Tryz.prog 127 [.ptr 0 0,.dv (I k),cP (ay m)] 4 (gn R) 0 [.dv (aR (bif decide (cT (bY R.st (m.fr,m.it))<m.n)then[]else(fJ (bY R.st (m.fr,m.it)) m.n (w6 m.it)).1)),.dv (I (bif decide (cT (bY R.st (m.fr,m.it))<m.n)then 10 else 0))] (bif decide (cT (bY R.st (m.fr,m.it))<m.n)then gn R else j6 1 0 0 (uQ R (m.fr,m.it) (fJ (bY R.st (m.fr,m.it)) m.n (w6 m.it)).2)):=by
 rcases m with⟨fr,to,it,n,ps⟩
 dsimp only at*
 subst hp
 have:it=0\/it=1\/it=2\/it=3\/it=4:=by omega
 have ht:=fun x=>(HZ (bY R.st (fr,it)) n x hm hv).ok
 unfold Fl at ht
 have hs:=nQ R fr it
 cases hc:decide (cT (bY R.st (fr,it))<n)<;>rw[hc]at ht
 ·rcases this with rfl|rfl|rfl|rfl|rfl
  all_goals
   refine cO Tryz.func127 rfl (by kernel_rfl) ?_
   refine adh (fun _=>?_) fun h=>absurd fo (adA h)
   refine .inr (cl [0,1,2,3] (j5 R fr _ hn) (by kernel_rfl) rfl rfl ?_)
   refine adh (fun h=>by have:=adz h;simp at this) fun _=>?_
   refine⟨_,fun _=>⟨adz rfl,rfl⟩,?_⟩
   refine .inl ⟨_,fun _=>ht _,?_⟩
   refine⟨by kernel_rfl,?_⟩
   refine adh (fun h=>by cases h) fun _=>?_
   refine .inr (cl [0,1,2,3] (hs _ hn) (by kernel_rfl) rfl rfl ?_)
   exact ext (by kernel_rfl) rfl rfl
 ·rcases this with rfl|rfl|rfl|rfl|rfl
  all_goals
   refine cO Tryz.func127 rfl (by kernel_rfl) ?_
   refine adh (fun _=>?_) fun h=>absurd fo (adA h)
   refine .inr (cl [0,1,2,3] (j5 R fr _ hn) (by kernel_rfl) rfl rfl ?_)
   refine adh (fun h=>by have:=adz h;simp at this) fun _=>?_
   refine⟨_,fun _=>⟨adz rfl,rfl⟩,?_⟩
   refine .inl ⟨_,fun _=>ht _,?_⟩
   refine⟨by kernel_rfl,?_⟩
   refine adh (fun _=>?_) fun h=>by cases h
   exact⟨_,_,⟨rfl,rfl⟩,by kernel_rfl,⟨DV.aY 3,rf,tv⟩,bl (k:=gn R) rfl⟩
theorem Mh(R:RL)(k:Int)(m:eS)(fo:¬0<m.fr)(hl:m.ps.length<=5000)(hf:R.fl.length<=1000000)(mM:∀f∈R.fl,f.ps.length<=200)(hb:k=5->∀x∈m.ps,0<=x.f/\x.f<=9223372036854775807):aw Tryz.prog 127 [.ptr 0 0,.dv (I k),cP (ay m)] 4 (gn R) 0 [.dv (aR (if k=5\/k=9 then m.ps else[])),.dv (I (if k=5 then uS R.sh R.fl m.ps else if k=9 then tw R.fl m.it m.ps else 0))] (gn R):=by
 refine cO Tryz.func127 rfl (by kernel_rfl) ?_
 refine adh (fun h=>absurd (adz h) fo) fun _=>?_
 refine adh ?_ ?_
 ·intro h
  have h:k=5:=by simpa using h
  subst h
  refine .inr (cl [0,1,2,3] (Md R m.ps hl hf mM (hb rfl)) (by kernel_rfl) rfl rfl ?_)
  refine⟨by kernel_rfl,?_⟩
  exact ext (by kernel_rfl) rfl rfl
 intro h
 have h5:k≠5:=by simpa using h
 refine adh ?_ ?_
 ·intro h
  have h:k=9:=by simpa using h
  subst h
  refine .inr (cl [0,1,2,3] (Me R m hl hf mM) (by kernel_rfl) rfl rfl ?_)
  refine⟨by kernel_rfl,?_⟩
  exact ext (by kernel_rfl) rfl rfl
 ·intro h
  have h9:k≠9:=by simpa using h
  rw[if_neg (show¬(k=5\/k=9)by omega),if_neg h5,if_neg h9]
  exact⟨_,_,⟨rfl,rfl⟩,by kernel_rfl,⟨DV.aY 3,rf,tv⟩,bl (k:=gn R) rfl⟩
end
end Go.Proofs.YtfpebgpgabjieaaGreatDoor
