import Derived.Test.YtknnpcfhekkjjaaGreatDoorFM30
import Derived.Test.YtknnpcfhekkjjaaGreatDoorFM23
import Derived.Test.YtknnpcfhekkjjaaGreatDoorFM32
import Derived.Test.YtknnpcfhekkjjaaGreatDoorFM33
import Derived.Test.YtknnpcfhekkjjaaGreatDoorFM28
set_option linter.all false
namespace Go.Proofs.YtknnpcfhekkjjaaGreatDoor
set_option maxRecDepth 100000
set_option maxHeartbeats 4000000
section
open Go.TM
def MN(d:List Lt)(i:Nat):List Lt:=(d.take i).foldl pB []
theorem FL{d:List Lt}{i:Nat}{x:Lt}(h:d[i]?=some x):MN d (i+1)=pB (MN d i) x:=by
 unfold MN;rw[abR,h,ab7];rfl
theorem SI{s:List Lt}{x:Lt}(hs:∀y∈s,aO y=true)(hx:aO x=true):(∀y∈pB s x,aO y=true)/\(pB s x).length<=s.length+1:=by
 unfold pB
 split
 ·rename_i y hy
  have MM:=ax.1 (hs y (List.mem_of_getLast? hy))
  have LC:=ax.1 hx
  split
  ·rename_i hc
   refine⟨fun z hz=>?_,by simp⟩
   rcases abQ.1 hz with hz|hz
   ·exact hs z (List.dropLast_subset _ hz)
   ·rw[abN]at hz;subst hz
    rw[ax];dsimp only;omega
  ·refine⟨fun z hz=>?_,by simp⟩
   rcases abQ.1 hz with hz|hz
   ·exact hs z hz
   ·rw[abN]at hz;subst hz;exact hx
 ·refine⟨fun z hz=>?_,by simp⟩
  rw[abN]at hz;subst hz;exact hx
theorem Pz{d:List Lt}(hd:∀x∈d,aO x=true):∀i,(∀y∈MN d i,aO y=true)/\(MN d i).length<=i
 |0=>⟨fun _ h=>(by cases h),acb _⟩
 |i+1=>by
  have ih:=Pz hd i
  cases h:d[i]? with
  |none=>
   have:MN d (i+1)=MN d i:=by unfold MN;rw[abR,h];simp
   rw[this];exact⟨ih.1,by omega⟩
  |some x=>
   rw[FL h]
   have:=SI ih.1 (hd x (abK h))
   exact⟨this.1,by omega⟩
variable [bG]
theorem tr(l:List Lt):(qt (.aB 3 (l.map aC))).Le (aU l):=DV.Le.of_eq (by
 show DV.sl 3 (zQ (l.map aC))=_
 rw[gK (fun _=>rfl)])
theorem cX{f:Nat}{fn:Func}{c:Code}{args:List AV}{m ex:Nat}{K:ae}{rs:List AV}{K':ae}(hf:Tryz.prog.funcs[f]?=some fn)(hb:fn.body=some c)
 (ha:((!(fn.name== "runtime.NumGoroutine"))&&(Nat.ble args.length fn.ntmps&&cG.wf ⟨m,di 0 args,K⟩))=true) (h:fm Tryz.prog lR .rel fn.ntmps m c (pb lR fn m ex fun r k=>r=rs/\k=K') m (di 0 args) K):ar Tryz.prog f args m K ex rs K':=by
 rw[acj,acm]at ha
 exact Hp gy mixed (eW _) (fB _) hf hb ha.1 ha.2 h
theorem fX(l:List Lt)(hl:l.length<=1000000):ar Tryz.prog 76 [.dv (aU l)] 0 [] 1 [.own 0 0 0 []] [(0,.tree 0 0 (.aB 3 (l.map aC)))]:=by
 refine cO Tryz.func76 rfl (by kernel_rfl) ?_
 by_cases hn:l=[]
 ·subst hn
  refine .inl ⟨⟨_,_,⟨rfl,rfl⟩,by kernel_rfl,⟨⟨rfl,rfl,rfl,rfl,3,rfl⟩,tv⟩,⟨rfl,rfl,3,rfl⟩,tv⟩,?_⟩
  refine .inr (.inl ⟨[],rfl,tv,(fun _ h=>by cases h),?_⟩)
  refine .inr ⟨_,cd.refl _,bL (by simp),by simp,?_⟩
  exact ext (by kernel_rfl) rfl rfl
 ·refine .inr ⟨fun h=>hn (List.map_eq_nil_iff.1 h),abG (fun h=>by cases h) fun _=>?_⟩
  refine .inr (.inl ⟨[],rfl,tv,(fun _ h=>by cases h),?_⟩)
  refine .inr ⟨_,cd.refl _,bL (by simp;omega),by simp;omega,?_⟩
  exact ext (by kernel_rfl) rfl rfl
theorem L2(l:List Lt)(hp:∀x∈l,aO x=true)(hl:l.length<=5000):ar Tryz.prog 170 [.dv (aU l)] 0 [] 0 [.dv (aU (iW l))] []:=by
 refine cX Tryz.func170 rfl (by kernel_rfl) ?_
 refine .inl (.inr (cl [] (fX l (by omega)) (by kernel_rfl) rfl rfl ?_))
 refine .inr ⟨[0],[.own 0 0 0 [],.dv (.fn 184 [])],_,0,_,FJ l (by omega),by kernel_rfl,⟨rfl,rf,tv⟩,⟨⟨rfl,rfl⟩,tv⟩,?_⟩
 rintro rs K2 ⟨rfl,d,⟨y8,SJ⟩,rfl⟩
 refine⟨by kernel_rfl,?_⟩
 have MF:=y8.length_eq
 have hdp:∀x∈d,aO x=true:=fun x hx=>hp x (y8.mem_iff.1 hx)
 have je:=Sc (fun x hx=>(ax.1 (hp x hx)).2.2.1) y8 SJ
 have ll:(d.map aC).length=d.length:=abH ..
 refine⟨Nat,fun i=>⟨2,[(4,.own 1 0 0 []),(13,.own 0 0 0 []),(14,.dv (I d.length)),(15,.dv (I i))],[(0,.tree 0 0 (.aB 3 (d.map aC))),(1,.tree 0 0 (.aB 3 ((MN d i).map aC)))]⟩,fun i=>i<=d.length,fun i=>d.length-i,0,fun _=>rfl,⟨⟨⟨rfl,rfl,rfl,rfl,3,rfl⟩,rfl,aF (by rw[ll]),rf,tv⟩,⟨⟨rfl,rfl⟩,⟨rfl,rfl,3,rfl⟩,tv⟩,rfl,rfl⟩,abW _,?_⟩
 rintro i hi
 obtain⟨iZ,ca⟩:=Pz hdp i
 refine abG (fun h=>?_) fun h=>?_
 ·have au:i<d.length:=by have:=abY h;omega
  obtain⟨x,hx⟩:∃x,d[i]?=some x:=⟨_,aaj au⟩
  have ix:(d.map aC)[(i:Int).toNat]?=some (aC x):=by rw[abJ];simp[hx]
  have LC:=ax.1 (hdp x (abK hx))
  have dZ:=FL hx
  refine⟨fun _=>⟨by omega,by omega⟩,aC x,fun _=>ix,?_⟩
  generalize MN d i=s at*
  have ls:(s.map aC).length=s.length:=abH ..
  obtain⟨y,hy⟩:∃y,y=s.getLastD ⟨0,0,0⟩:=⟨_,rfl⟩
  have dq:bw (decide (0<(((s.map aC).length:Nat):Int))) true=true->0<s.length:=fun h=>by have:=abY (gL h);omega
  have ia:∀h:bw (decide (0<(((s.map aC).length:Nat):Int))) true=true,-9223372036854775808<=(((s.map aC).length:Nat):Int)-1/\(((s.map aC).length:Nat):Int)-1<=9223372036854775807:=fun h=>by omega
  have ib:∀h:bw (decide (0<(((s.map aC).length:Nat):Int))) true=true,0<=(((s.map aC).length:Nat):Int)-1/\(((s.map aC).length:Nat):Int)-1<(((s.map aC).length:Nat):Int):=fun h=>by have:=dq h;omega
  have ie:∀h:bw (decide (0<(((s.map aC).length:Nat):Int))) true=true,(s.map aC)[((((s.map aC).length:Nat):Int)-1).toNat]?=some (aC y):=fun h=>by
   have:=(oq (dq h)).1
   rw[abJ,show((((s.map aC).length:Nat):Int)-1).toNat=s.length-1 by omega,this,hy];rfl
  have MM:∀h:bw (decide (0<(((s.map aC).length:Nat):Int))) true=true,0<=y.f/\0<=y.a/\1<=y.n/\y.a+y.n<=1099511627776:=fun h=>ax.1 (iZ y (by rw[hy];exact abK (oq (dq h)).1))
  have Bh:bw (bif decide (0<(((s.map aC).length:Nat):Int))then y.f==x.f else false) true=true->bw (decide (0<(((s.map aC).length:Nat):Int))) true=true:=fun h=>uV (eh (gL h)).1
  repeat first|apply g1|apply g2|apply g3|apply g4|apply g5
  refine⟨fun h=>ia h,?_⟩
  repeat first|apply g1|apply g2|apply g3|apply g4|apply g5
  refine⟨fun h=>ib h,?_⟩
  repeat first|apply g1|apply g2|apply g3|apply g4|apply g5
  refine⟨aC y,fun h=>ie h,?_⟩
  repeat first|apply g1|apply g2|apply g3|apply g4|apply g5
  refine⟨fun h=>ia (Bh h),?_⟩
  repeat first|apply g1|apply g2|apply g3|apply g4|apply g5
  refine⟨fun h=>ib (Bh h),?_⟩
  repeat first|apply g1|apply g2|apply g3|apply g4|apply g5
  refine⟨aC y,fun h=>ie (Bh h),?_⟩
  repeat first|apply g1|apply g2|apply g3|apply g4|apply g5
  refine⟨fun h=>ia (Bh h),?_⟩
  repeat first|apply g1|apply g2|apply g3|apply g4|apply g5
  refine⟨fun h=>ib (Bh h),?_⟩
  repeat first|apply g1|apply g2|apply g3|apply g4|apply g5
  refine⟨aC y,fun h=>ie (Bh h),?_⟩
  repeat first|apply g1|apply g2|apply g3|apply g4|apply g5
  refine⟨fun h=>(by have:=MM (Bh h);omega),?_⟩
  repeat first|apply g1|apply g2|apply g3|apply g4|apply g5
  refine .inl ⟨by kernel_rfl,abG (fun h=>?_) fun h=>?_⟩
  ·have h1:=eh h
   have h2:=eh h1.1
   have hb:=uV h2.1
   have MM:=MM hb
   have hle:=abY h1.2
   have ei:((((s.map aC).length:Nat):Int)-1).toNat=s.length-1:=by omega
   have e:pB s x=s.set (s.length-1) ⟨y.f,y.a,if y.n<x.a+x.n-y.a then x.a+x.n-y.a else y.n⟩:=by
    have wY:=(oq (dq hb)).2
    rw[<-hy]at wY
    have hc:y.f=x.f/\x.a<=y.a+y.n:=⟨beq_iff_eq.1 h2.2,hle⟩
    unfold pB
    rw[wY]
    simp only
    rw[if_pos hc,show max y.n (x.a+x.n-y.a)=if y.n<x.a+x.n-y.a then x.a+x.n-y.a else y.n by split<;>omega]
    conv=>rhs;rw[gR wY]
    have:(s.dropLast++[y]).length-1=s.dropLast.length:=by simp
    simp
   rw[e]at dZ
   refine⟨fun _=>ia hb,fun _=>ib hb,aC y,fun _=>ie hb,fun _=>⟨by omega,by omega⟩,aC y,fun _=>ie hb,fun _=>⟨by omega,by omega⟩,?_⟩
   refine⟨[I (if y.n<x.a+x.n-y.a then x.a+x.n-y.a else y.n)],⟨rf,tv⟩,aC y,ie hb,?_⟩
   refine .inl ⟨by kernel_rfl,?_⟩
   exact⟨fun _=>⟨by omega,by omega⟩,i+1,jn rfl (by simp only[dZ,List.map_set,<-ei];rfl) rfl rfl,au,mlt au⟩
  ·have e:pB s x=s++[x]:=by
    unfold pB
    by_cases hp:0<s.length
    ·have wY:=(oq hp).2
     rw[<-hy]at wY
     rw[wY]
     simp only
     rw[if_neg]
     intro hc
     exact mQ h ⟨by rw[ab4 (by omega),hc.1];simp,ab4 hc.2⟩
    ·have:s=[]:=List.length_eq_zero_iff.1 (by omega)
     subst this;rfl
   rw[e]at dZ
   refine .inl ⟨[aC x],rfl,⟨rf,rf,rf,tv⟩,(by simp;rfl),?_⟩
   refine .inr ⟨[aC x],cd.refl _,bL (by simp;omega),by simp;omega,?_⟩
   exact⟨fun _=>⟨by omega,by omega⟩,i+1,jn rfl (by simp only[dZ,ab0];rfl) rfl rfl,au,mlt au⟩
 ·have he:i=d.length:=by have:=abZ h;omega
  subst he
  have:MN d d.length=iW l:=by unfold MN;rw[abX,je]
  rw[this]
  exact⟨_,_,⟨rfl,rfl⟩,by kernel_rfl,⟨tr _,tv⟩,tv⟩
theorem FM(l:List Lt)(hp:∀x∈l,aO x=true)(hl:l.length<=5000):aI Tryz.prog 170 [aU l] [aU (iW l)]:=y9 (L2 l hp hl)
end
section
open Go.TM
variable [bG]
theorem za:O5.Le (.sl 9 (dB.map gT)):=DV.Xy rfl fun i x y hx hy=>by
 have hi:i<5:=(abI.1 hy).1
 have hc:∀d,d∈y.cells->d.aj=true:=by
  rw[abJ]at hy
  cases hr:dB[i]? with
  |none=>rw[hr]at hy;cases hy
  |some r=>
   rw[hr]at hy;injection hy with hy;subst hy
   intro d hd
   simp only[gT,DV.cells,abO,List.mem_nil_iff,or_false]at hd
   rcases hd with rfl|rfl|rfl|rfl|rfl|rfl|rfl|rfl|rfl<;>rfl
 refine⟨?_,hc⟩
 match i,hi with
 |0,_=>injection hx with hx;injection hy with hy;subst hx;subst hy;exact⟨rf,rf,rf,rf,rf,rf,DV.aK 2,rf,DV.aK 2,tv⟩
 |1,_=>injection hx with hx;injection hy with hy;subst hx;subst hy;exact⟨rf,rf,rf,rf,rf,rf,rf,rf,rf,tv⟩
 |2,_=>injection hx with hx;injection hy with hy;subst hx;subst hy;exact⟨rf,rf,rf,rf,rf,rf,rf,rf,DV.aK 2,tv⟩
 |3,_=>injection hx with hx;injection hy with hy;subst hx;subst hy;exact⟨rf,rf,rf,rf,rf,rf,rf,rf,DV.aK 2,tv⟩
 |4,_=>injection hx with hx;injection hy with hy;subst hx;subst hy;exact⟨rf,rf,rf,rf,rf,rf,rf,rf,DV.aK 2,tv⟩
theorem L3(sh:Int)(h:0<=sh/\sh<=11):ar Tryz.prog 45 [.dv (I sh),cY Fl] 0 [] 2 [.ptr 1 0,.dv (I 0)] [(1,.cells (.dv (I sh)::fc jc++[.dv .az,.dv .az,.dv .az]))]:=by
 refine cO Tryz.func45 rfl (by kernel_rfl) ?_
 repeat first|apply g1|apply g2|apply g3|apply g4|apply g5
 refine abG (fun hc=>?_) fun _=>?_
 ·simp[bw]at hc;omega
 refine .inl ⟨_,fun _=>Fm.ok,?_⟩
 refine abG (fun h=>by cases h) fun _=>?_
 exact⟨_,_,⟨rfl,rfl⟩,by kernel_rfl,⟨rfl,rf,tv⟩,⟨rf,rf,za,rf,rf,rf,rf,rf,tv⟩,tv⟩
end
section
open Go.TM
variable [bG]
def Zk:DV:=.agg jc
theorem bM{n:Nat}(h:n<=1000000):n*(nth lR (nth lR 44).elem).bytes<=140737488355328:=by
 rw[show(nth lR (nth lR 44).elem).bytes=56 by kernel_rfl];omega
theorem PA{s:dW}:(DV.agg [I s.id,I s.kind,I s.gE,I s.tick,I s.aL,I s.times,qt (.aB 5 (s.mv.map ak))]).Le (aP s):=DV.Le.of_eq (by
 show DV.agg [_,_,_,_,_,_,.sl 5 (zQ (s.mv.map ak))]=_
 rw[gK fun _=>rfl];rfl)
def rT(a times:Int)(l:List Ky):List fa:=l.map fun p=>⟨a,0,p.1,p.2*times,[]⟩
def rU(a times:Int)(l:List Ky):List fa:=l.map fun p=>⟨0,a,p.1,p.2*times,[]⟩
theorem pG{l:List Ky}{i:Nat}{p:Ky}(h:l[i]?=some p):(l.map fq)[(i:Int).toNat]?=some (fq p):=by rw[abJ];simp[h]
theorem BG(aL times a t:Int)(failed:Bool)(r:Pc)(hr:dB[aL.toNat]?=some r)(h0:0<=aL/\aL<=4)(ht:0<=times/\times<=1000):aI Tryz.prog 48 [Zk,I aL,B failed,I times,I a,I t] [aP ⟨0,4,a,t,bif failed then -2-aL else aL,times,rT a times r.tk++rU a times (bif failed then r.bk else r.gv)⟩]:=by
 have hrm:r∈dB:=abK hr
 have hlen:r.tk.length<=5/\r.gv.length<=5/\r.bk.length<=5/\(∀p∈r.tk,0<=p.2/\p.2<=10)/\(∀p∈r.gv,0<=p.2/\p.2<=10)/\∀p∈r.bk,0<=p.2/\p.2<=10:=by
  revert hrm
  generalize r=x
  intro hx
  simp only[dB,abO,List.mem_nil_iff,or_false]at hx
  rcases hx with rfl|rfl|rfl|rfl|rfl<;>simp
 have ir:(dB.map gT)[aL.toNat]?=some (gT r):=by rw[abJ,hr];rfl
 have hr:=hlen
 refine pO Tryz.func48 rfl (by kernel_rfl) rfl ?_
 refine⟨gT r,fun _=>⟨h0.1,ir⟩,?_⟩
 refine abG (fun hf=>?_) fun hf=>?_
 ·have hf:failed=true:=hf
  subst hf
  refine⟨fun _=>⟨by omega,by omega⟩,gT r,fun _=>⟨h0.1,ir⟩,?_⟩
  refine⟨gT r,fun _=>⟨h0.1,ir⟩,?_⟩
  refine⟨Nat,fun i=>⟨4,[(3,.dv (I times)),(4,.dv (I a)),(12,.ptr 1 0),(13,.ptr 2 0),(14,.dv (.sl 2 (r.bk.map fq))),(15,.dv (.sl 2 (r.tk.map fq))),(16,.dv (I i))],[(1,.cells [.dv (I 0),.dv (I 0),.dv (I 0),.dv (I 0),.dv (I 0),.dv (I 0),.dv .az]),(2,.cells [.dv (I 0),.dv (I 4),.dv (I a),.dv (I t),.dv (I (-2-aL)),.dv (I times),.own 3 0 0 []]),(3,.tree 0 0 (.aB 5 ((rT a times (r.tk.take i)).map ak)))]⟩,fun i=>i<=r.tk.length,fun i=>r.tk.length-i,0,fun _=>rfl,⟨⟨rf,rf,rfl,rfl,rf,rf,rf,tv⟩,⟨⟨rf,rf,rf,rf,rf,rf,rf,tv⟩,⟨rf,rf,rf,rf,rf,rf,⟨rfl,rfl,rfl,rfl,5,rfl⟩,tv⟩,⟨rfl,rfl,5,rfl⟩,tv⟩,rfl,rfl⟩,abW _,?_⟩
  rintro i hi
  refine abG (fun h=>?_) fun h=>?_
  ·-- one taken
   have au:i<r.tk.length:=by have:=abY h;rw[abH]at this;omega
   obtain⟨p,hp⟩:∃p,r.tk[i]?=some p:=⟨_,aaj au⟩
   have hb:=hlen.2.2.2.1 p (abK hp)
   have m1:0<=p.2*times:=Int.mul_nonneg hb.1 ht.1
   have m2:p.2*times<=10*1000:=Int.mul_le_mul hb.2 ht.2 ht.1 (by omega)
   have dZ:rT a times (r.tk.take (i+1))=rT a times (r.tk.take i)++[(⟨a,0,p.1,p.2*times,[]⟩:fa)]:=by
    unfold rT;rw[abR,hp,ab0];rfl
   have il:(0:Int)<=i:=by omega
   refine⟨fq p,fun _=>⟨il,pG hp⟩,fq p,fun _=>⟨il,pG hp⟩,fun _=>⟨by omega,by omega⟩,?_⟩
   refine .inl ⟨[ak (⟨a,0,p.1,p.2*times,[]⟩:fa)],rfl,⟨rf,rf,rf,rf,DV.aK 3,tv⟩,(by simp;rfl),?_⟩
   refine .inr ⟨[ak (⟨a,0,p.1,p.2*times,[]⟩:fa)],cd.refl _,bM (by simp[rT,rU];omega),by simp[rT,rU];omega,?_⟩
   refine⟨by kernel_rfl,?_⟩
   exact⟨fun _=>⟨by omega,by omega⟩,i+1,jn rfl (by simp only[dZ,ab0,ab8];rfl) rfl rfl,au,mlt au⟩
  have he:i=r.tk.length:=by have:=abZ h;rw[abH]at this;omega
  subst he
  rw[abX]
  refine⟨Nat,fun i=>⟨4,[(3,.dv (I times)),(4,.dv (I a)),(12,.ptr 1 0),(13,.ptr 2 0),(14,.dv (.sl 2 (r.bk.map fq))),(15,.dv (.sl 2 (r.tk.map fq))),(17,.dv (I i))],[(1,.cells [.dv (I 0),.dv (I 0),.dv (I 0),.dv (I 0),.dv (I 0),.dv (I 0),.dv .az]),(2,.cells [.dv (I 0),.dv (I 4),.dv (I a),.dv (I t),.dv (I (-2-aL)),.dv (I times),.own 3 0 0 []]),(3,.tree 0 0 (.aB 5 ((rT a times r.tk++rU a times (r.bk.take i)).map ak)))]⟩,fun i=>i<=r.bk.length,fun i=>r.bk.length-i,0,fun _=>rfl,jn rfl (by simp only[List.take_zero,rU,List.map_nil,List.append_nil];rfl) rfl rfl,abW _,?_⟩
  clear hi h
  rintro i hi
  refine abG (fun h=>?_) fun h=>?_
  ·-- one given
   have au:i<r.bk.length:=by have:=abY h;rw[abH]at this;omega
   obtain⟨p,hp⟩:∃p,r.bk[i]?=some p:=⟨_,aaj au⟩
   have hb:=hlen.2.2.2.2.2 p (abK hp)
   have m1:0<=p.2*times:=Int.mul_nonneg hb.1 ht.1
   have m2:p.2*times<=10*1000:=Int.mul_le_mul hb.2 ht.2 ht.1 (by omega)
   have dZ:rU a times (r.bk.take (i+1))=rU a times (r.bk.take i)++[(⟨0,a,p.1,p.2*times,[]⟩:fa)]:=by
    unfold rU;rw[abR,hp,ab0];rfl
   have il:(0:Int)<=i:=by omega
   refine⟨fq p,fun _=>⟨il,pG hp⟩,fq p,fun _=>⟨il,pG hp⟩,fun _=>⟨by omega,by omega⟩,?_⟩
   refine .inl ⟨[ak (⟨0,a,p.1,p.2*times,[]⟩:fa)],rfl,⟨rf,rf,rf,rf,DV.aK 3,tv⟩,(by simp;rfl),?_⟩
   refine .inr ⟨[ak (⟨0,a,p.1,p.2*times,[]⟩:fa)],cd.refl _,bM (by simp[rT,rU];omega),by simp[rT,rU];omega,?_⟩
   refine⟨by kernel_rfl,?_⟩
   exact⟨fun _=>⟨by omega,by omega⟩,i+1,jn rfl (by simp only[dZ,ab0,ab8];rfl) rfl rfl,au,mlt au⟩
  have he:i=r.bk.length:=by have:=abZ h;rw[abH]at this;omega
  subst he
  rw[abX]
  exact⟨PA (s:=⟨0,4,a,t,-2-aL,times,rT a times r.tk++rU a times r.bk⟩),tv⟩
 ·have hf:failed=false:=hf
  subst hf
  skip
  refine⟨gT r,fun _=>⟨h0.1,ir⟩,?_⟩
  refine⟨Nat,fun i=>⟨4,[(3,.dv (I times)),(4,.dv (I a)),(12,.ptr 1 0),(13,.ptr 2 0),(14,.dv (.sl 2 (r.gv.map fq))),(15,.dv (.sl 2 (r.tk.map fq))),(16,.dv (I i))],[(1,.cells [.dv (I 0),.dv (I 0),.dv (I 0),.dv (I 0),.dv (I 0),.dv (I 0),.dv .az]),(2,.cells [.dv (I 0),.dv (I 4),.dv (I a),.dv (I t),.dv (I (aL)),.dv (I times),.own 3 0 0 []]),(3,.tree 0 0 (.aB 5 ((rT a times (r.tk.take i)).map ak)))]⟩,fun i=>i<=r.tk.length,fun i=>r.tk.length-i,0,fun _=>rfl,⟨⟨rf,rf,rfl,rfl,rf,rf,rf,tv⟩,⟨⟨rf,rf,rf,rf,rf,rf,rf,tv⟩,⟨rf,rf,rf,rf,rf,rf,⟨rfl,rfl,rfl,rfl,5,rfl⟩,tv⟩,⟨rfl,rfl,5,rfl⟩,tv⟩,rfl,rfl⟩,abW _,?_⟩
  rintro i hi
  refine abG (fun h=>?_) fun h=>?_
  ·-- one taken
   have au:i<r.tk.length:=by have:=abY h;rw[abH]at this;omega
   obtain⟨p,hp⟩:∃p,r.tk[i]?=some p:=⟨_,aaj au⟩
   have hb:=hlen.2.2.2.1 p (abK hp)
   have m1:0<=p.2*times:=Int.mul_nonneg hb.1 ht.1
   have m2:p.2*times<=10*1000:=Int.mul_le_mul hb.2 ht.2 ht.1 (by omega)
   have dZ:rT a times (r.tk.take (i+1))=rT a times (r.tk.take i)++[(⟨a,0,p.1,p.2*times,[]⟩:fa)]:=by
    unfold rT;rw[abR,hp,ab0];rfl
   have il:(0:Int)<=i:=by omega
   refine⟨fq p,fun _=>⟨il,pG hp⟩,fq p,fun _=>⟨il,pG hp⟩,fun _=>⟨by omega,by omega⟩,?_⟩
   refine .inl ⟨[ak (⟨a,0,p.1,p.2*times,[]⟩:fa)],rfl,⟨rf,rf,rf,rf,DV.aK 3,tv⟩,(by simp;rfl),?_⟩
   refine .inr ⟨[ak (⟨a,0,p.1,p.2*times,[]⟩:fa)],cd.refl _,bM (by simp[rT,rU];omega),by simp[rT,rU];omega,?_⟩
   refine⟨by kernel_rfl,?_⟩
   exact⟨fun _=>⟨by omega,by omega⟩,i+1,jn rfl (by simp only[dZ,ab0,ab8];rfl) rfl rfl,au,mlt au⟩
  have he:i=r.tk.length:=by have:=abZ h;rw[abH]at this;omega
  subst he
  rw[abX]
  refine⟨Nat,fun i=>⟨4,[(3,.dv (I times)),(4,.dv (I a)),(12,.ptr 1 0),(13,.ptr 2 0),(14,.dv (.sl 2 (r.gv.map fq))),(15,.dv (.sl 2 (r.tk.map fq))),(17,.dv (I i))],[(1,.cells [.dv (I 0),.dv (I 0),.dv (I 0),.dv (I 0),.dv (I 0),.dv (I 0),.dv .az]),(2,.cells [.dv (I 0),.dv (I 4),.dv (I a),.dv (I t),.dv (I (aL)),.dv (I times),.own 3 0 0 []]),(3,.tree 0 0 (.aB 5 ((rT a times r.tk++rU a times (r.gv.take i)).map ak)))]⟩,fun i=>i<=r.gv.length,fun i=>r.gv.length-i,0,fun _=>rfl,jn rfl (by simp only[List.take_zero,rU,List.map_nil,List.append_nil];rfl) rfl rfl,abW _,?_⟩
  clear hi h
  rintro i hi
  refine abG (fun h=>?_) fun h=>?_
  ·-- one given
   have au:i<r.gv.length:=by have:=abY h;rw[abH]at this;omega
   obtain⟨p,hp⟩:∃p,r.gv[i]?=some p:=⟨_,aaj au⟩
   have hb:=hlen.2.2.2.2.1 p (abK hp)
   have m1:0<=p.2*times:=Int.mul_nonneg hb.1 ht.1
   have m2:p.2*times<=10*1000:=Int.mul_le_mul hb.2 ht.2 ht.1 (by omega)
   have dZ:rU a times (r.gv.take (i+1))=rU a times (r.gv.take i)++[(⟨0,a,p.1,p.2*times,[]⟩:fa)]:=by
    unfold rU;rw[abR,hp,ab0];rfl
   have il:(0:Int)<=i:=by omega
   refine⟨fq p,fun _=>⟨il,pG hp⟩,fq p,fun _=>⟨il,pG hp⟩,fun _=>⟨by omega,by omega⟩,?_⟩
   refine .inl ⟨[ak (⟨0,a,p.1,p.2*times,[]⟩:fa)],rfl,⟨rf,rf,rf,rf,DV.aK 3,tv⟩,(by simp;rfl),?_⟩
   refine .inr ⟨[ak (⟨0,a,p.1,p.2*times,[]⟩:fa)],cd.refl _,bM (by simp[rT,rU];omega),by simp[rT,rU];omega,?_⟩
   refine⟨by kernel_rfl,?_⟩
   exact⟨fun _=>⟨by omega,by omega⟩,i+1,jn rfl (by simp only[dZ,ab0,ab8];rfl) rfl rfl,au,mlt au⟩
  have he:i=r.gv.length:=by have:=abZ h;rw[abH]at this;omega
  subst he
  rw[abX]
  exact⟨PA (s:=⟨0,4,a,t,aL,times,rT a times r.tk++rU a times r.gv⟩),tv⟩
end
section
open Go.TM
theorem L4{l:List DV}{z x:DV}{i:Nat}(h:l[i]?=some x):(l.take i++List.replicate (l.length-i) z).set i x=l.take (i+1)++List.replicate (l.length-(i+1)) z:=by
 have hi:=(abI.1 h).1
 have:l.length-i=(l.length-(i+1))+1:=by omega
 rw[List.set_append,if_neg (by rw[ab2];omega),abR,h,this,List.replicate_succ]
 simp[Nat.min_eq_left (Nat.le_of_lt hi)]
theorem PB{l:List DV}{z:DV}{i:Nat}(h:i<l.length):(l.take i++List.replicate (l.length-i) z)[i]?=some z:=by
 rw[List.getElem?_append_right (by rw[ab2];omega),List.getElem?_replicate,if_pos (by rw[ab2];omega)]
theorem PC(l:List DV)(z:DV)(i:Nat)(h:i<=l.length):(l.take i++List.replicate (l.length-i) z).length=l.length:=by simp;omega
variable [bG]
theorem Wb{m:fa}:(DV.agg [I m.fr,I m.to,I m.it,I m.n,qt (.aB 3 (m.ps.map aC))]).Le (ak m):=DV.Le.of_eq (by
 show DV.agg [_,_,_,_,.sl 3 (zQ (m.ps.map aC))]=_
 rw[gK fun _=>rfl];rfl)
theorem Im{α:Type}(sz:Nat){e:α->DV}(h:∀x,qt (e x)=e x){l:List α}:(qt (.aB sz (l.map e))).Le (.sl sz (l.map e)):=DV.Le.of_eq (by
 show DV.sl sz (zQ (l.map e))=_
 rw[gK h])
theorem L5(m:fa)(hl:m.ps.length<=1000000):aI Tryz.prog 146 [ak m] [ak m]:=by
 refine pO Tryz.func146 rfl (by kernel_rfl) rfl ?_
 refine .inr (cl [] (fX m.ps hl) (by kernel_rfl) rfl rfl ?_)
 exact⟨Wb,tv⟩
theorem Zl(l:List fa)(hl:l.length<=900000)(hp:∀m∈l,m.ps.length<=1000000):ar Tryz.prog 145 [.dv (.sl 5 (l.map ak)),.dv (.fn 146 [])] 0 [] 0 [.dv (.sl 5 (l.map ak))] []:=by
 have ll:(l.map ak).length=l.length:=abH ..
 refine cO Tryz.func145 rfl (by kernel_rfl) ?_
 refine abG (fun h=>?_) fun h=>?_
 ·have hz:l=[]:=by have:=beq_iff_eq.1 h;exact List.length_eq_zero_iff.1 (by omega)
  subst hz
  exact⟨_,_,⟨rfl,rfl⟩,by kernel_rfl,⟨DV.aK 5,tv⟩,tv⟩
 refine⟨.agg [I 0,I 0,I 0,I 0,.az],⟨rf,rf,rf,rf,rf,tv⟩,by omega,by omega,?_,by omega,false,(fun h=>by cases h),?_⟩
 ·have hb:=bM (n:=l.length) (by omega)
  rw[ll];exact Int.le_trans (Int.le_of_eq (Int.natCast_mul _ _).symm) (Int.ofNat_le.2 hb)
 have e0:List.replicate (((l.map ak).length:Int)).toNat (.agg [I 0,I 0,I 0,I 0,.az])=(l.map ak).take 0++List.replicate ((l.map ak).length-0) (.agg [I 0,I 0,I 0,I 0,.az]):=by simp
 rw[e0]
 refine⟨Nat,fun i=>⟨1,[(1,.dv (.fn 146 [])),(5,.own 0 0 0 []),(14,.dv (.sl 5 (l.map ak))),(15,.dv (I l.length)),(16,.dv (I i))],[(0,.tree 0 0 (.aB 5 ((l.map ak).take i++List.replicate ((l.map ak).length-i) (.agg [I 0,I 0,I 0,I 0,.az]))))]⟩,fun i=>i<=l.length,fun i=>l.length-i,0,fun _=>rfl,jn (by simp only[ll];rfl) rfl rfl rfl,abW _,?_⟩
 rintro i hi
 refine abG (fun h=>?_) fun h=>?_
 ·have au:i<l.length:=by have:=abY h;omega
  obtain⟨x,hx⟩:∃x,l[i]?=some x:=⟨_,aaj au⟩
  have ix:(l.map ak)[(i:Int).toNat]?=some (ak x):=by rw[abJ];simp[hx]
  have hlx:(l.map ak)[i]?=some (ak x):=by rw[abJ,hx];rfl
  have hfn:=L4 (z:=.agg [I 0,I 0,I 0,I 0,.az]) hlx
  have oH:=PC (l.map ak) (.agg [I 0,I 0,I 0,I 0,.az]) i (by omega)
  have hfg:=PB (z:=.agg [I 0,I 0,I 0,I 0,.az]) (show i<(l.map ak).length by omega)
  refine⟨ak x,fun _=>⟨by omega,ix⟩,?_⟩
  refine .inl ⟨_,fun _=>(L5 x (hp x (abK hx))).ok,?_⟩
  refine⟨fun _=>⟨by omega,by rw[oH];omega⟩,(ak x).cells,⟨rf,rf,rf,rf,rf,tv⟩,.agg [I 0,I 0,I 0,I 0,.az],hfg,?_⟩
  exact⟨fun _=>⟨by omega,by omega⟩,i+1,jn rfl (by simp only[<-hfn];rfl) rfl rfl,au,mlt au⟩
 ·have he:i=l.length:=by have:=abZ h;omega
  subst he
  have PD:(l.map ak).take l.length++List.replicate ((l.map ak).length-l.length) (.agg [I 0,I 0,I 0,I 0,.az])=(l.map ak):=by rw[<-ll,abX];simp
  rw[PD]
  exact⟨_,_,⟨rfl,rfl⟩,by kernel_rfl,⟨Im 5 (fun _=>rfl),tv⟩,tv⟩
theorem BH(s:dW)(hl:s.mv.length<=900000)(hp:∀m∈s.mv,m.ps.length<=1000000):aI Tryz.prog 80 [aP s] [aP s]:=by
 refine pO Tryz.func80 rfl (by kernel_rfl) rfl ?_
 refine .inr ⟨[],[.dv (.sl 5 (s.mv.map ak)),.dv (.fn 146 [])],[],0,_,[],Zl s.mv hl hp,by kernel_rfl,by kernel_rfl,⟨rf,rf,tv⟩,tv,?_⟩
 exact⟨rf,tv⟩
end
section
open Go.TM
abbrev IM(β:Type):=List (Int×β)
structure PL where
 sh:Int
 st:SM
 cb:IM Int
 sp:List dW
 fl:List qy
 imp:IM (List Lt)
 ret:IM (List Lt)
def se(k:Ky):DV:=.agg [I k.1,I k.2]
def eI(n:Int):DV:=I n
def qO(m:SM):List DV:=eM se (fun l:List Lt=>aU l) m
def ou(m:IM Int):List DV:=eM eI eI m
def qA(m:IM (List Lt)):List DV:=eM eI (fun l:List Lt=>aU l) m
theorem iO(a b:Ky):tQ (se a) (se b)=decide (a=b):=by
 obtain⟨a1,a2⟩:=a
 obtain⟨b1,b2⟩:=b
 rw[ace]
 simp[se,tQ,BW,D2]
theorem jO(a b:Int):tQ (eI a) (eI b)=decide (a=b):=by
 rw[ace]
 simp[eI,tQ,D2]
def plC(P:PL):List AV:=.dv (I P.sh)::fc jc++[.own 1 0 0 [],.own 2 0 0 [],.own 3 0 0 [],.own 4 0 0 [],.own 5 0 0 [],.own 6 0 0 []]
def kJ(P:PL):ae:=[(0,.cells (plC P)),(1,.tree 0 0 (.omap eX (qO P.st))),(2,.tree 0 0 (.omap cH (ou P.cb))),(3,.tree 0 0 (.aB 7 (P.sp.map aP))),(4,.tree 0 0 (.aB 11 (P.fl.map bB))),(5,.tree 0 0 (.omap cH (qA P.imp))),(6,.tree 0 0 (.omap cH (qA P.ret)))]
def FN(m:IM Int)(it:Int):Int:=(aR m it).getD 0
variable [bG]
theorem mT:uA Tryz.prog 124 eX:=AR gy rfl
theorem kr:uA Tryz.prog 3 cH:=EG gy rfl
theorem wb(P:PL)(a i:Int)(hl:(b5 P.st (a,i)).length<=1000000):ar Tryz.prog 43 [.ptr 0 0,.dv (I a),.dv (I i)] 7 (kJ P) 0 [.dv (aU (b5 P.st (a,i)))] (kJ P):=by
 have hg:=iL (ev:=fun l:List Lt=>aU l) iO P.st (a,i)
 refine cO Tryz.func43 rfl (by kernel_rfl) ?_
 refine⟨mT,se (a,i),rfl,rfl,?_⟩
 unfold b5 at hl⊢
 cases h:aR P.st (a,i)with
 |none=>
  rw[h]at hg hl
  refine⟨.az,false,fun _=>hg,fun _=>rfl,rfl,?_⟩
  refine .inr ⟨[],[.dv (aU [])],[],1,_,_,fX [] (by simp),by kernel_rfl,by kernel_rfl,⟨DV.aK 3,tv⟩,tv,?_⟩
  exact⟨_,_,⟨rfl,rfl⟩,by kernel_rfl,⟨tr _,tv⟩,bp (k:=kJ P) rfl⟩
 |some l=>
  rw[h]at hg hl
  refine⟨aU l,true,fun _=>hg,fun h=>(by cases h),rfl,?_⟩
  refine .inr (cl [] (fX l hl) (by kernel_rfl) rfl rfl ?_)
  exact⟨_,_,⟨rfl,rfl⟩,by kernel_rfl,⟨tr _,tv⟩,bp (k:=kJ P) rfl⟩
theorem BI(P:PL)(a i:Int)(hl:(b5 P.st (a,i)).length<=1000000)(hn:∀x∈b5 P.st (a,i),0<=x.n/\x.n<=1099511627776):ar Tryz.prog 17 [.ptr 0 0,.dv (I a),.dv (I i)] 7 (kJ P) 0 [.dv (I (dD (b5 P.st (a,i))))] (kJ P):=by
 have hg:=iL (ev:=fun l:List Lt=>aU l) iO P.st (a,i)
 refine cO Tryz.func17 rfl (by kernel_rfl) ?_
 refine⟨mT,se (a,i),rfl,rfl,?_⟩
 unfold b5 at hl hn⊢
 cases h:aR P.st (a,i)with
 |none=>
  rw[h]at hg
  refine⟨.az,false,fun _=>hg,fun _=>rfl,rfl,?_⟩
  refine .inl ⟨_,fun _=>⟨[aU []],⟨DV.aK 3,tv⟩,qg [] (by simp) (fun _ h=>by cases h)⟩,?_⟩
  exact ext (by kernel_rfl) rfl rfl
 |some l=>
  rw[h]at hg hl hn
  refine⟨aU l,true,fun _=>hg,fun h=>(by cases h),rfl,?_⟩
  refine .inl ⟨_,fun _=>(qg l hl hn).ok,?_⟩
  exact ext (by kernel_rfl) rfl rfl
theorem FO(P:PL)(i:Int):ar Tryz.prog 44 [.ptr 0 0,.dv (I i)] 7 (kJ P) 0 [.dv (I (FN P.cb i))] (kJ P):=by
 have hg:=iL (ev:=eI) jO P.cb i
 refine cO Tryz.func44 rfl (by kernel_rfl) ?_
 refine⟨kr,eI i,rfl,rfl,?_⟩
 unfold FN
 cases h:aR P.cb i with
 |none=>
  rw[h]at hg
  refine⟨I 0,false,fun _=>hg,fun _=>rfl,rfl,?_⟩
  exact ext (by kernel_rfl) rfl rfl
 |some l=>
  rw[h]at hg
  refine⟨I l,true,fun _=>hg,fun h=>(by cases h),rfl,?_⟩
  exact ext (by kernel_rfl) rfl rfl
theorem L6(P:PL)(hn:P.sp.length<=1000000):ar Tryz.prog 143 [.ptr 0 0] 7 (kJ P) 0 [.dv (I (dS P.sp))] (kJ P):=by
 have lp:(P.sp.map aP).length=P.sp.length:=abH ..
 refine cO Tryz.func143 rfl (by kernel_rfl) ?_
 refine abG (fun h=>?_) fun h=>?_
 ·have hz:P.sp=[]:=by have:=beq_iff_eq.1 h;exact List.length_eq_zero_iff.1 (by omega)
  rw[show dS P.sp=0 by rw[hz];rfl]
  exact ext (by kernel_rfl) rfl rfl
 ·have b7:0<P.sp.length:=by have:=beq_eq_false_iff_ne.1 h;omega
  have hx:=aaj (show P.sp.length-1<P.sp.length by omega)
  generalize P.sp[P.sp.length-1]=s at hx
  have aaR:dS P.sp=s.tick:=by unfold dS;rw[List.getLast?_eq_getElem?,hx]
  have ix:(P.sp.map aP)[((((P.sp.map aP).length:Nat):Int)-1).toNat]?=some (aP s):=by rw[abJ,show((((P.sp.map aP).length:Nat):Int)-1).toNat=P.sp.length-1 by omega,hx];rfl
  refine⟨fun _=>⟨by omega,by omega⟩,fun _=>⟨by omega,by omega⟩,aP s,fun _=>ix,?_⟩
  rw[aaR]
  exact⟨by kernel_rfl,ext (by kernel_rfl) rfl rfl⟩
end
section
open Go.TM
structure SeI where
 i:Nat
 j:Nat
theorem PE{i j:Nat}(h:i+j<=1000000):IntKind.i64.wrap (IntKind.u64.wrap ((i:Int)+(j:Int))/2^min (Int.toNat 1) IntKind.u64.bits)=(((i+j)/2:Nat):Int):=by
 have e:min (Int.toNat 1) IntKind.u64.bits=1:=rfl
 rw[e,IntKind.wrap_u64,IntKind.wrap_i64]
 omega
def Zm(f:Nat)(bK:List AV)(m:Nat)(K:ae)(q:SeI):cG:=⟨m,[(1,.fn f bK),(5,.dv (I q.i)),(6,.dv (I q.j))],K⟩
def L7(set:List Lt)(x:Lt):Nat:=(set.takeWhile fun s=>!jL x s).length
theorem PF{p:Lt->Bool}:∀{l:List Lt} {y:Lt},y∈l.takeWhile p->p y=true
 |[],y,h=>by cases h
 |x::l,y,h=>by
  rw[List.takeWhile_cons]at h
  split at h
  ·rename_i hx
   rcases abO.1 h with rfl|h
   ·exact hx
   ·exact PF h
  ·cases h
theorem PG{set:List Lt}(hs:NS set)(x:Lt):L7 set x<=set.length/\(set.dropWhile fun s=>!jL x s)=set.drop (L7 set x)/\(∀i y,i<L7 set x->set[i]?=some y->jL x y=false)/\∀i y,L7 set x<=i->set[i]?=some y->jL x y=true:=by
 have e:=List.takeWhile_append_dropWhile (p:=fun s=>!jL x s) (l:=set)
 have hd:=(CP x set hs).2.1
 have hl:=congrArg List.length e
 rw[abU]at hl
 have e2:(set.dropWhile fun s=>!jL x s)=set.drop (L7 set x):=by
  have h:=congrArg (List.drop (set.takeWhile fun s=>!jL x s).length) e
  rw[List.drop_left]at h
  exact h
 refine⟨by unfold L7;omega,e2,fun i y hi hy=>?_,fun i y hi hy=>?_⟩
 ·rw[<-e,List.getElem?_append_left hi]at hy
  have:=PF (abK hy)
  simpa using this
 ·refine hd y ?_
  rw[e2]
  refine abK (i:=i-L7 set x) ?_
  rw[List.getElem?_drop,show L7 set x+(i-L7 set x)=i by omega];exact hy
variable [bG]
def Xn(set:List Lt)(x:Lt):ae:=[(0,.cells [.dv (aU set)]),(1,.cells (fc (aC x).cells))]
theorem L8(set:List Lt)(x y:Lt)(i:Nat)(hy:set[i]?=some y)(hb:0<=y.a/\y.a<=1099511627776/\0<=y.n/\y.n<=1099511627776):ar Tryz.prog 231 [.dv (I i),.ptr 0 0,.ptr 1 0] 2 (Xn set x) 0 [.dv (B (jL x y))] (Xn set x):=by
 have iy:(set.map aC)[(i:Int).toNat]?=some (aC y):=by rw[abJ];simp[hy]
 have i0:(0:Int)<=i:=by omega
 refine cO Tryz.func231 rfl (by kernel_rfl) ?_
 refine⟨aC y,fun _=>⟨i0,iy⟩,?_⟩
 repeat first|apply g1|apply g2|apply g3|apply g4|apply g5
 refine⟨aC y,fun _=>⟨i0,iy⟩,?_⟩
 repeat first|apply g1|apply g2|apply g3|apply g4|apply g5
 refine⟨aC y,fun _=>⟨i0,iy⟩,?_⟩
 repeat first|apply g1|apply g2|apply g3|apply g4|apply g5
 refine⟨aC y,fun _=>⟨i0,iy⟩,?_⟩
 repeat first|apply g1|apply g2|apply g3|apply g4|apply g5
 refine⟨fun _=>⟨by omega,by omega⟩,?_⟩
 repeat first|apply g1|apply g2|apply g3|apply g4|apply g5
 refine⟨by kernel_rfl,?_⟩
 rw[show jL x y=(bif decide (x.f<y.f)then true else bif y.f==x.f then decide (x.a<y.a+y.n)else false)by
  unfold jL;rw[ace];simp]
 exact ext (by kernel_rfl) rfl rfl
theorem Dd(set:List Lt)(x:Lt)(hs:NS set)(hb:lB set):ar Tryz.prog 230 [.dv (I set.length),.fn 231 [.ptr 0 0,.ptr 1 0]] 2 (Xn set x) 0 [.dv (I (L7 set x))] (Xn set x):=by
 obtain⟨hk,-,h1,h2⟩:=PG hs x
 obtain⟨hl,Ja⟩:=hb
 generalize L7 set x=k at*
 refine cO Tryz.func230 rfl (by kernel_rfl) ?_
 refine⟨SeI,Zm 231 [.ptr 0 0,.ptr 1 0] 2 (Xn set x),fun q=>q.i<=k/\k<=q.j/\q.j<=set.length,fun q=>q.j-q.i,⟨0,set.length⟩,fun _=>rfl,jn rfl rfl rfl rfl,⟨abW _,hk,acb _⟩,?_⟩
 rintro q ⟨p1,p2,p3⟩
 refine abG (fun au=>?_) fun gH=>?_
 ·have au:q.i<q.j:=by have:=abY au;simp only[Int.ofNat_lt]at this;exact this
  refine⟨fun _=>⟨by omega,by omega⟩,?_⟩
  refine⟨fun _=>by omega,?_⟩
  obtain⟨y,hy⟩:∃y,set[(q.i+q.j)/2]?=some y:=⟨_,aaj (by omega)⟩
  refine .inr ⟨[0,1],[.dv (I ((q.i+q.j)/2:Nat)),.ptr 0 0,.ptr 1 0],Xn set x,0,_,_,L8 set x y _ hy (Ja y (abK hy)),by kernel_rfl,by kernel_rfl,⟨?_,rfl,rfl,tv⟩,⟨⟨rf,tv⟩,⟨rf,rf,rf,tv⟩,tv⟩,?_⟩
  ·rw[PE (by omega)];exact rf
  rw[PE (by omega)]
  refine abG (fun hb=>?_) fun hb=>?_
  ·have De:(q.i+q.j)/2<k:=by
    rcases ab1 ((q.i+q.j)/2) k with h|h
    ·exact h
    ·have:=h2 _ _ h hy;rw[this]at hb;cases hb
   exact⟨fun _=>⟨by omega,by omega⟩,⟨(q.i+q.j)/2+1,q.j⟩,jn rfl rfl rfl rfl,⟨De,p2,p3⟩,by simp only;omega⟩
  ·have aaS:k<=(q.i+q.j)/2:=by
    rcases ab1 ((q.i+q.j)/2) k with h|h
    ·have:=h1 _ _ h hy;rw[this]at hb;cases hb
    ·exact h
   exact⟨⟨q.i,(q.i+q.j)/2⟩,jn rfl rfl rfl rfl,⟨p1,aaS,by simp only;omega⟩,by simp only;omega⟩
 ·have gH:q.i=q.j:=by have:=abZ gH;omega
  have HX:q.i=k:=by omega
  rw[<-HX]
  exact ext (by kernel_rfl) rfl rfl
end
section
open Go.TM
def FP:Code->Option RC
 |.seq a b=>match FP a with
  |some r=>some r
  |none=>FP b
 |.cond _ a b=>match FP a with
  |some r=>some r
  |none=>FP b
 |.block _ c=>FP c
 |.scope c=>FP c
 |.loop c=>FP c
 |.rangeFunc _ ps a b=>some ⟨ps,a,b⟩
 |_=>none
def FQ(f:Func):RC:=match f.body with
 |some c=>(match FP c with
  |some r=>r
  |none=>⟨#[],.skip,.skip⟩)
 |none=>⟨#[],.skip,.skip⟩
abbrev ZZ:=List Lt×List Lt
def fw(x s:Lt):Int:=if 0<s.a-x.a then s.a-x.a else 0
def lz(x s:Lt):Int:=if s.a+s.n-(x.a+fw x s)<x.n-fw x s then s.a+s.n-(x.a+fw x s)else x.n-fw x s
def SK(x s:Lt):Bool:=decide (0<x.n)&&(s.f==x.f&&decide (s.a<x.a+x.n))
theorem Kh{x s:Lt}{r:List Lt}(h:SK x s=true):DX x (s::r)=(if 0<fw x s then[(⟨x.f,x.a,fw x s⟩,false)]else[])++(⟨x.f,x.a+fw x s,lz x s⟩,true)::DX ⟨x.f,x.a+fw x s+lz x s,x.n-fw x s-lz x s⟩ r:=by
 simp only[SK,acj,decide_eq_true_eq,beq_iff_eq]at h
 have e1:fw x s=max 0 (s.a-x.a):=by unfold fw;split<;>omega
 have e2:lz x s=min (x.n-max 0 (s.a-x.a)) (s.a+s.n-(x.a+max 0 (s.a-x.a))):=by unfold lz;rw[e1];split<;>omega
 rw[e2,e1]
 conv=>lhs;unfold DX
 rw[if_pos h]
theorem PH{x s:Lt}{r:List Lt}(h:SK x s=false):DX x (s::r)=if 0<x.n then[(x,false)]else[]:=by
 have h2:¬(0<x.n/\s.f=x.f/\s.a<x.a+x.n):=fun hc=>by
  have:SK x s=true:=by simp only[SK,acj,decide_eq_true_eq,beq_iff_eq];exact hc
  rw[this]at h;cases h
 conv=>lhs;unfold DX
 rw[if_neg h2]
def GL(n:Nat)(z:ZZ):Prop:=(∀y∈z.1,aO y=true)/\(∀y∈z.2,aO y=true)/\z.1.length<=n/\z.2.length<=n
theorem GL.lB{n:Nat}{z:ZZ}(h:GL n z)(hn:n<=100000):lB z.1/\lB z.2:=
 ⟨⟨by have:=h.2.2.1;omega,fun y hy=>by have:=ax.1 (h.1 y hy);omega⟩,⟨by have:=h.2.2.2;omega,fun y hy=>by have:=ax.1 (h.2.1 y hy);omega⟩⟩
theorem GL.put{n:Nat}{z:ZZ}(h:GL n z){p:Lt×Bool}(hp:aO p.1=true):GL (n+1) (gi z p):=by
 obtain⟨h1,h2,h3,h4⟩:=h
 have hb:=ax.1 hp
 unfold gi
 cases p.2
 ·exact⟨h1,ta [p.1] z.2 (by simpa using hp) h2 |>.1,by show z.1.length<=_;omega,by have:=fp z.2 p.1;show(bj z.2 p.1).length<=_;omega⟩
 ·exact⟨ta [p.1] z.1 (by simpa using hp) h1 |>.1,h2,by have:=fp z.1 p.1;show(bj z.1 p.1).length<=_;omega,by show z.2.length<=_;omega⟩
theorem GL.fold:∀{l:List (Lt×Bool)} {n:Nat} {z:ZZ},GL n z->(∀p∈l,aO p.1=true)->GL (n+l.length) (l.foldl gi z)
 |[],n,z,h,_=>h
 |p::l,n,z,h,hp=>by
  have:=GL.fold (h.put (hp p abT)) fun q hq=>hp q (abP _ hq)
  rw[List.length_cons,show n+(l.length+1)=n+1+l.length by omega]
  exact this
theorem Ki:∀(s:List Lt) (x:Lt),(DX x s).length<=2*s.length+1
 |[],x=>by unfold DX;split<;>simp
 |s::r,x=>by
  cases h:SK x s with
  |true=>
   rw[Kh h]
   have:=Ki r ⟨x.f,x.a+fw x s+lz x s,x.n-fw x s-lz x s⟩
   simp only[abU,List.length_cons]
   split<;>simp<;>omega
  |false=>rw[PH h];split<;>simp
theorem FR(set:List Lt)(x:Lt):(oE set x).length<=2*set.length+1:=by
 have h1:=Ki (set.dropWhile fun s=>!jL x s) x
 have h2:=(List.dropWhile_sublist (p:=fun s=>!jL x s) (l:=set)).length_le
 unfold oE;omega
theorem Df{set:List Lt}{x:Lt}(hs:NS set)(hx:aO x=true):∀p∈oE set x,aO p.1=true:=fun p hp=>by
 have hb:=ax.1 hx
 have:=(s3 hs (by omega:0<=x.n)).pos p hp
 rw[ax];omega
end
section
open Go.TM
variable [bG]
def zU(v:Nat)(rc:RC)(z:ZZ):ae:=[(0,.c8 rc .ready (((List.replicate 22 .any).set 4 (.ptr 1 0)).set 5 (.ptr 2 0))),(1,.cells [.own 3 v 0 []]),(2,.cells [.own 4 v 0 []]),(3,.tree v 0 (.aB 3 (z.1.map aC))),(4,.tree v 0 (.aB 3 (z.2.map aC)))]
theorem Wc(z:ZZ)(x:Lt)(b:Bool)(h1:lB z.1)(h2:lB z.2)(hx:0<=x.n/\x.n<=1099511627776):eC Tryz.prog [cY (aC x),.dv (B b)] 5 (zU 1 (FQ Tryz.f191) z) 0 fun r k=>r=[.dv (B true)]/\k=zU 1 (FQ Tryz.f191) (gi z (x,b)):=by
 refine AU gy mixed rfl (by kernel_rfl) ?_
 cases b with
 |true=>
  refine abG (fun _=>?_) fun h=>by cases h
  refine .inr (cl [3] (BF z.1 x h1 hx) (by kernel_rfl) rfl rfl ?_)
  exact ext (by kernel_rfl) rfl rfl
 |false=>
  refine abG (fun h=>by cases h) fun _=>?_
  refine .inr (cl [4] (BF z.2 x h2 hx) (by kernel_rfl) rfl rfl ?_)
  exact ext (by kernel_rfl) rfl rfl
theorem Dg{rc:RC}{z:ZZ}{a:List AV}:Go.TM.Start 4 [(0,.c8 rc .ready (((List.replicate 22 .any).set 4 (.ptr 1 0)).set 5 (.ptr 2 0))),(1,.cells [.own 3 1 0 []]),(2,.cells [.own 4 0 0 []]),(3,.tree 1 0 (.aB 3 (z.1.map aC))),(4,.tree 0 0 (.aB 3 (z.2.map aC)))] (zU 1 rc z) a a/\
 Go.TM.Start 3 (zU 0 rc z) [(0,.c8 rc .ready (((List.replicate 22 .any).set 4 (.ptr 1 0)).set 5 (.ptr 2 0))),(1,.cells [.own 3 1 0 []]),(2,.cells [.own 4 0 0 []]),(3,.tree 1 0 (.aB 3 (z.1.map aC))),(4,.tree 0 0 (.aB 3 (z.2.map aC)))] a a:=by
 refine⟨⟨⟨_,rfl,rfl,fun j hj=>?_⟩,iV.refl _ _ _ _⟩,⟨_,rfl,rfl,fun j hj=>?_⟩,iV.refl _ _ _ _⟩
 ·match j,hj with
  |0,_=>exact .refl _
  |1,_=>exact .refl _
  |2,_=>exact .cells (.sb .nil)
  |3,_=>exact .refl _
  |j+5,_=>exact .refl _
 ·match j,hj with
  |0,_=>exact .refl _
  |1,_=>exact .cells (.sb .nil)
  |2,_=>exact .refl _
  |4,_=>exact .refl _
  |j+5,_=>exact .refl _
theorem Io(z:ZZ)(x:Lt)(b:Bool)(h1:lB z.1)(h2:lB z.2)(hx:0<=x.n/\x.n<=1099511627776):eC Tryz.prog [cY (aC x),.dv (B b)] 5 (zU 0 (FQ Tryz.f191) z) 0 fun r k=>r=[.dv (B true)]/\k=zU 1 (FQ Tryz.f191) (gi z (x,b)):=
 kq 3 (kq 4 (Wc z x b h1 h2 hx) Dg.1) Dg.2
def Xo(v:Nat)(rc:RC)(l set:List Lt)(z:ZZ):ae:=[(0,.c8 rc .ready (((List.replicate 22 .any).set 4 (.ptr 1 0)).set 5 (.ptr 2 0))),(1,.cells [.own 5 v 0 []]),(2,.cells [.own 6 v 0 []]),(3,.cells [.dv (aU l)]),(4,.cells [.dv (aU set)]),(5,.tree v 0 (.aB 3 (z.1.map aC))),(6,.tree v 0 (.aB 3 (z.2.map aC)))]
structure ItS where
 j:Nat
 x:Lt
 z:ZZ
def zN(l set:List Lt)(z:ZZ)(i:Nat):ZZ:=((l.take i).flatMap (oE set)).foldl gi z
theorem Kj{l set:List Lt}{z:ZZ}{i:Nat}{x:Lt}(h:l[i]?=some x):zN l set z (i+1)=(oE set x).foldl gi (zN l set z i):=by
 unfold zN;rw[abR,h,List.flatMap_append,ab7];simp
theorem GL.mono{m n:Nat}{z:ZZ}(h:GL m z)(Xm:m<=n):GL n z:=⟨h.1,h.2.1,Nat.le_trans h.2.2.1 Xm,Nat.le_trans h.2.2.2 Xm⟩
theorem Uj{l set:List Lt}{z:ZZ}(hl:∀x∈l,aO x=true)(hs:NS set)(hz:GL 0 z):∀i,GL (i*(2*set.length+1)) (zN l set z i)
 |0=>by rw[Nat.zero_mul];exact hz
 |i+1=>by
  have ih:=Uj hl hs hz i
  cases h:l[i]? with
  |none=>
   have:zN l set z (i+1)=zN l set z i:=by unfold zN;rw[abR,h];simp
   rw[this]
   exact ih.mono (acd _ (by omega))
  |some x=>
   rw[Kj h]
   have h1:=ih.fold (Df hs (hl x (abK h)))
   have h2:=FR set x
   exact h1.mono (by rw[Nat.add_mul,Nat.one_mul];omega)
theorem Wd{l set:List Lt}{z:ZZ}{i:Nat}{x:Lt}(hl:∀x∈l,aO x=true)(hs:NS set)(hz:GL 0 z)(hx:l[i]?=some x)(aV:l.length*(2*set.length+1)<=90000){pre suf:List (Lt×Bool)}(h:oE set x=pre++suf):
 lB (pre.foldl gi (zN l set z i)).1/\lB (pre.foldl gi (zN l set z i)).2:=by
 have h1:=(Uj hl hs hz i).fold (l:=pre) fun p hp=>Df hs (hl x (abK hx)) p (by rw[h];exact List.mem_append_left _ hp)
 have h2:=FR set x
 have h3:=congrArg List.length h
 rw[abU]at h3
 have hi:=(abI.1 hx).1
 have h4:(i+1)*(2*set.length+1)<=l.length*(2*set.length+1):=acd _ hi
 rw[Nat.add_mul,Nat.one_mul]at h4
 exact h1.lB (by omega)
theorem We(rc:RC)(l set:List Lt)(z:ZZ)(hl:∀x∈l,aO x=true)(hs:NS set)(hp:∀x∈set,aO x=true)(FT:l.length<=5000)(iw:set.length<=5000)(hz:GL 0 z)(aV:l.length*(2*set.length+1)<=90000)
 (hY:∀(z:ZZ) (x:Lt) (b:Bool),lB z.1->lB z.2->0<=x.n/\x.n<=1099511627776->eC Tryz.prog [cY (aC x),.dv (B b)] 5 (zU 0 rc z) 0 fun r k=>r=[.dv (B true)]/\k=zU 1 rc (gi z (x,b))):
 ar Tryz.prog 229 [.eN 0,.ptr 3 0,.ptr 4 0] 7 (Xo 1 rc l set z) 0 [] (Xo 1 rc l set ((l.flatMap (oE set)).foldl gi z)):=by
 refine cO Tryz.func229 rfl (by kernel_rfl) ?_
 have ll:(l.map aC).length=l.length:=abH ..
 have ls:(set.map aC).length=set.length:=abH ..
 refine⟨Nat,fun i=>⟨7,[(0,.eN 0),(1,.ptr 3 0),(2,.ptr 4 0),(9,.dv (aU l)),(10,.dv (I l.length)),(11,.dv (I i))],Xo 1 rc l set (zN l set z i)⟩,fun i=>i<=l.length,fun i=>l.length-i,0,fun _=>rfl,jn (by simp only[ll];rfl) rfl rfl rfl,abW _,?_⟩
 rintro i hi
 refine abG (fun h=>?_) fun h=>?_
 ·have au:i<l.length:=by have:=abY h;omega
  obtain⟨x,hx⟩:∃x,l[i]?=some x:=⟨_,aaj au⟩
  have ix:(l.map aC)[(i:Int).toNat]?=some (aC x):=by rw[abJ];simp[hx]
  have Ub:=hl x (abK hx)
  have LC:=ax.1 Ub
  have hpp:=(s3 hs (by omega:0<=x.n)).pos
  have tW:=Df hs Ub
  have dZ:=Kj (set:=set) (z:=z) hx
  have hlb:lB set:=⟨by omega,fun y hy=>by have:=ax.1 (hp y hy);omega⟩
  obtain⟨hk,aH,ph,K4⟩:=PG hs x
  refine⟨aC x,fun _=>⟨by omega,ix⟩,?_⟩
  have hse:=Dd set x hs hlb
  rw[<-ls]at hse
  refine .inr (cl [4,7] hse (by kernel_rfl) rfl rfl ?_)
  have hM:oE set x=DX x (set.drop (L7 set x)):=by unfold oE;rw[aH]
  generalize hz0:zN l set z i=zi at*
  refine⟨ItS,fun q=>⟨8,[(0,.eN 0),(1,.ptr 3 0),(2,.ptr 4 0),(9,.dv (aU l)),(10,.dv (I l.length)),(11,.dv (I i)),(5,.ptr 7 0),(6,.dv (I q.j))],Xo 1 rc l set q.z++[(7,.cells (fc (aC q.x).cells))]⟩,fun q=>q.j<=set.length/\q.x.f=x.f/\x.a<=q.x.a/\q.x.a+q.x.n=x.a+x.n/\0<=q.x.n/\∃pre,oE set x=pre++DX q.x (set.drop q.j)/\q.z=pre.foldl gi zi,fun q=>set.length-q.j,⟨L7 set x,x,zi⟩,fun _=>rfl,jn rfl rfl rfl rfl,⟨hk,rfl,Int.le_refl _,rfl,by show 0<=x.n;omega,[],hM,rfl⟩,?_⟩
  rintro⟨j,y,w⟩ ⟨hj,hf,ha,hn,Wf,pre,tu,hw⟩
  dsimp only at hj hf ha hn Wf tu hw⊢
  have Wg:∀{p s:List (Lt×Bool)},oE set x=p++s->lB (p.foldl gi zi).1/\lB (p.foldl gi zi).2:=fun h=>by
   rw[<-hz0];exact Wd hl hs hz hx aV h
  obtain⟨s,Ip⟩:∃s,j<set.length->set[j]?=some s:=by
   by_cases h:j<set.length
   ·exact⟨set[j],fun _=>aaj h⟩
   ·exact⟨x,fun h2=>absurd h2 h⟩
  have is:bw (bif decide (0<y.n)then decide ((j:Int)<(((set.map aC).length:Nat):Int))else false) true=true->(0:Int)<=j/\(set.map aC)[(j:Int).toNat]?=some (aC s):=fun hg=>by
   have De:j<set.length:=by have:=abY (eh (gL hg)).2;omega
   refine⟨by omega,?_⟩
   rw[abJ];simp[Ip De]
  repeat first|apply g1|apply g2|apply g3|apply g4|apply g5
  refine⟨aC s,fun h=>is h,?_⟩
  repeat first|apply g1|apply g2|apply g3|apply g4|apply g5
  refine⟨aC s,fun h=>is (uV (eh (gL h)).1),?_⟩
  repeat first|apply g1|apply g2|apply g3|apply g4|apply g5
  refine⟨fun _=>⟨by omega,by omega⟩,?_⟩
  repeat first|apply g1|apply g2|apply g3|apply g4|apply g5
  refine⟨by kernel_rfl,abG (fun hc=>?_) fun hc=>?_⟩
  ·have c1:=eh hc
   have c2:=eh c1.1
   have c3:=eh c2.1
   have De:j<set.length:=by have:=abY c3.2;omega
   have Ip:=Ip De
   have Uk:=ax.1 (hp s (abK Ip))
   have hg:SK y s=true:=by unfold SK;rw[c3.1,c2.2,c1.2];rfl
   have hdj:set.drop j=s::set.drop (j+1):=by
    rw[List.drop_eq_getElem_cons De]
    rw[aaj De]at Ip
    injection Ip with Ip
    rw[Ip]
   rw[hdj,Kh hg]at tu
   have io:(0:Int)<=j/\(set.map aC)[(j:Int).toNat]?=some (aC s):=⟨by omega,by rw[abJ];simp[Ip]⟩
   refine⟨aC s,fun _=>io,fun _=>⟨by omega,by omega⟩,?_⟩
   refine⟨by kernel_rfl,?_⟩
   repeat first|apply g1|apply g2|apply g3|apply g4|apply g5
   have iZ:=Wg tu
   rw[<-hw]at iZ
   by_cases hO:0<fw y s
   ·have r9:bw (decide (0<fw y s)) true=true:=uV (ab4 hO)
    rw[if_pos hO]at tu
    have GM:=hpp (⟨y.f,y.a,fw y s⟩,false) (by rw[tu];simp)
    have J6:=hpp (⟨y.f,y.a+fw y s,lz y s⟩,true) (by rw[tu];simp)
    dsimp only at GM J6
    refine .inl (Ui [0,1,2,5,6] (hY w ⟨y.f,y.a,fw y s⟩ false iZ.1 iZ.2 (by show 0<=fw y s/\fw y s<=_;omega)) (by kernel_rfl) rfl rfl ?_)
    refine⟨r9,fun _=>rfl,fun _ h=>uV h,abG (fun h=>by cases(eh h).2) fun _=>?_⟩
    have ca:=Wg (p:=pre++[(⟨y.f,y.a,fw y s⟩,false)]) (by rw[tu];simp;rfl)
    rw[ab7,<-hw]at ca
    refine⟨fun _=>⟨by omega,by omega⟩,fun _=>⟨by omega,by omega⟩,?_⟩
    refine⟨aC s,fun _=>io,aC s,fun _=>io,fun _=>⟨by omega,by omega⟩,fun _=>⟨by omega,by omega⟩,?_⟩
    refine⟨by kernel_rfl,?_⟩
    refine .inl (Ui [0,1,2,5,6] (hY (gi w (⟨y.f,y.a,fw y s⟩,false)) ⟨y.f,y.a+fw y s,lz y s⟩ true ca.1 ca.2 (by show 0<=lz y s/\lz y s<=_;omega)) (by kernel_rfl) rfl rfl ?_)
    refine abG (fun h=>by cases h) fun _=>?_
    refine⟨fun _=>⟨by omega,by omega⟩,fun _=>⟨by omega,by omega⟩,fun _=>⟨by omega,by omega⟩,⟨j+1,⟨y.f,y.a+fw y s+lz y s,y.n-fw y s-lz y s⟩,gi (gi w (⟨y.f,y.a,fw y s⟩,false)) (⟨y.f,y.a+fw y s,lz y s⟩,true)⟩,jn rfl rfl rfl rfl,⟨De,hf,by dsimp only;omega,by dsimp only;omega,by dsimp only;omega,(pre++[(⟨y.f,y.a,fw y s⟩,false)])++[(⟨y.f,y.a+fw y s,lz y s⟩,true)],by rw[tu];simp,by rw[hw];simp⟩,by dsimp only;omega⟩
   ·have hgf:bw (decide (0<fw y s)) true=false:=by rw[ab5 hO];rfl
    have h0:0<=fw y s:=by unfold fw;split<;>omega
    rw[if_neg hO,List.nil_append]at tu
    have J6:=hpp (⟨y.f,y.a+fw y s,lz y s⟩,true) (by rw[tu];simp)
    dsimp only at J6
    have ca:=iZ
    refine .inr ⟨hgf,.dv (B false),fun h=>h,fun _ h=>uV h,abG (fun h=>absurd (abY (eh h).1) hO) fun _=>?_⟩
    refine⟨fun _=>⟨by omega,by omega⟩,fun _=>⟨by omega,by omega⟩,?_⟩
    refine⟨aC s,fun _=>io,aC s,fun _=>io,fun _=>⟨by omega,by omega⟩,fun _=>⟨by omega,by omega⟩,?_⟩
    refine⟨by kernel_rfl,?_⟩
    refine .inl (Ui [0,1,2,5,6] (hY (w) ⟨y.f,y.a+fw y s,lz y s⟩ true ca.1 ca.2 (by show 0<=lz y s/\lz y s<=_;omega)) (by kernel_rfl) rfl rfl ?_)
    refine abG (fun h=>by cases h) fun _=>?_
    refine⟨fun _=>⟨by omega,by omega⟩,fun _=>⟨by omega,by omega⟩,fun _=>⟨by omega,by omega⟩,⟨j+1,⟨y.f,y.a+fw y s+lz y s,y.n-fw y s-lz y s⟩,gi (w) (⟨y.f,y.a+fw y s,lz y s⟩,true)⟩,jn rfl rfl rfl rfl,⟨De,hf,by dsimp only;omega,by dsimp only;omega,by dsimp only;omega,pre++[(⟨y.f,y.a+fw y s,lz y s⟩,true)],by rw[tu];simp,by rw[hw];simp⟩,by dsimp only;omega⟩
  ·have gu:DX y (set.drop j)=if 0<y.n then[(y,false)]else[]:=by
    by_cases tS:j<set.length
    ·have Ip:=Ip tS
     rw[List.drop_eq_getElem_cons tS]
     rw[aaj tS]at Ip
     injection Ip with Ip
     rw[Ip]
     refine PH ?_
     have h2:=mQ hc
     rw[Bool.eq_false_iff]
     intro hg
     simp only[SK,acj]at hg
     exact h2 ⟨by rw[hg.1,ab4 (by omega),hg.2.1];rfl,hg.2.2⟩
    ·rw[List.drop_eq_nil_of_le (by omega)]
     conv=>lhs;unfold DX
   have iZ:=Wg tu
   rw[<-hw]at iZ
   rw[gu]at tu
   rw[tu,ab7,<-hw]at dZ
   repeat first|apply g1|apply g2|apply g3|apply g4|apply g5
   by_cases hO:0<y.n
   ·have r9:bw (decide (0<y.n)) true=true:=uV (ab4 hO)
    rw[if_pos hO]at dZ
    refine .inl (Ui [0,1,2,5,6] (hY w y false iZ.1 iZ.2 (by omega)) (by kernel_rfl) rfl rfl ?_)
    refine⟨r9,fun _=>rfl,fun _ h=>uV h,abG (fun h=>by cases(eh h).2) fun _=>?_⟩
    exact⟨fun _=>⟨by omega,by omega⟩,i+1,jn rfl (by simp only[dZ];rfl) rfl rfl,au,mlt au⟩
   ·have hgf:bw (decide (0<y.n)) true=false:=by rw[ab5 hO];rfl
    rw[if_neg hO]at dZ
    refine .inr ⟨hgf,.dv (B false),fun h=>h,fun _ h=>uV h,abG (fun h=>absurd (abY (eh h).1) hO) fun _=>?_⟩
    exact⟨fun _=>⟨by omega,by omega⟩,i+1,jn rfl (by simp only[dZ];rfl) rfl rfl,au,mlt au⟩
 ·have he:i=l.length:=by have:=abZ h;omega
  subst he
  have:zN l set z l.length=(l.flatMap (oE set)).foldl gi z:=by unfold zN;rw[abX]
  rw[this]
  exact ext (by kernel_rfl) rfl rfl
end
section
open Go.TM
variable [bG]
def SL:List AV->List AV->Bool
 |[],[]=>true
 |.any::r,_::l=>SL r l
 |.ptr i o::r,.ptr j p::l=>Nat.beq i j&&Nat.beq o p&&SL r l
 |_,_=>false
theorem mU{m:Nat}{κ κ':Nat->aq}:∀{r l:List AV},SL r l=true->dT m κ κ' r l
 |[],[],_=>trivial
 |.any::r,_::l,h=>⟨tv,mU (r:=r) (l:=l) h⟩
 |.ptr i o::r,.ptr j p::l,h=>by
  simp only[SL,acj]at h
  have h1:=abL h.1.1
  have h2:=abL h.1.2
  subst h1;subst h2
  exact⟨rfl,mU h.2⟩
theorem rV(l:List Lt):(qt (.aB 3 (l.map aC))).Le (aU l):=DV.Le.of_eq (by
 show DV.sl 3 (zQ (l.map aC))=_
 rw[gK (fun _=>rfl)])
theorem FU(l set:List Lt):ar Tryz.prog 206 [.dv (aU l),.dv (aU set)] 0 [] 2 [.fn 229 [.ptr 0 0,.ptr 1 0]] [(0,.cells [.dv (aU l)]),(1,.cells [.dv (aU set)])]:=by
 refine cO Tryz.func206 rfl (by kernel_rfl) ?_
 exact ext (by kernel_rfl) rfl rfl
def kI0(rc:RC)(l set:List Lt):ae:=[(0,.c8 rc .ready (((List.replicate 22 .any).set 4 (.ptr 1 0)).set 5 (.ptr 2 0))),(1,.cells [.dv .az]),(2,.cells [.dv .az]),(3,.cells [.dv (aU l)]),(4,.cells [.dv (aU set)])]
def kI1(rc:RC)(l set:List Lt):ae:=[(0,.c8 rc .ready (((List.replicate 22 .any).set 4 (.ptr 1 0)).set 5 (.ptr 2 0))),(1,.cells [.own 5 0 0 []]),(2,.cells [.dv .az]),(3,.cells [.dv (aU l)]),(4,.cells [.dv (aU set)]),(5,.tree 0 0 (.aB 3 []))]
def kI2(rc:RC)(l set:List Lt):ae:=[(0,.c8 rc .ready (((List.replicate 22 .any).set 4 (.ptr 1 0)).set 5 (.ptr 2 0))),(1,.cells [.own 5 1 0 []]),(2,.cells [.own 6 0 0 []]),(3,.cells [.dv (aU l)]),(4,.cells [.dv (aU set)]),(5,.tree 1 0 (.aB 3 [])),(6,.tree 0 0 (.aB 3 []))]
theorem Iq(rc:RC)(l set:List Lt)(hl:∀x∈l,aO x=true)(hs:NS set)(hp:∀x∈set,aO x=true)(FT:l.length<=5000)(iw:set.length<=5000)(aV:l.length*(2*set.length+1)<=90000)
 (hY:∀(z:ZZ) (x:Lt) (b:Bool),lB z.1->lB z.2->0<=x.n/\x.n<=1099511627776->eC Tryz.prog [cY (aC x),.dv (B b)] 5 (zU 0 rc z) 0 fun r k=>r=[.dv (B true)]/\k=zU 1 rc (gi z (x,b))):
 ar Tryz.prog 229 [.eN 0,.ptr 3 0,.ptr 4 0] 5 (kI0 rc l set) 2 [] (Xo 1 rc l set (Al l set)):=by
 have h1:=We rc l set ([],[]) hl hs hp FT iw ⟨fun _ h=>(by cases h),fun _ h=>(by cases h),acb _,acb _⟩ aV hY
 have h2:=cR 6 (K0:=kI2 rc l set) h1 ⟨⟨_,rfl,rfl,fun j hj=>(by match j,hj with|0,_=>exact .refl _|1,_=>exact .refl _|2,_=>exact .cells (.sb .nil)|3,_=>exact .refl _|4,_=>exact .refl _|5,_=>exact .refl _|j+7,_=>exact .refl _)⟩,iV.refl _ _ _ _⟩
 have h3:=cR 5 (K0:=Xo 0 rc l set ([],[])) h2 ⟨⟨_,rfl,rfl,fun j hj=>(by match j,hj with|0,_=>exact .refl _|1,_=>exact .cells (.sb .nil)|2,_=>exact .refl _|3,_=>exact .refl _|4,_=>exact .refl _|6,_=>exact .refl _|j+7,_=>exact .refl _)⟩,iV.refl _ _ _ _⟩
 have h4:=jo (K2:=kI1 rc l set) (args2:=[.eN 0,.ptr 3 0,.ptr 4 0]) h3 rfl rfl (fun j hj=>(by match j,hj with|0,_=>exact .inl ⟨rfl,rfl⟩|1,_=>exact .inl ⟨rfl,rfl⟩|2,_=>exact .inr ⟨_,_,rfl,rfl,.born .nil⟩|3,_=>exact .inl ⟨rfl,rfl⟩|4,_=>exact .inl ⟨rfl,rfl⟩|5,_=>exact .inl ⟨rfl,rfl⟩|j+7,_=>exact .inl ⟨rfl,rfl⟩)) (.same _ rfl (.same _ rfl (.same _ rfl .nil)))
 exact jo (K2:=kI0 rc l set) (args2:=[.eN 0,.ptr 3 0,.ptr 4 0]) h4 rfl rfl (fun j hj=>(by match j,hj with|0,_=>exact .inl ⟨rfl,rfl⟩|1,_=>exact .inr ⟨_,_,rfl,rfl,.born .nil⟩|2,_=>exact .inl ⟨rfl,rfl⟩|3,_=>exact .inl ⟨rfl,rfl⟩|4,_=>exact .inl ⟨rfl,rfl⟩|j+6,_=>exact .inl ⟨rfl,rfl⟩)) (.same _ rfl (.same _ rfl (.same _ rfl .nil)))
theorem wc(l set:List Lt)(hl:∀x∈l,aO x=true)(hs:NS set)(hp:∀x∈set,aO x=true)(FT:l.length<=5000)(iw:set.length<=5000)(aV:l.length*(2*set.length+1)<=90000):aI Tryz.prog 191 [aU l,aU set] [aU (Al l set).1,aU (Al l set).2]:=by
 refine pO Tryz.func191 rfl (by kernel_rfl) rfl ?_
 have hi:=Iq (FQ Tryz.f191) l set hl hs hp FT iw aV fun z x b a1 a2 a3=>Io z x b a1 a2 a3
 refine .inr (cl [] (FU l set) (by kernel_rfl) rfl rfl ?_)
 refine⟨FQ Tryz.f191,by kernel_rfl,?_⟩
 refine⟨[4,0,1,2,3],[.eN 0,.ptr 3 0,.ptr 4 0],kI0 (FQ Tryz.f191) l set,2,_,hi,by kernel_rfl,⟨rfl,rfl,rfl,tv⟩,⟨⟨rfl,rfl,?_⟩,⟨rf,tv⟩,⟨rf,tv⟩,⟨rf,tv⟩,⟨rf,tv⟩,tv⟩,?_⟩
 ·exact mU (by kernel_rfl)
 rintro rs K2 ⟨rfl,rfl⟩
 refine⟨by kernel_rfl,?_⟩
 conv=>whnf
 exact⟨by kernel_rfl,rV _,rV _,tv⟩
end
end Go.Proofs.YtknnpcfhekkjjaaGreatDoor
