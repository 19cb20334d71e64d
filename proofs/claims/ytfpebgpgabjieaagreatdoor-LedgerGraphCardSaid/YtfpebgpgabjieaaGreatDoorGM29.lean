import Derived.Test.YtfpebgpgabjieaaGreatDoorGM25
import Derived.Test.YtfpebgpgabjieaaGreatDoorGM19
import Derived.Test.YtfpebgpgabjieaaGreatDoorGM27
import Derived.Test.YtfpebgpgabjieaaGreatDoorGM28
import Derived.Test.YtfpebgpgabjieaaGreatDoorGM23
set_option linter.all false
open Go.TM.oA Go.TM.oB Go.TM.oC Go.TM.oD Go.TM.oE
namespace Go.Proofs.YtfpebgpgabjieaaGreatDoor
set_option maxRecDepth 100000
set_option maxHeartbeats 4000000
section
open Go.TM
def Ob(d:List Lt)(i:Nat):List Lt:=(d.take i).foldl qW []
theorem Gj{d:List Lt}{i:Nat}{x:Lt}(h:d[i]?=some x):Ob d (i+1)=qW (Ob d i) x:=by
 unfold Ob;rw[adY,h,aee];rfl
theorem UJ{s:List Lt}{x:Lt}(hs:∀y∈s,aB y=true)(hx:aB x=true):(∀y∈qW s x,aB y=true)/\(qW s x).length<=s.length+1:=by
 unfold qW
 split
 ·rename_i y hy
  have Oa:=ah.1 (hs y (List.mem_of_getLast? hy))
  have rX:=ah.1 hx
  split
  ·rename_i hc
   refine⟨fun z hz=>?_,by simp⟩
   rcases adX.1 hz with hz|hz
   ·exact hs z (List.dropLast_subset _ hz)
   ·rw[adU]at hz;subst hz
    rw[ah];dsimp only;omega
  ·refine⟨fun z hz=>?_,by simp⟩
   rcases adX.1 hz with hz|hz
   ·exact hs z hz
   ·rw[adU]at hz;subst hz;exact hx
 ·refine⟨fun z hz=>?_,by simp⟩
  rw[adU]at hz;subst hz;exact hx
theorem Qv{d:List Lt}(hd:∀x∈d,aB x=true):∀i,(∀y∈Ob d i,aB y=true)/\(Ob d i).length<=i
 |0=>⟨fun _ h=>(by cases h),aei _⟩
 |i+1=>by
  have ih:=Qv hd i
  cases h:d[i]? with
  |none=>
   have:Ob d (i+1)=Ob d i:=by unfold Ob;rw[adY,h];simp
   rw[this];exact⟨ih.1,by omega⟩
  |some x=>
   rw[Gj h]
   have:=UJ ih.1 (hd x (adR h))
   exact⟨this.1,by omega⟩
variable [bj]
theorem n0(l:List Lt):(oY (.aD 3 (l.map ax))).Le (aQ l):=DV.Le.of_eq (by
 show DV.sl 3 (uX (l.map ax))=_
 rw[dV (fun _=>rfl)])
theorem cX{f:Nat}{fn:Func}{c:Code}{args:List AV}{m ex:Nat}{K:ad}{rs:List AV}{K':ad}(hf:Tryz.prog.funcs[f]?=some fn)(hb:fn.body=some c)
 (ha:((!(fn.name== "runtime.NumGoroutine"))&&(Nat.ble args.length fn.ntmps&&cJ.wf ⟨m,dh 0 args,K⟩))=true) (h:fG Tryz.prog na .rel fn.ntmps m c (pn na fn m ex fun r k=>r=rs/\k=K') m (dh 0 args) K):aj Tryz.prog f args m K ex rs K':=by
 rw[aep,aer]at ha
 exact Ii fO mixed (eu _) (fh _) hf hb ha.1 ha.2 h
theorem eK(l:List Lt)(hl:l.length<=1000000):aj Tryz.prog 79 [.dv (aQ l)] 0 [] 1 [.own 0 0 0 []] [(0,.tree 0 0 (.aD 3 (l.map ax)))]:=by
 refine cO Tryz.func79 rfl (by kernel_rfl) ?_
 by_cases hn:l=[]
 ·subst hn
  refine .inl ⟨⟨_,_,⟨rfl,rfl⟩,by kernel_rfl,⟨⟨rfl,rfl,rfl,rfl,3,rfl⟩,tv⟩,⟨rfl,rfl,3,rfl⟩,tv⟩,?_⟩
  refine .inr (.inl ⟨[],rfl,tv,(fun _ h=>by cases h),?_⟩)
  refine .inr ⟨_,bV.refl _,bL (by simp),by simp,?_⟩
  exact ext (by kernel_rfl) rfl rfl
 ·refine .inr ⟨fun h=>hn (List.map_eq_nil_iff.1 h),adN (fun h=>by cases h) fun _=>?_⟩
  refine .inr (.inl ⟨[],rfl,tv,(fun _ h=>by cases h),?_⟩)
  refine .inr ⟨_,bV.refl _,bL (by simp;omega),by simp;omega,?_⟩
  exact ext (by kernel_rfl) rfl rfl
theorem MU(l:List Lt)(hp:∀x∈l,aB x=true)(hl:l.length<=5000):aj Tryz.prog 214 [.dv (aQ l)] 0 [] 0 [.dv (aQ (cL l))] []:=by
 refine cX Tryz.func214 rfl (by kernel_rfl) ?_
 refine .inl (.inr (cl [] (eK l (by omega)) (by kernel_rfl) rfl rfl ?_))
 refine .inr ⟨[0],[.own 0 0 0 [],.dv (.fn 232 [])],_,0,_,Gf l (by omega),by kernel_rfl,⟨rfl,rf,tv⟩,⟨⟨rfl,rfl⟩,tv⟩,?_⟩
 rintro rs K2 ⟨rfl,d,⟨y8,UL⟩,rfl⟩
 refine⟨by kernel_rfl,?_⟩
 have Zt:=y8.length_eq
 have hdp:∀x∈d,aB x=true:=fun x hx=>hp x (y8.mem_iff.1 hx)
 have gK:=TZ (fun x hx=>(ah.1 (hp x hx)).2.2.1) y8 UL
 have ll:(d.map ax).length=d.length:=adO ..
 refine⟨Nat,fun i=>⟨2,[(4,.own 1 0 0 []),(13,.own 0 0 0 []),(14,.dv (I d.length)),(15,.dv (I i))],[(0,.tree 0 0 (.aD 3 (d.map ax))),(1,.tree 0 0 (.aD 3 ((Ob d i).map ax)))]⟩,fun i=>i<=d.length,fun i=>d.length-i,0,fun _=>rfl,⟨⟨⟨rfl,rfl,rfl,rfl,3,rfl⟩,rfl,aG (by rw[ll]),rf,tv⟩,⟨⟨rfl,rfl⟩,⟨rfl,rfl,3,rfl⟩,tv⟩,rfl,rfl⟩,ad3 _,?_⟩
 rintro i hi
 obtain⟨jE,ct⟩:=Qv hdp i
 refine adN (fun h=>?_) fun h=>?_
 ·have ay:i<d.length:=by have:=ad5 h;omega
  obtain⟨x,hx⟩:∃x,d[i]?=some x:=⟨_,ace ay⟩
  have ix:(d.map ax)[(i:Int).toNat]?=some (ax x):=by rw[adQ];simp[hx]
  have rX:=ah.1 (hdp x (adR hx))
  have dD:=Gj hx
  refine⟨fun _=>by omega,ax x,fun _=>ix,?_⟩
  generalize Ob d i=s at*
  have ls:(s.map ax).length=s.length:=adO ..
  obtain⟨y,hy⟩:∃y,y=s.getLastD ⟨0,0,0⟩:=⟨_,rfl⟩
  have du:bw (decide (0<(((s.map ax).length:Nat):Int))) true=true->0<s.length:=fun h=>by have:=ad5 (gL h);omega
  have ia:∀h:bw (decide (0<(((s.map ax).length:Nat):Int))) true=true,-9223372036854775808<=(((s.map ax).length:Nat):Int)-1/\(((s.map ax).length:Nat):Int)-1<=9223372036854775807:=fun h=>by omega
  have ib:∀h:bw (decide (0<(((s.map ax).length:Nat):Int))) true=true,0<=(((s.map ax).length:Nat):Int)-1/\(((s.map ax).length:Nat):Int)-1<(((s.map ax).length:Nat):Int):=fun h=>by have:=du h;omega
  have ie:∀h:bw (decide (0<(((s.map ax).length:Nat):Int))) true=true,(s.map ax)[((((s.map ax).length:Nat):Int)-1).toNat]?=some (ax y):=fun h=>by
   have:=(oL (du h)).1
   rw[adQ,show((((s.map ax).length:Nat):Int)-1).toNat=s.length-1 by omega,this,hy];rfl
  have Oa:∀h:bw (decide (0<(((s.map ax).length:Nat):Int))) true=true,0<=y.f/\0<=y.a/\1<=y.n/\y.a+y.n<=1099511627776:=fun h=>ah.1 (jE y (by rw[hy];exact adR (oL (du h)).1))
  have Ex:bw (bif decide (0<(((s.map ax).length:Nat):Int))then y.f==x.f else false) true=true->bw (decide (0<(((s.map ax).length:Nat):Int))) true=true:=fun h=>qX (dc (gL h)).1
  repeat refine gG ?_
  refine⟨fun h=>ia h,?_⟩
  repeat refine gG ?_
  refine⟨fun h=>ib h,?_⟩
  repeat refine gG ?_
  refine⟨ax y,fun h=>ie h,?_⟩
  repeat refine gG ?_
  refine⟨fun h=>ia (Ex h),?_⟩
  repeat refine gG ?_
  refine⟨fun h=>ib (Ex h),?_⟩
  repeat refine gG ?_
  refine⟨ax y,fun h=>ie (Ex h),?_⟩
  repeat refine gG ?_
  refine⟨fun h=>ia (Ex h),?_⟩
  repeat refine gG ?_
  refine⟨fun h=>ib (Ex h),?_⟩
  repeat refine gG ?_
  refine⟨ax y,fun h=>ie (Ex h),?_⟩
  repeat refine gG ?_
  refine⟨fun h=>(by have:=Oa (Ex h);omega),?_⟩
  repeat refine gG ?_
  refine .inl ⟨by kernel_rfl,adN (fun h=>?_) fun h=>?_⟩
  ·have h1:=dc h
   have h2:=dc h1.1
   have hb:=qX h2.1
   have Oa:=Oa hb
   have hle:=ad5 h1.2
   have ei:((((s.map ax).length:Nat):Int)-1).toNat=s.length-1:=by omega
   have e:qW s x=s.set (s.length-1) ⟨y.f,y.a,if y.n<x.a+x.n-y.a then x.a+x.n-y.a else y.n⟩:=by
    have Af:=(oL (du hb)).2
    rw[<-hy]at Af
    have hc:y.f=x.f/\x.a<=y.a+y.n:=⟨beq_iff_eq.1 h2.2,hle⟩
    unfold qW
    rw[Af]
    simp only
    rw[if_pos hc,show max y.n (x.a+x.n-y.a)=if y.n<x.a+x.n-y.a then x.a+x.n-y.a else y.n by split<;>omega]
    conv=>rhs;rw[ic Af]
    have:(s.dropLast++[y]).length-1=s.dropLast.length:=by simp
    simp
   rw[e]at dD
   refine⟨fun _=>ia hb,fun _=>ib hb,ax y,fun _=>ie hb,fun _=>by omega,ax y,fun _=>ie hb,fun _=>by omega,?_⟩
   refine⟨[I (if y.n<x.a+x.n-y.a then x.a+x.n-y.a else y.n)],⟨rf,tv⟩,ax y,ie hb,?_⟩
   refine .inl ⟨by kernel_rfl,?_⟩
   exact⟨fun _=>by omega,i+1,jn rfl (by simp only[dD,List.map_set,<-ei];rfl) rfl rfl,ay,mlt ay⟩
  ·have e:qW s x=s++[x]:=by
    unfold qW
    by_cases hp:0<s.length
    ·have Af:=(oL hp).2
     rw[<-hy]at Af
     rw[Af]
     simp only
     rw[if_neg]
     intro hc
     exact mc h ⟨by rw[aeb (by omega),hc.1];simp,aeb hc.2⟩
    ·have:s=[]:=List.length_eq_zero_iff.1 (by omega)
     subst this;rfl
   rw[e]at dD
   refine .inl ⟨[ax x],rfl,⟨rf,rf,rf,tv⟩,(by simp;rfl),?_⟩
   refine .inr ⟨[ax x],bV.refl _,bL (by simp;omega),by simp;omega,?_⟩
   exact⟨fun _=>by omega,i+1,jn rfl (by simp only[dD,ad7];rfl) rfl rfl,ay,mlt ay⟩
 ·have he:i=d.length:=by have:=ad6 h;omega
  subst he
  have:Ob d d.length=cL l:=by unfold Ob;rw[ad4,gK]
  rw[this]
  exact⟨_,_,⟨rfl,rfl⟩,by kernel_rfl,⟨n0 _,tv⟩,tv⟩
theorem nh(l:List Lt)(hp:∀x∈l,aB x=true)(hl:l.length<=5000):aR Tryz.prog 214 [aQ l] [aQ (cL l)]:=y9 (MU l hp hl)
end
section
open Go.TM
variable [bj]
theorem za:PN.Le (.sl 9 (dA.map ij)):=DV.VD rfl fun i x y hx hy=>by
 have hi:i<5:=(adP.1 hy).1
 have hc:∀d,d∈y.cells->d.ao=true:=by
  rw[adQ]at hy
  cases hr:dA[i]? with
  |none=>rw[hr]at hy;cases hy
  |some r=>
   rw[hr]at hy;injection hy with hy;subst hy
   intro d hd
   simp only[ij,DV.cells,adV,List.mem_nil_iff,or_false]at hd
   rcases hd with rfl|rfl|rfl|rfl|rfl|rfl|rfl|rfl|rfl<;>rfl
 refine⟨?_,hc⟩
 match i,hi with
 |0,_=>injection hx with hx;injection hy with hy;subst hx;subst hy;exact⟨rf,rf,rf,rf,rf,rf,DV.aL 2,rf,DV.aL 2,tv⟩
 |1,_=>injection hx with hx;injection hy with hy;subst hx;subst hy;exact⟨rf,rf,rf,rf,rf,rf,rf,rf,rf,tv⟩
 |2,_=>injection hx with hx;injection hy with hy;subst hx;subst hy;exact⟨rf,rf,rf,rf,rf,rf,rf,rf,DV.aL 2,tv⟩
 |3,_=>injection hx with hx;injection hy with hy;subst hx;subst hy;exact⟨rf,rf,rf,rf,rf,rf,rf,rf,DV.aL 2,tv⟩
 |4,_=>injection hx with hx;injection hy with hy;subst hx;subst hy;exact⟨rf,rf,rf,rf,rf,rf,rf,rf,DV.aL 2,tv⟩
theorem MV(sh:Int)(h:0<=sh/\sh<=11):aj Tryz.prog 85 [.dv (I sh),cx FG] 0 [] 2 [.ptr 1 0,.dv (I 0)] [(1,.cells (.dv (I sh)::eP iG++[.dv .aw,.dv .aw,.dv .aw]))]:=by
 refine cO Tryz.func85 rfl (by kernel_rfl) ?_
 repeat refine gG ?_
 refine adN (fun hc=>?_) fun _=>?_
 ·simp[bw]at hc;omega
 refine .inl ⟨_,fun _=>FH.ok,?_⟩
 refine adN (fun h=>by cases h) fun _=>?_
 exact⟨_,_,⟨rfl,rfl⟩,by kernel_rfl,⟨rfl,rf,tv⟩,⟨rf,rf,za,rf,rf,rf,rf,rf,tv⟩,tv⟩
end
section
open Go.TM
variable [bj]
def abt:DV:=.agg iG
theorem bM{n:Nat}(h:n<=1000000):n*(nth na (nth na 49).elem).bytes<=140737488355328:=by
 rw[show(nth na (nth na 49).elem).bytes=56 by kernel_rfl];omega
theorem Qw{s:cG}:(DV.agg [I s.id,I s.kind,I s.iF,I s.tick,I s.aM,I s.times,oY (.aD 5 (s.mv.map aq))]).Le (aP s):=DV.Le.of_eq (by
 show DV.agg [_,_,_,_,_,_,.sl 5 (uX (s.mv.map aq))]=_
 rw[dV fun _=>rfl];rfl)
def v7(a times:Int)(l:List Ky):List c5:=l.map fun p=>⟨a,0,p.1,p.2*times,[]⟩
def v8(a times:Int)(l:List Ky):List c5:=l.map fun p=>⟨0,a,p.1,p.2*times,[]⟩
theorem pV{l:List Ky}{i:Nat}{p:Ky}(h:l[i]?=some p):(l.map fI)[(i:Int).toNat]?=some (fI p):=by rw[adQ];simp[h]
theorem BO(aM times a t:Int)(failed:Bool)(r:S1)(hr:dA[aM.toNat]?=some r)(h0:0<=aM/\aM<=4)(ht:0<=times/\times<=1000):aR Tryz.prog 87 [abt,I aM,B failed,I times,I a,I t] [aP ⟨0,4,a,t,bif failed then -2-aM else aM,times,v7 a times r.tk++v8 a times (bif failed then r.bk else r.gv)⟩]:=by
 have hrm:r∈dA:=adR hr
 have hlen:r.tk.length<=5/\r.gv.length<=5/\r.bk.length<=5/\(∀p∈r.tk,0<=p.2/\p.2<=10)/\(∀p∈r.gv,0<=p.2/\p.2<=10)/\∀p∈r.bk,0<=p.2/\p.2<=10:=by
  revert hrm
  generalize r=x
  intro hx
  simp only[dA,adV,List.mem_nil_iff,or_false]at hx
  rcases hx with rfl|rfl|rfl|rfl|rfl<;>simp
 have ir:(dA.map ij)[aM.toNat]?=some (ij r):=by rw[adQ,hr];rfl
 have hr:=hlen
 refine pO Tryz.func87 rfl (by kernel_rfl) rfl ?_
 refine⟨ij r,fun _=>⟨h0.1,ir⟩,?_⟩
 refine adN (fun hf=>?_) fun hf=>?_
 ·have hf:failed=true:=hf
  subst hf
  refine⟨fun _=>by omega,ij r,fun _=>⟨h0.1,ir⟩,?_⟩
  refine⟨ij r,fun _=>⟨h0.1,ir⟩,?_⟩
  refine⟨Nat,fun i=>⟨4,[(3,.dv (I times)),(4,.dv (I a)),(12,.ptr 1 0),(13,.ptr 2 0),(14,.dv (.sl 2 (r.bk.map fI))),(15,.dv (.sl 2 (r.tk.map fI))),(16,.dv (I i))],[(1,.cells [.dv (I 0),.dv (I 0),.dv (I 0),.dv (I 0),.dv (I 0),.dv (I 0),.dv .aw]),(2,.cells [.dv (I 0),.dv (I 4),.dv (I a),.dv (I t),.dv (I (-2-aM)),.dv (I times),.own 3 0 0 []]),(3,.tree 0 0 (.aD 5 ((v7 a times (r.tk.take i)).map aq)))]⟩,fun i=>i<=r.tk.length,fun i=>r.tk.length-i,0,fun _=>rfl,⟨⟨rf,rf,rfl,rfl,rf,rf,rf,tv⟩,⟨⟨rf,rf,rf,rf,rf,rf,rf,tv⟩,⟨rf,rf,rf,rf,rf,rf,⟨rfl,rfl,rfl,rfl,5,rfl⟩,tv⟩,⟨rfl,rfl,5,rfl⟩,tv⟩,rfl,rfl⟩,ad3 _,?_⟩
  rintro i hi
  refine adN (fun h=>?_) fun h=>?_
  ·-- one taken
   have ay:i<r.tk.length:=by have:=ad5 h;rw[adO]at this;omega
   obtain⟨p,hp⟩:∃p,r.tk[i]?=some p:=⟨_,ace ay⟩
   have hb:=hlen.2.2.2.1 p (adR hp)
   have m1:0<=p.2*times:=Int.mul_nonneg hb.1 ht.1
   have m2:p.2*times<=10*1000:=Int.mul_le_mul hb.2 ht.2 ht.1 (by omega)
   have dD:v7 a times (r.tk.take (i+1))=v7 a times (r.tk.take i)++[(⟨a,0,p.1,p.2*times,[]⟩:c5)]:=by
    unfold v7;rw[adY,hp,ad7];rfl
   have il:(0:Int)<=i:=by omega
   refine⟨fI p,fun _=>⟨il,pV hp⟩,fI p,fun _=>⟨il,pV hp⟩,fun _=>by omega,?_⟩
   refine .inl ⟨[aq (⟨a,0,p.1,p.2*times,[]⟩:c5)],rfl,⟨rf,rf,rf,rf,DV.aL 3,tv⟩,(by simp;rfl),?_⟩
   refine .inr ⟨[aq (⟨a,0,p.1,p.2*times,[]⟩:c5)],bV.refl _,bM (by simp[v7,v8];omega),by simp[v7,v8];omega,?_⟩
   refine⟨by kernel_rfl,?_⟩
   exact⟨fun _=>by omega,i+1,jn rfl (by simp only[dD,ad7,aef];rfl) rfl rfl,ay,mlt ay⟩
  have he:i=r.tk.length:=by have:=ad6 h;rw[adO]at this;omega
  subst he
  rw[ad4]
  refine⟨Nat,fun i=>⟨4,[(3,.dv (I times)),(4,.dv (I a)),(12,.ptr 1 0),(13,.ptr 2 0),(14,.dv (.sl 2 (r.bk.map fI))),(15,.dv (.sl 2 (r.tk.map fI))),(17,.dv (I i))],[(1,.cells [.dv (I 0),.dv (I 0),.dv (I 0),.dv (I 0),.dv (I 0),.dv (I 0),.dv .aw]),(2,.cells [.dv (I 0),.dv (I 4),.dv (I a),.dv (I t),.dv (I (-2-aM)),.dv (I times),.own 3 0 0 []]),(3,.tree 0 0 (.aD 5 ((v7 a times r.tk++v8 a times (r.bk.take i)).map aq)))]⟩,fun i=>i<=r.bk.length,fun i=>r.bk.length-i,0,fun _=>rfl,jn rfl (by simp only[List.take_zero,v8,List.map_nil,List.append_nil];rfl) rfl rfl,ad3 _,?_⟩
  clear hi h
  rintro i hi
  refine adN (fun h=>?_) fun h=>?_
  ·-- one given
   have ay:i<r.bk.length:=by have:=ad5 h;rw[adO]at this;omega
   obtain⟨p,hp⟩:∃p,r.bk[i]?=some p:=⟨_,ace ay⟩
   have hb:=hlen.2.2.2.2.2 p (adR hp)
   have m1:0<=p.2*times:=Int.mul_nonneg hb.1 ht.1
   have m2:p.2*times<=10*1000:=Int.mul_le_mul hb.2 ht.2 ht.1 (by omega)
   have dD:v8 a times (r.bk.take (i+1))=v8 a times (r.bk.take i)++[(⟨0,a,p.1,p.2*times,[]⟩:c5)]:=by
    unfold v8;rw[adY,hp,ad7];rfl
   have il:(0:Int)<=i:=by omega
   refine⟨fI p,fun _=>⟨il,pV hp⟩,fI p,fun _=>⟨il,pV hp⟩,fun _=>by omega,?_⟩
   refine .inl ⟨[aq (⟨0,a,p.1,p.2*times,[]⟩:c5)],rfl,⟨rf,rf,rf,rf,DV.aL 3,tv⟩,(by simp;rfl),?_⟩
   refine .inr ⟨[aq (⟨0,a,p.1,p.2*times,[]⟩:c5)],bV.refl _,bM (by simp[v7,v8];omega),by simp[v7,v8];omega,?_⟩
   refine⟨by kernel_rfl,?_⟩
   exact⟨fun _=>by omega,i+1,jn rfl (by simp only[dD,ad7,aef];rfl) rfl rfl,ay,mlt ay⟩
  have he:i=r.bk.length:=by have:=ad6 h;rw[adO]at this;omega
  subst he
  rw[ad4]
  exact⟨Qw (s:=⟨0,4,a,t,-2-aM,times,v7 a times r.tk++v8 a times r.bk⟩),tv⟩
 ·have hf:failed=false:=hf
  subst hf
  skip
  refine⟨ij r,fun _=>⟨h0.1,ir⟩,?_⟩
  refine⟨Nat,fun i=>⟨4,[(3,.dv (I times)),(4,.dv (I a)),(12,.ptr 1 0),(13,.ptr 2 0),(14,.dv (.sl 2 (r.gv.map fI))),(15,.dv (.sl 2 (r.tk.map fI))),(16,.dv (I i))],[(1,.cells [.dv (I 0),.dv (I 0),.dv (I 0),.dv (I 0),.dv (I 0),.dv (I 0),.dv .aw]),(2,.cells [.dv (I 0),.dv (I 4),.dv (I a),.dv (I t),.dv (I (aM)),.dv (I times),.own 3 0 0 []]),(3,.tree 0 0 (.aD 5 ((v7 a times (r.tk.take i)).map aq)))]⟩,fun i=>i<=r.tk.length,fun i=>r.tk.length-i,0,fun _=>rfl,⟨⟨rf,rf,rfl,rfl,rf,rf,rf,tv⟩,⟨⟨rf,rf,rf,rf,rf,rf,rf,tv⟩,⟨rf,rf,rf,rf,rf,rf,⟨rfl,rfl,rfl,rfl,5,rfl⟩,tv⟩,⟨rfl,rfl,5,rfl⟩,tv⟩,rfl,rfl⟩,ad3 _,?_⟩
  rintro i hi
  refine adN (fun h=>?_) fun h=>?_
  ·-- one taken
   have ay:i<r.tk.length:=by have:=ad5 h;rw[adO]at this;omega
   obtain⟨p,hp⟩:∃p,r.tk[i]?=some p:=⟨_,ace ay⟩
   have hb:=hlen.2.2.2.1 p (adR hp)
   have m1:0<=p.2*times:=Int.mul_nonneg hb.1 ht.1
   have m2:p.2*times<=10*1000:=Int.mul_le_mul hb.2 ht.2 ht.1 (by omega)
   have dD:v7 a times (r.tk.take (i+1))=v7 a times (r.tk.take i)++[(⟨a,0,p.1,p.2*times,[]⟩:c5)]:=by
    unfold v7;rw[adY,hp,ad7];rfl
   have il:(0:Int)<=i:=by omega
   refine⟨fI p,fun _=>⟨il,pV hp⟩,fI p,fun _=>⟨il,pV hp⟩,fun _=>by omega,?_⟩
   refine .inl ⟨[aq (⟨a,0,p.1,p.2*times,[]⟩:c5)],rfl,⟨rf,rf,rf,rf,DV.aL 3,tv⟩,(by simp;rfl),?_⟩
   refine .inr ⟨[aq (⟨a,0,p.1,p.2*times,[]⟩:c5)],bV.refl _,bM (by simp[v7,v8];omega),by simp[v7,v8];omega,?_⟩
   refine⟨by kernel_rfl,?_⟩
   exact⟨fun _=>by omega,i+1,jn rfl (by simp only[dD,ad7,aef];rfl) rfl rfl,ay,mlt ay⟩
  have he:i=r.tk.length:=by have:=ad6 h;rw[adO]at this;omega
  subst he
  rw[ad4]
  refine⟨Nat,fun i=>⟨4,[(3,.dv (I times)),(4,.dv (I a)),(12,.ptr 1 0),(13,.ptr 2 0),(14,.dv (.sl 2 (r.gv.map fI))),(15,.dv (.sl 2 (r.tk.map fI))),(17,.dv (I i))],[(1,.cells [.dv (I 0),.dv (I 0),.dv (I 0),.dv (I 0),.dv (I 0),.dv (I 0),.dv .aw]),(2,.cells [.dv (I 0),.dv (I 4),.dv (I a),.dv (I t),.dv (I (aM)),.dv (I times),.own 3 0 0 []]),(3,.tree 0 0 (.aD 5 ((v7 a times r.tk++v8 a times (r.gv.take i)).map aq)))]⟩,fun i=>i<=r.gv.length,fun i=>r.gv.length-i,0,fun _=>rfl,jn rfl (by simp only[List.take_zero,v8,List.map_nil,List.append_nil];rfl) rfl rfl,ad3 _,?_⟩
  clear hi h
  rintro i hi
  refine adN (fun h=>?_) fun h=>?_
  ·-- one given
   have ay:i<r.gv.length:=by have:=ad5 h;rw[adO]at this;omega
   obtain⟨p,hp⟩:∃p,r.gv[i]?=some p:=⟨_,ace ay⟩
   have hb:=hlen.2.2.2.2.1 p (adR hp)
   have m1:0<=p.2*times:=Int.mul_nonneg hb.1 ht.1
   have m2:p.2*times<=10*1000:=Int.mul_le_mul hb.2 ht.2 ht.1 (by omega)
   have dD:v8 a times (r.gv.take (i+1))=v8 a times (r.gv.take i)++[(⟨0,a,p.1,p.2*times,[]⟩:c5)]:=by
    unfold v8;rw[adY,hp,ad7];rfl
   have il:(0:Int)<=i:=by omega
   refine⟨fI p,fun _=>⟨il,pV hp⟩,fI p,fun _=>⟨il,pV hp⟩,fun _=>by omega,?_⟩
   refine .inl ⟨[aq (⟨0,a,p.1,p.2*times,[]⟩:c5)],rfl,⟨rf,rf,rf,rf,DV.aL 3,tv⟩,(by simp;rfl),?_⟩
   refine .inr ⟨[aq (⟨0,a,p.1,p.2*times,[]⟩:c5)],bV.refl _,bM (by simp[v7,v8];omega),by simp[v7,v8];omega,?_⟩
   refine⟨by kernel_rfl,?_⟩
   exact⟨fun _=>by omega,i+1,jn rfl (by simp only[dD,ad7,aef];rfl) rfl rfl,ay,mlt ay⟩
  have he:i=r.gv.length:=by have:=ad6 h;rw[adO]at this;omega
  subst he
  rw[ad4]
  exact⟨Qw (s:=⟨0,4,a,t,aM,times,v7 a times r.tk++v8 a times r.gv⟩),tv⟩
end
section
open Go.TM
theorem vf{l:List DV}{z x:DV}{i:Nat}(h:l[i]?=some x):(l.take i++List.replicate (l.length-i) z).set i x=l.take (i+1)++List.replicate (l.length-(i+1)) z:=by
 have hi:=(adP.1 h).1
 have:l.length-i=(l.length-(i+1))+1:=by omega
 rw[List.set_append,if_neg (by rw[ad9];omega),adY,h,this,List.replicate_succ]
 simp[Nat.min_eq_left (Nat.le_of_lt hi)]
theorem zb{l:List DV}{z:DV}{i:Nat}(h:i<l.length):(l.take i++List.replicate (l.length-i) z)[i]?=some z:=by
 rw[List.getElem?_append_right (by rw[ad9];omega),List.getElem?_replicate,if_pos (by rw[ad9];omega)]
theorem zd(l:List DV)(z:DV)(i:Nat)(h:i<=l.length):(l.take i++List.replicate (l.length-i) z).length=l.length:=by simp;omega
variable [bj]
theorem Yb{m:c5}:(DV.agg [I m.fr,I m.to,I m.it,I m.n,oY (.aD 3 (m.ps.map ax))]).Le (aq m):=DV.Le.of_eq (by
 show DV.agg [_,_,_,_,.sl 3 (uX (m.ps.map ax))]=_
 rw[dV fun _=>rfl];rfl)
theorem Yc{f:bp}:(DV.agg [I f.id,I f.step,I f.kind,I f.tick,I f.iF,I f.fr,I f.to,I f.it,I f.n,oY (.aD 3 (f.ps.map ax)),oY (.aD 1 (f.md.map I))]).Le (ar f):=DV.Le.of_eq (by
 show DV.agg [_,_,_,_,_,_,_,_,_,.sl 3 (uX (f.ps.map ax)),.sl 1 (uX (f.md.map I))]=_
 rw[dV fun _=>rfl,dV fun _=>rfl];rfl)
theorem zf{α:Type}(sz:Nat){e:α->DV}(h:∀x,oY (e x)=e x){l:List α}:(oY (.aD sz (l.map e))).Le (.sl sz (l.map e)):=DV.Le.of_eq (by
 show DV.sl sz (uX (l.map e))=_
 rw[dV h])
theorem Gk(l:List Int)(hl:l.length<=1000000):aj Tryz.prog 93 [.dv (Ints l)] 0 [] 1 [.own 0 0 0 []] [(0,.tree 0 0 (.aD 1 (l.map I)))]:=by
 refine cO Tryz.func93 rfl (by kernel_rfl) ?_
 by_cases hn:l=[]
 ·subst hn
  refine .inl ⟨⟨_,_,⟨rfl,rfl⟩,by kernel_rfl,⟨⟨rfl,rfl,rfl,rfl,1,rfl⟩,tv⟩,⟨rfl,rfl,1,rfl⟩,tv⟩,?_⟩
  refine .inr (.inl ⟨[],rfl,tv,(fun _ h=>by cases h),?_⟩)
  refine .inr ⟨_,bV.refl _,bI (by simp),by simp,?_⟩
  exact ext (by kernel_rfl) rfl rfl
 ·refine .inr ⟨fun h=>hn (List.map_eq_nil_iff.1 h),adN (fun h=>by cases h) fun _=>?_⟩
  refine .inr (.inl ⟨[],rfl,tv,(fun _ h=>by cases h),?_⟩)
  refine .inr ⟨_,bV.refl _,bI (by simp;omega),by simp;omega,?_⟩
  exact ext (by kernel_rfl) rfl rfl
theorem MW(m:c5)(hl:m.ps.length<=1000000):aR Tryz.prog 92 [aq m] [aq m]:=by
 refine pO Tryz.func92 rfl (by kernel_rfl) rfl ?_
 refine .inr (cl [] (eK m.ps hl) (by kernel_rfl) rfl rfl ?_)
 exact⟨Yb,tv⟩
theorem vg(f:bp)(hl:f.ps.length<=1000000)(hm:f.md.length<=1000000):aR Tryz.prog 39 [ar f] [ar f]:=by
 refine pO Tryz.func39 rfl (by kernel_rfl) rfl ?_
 refine .inr (cl [] (eK f.ps hl) (by kernel_rfl) rfl rfl ?_)
 refine .inr (cl [] (Gk f.md hm) (by kernel_rfl) rfl rfl ?_)
 exact⟨by kernel_rfl,Yc,tv⟩
theorem abu(l:List c5)(hl:l.length<=900000)(hp:∀m∈l,m.ps.length<=1000000):aj Tryz.prog 91 [.dv (.sl 5 (l.map aq)),.dv (.fn 92 [])] 0 [] 0 [.dv (.sl 5 (l.map aq))] []:=by
 have ll:(l.map aq).length=l.length:=adO ..
 refine cO Tryz.func91 rfl (by kernel_rfl) ?_
 refine adN (fun h=>?_) fun h=>?_
 ·have hz:l=[]:=by have:=beq_iff_eq.1 h;exact List.length_eq_zero_iff.1 (by omega)
  subst hz
  exact⟨_,_,⟨rfl,rfl⟩,by kernel_rfl,⟨DV.aL 5,tv⟩,tv⟩
 refine⟨.agg [I 0,I 0,I 0,I 0,.aw],⟨rf,rf,rf,rf,rf,tv⟩,by omega,by omega,?_,by omega,false,(fun h=>by cases h),?_⟩
 ·have hb:=bM (n:=l.length) (by omega)
  rw[ll];exact Int.le_trans (Int.le_of_eq (Int.natCast_mul _ _).symm) (Int.ofNat_le.2 hb)
 have e0:List.replicate (((l.map aq).length:Int)).toNat (.agg [I 0,I 0,I 0,I 0,.aw])=(l.map aq).take 0++List.replicate ((l.map aq).length-0) (.agg [I 0,I 0,I 0,I 0,.aw]):=by simp
 rw[e0]
 refine⟨Nat,fun i=>⟨1,[(1,.dv (.fn 92 [])),(5,.own 0 0 0 []),(14,.dv (.sl 5 (l.map aq))),(15,.dv (I l.length)),(16,.dv (I i))],[(0,.tree 0 0 (.aD 5 ((l.map aq).take i++List.replicate ((l.map aq).length-i) (.agg [I 0,I 0,I 0,I 0,.aw]))))]⟩,fun i=>i<=l.length,fun i=>l.length-i,0,fun _=>rfl,jn (by simp only[ll];rfl) rfl rfl rfl,ad3 _,?_⟩
 rintro i hi
 refine adN (fun h=>?_) fun h=>?_
 ·have ay:i<l.length:=by have:=ad5 h;omega
  obtain⟨x,hx⟩:∃x,l[i]?=some x:=⟨_,ace ay⟩
  have ix:(l.map aq)[(i:Int).toNat]?=some (aq x):=by rw[adQ];simp[hx]
  have hlx:(l.map aq)[i]?=some (aq x):=by rw[adQ,hx];rfl
  have Qr:=vf (z:=.agg [I 0,I 0,I 0,I 0,.aw]) hlx
  have km:=zd (l.map aq) (.agg [I 0,I 0,I 0,I 0,.aw]) i (by omega)
  have hfg:=zb (z:=.agg [I 0,I 0,I 0,I 0,.aw]) (show i<(l.map aq).length by omega)
  refine⟨aq x,fun _=>⟨by omega,ix⟩,?_⟩
  refine .inl ⟨_,fun _=>(MW x (hp x (adR hx))).ok,?_⟩
  refine⟨fun _=>⟨by omega,by rw[km];omega⟩,(aq x).cells,⟨rf,rf,rf,rf,rf,tv⟩,.agg [I 0,I 0,I 0,I 0,.aw],hfg,?_⟩
  exact⟨fun _=>by omega,i+1,jn rfl (by simp only[<-Qr];rfl) rfl rfl,ay,mlt ay⟩
 ·have he:i=l.length:=by have:=ad6 h;omega
  subst he
  have Gl:(l.map aq).take l.length++List.replicate ((l.map aq).length-l.length) (.agg [I 0,I 0,I 0,I 0,.aw])=(l.map aq):=by rw[<-ll,ad4];simp
  rw[Gl]
  exact⟨_,_,⟨rfl,rfl⟩,by kernel_rfl,⟨zf 5 (fun _=>rfl),tv⟩,tv⟩
theorem BP(s:cG)(hl:s.mv.length<=900000)(hp:∀m∈s.mv,m.ps.length<=1000000):aR Tryz.prog 36 [aP s] [aP s]:=by
 refine pO Tryz.func36 rfl (by kernel_rfl) rfl ?_
 refine .inr ⟨[],[.dv (.sl 5 (s.mv.map aq)),.dv (.fn 92 [])],[],0,_,[],abu s.mv hl hp,by kernel_rfl,by kernel_rfl,⟨rf,rf,tv⟩,tv,?_⟩
 exact⟨rf,tv⟩
end
section
open Go.TM
abbrev IM(β:Type):=List (Int×β)
structure PL where
 sh:Int
 st:SM
 bZ:IM Int
 sp:List cG
 fl:List bp
 imp:IM (List Lt)
 ret:IM (List Lt)
def sa(k:Ky):DV:=.agg [I k.1,I k.2]
def eI(n:Int):DV:=I n
def oZ(m:SM):List DV:=eM sa (fun l:List Lt=>aQ l) m
def j4(m:IM Int):List DV:=eM eI eI m
def ni(m:IM (List Lt)):List DV:=eM eI (fun l:List Lt=>aQ l) m
theorem ja(a b:Ky):tZ (sa a) (sa b)=decide (a=b):=by
 obtain⟨a1,a2⟩:=a
 obtain⟨b1,b2⟩:=b
 rw[aek]
 simp[sa,tZ,B8,EE]
theorem eT(a b:Int):tZ (eI a) (eI b)=decide (a=b):=by
 rw[aek]
 simp[eI,tZ,EE]
def plC(P:PL):List AV:=.dv (I P.sh)::eP iG++[.own 1 0 0 [],.own 2 0 0 [],.own 3 0 0 [],.own 4 0 0 [],.own 5 0 0 [],.own 6 0 0 []]
def lF(P:PL):ad:=[(0,.cells (plC P)),(1,.tree 0 0 (.omap eE (oZ P.st))),(2,.tree 0 0 (.omap bX (j4 P.bZ))),(3,.tree 0 0 (.aD 7 (P.sp.map aP))),(4,.tree 0 0 (.aD 11 (P.fl.map ar))),(5,.tree 0 0 (.omap bX (ni P.imp))),(6,.tree 0 0 (.omap bX (ni P.ret)))]
def Gm(m:IM Int)(it:Int):Int:=(aU m it).getD 0
variable [bj]
theorem nj:uE Tryz.prog 110 eE:=A7 fO rfl
theorem gf:uE Tryz.prog 3 bX:=E9 fO rfl
theorem pW(P:PL)(a i:Int)(hl:(bC P.st (a,i)).length<=1000000):aj Tryz.prog 26 [.ptr 0 0,.dv (I a),.dv (I i)] 7 (lF P) 0 [.dv (aQ (bC P.st (a,i)))] (lF P):=by
 have hg:=dU (ev:=fun l:List Lt=>aQ l) ja P.st (a,i)
 refine cO Tryz.func26 rfl (by kernel_rfl) ?_
 refine⟨nj,sa (a,i),rfl,rfl,?_⟩
 unfold bC at hl⊢
 cases h:aU P.st (a,i)with
 |none=>
  rw[h]at hg hl
  refine⟨.aw,false,fun _=>hg,fun _=>rfl,rfl,?_⟩
  refine .inr ⟨[],[.dv (aQ [])],[],1,_,_,eK [] (by simp),by kernel_rfl,by kernel_rfl,⟨DV.aL 3,tv⟩,tv,?_⟩
  exact⟨_,_,⟨rfl,rfl⟩,by kernel_rfl,⟨n0 _,tv⟩,aZ (k:=lF P) rfl⟩
 |some l=>
  rw[h]at hg hl
  refine⟨aQ l,true,fun _=>hg,fun h=>(by cases h),rfl,?_⟩
  refine .inr (cl [] (eK l hl) (by kernel_rfl) rfl rfl ?_)
  exact⟨_,_,⟨rfl,rfl⟩,by kernel_rfl,⟨n0 _,tv⟩,aZ (k:=lF P) rfl⟩
theorem Gn(P:PL)(i:Int):aj Tryz.prog 18 [.ptr 0 0,.dv (I i)] 7 (lF P) 0 [.dv (I (Gm P.bZ i))] (lF P):=by
 have hg:=dU (ev:=eI) eT P.bZ i
 refine cO Tryz.func18 rfl (by kernel_rfl) ?_
 refine⟨gf,eI i,rfl,rfl,?_⟩
 unfold Gm
 cases h:aU P.bZ i with
 |none=>
  rw[h]at hg
  refine⟨I 0,false,fun _=>hg,fun _=>rfl,rfl,?_⟩
  exact ext (by kernel_rfl) rfl rfl
 |some l=>
  rw[h]at hg
  refine⟨I l,true,fun _=>hg,fun h=>(by cases h),rfl,?_⟩
  exact ext (by kernel_rfl) rfl rfl
theorem MX(P:PL)(hn:P.sp.length<=1000000):aj Tryz.prog 143 [.ptr 0 0] 7 (lF P) 0 [.dv (I (eW P.sp))] (lF P):=by
 have lp:(P.sp.map aP).length=P.sp.length:=adO ..
 refine cO Tryz.func143 rfl (by kernel_rfl) ?_
 refine adN (fun h=>?_) fun h=>?_
 ·have hz:P.sp=[]:=by have:=beq_iff_eq.1 h;exact List.length_eq_zero_iff.1 (by omega)
  rw[show eW P.sp=0 by rw[hz];rfl]
  exact ext (by kernel_rfl) rfl rfl
 ·have c6:0<P.sp.length:=by have:=beq_eq_false_iff_ne.1 h;omega
  have hx:=ace (show P.sp.length-1<P.sp.length by omega)
  generalize P.sp[P.sp.length-1]=s at hx
  have acM:eW P.sp=s.tick:=by unfold eW;rw[List.getLast?_eq_getElem?,hx]
  have ix:(P.sp.map aP)[((((P.sp.map aP).length:Nat):Int)-1).toNat]?=some (aP s):=by rw[adQ,show((((P.sp.map aP).length:Nat):Int)-1).toNat=P.sp.length-1 by omega,hx];rfl
  refine⟨fun _=>by omega,fun _=>by omega,aP s,fun _=>ix,?_⟩
  rw[acM]
  exact⟨by kernel_rfl,ext (by kernel_rfl) rfl rfl⟩
end
section
open Go.TM
structure SeI where
 i:Nat
 j:Nat
theorem Dm{i j:Nat}(h:i+j<=1000000):IntKind.i64.wrap (IntKind.u64.wrap ((i:Int)+(j:Int))/2^min (Int.toNat 1) IntKind.u64.bits)=(((i+j)/2:Nat):Int):=by
 have e:min (Int.toNat 1) IntKind.u64.bits=1:=rfl
 rw[e,IntKind.wrap_u64,IntKind.wrap_i64]
 omega
def Wq(f:Nat)(bQ:List AV)(m:Nat)(K:ad)(q:SeI):cJ:=⟨m,[(1,.fn f bQ),(5,.dv (I q.i)),(6,.dv (I q.j))],K⟩
def Jd(set:List Lt)(x:Lt):Nat:=(set.takeWhile fun s=>!jV x s).length
theorem Qx{p:Lt->Bool}:∀{l:List Lt} {y:Lt},y∈l.takeWhile p->p y=true
 |[],y,h=>by cases h
 |x::l,y,h=>by
  rw[List.takeWhile_cons]at h
  split at h
  ·rename_i hx
   rcases adV.1 h with rfl|h
   ·exact hx
   ·exact Qx h
  ·cases h
theorem Je{set:List Lt}(hs:NS set)(x:Lt):Jd set x<=set.length/\(set.dropWhile fun s=>!jV x s)=set.drop (Jd set x)/\(∀i y,i<Jd set x->set[i]?=some y->jV x y=false)/\∀i y,Jd set x<=i->set[i]?=some y->jV x y=true:=by
 have e:=List.takeWhile_append_dropWhile (p:=fun s=>!jV x s) (l:=set)
 have hd:=(CS x set hs).2.1
 have hl:=congrArg List.length e
 rw[ad1]at hl
 have e2:(set.dropWhile fun s=>!jV x s)=set.drop (Jd set x):=by
  have h:=congrArg (List.drop (set.takeWhile fun s=>!jV x s).length) e
  rw[List.drop_left]at h
  exact h
 refine⟨by unfold Jd;omega,e2,fun i y hi hy=>?_,fun i y hi hy=>?_⟩
 ·rw[<-e,List.getElem?_append_left hi]at hy
  have:=Qx (adR hy)
  simpa using this
 ·refine hd y ?_
  rw[e2]
  refine adR (i:=i-Jd set x) ?_
  rw[List.getElem?_drop,show Jd set x+(i-Jd set x)=i by omega];exact hy
variable [bj]
def ZL(set:List Lt)(x:Lt):ad:=[(0,.cells [.dv (aQ set)]),(1,.cells (eP (ax x).cells))]
theorem MY(set:List Lt)(x y:Lt)(i:Nat)(hy:set[i]?=some y)(hb:0<=y.a/\y.a<=1099511627776/\0<=y.n/\y.n<=1099511627776):aj Tryz.prog 270 [.dv (I i),.ptr 0 0,.ptr 1 0] 2 (ZL set x) 0 [.dv (B (jV x y))] (ZL set x):=by
 have iy:(set.map ax)[(i:Int).toNat]?=some (ax y):=by rw[adQ];simp[hy]
 have i0:(0:Int)<=i:=by omega
 refine cO Tryz.func270 rfl (by kernel_rfl) ?_
 refine⟨ax y,fun _=>⟨i0,iy⟩,?_⟩
 repeat refine gG ?_
 refine⟨ax y,fun _=>⟨i0,iy⟩,?_⟩
 repeat refine gG ?_
 refine⟨ax y,fun _=>⟨i0,iy⟩,?_⟩
 repeat refine gG ?_
 refine⟨ax y,fun _=>⟨i0,iy⟩,?_⟩
 repeat refine gG ?_
 refine⟨fun _=>by omega,?_⟩
 repeat refine gG ?_
 refine⟨by kernel_rfl,?_⟩
 rw[show jV x y=(bif decide (x.f<y.f)then true else bif y.f==x.f then decide (x.a<y.a+y.n)else false)by
  unfold jV;rw[aek];simp]
 exact ext (by kernel_rfl) rfl rfl
theorem tF(set:List Lt)(x:Lt)(hs:NS set)(hb:lB set):aj Tryz.prog 116 [.dv (I set.length),.fn 270 [.ptr 0 0,.ptr 1 0]] 2 (ZL set x) 0 [.dv (I (Jd set x))] (ZL set x):=by
 obtain⟨hk,-,h1,h2⟩:=Je hs x
 obtain⟨hl,Kv⟩:=hb
 generalize Jd set x=k at*
 refine cO Tryz.func116 rfl (by kernel_rfl) ?_
 refine⟨SeI,Wq 270 [.ptr 0 0,.ptr 1 0] 2 (ZL set x),fun q=>q.i<=k/\k<=q.j/\q.j<=set.length,fun q=>q.j-q.i,⟨0,set.length⟩,fun _=>rfl,jn rfl rfl rfl rfl,⟨ad3 _,hk,aei _⟩,?_⟩
 rintro q ⟨p1,p2,p3⟩
 refine adN (fun ay=>?_) fun jd=>?_
 ·have ay:q.i<q.j:=by have:=ad5 ay;simp only[Int.ofNat_lt]at this;exact this
  refine⟨fun _=>by omega,?_⟩
  refine⟨fun _=>by omega,?_⟩
  obtain⟨y,hy⟩:∃y,set[(q.i+q.j)/2]?=some y:=⟨_,ace (by omega)⟩
  refine .inr ⟨[0,1],[.dv (I ((q.i+q.j)/2:Nat)),.ptr 0 0,.ptr 1 0],ZL set x,0,_,_,MY set x y _ hy (Kv y (adR hy)),by kernel_rfl,by kernel_rfl,⟨?_,rfl,rfl,tv⟩,⟨⟨rf,tv⟩,⟨rf,rf,rf,tv⟩,tv⟩,?_⟩
  ·rw[Dm (by omega)];exact rf
  rw[Dm (by omega)]
  refine adN (fun hb=>?_) fun hb=>?_
  ·have oU:(q.i+q.j)/2<k:=by
    rcases ad8 ((q.i+q.j)/2) k with h|h
    ·exact h
    ·have:=h2 _ _ h hy;rw[this]at hb;cases hb
   exact⟨fun _=>by omega,⟨(q.i+q.j)/2+1,q.j⟩,jn rfl rfl rfl rfl,⟨oU,p2,p3⟩,by simp only;omega⟩
  ·have Yd:k<=(q.i+q.j)/2:=by
    rcases ad8 ((q.i+q.j)/2) k with h|h
    ·have:=h1 _ _ h hy;rw[this]at hb;cases hb
    ·exact h
   exact⟨⟨q.i,(q.i+q.j)/2⟩,jn rfl rfl rfl rfl,⟨p1,Yd,by simp only;omega⟩,by simp only;omega⟩
 ·have jd:q.i=q.j:=by have:=ad6 jd;omega
  have FE:q.i=k:=by omega
  rw[<-FE]
  exact ext (by kernel_rfl) rfl rfl
end
section
open Go.TM
def Gp:Code->Option RC
 |.seq a b=>match Gp a with
  |some r=>some r
  |none=>Gp b
 |.cond _ a b=>match Gp a with
  |some r=>some r
  |none=>Gp b
 |.block _ c=>Gp c
 |.scope c=>Gp c
 |.loop c=>Gp c
 |.rangeFunc _ ps a b=>some ⟨ps,a,b⟩
 |_=>none
def Ag(f:Func):RC:=match f.body with
 |some c=>(match Gp c with
  |some r=>r
  |none=>⟨#[],.skip,.skip⟩)
 |none=>⟨#[],.skip,.skip⟩
abbrev ZZ:=List Lt×List Lt
def dI(x s:Lt):Int:=if 0<s.a-x.a then s.a-x.a else 0
def jk(x s:Lt):Int:=if s.a+s.n-(x.a+dI x s)<x.n-dI x s then s.a+s.n-(x.a+dI x s)else x.n-dI x s
def Oc(x s:Lt):Bool:=decide (0<x.n)&&(s.f==x.f&&decide (s.a<x.a+x.n))
theorem Dn{x s:Lt}{r:List Lt}(h:Oc x s=true):Ab x (s::r)=(if 0<dI x s then[(⟨x.f,x.a,dI x s⟩,false)]else[])++(⟨x.f,x.a+dI x s,jk x s⟩,true)::Ab ⟨x.f,x.a+dI x s+jk x s,x.n-dI x s-jk x s⟩ r:=by
 simp only[Oc,aep,decide_eq_true_eq,beq_iff_eq]at h
 have e1:dI x s=max 0 (s.a-x.a):=by unfold dI;split<;>omega
 have e2:jk x s=min (x.n-max 0 (s.a-x.a)) (s.a+s.n-(x.a+max 0 (s.a-x.a))):=by unfold jk;rw[e1];split<;>omega
 rw[e2,e1]
 conv=>lhs;unfold Ab
 rw[if_pos h]
theorem Jf{x s:Lt}{r:List Lt}(h:Oc x s=false):Ab x (s::r)=if 0<x.n then[(x,false)]else[]:=by
 have h2:¬(0<x.n/\s.f=x.f/\s.a<x.a+x.n):=fun hc=>by
  have:Oc x s=true:=by simp only[Oc,aep,decide_eq_true_eq,beq_iff_eq];exact hc
  rw[this]at h;cases h
 conv=>lhs;unfold Ab
 rw[if_neg h2]
def HZ(n:Nat)(z:ZZ):Prop:=(∀y∈z.1,aB y=true)/\(∀y∈z.2,aB y=true)/\z.1.length<=n/\z.2.length<=n
theorem HZ.lB{n:Nat}{z:ZZ}(h:HZ n z)(hn:n<=100000):lB z.1/\lB z.2:=
 ⟨⟨by have:=h.2.2.1;omega,fun y hy=>by have:=ah.1 (h.1 y hy);omega⟩,⟨by have:=h.2.2.2;omega,fun y hy=>by have:=ah.1 (h.2.1 y hy);omega⟩⟩
theorem HZ.put{n:Nat}{z:ZZ}(h:HZ n z){p:Lt×Bool}(hp:aB p.1=true):HZ (n+1) (gy z p):=by
 obtain⟨h1,h2,h3,h4⟩:=h
 have hb:=ah.1 hp
 unfold gy
 cases p.2
 ·exact⟨h1,tq [p.1] z.2 (by simpa using hp) h2 |>.1,by show z.1.length<=_;omega,by have:=dR z.2 p.1;show(aN z.2 p.1).length<=_;omega⟩
 ·exact⟨tq [p.1] z.1 (by simpa using hp) h1 |>.1,h2,by have:=dR z.1 p.1;show(aN z.1 p.1).length<=_;omega,by show z.2.length<=_;omega⟩
theorem HZ.fold:∀{l:List (Lt×Bool)} {n:Nat} {z:ZZ},HZ n z->(∀p∈l,aB p.1=true)->HZ (n+l.length) (l.foldl gy z)
 |[],n,z,h,_=>h
 |p::l,n,z,h,hp=>by
  have:=HZ.fold (h.put (hp p ad0)) fun q hq=>hp q (adW _ hq)
  rw[List.length_cons,show n+(l.length+1)=n+1+l.length by omega]
  exact this
theorem Lk:∀(s:List Lt) (x:Lt),(Ab x s).length<=2*s.length+1
 |[],x=>by unfold Ab;split<;>simp
 |s::r,x=>by
  cases h:Oc x s with
  |true=>
   rw[Dn h]
   have:=Lk r ⟨x.f,x.a+dI x s+jk x s,x.n-dI x s-jk x s⟩
   simp only[ad1,List.length_cons]
   split<;>simp<;>omega
  |false=>rw[Jf h];split<;>simp
theorem Gq(set:List Lt)(x:Lt):(kC set x).length<=2*set.length+1:=by
 have h1:=Lk (set.dropWhile fun s=>!jV x s) x
 have h2:=(List.dropWhile_sublist (p:=fun s=>!jV x s) (l:=set)).length_le
 unfold kC;omega
theorem Dp{set:List Lt}{x:Lt}(hs:NS set)(hx:aB x=true):∀p∈kC set x,aB p.1=true:=fun p hp=>by
 have hb:=ah.1 hx
 have:=(jG hs (by omega:0<=x.n)).pos p hp
 rw[ah];omega
end
section
open Go.TM
variable [bj]
def Ah(v:Nat)(rc:RC)(z:ZZ):ad:=[(0,.dw rc .ready (((List.replicate 22 .any).set 4 (.ptr 1 0)).set 5 (.ptr 2 0))),(1,.cells [.own 3 v 0 []]),(2,.cells [.own 4 v 0 []]),(3,.tree v 0 (.aD 3 (z.1.map ax))),(4,.tree v 0 (.aD 3 (z.2.map ax)))]
theorem Ye(z:ZZ)(x:Lt)(b:Bool)(h1:lB z.1)(h2:lB z.2)(hx:0<=x.n/\x.n<=1099511627776):dP Tryz.prog [cx (ax x),.dv (B b)] 5 (Ah 1 (Ag Tryz.f237) z) 0 fun r k=>r=[.dv (B true)]/\k=Ah 1 (Ag Tryz.f237) (gy z (x,b)):=by
 refine uJ fO mixed rfl (by kernel_rfl) ?_
 cases b with
 |true=>
  refine adN (fun _=>?_) fun h=>by cases h
  refine .inr (cl [3] (qE z.1 x h1 hx) (by kernel_rfl) rfl rfl ?_)
  exact ext (by kernel_rfl) rfl rfl
 |false=>
  refine adN (fun h=>by cases h) fun _=>?_
  refine .inr (cl [4] (qE z.2 x h2 hx) (by kernel_rfl) rfl rfl ?_)
  exact ext (by kernel_rfl) rfl rfl
theorem Dq{rc:RC}{z:ZZ}{a:List AV}:Go.TM.Start 4 [(0,.dw rc .ready (((List.replicate 22 .any).set 4 (.ptr 1 0)).set 5 (.ptr 2 0))),(1,.cells [.own 3 1 0 []]),(2,.cells [.own 4 0 0 []]),(3,.tree 1 0 (.aD 3 (z.1.map ax))),(4,.tree 0 0 (.aD 3 (z.2.map ax)))] (Ah 1 rc z) a a/\
 Go.TM.Start 3 (Ah 0 rc z) [(0,.dw rc .ready (((List.replicate 22 .any).set 4 (.ptr 1 0)).set 5 (.ptr 2 0))),(1,.cells [.own 3 1 0 []]),(2,.cells [.own 4 0 0 []]),(3,.tree 1 0 (.aD 3 (z.1.map ax))),(4,.tree 0 0 (.aD 3 (z.2.map ax)))] a a:=by
 refine⟨⟨⟨_,rfl,rfl,fun j hj=>?_⟩,iW.refl _ _ _ _⟩,⟨_,rfl,rfl,fun j hj=>?_⟩,iW.refl _ _ _ _⟩
 ·match j,hj with
  |0,_=>exact .refl _
  |1,_=>exact .refl _
  |2,_=>exact .cells (.rU .nil)
  |3,_=>exact .refl _
  |j+5,_=>exact .refl _
 ·match j,hj with
  |0,_=>exact .refl _
  |1,_=>exact .cells (.rU .nil)
  |2,_=>exact .refl _
  |4,_=>exact .refl _
  |j+5,_=>exact .refl _
theorem Jg(z:ZZ)(x:Lt)(b:Bool)(h1:lB z.1)(h2:lB z.2)(hx:0<=x.n/\x.n<=1099511627776):dP Tryz.prog [cx (ax x),.dv (B b)] 5 (Ah 0 (Ag Tryz.f237) z) 0 fun r k=>r=[.dv (B true)]/\k=Ah 1 (Ag Tryz.f237) (gy z (x,b)):=
 kG 3 (kG 4 (Ye z x b h1 h2 hx) Dq.1) Dq.2
def ZM(v:Nat)(rc:RC)(l set:List Lt)(z:ZZ):ad:=[(0,.dw rc .ready (((List.replicate 22 .any).set 4 (.ptr 1 0)).set 5 (.ptr 2 0))),(1,.cells [.own 5 v 0 []]),(2,.cells [.own 6 v 0 []]),(3,.cells [.dv (aQ l)]),(4,.cells [.dv (aQ set)]),(5,.tree v 0 (.aD 3 (z.1.map ax))),(6,.tree v 0 (.aD 3 (z.2.map ax)))]
structure ItS where
 j:Nat
 x:Lt
 z:ZZ
def zN(l set:List Lt)(z:ZZ)(i:Nat):ZZ:=((l.take i).flatMap (kC set)).foldl gy z
theorem Ll{l set:List Lt}{z:ZZ}{i:Nat}{x:Lt}(h:l[i]?=some x):zN l set z (i+1)=(kC set x).foldl gy (zN l set z i):=by
 unfold zN;rw[adY,h,List.flatMap_append,aee];simp
theorem HZ.mono{m n:Nat}{z:ZZ}(h:HZ m z)(ZK:m<=n):HZ n z:=⟨h.1,h.2.1,Nat.le_trans h.2.2.1 ZK,Nat.le_trans h.2.2.2 ZK⟩
theorem Wr{l set:List Lt}{z:ZZ}(hl:∀x∈l,aB x=true)(hs:NS set)(hz:HZ 0 z):∀i,HZ (i*(2*set.length+1)) (zN l set z i)
 |0=>by rw[Nat.zero_mul];exact hz
 |i+1=>by
  have ih:=Wr hl hs hz i
  cases h:l[i]? with
  |none=>
   have:zN l set z (i+1)=zN l set z i:=by unfold zN;rw[adY,h];simp
   rw[this]
   exact ih.mono (aej _ (by omega))
  |some x=>
   rw[Ll h]
   have h1:=ih.fold (Dp hs (hl x (adR h)))
   have h2:=Gq set x
   exact h1.mono (by rw[Nat.add_mul,Nat.one_mul];omega)
theorem Yf{l set:List Lt}{z:ZZ}{i:Nat}{x:Lt}(hl:∀x∈l,aB x=true)(hs:NS set)(hz:HZ 0 z)(hx:l[i]?=some x)(cb:l.length*(2*set.length+1)<=90000){pre suf:List (Lt×Bool)}(h:kC set x=pre++suf):
 lB (pre.foldl gy (zN l set z i)).1/\lB (pre.foldl gy (zN l set z i)).2:=by
 have h1:=(Wr hl hs hz i).fold (l:=pre) fun p hp=>Dp hs (hl x (adR hx)) p (by rw[h];exact List.mem_append_left _ hp)
 have h2:=Gq set x
 have h3:=congrArg List.length h
 rw[ad1]at h3
 have hi:=(adP.1 hx).1
 have h4:(i+1)*(2*set.length+1)<=l.length*(2*set.length+1):=aej _ hi
 rw[Nat.add_mul,Nat.one_mul]at h4
 exact h1.lB (by omega)
theorem Yg(rc:RC)(l set:List Lt)(z:ZZ)(hl:∀x∈l,aB x=true)(hs:NS set)(hp:∀x∈set,aB x=true)(Dr:l.length<=5000)(gl:set.length<=5000)(hz:HZ 0 z)(cb:l.length*(2*set.length+1)<=90000)
 (hY:∀(z:ZZ) (x:Lt) (b:Bool),lB z.1->lB z.2->0<=x.n/\x.n<=1099511627776->dP Tryz.prog [cx (ax x),.dv (B b)] 5 (Ah 0 rc z) 0 fun r k=>r=[.dv (B true)]/\k=Ah 1 rc (gy z (x,b))):
 aj Tryz.prog 269 [.fa 0,.ptr 3 0,.ptr 4 0] 7 (ZM 1 rc l set z) 0 [] (ZM 1 rc l set ((l.flatMap (kC set)).foldl gy z)):=by
 refine cO Tryz.func269 rfl (by kernel_rfl) ?_
 have ll:(l.map ax).length=l.length:=adO ..
 have ls:(set.map ax).length=set.length:=adO ..
 refine⟨Nat,fun i=>⟨7,[(0,.fa 0),(1,.ptr 3 0),(2,.ptr 4 0),(9,.dv (aQ l)),(10,.dv (I l.length)),(11,.dv (I i))],ZM 1 rc l set (zN l set z i)⟩,fun i=>i<=l.length,fun i=>l.length-i,0,fun _=>rfl,jn (by simp only[ll];rfl) rfl rfl rfl,ad3 _,?_⟩
 rintro i hi
 refine adN (fun h=>?_) fun h=>?_
 ·have ay:i<l.length:=by have:=ad5 h;omega
  obtain⟨x,hx⟩:∃x,l[i]?=some x:=⟨_,ace ay⟩
  have ix:(l.map ax)[(i:Int).toNat]?=some (ax x):=by rw[adQ];simp[hx]
  have S0:=hl x (adR hx)
  have rX:=ah.1 S0
  have Qy:=(jG hs (by omega:0<=x.n)).pos
  have vS:=Dp hs S0
  have dD:=Ll (set:=set) (z:=z) hx
  have hlb:lB set:=⟨by omega,fun y hy=>by have:=ah.1 (hp y hy);omega⟩
  obtain⟨hk,aV,qw,SU⟩:=Je hs x
  refine⟨ax x,fun _=>⟨by omega,ix⟩,?_⟩
  have hse:=tF set x hs hlb
  rw[<-ls]at hse
  refine .inr (cl [4,7] hse (by kernel_rfl) rfl rfl ?_)
  have hM:kC set x=Ab x (set.drop (Jd set x)):=by unfold kC;rw[aV]
  generalize hz0:zN l set z i=zi at*
  refine⟨ItS,fun q=>⟨8,[(0,.fa 0),(1,.ptr 3 0),(2,.ptr 4 0),(9,.dv (aQ l)),(10,.dv (I l.length)),(11,.dv (I i)),(5,.ptr 7 0),(6,.dv (I q.j))],ZM 1 rc l set q.z++[(7,.cells (eP (ax q.x).cells))]⟩,fun q=>q.j<=set.length/\q.x.f=x.f/\x.a<=q.x.a/\q.x.a+q.x.n=x.a+x.n/\0<=q.x.n/\∃pre,kC set x=pre++Ab q.x (set.drop q.j)/\q.z=pre.foldl gy zi,fun q=>set.length-q.j,⟨Jd set x,x,zi⟩,fun _=>rfl,jn rfl rfl rfl rfl,⟨hk,rfl,Int.le_refl _,rfl,by show 0<=x.n;omega,[],hM,rfl⟩,?_⟩
  rintro⟨j,y,w⟩ ⟨hj,hf,ha,hn,MZ,pre,kh,hw⟩
  dsimp only at hj hf ha hn MZ kh hw⊢
  have Yh:∀{p s:List (Lt×Bool)},kC set x=p++s->lB (p.foldl gy zi).1/\lB (p.foldl gy zi).2:=fun h=>by
   rw[<-hz0];exact Yf hl hs hz hx cb h
  obtain⟨s,sd⟩:∃s,j<set.length->set[j]?=some s:=by
   by_cases h:j<set.length
   ·exact⟨set[j],fun _=>ace h⟩
   ·exact⟨x,fun h2=>absurd h2 h⟩
  have is:bw (bif decide (0<y.n)then decide ((j:Int)<(((set.map ax).length:Nat):Int))else false) true=true->(0:Int)<=j/\(set.map ax)[(j:Int).toNat]?=some (ax s):=fun hg=>by
   have oU:j<set.length:=by have:=ad5 (dc (gL hg)).2;omega
   refine⟨by omega,?_⟩
   rw[adQ];simp[sd oU]
  repeat refine gG ?_
  refine⟨ax s,fun h=>is h,?_⟩
  repeat refine gG ?_
  refine⟨ax s,fun h=>is (qX (dc (gL h)).1),?_⟩
  repeat refine gG ?_
  refine⟨fun _=>by omega,?_⟩
  repeat refine gG ?_
  refine⟨by kernel_rfl,adN (fun hc=>?_) fun hc=>?_⟩
  ·have c1:=dc hc
   have c2:=dc c1.1
   have c3:=dc c2.1
   have oU:j<set.length:=by have:=ad5 c3.2;omega
   have sd:=sd oU
   have hsb:=ah.1 (hp s (adR sd))
   have hg:Oc y s=true:=by unfold Oc;rw[c3.1,c2.2,c1.2];rfl
   have hdj:set.drop j=s::set.drop (j+1):=by
    rw[List.drop_eq_getElem_cons oU]
    rw[ace oU]at sd
    injection sd with sd
    rw[sd]
   rw[hdj,Dn hg]at kh
   have io:(0:Int)<=j/\(set.map ax)[(j:Int).toNat]?=some (ax s):=⟨by omega,by rw[adQ];simp[sd]⟩
   refine⟨ax s,fun _=>io,fun _=>by omega,?_⟩
   refine⟨by kernel_rfl,?_⟩
   repeat refine gG ?_
   have jE:=Yh kh
   rw[<-hw]at jE
   by_cases hO:0<dI y s
   ·have sC:bw (decide (0<dI y s)) true=true:=qX (aeb hO)
    rw[if_pos hO]at kh
    have ZN:=Qy (⟨y.f,y.a,dI y s⟩,false) (by rw[kh];simp)
    have SY:=Qy (⟨y.f,y.a+dI y s,jk y s⟩,true) (by rw[kh];simp)
    dsimp only at ZN SY
    refine .inl (UI [0,1,2,5,6] (hY w ⟨y.f,y.a,dI y s⟩ false jE.1 jE.2 (by show 0<=dI y s/\dI y s<=_;omega)) (by kernel_rfl) rfl rfl ?_)
    refine⟨sC,fun _=>rfl,fun _ h=>qX h,adN (fun h=>by cases(dc h).2) fun _=>?_⟩
    have ct:=Yh (p:=pre++[(⟨y.f,y.a,dI y s⟩,false)]) (by rw[kh];simp;rfl)
    rw[aee,<-hw]at ct
    refine⟨fun _=>by omega,fun _=>by omega,?_⟩
    refine⟨ax s,fun _=>io,ax s,fun _=>io,fun _=>by omega,fun _=>by omega,?_⟩
    refine⟨by kernel_rfl,?_⟩
    refine .inl (UI [0,1,2,5,6] (hY (gy w (⟨y.f,y.a,dI y s⟩,false)) ⟨y.f,y.a+dI y s,jk y s⟩ true ct.1 ct.2 (by show 0<=jk y s/\jk y s<=_;omega)) (by kernel_rfl) rfl rfl ?_)
    refine adN (fun h=>by cases h) fun _=>?_
    refine⟨fun _=>by omega,fun _=>by omega,fun _=>by omega,⟨j+1,⟨y.f,y.a+dI y s+jk y s,y.n-dI y s-jk y s⟩,gy (gy w (⟨y.f,y.a,dI y s⟩,false)) (⟨y.f,y.a+dI y s,jk y s⟩,true)⟩,jn rfl rfl rfl rfl,⟨oU,hf,by dsimp only;omega,by dsimp only;omega,by dsimp only;omega,(pre++[(⟨y.f,y.a,dI y s⟩,false)])++[(⟨y.f,y.a+dI y s,jk y s⟩,true)],by rw[kh];simp,by rw[hw];simp⟩,by dsimp only;omega⟩
   ·have Ws:bw (decide (0<dI y s)) true=false:=by rw[aec hO];rfl
    have h0:0<=dI y s:=by unfold dI;split<;>omega
    rw[if_neg hO,List.nil_append]at kh
    have SY:=Qy (⟨y.f,y.a+dI y s,jk y s⟩,true) (by rw[kh];simp)
    dsimp only at SY
    have ct:=jE
    refine .inr ⟨Ws,.dv (B false),fun h=>h,fun _ h=>qX h,adN (fun h=>absurd (ad5 (dc h).1) hO) fun _=>?_⟩
    refine⟨fun _=>by omega,fun _=>by omega,?_⟩
    refine⟨ax s,fun _=>io,ax s,fun _=>io,fun _=>by omega,fun _=>by omega,?_⟩
    refine⟨by kernel_rfl,?_⟩
    refine .inl (UI [0,1,2,5,6] (hY (w) ⟨y.f,y.a+dI y s,jk y s⟩ true ct.1 ct.2 (by show 0<=jk y s/\jk y s<=_;omega)) (by kernel_rfl) rfl rfl ?_)
    refine adN (fun h=>by cases h) fun _=>?_
    refine⟨fun _=>by omega,fun _=>by omega,fun _=>by omega,⟨j+1,⟨y.f,y.a+dI y s+jk y s,y.n-dI y s-jk y s⟩,gy (w) (⟨y.f,y.a+dI y s,jk y s⟩,true)⟩,jn rfl rfl rfl rfl,⟨oU,hf,by dsimp only;omega,by dsimp only;omega,by dsimp only;omega,pre++[(⟨y.f,y.a+dI y s,jk y s⟩,true)],by rw[kh];simp,by rw[hw];simp⟩,by dsimp only;omega⟩
  ·have gZ:Ab y (set.drop j)=if 0<y.n then[(y,false)]else[]:=by
    by_cases Cg:j<set.length
    ·have sd:=sd Cg
     rw[List.drop_eq_getElem_cons Cg]
     rw[ace Cg]at sd
     injection sd with sd
     rw[sd]
     refine Jf ?_
     have h2:=mc hc
     rw[Bool.eq_false_iff]
     intro hg
     simp only[Oc,aep]at hg
     exact h2 ⟨by rw[hg.1,aeb (by omega),hg.2.1];rfl,hg.2.2⟩
    ·rw[List.drop_eq_nil_of_le (by omega)]
     conv=>lhs;unfold Ab
   have jE:=Yh kh
   rw[<-hw]at jE
   rw[gZ]at kh
   rw[kh,aee,<-hw]at dD
   repeat refine gG ?_
   by_cases hO:0<y.n
   ·have sC:bw (decide (0<y.n)) true=true:=qX (aeb hO)
    rw[if_pos hO]at dD
    refine .inl (UI [0,1,2,5,6] (hY w y false jE.1 jE.2 (by omega)) (by kernel_rfl) rfl rfl ?_)
    refine⟨sC,fun _=>rfl,fun _ h=>qX h,adN (fun h=>by cases(dc h).2) fun _=>?_⟩
    exact⟨fun _=>by omega,i+1,jn rfl (by simp only[dD];rfl) rfl rfl,ay,mlt ay⟩
   ·have Ws:bw (decide (0<y.n)) true=false:=by rw[aec hO];rfl
    rw[if_neg hO]at dD
    refine .inr ⟨Ws,.dv (B false),fun h=>h,fun _ h=>qX h,adN (fun h=>absurd (ad5 (dc h).1) hO) fun _=>?_⟩
    exact⟨fun _=>by omega,i+1,jn rfl (by simp only[dD];rfl) rfl rfl,ay,mlt ay⟩
 ·have he:i=l.length:=by have:=ad6 h;omega
  subst he
  have:zN l set z l.length=(l.flatMap (kC set)).foldl gy z:=by unfold zN;rw[ad4]
  rw[this]
  exact ext (by kernel_rfl) rfl rfl
end
section
open Go.TM
variable [bj]
def UM:List AV->List AV->Bool
 |[],[]=>true
 |.any::r,_::l=>UM r l
 |.ptr i o::r,.ptr j p::l=>Nat.beq i j&&Nat.beq o p&&UM r l
 |_,_=>false
theorem kT{m:Nat}{κ κ':Nat->az}:∀{r l:List AV},UM r l=true->dZ m κ κ' r l
 |[],[],_=>trivial
 |.any::r,_::l,h=>⟨tv,kT (r:=r) (l:=l) h⟩
 |.ptr i o::r,.ptr j p::l,h=>by
  simp only[UM,aep]at h
  have h1:=adS h.1.1
  have h2:=adS h.1.2
  subst h1;subst h2
  exact⟨rfl,kT h.2⟩
theorem sf(l:List Lt):(oY (.aD 3 (l.map ax))).Le (aQ l):=DV.Le.of_eq (by
 show DV.sl 3 (uX (l.map ax))=_
 rw[dV (fun _=>rfl)])
theorem wa(l set:List Lt):aj Tryz.prog 248 [.dv (aQ l),.dv (aQ set)] 0 [] 2 [.fn 269 [.ptr 0 0,.ptr 1 0]] [(0,.cells [.dv (aQ l)]),(1,.cells [.dv (aQ set)])]:=by
 refine cO Tryz.func248 rfl (by kernel_rfl) ?_
 exact ext (by kernel_rfl) rfl rfl
def kI0(rc:RC)(l set:List Lt):ad:=[(0,.dw rc .ready (((List.replicate 22 .any).set 4 (.ptr 1 0)).set 5 (.ptr 2 0))),(1,.cells [.dv .aw]),(2,.cells [.dv .aw]),(3,.cells [.dv (aQ l)]),(4,.cells [.dv (aQ set)])]
def kI1(rc:RC)(l set:List Lt):ad:=[(0,.dw rc .ready (((List.replicate 22 .any).set 4 (.ptr 1 0)).set 5 (.ptr 2 0))),(1,.cells [.own 5 0 0 []]),(2,.cells [.dv .aw]),(3,.cells [.dv (aQ l)]),(4,.cells [.dv (aQ set)]),(5,.tree 0 0 (.aD 3 []))]
def kI2(rc:RC)(l set:List Lt):ad:=[(0,.dw rc .ready (((List.replicate 22 .any).set 4 (.ptr 1 0)).set 5 (.ptr 2 0))),(1,.cells [.own 5 1 0 []]),(2,.cells [.own 6 0 0 []]),(3,.cells [.dv (aQ l)]),(4,.cells [.dv (aQ set)]),(5,.tree 1 0 (.aD 3 [])),(6,.tree 0 0 (.aD 3 []))]
theorem Jh(rc:RC)(l set:List Lt)(hl:∀x∈l,aB x=true)(hs:NS set)(hp:∀x∈set,aB x=true)(Dr:l.length<=5000)(gl:set.length<=5000)(cb:l.length*(2*set.length+1)<=90000)
 (hY:∀(z:ZZ) (x:Lt) (b:Bool),lB z.1->lB z.2->0<=x.n/\x.n<=1099511627776->dP Tryz.prog [cx (ax x),.dv (B b)] 5 (Ah 0 rc z) 0 fun r k=>r=[.dv (B true)]/\k=Ah 1 rc (gy z (x,b))):
 aj Tryz.prog 269 [.fa 0,.ptr 3 0,.ptr 4 0] 5 (kI0 rc l set) 2 [] (ZM 1 rc l set (kD l set)):=by
 have h1:=Yg rc l set ([],[]) hl hs hp Dr gl ⟨fun _ h=>(by cases h),fun _ h=>(by cases h),aei _,aei _⟩ cb hY
 have h2:=cH 6 (K0:=kI2 rc l set) h1 ⟨⟨_,rfl,rfl,fun j hj=>(by match j,hj with|0,_=>exact .refl _|1,_=>exact .refl _|2,_=>exact .cells (.rU .nil)|3,_=>exact .refl _|4,_=>exact .refl _|5,_=>exact .refl _|j+7,_=>exact .refl _)⟩,iW.refl _ _ _ _⟩
 have h3:=cH 5 (K0:=ZM 0 rc l set ([],[])) h2 ⟨⟨_,rfl,rfl,fun j hj=>(by match j,hj with|0,_=>exact .refl _|1,_=>exact .cells (.rU .nil)|2,_=>exact .refl _|3,_=>exact .refl _|4,_=>exact .refl _|6,_=>exact .refl _|j+7,_=>exact .refl _)⟩,iW.refl _ _ _ _⟩
 have h4:=jA (K2:=kI1 rc l set) (args2:=[.fa 0,.ptr 3 0,.ptr 4 0]) h3 rfl rfl (fun j hj=>(by match j,hj with|0,_=>exact .inl ⟨rfl,rfl⟩|1,_=>exact .inl ⟨rfl,rfl⟩|2,_=>exact .inr ⟨_,_,rfl,rfl,.born .nil⟩|3,_=>exact .inl ⟨rfl,rfl⟩|4,_=>exact .inl ⟨rfl,rfl⟩|5,_=>exact .inl ⟨rfl,rfl⟩|j+7,_=>exact .inl ⟨rfl,rfl⟩)) (.same _ rfl (.same _ rfl (.same _ rfl .nil)))
 exact jA (K2:=kI0 rc l set) (args2:=[.fa 0,.ptr 3 0,.ptr 4 0]) h4 rfl rfl (fun j hj=>(by match j,hj with|0,_=>exact .inl ⟨rfl,rfl⟩|1,_=>exact .inr ⟨_,_,rfl,rfl,.born .nil⟩|2,_=>exact .inl ⟨rfl,rfl⟩|3,_=>exact .inl ⟨rfl,rfl⟩|4,_=>exact .inl ⟨rfl,rfl⟩|j+6,_=>exact .inl ⟨rfl,rfl⟩)) (.same _ rfl (.same _ rfl (.same _ rfl .nil)))
theorem jX(l set:List Lt)(hl:∀x∈l,aB x=true)(hs:NS set)(hp:∀x∈set,aB x=true)(Dr:l.length<=5000)(gl:set.length<=5000)(cb:l.length*(2*set.length+1)<=90000):aR Tryz.prog 237 [aQ l,aQ set] [aQ (kD l set).1,aQ (kD l set).2]:=by
 refine pO Tryz.func237 rfl (by kernel_rfl) rfl ?_
 have hi:=Jh (Ag Tryz.f237) l set hl hs hp Dr gl cb fun z x b a1 a2 a3=>Jg z x b a1 a2 a3
 refine .inr (cl [] (wa l set) (by kernel_rfl) rfl rfl ?_)
 refine⟨Ag Tryz.f237,by kernel_rfl,?_⟩
 refine⟨[4,0,1,2,3],[.fa 0,.ptr 3 0,.ptr 4 0],kI0 (Ag Tryz.f237) l set,2,_,hi,by kernel_rfl,⟨rfl,rfl,rfl,tv⟩,⟨⟨rfl,rfl,?_⟩,⟨rf,tv⟩,⟨rf,tv⟩,⟨rf,tv⟩,⟨rf,tv⟩,tv⟩,?_⟩
 ·exact kT (by kernel_rfl)
 rintro rs K2 ⟨rfl,rfl⟩
 refine⟨by kernel_rfl,?_⟩
 conv=>whnf
 exact⟨by kernel_rfl,sf _,sf _,tv⟩
end
end Go.Proofs.YtfpebgpgabjieaaGreatDoor
