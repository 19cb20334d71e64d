import Derived.Test.YtpbiiigpphehbaaGreatDoorFM37
import Derived.Test.YtpbiiigpphehbaaGreatDoorFM30
import Derived.Test.YtpbiiigpphehbaaGreatDoorFM39
import Derived.Test.YtpbiiigpphehbaaGreatDoorFM40
import Derived.Test.YtpbiiigpphehbaaGreatDoorFM35
set_option linter.all false
namespace Go.Proofs.YtpbiiigpphehbaaGreatDoor
set_option maxRecDepth 100000
set_option maxHeartbeats 4000000
section
open Go.TM
def MT(d:List Lt)(i:Nat):List Lt:=(d.take i).foldl pz []
theorem FY{d:List Lt}{i:Nat}{x:Lt}(h:d[i]?=some x):MT d (i+1)=pz (MT d i) x:=by
 unfold MT;rw[abJ,h,abZ];rfl
theorem SK{s:List Lt}{x:Lt}(hs:∀y∈s,aQ y=true)(hx:aQ x=true):(∀y∈pz s x,aQ y=true)/\(pz s x).length<=s.length+1:=by
 unfold pz
 split
 ·rename_i y hy
  have MS:=aw.1 (hs y (List.mem_of_getLast? hy))
  have LS:=aw.1 hx
  split
  ·rename_i hc
   refine⟨fun z hz=>?_,by simp⟩
   rcases abI.1 hz with hz|hz
   ·exact hs z (List.dropLast_subset _ hz)
   ·rw[abF]at hz;subst hz
    rw[aw];dsimp only;omega
  ·refine⟨fun z hz=>?_,by simp⟩
   rcases abI.1 hz with hz|hz
   ·exact hs z hz
   ·rw[abF]at hz;subst hz;exact hx
 ·refine⟨fun z hz=>?_,by simp⟩
  rw[abF]at hz;subst hz;exact hx
theorem PW{d:List Lt}(hd:∀x∈d,aQ x=true):∀i,(∀y∈MT d i,aQ y=true)/\(MT d i).length<=i
 |0=>⟨fun _ h=>(by cases h),ab3 _⟩
 |i+1=>by
  have ih:=PW hd i
  cases h:d[i]? with
  |none=>
   have:MT d (i+1)=MT d i:=by unfold MT;rw[abJ,h];simp
   rw[this];exact⟨ih.1,by omega⟩
  |some x=>
   rw[FY h]
   have:=SK ih.1 (hd x (abC h))
   exact⟨this.1,by omega⟩
variable [bJ]
theorem tq(l:List Lt):(oo (.aB 3 (l.map aF))).Le (aS l):=DV.Le.of_eq (by
 show DV.sl 3 (w8 (l.map aF))=_
 rw[fE (fun _=>rfl)])
theorem cX{f:Nat}{fn:Func}{c:Code}{args:List AV}{m ex:Nat}{K:ae}{rs:List AV}{K':ae}(hf:Tryz.prog.funcs[f]?=some fn)(hb:fn.body=some c)
 (ha:((!(fn.name== "runtime.NumGoroutine"))&&(Nat.ble args.length fn.ntmps&&cI.wf ⟨m,de 0 args,K⟩))=true) (h:fg Tryz.prog j4 .rel fn.ntmps m c (pd j4 fn m ex fun r k=>r=rs/\k=K') m (de 0 args) K):aq Tryz.prog f args m K ex rs K':=by
 rw[aca,acd]at ha
 exact HB gx mixed (eU _) (fq _) hf hb ha.1 ha.2 h
theorem eY(l:List Lt)(hl:l.length<=1000000):aq Tryz.prog 66 [.dv (aS l)] 0 [] 1 [.own 0 0 0 []] [(0,.tree 0 0 (.aB 3 (l.map aF)))]:=by
 refine cO Tryz.func66 rfl (by kernel_rfl) ?_
 by_cases hn:l=[]
 ·subst hn
  refine .inl ⟨⟨_,_,⟨rfl,rfl⟩,by kernel_rfl,⟨⟨rfl,rfl,rfl,rfl,3,rfl⟩,tv⟩,⟨rfl,rfl,3,rfl⟩,tv⟩,?_⟩
  refine .inr (.inl ⟨[],rfl,tv,(fun _ h=>by cases h),?_⟩)
  refine .inr ⟨_,b7.refl _,bL (by simp),by simp,?_⟩
  exact ext (by kernel_rfl) rfl rfl
 ·refine .inr ⟨fun h=>hn (List.map_eq_nil_iff.1 h),aby (fun h=>by cases h) fun _=>?_⟩
  refine .inr (.inl ⟨[],rfl,tv,(fun _ h=>by cases h),?_⟩)
  refine .inr ⟨_,b7.refl _,bL (by simp;omega),by simp;omega,?_⟩
  exact ext (by kernel_rfl) rfl rfl
theorem Md(l:List Lt)(hp:∀x∈l,aQ x=true)(hl:l.length<=5000):aq Tryz.prog 161 [.dv (aS l)] 0 [] 0 [.dv (aS (iT l))] []:=by
 refine cX Tryz.func161 rfl (by kernel_rfl) ?_
 refine .inl (.inr (cl [] (eY l (by omega)) (by kernel_rfl) rfl rfl ?_))
 refine .inr ⟨[0],[.own 0 0 0 [],.dv (.fn 192 [])],_,0,_,FU l (by omega),by kernel_rfl,⟨rfl,rf,tv⟩,⟨⟨rfl,rfl⟩,tv⟩,?_⟩
 rintro rs K2 ⟨rfl,d,⟨zf,SL⟩,rfl⟩
 refine⟨by kernel_rfl,?_⟩
 have MM:=zf.length_eq
 have hdp:∀x∈d,aQ x=true:=fun x hx=>hp x (zf.mem_iff.1 hx)
 have iZ:=R9 (fun x hx=>(aw.1 (hp x hx)).2.2.1) zf SL
 have ll:(d.map aF).length=d.length:=abz ..
 refine⟨Nat,fun i=>⟨2,[(4,.own 1 0 0 []),(13,.own 0 0 0 []),(14,.dv (I d.length)),(15,.dv (I i))],[(0,.tree 0 0 (.aB 3 (d.map aF))),(1,.tree 0 0 (.aB 3 ((MT d i).map aF)))]⟩,fun i=>i<=d.length,fun i=>d.length-i,0,fun _=>rfl,⟨⟨⟨rfl,rfl,rfl,rfl,3,rfl⟩,rfl,aG (by rw[ll]),rf,tv⟩,⟨⟨rfl,rfl⟩,⟨rfl,rfl,3,rfl⟩,tv⟩,rfl,rfl⟩,abO _,?_⟩
 rintro i hi
 obtain⟨jP,cd⟩:=PW hdp i
 refine aby (fun h=>?_) fun h=>?_
 ·have au:i<d.length:=by have:=abQ h;omega
  obtain⟨x,hx⟩:∃x,d[i]?=some x:=⟨_,aaa au⟩
  have ix:(d.map aF)[(i:Int).toNat]?=some (aF x):=by rw[abB];simp[hx]
  have LS:=aw.1 (hdp x (abC hx))
  have dQ:=FY hx
  refine⟨fun _=>⟨by omega,by omega⟩,aF x,fun _=>ix,?_⟩
  generalize MT d i=s at*
  have ls:(s.map aF).length=s.length:=abz ..
  obtain⟨y,hy⟩:∃y,y=s.getLastD ⟨0,0,0⟩:=⟨_,rfl⟩
  have dr:bw (decide (0<(((s.map aF).length:Nat):Int))) true=true->0<s.length:=fun h=>by have:=abQ (gL h);omega
  have ia:∀h:bw (decide (0<(((s.map aF).length:Nat):Int))) true=true,-9223372036854775808<=(((s.map aF).length:Nat):Int)-1/\(((s.map aF).length:Nat):Int)-1<=9223372036854775807:=fun h=>by omega
  have ib:∀h:bw (decide (0<(((s.map aF).length:Nat):Int))) true=true,0<=(((s.map aF).length:Nat):Int)-1/\(((s.map aF).length:Nat):Int)-1<(((s.map aF).length:Nat):Int):=fun h=>by have:=dr h;omega
  have ie:∀h:bw (decide (0<(((s.map aF).length:Nat):Int))) true=true,(s.map aF)[((((s.map aF).length:Nat):Int)-1).toNat]?=some (aF y):=fun h=>by
   have:=(om (dr h)).1
   rw[abB,show((((s.map aF).length:Nat):Int)-1).toNat=s.length-1 by omega,this,hy];rfl
  have MS:∀h:bw (decide (0<(((s.map aF).length:Nat):Int))) true=true,0<=y.f/\0<=y.a/\1<=y.n/\y.a+y.n<=1099511627776:=fun h=>aw.1 (jP y (by rw[hy];exact abC (om (dr h)).1))
  have DZ:bw (bif decide (0<(((s.map aF).length:Nat):Int))then y.f==x.f else false) true=true->bw (decide (0<(((s.map aF).length:Nat):Int))) true=true:=fun h=>uP (dV (gL h)).1
  repeat first|apply g1|apply g2|apply g3|apply g4|apply g5
  refine⟨fun h=>ia h,?_⟩
  repeat first|apply g1|apply g2|apply g3|apply g4|apply g5
  refine⟨fun h=>ib h,?_⟩
  repeat first|apply g1|apply g2|apply g3|apply g4|apply g5
  refine⟨aF y,fun h=>ie h,?_⟩
  repeat first|apply g1|apply g2|apply g3|apply g4|apply g5
  refine⟨fun h=>ia (DZ h),?_⟩
  repeat first|apply g1|apply g2|apply g3|apply g4|apply g5
  refine⟨fun h=>ib (DZ h),?_⟩
  repeat first|apply g1|apply g2|apply g3|apply g4|apply g5
  refine⟨aF y,fun h=>ie (DZ h),?_⟩
  repeat first|apply g1|apply g2|apply g3|apply g4|apply g5
  refine⟨fun h=>ia (DZ h),?_⟩
  repeat first|apply g1|apply g2|apply g3|apply g4|apply g5
  refine⟨fun h=>ib (DZ h),?_⟩
  repeat first|apply g1|apply g2|apply g3|apply g4|apply g5
  refine⟨aF y,fun h=>ie (DZ h),?_⟩
  repeat first|apply g1|apply g2|apply g3|apply g4|apply g5
  refine⟨fun h=>(by have:=MS (DZ h);omega),?_⟩
  repeat first|apply g1|apply g2|apply g3|apply g4|apply g5
  refine .inl ⟨by kernel_rfl,aby (fun h=>?_) fun h=>?_⟩
  ·have h1:=dV h
   have h2:=dV h1.1
   have hb:=uP h2.1
   have MS:=MS hb
   have hle:=abQ h1.2
   have ei:((((s.map aF).length:Nat):Int)-1).toNat=s.length-1:=by omega
   have e:pz s x=s.set (s.length-1) ⟨y.f,y.a,if y.n<x.a+x.n-y.a then x.a+x.n-y.a else y.n⟩:=by
    have wX:=(om (dr hb)).2
    rw[<-hy]at wX
    have hc:y.f=x.f/\x.a<=y.a+y.n:=⟨beq_iff_eq.1 h2.2,hle⟩
    unfold pz
    rw[wX]
    simp only
    rw[if_pos hc,show max y.n (x.a+x.n-y.a)=if y.n<x.a+x.n-y.a then x.a+x.n-y.a else y.n by split<;>omega]
    conv=>rhs;rw[gS wX]
    have:(s.dropLast++[y]).length-1=s.dropLast.length:=by simp
    simp
   rw[e]at dQ
   refine⟨fun _=>ia hb,fun _=>ib hb,aF y,fun _=>ie hb,fun _=>⟨by omega,by omega⟩,aF y,fun _=>ie hb,fun _=>⟨by omega,by omega⟩,?_⟩
   refine⟨[I (if y.n<x.a+x.n-y.a then x.a+x.n-y.a else y.n)],⟨rf,tv⟩,aF y,ie hb,?_⟩
   refine .inl ⟨by kernel_rfl,?_⟩
   exact⟨fun _=>⟨by omega,by omega⟩,i+1,jn rfl (by simp only[dQ,List.map_set,<-ei];rfl) rfl rfl,au,mlt au⟩
  ·have e:pz s x=s++[x]:=by
    unfold pz
    by_cases hp:0<s.length
    ·have wX:=(om hp).2
     rw[<-hy]at wX
     rw[wX]
     simp only
     rw[if_neg]
     intro hc
     exact lQ h ⟨by rw[abW (by omega),hc.1];simp,abW hc.2⟩
    ·have:s=[]:=List.length_eq_zero_iff.1 (by omega)
     subst this;rfl
   rw[e]at dQ
   refine .inl ⟨[aF x],rfl,⟨rf,rf,rf,tv⟩,(by simp;rfl),?_⟩
   refine .inr ⟨[aF x],b7.refl _,bL (by simp;omega),by simp;omega,?_⟩
   exact⟨fun _=>⟨by omega,by omega⟩,i+1,jn rfl (by simp only[dQ,abS];rfl) rfl rfl,au,mlt au⟩
 ·have he:i=d.length:=by have:=abR h;omega
  subst he
  have:MT d d.length=iT l:=by unfold MT;rw[abP,iZ]
  rw[this]
  exact⟨_,_,⟨rfl,rfl⟩,by kernel_rfl,⟨tq _,tv⟩,tv⟩
theorem FZ(l:List Lt)(hp:∀x∈l,aQ x=true)(hl:l.length<=5000):aO Tryz.prog 161 [aS l] [aS (iT l)]:=zh (Md l hp hl)
end
section
open Go.TM
abbrev HL:=List (Ky×Int)
def IC(a b:Ky):Bool:=bif decide (a.1<b.1)then true else bif a.1==b.1 then decide (a.2<b.2)else false
def rR:HL->Ky->Nat
 |[],_=>0
 |p::r,k=>if IC p.1 k then rR r k+1 else 0
def uZ(L:HL)(x:Ky×Int):HL:=L.take (rR L x.1)++x::L.drop (rR L x.1)
theorem Dk:∀(L:HL) (k:Ky),rR L k<=L.length
 |[],_=>by simp[rR]
 |p::r,k=>by
  simp only[rR]
  split
  ·have:=Dk r k;simp;omega
  ·simp
theorem Kt{L:HL}{k:Ky}{j:Nat}(h:j<=rR L k){q:Ky×Int}(hq:L[j]?=some q):(IC q.1 k=true->j+1<=rR L k)/\(IC q.1 k=false->rR L k=j):=by
 induction L generalizing j with
 |nil=>simp at hq
 |cons p r ih=>
  simp only[rR]at h⊢
  cases j with
  |zero=>
   simp at hq;subst hq
   exact⟨fun h=>by rw[if_pos h];omega,fun h=>by rw[if_neg (by rw[h];simp)]⟩
  |succ j=>
   split at h
   ·rename_i hp
    rw[if_pos hp]
    have:=ih (j:=j) (by omega) (by simpa using hq)
    exact⟨fun h=>by have:=this.1 h;omega,fun h=>by rw[this.2 h]⟩
   ·omega
def V8(L:HL)(p:Ky×List Lt):HL:=if bQ p.2=0 then L else uZ L (p.1,bQ p.2)
def Ku(m:SM)(i:Nat):HL:=(m.take i).foldl V8 []
def tr(m:SM):HL:=m.foldl V8 []
theorem F0{m:SM}{i:Nat}{p:Ky×List Lt}(h:m[i]?=some p):Ku m (i+1)=V8 (Ku m i) p:=by
 unfold Ku;rw[abJ,h,abZ];rfl
theorem PX(L:HL)(x:Ky×Int):(uZ L x).length=L.length+1:=by
 have:=Dk L x.1
 simp[uZ];omega
theorem Kv(m:SM):∀i,(Ku m i).length<=i
 |0=>by simp[Ku]
 |i+1=>by
  have ih:=Kv m i
  cases h:m[i]? with
  |none=>
   have:m.take (i+1)=m.take i:=by rw[abJ,h];simp
   unfold Ku at *; rw[this];omega
  |some p=>
   rw[F0 h];unfold V8
   split
   ·omega
   ·rw[PX];omega
variable [bJ]
theorem V9(L:HL):(oo (.aB 3 (L.map eW))).Le (.sl 3 (L.map eW)):=DV.Le.of_eq (by
 show DV.sl 3 (w8 (L.map eW))=_
 rw[fE (fun _=>rfl)])
theorem bH{n:Nat}(h:n<=1000000):n*(nth j4 (nth j4 91).elem).bytes<=140737488355328:=by
 rw[show(nth j4 (nth j4 91).elem).bytes=24 by kernel_rfl];omega
theorem Wa{b:Bool}(h:bw b true=true):b=true:=by cases b<;>simp_all [bw]
theorem PY{a b:Bool}(h:(a&&b)=true):a=true:=by cases a<;>simp_all
theorem zk:Pd.Le (.sl 9 (dT.map gT)):=DV.Xp rfl fun i x y hx hy=>by
 have hi:i<5:=(abA.1 hy).1
 have hc:∀d,d∈y.cells->d.ai=true:=by
  rw[abB]at hy
  cases hr:dT[i]? with
  |none=>rw[hr]at hy;cases hy
  |some r=>
   rw[hr]at hy;injection hy with hy;subst hy
   intro d hd
   simp only[gT,DV.cells,abG,List.mem_nil_iff,or_false]at hd
   rcases hd with rfl|rfl|rfl|rfl|rfl|rfl|rfl|rfl|rfl<;>rfl
 refine⟨?_,hc⟩
 match i,hi with
 |0,_=>injection hx with hx;injection hy with hy;subst hx;subst hy;exact⟨rf,rf,rf,rf,rf,rf,DV.aL 2,rf,DV.aL 2,tv⟩
 |1,_=>injection hx with hx;injection hy with hy;subst hx;subst hy;exact⟨rf,rf,rf,rf,rf,rf,rf,rf,rf,tv⟩
 |2,_=>injection hx with hx;injection hy with hy;subst hx;subst hy;exact⟨rf,rf,rf,rf,rf,rf,rf,rf,DV.aL 2,tv⟩
 |3,_=>injection hx with hx;injection hy with hy;subst hx;subst hy;exact⟨rf,rf,rf,rf,rf,rf,rf,rf,DV.aL 2,tv⟩
 |4,_=>injection hx with hx;injection hy with hy;subst hx;subst hy;exact⟨rf,rf,rf,rf,rf,rf,rf,rf,DV.aL 2,tv⟩
theorem Me(sh:Int)(h:0<=sh/\sh<=11):aq Tryz.prog 18 [.dv (I sh),cJ FC] 0 [] 2 [.ptr 1 0,.dv (I 0)] [(1,.cells (.dv (I sh)::eB iO++[.dv .az,.dv .az,.dv .az]))]:=by
 refine cO Tryz.func18 rfl (by kernel_rfl) ?_
 repeat first|apply g1|apply g2|apply g3|apply g4|apply g5
 refine aby (fun hc=>?_) fun _=>?_
 ·simp[bw]at hc;omega
 refine .inl ⟨_,fun _=>FD.ok,?_⟩
 refine aby (fun h=>by cases h) fun _=>?_
 exact⟨_,_,⟨rfl,rfl⟩,by kernel_rfl,⟨rfl,rf,tv⟩,⟨rf,rf,zk,rf,rf,rf,rf,rf,tv⟩,tv⟩
theorem ID(R:RL)(h1:R.st.length<=900)(hl:∀p∈R.st,p.2.length<=1000000):aq Tryz.prog 35 [.ptr 0 0] 4 (dE R) 0 [.dv (.sl 3 ((tr R.st).map eW))] (dE R):=by
 refine cO Tryz.func35 rfl (by kernel_rfl) ?_
 have lst:(R.st.map gy).length=R.st.length:=abz ..
 refine⟨Nat,fun i=>⟨4,[(0,.ptr 0 0),(3,.dv (.sl 3 ((Ku R.st i).map eW))),(4,.dv (I i))],dE R⟩,fun i=>i<=R.st.length,fun i=>R.st.length-i,0,fun _=>rfl,⟨⟨rfl,DV.aL 3,rf,tv⟩,bl (k:=dE R) rfl,rfl,rfl⟩,abO _,?_⟩
 rintro i hi
 have hL:=Kv R.st i
 refine aby ?_ ?_
 ·intro h
  have au:i<R.st.length:=by have:=abQ h;omega
  obtain⟨p,hp⟩:∃p,R.st[i]?=some p:=⟨_,aaa au⟩
  have ip:(R.st.map gy)[(i:Int).toNat]?=some (gy p):=by rw[abB];simp[hp]
  have ib:(0:Int)<=i/\(i:Int)<(R.st.map gy).length:=⟨by omega,by omega⟩
  have dQ:=F0 hp
  refine⟨fun _=>ib,gy p,fun _=>ip,?_⟩
  refine⟨fun _=>ib,gy p,fun _=>ip,?_⟩
  refine⟨fun _=>ib,gy p,fun _=>ip,?_⟩
  refine .inl ⟨_,fun _=>(kz p.2 (hl p (abC hp))).ok,?_⟩
  refine⟨by kernel_rfl,aby (fun h0=>?_) fun h0=>?_⟩
  ·have e:Ku R.st (i+1)=Ku R.st i:=by rw[dQ];exact if_pos (beq_iff_eq.1 h0)
   exact⟨fun _=>⟨by omega,by omega⟩,i+1,jn (by simp only[e];rfl) rfl rfl rfl,au,mlt au⟩
  have e:Ku R.st (i+1)=uZ (Ku R.st i) (p.1,bQ p.2):=by rw[dQ];exact if_neg (beq_eq_false_iff_ne.1 h0)
  generalize Ku R.st i=L at*
  have ll:(L.map eW).length=L.length:=abz ..
  obtain⟨⟨pa,pi⟩,pl⟩:=p
  refine⟨Nat,fun j=>⟨5,[(0,.ptr 0 0),(3,.dv (.sl 3 (L.map eW))),(4,.dv (I i)),(5,.ptr 4 0),(6,.dv (I j))],dE R++[(4,.cells (eB (eW ((pa,pi),bQ pl)).cells))]⟩,fun j=>j<=rR L (pa,pi),fun j=>L.length-j,0,fun _=>rfl,jn rfl rfl rfl rfl,abO _,?_⟩
  rintro j hj
  have Hx:=Dk L (pa,pi)
  repeat first|apply g1|apply g2|apply g3|apply g4|apply g5
  obtain⟨q,hq⟩:∃q,j<L.length->L[j]?=some q:=by
   by_cases h:j<L.length
   ·exact⟨L[j],fun _=>aaa h⟩
   ·exact⟨((0,0),0),fun h2=>absurd h2 h⟩
  have iq:bw (decide ((j:Int)<((L.map eW).length:Nat))) true=true->(0:Int)<=j/\(L.map eW)[(j:Int).toNat]?=some (eW q):=fun hg=>by
   have me:j<L.length:=by
    have:=abQ (Wa hg);omega
   refine⟨by omega,?_⟩
   rw[abB];simp[hq me]
  refine⟨eW q,fun hg=>iq hg,?_⟩
  repeat first|apply g1|apply g2|apply g3|apply g4|apply g5
  refine⟨eW q,fun hg=>iq (PY hg),?_⟩
  repeat first|apply g1|apply g2|apply g3|apply g4|apply g5
  refine⟨eW q,fun hg=>iq (PY (PY hg)),?_⟩
  repeat first|apply g1|apply g2|apply g3|apply g4|apply g5
  refine⟨by kernel_rfl,aby (fun hc=>?_) fun hc=>?_⟩
  ·have h2:=dV hc
   have me:j<L.length:=by have:=abQ h2.1;omega
   exact⟨fun _=>⟨by omega,by omega⟩,j+1,jn rfl rfl rfl rfl,(Kt hj (hq me)).1 h2.2,mlt me⟩
  have hpj:rR L (pa,pi)=j:=by
   by_cases me:j<L.length
   ·have hk:IC q.1 (pa,pi)=false:=by
     have h2:=lQ hc
     rw[Bool.eq_false_iff]
     exact fun h3=>h2 ⟨abW (by omega),h3⟩
    exact(Kt hj (hq me)).2 hk
   ·omega
  have hX:((L.map eW).take j++[eW ((pa,pi),bQ pl)])++(L.map eW).drop j=(uZ L ((pa,pi),bQ pl)).map eW:=by
   unfold uZ
   rw[show rR L ((pa,pi),bQ pl).1=j from hpj]
   simp[List.map_take,List.map_drop]
  refine⟨fun _=>⟨by simp,by simp,by simp;omega⟩,?_⟩
  refine .inr ⟨_,b7.refl _,bH (by simp;omega),by simp;omega,?_⟩
  refine .inl ⟨[eW ((pa,pi),bQ pl)],rfl,⟨rf,rf,rf,tv⟩,(by simp;rfl),?_⟩
  refine .inr ⟨[eW ((pa,pi),bQ pl)],b7.refl _,bH (by simp;omega),by simp;omega,?_⟩
  refine⟨fun _=>⟨by simp,by simp;omega,by simp⟩,?_⟩
  refine .inr ⟨_,b7.refl _,bH (by simp;omega),by simp;omega,?_⟩
  refine⟨by kernel_rfl,?_⟩
  refine⟨fun _=>⟨by omega,by omega⟩,i+1,⟨⟨rfl,?_,rf,tv⟩,bl (k:=dE R) rfl,rfl,rfl⟩,au,mlt au⟩
  rw[e]
  refine DV.Le.trans (DV.Le.of_eq (congrArg (fun z=>oo (.aB 3 z)) ?_)) (V9 _)
  rw[<-hX]
  simp only[Option.getD_none,Option.getD_some,Int.toNat_natCast,Int.toNat_zero,List.drop_zero,abP,ab0]
 ·intro h
  have he:i=R.st.length:=by have:=abR h;omega
  subst he
  have:Ku R.st R.st.length=tr R.st:=by unfold Ku tr;rw[abP]
  rw[this]
  exact ext (by kernel_rfl) rfl rfl
end
section
open Go.TM
variable [bJ]
def Zu:DV:=.agg iO
theorem bM{n:Nat}(h:n<=1000000):n*(nth j4 (nth j4 27).elem).bytes<=140737488355328:=by
 rw[show(nth j4 (nth j4 27).elem).bytes=56 by kernel_rfl];omega
theorem nY{s:dJ}:(DV.agg [I s.id,I s.kind,I s.gl,I s.tick,I s.aD,I s.times,oo (.aB 5 (s.mv.map ak))]).Le (aC s):=DV.Le.of_eq (by
 show DV.agg [_,_,_,_,_,_,.sl 5 (w8 (s.mv.map ak))]=_
 rw[fE fun _=>rfl];rfl)
def vS(a times:Int)(l:List Ky):List dX:=l.map fun p=>⟨a,0,p.1,p.2*times,[]⟩
def vT(a times:Int)(l:List Ky):List dX:=l.map fun p=>⟨0,a,p.1,p.2*times,[]⟩
theorem pG{l:List Ky}{i:Nat}{p:Ky}(h:l[i]?=some p):(l.map fk)[(i:Int).toNat]?=some (fk p):=by rw[abB];simp[h]
theorem BJ(aD times a t:Int)(failed:Bool)(r:Sv)(hr:dT[aD.toNat]?=some r)(h0:0<=aD/\aD<=4)(ht:0<=times/\times<=1000):aO Tryz.prog 20 [Zu,I aD,B failed,I times,I a,I t] [aC ⟨0,4,a,t,bif failed then -2-aD else aD,times,vS a times r.tk++vT a times (bif failed then r.bk else r.gv)⟩]:=by
 have hrm:r∈dT:=abC hr
 have hlen:r.tk.length<=5/\r.gv.length<=5/\r.bk.length<=5/\(∀p∈r.tk,0<=p.2/\p.2<=10)/\(∀p∈r.gv,0<=p.2/\p.2<=10)/\∀p∈r.bk,0<=p.2/\p.2<=10:=by
  revert hrm
  generalize r=x
  intro hx
  simp only[dT,abG,List.mem_nil_iff,or_false]at hx
  rcases hx with rfl|rfl|rfl|rfl|rfl<;>simp
 have ir:(dT.map gT)[aD.toNat]?=some (gT r):=by rw[abB,hr];rfl
 have hr:=hlen
 refine pO Tryz.func20 rfl (by kernel_rfl) rfl ?_
 refine⟨gT r,fun _=>⟨h0.1,ir⟩,?_⟩
 refine aby (fun hf=>?_) fun hf=>?_
 ·have hf:failed=true:=hf
  subst hf
  refine⟨fun _=>⟨by omega,by omega⟩,gT r,fun _=>⟨h0.1,ir⟩,?_⟩
  refine⟨gT r,fun _=>⟨h0.1,ir⟩,?_⟩
  refine⟨Nat,fun i=>⟨4,[(3,.dv (I times)),(4,.dv (I a)),(12,.ptr 1 0),(13,.ptr 2 0),(14,.dv (.sl 2 (r.bk.map fk))),(15,.dv (.sl 2 (r.tk.map fk))),(16,.dv (I i))],[(1,.cells [.dv (I 0),.dv (I 0),.dv (I 0),.dv (I 0),.dv (I 0),.dv (I 0),.dv .az]),(2,.cells [.dv (I 0),.dv (I 4),.dv (I a),.dv (I t),.dv (I (-2-aD)),.dv (I times),.own 3 0 0 []]),(3,.tree 0 0 (.aB 5 ((vS a times (r.tk.take i)).map ak)))]⟩,fun i=>i<=r.tk.length,fun i=>r.tk.length-i,0,fun _=>rfl,⟨⟨rf,rf,rfl,rfl,rf,rf,rf,tv⟩,⟨⟨rf,rf,rf,rf,rf,rf,rf,tv⟩,⟨rf,rf,rf,rf,rf,rf,⟨rfl,rfl,rfl,rfl,5,rfl⟩,tv⟩,⟨rfl,rfl,5,rfl⟩,tv⟩,rfl,rfl⟩,abO _,?_⟩
  rintro i hi
  refine aby (fun h=>?_) fun h=>?_
  ·-- one taken
   have au:i<r.tk.length:=by have:=abQ h;rw[abz]at this;omega
   obtain⟨p,hp⟩:∃p,r.tk[i]?=some p:=⟨_,aaa au⟩
   have hb:=hlen.2.2.2.1 p (abC hp)
   have m1:0<=p.2*times:=Int.mul_nonneg hb.1 ht.1
   have m2:p.2*times<=10*1000:=Int.mul_le_mul hb.2 ht.2 ht.1 (by omega)
   have dQ:vS a times (r.tk.take (i+1))=vS a times (r.tk.take i)++[(⟨a,0,p.1,p.2*times,[]⟩:dX)]:=by
    unfold vS;rw[abJ,hp,abS];rfl
   have il:(0:Int)<=i:=by omega
   refine⟨fk p,fun _=>⟨il,pG hp⟩,fk p,fun _=>⟨il,pG hp⟩,fun _=>⟨by omega,by omega⟩,?_⟩
   refine .inl ⟨[ak (⟨a,0,p.1,p.2*times,[]⟩:dX)],rfl,⟨rf,rf,rf,rf,DV.aL 3,tv⟩,(by simp;rfl),?_⟩
   refine .inr ⟨[ak (⟨a,0,p.1,p.2*times,[]⟩:dX)],b7.refl _,bM (by simp[vS,vT];omega),by simp[vS,vT];omega,?_⟩
   refine⟨by kernel_rfl,?_⟩
   exact⟨fun _=>⟨by omega,by omega⟩,i+1,jn rfl (by simp only[dQ,abS,ab0];rfl) rfl rfl,au,mlt au⟩
  have he:i=r.tk.length:=by have:=abR h;rw[abz]at this;omega
  subst he
  rw[abP]
  refine⟨Nat,fun i=>⟨4,[(3,.dv (I times)),(4,.dv (I a)),(12,.ptr 1 0),(13,.ptr 2 0),(14,.dv (.sl 2 (r.bk.map fk))),(15,.dv (.sl 2 (r.tk.map fk))),(17,.dv (I i))],[(1,.cells [.dv (I 0),.dv (I 0),.dv (I 0),.dv (I 0),.dv (I 0),.dv (I 0),.dv .az]),(2,.cells [.dv (I 0),.dv (I 4),.dv (I a),.dv (I t),.dv (I (-2-aD)),.dv (I times),.own 3 0 0 []]),(3,.tree 0 0 (.aB 5 ((vS a times r.tk++vT a times (r.bk.take i)).map ak)))]⟩,fun i=>i<=r.bk.length,fun i=>r.bk.length-i,0,fun _=>rfl,jn rfl (by simp only[List.take_zero,vT,List.map_nil,List.append_nil];rfl) rfl rfl,abO _,?_⟩
  clear hi h
  rintro i hi
  refine aby (fun h=>?_) fun h=>?_
  ·-- one given
   have au:i<r.bk.length:=by have:=abQ h;rw[abz]at this;omega
   obtain⟨p,hp⟩:∃p,r.bk[i]?=some p:=⟨_,aaa au⟩
   have hb:=hlen.2.2.2.2.2 p (abC hp)
   have m1:0<=p.2*times:=Int.mul_nonneg hb.1 ht.1
   have m2:p.2*times<=10*1000:=Int.mul_le_mul hb.2 ht.2 ht.1 (by omega)
   have dQ:vT a times (r.bk.take (i+1))=vT a times (r.bk.take i)++[(⟨0,a,p.1,p.2*times,[]⟩:dX)]:=by
    unfold vT;rw[abJ,hp,abS];rfl
   have il:(0:Int)<=i:=by omega
   refine⟨fk p,fun _=>⟨il,pG hp⟩,fk p,fun _=>⟨il,pG hp⟩,fun _=>⟨by omega,by omega⟩,?_⟩
   refine .inl ⟨[ak (⟨0,a,p.1,p.2*times,[]⟩:dX)],rfl,⟨rf,rf,rf,rf,DV.aL 3,tv⟩,(by simp;rfl),?_⟩
   refine .inr ⟨[ak (⟨0,a,p.1,p.2*times,[]⟩:dX)],b7.refl _,bM (by simp[vS,vT];omega),by simp[vS,vT];omega,?_⟩
   refine⟨by kernel_rfl,?_⟩
   exact⟨fun _=>⟨by omega,by omega⟩,i+1,jn rfl (by simp only[dQ,abS,ab0];rfl) rfl rfl,au,mlt au⟩
  have he:i=r.bk.length:=by have:=abR h;rw[abz]at this;omega
  subst he
  rw[abP]
  exact⟨nY (s:=⟨0,4,a,t,-2-aD,times,vS a times r.tk++vT a times r.bk⟩),tv⟩
 ·have hf:failed=false:=hf
  subst hf
  skip
  refine⟨gT r,fun _=>⟨h0.1,ir⟩,?_⟩
  refine⟨Nat,fun i=>⟨4,[(3,.dv (I times)),(4,.dv (I a)),(12,.ptr 1 0),(13,.ptr 2 0),(14,.dv (.sl 2 (r.gv.map fk))),(15,.dv (.sl 2 (r.tk.map fk))),(16,.dv (I i))],[(1,.cells [.dv (I 0),.dv (I 0),.dv (I 0),.dv (I 0),.dv (I 0),.dv (I 0),.dv .az]),(2,.cells [.dv (I 0),.dv (I 4),.dv (I a),.dv (I t),.dv (I (aD)),.dv (I times),.own 3 0 0 []]),(3,.tree 0 0 (.aB 5 ((vS a times (r.tk.take i)).map ak)))]⟩,fun i=>i<=r.tk.length,fun i=>r.tk.length-i,0,fun _=>rfl,⟨⟨rf,rf,rfl,rfl,rf,rf,rf,tv⟩,⟨⟨rf,rf,rf,rf,rf,rf,rf,tv⟩,⟨rf,rf,rf,rf,rf,rf,⟨rfl,rfl,rfl,rfl,5,rfl⟩,tv⟩,⟨rfl,rfl,5,rfl⟩,tv⟩,rfl,rfl⟩,abO _,?_⟩
  rintro i hi
  refine aby (fun h=>?_) fun h=>?_
  ·-- one taken
   have au:i<r.tk.length:=by have:=abQ h;rw[abz]at this;omega
   obtain⟨p,hp⟩:∃p,r.tk[i]?=some p:=⟨_,aaa au⟩
   have hb:=hlen.2.2.2.1 p (abC hp)
   have m1:0<=p.2*times:=Int.mul_nonneg hb.1 ht.1
   have m2:p.2*times<=10*1000:=Int.mul_le_mul hb.2 ht.2 ht.1 (by omega)
   have dQ:vS a times (r.tk.take (i+1))=vS a times (r.tk.take i)++[(⟨a,0,p.1,p.2*times,[]⟩:dX)]:=by
    unfold vS;rw[abJ,hp,abS];rfl
   have il:(0:Int)<=i:=by omega
   refine⟨fk p,fun _=>⟨il,pG hp⟩,fk p,fun _=>⟨il,pG hp⟩,fun _=>⟨by omega,by omega⟩,?_⟩
   refine .inl ⟨[ak (⟨a,0,p.1,p.2*times,[]⟩:dX)],rfl,⟨rf,rf,rf,rf,DV.aL 3,tv⟩,(by simp;rfl),?_⟩
   refine .inr ⟨[ak (⟨a,0,p.1,p.2*times,[]⟩:dX)],b7.refl _,bM (by simp[vS,vT];omega),by simp[vS,vT];omega,?_⟩
   refine⟨by kernel_rfl,?_⟩
   exact⟨fun _=>⟨by omega,by omega⟩,i+1,jn rfl (by simp only[dQ,abS,ab0];rfl) rfl rfl,au,mlt au⟩
  have he:i=r.tk.length:=by have:=abR h;rw[abz]at this;omega
  subst he
  rw[abP]
  refine⟨Nat,fun i=>⟨4,[(3,.dv (I times)),(4,.dv (I a)),(12,.ptr 1 0),(13,.ptr 2 0),(14,.dv (.sl 2 (r.gv.map fk))),(15,.dv (.sl 2 (r.tk.map fk))),(17,.dv (I i))],[(1,.cells [.dv (I 0),.dv (I 0),.dv (I 0),.dv (I 0),.dv (I 0),.dv (I 0),.dv .az]),(2,.cells [.dv (I 0),.dv (I 4),.dv (I a),.dv (I t),.dv (I (aD)),.dv (I times),.own 3 0 0 []]),(3,.tree 0 0 (.aB 5 ((vS a times r.tk++vT a times (r.gv.take i)).map ak)))]⟩,fun i=>i<=r.gv.length,fun i=>r.gv.length-i,0,fun _=>rfl,jn rfl (by simp only[List.take_zero,vT,List.map_nil,List.append_nil];rfl) rfl rfl,abO _,?_⟩
  clear hi h
  rintro i hi
  refine aby (fun h=>?_) fun h=>?_
  ·-- one given
   have au:i<r.gv.length:=by have:=abQ h;rw[abz]at this;omega
   obtain⟨p,hp⟩:∃p,r.gv[i]?=some p:=⟨_,aaa au⟩
   have hb:=hlen.2.2.2.2.1 p (abC hp)
   have m1:0<=p.2*times:=Int.mul_nonneg hb.1 ht.1
   have m2:p.2*times<=10*1000:=Int.mul_le_mul hb.2 ht.2 ht.1 (by omega)
   have dQ:vT a times (r.gv.take (i+1))=vT a times (r.gv.take i)++[(⟨0,a,p.1,p.2*times,[]⟩:dX)]:=by
    unfold vT;rw[abJ,hp,abS];rfl
   have il:(0:Int)<=i:=by omega
   refine⟨fk p,fun _=>⟨il,pG hp⟩,fk p,fun _=>⟨il,pG hp⟩,fun _=>⟨by omega,by omega⟩,?_⟩
   refine .inl ⟨[ak (⟨0,a,p.1,p.2*times,[]⟩:dX)],rfl,⟨rf,rf,rf,rf,DV.aL 3,tv⟩,(by simp;rfl),?_⟩
   refine .inr ⟨[ak (⟨0,a,p.1,p.2*times,[]⟩:dX)],b7.refl _,bM (by simp[vS,vT];omega),by simp[vS,vT];omega,?_⟩
   refine⟨by kernel_rfl,?_⟩
   exact⟨fun _=>⟨by omega,by omega⟩,i+1,jn rfl (by simp only[dQ,abS,ab0];rfl) rfl rfl,au,mlt au⟩
  have he:i=r.gv.length:=by have:=abR h;rw[abz]at this;omega
  subst he
  rw[abP]
  exact⟨nY (s:=⟨0,4,a,t,aD,times,vS a times r.tk++vT a times r.gv⟩),tv⟩
end
section
open Go.TM
theorem u4{l:List DV}{z x:DV}{i:Nat}(h:l[i]?=some x):(l.take i++List.replicate (l.length-i) z).set i x=l.take (i+1)++List.replicate (l.length-(i+1)) z:=by
 have hi:=(abA.1 h).1
 have:l.length-i=(l.length-(i+1))+1:=by omega
 rw[List.set_append,if_neg (by rw[abU];omega),abJ,h,this,List.replicate_succ]
 simp[Nat.min_eq_left (Nat.le_of_lt hi)]
theorem zm{l:List DV}{z:DV}{i:Nat}(h:i<l.length):(l.take i++List.replicate (l.length-i) z)[i]?=some z:=by
 rw[List.getElem?_append_right (by rw[abU];omega),List.getElem?_replicate,if_pos (by rw[abU];omega)]
theorem zn(l:List DV)(z:DV)(i:Nat)(h:i<=l.length):(l.take i++List.replicate (l.length-i) z).length=l.length:=by simp;omega
variable [bJ]
theorem Wb{m:dX}:(DV.agg [I m.fr,I m.to,I m.it,I m.n,oo (.aB 3 (m.ps.map aF))]).Le (ak m):=DV.Le.of_eq (by
 show DV.agg [_,_,_,_,.sl 3 (w8 (m.ps.map aF))]=_
 rw[fE fun _=>rfl];rfl)
theorem Wc{f:oj}:(DV.agg [I f.id,I f.step,I f.kind,I f.tick,I f.gl,I f.fr,I f.to,I f.it,I f.n,oo (.aB 3 (f.ps.map aF)),oo (.aB 1 (f.md.map I))]).Le (aM f):=DV.Le.of_eq (by
 show DV.agg [_,_,_,_,_,_,_,_,_,.sl 3 (w8 (f.ps.map aF)),.sl 1 (w8 (f.md.map I))]=_
 rw[fE fun _=>rfl,fE fun _=>rfl];rfl)
theorem pH{α:Type}(sz:Nat){e:α->DV}(h:∀x,oo (e x)=e x){l:List α}:(oo (.aB sz (l.map e))).Le (.sl sz (l.map e)):=DV.Le.of_eq (by
 show DV.sl sz (w8 (l.map e))=_
 rw[fE h])
theorem F1(l:List Int)(hl:l.length<=1000000):aq Tryz.prog 95 [.dv (Ints l)] 0 [] 1 [.own 0 0 0 []] [(0,.tree 0 0 (.aB 1 (l.map I)))]:=by
 refine cO Tryz.func95 rfl (by kernel_rfl) ?_
 by_cases hn:l=[]
 ·subst hn
  refine .inl ⟨⟨_,_,⟨rfl,rfl⟩,by kernel_rfl,⟨⟨rfl,rfl,rfl,rfl,1,rfl⟩,tv⟩,⟨rfl,rfl,1,rfl⟩,tv⟩,?_⟩
  refine .inr (.inl ⟨[],rfl,tv,(fun _ h=>by cases h),?_⟩)
  refine .inr ⟨_,b7.refl _,bI (by simp),by simp,?_⟩
  exact ext (by kernel_rfl) rfl rfl
 ·refine .inr ⟨fun h=>hn (List.map_eq_nil_iff.1 h),aby (fun h=>by cases h) fun _=>?_⟩
  refine .inr (.inl ⟨[],rfl,tv,(fun _ h=>by cases h),?_⟩)
  refine .inr ⟨_,b7.refl _,bI (by simp;omega),by simp;omega,?_⟩
  exact ext (by kernel_rfl) rfl rfl
theorem Mf(m:dX)(hl:m.ps.length<=1000000):aO Tryz.prog 93 [ak m] [ak m]:=by
 refine pO Tryz.func93 rfl (by kernel_rfl) rfl ?_
 refine .inr (cl [] (eY m.ps hl) (by kernel_rfl) rfl rfl ?_)
 exact⟨Wb,tv⟩
theorem Mg(f:oj)(hl:f.ps.length<=1000000)(hm:f.md.length<=1000000):aO Tryz.prog 58 [aM f] [aM f]:=by
 refine pO Tryz.func58 rfl (by kernel_rfl) rfl ?_
 refine .inr (cl [] (eY f.ps hl) (by kernel_rfl) rfl rfl ?_)
 refine .inr (cl [] (F1 f.md hm) (by kernel_rfl) rfl rfl ?_)
 exact⟨by kernel_rfl,Wc,tv⟩
theorem Zv(l:List dX)(hl:l.length<=900000)(hp:∀m∈l,m.ps.length<=1000000):aq Tryz.prog 92 [.dv (.sl 5 (l.map ak)),.dv (.fn 93 [])] 0 [] 0 [.dv (.sl 5 (l.map ak))] []:=by
 have ll:(l.map ak).length=l.length:=abz ..
 refine cO Tryz.func92 rfl (by kernel_rfl) ?_
 refine aby (fun h=>?_) fun h=>?_
 ·have hz:l=[]:=by have:=beq_iff_eq.1 h;exact List.length_eq_zero_iff.1 (by omega)
  subst hz
  exact⟨_,_,⟨rfl,rfl⟩,by kernel_rfl,⟨DV.aL 5,tv⟩,tv⟩
 refine⟨.agg [I 0,I 0,I 0,I 0,.az],⟨rf,rf,rf,rf,rf,tv⟩,by omega,by omega,?_,by omega,false,(fun h=>by cases h),?_⟩
 ·have hb:=bM (n:=l.length) (by omega)
  rw[ll];exact Int.le_trans (Int.le_of_eq (Int.natCast_mul _ _).symm) (Int.ofNat_le.2 hb)
 have e0:List.replicate (((l.map ak).length:Int)).toNat (.agg [I 0,I 0,I 0,I 0,.az])=(l.map ak).take 0++List.replicate ((l.map ak).length-0) (.agg [I 0,I 0,I 0,I 0,.az]):=by simp
 rw[e0]
 refine⟨Nat,fun i=>⟨1,[(1,.dv (.fn 93 [])),(5,.own 0 0 0 []),(14,.dv (.sl 5 (l.map ak))),(15,.dv (I l.length)),(16,.dv (I i))],[(0,.tree 0 0 (.aB 5 ((l.map ak).take i++List.replicate ((l.map ak).length-i) (.agg [I 0,I 0,I 0,I 0,.az]))))]⟩,fun i=>i<=l.length,fun i=>l.length-i,0,fun _=>rfl,jn (by simp only[ll];rfl) rfl rfl rfl,abO _,?_⟩
 rintro i hi
 refine aby (fun h=>?_) fun h=>?_
 ·have au:i<l.length:=by have:=abQ h;omega
  obtain⟨x,hx⟩:∃x,l[i]?=some x:=⟨_,aaa au⟩
  have ix:(l.map ak)[(i:Int).toNat]?=some (ak x):=by rw[abB];simp[hx]
  have Zw:(l.map ak)[i]?=some (ak x):=by rw[abB,hx];rfl
  have Wd:=u4 (z:=.agg [I 0,I 0,I 0,I 0,.az]) Zw
  have oe:=zn (l.map ak) (.agg [I 0,I 0,I 0,I 0,.az]) i (by omega)
  have Zx:=zm (z:=.agg [I 0,I 0,I 0,I 0,.az]) (show i<(l.map ak).length by omega)
  refine⟨ak x,fun _=>⟨by omega,ix⟩,?_⟩
  refine .inl ⟨_,fun _=>(Mf x (hp x (abC hx))).ok,?_⟩
  refine⟨fun _=>⟨by omega,by rw[oe];omega⟩,(ak x).cells,⟨rf,rf,rf,rf,rf,tv⟩,.agg [I 0,I 0,I 0,I 0,.az],Zx,?_⟩
  exact⟨fun _=>⟨by omega,by omega⟩,i+1,jn rfl (by simp only[<-Wd];rfl) rfl rfl,au,mlt au⟩
 ·have he:i=l.length:=by have:=abR h;omega
  subst he
  have IE:(l.map ak).take l.length++List.replicate ((l.map ak).length-l.length) (.agg [I 0,I 0,I 0,I 0,.az])=(l.map ak):=by rw[<-ll,abP];simp
  rw[IE]
  exact⟨_,_,⟨rfl,rfl⟩,by kernel_rfl,⟨pH 5 (fun _=>rfl),tv⟩,tv⟩
theorem u5(s:dJ)(hl:s.mv.length<=900000)(hp:∀m∈s.mv,m.ps.length<=1000000):aO Tryz.prog 47 [aC s] [aC s]:=by
 refine pO Tryz.func47 rfl (by kernel_rfl) rfl ?_
 refine .inr ⟨[],[.dv (.sl 5 (s.mv.map ak)),.dv (.fn 93 [])],[],0,_,[],Zv s.mv hl hp,by kernel_rfl,by kernel_rfl,⟨rf,rf,tv⟩,tv,?_⟩
 exact⟨rf,tv⟩
theorem Zy(l:List dJ)(hl:l.length<=900000)(hp:∀s∈l,s.mv.length<=900000/\∀m∈s.mv,m.ps.length<=1000000):aq Tryz.prog 60 [.own 0 0 0 [],.dv (.fn 47 [])] 1 [(0,.tree 0 0 (.aB 7 (l.map aC)))] 0 [.dv (.sl 7 (l.map aC))] [(0,.tree 0 0 (.aB 7 (l.map aC)))]:=by
 have ll:(l.map aC).length=l.length:=abz ..
 refine cO Tryz.func60 rfl (by kernel_rfl) ?_
 refine aby (fun h=>?_) fun h=>?_
 ·have hz:l=[]:=by have:=beq_iff_eq.1 h;exact List.length_eq_zero_iff.1 (by omega)
  subst hz
  exact⟨_,_,⟨rfl,rfl⟩,by kernel_rfl,⟨DV.aL 7,tv⟩,⟨rfl,rfl⟩,tv⟩
 refine⟨.agg [I 0,I 0,I 0,I 0,I 0,I 0,.az],⟨rf,rf,rf,rf,rf,rf,rf,tv⟩,by omega,by omega,?_,by omega,false,(fun h=>by cases h),?_⟩
 ·have hb:=bS (n:=l.length) (by omega)
  rw[ll];exact Int.le_trans (Int.le_of_eq (Int.natCast_mul _ _).symm) (Int.ofNat_le.2 hb)
 have e0:List.replicate (((l.map aC).length:Int)).toNat (.agg [I 0,I 0,I 0,I 0,I 0,I 0,.az])=(l.map aC).take 0++List.replicate ((l.map aC).length-0) (.agg [I 0,I 0,I 0,I 0,I 0,I 0,.az]):=by simp
 rw[e0]
 refine⟨Nat,fun i=>⟨2,[(1,.dv (.fn 47 [])),(5,.own 1 0 0 []),(14,.own 0 0 0 []),(15,.dv (I l.length)),(16,.dv (I i))],[(0,.tree 0 0 (.aB 7 (l.map aC))),(1,.tree 0 0 (.aB 7 ((l.map aC).take i++List.replicate ((l.map aC).length-i) (.agg [I 0,I 0,I 0,I 0,I 0,I 0,.az]))))]⟩,fun i=>i<=l.length,fun i=>l.length-i,0,fun _=>rfl,jn (by simp only[ll];rfl) rfl rfl rfl,abO _,?_⟩
 rintro i hi
 refine aby (fun h=>?_) fun h=>?_
 ·have au:i<l.length:=by have:=abQ h;omega
  obtain⟨x,hx⟩:∃x,l[i]?=some x:=⟨_,aaa au⟩
  have ix:(l.map aC)[(i:Int).toNat]?=some (aC x):=by rw[abB];simp[hx]
  have Zw:(l.map aC)[i]?=some (aC x):=by rw[abB,hx];rfl
  have Wd:=u4 (z:=.agg [I 0,I 0,I 0,I 0,I 0,I 0,.az]) Zw
  have oe:=zn (l.map aC) (.agg [I 0,I 0,I 0,I 0,I 0,I 0,.az]) i (by omega)
  have Zx:=zm (z:=.agg [I 0,I 0,I 0,I 0,I 0,I 0,.az]) (show i<(l.map aC).length by omega)
  refine⟨fun _=>⟨by omega,by omega⟩,aC x,fun _=>ix,?_⟩
  refine .inl ⟨_,fun _=>(u5 x (hp x (abC hx)).1 (hp x (abC hx)).2).ok,?_⟩
  refine⟨fun _=>⟨by omega,by rw[oe];omega⟩,(aC x).cells,⟨rf,rf,rf,rf,rf,rf,rf,tv⟩,.agg [I 0,I 0,I 0,I 0,I 0,I 0,.az],Zx,?_⟩
  exact⟨fun _=>⟨by omega,by omega⟩,i+1,jn rfl (by simp only[<-Wd];rfl) rfl rfl,au,mlt au⟩
 ·have he:i=l.length:=by have:=abR h;omega
  subst he
  have IE:(l.map aC).take l.length++List.replicate ((l.map aC).length-l.length) (.agg [I 0,I 0,I 0,I 0,I 0,I 0,.az])=(l.map aC):=by rw[<-ll,abP];simp
  rw[IE]
  exact⟨_,_,⟨rfl,rfl⟩,by kernel_rfl,⟨pH 7 (fun _=>rfl),tv⟩,⟨rfl,rfl⟩,tv⟩
theorem Zz(l:List oj)(hl:l.length<=900000)(hp:∀f∈l,f.ps.length<=1000000/\f.md.length<=1000000):aq Tryz.prog 57 [.own 0 0 0 [],.dv (.fn 58 [])] 1 [(0,.tree 0 0 (.aB 11 (l.map aM)))] 0 [.dv (.sl 11 (l.map aM))] [(0,.tree 0 0 (.aB 11 (l.map aM)))]:=by
 have ll:(l.map aM).length=l.length:=abz ..
 refine cO Tryz.func57 rfl (by kernel_rfl) ?_
 refine aby (fun h=>?_) fun h=>?_
 ·have hz:l=[]:=by have:=beq_iff_eq.1 h;exact List.length_eq_zero_iff.1 (by omega)
  subst hz
  exact⟨_,_,⟨rfl,rfl⟩,by kernel_rfl,⟨DV.aL 11,tv⟩,⟨rfl,rfl⟩,tv⟩
 refine⟨.agg [I 0,I 0,I 0,I 0,I 0,I 0,I 0,I 0,I 0,.az,.az],⟨rf,rf,rf,rf,rf,rf,rf,rf,rf,rf,rf,tv⟩,by omega,by omega,?_,by omega,false,(fun h=>by cases h),?_⟩
 ·have hb:=bF (n:=l.length) (by omega)
  rw[ll];exact Int.le_trans (Int.le_of_eq (Int.natCast_mul _ _).symm) (Int.ofNat_le.2 hb)
 have e0:List.replicate (((l.map aM).length:Int)).toNat (.agg [I 0,I 0,I 0,I 0,I 0,I 0,I 0,I 0,I 0,.az,.az])=(l.map aM).take 0++List.replicate ((l.map aM).length-0) (.agg [I 0,I 0,I 0,I 0,I 0,I 0,I 0,I 0,I 0,.az,.az]):=by simp
 rw[e0]
 refine⟨Nat,fun i=>⟨2,[(1,.dv (.fn 58 [])),(5,.own 1 0 0 []),(14,.own 0 0 0 []),(15,.dv (I l.length)),(16,.dv (I i))],[(0,.tree 0 0 (.aB 11 (l.map aM))),(1,.tree 0 0 (.aB 11 ((l.map aM).take i++List.replicate ((l.map aM).length-i) (.agg [I 0,I 0,I 0,I 0,I 0,I 0,I 0,I 0,I 0,.az,.az]))))]⟩,fun i=>i<=l.length,fun i=>l.length-i,0,fun _=>rfl,jn (by simp only[ll];rfl) rfl rfl rfl,abO _,?_⟩
 rintro i hi
 refine aby (fun h=>?_) fun h=>?_
 ·have au:i<l.length:=by have:=abQ h;omega
  obtain⟨x,hx⟩:∃x,l[i]?=some x:=⟨_,aaa au⟩
  have ix:(l.map aM)[(i:Int).toNat]?=some (aM x):=by rw[abB];simp[hx]
  have Zw:(l.map aM)[i]?=some (aM x):=by rw[abB,hx];rfl
  have Wd:=u4 (z:=.agg [I 0,I 0,I 0,I 0,I 0,I 0,I 0,I 0,I 0,.az,.az]) Zw
  have oe:=zn (l.map aM) (.agg [I 0,I 0,I 0,I 0,I 0,I 0,I 0,I 0,I 0,.az,.az]) i (by omega)
  have Zx:=zm (z:=.agg [I 0,I 0,I 0,I 0,I 0,I 0,I 0,I 0,I 0,.az,.az]) (show i<(l.map aM).length by omega)
  refine⟨fun _=>⟨by omega,by omega⟩,aM x,fun _=>ix,?_⟩
  refine .inl ⟨_,fun _=>(Mg x (hp x (abC hx)).1 (hp x (abC hx)).2).ok,?_⟩
  refine⟨fun _=>⟨by omega,by rw[oe];omega⟩,(aM x).cells,⟨rf,rf,rf,rf,rf,rf,rf,rf,rf,rf,rf,tv⟩,.agg [I 0,I 0,I 0,I 0,I 0,I 0,I 0,I 0,I 0,.az,.az],Zx,?_⟩
  exact⟨fun _=>⟨by omega,by omega⟩,i+1,jn rfl (by simp only[<-Wd];rfl) rfl rfl,au,mlt au⟩
 ·have he:i=l.length:=by have:=abR h;omega
  subst he
  have IE:(l.map aM).take l.length++List.replicate ((l.map aM).length-l.length) (.agg [I 0,I 0,I 0,I 0,I 0,I 0,I 0,I 0,I 0,.az,.az])=(l.map aM):=by rw[<-ll,abP];simp
  rw[IE]
  exact⟨_,_,⟨rfl,rfl⟩,by kernel_rfl,⟨pH 11 (fun _=>rfl),tv⟩,⟨rfl,rfl⟩,tv⟩
end
section
open Go.TM
abbrev IM(β:Type):=List (Int×β)
structure PL where
 sh:Int
 st:SM
 b8:IM Int
 sp:List dJ
 fl:List oj
 imp:IM (List Lt)
 ret:IM (List Lt)
def qF(k:Ky):DV:=.agg [I k.1,I k.2]
def eI(n:Int):DV:=I n
def pI(m:SM):List DV:=eM qF (fun l:List Lt=>aS l) m
def nZ(m:IM Int):List DV:=eM eI eI m
def pJ(m:IM (List Lt)):List DV:=eM eI (fun l:List Lt=>aS l) m
theorem iP(a b:Ky):tI (qF a) (qF b)=decide (a=b):=by
 obtain⟨a1,a2⟩:=a
 obtain⟨b1,b2⟩:=b
 rw[ab5]
 simp[qF,tI,BX,D6]
theorem jJ(a b:Int):tI (eI a) (eI b)=decide (a=b):=by
 rw[ab5]
 simp[eI,tI,D6]
def plC(P:PL):List AV:=.dv (I P.sh)::eB iO++[.own 1 0 0 [],.own 2 0 0 [],.own 3 0 0 [],.own 4 0 0 [],.own 5 0 0 [],.own 6 0 0 []]
def fG(P:PL):ae:=[(0,.cells (plC P)),(1,.tree 0 0 (.omap ey (pI P.st))),(2,.tree 0 0 (.omap cC (nZ P.b8))),(3,.tree 0 0 (.aB 7 (P.sp.map aC))),(4,.tree 0 0 (.aB 11 (P.fl.map aM))),(5,.tree 0 0 (.omap cC (pJ P.imp))),(6,.tree 0 0 (.omap cC (pJ P.ret)))]
def F2(m:IM Int)(it:Int):Int:=(aR m it).getD 0
variable [bJ]
theorem mU:tZ Tryz.prog 73 ey:=A3 gx rfl
theorem kh:tZ Tryz.prog 3 cC:=E2 gx rfl
theorem pK(P:PL)(a i:Int)(hl:(cr P.st (a,i)).length<=1000000):aq Tryz.prog 38 [.ptr 0 0,.dv (I a),.dv (I i)] 7 (fG P) 0 [.dv (aS (cr P.st (a,i)))] (fG P):=by
 have hg:=iN (ev:=fun l:List Lt=>aS l) iP P.st (a,i)
 refine cO Tryz.func38 rfl (by kernel_rfl) ?_
 refine⟨mU,qF (a,i),rfl,rfl,?_⟩
 unfold cr at hl⊢
 cases h:aR P.st (a,i)with
 |none=>
  rw[h]at hg hl
  refine⟨.az,false,fun _=>hg,fun _=>rfl,rfl,?_⟩
  refine .inr ⟨[],[.dv (aS [])],[],1,_,_,eY [] (by simp),by kernel_rfl,by kernel_rfl,⟨DV.aL 3,tv⟩,tv,?_⟩
  exact⟨_,_,⟨rfl,rfl⟩,by kernel_rfl,⟨tq _,tv⟩,bl (k:=fG P) rfl⟩
 |some l=>
  rw[h]at hg hl
  refine⟨aS l,true,fun _=>hg,fun h=>(by cases h),rfl,?_⟩
  refine .inr (cl [] (eY l hl) (by kernel_rfl) rfl rfl ?_)
  exact⟨_,_,⟨rfl,rfl⟩,by kernel_rfl,⟨tq _,tv⟩,bl (k:=fG P) rfl⟩
theorem Mh(P:PL)(a i:Int)(hl:(cr P.st (a,i)).length<=1000000)(hn:∀x∈cr P.st (a,i),0<=x.n/\x.n<=1099511627776):aq Tryz.prog 36 [.ptr 0 0,.dv (I a),.dv (I i)] 7 (fG P) 0 [.dv (I (du (cr P.st (a,i))))] (fG P):=by
 have hg:=iN (ev:=fun l:List Lt=>aS l) iP P.st (a,i)
 refine cO Tryz.func36 rfl (by kernel_rfl) ?_
 refine⟨mU,qF (a,i),rfl,rfl,?_⟩
 unfold cr at hl hn⊢
 cases h:aR P.st (a,i)with
 |none=>
  rw[h]at hg
  refine⟨.az,false,fun _=>hg,fun _=>rfl,rfl,?_⟩
  refine .inl ⟨_,fun _=>⟨[aS []],⟨DV.aL 3,tv⟩,mR [] (by simp) (fun _ h=>by cases h)⟩,?_⟩
  exact ext (by kernel_rfl) rfl rfl
 |some l=>
  rw[h]at hg hl hn
  refine⟨aS l,true,fun _=>hg,fun h=>(by cases h),rfl,?_⟩
  refine .inl ⟨_,fun _=>(mR l hl hn).ok,?_⟩
  exact ext (by kernel_rfl) rfl rfl
theorem vU(P:PL)(i:Int):aq Tryz.prog 40 [.ptr 0 0,.dv (I i)] 7 (fG P) 0 [.dv (I (F2 P.b8 i))] (fG P):=by
 have hg:=iN (ev:=eI) jJ P.b8 i
 refine cO Tryz.func40 rfl (by kernel_rfl) ?_
 refine⟨kh,eI i,rfl,rfl,?_⟩
 unfold F2
 cases h:aR P.b8 i with
 |none=>
  rw[h]at hg
  refine⟨I 0,false,fun _=>hg,fun _=>rfl,rfl,?_⟩
  exact ext (by kernel_rfl) rfl rfl
 |some l=>
  rw[h]at hg
  refine⟨I l,true,fun _=>hg,fun h=>(by cases h),rfl,?_⟩
  exact ext (by kernel_rfl) rfl rfl
theorem BK(P:PL)(hn:P.sp.length<=1000000):aq Tryz.prog 27 [.ptr 0 0] 7 (fG P) 0 [.dv (I (eC P.sp))] (fG P):=by
 have lp:(P.sp.map aC).length=P.sp.length:=abz ..
 refine cO Tryz.func27 rfl (by kernel_rfl) ?_
 refine aby (fun h=>?_) fun h=>?_
 ·have hz:P.sp=[]:=by have:=beq_iff_eq.1 h;exact List.length_eq_zero_iff.1 (by omega)
  rw[show eC P.sp=0 by rw[hz];rfl]
  exact ext (by kernel_rfl) rfl rfl
 ·have ck:0<P.sp.length:=by have:=beq_eq_false_iff_ne.1 h;omega
  have hx:=aaa (show P.sp.length-1<P.sp.length by omega)
  generalize P.sp[P.sp.length-1]=s at hx
  have aaS:eC P.sp=s.tick:=by unfold eC;rw[List.getLast?_eq_getElem?,hx]
  have ix:(P.sp.map aC)[((((P.sp.map aC).length:Nat):Int)-1).toNat]?=some (aC s):=by rw[abB,show((((P.sp.map aC).length:Nat):Int)-1).toNat=P.sp.length-1 by omega,hx];rfl
  refine⟨fun _=>⟨by omega,by omega⟩,fun _=>⟨by omega,by omega⟩,aC s,fun _=>ix,?_⟩
  rw[aaS]
  exact⟨by kernel_rfl,ext (by kernel_rfl) rfl rfl⟩
theorem F3(P:PL)(hn:P.fl.length<=900000)(hp:∀f∈P.fl,f.ps.length<=1000000/\f.md.length<=1000000):aq Tryz.prog 30 [.ptr 0 0] 7 (fG P) 0 [.dv (.sl 11 (P.fl.map aM))] (fG P):=by
 refine cO Tryz.func30 rfl (by kernel_rfl) ?_
 refine .inr ⟨[4],[.own 0 0 0 [],.dv (.fn 58 [])],_,0,_,_,Zz P.fl hn hp,by kernel_rfl,by kernel_rfl,⟨rfl,rf,tv⟩,⟨⟨rfl,rfl⟩,tv⟩,?_⟩
 exact ext (by kernel_rfl) rfl rfl
theorem F4(P:PL)(hn:P.sp.length<=900000)(hp:∀s∈P.sp,s.mv.length<=900000/\∀m∈s.mv,m.ps.length<=1000000):aq Tryz.prog 32 [.ptr 0 0] 7 (fG P) 0 [.dv (.sl 7 (P.sp.map aC))] (fG P):=by
 refine cO Tryz.func32 rfl (by kernel_rfl) ?_
 refine .inr ⟨[3],[.own 0 0 0 [],.dv (.fn 47 [])],_,0,_,_,Zy P.sp hn hp,by kernel_rfl,by kernel_rfl,⟨rfl,rf,tv⟩,⟨⟨rfl,rfl⟩,tv⟩,?_⟩
 exact ext (by kernel_rfl) rfl rfl
end
end Go.Proofs.YtpbiiigpphehbaaGreatDoor
