import Derived.Test.YtknnpcfhekkjjaaGreatDoorFM23
import Derived.Test.YtknnpcfhekkjjaaGreatDoorFM24
set_option linter.all false
namespace Go.Proofs.YtknnpcfhekkjjaaGreatDoor
set_option maxRecDepth 100000
set_option maxHeartbeats 4000000
section
open Go.TM
def Y6(a b c:Nat)(R:RL):List AV:=.dv (I R.sh)::fc jc++[.own 1 a 0 [],.own 2 b 0 [],.own 3 c 0 []]
def jN(a b c:Nat)(R:RL):ae:=[(0,.cells (Y6 a b c R)),(1,.tree a 0 (.aB 3 (R.st.map j8))),(2,.tree b 0 (.aB 11 (R.fl.map bB))),(3,.tree c 0 (.aB 7 (R.sp.map aP)))]
def uZ(R:RL)(k:Ky)(l:List Lt):RL:={ R with st:=aS R.st k l }
variable [bG]
theorem bK3{n:Nat}(h:n<=1000000):n*(nth lR (nth lR 113).elem).bytes<=140737488355328:=by
 rw[show(nth lR (nth lR 113).elem).bytes=40 by kernel_rfl];omega
theorem Sx(R:RL)(a i:Int)(l:List Lt)(hn:R.st.length<=100000)(hc:¬qM R.st (a,i)<R.st.length):ar Tryz.prog 90 [.ptr 0 0,.dv (I a),.dv (I i),.dv (aU l)] 4 (dU R) 0 [] (jN 1 0 0 (uZ R (a,i) l)):=by
 have e:aS R.st (a,i) l=R.st++[((a,i),l)]:=by rw[C1,if_neg hc]
 have hf:=find_spec R a i hn
 rw[if_neg hc]at hf
 refine cO Tryz.func90 rfl (by kernel_rfl) ?_
 refine .inr (cl [0,1,2,3] hf (by kernel_rfl) rfl rfl ?_)
 refine abG (fun _=>?_) fun h=>by simp at h
 refine .inl ⟨[j8 ((a,i),l)],rfl,⟨rf,rf,rf,tv⟩,(by simp;rfl),?_⟩
 refine .inr ⟨[j8 ((a,i),l)],cd.refl _,bK3 (by simp;omega),by simp;omega,?_⟩
 refine ext (by kernel_rfl) rfl ?_
 simp only[uZ,e,jN,ab0]
 rfl
theorem Pg(R:RL)(a i:Int)(l:List Lt)(hn:R.st.length<=100000)(hc:qM R.st (a,i)<R.st.length):ar Tryz.prog 90 [.ptr 0 0,.dv (I a),.dv (I i),.dv (aU l)] 4 (dU R) 0 [] (jN 1 0 0 (uZ R (a,i) l)):=by
 have e:aS R.st (a,i) l=R.st.set (qM R.st (a,i)) ((a,i),l):=by rw[C1,if_pos hc]
 have hf:=find_spec R a i hn
 rw[if_pos hc]at hf
 have hx:=Pe hc
 generalize qM R.st (a,i)=q at*
 refine rO (i:=1) (e0:=0) (K1:=[(0,.cells (.dv (I R.sh)::fc jc++[.own 1 0 0 [],.own 2 0 0 [],.own 3 0 0 []])),(1,.tree 0 0 (.aB 3 ((aS R.st (a,i) l).map j8))),(2,.tree 0 0 (.aB 11 (R.fl.map bB))),(3,.tree 0 0 (.aB 7 (R.sp.map aP)))]) ?_ (by omega) ⟨_,rfl,rfl,fun j hj=>?_⟩
 ·refine cO Tryz.func90 rfl (by kernel_rfl) ?_
  refine .inr (cl [0,1,2,3] hf (by kernel_rfl) rfl rfl ?_)
  refine abG (fun h=>by have:=abY h;omega) fun _=>?_
  refine⟨fun _=>⟨by omega,by rw[abH];omega⟩,[aU l],⟨rf,tv⟩,j8 ((a,i),b5 R.st (a,i)),by rw[abJ];simp[hx],?_⟩
  refine ext (by kernel_rfl) rfl ?_
  simp only[e,List.map_set]
  rfl
 ·match j,hj with
  |0,_=>exact .cells (.same _ (.same _ (.same _ (.same _ (.same _ (.sb (.same _ (.same _ .nil))))))))
  |2,_=>exact .refl _
  |3,_=>exact .refl _
  |j+4,_=>exact .refl _
theorem nS(R:RL)(a i:Int)(l:List Lt)(hn:R.st.length<=100000):ar Tryz.prog 90 [.ptr 0 0,.dv (I a),.dv (I i),.dv (aU l)] 4 (dU R) 0 [] (jN 1 0 0 (uZ R (a,i) l)):=by
 by_cases hc:qM R.st (a,i)<R.st.length
 ·exact Pg R a i l hn hc
 ·exact Sx R a i l hn hc
end
section
open Go.TM
def Ao(it:Int)(p:Ky×List Lt):Int:=if p.1.2=it then b9 p.2 else 0
def cE(m:SM)(it:Int):Int:=(m.map (Ao it)).sum
def dS(l:List dW):Int:=match l.getLast? with
 |some s=>s.tick
 |none=>0
theorem C2(l:List Lt):0<=b9 l/\b9 l<=4503599627370496:=by
 unfold b9
 cases hv:cg l with
 |false=>exact⟨Int.le_refl _,by show(0:Int)<=_;omega⟩
 |true=>
  obtain⟨h1,h2⟩:=hU hv
  have:=HY fun x hx=>mR (h2 x hx)
  show 0<=dD l/\dD l<=_
  omega
theorem Ph(it:Int)(p:Ky×List Lt):0<=Ao it p/\Ao it p<=4503599627370496:=by
 have:=C2 p.2
 unfold Ao;split<;>omega
theorem yW(it:Int):∀m:SM,0<=cE m it/\cE m it<=4503599627370496*m.length
 |[]=>by simp[cE]
 |p::m=>by
  have h1:=Ph it p
  have h2:=yW it m
  simp only[cE,List.map_cons,List.sum_cons,List.length_cons]at*
  omega
theorem LK{m:SM}{it:Int}{j:Nat}{p:Ky×List Lt}(h:m[j]?=some p):cE (m.take (j+1)) it=cE (m.take j) it+Ao it p:=by
 unfold cE;rw[abR,h,ab0,List.sum_append];simp
variable [bG]
theorem Fz(R:RL)(it:Int)(hn:R.st.length<=1000)(hl:∀p∈R.st,p.2.length<=1000000):ar Tryz.prog 88 [.ptr 0 0,.dv (I it)] 4 (dU R) 0 [.dv (I (cE R.st it))] (dU R):=by
 refine cO Tryz.func88 rfl (by kernel_rfl) ?_
 refine⟨Nat,fun j=>⟨4,[(0,.ptr 0 0),(1,.dv (I it)),(5,.dv (I (cE (R.st.take j) it))),(6,.dv (I j))],dU R⟩,fun j=>j<=R.st.length,fun j=>R.st.length-j,0,fun _=>rfl,jn rfl rfl rfl rfl,abW _,?_⟩
 rintro j hj
 refine abG ?_ ?_
 ·intro h
  have au:j<R.st.length:=by have:=abY h;rw[abH]at this;omega
  obtain⟨p,hp⟩:∃p,R.st[j]?=some p:=⟨_,aaj au⟩
  have ip:(R.st.map j8)[(j:Int).toNat]?=some (j8 p):=by rw[abJ];simp[hp]
  have dZ:=LK (it:=it) hp
  have b1:=yW it (R.st.take j)
  have b2:=C2 p.2
  have b3:(R.st.take j).length<=1000:=by rw[ab2];omega
  refine⟨fun _=>⟨by omega,by rw[abH];omega⟩,j8 p,fun _=>ip,?_⟩
  refine abG ?_ ?_
  ·intro h
   have e:Ao it p=b9 p.2:=if_pos (beq_iff_eq.1 h)
   rw[e]at dZ
   refine⟨fun _=>⟨by omega,by rw[abH];omega⟩,j8 p,fun _=>ip,?_⟩
   refine .inl ⟨_,fun _=>(mS p.2 (hl p (abK hp))).ok,?_⟩
   exact⟨fun _=>⟨by omega,by omega⟩,fun _=>⟨by omega,by omega⟩,j+1,jn (by simp only[dZ];rfl) rfl rfl rfl,by omega,mlt au⟩
  ·intro h
   have e:Ao it p=0:=if_neg (beq_eq_false_iff_ne.1 h)
   rw[e,Int.add_zero]at dZ
   exact⟨fun _=>⟨by omega,by omega⟩,j+1,jn (by simp only[dZ];rfl) rfl rfl rfl,by omega,mlt au⟩
 ·intro h
  have he:j=R.st.length:=by have:=abZ h;rw[abH]at this;omega
  subst he
  simp only[abX]
  exact ext (by kernel_rfl) rfl rfl
theorem LL(R:RL)(hn:R.sp.length<=1000000):ar Tryz.prog 82 [.ptr 0 0] 4 (dU R) 0 [.dv (I (dS R.sp))] (dU R):=by
 refine cO Tryz.func82 rfl (by kernel_rfl) ?_
 rcases List.eq_nil_or_concat R.sp with hR|⟨r,s,hR⟩
 ·have e1:(R.sp.map aP).length=0:=by rw[hR];rfl
  have e2:dS R.sp=0:=by rw[hR];rfl
  rw[e2]
  exact abG (fun _=>ext (by kernel_rfl) rfl rfl) fun h=>by have:=beq_eq_false_iff_ne.1 h;rw[e1]at this;omega
 ·rw[List.concat_eq_append]at hR
  have e1:(R.sp.map aP).length=r.length+1:=by rw[hR];simp
  have hl:r.length+1<=1000000:=by rw[hR]at hn;simpa using hn
  have e2:dS R.sp=s.tick:=by rw[hR];simp[dS]
  refine abG (fun h=>by have:=beq_iff_eq.1 h;rw[e1]at this;omega) fun _=>?_
  refine⟨fun _=>⟨by omega,by omega⟩,fun _=>⟨by omega,by omega⟩,aP s,fun _=>by rw[e1,show(((r.length+1:Nat):Int)-1).toNat=r.length by omega,hR];simp,?_⟩
  rw[e2]
  exact⟨by kernel_rfl,ext (by kernel_rfl) rfl rfl⟩
end
section
open Go.TM
theorem By{α:Type}{e:α->DV}(h:∀x,(e x).aQ)(l:List α):∀x,x∈l.map e->x.aQ:=fun x hx=>by
 obtain⟨y,_,rfl⟩:=ab9.1 hx
 exact h y
theorem Y7(p:Ky×List Lt):(j8 p).aQ:=fun d hd=>by
 simp only[j8,DV.cells,abO,List.mem_nil_iff,or_false]at hd
 rcases hd with rfl|rfl|rfl<;>rfl
theorem Uc(p:qy):(bB p).aQ:=fun d hd=>by
 simp only[bB,DV.cells,abO,List.mem_nil_iff,or_false]at hd
 rcases hd with rfl|rfl|rfl|rfl|rfl|rfl|rfl|rfl|rfl|rfl|rfl<;>rfl
theorem Y8(p:dW):(aP p).aQ:=fun d hd=>by
 simp only[aP,DV.cells,abO,List.mem_nil_iff,or_false]at hd
 rcases hd with rfl|rfl|rfl|rfl|rfl|rfl|rfl<;>rfl
variable [bG]
theorem bF{n:Nat}(h:n<=1000000):n*(nth lR (nth lR 92).elem).bytes<=140737488355328:=by
 rw[show(nth lR (nth lR 92).elem).bytes=120 by kernel_rfl];omega
theorem bS{n:Nat}(h:n<=1000000):n*(nth lR (nth lR 91).elem).bytes<=140737488355328:=by
 rw[show(nth lR (nth lR 91).elem).bytes=72 by kernel_rfl];omega
def aaK(R:RL):ae:=[(4,.cells (.dv (I R.sh)::fc jc++[.own 5 0 0 [],.own 6 0 0 [],.own 7 0 0 []])),(5,.tree 0 0 (.aB 3 (R.st.map j8))),(6,.tree 0 0 (.aB 11 (R.fl.map bB))),(7,.tree 0 0 (.aB 7 (R.sp.map aP)))]
theorem Ia(R:RL)(h1:R.st.length<=1000000)(h2:R.fl.length<=1000000)(h3:R.sp.length<=1000000):ar Tryz.prog 53 [.ptr 0 0] 4 (dU R) 4 [.ptr 4 0] (dU R++aaK R):=by
 refine cO Tryz.func53 rfl (by kernel_rfl) ?_
 refine⟨by kernel_rfl,?_⟩
 refine .inr (.inl ⟨By Y7 R.st,R.st.map j8,cd.refl _,bK3 (by rw[abH];omega),by rw[abH];omega,?_⟩)
 refine⟨by kernel_rfl,?_⟩
 refine .inr (.inl ⟨By Uc R.fl,R.fl.map bB,cd.refl _,bF (by rw[abH];omega),by rw[abH];omega,?_⟩)
 refine⟨by kernel_rfl,?_⟩
 refine .inr (.inl ⟨By Y8 R.sp,R.sp.map aP,cd.refl _,bS (by rw[abH];omega),by rw[abH];omega,?_⟩)
 exact⟨by kernel_rfl,ext (by kernel_rfl) rfl rfl⟩
theorem FA(k:Int):aI Tryz.prog 83 [I k] [B (decide (k=5\/k=7\/k=9))]:=by
 refine pO Tryz.func83 rfl (by kernel_rfl) rfl ?_
 repeat first|apply g1|apply g2|apply g3|apply g4|apply g5
 refine⟨DV.Le.of_eq ?_,tv⟩
 congr 1
 rw[ace];simp[or_assoc]
def kh(k:Int)(m:fa):Bool:=
 if k=0\/k=5 then decide (m.fr=0)else if k=1\/k=6 then decide (m.to=0)else if k=7 then decide (0<m.fr)else if k=9 then decide (0<m.to)else decide (0<m.fr/\0<m.to)
theorem LM(k:Int)(m:fa):aI Tryz.prog 86 [I k,ak m] [B (kh k m)]:=by
 refine pO Tryz.func86 rfl (by kernel_rfl) rfl ?_
 repeat' first|exact trivial|assumption|refine g1 ?_|refine g3 ?_|refine abG ?_ ?_|refine DV.Le.of_eq ?_|intro h
 all_goals(congr 1;rw[ace];simp_all [kh])
end
section
open Go.TM
def eG(m:fa):Bool:=decide (0<=m.it/\m.it<5/\1<=m.n/\m.n<=1099511627776/\m.fr≠m.to/\0<=m.fr/\0<=m.to/\m.fr<=1073741824/\m.to<=1073741824)
variable [bG]
def vX(m:fa)(p:Bool):Bool:=eG m&&bif p then cg m.ps&&decide (b9 m.ps=m.n)&&decide (b9 (me m.ps)=m.n)else decide (m.ps=[])
theorem Ib(R:RL)(m:fa)(p:Bool)(hl:m.ps.length<=4000):ar Tryz.prog 84 [.ptr 0 0,cY (ak m),.dv (B p)] 4 (dU R) 0 [.dv (B (vX m p))] (dU R):=by
 refine cO Tryz.func84 rfl (by kernel_rfl) ?_
 repeat first|apply g1|apply g2|apply g3|apply g4|apply g5
 have ke:(CV (I 2) (I 20)).length=5:=rfl
 refine⟨by kernel_rfl,?_⟩
 refine abG ?_ ?_
 ·intro h
  have hb:eG m=false:=by
   unfold eG
   rw[ack]
   simp at h
   omega
  have:vX m p=false:=by unfold vX;rw[hb];rfl
  rw[this]
  exact ext (by kernel_rfl) rfl rfl
 intro h
 have hb:eG m=true:=by
  unfold eG
  rw[ach]
  simp at h
  omega
 have hm:vX m p=bif p then cg m.ps&&decide (b9 m.ps=m.n)&&decide (b9 (me m.ps)=m.n)else decide (m.ps=[]):=by unfold vX;rw[hb];rfl
 rw[hm]
 cases p with
 |false=>
  refine abG (fun _=>?_) fun h=>by cases h
  rw[show(bif false then cg m.ps&&decide (b9 m.ps=m.n)&&decide (b9 (me m.ps)=m.n)else decide (m.ps=[]))=((((m.ps.map aC).length:Nat):Int)==0)from(Y4 m.ps).symm]
  exact ext (by kernel_rfl) rfl rfl
 |true=>
  refine abG (fun h=>by cases h) fun _=>?_
  refine .inl ⟨_,fun _=>(gj m.ps (by omega)).ok,?_⟩
  repeat first|apply g1|apply g2|apply g3|apply g4|apply g5
  refine .inl ⟨_,fun _=>(mS m.ps (by omega)).ok,?_⟩
  repeat first|apply g1|apply g2|apply g3|apply g4|apply g5
  refine .inl ⟨_,fun _=>(Bt m.ps (by omega)).ok,?_⟩
  repeat first|apply g1|apply g2|apply g3|apply g4|apply g5
  have iw:=(yV m.ps).1
  refine .inl ⟨_,fun _=>(mS (me m.ps) (by omega)).ok,?_⟩
  repeat first|apply g1|apply g2|apply g3|apply g4|apply g5
  refine⟨by kernel_rfl,?_⟩
  rw[show(bif true then cg m.ps&&decide (b9 m.ps=m.n)&&decide (b9 (me m.ps)=m.n)else decide (m.ps=[]))=(bif bif cg m.ps then b9 m.ps==m.n else false then b9 (me m.ps)==m.n else false)by
   rw[ace];cases cg m.ps<;>simp]
  exact ext (by kernel_rfl) rfl rfl
end
section
open Go.TM
def m0:fa:=⟨0,0,0,0,[]⟩
def Pj(r:Int):Int:=if r<0 then -2-r else r
def V1(r:Int)(x:Pc):List Ky:=if r<0 then x.bk else x.gv
def gF(mv:List fa)(tm:Int)(tk gv:List Ky)(k:Nat):Bool:=
 if k<tk.length then decide ((mv.getD k m0).fr=(mv.getD 0 m0).fr/\1<=(mv.getD k m0).fr/\(mv.getD k m0).to=0/\(mv.getD k m0).it=(tk.getD k (0,0)).1/\(mv.getD k m0).n=(tk.getD k (0,0)).2*tm)
 else decide ((mv.getD k m0).fr=0/\1<=(mv.getD k m0).to/\(mv.getD k m0).to=(mv.getD (mv.length-1) m0).to/\(mv.getD k m0).it=(gv.getD (k-tk.length) (0,0)).1/\(mv.getD k m0).n=(gv.getD (k-tk.length) (0,0)).2*tm)
def oF(s:dW):Bool:=
 if Pj s.aL<0\/5<=Pj s.aL\/s.times<1\/1048576<s.times then false else match dB[(Pj s.aL).toNat]? with
  |some r=>bif r.sp then false else if(s.aL<0/\r.ch=r.of)\/s.mv.length≠r.tk.length+(V1 s.aL r).length then false else(List.range s.mv.length).all (gF s.mv s.times r.tk (V1 s.aL r))
  |none=>false
theorem C3{i:Nat}{r:Pc}(h:dB[i]?=some r):(∀p∈r.tk,0<=p.2/\p.2<=100)/\(∀p∈r.gv,0<=p.2/\p.2<=100)/\(∀p∈r.bk,0<=p.2/\p.2<=100):=by
 have:∀r∈dB,(∀p∈r.tk,0<=p.2/\p.2<=100)/\(∀p∈r.gv,0<=p.2/\p.2<=100)/\(∀p∈r.bk,0<=p.2/\p.2<=100):=by
  intro r hr
  simp only[dB,abO,List.mem_nil_iff,or_false]at hr
  rcases hr with rfl|rfl|rfl|rfl|rfl<;>decide
 exact this r (abK h)
theorem C4{i:Nat}{r:Pc}(h:dB[i]?=some r):r.tk.length<=10/\r.gv.length<=10/\r.bk.length<=10:=by
 have:∀r∈dB,r.tk.length<=10/\r.gv.length<=10/\r.bk.length<=10:=by
  intro r hr
  simp only[dB,abO,List.mem_nil_iff,or_false]at hr
  rcases hr with rfl|rfl|rfl|rfl|rfl<;>decide
 exact this r (abK h)
theorem vY{a t:Int}(ha:0<=a/\a<=100)(ht:1<=t/\t<=1048576):0<=a*t/\a*t<=104857600:=
 ⟨Int.mul_nonneg ha.1 (by omega),Int.le_trans (Int.mul_le_mul ha.2 ht.2 (by omega) (by omega)) (by omega)⟩
variable [bG]
theorem FB(R:RL)(s:dW)(hr:vU s.aL)(hl:s.mv.length<=1000)(h1:1<=s.mv.length):ar Tryz.prog 85 [.ptr 0 0,cY (aP s)] 4 (dU R) 0 [.dv (B (oF s))] (dU R):=by
 refine cO Tryz.func85 rfl (by kernel_rfl) ?_
 have uE:-9223372036854775808<=s.aL/\s.aL<=9223372036854775807:=hr
 have Sy:(dB.map gT).length=5:=rfl
 have aaL:dB.length=5:=rfl
 refine abG ?_ ?_
 ·intro lu
  have lu:=abY lu
  refine⟨fun _=>⟨by omega,by omega⟩,?_⟩
  repeat first|apply g1|apply g2|apply g3|apply g4|apply g5
  have hI:Pj s.aL=(-2-s.aL):=if_pos lu
  have hG:∀r,V1 s.aL r=r.bk:=fun r=>if_pos lu
  obtain⟨r,uy⟩:∃r,0<=(-2-s.aL)/\(-2-s.aL)<5->dB[(-2-s.aL).toNat]?=some r:=⟨(dB[(-2-s.aL).toNat]?).getD ⟨⟨#[]⟩,false,0,0,0,0,[],[],[]⟩,fun h=>by rw[aaj (show(-2-s.aL).toNat<dB.length from(show(-2-s.aL).toNat<5 by omega))];rfl⟩
  have Pk:0<=(-2-s.aL)/\(-2-s.aL)<5->(dB.map gT)[(-2-s.aL).toNat]?=some (gT r):=fun h=>by rw[abJ,uy h];rfl
  refine⟨gT r,fun h=>?_,?_⟩
  ·simp[bw]at h
   exact⟨by omega,Pk (by omega)⟩
  repeat first|apply g1|apply g2|apply g3|apply g4|apply g5
  refine abG ?_ ?_
  ·intro h
   have hc:oF s=false:=by
    unfold oF
    rw[hI]
    split
    ·rfl
    ·rename_i hn
     rw[uy (by omega)]
     have:r.sp=true:=by
      have h:=h
      rw[ab5 (show¬(-2-s.aL)<0 by omega),ab5 (show¬((dB.map gT).length:Int)<=(-2-s.aL)by omega),ab5 (show¬s.times<1 by omega),ab5 (show¬1048576<s.times by omega)]at h
      exact h
     simp only[this,cond_true]
   rw[hc]
   exact ext (by kernel_rfl) rfl rfl
  intro h
  have dX:(0<=(-2-s.aL)/\(-2-s.aL)<5)/\1<=s.times/\s.times<=1048576/\r.sp=false:=by
   simp at h
   exact⟨⟨by omega,by omega⟩,by omega,by omega,h.2⟩
  obtain⟨tl1,tl2,tl3⟩:=C4 (uy dX.1)
  have jB:oF s=if(s.aL<0/\r.ch=r.of)\/s.mv.length≠r.tk.length+(r.bk).length then false else(List.range s.mv.length).all (gF s.mv s.times r.tk (r.bk)):=by
   unfold oF
   rw[hI,if_neg (by omega),uy dX.1]
   simp only[dX.2.2.2,cond_false,hG]
  repeat first|apply g1|apply g2|apply g3|apply g4|apply g5|refine⟨gT r,fun _=>⟨by omega,Pk dX.1⟩,?_⟩|refine⟨fun _=>⟨by rw[abH,abH];omega,by rw[abH,abH];omega⟩,?_⟩
  refine abG (fun _=>?_) fun h=>absurd lu (abZ h)
  repeat first|apply g1|apply g2|apply g3|apply g4|apply g5|refine⟨gT r,fun _=>⟨by omega,Pk dX.1⟩,?_⟩|refine⟨fun _=>⟨by rw[abH,abH];omega,by rw[abH,abH];omega⟩,?_⟩
  refine⟨by kernel_rfl,?_⟩
  refine abG ?_ ?_
  ·intro h
   have hc:oF s=false:=by
    rw[jB,if_pos]
    rw[abH,abH,abH]at h
    simp at h
    rcases h with h|h
    ·exact .inl h
    ·exact .inr (by omega)
   rw[hc]
   exact ext (by kernel_rfl) rfl rfl
  intro h
  have Ic:¬((s.aL<0/\r.ch=r.of)\/s.mv.length≠r.tk.length+(r.bk).length):=by
   rw[abH,abH,abH]at h
   simp at h
   rintro(hh|hh)
   ·exact h.1 hh.1 hh.2
   ·omega
  rw[if_neg Ic]at jB
  have Sz:s.mv.length=r.tk.length+(r.bk).length:=by omega
  rw[jB]
  generalize nh:r.bk=gv at*
  refine⟨Nat,fun k=>⟨5,[(3,.ptr 4 0),(6,.dv (.sl 2 (r.tk.map fq))),(7,.dv (.sl 2 (gv.map fq))),(8,.dv (I k))],dU R++[(4,.cells (fc (aP s).cells))]⟩,fun k=>k<=s.mv.length/\∀j,j<k->gF s.mv s.times r.tk gv j=true,fun k=>s.mv.length-k,0,fun _=>rfl,jn rfl rfl rfl rfl,⟨abW _,fun j hj=>absurd hj (by omega)⟩,?_⟩
  rintro k ⟨hk,bq⟩
  refine abG ?_ ?_
  ·intro h
   have au:k<s.mv.length:=by have:=abY h;rw[abH]at this;omega
   obtain⟨m,hm⟩:∃m,s.mv[k]?=some m:=⟨_,aaj au⟩
   obtain⟨f,hf⟩:∃f,s.mv[0]?=some f:=⟨_,aaj (show 0<s.mv.length by omega)⟩
   obtain⟨g,hg⟩:∃g,s.mv[s.mv.length-1]?=some g:=⟨_,aaj (show s.mv.length-1<s.mv.length by omega)⟩
   have dm:s.mv.getD k m0=m:=by rw[abM,hm];rfl
   have df:s.mv.getD 0 m0=f:=by rw[abM,hf];rfl
   have dg:s.mv.getD (s.mv.length-1) m0=g:=by rw[abM,hg];rfl
   have im:(s.mv.map ak)[(k:Int).toNat]?=some (ak m):=by rw[abJ];simp[hm]
   have i0:(s.mv.map ak)[(0:Int).toNat]?=some (ak f):=by rw[abJ];exact congrArg (Option.map ak) hf
   have ig:(s.mv.map ak)[(((s.mv.map ak).length:Int)-1).toNat]?=some (ak g):=by rw[abH,show((s.mv.length:Int)-1).toNat=s.mv.length-1 by omega,abJ,hg];rfl
   have lm:(s.mv.map ak).length=s.mv.length:=abH ..
   have lt:(r.tk.map fq).length=r.tk.length:=abH ..
   have lg:(gv.map fq).length=gv.length:=abH ..
   obtain⟨V2,Y9,Za⟩:=C3 (uy dX.1)
   have bgv:∀p∈gv,0<=p.2/\p.2<=100:=by rw[<-nh];exact Za
   refine⟨ak m,fun _=>⟨by omega,im⟩,?_⟩
   refine abG ?_ ?_
   ·intro ph
    have MK:k<r.tk.length:=by have:=abY ph;omega
    obtain⟨a,ha⟩:∃a,r.tk[k]?=some a:=⟨_,aaj MK⟩
    have da:r.tk.getD k (0,0)=a:=by rw[abM,ha];rfl
    have ia:(r.tk.map fq)[(k:Int).toNat]?=some (fq a):=by rw[abJ];simp[ha]
    have Rh:=vY (V2 a (abK ha)) ⟨dX.2.1,dX.2.2.1⟩
    have qN:gF s.mv s.times r.tk gv k=decide (m.fr=f.fr/\1<=m.fr/\m.to=0/\m.it=a.1/\m.n=a.2*s.times):=by unfold gF;rw[if_pos MK,dm,df,da]
    repeat first|apply g1|apply g2|apply g3|apply g4|apply g5|refine⟨fun _=>⟨by omega,by omega⟩,?_⟩|refine⟨fq a,fun _=>⟨by omega,ia⟩,?_⟩|refine⟨ak f,fun _=>⟨by omega,i0⟩,?_⟩|refine⟨ak g,fun _=>⟨by omega,ig⟩,?_⟩
    refine⟨by kernel_rfl,?_⟩
    refine abG ?_ ?_
    ·intro h
     have rP:gF s.mv s.times r.tk gv k=false:=by
      rw[qN,ack]
      rintro⟨q1,q2,q3,q4,q5⟩
      simp at h
      omega
     rw[show(List.range s.mv.length).all (gF s.mv s.times r.tk gv)=false from List.all_eq_false.2 ⟨k,aca.2 au,by rw[rP];simp⟩]
     exact ext (by kernel_rfl) rfl rfl
    ·intro h
     have Ie:gF s.mv s.times r.tk gv k=true:=by
      rw[qN,ach]
      simp at h
      omega
     refine⟨fun _=>⟨by omega,by omega⟩,k+1,jn rfl rfl rfl rfl,⟨by omega,fun j hj=>?_⟩,mlt au⟩
     rcases ab1 j k with u4|u4
     ·exact bq j u4
     ·rw[show j=k by omega];exact Ie
   ·intro ph
    have MK:¬k<r.tk.length:=by have:=abZ ph;omega
    obtain⟨a,ha⟩:∃a,gv[k-r.tk.length]?=some a:=⟨_,aaj (show k-r.tk.length<gv.length by omega)⟩
    have da:gv.getD (k-r.tk.length) (0,0)=a:=by rw[abM,ha];rfl
    have ia:(gv.map fq)[((k:Int)-(r.tk.map fq).length).toNat]?=some (fq a):=by rw[lt,show((k:Int)-r.tk.length).toNat=k-r.tk.length by omega,abJ,ha];rfl
    have Rh:=vY (bgv a (abK ha)) ⟨dX.2.1,dX.2.2.1⟩
    have qN:gF s.mv s.times r.tk gv k=decide (m.fr=0/\1<=m.to/\m.to=g.to/\m.it=a.1/\m.n=a.2*s.times):=by unfold gF;rw[if_neg MK,dm,dg,da]
    repeat first|apply g1|apply g2|apply g3|apply g4|apply g5|refine⟨fun _=>⟨by omega,by omega⟩,?_⟩|refine⟨fq a,fun _=>⟨by omega,ia⟩,?_⟩|refine⟨ak f,fun _=>⟨by omega,i0⟩,?_⟩|refine⟨ak g,fun _=>⟨by omega,ig⟩,?_⟩
    refine⟨by kernel_rfl,?_⟩
    refine abG ?_ ?_
    ·intro h
     have rP:gF s.mv s.times r.tk gv k=false:=by
      rw[qN,ack]
      rintro⟨q1,q2,q3,q4,q5⟩
      simp at h
      omega
     rw[show(List.range s.mv.length).all (gF s.mv s.times r.tk gv)=false from List.all_eq_false.2 ⟨k,aca.2 au,by rw[rP];simp⟩]
     exact ext (by kernel_rfl) rfl rfl
    ·intro h
     have Ie:gF s.mv s.times r.tk gv k=true:=by
      rw[qN,ach]
      simp at h
      omega
     refine⟨fun _=>⟨by omega,by omega⟩,k+1,jn rfl rfl rfl rfl,⟨by omega,fun j hj=>?_⟩,mlt au⟩
     rcases ab1 j k with u4|u4
     ·exact bq j u4
     ·rw[show j=k by omega];exact Ie
  ·intro h
   have he:k=s.mv.length:=by have:=abZ h;rw[abH]at this;omega
   subst he
   rw[show(List.range s.mv.length).all (gF s.mv s.times r.tk gv)=true from ab6.2 fun j hj=>bq j (aca.1 hj)]
   exact ext (by kernel_rfl) rfl rfl
 ·intro lu
  have lu:=abZ lu
  repeat first|apply g1|apply g2|apply g3|apply g4|apply g5
  have hI:Pj s.aL=s.aL:=if_neg lu
  have hG:∀r,V1 s.aL r=r.gv:=fun r=>if_neg lu
  obtain⟨r,uy⟩:∃r,0<=s.aL/\s.aL<5->dB[s.aL.toNat]?=some r:=⟨(dB[s.aL.toNat]?).getD ⟨⟨#[]⟩,false,0,0,0,0,[],[],[]⟩,fun h=>by rw[aaj (show s.aL.toNat<dB.length from(show s.aL.toNat<5 by omega))];rfl⟩
  have Pk:0<=s.aL/\s.aL<5->(dB.map gT)[s.aL.toNat]?=some (gT r):=fun h=>by rw[abJ,uy h];rfl
  refine⟨gT r,fun h=>?_,?_⟩
  ·simp[bw]at h
   exact⟨by omega,Pk (by omega)⟩
  repeat first|apply g1|apply g2|apply g3|apply g4|apply g5
  refine abG ?_ ?_
  ·intro h
   have hc:oF s=false:=by
    unfold oF
    rw[hI]
    split
    ·rfl
    ·rename_i hn
     rw[uy (by omega)]
     have:r.sp=true:=by
      have h:=h
      rw[ab5 (show¬s.aL<0 by omega),ab5 (show¬((dB.map gT).length:Int)<=s.aL by omega),ab5 (show¬s.times<1 by omega),ab5 (show¬1048576<s.times by omega)]at h
      exact h
     simp only[this,cond_true]
   rw[hc]
   exact ext (by kernel_rfl) rfl rfl
  intro h
  have dX:(0<=s.aL/\s.aL<5)/\1<=s.times/\s.times<=1048576/\r.sp=false:=by
   simp at h
   exact⟨⟨by omega,by omega⟩,by omega,by omega,h.2⟩
  obtain⟨tl1,tl2,tl3⟩:=C4 (uy dX.1)
  have jB:oF s=if(s.aL<0/\r.ch=r.of)\/s.mv.length≠r.tk.length+(r.gv).length then false else(List.range s.mv.length).all (gF s.mv s.times r.tk (r.gv)):=by
   unfold oF
   rw[hI,if_neg (by omega),uy dX.1]
   simp only[dX.2.2.2,cond_false,hG]
  repeat first|apply g1|apply g2|apply g3|apply g4|apply g5|refine⟨gT r,fun _=>⟨by omega,Pk dX.1⟩,?_⟩|refine⟨fun _=>⟨by rw[abH,abH];omega,by rw[abH,abH];omega⟩,?_⟩
  refine abG (fun h=>absurd (abY h) lu) fun _=>?_
  repeat first|apply g1|apply g2|apply g3|apply g4|apply g5|refine⟨gT r,fun _=>⟨by omega,Pk dX.1⟩,?_⟩|refine⟨fun _=>⟨by rw[abH,abH];omega,by rw[abH,abH];omega⟩,?_⟩
  refine⟨by kernel_rfl,?_⟩
  refine abG ?_ ?_
  ·intro h
   have hc:oF s=false:=by
    rw[jB,if_pos]
    rw[abH,abH,abH]at h
    simp at h
    rcases h with h|h
    ·exact .inl h
    ·exact .inr (by omega)
   rw[hc]
   exact ext (by kernel_rfl) rfl rfl
  intro h
  have Ic:¬((s.aL<0/\r.ch=r.of)\/s.mv.length≠r.tk.length+(r.gv).length):=by
   rw[abH,abH,abH]at h
   simp at h
   rintro(hh|hh)
   ·exact h.1 hh.1 hh.2
   ·omega
  rw[if_neg Ic]at jB
  have Sz:s.mv.length=r.tk.length+(r.gv).length:=by omega
  rw[jB]
  generalize nh:r.gv=gv at*
  refine⟨Nat,fun k=>⟨5,[(3,.ptr 4 0),(6,.dv (.sl 2 (r.tk.map fq))),(7,.dv (.sl 2 (gv.map fq))),(8,.dv (I k))],dU R++[(4,.cells (fc (aP s).cells))]⟩,fun k=>k<=s.mv.length/\∀j,j<k->gF s.mv s.times r.tk gv j=true,fun k=>s.mv.length-k,0,fun _=>rfl,jn rfl rfl rfl rfl,⟨abW _,fun j hj=>absurd hj (by omega)⟩,?_⟩
  rintro k ⟨hk,bq⟩
  refine abG ?_ ?_
  ·intro h
   have au:k<s.mv.length:=by have:=abY h;rw[abH]at this;omega
   obtain⟨m,hm⟩:∃m,s.mv[k]?=some m:=⟨_,aaj au⟩
   obtain⟨f,hf⟩:∃f,s.mv[0]?=some f:=⟨_,aaj (show 0<s.mv.length by omega)⟩
   obtain⟨g,hg⟩:∃g,s.mv[s.mv.length-1]?=some g:=⟨_,aaj (show s.mv.length-1<s.mv.length by omega)⟩
   have dm:s.mv.getD k m0=m:=by rw[abM,hm];rfl
   have df:s.mv.getD 0 m0=f:=by rw[abM,hf];rfl
   have dg:s.mv.getD (s.mv.length-1) m0=g:=by rw[abM,hg];rfl
   have im:(s.mv.map ak)[(k:Int).toNat]?=some (ak m):=by rw[abJ];simp[hm]
   have i0:(s.mv.map ak)[(0:Int).toNat]?=some (ak f):=by rw[abJ];exact congrArg (Option.map ak) hf
   have ig:(s.mv.map ak)[(((s.mv.map ak).length:Int)-1).toNat]?=some (ak g):=by rw[abH,show((s.mv.length:Int)-1).toNat=s.mv.length-1 by omega,abJ,hg];rfl
   have lm:(s.mv.map ak).length=s.mv.length:=abH ..
   have lt:(r.tk.map fq).length=r.tk.length:=abH ..
   have lg:(gv.map fq).length=gv.length:=abH ..
   obtain⟨V2,Y9,Za⟩:=C3 (uy dX.1)
   have bgv:∀p∈gv,0<=p.2/\p.2<=100:=by rw[<-nh];exact Y9
   refine⟨ak m,fun _=>⟨by omega,im⟩,?_⟩
   refine abG ?_ ?_
   ·intro ph
    have MK:k<r.tk.length:=by have:=abY ph;omega
    obtain⟨a,ha⟩:∃a,r.tk[k]?=some a:=⟨_,aaj MK⟩
    have da:r.tk.getD k (0,0)=a:=by rw[abM,ha];rfl
    have ia:(r.tk.map fq)[(k:Int).toNat]?=some (fq a):=by rw[abJ];simp[ha]
    have Rh:=vY (V2 a (abK ha)) ⟨dX.2.1,dX.2.2.1⟩
    have qN:gF s.mv s.times r.tk gv k=decide (m.fr=f.fr/\1<=m.fr/\m.to=0/\m.it=a.1/\m.n=a.2*s.times):=by unfold gF;rw[if_pos MK,dm,df,da]
    repeat first|apply g1|apply g2|apply g3|apply g4|apply g5|refine⟨fun _=>⟨by omega,by omega⟩,?_⟩|refine⟨fq a,fun _=>⟨by omega,ia⟩,?_⟩|refine⟨ak f,fun _=>⟨by omega,i0⟩,?_⟩|refine⟨ak g,fun _=>⟨by omega,ig⟩,?_⟩
    refine⟨by kernel_rfl,?_⟩
    refine abG ?_ ?_
    ·intro h
     have rP:gF s.mv s.times r.tk gv k=false:=by
      rw[qN,ack]
      rintro⟨q1,q2,q3,q4,q5⟩
      simp at h
      omega
     rw[show(List.range s.mv.length).all (gF s.mv s.times r.tk gv)=false from List.all_eq_false.2 ⟨k,aca.2 au,by rw[rP];simp⟩]
     exact ext (by kernel_rfl) rfl rfl
    ·intro h
     have Ie:gF s.mv s.times r.tk gv k=true:=by
      rw[qN,ach]
      simp at h
      omega
     refine⟨fun _=>⟨by omega,by omega⟩,k+1,jn rfl rfl rfl rfl,⟨by omega,fun j hj=>?_⟩,mlt au⟩
     rcases ab1 j k with u4|u4
     ·exact bq j u4
     ·rw[show j=k by omega];exact Ie
   ·intro ph
    have MK:¬k<r.tk.length:=by have:=abZ ph;omega
    obtain⟨a,ha⟩:∃a,gv[k-r.tk.length]?=some a:=⟨_,aaj (show k-r.tk.length<gv.length by omega)⟩
    have da:gv.getD (k-r.tk.length) (0,0)=a:=by rw[abM,ha];rfl
    have ia:(gv.map fq)[((k:Int)-(r.tk.map fq).length).toNat]?=some (fq a):=by rw[lt,show((k:Int)-r.tk.length).toNat=k-r.tk.length by omega,abJ,ha];rfl
    have Rh:=vY (bgv a (abK ha)) ⟨dX.2.1,dX.2.2.1⟩
    have qN:gF s.mv s.times r.tk gv k=decide (m.fr=0/\1<=m.to/\m.to=g.to/\m.it=a.1/\m.n=a.2*s.times):=by unfold gF;rw[if_neg MK,dm,dg,da]
    repeat first|apply g1|apply g2|apply g3|apply g4|apply g5|refine⟨fun _=>⟨by omega,by omega⟩,?_⟩|refine⟨fq a,fun _=>⟨by omega,ia⟩,?_⟩|refine⟨ak f,fun _=>⟨by omega,i0⟩,?_⟩|refine⟨ak g,fun _=>⟨by omega,ig⟩,?_⟩
    refine⟨by kernel_rfl,?_⟩
    refine abG ?_ ?_
    ·intro h
     have rP:gF s.mv s.times r.tk gv k=false:=by
      rw[qN,ack]
      rintro⟨q1,q2,q3,q4,q5⟩
      simp at h
      omega
     rw[show(List.range s.mv.length).all (gF s.mv s.times r.tk gv)=false from List.all_eq_false.2 ⟨k,aca.2 au,by rw[rP];simp⟩]
     exact ext (by kernel_rfl) rfl rfl
    ·intro h
     have Ie:gF s.mv s.times r.tk gv k=true:=by
      rw[qN,ach]
      simp at h
      omega
     refine⟨fun _=>⟨by omega,by omega⟩,k+1,jn rfl rfl rfl rfl,⟨by omega,fun j hj=>?_⟩,mlt au⟩
     rcases ab1 j k with u4|u4
     ·exact bq j u4
     ·rw[show j=k by omega];exact Ie
  ·intro h
   have he:k=s.mv.length:=by have:=abZ h;rw[abH]at this;omega
   subst he
   rw[show(List.range s.mv.length).all (gF s.mv s.times r.tk gv)=true from ab6.2 fun j hj=>bq j (aca.1 hj)]
   exact ext (by kernel_rfl) rfl rfl
end
section
open Go.TM
def yX(s:dW):Bool:=decide (0<=s.kind/\s.kind<=10/\0<=s.gE/\s.gE<=1073741824)
def tg(s:dW):Bool:=decide (s.aL=-1/\1<=s.times/\s.times<=1048576/\s.mv.length=2/\(s.mv.getD 0 m0).to=0/\(s.mv.getD 1 m0).fr=0/\(s.mv.getD 1 m0).to=(s.mv.getD 0 m0).fr/\(s.mv.getD 0 m0).n.tmod s.times=0/\(s.mv.getD 1 m0).n.tmod s.times=0)
def j9(k:Int):Bool:=decide (k=5\/k=7\/k=9)
variable [bG]
def iM(now:Int)(s:dW):Bool:=
 yX s&&decide (now<=s.tick/\s.tick<=1099511627776/\1<=s.mv.length/\s.mv.length<=64)&&s.mv.all (fun m=>vX m (j9 s.kind))&&
  bif decide (s.kind=4)then oF s else bif decide (s.kind=10)then tg s else s.mv.all (kh s.kind)&&decide (s.aL=-1/\s.times=0)
theorem yY(R:RL)(s:dW)(hr:vU s.aL)(hn:R.sp.length<=1000000)(hl:s.mv.length<=1000)(lP:∀m∈s.mv,m.ps.length<=4000):ar Tryz.prog 52 [.ptr 0 0,cY (aP s)] 4 (dU R) 0 [.dv (B (iM (dS R.sp) s))] (dU R):=by
 refine cO Tryz.func52 rfl (by kernel_rfl) ?_
 repeat first|apply g1|apply g2|apply g3|apply g4|apply g5
 by_cases hA:yX s=true
 ·have hA2:=abY hA
  refine .inr (cl [0,1,2,3] (LL R hn) (by kernel_rfl) rfl rfl ?_)
  refine⟨by simp[bw];omega,?_⟩
  repeat first|apply g1|apply g2|apply g3|apply g4|apply g5|refine⟨fun _=>rfl,?_⟩
  refine⟨by kernel_rfl,?_⟩
  refine abG ?_ ?_
  ·intro h
   have hc:iM (dS R.sp) s=false:=by
    have:decide (dS R.sp<=s.tick/\s.tick<=1099511627776/\1<=s.mv.length/\s.mv.length<=64)=false:=by
     rw[ack]
     rw[abH]at h
     simp at h
     omega
    unfold iM
    rw[this,Bool.and_false];rfl
   rw[hc]
   exact ext (by kernel_rfl) rfl rfl
  intro h
  have hB:dS R.sp<=s.tick/\s.tick<=1099511627776/\1<=s.mv.length/\s.mv.length<=64:=by
   rw[abH]at h
   simp at h
   omega
  have hp:iM (dS R.sp) s=(s.mv.all (fun m=>vX m (j9 s.kind))&&bif decide (s.kind=4)then oF s else bif decide (s.kind=10)then tg s else s.mv.all (kh s.kind)&&decide (s.aL=-1/\s.times=0)):=by
   unfold iM
   rw[hA,ab4 hB];rfl
  rw[hp]
  refine .inl ⟨_,fun _=>(FA s.kind).ok,?_⟩
  have ai:j9 s.kind=decide (s.kind=5\/s.kind=7\/s.kind=9):=rfl
  rw[<-ai]
  have lm:(s.mv.map ak).length=s.mv.length:=abH ..
  refine⟨Nat,fun i=>⟨5,[(0,.ptr 0 0),(3,.ptr 4 0),(5,.dv (B (j9 s.kind))),(6,.dv (I i))],dU R++[(4,.cells (fc (aP s).cells))]⟩,fun i=>i<=s.mv.length/\∀m∈s.mv.take i,vX m (j9 s.kind)=true,fun i=>s.mv.length-i,0,fun _=>rfl,jn rfl rfl rfl rfl,⟨abW _,fun _ h=>by simp at h⟩,?_⟩
  rintro i ⟨hi,bq⟩
  refine abG ?_ ?_
  ·intro h
   have au:i<s.mv.length:=by have:=abY h;omega
   obtain⟨m,hm⟩:∃m,s.mv[i]?=some m:=⟨_,aaj au⟩
   have pE:=abK hm
   have im:(s.mv.map ak)[(i:Int).toNat]?=some (ak m):=by rw[abJ];simp[hm]
   refine⟨ak m,fun _=>⟨by omega,im⟩,?_⟩
   refine .inr (cl [0,1,2,3] (Ib R m (j9 s.kind) (lP m pE)) (by kernel_rfl) rfl rfl ?_)
   refine abG ?_ ?_
   ·intro h
    have h:vX m (j9 s.kind)=false:=by simpa using h
    rw[show s.mv.all (fun m=>vX m (j9 s.kind))=false from List.all_eq_false.2 ⟨m,pE,by rw[h];simp⟩]
    exact ext (by kernel_rfl) rfl rfl
   ·intro h
    have h:vX m (j9 s.kind)=true:=by simpa using h
    exact⟨fun _=>⟨by omega,by omega⟩,i+1,jn rfl rfl rfl rfl,⟨by omega,fun q hq=>by
     rw[abR,hm]at hq
     rcases abQ.1 hq with hq|hq
     ·exact bq q hq
     ·simp at hq;subst hq;exact h⟩,mlt au⟩
  intro h
  have he:i=s.mv.length:=by have:=abZ h;omega
  subst he
  rw[abX]at bq
  rw[show s.mv.all (fun m=>vX m (j9 s.kind))=true from ab6.2 bq,Bool.true_and]
  refine abG ?_ ?_
  ·intro h
   have h4:s.kind=4:=beq_iff_eq.1 h
   rw[ab4 h4]
   refine .inr (cl [0,1,2,3] (FB R s hr hl (by omega)) (by kernel_rfl) rfl rfl ?_)
   exact ext (by kernel_rfl) rfl rfl
  intro h
  have h4:¬s.kind=4:=beq_eq_false_iff_ne.1 h
  rw[ab5 h4]
  refine abG ?_ ?_
  ·intro h
   have ML:s.kind=10:=beq_iff_eq.1 h
   rw[ab4 ML]
   repeat first|apply g1|apply g2|apply g3|apply g4|apply g5|refine⟨fun _=>rfl,?_⟩
   refine abG ?_ ?_
   ·intro h
    have hc:tg s=false:=by
     unfold tg
     rw[ack]
     rintro⟨q1,q2,q3,q4,-⟩
     rw[lm]at h
     simp at h
     omega
    rw[hc]
    exact ext (by kernel_rfl) rfl rfl
   intro h
   have hc:s.aL=-1/\1<=s.times/\s.times<=1048576/\s.mv.length=2:=by
    rw[lm]at h
    simp at h
    omega
   obtain⟨c1,c2,c3,c4⟩:=hc
   obtain⟨a,ha⟩:∃a,s.mv[0]?=some a:=⟨_,aaj (show 0<s.mv.length by omega)⟩
   obtain⟨b,hb⟩:∃b,s.mv[1]?=some b:=⟨_,aaj (show 1<s.mv.length by omega)⟩
   have ia:(s.mv.map ak)[(0:Int).toNat]?=some (ak a):=by rw[abJ];exact congrArg (Option.map ak) ha
   have ib:(s.mv.map ak)[(1:Int).toNat]?=some (ak b):=by rw[abJ];exact congrArg (Option.map ak) hb
   have da:s.mv.getD 0 m0=a:=by rw[abM,ha];rfl
   have db:s.mv.getD 1 m0=b:=by rw[abM,hb];rfl
   refine⟨ak a,fun _=>⟨by omega,ia⟩,ak b,fun _=>⟨by omega,ib⟩,?_⟩
   repeat first|apply g1|apply g2|apply g3|apply g4|apply g5|refine⟨fun _ h=>by omega,?_⟩
   have hcv:tg s=(bif bif bif bif a.to==0 then b.fr==0 else false then b.to==a.fr else false then a.n.tmod s.times==0 else false then b.n.tmod s.times==0 else false):=by
    unfold tg
    rw[da,db,ace]
    simp[c1,c2,c3,c4,and_assoc]
   rw[hcv]
   exact ext (by kernel_rfl) rfl rfl
  ·intro h
   have ML:¬s.kind=10:=beq_eq_false_iff_ne.1 h
   rw[ab5 ML]
   refine⟨Nat,fun i=>⟨5,[(3,.ptr 4 0),(10,.dv (I i))],dU R++[(4,.cells (fc (aP s).cells))]⟩,fun i=>i<=s.mv.length/\∀m∈s.mv.take i,kh s.kind m=true,fun i=>s.mv.length-i,0,fun _=>rfl,jn rfl rfl rfl rfl,⟨abW _,fun _ h=>by simp at h⟩,?_⟩
   rintro i ⟨hi,bq⟩
   refine abG ?_ ?_
   ·intro h
    have au:i<s.mv.length:=by have:=abY h;omega
    obtain⟨m,hm⟩:∃m,s.mv[i]?=some m:=⟨_,aaj au⟩
    have pE:=abK hm
    have im:(s.mv.map ak)[(i:Int).toNat]?=some (ak m):=by rw[abJ];simp[hm]
    refine⟨ak m,fun _=>⟨by omega,im⟩,?_⟩
    refine .inl ⟨_,fun _=>(LM s.kind m).ok,?_⟩
    refine⟨by kernel_rfl,?_⟩
    refine abG ?_ ?_
    ·intro h
     have h:kh s.kind m=false:=by simpa using h
     rw[show s.mv.all (kh s.kind)=false from List.all_eq_false.2 ⟨m,pE,by rw[h];simp⟩]
     exact ext (by kernel_rfl) rfl rfl
    ·intro h
     have h:kh s.kind m=true:=by simpa using h
     exact⟨fun _=>⟨by omega,by omega⟩,i+1,jn rfl rfl rfl rfl,⟨by omega,fun q hq=>by
      rw[abR,hm]at hq
      rcases abQ.1 hq with hq|hq
      ·exact bq q hq
      ·simp at hq;subst hq;exact h⟩,mlt au⟩
   intro h
   have he:i=s.mv.length:=by have:=abZ h;omega
   subst he
   rw[abX]at bq
   rw[show s.mv.all (kh s.kind)=true from ab6.2 bq,Bool.true_and]
   repeat first|apply g1|apply g2|apply g3|apply g4|apply g5
   rw[show(bif false then tg s else decide (s.aL=-1/\s.times=0))=(bif s.aL== -1 then s.times==0 else false)by rw[ace];simp]
   exact ext (by kernel_rfl) rfl rfl
 ·have hA2:¬(0<=s.kind/\s.kind<=10/\0<=s.gE/\s.gE<=1073741824):=fun h=>hA (ab4 h)
  refine .inl ⟨by simp[bw];omega,[I 0],fun h=>absurd h (by simp[bw];omega),rfl,?_⟩
  repeat first|apply g1|apply g2|apply g3|apply g4|apply g5|refine⟨fun _=>rfl,?_⟩
  refine⟨by kernel_rfl,?_⟩
  refine abG ?_ ?_
  ·intro h
   have hc:iM (dS R.sp) s=false:=by unfold iM;rw[Bool.not_eq_true]at hA;rw[hA];rfl
   rw[hc]
   exact ext (by kernel_rfl) rfl rfl
  ·intro h
   simp at h
   omega
end
section
open Go.TM
variable [bG]
def Pl(x:Lt)(f:qy):Bool:=decide (f.kind=5)&& !decide (LH f.ps [x]=[])
def u5(sh:Int)(fl:List qy):List Lt->Int
 |[]=>0
 |x::r=>if x.f.tdiv 4294967296=sh\/11<x.f.tdiv 4294967296 then 1 else bif fl.any (Pl x)then 8 else u5 sh fl r
theorem LN(R:RL)(ps:List Lt)(hl:ps.length<=5000)(hf:R.fl.length<=1000000)(lP:∀f∈R.fl,f.ps.length<=200)(hb:∀x∈ps,0<=x.f/\x.f<=9223372036854775807):ar Tryz.prog 155 [.ptr 0 0,.dv (aU ps)] 4 (dU R) 0 [.dv (I (u5 R.sh R.fl ps))] (dU R):=by
 refine cO Tryz.func155 rfl (by kernel_rfl) ?_
 refine⟨Nat,fun i=>⟨4,[(0,.ptr 0 0),(1,.dv (aU ps)),(5,.dv (I i))],dU R⟩,fun i=>i<=ps.length/\u5 R.sh R.fl ps=u5 R.sh R.fl (ps.drop i),fun i=>ps.length-i,0,fun _=>rfl,jn rfl rfl rfl rfl,⟨abW _,rfl⟩,?_⟩
 rintro i ⟨hi,hd⟩
 have lp:(ps.map aC).length=ps.length:=abH ..
 have lf:(R.fl.map bB).length=R.fl.length:=abH ..
 refine abG ?_ ?_
 ·intro h
  have au:i<ps.length:=by have:=abY h;omega
  obtain⟨x,hx⟩:∃x,ps[i]?=some x:=⟨_,aaj au⟩
  have LC:=hb x (abK hx)
  have ix:(ps.map aC)[(i:Int).toNat]?=some (aC x):=by rw[abJ];simp[hx]
  have aH:ps.drop i=x::ps.drop (i+1):=by
   rw[List.drop_eq_getElem_cons au,(abI.1 hx).2]
  rw[aH]at hd
  have q0:=Int.tdiv_nonneg LC.1 (show(0:Int)<=4294967296 by omega)
  have q1:x.f.tdiv 4294967296<=x.f:=Int.tdiv_le_self _ LC.1
  refine⟨aC x,fun _=>⟨by omega,ix⟩,fun _ h=>by omega,fun _=>⟨by omega,by omega⟩,?_⟩
  repeat first|apply g1|apply g2|apply g3|apply g4|apply g5
  refine abG ?_ ?_
  ·intro h
   have hc:x.f.tdiv 4294967296=R.sh\/11<x.f.tdiv 4294967296:=by simpa using h
   rw[hd]
   unfold u5
   rw[if_pos hc]
   exact ext (by kernel_rfl) rfl rfl
  intro h
  have hc:¬(x.f.tdiv 4294967296=R.sh\/11<x.f.tdiv 4294967296):=by simpa using h
  have Pm:u5 R.sh R.fl ps=bif R.fl.any (Pl x)then 8 else u5 R.sh R.fl (ps.drop (i+1)):=by rw[hd];exact if_neg hc
  refine⟨Nat,fun j=>⟨4,[(0,.ptr 0 0),(1,.dv (aU ps)),(5,.dv (I i)),(7,.dv (I j))],dU R⟩,fun j=>j<=R.fl.length/\∀f∈R.fl.take j,Pl x f=false,fun j=>R.fl.length-j,0,fun _=>rfl,jn rfl rfl rfl rfl,⟨abW _,fun _ h=>by simp at h⟩,?_⟩
  rintro j ⟨hj,bq⟩
  refine abG ?_ ?_
  ·intro h
   have Xk:j<R.fl.length:=by have:=abY h;omega
   obtain⟨f,oH⟩:∃f,R.fl[j]?=some f:=⟨_,aaj Xk⟩
   have Xl:=abK oH
   have jf:(R.fl.map bB)[(j:Int).toNat]?=some (bB f):=by rw[abJ];simp[oH]
   have hfp:=lP f Xl
   repeat first|refine g1 ?_|refine g2 ?_|refine g3 ?_|refine⟨fun _=>⟨by omega,by omega⟩,?_⟩|refine⟨bB f,fun _=>jf,?_⟩
   have iw:((ps.map aC).take ((i:Int)+1).toNat).drop (i:Int).toNat=[x].map aC:=by
    rw[show((i:Int)+1).toNat=i+1 by omega,Int.toNat_natCast,abR,abJ,hx,List.drop_append_of_le_length (by rw[ab2];omega),List.drop_of_length_le (by rw[ab2];omega)];rfl
   have hm:=(Bw f.ps [x] (by omega) (by simp) (by simp only[List.length_cons,List.length_nil];omega) (by
    have:f.ps.length*(f.ps.length*(([x]:List Lt).length+1)+1)<=200*(200*(([x]:List Lt).length+1)+1):=Nat.mul_le_mul hfp (by simp only[List.length_cons,List.length_nil];omega)
    simp only[List.length_cons,List.length_nil]at this⊢;omega)).ok
   unfold aU at hm
   rw[<-iw]at hm
   refine⟨fun _=>⟨by show(0:Int)<=i;omega,by show(i:Int)<=i+1;omega,by show(i:Int)+1<=_;omega⟩,?_⟩
   repeat first|refine g1 ?_|refine g2 ?_|refine g3 ?_
   refine .inl ⟨_,fun _=>hm,?_⟩
   repeat first|refine g1 ?_|refine g2 ?_|refine g3 ?_
   refine⟨by kernel_rfl,?_⟩
   refine abG ?_ ?_
   ·intro h
    have h:=eh h
    have ht:Pl x f=true:=by
     unfold Pl
     rw[ab4 (beq_iff_eq.1 h.1),Bool.true_and,acm,ack]
     intro e
     have h2:=abY h.2
     rw[e]at h2
     exact absurd h2 (by decide)
    rw[Pm,show R.fl.any (Pl x)=true from List.any_eq_true.2 ⟨f,Xl,ht⟩]
    exact ext (by kernel_rfl) rfl rfl
   ·intro h
    have h:=mQ h
    have ht:Pl x f=false:=by
     rw[<-Bool.not_eq_true]
     intro ht
     unfold Pl at ht
     rw[acj,ach,acm,ack]at ht
     refine h ⟨beq_iff_eq.2 ht.1,ab4 ?_⟩
     have:=List.length_pos_iff.2 ht.2
     rw[abH];omega
    exact⟨fun _=>⟨by omega,by omega⟩,j+1,jn rfl rfl rfl rfl,⟨by omega,fun q hq=>by
     rw[abR,oH]at hq
     rcases abQ.1 hq with hq|hq
     ·exact bq q hq
     ·simp at hq;subst hq;exact ht⟩,mlt Xk⟩
  ·intro h
   have he:j=R.fl.length:=by have:=abZ h;omega
   subst he
   rw[abX]at bq
   have ha:R.fl.any (Pl x)=false:=by rw[List.any_eq_false];intro f hf;rw[bq f hf];simp
   rw[ha]at Pm
   exact⟨fun _=>⟨by omega,by omega⟩,i+1,jn rfl rfl rfl rfl,⟨by omega,Pm⟩,mlt au⟩
 ·intro h
  have he:i=ps.length:=by have:=abZ h;omega
  subst he
  rw[List.drop_length]at hd
  rw[hd]
  exact ext (by kernel_rfl) rfl rfl
end
section
open Go.TM
variable [bG]
def okF(it:Int)(x:Lt)(f:qy):Bool:=decide (f.kind≠6/\f.to=0/\f.it=it)&&td [x] [⟨f.id,0,f.n⟩]
def J9(x:Lt)(f:qy):Bool:=decide (f.kind=9)&&decide (f.fr=0)&& !decide (LH f.ps [x]=[])
def u6(fl:List qy)(it:Int):List Lt->Int
 |[]=>0
 |x::r=>bif fl.any (J9 x)|| !fl.any (okF it x)then 10 else u6 fl it r
theorem Pn{p:qy->Bool}{l:List qy}{j:Nat}{f:qy}(h:l[j]?=some f):(l.take (j+1)).any p=((l.take j).any p||p f):=by
 rw[abR,h,List.any_append];simp
theorem LO(R:RL)(m:fa)(hl:m.ps.length<=5000)(hf:R.fl.length<=1000000)(lP:∀f∈R.fl,f.ps.length<=200):ar Tryz.prog 156 [.ptr 0 0,cY (ak m)] 4 (dU R) 0 [.dv (I (u6 R.fl m.it m.ps))] (dU R):=by
 refine cO Tryz.func156 rfl (by kernel_rfl) ?_
 refine⟨Nat,fun i=>⟨5,[(0,.ptr 0 0),(3,.ptr 4 0),(5,.dv (I i))],dU R++[(4,.cells (fc (ak m).cells))]⟩,fun i=>i<=m.ps.length/\u6 R.fl m.it m.ps=u6 R.fl m.it (m.ps.drop i),fun i=>m.ps.length-i,0,fun _=>rfl,jn rfl rfl rfl rfl,⟨abW _,rfl⟩,?_⟩
 rintro i ⟨hi,hd⟩
 have lp:(m.ps.map aC).length=m.ps.length:=abH ..
 have lf:(R.fl.map bB).length=R.fl.length:=abH ..
 refine abG ?_ ?_
 ·intro h
  have au:i<m.ps.length:=by have:=abY h;omega
  obtain⟨x,hx⟩:∃x,m.ps[i]?=some x:=⟨_,aaj au⟩
  have aH:m.ps.drop i=x::m.ps.drop (i+1):=by
   rw[List.drop_eq_getElem_cons au,(abI.1 hx).2]
  rw[aH]at hd
  have Pm:u6 R.fl m.it m.ps=bif R.fl.any (J9 x)|| !R.fl.any (okF m.it x)then 10 else u6 R.fl m.it (m.ps.drop (i+1)):=hd
  have iw:((m.ps.map aC).take ((i:Int)+1).toNat).drop (i:Int).toNat=[x].map aC:=by
   rw[show((i:Int)+1).toNat=i+1 by omega,Int.toNat_natCast,abR,abJ,hx,List.drop_append_of_le_length (by rw[ab2];omega),List.drop_of_length_le (by rw[ab2];omega)];rfl
  refine⟨Nat,fun j=>⟨5,[(0,.ptr 0 0),(3,.ptr 4 0),(5,.dv (I i)),(6,.dv (B ((R.fl.take j).any (okF m.it x)))),(7,.dv (I j))],dU R++[(4,.cells (fc (ak m).cells))]⟩,fun j=>j<=R.fl.length/\∀f∈R.fl.take j,J9 x f=false,fun j=>R.fl.length-j,0,fun _=>rfl,jn rfl rfl rfl rfl,⟨abW _,fun _ h=>by simp at h⟩,?_⟩
  rintro j ⟨hj,bq⟩
  refine abG ?_ ?_
  ·intro h
   have Xk:j<R.fl.length:=by have:=abY h;omega
   obtain⟨f,oH⟩:∃f,R.fl[j]?=some f:=⟨_,aaj Xk⟩
   have Xl:=abK oH
   have jf:(R.fl.map bB)[(j:Int).toNat]?=some (bB f):=by rw[abJ];simp[oH]
   have hfp:=lP f Xl
   have dZ:=Pn (p:=okF m.it x) oH
   have hm:=(Bw f.ps [x] (by omega) (by simp) (by simp only[List.length_cons,List.length_nil];omega) (by
    have:f.ps.length*(f.ps.length*(([x]:List Lt).length+1)+1)<=200*(200*(([x]:List Lt).length+1)+1):=Nat.mul_le_mul hfp (by simp only[List.length_cons,List.length_nil];omega)
    simp only[List.length_cons,List.length_nil]at this⊢;omega)).ok
   have hw:=(vW [x] [⟨f.id,0,f.n⟩] (by simp) (by simp) (by simp)).ok
   unfold aU at hm hw
   rw[<-iw]at hm hw
   refine⟨fun _=>⟨by omega,by omega⟩,bB f,fun _=>jf,?_⟩
   refine .inl ⟨[aC ⟨f.id,0,f.n⟩],rfl,⟨rf,rf,rf,tv⟩,(by simp;rfl),?_⟩
   refine⟨fun _=>⟨by omega,by omega⟩,fun _=>⟨by show(0:Int)<=i;omega,by show(i:Int)<=i+1;omega,by show(i:Int)+1<=_;omega⟩,?_⟩
   refine .inl ⟨_,fun _=>hw,?_⟩
   repeat first|apply g1|apply g2|apply g3|apply g4|apply g5
   have Zb:okF m.it x f=(bif bif bif f.kind !=6 then f.to==0 else false then f.it==m.it else false then td [x] [⟨f.id,0,f.n⟩]else false):=by
    unfold okF
    rw[ace];simp[and_assoc]
   refine abG ?_ ?_
   ·intro h
    have cr:okF m.it x f=true:=Zb.trans h
    repeat first|refine g1 ?_|refine g2 ?_|refine g3 ?_|refine⟨fun _=>⟨by omega,by omega⟩,?_⟩
    refine⟨fun _=>⟨by show(0:Int)<=i;omega,by show(i:Int)<=i+1;omega,by show(i:Int)+1<=_;omega⟩,?_⟩
    repeat first|refine g1 ?_|refine g2 ?_|refine g3 ?_
    refine .inl ⟨_,fun _=>hm,?_⟩
    repeat first|refine g1 ?_|refine g2 ?_|refine g3 ?_
    refine⟨by kernel_rfl,?_⟩
    refine abG ?_ ?_
    ·intro h
     have h:=eh h
     have h1:=eh h.1
     have ht:J9 x f=true:=by
      unfold J9
      rw[ab4 (beq_iff_eq.1 h1.1),ab4 (beq_iff_eq.1 h1.2),Bool.true_and,Bool.true_and,acm,ack]
      intro e
      have h2:=abY h.2
      rw[e]at h2
      exact absurd h2 (by decide)
     rw[Pm,show R.fl.any (J9 x)=true from List.any_eq_true.2 ⟨f,Xl,ht⟩]
     exact ext (by kernel_rfl) rfl rfl
    ·intro h
     have h:=mQ h
     have ht:J9 x f=false:=by
      rw[<-Bool.not_eq_true]
      intro ht
      unfold J9 at ht
      simp only[acj,ach,acm,ack]at ht
      refine h ⟨by rw[beq_iff_eq.2 ht.1.1,beq_iff_eq.2 ht.1.2];rfl,ab4 ?_⟩
      have:=List.length_pos_iff.2 ht.2
      rw[abH];omega
     exact⟨fun _=>⟨by omega,by omega⟩,j+1,jn (by simp only[dZ,cr,Bool.or_true];rfl) rfl rfl rfl,⟨by omega,fun q hq=>by
      rw[abR,oH]at hq
      rcases abQ.1 hq with hq|hq
      ·exact bq q hq
      ·simp at hq;subst hq;exact ht⟩,mlt Xk⟩
   ·intro h
    have cr:okF m.it x f=false:=Zb.trans h
    repeat first|refine g1 ?_|refine g2 ?_|refine g3 ?_|refine⟨fun _=>⟨by omega,by omega⟩,?_⟩
    refine⟨fun _=>⟨by show(0:Int)<=i;omega,by show(i:Int)<=i+1;omega,by show(i:Int)+1<=_;omega⟩,?_⟩
    repeat first|refine g1 ?_|refine g2 ?_|refine g3 ?_
    refine .inl ⟨_,fun _=>hm,?_⟩
    repeat first|refine g1 ?_|refine g2 ?_|refine g3 ?_
    refine⟨by kernel_rfl,?_⟩
    refine abG ?_ ?_
    ·intro h
     have h:=eh h
     have h1:=eh h.1
     have ht:J9 x f=true:=by
      unfold J9
      rw[ab4 (beq_iff_eq.1 h1.1),ab4 (beq_iff_eq.1 h1.2),Bool.true_and,Bool.true_and,acm,ack]
      intro e
      have h2:=abY h.2
      rw[e]at h2
      exact absurd h2 (by decide)
     rw[Pm,show R.fl.any (J9 x)=true from List.any_eq_true.2 ⟨f,Xl,ht⟩]
     exact ext (by kernel_rfl) rfl rfl
    ·intro h
     have h:=mQ h
     have ht:J9 x f=false:=by
      rw[<-Bool.not_eq_true]
      intro ht
      unfold J9 at ht
      simp only[acj,ach,acm,ack]at ht
      refine h ⟨by rw[beq_iff_eq.2 ht.1.1,beq_iff_eq.2 ht.1.2];rfl,ab4 ?_⟩
      have:=List.length_pos_iff.2 ht.2
      rw[abH];omega
     exact⟨fun _=>⟨by omega,by omega⟩,j+1,jn (by simp only[dZ,cr,Bool.or_false];rfl) rfl rfl rfl,⟨by omega,fun q hq=>by
      rw[abR,oH]at hq
      rcases abQ.1 hq with hq|hq
      ·exact bq q hq
      ·simp at hq;subst hq;exact ht⟩,mlt Xk⟩
  ·intro h
   have he:j=R.fl.length:=by have:=abZ h;omega
   subst he
   rw[abX]at bq
   have ha:R.fl.any (J9 x)=false:=by rw[List.any_eq_false];intro f hf;rw[bq f hf];simp
   rw[ha,Bool.false_or]at Pm
   simp only[abX]
   refine abG ?_ ?_
   ·intro h
    rw[Pm,show(!R.fl.any (okF m.it x))=true from h]
    exact ext (by kernel_rfl) rfl rfl
   ·intro h
    rw[show(!R.fl.any (okF m.it x))=false from h]at Pm
    exact⟨fun _=>⟨by omega,by omega⟩,i+1,jn rfl rfl rfl rfl,⟨by omega,Pm⟩,mlt au⟩
 ·intro h
  have he:i=m.ps.length:=by have:=abZ h;omega
  subst he
  rw[List.drop_length]at hd
  rw[hd]
  exact ext (by kernel_rfl) rfl rfl
end
end Go.Proofs.YtknnpcfhekkjjaaGreatDoor
