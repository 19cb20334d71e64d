import Derived.Test.YtfpebgpgabjieaaGreatDoorGM19
import Derived.Test.YtfpebgpgabjieaaGreatDoorGM20
set_option linter.all false
open Go.TM.oA Go.TM.oB Go.TM.oC Go.TM.oD Go.TM.oE
namespace Go.Proofs.YtfpebgpgabjieaaGreatDoor
set_option maxRecDepth 100000
set_option maxHeartbeats 4000000
section
open Go.TM
def abf(a b c:Nat)(R:RL):List AV:=.dv (I R.sh)::eP iG++[.own 1 a 0 [],.own 2 b 0 [],.own 3 c 0 []]
def jC(a b c:Nat)(R:RL):ad:=[(0,.cells (abf a b c R)),(1,.tree a 0 (.aD 3 (R.st.map iK))),(2,.tree b 0 (.aD 11 (R.fl.map ar))),(3,.tree c 0 (.aD 7 (R.sp.map aP)))]
def u7(R:RL)(k:Ky)(l:List Lt):RL:={ R with st:=aH R.st k l }
variable [bj]
theorem bK3{n:Nat}(h:n<=1000000):n*(nth na (nth na 167).elem).bytes<=140737488355328:=by
 rw[show(nth na (nth na 167).elem).bytes=40 by kernel_rfl];omega
theorem Us(R:RL)(a i:Int)(l:List Lt)(hn:R.st.length<=100000)(hc:¬ri R.st (a,i)<R.st.length):aj Tryz.prog 130 [.ptr 0 0,.dv (I a),.dv (I i),.dv (aQ l)] 4 (dq R) 0 [] (jC 1 0 0 (u7 R (a,i) l)):=by
 have e:aH R.st (a,i) l=R.st++[((a,i),l)]:=by rw[C4,if_neg hc]
 have hf:=find_spec R a i hn
 rw[if_neg hc]at hf
 refine cO Tryz.func130 rfl (by kernel_rfl) ?_
 refine .inr (cl [0,1,2,3] hf (by kernel_rfl) rfl rfl ?_)
 refine adN (fun _=>?_) fun h=>by simp at h
 refine .inl ⟨[iK ((a,i),l)],rfl,⟨rf,rf,rf,tv⟩,(by simp;rfl),?_⟩
 refine .inr ⟨[iK ((a,i),l)],bV.refl _,bK3 (by simp;omega),by simp;omega,?_⟩
 refine ext (by kernel_rfl) rfl ?_
 simp only[u7,e,jC,ad7]
 rfl
theorem Qa(R:RL)(a i:Int)(l:List Lt)(hn:R.st.length<=100000)(hc:ri R.st (a,i)<R.st.length):aj Tryz.prog 130 [.ptr 0 0,.dv (I a),.dv (I i),.dv (aQ l)] 4 (dq R) 0 [] (jC 1 0 0 (u7 R (a,i) l)):=by
 have e:aH R.st (a,i) l=R.st.set (ri R.st (a,i)) ((a,i),l):=by rw[C4,if_pos hc]
 have hf:=find_spec R a i hn
 rw[if_pos hc]at hf
 have hx:=PX hc
 generalize ri R.st (a,i)=q at*
 refine r6 (i:=1) (e0:=0) (K1:=[(0,.cells (.dv (I R.sh)::eP iG++[.own 1 0 0 [],.own 2 0 0 [],.own 3 0 0 []])),(1,.tree 0 0 (.aD 3 ((aH R.st (a,i) l).map iK))),(2,.tree 0 0 (.aD 11 (R.fl.map ar))),(3,.tree 0 0 (.aD 7 (R.sp.map aP)))]) ?_ (by omega) ⟨_,rfl,rfl,fun j hj=>?_⟩
 ·refine cO Tryz.func130 rfl (by kernel_rfl) ?_
  refine .inr (cl [0,1,2,3] hf (by kernel_rfl) rfl rfl ?_)
  refine adN (fun h=>by have:=ad5 h;omega) fun _=>?_
  refine⟨fun _=>⟨by omega,by rw[adO];omega⟩,[aQ l],⟨rf,tv⟩,iK ((a,i),bC R.st (a,i)),by rw[adQ];simp[hx],?_⟩
  refine ext (by kernel_rfl) rfl ?_
  simp only[e,List.map_set]
  rfl
 ·match j,hj with
  |0,_=>exact .cells (.same _ (.same _ (.same _ (.same _ (.same _ (.rU (.same _ (.same _ .nil))))))))
  |2,_=>exact .refl _
  |3,_=>exact .refl _
  |j+4,_=>exact .refl _
theorem nY(R:RL)(a i:Int)(l:List Lt)(hn:R.st.length<=100000):aj Tryz.prog 130 [.ptr 0 0,.dv (I a),.dv (I i),.dv (aQ l)] 4 (dq R) 0 [] (jC 1 0 0 (u7 R (a,i) l)):=by
 by_cases hc:ri R.st (a,i)<R.st.length
 ·exact Qa R a i l hn hc
 ·exact Us R a i l hn hc
end
section
open Go.TM
def AB(it:Int)(p:Ky×List Lt):Int:=if p.1.2=it then cu p.2 else 0
def bN(m:SM)(it:Int):Int:=(m.map (AB it)).sum
def eW(l:List cG):Int:=match l.getLast? with
 |some s=>s.tick
 |none=>0
theorem I1(l:List Lt):0<=cu l/\cu l<=4503599627370496:=by
 unfold cu
 cases hv:bz l with
 |false=>exact⟨Int.le_refl _,by show(0:Int)<=_;omega⟩
 |true=>
  obtain⟨h1,h2⟩:=dE hv
  have:=CY fun x hx=>gQ (h2 x hx)
  show 0<=aJ l/\aJ l<=_
  omega
theorem Qb(it:Int)(p:Ky×List Lt):0<=AB it p/\AB it p<=4503599627370496:=by
 have:=I1 p.2
 unfold AB;split<;>omega
theorem yY(it:Int):∀m:SM,0<=bN m it/\bN m it<=4503599627370496*m.length
 |[]=>by simp[bN]
 |p::m=>by
  have h1:=Qb it p
  have h2:=yY it m
  simp only[bN,List.map_cons,List.sum_cons,List.length_cons]at*
  omega
theorem MI{m:SM}{it:Int}{j:Nat}{p:Ky×List Lt}(h:m[j]?=some p):bN (m.take (j+1)) it=bN (m.take j) it+AB it p:=by
 unfold bN;rw[adY,h,ad7,List.sum_append];simp
variable [bj]
theorem FZ(R:RL)(it:Int)(hn:R.st.length<=1000)(hl:∀p∈R.st,p.2.length<=1000000):aj Tryz.prog 128 [.ptr 0 0,.dv (I it)] 4 (dq R) 0 [.dv (I (bN R.st it))] (dq R):=by
 refine cO Tryz.func128 rfl (by kernel_rfl) ?_
 refine⟨Nat,fun j=>⟨4,[(0,.ptr 0 0),(1,.dv (I it)),(5,.dv (I (bN (R.st.take j) it))),(6,.dv (I j))],dq R⟩,fun j=>j<=R.st.length,fun j=>R.st.length-j,0,fun _=>rfl,jn rfl rfl rfl rfl,ad3 _,?_⟩
 rintro j hj
 refine adN ?_ ?_
 ·intro h
  have ay:j<R.st.length:=by have:=ad5 h;rw[adO]at this;omega
  obtain⟨p,hp⟩:∃p,R.st[j]?=some p:=⟨_,ace ay⟩
  have ip:(R.st.map iK)[(j:Int).toNat]?=some (iK p):=by rw[adQ];simp[hp]
  have dD:=MI (it:=it) hp
  have b1:=yY it (R.st.take j)
  have b2:=I1 p.2
  have b3:(R.st.take j).length<=1000:=by rw[ad9];omega
  refine⟨fun _=>⟨by omega,by rw[adO];omega⟩,iK p,fun _=>ip,?_⟩
  refine adN ?_ ?_
  ·intro h
   have e:AB it p=cu p.2:=if_pos (beq_iff_eq.1 h)
   rw[e]at dD
   refine⟨fun _=>⟨by omega,by rw[adO];omega⟩,iK p,fun _=>ip,?_⟩
   refine .inl ⟨_,fun _=>(nb p.2 (hl p (adR hp))).ok,?_⟩
   exact⟨fun _=>by omega,fun _=>by omega,j+1,jn (by simp only[dD];rfl) rfl rfl rfl,by omega,mlt ay⟩
  ·intro h
   have e:AB it p=0:=if_neg (beq_eq_false_iff_ne.1 h)
   rw[e,Int.add_zero]at dD
   exact⟨fun _=>by omega,j+1,jn (by simp only[dD];rfl) rfl rfl rfl,by omega,mlt ay⟩
 ·intro h
  have he:j=R.st.length:=by have:=ad6 h;rw[adO]at this;omega
  subst he
  simp only[ad4]
  exact ext (by kernel_rfl) rfl rfl
theorem MJ(R:RL)(hn:R.sp.length<=1000000):aj Tryz.prog 122 [.ptr 0 0] 4 (dq R) 0 [.dv (I (eW R.sp))] (dq R):=by
 refine cO Tryz.func122 rfl (by kernel_rfl) ?_
 rcases List.eq_nil_or_concat R.sp with hR|⟨r,s,hR⟩
 ·have e1:(R.sp.map aP).length=0:=by rw[hR];rfl
  have e2:eW R.sp=0:=by rw[hR];rfl
  rw[e2]
  exact adN (fun _=>ext (by kernel_rfl) rfl rfl) fun h=>by have:=beq_eq_false_iff_ne.1 h;rw[e1]at this;omega
 ·rw[List.concat_eq_append]at hR
  have e1:(R.sp.map aP).length=r.length+1:=by rw[hR];simp
  have hl:r.length+1<=1000000:=by rw[hR]at hn;simpa using hn
  have e2:eW R.sp=s.tick:=by rw[hR];simp[eW]
  refine adN (fun h=>by have:=beq_iff_eq.1 h;rw[e1]at this;omega) fun _=>?_
  refine⟨fun _=>by omega,fun _=>by omega,aP s,fun _=>by rw[e1,show(((r.length+1:Nat):Int)-1).toNat=r.length by omega,hR];simp,?_⟩
  rw[e2]
  exact⟨by kernel_rfl,ext (by kernel_rfl) rfl rfl⟩
end
section
open Go.TM
theorem BI{α:Type}{e:α->DV}(h:∀x,(e x).aW)(l:List α):∀x,x∈l.map e->x.aW:=fun x hx=>by
 obtain⟨y,_,rfl⟩:=aeg.1 hx
 exact h y
theorem abg(p:Ky×List Lt):(iK p).aW:=fun d hd=>by
 simp only[iK,DV.cells,adV,List.mem_nil_iff,or_false]at hd
 rcases hd with rfl|rfl|rfl<;>rfl
theorem Wj(p:bp):(ar p).aW:=fun d hd=>by
 simp only[ar,DV.cells,adV,List.mem_nil_iff,or_false]at hd
 rcases hd with rfl|rfl|rfl|rfl|rfl|rfl|rfl|rfl|rfl|rfl|rfl<;>rfl
theorem abh(p:cG):(aP p).aW:=fun d hd=>by
 simp only[aP,DV.cells,adV,List.mem_nil_iff,or_false]at hd
 rcases hd with rfl|rfl|rfl|rfl|rfl|rfl|rfl<;>rfl
variable [bj]
theorem bF{n:Nat}(h:n<=1000000):n*(nth na (nth na 38).elem).bytes<=140737488355328:=by
 rw[show(nth na (nth na 38).elem).bytes=120 by kernel_rfl];omega
theorem bS{n:Nat}(h:n<=1000000):n*(nth na (nth na 25).elem).bytes<=140737488355328:=by
 rw[show(nth na (nth na 25).elem).bytes=72 by kernel_rfl];omega
def acE(R:RL):ad:=[(4,.cells (.dv (I R.sh)::eP iG++[.own 5 0 0 [],.own 6 0 0 [],.own 7 0 0 []])),(5,.tree 0 0 (.aD 3 (R.st.map iK))),(6,.tree 0 0 (.aD 11 (R.fl.map ar))),(7,.tree 0 0 (.aD 7 (R.sp.map aP)))]
theorem I2(R:RL)(h1:R.st.length<=1000000)(h2:R.fl.length<=1000000)(h3:R.sp.length<=1000000):aj Tryz.prog 89 [.ptr 0 0] 4 (dq R) 4 [.ptr 4 0] (dq R++acE R):=by
 refine cO Tryz.func89 rfl (by kernel_rfl) ?_
 refine⟨by kernel_rfl,?_⟩
 refine .inr (.inl ⟨BI abg R.st,R.st.map iK,bV.refl _,bK3 (by rw[adO];omega),by rw[adO];omega,?_⟩)
 refine⟨by kernel_rfl,?_⟩
 refine .inr (.inl ⟨BI Wj R.fl,R.fl.map ar,bV.refl _,bF (by rw[adO];omega),by rw[adO];omega,?_⟩)
 refine⟨by kernel_rfl,?_⟩
 refine .inr (.inl ⟨BI abh R.sp,R.sp.map aP,bV.refl _,bS (by rw[adO];omega),by rw[adO];omega,?_⟩)
 exact⟨by kernel_rfl,ext (by kernel_rfl) rfl rfl⟩
theorem F0(k:Int):aR Tryz.prog 123 [I k] [B (decide (k=5\/k=7\/k=9))]:=by
 refine pO Tryz.func123 rfl (by kernel_rfl) rfl ?_
 repeat refine gG ?_
 refine⟨DV.Le.of_eq ?_,tv⟩
 congr 1
 rw[aek];simp[or_assoc]
def mg(k:Int)(m:c5):Bool:=
 if k=0\/k=5 then decide (m.fr=0)else if k=1\/k=6 then decide (m.to=0)else if k=7 then decide (0<m.fr)else if k=9 then decide (0<m.to)else decide (0<m.fr/\0<m.to)
theorem MK(k:Int)(m:c5):aR Tryz.prog 126 [I k,aq m] [B (mg k m)]:=by
 refine pO Tryz.func126 rfl (by kernel_rfl) rfl ?_
 repeat' first|exact trivial|assumption|refine g1 ?_|refine g3 ?_|refine adN ?_ ?_|refine DV.Le.of_eq ?_|intro h
 all_goals(congr 1;rw[aek];simp_all [mg])
end
section
open Go.TM
def di(m:c5):Bool:=decide (0<=m.it/\m.it<5/\1<=m.n/\m.n<=1099511627776/\m.fr≠m.to/\0<=m.fr/\0<=m.to/\m.fr<=1073741824/\m.to<=1073741824)
variable [bj]
def AD(m:c5)(p:Bool):Bool:=di m&&bif p then bz m.ps&&decide (cu m.ps=m.n)&&decide (cu (kF m.ps)=m.n)else decide (m.ps=[])
theorem I3(R:RL)(m:c5)(p:Bool)(hl:m.ps.length<=4000):aj Tryz.prog 124 [.ptr 0 0,cx (aq m),.dv (B p)] 4 (dq R) 0 [.dv (B (AD m p))] (dq R):=by
 refine cO Tryz.func124 rfl (by kernel_rfl) ?_
 repeat refine gG ?_
 have ku:(CX (I 2) (I 20)).length=5:=rfl
 refine⟨by kernel_rfl,?_⟩
 refine adN ?_ ?_
 ·intro h
  have hb:di m=false:=by
   unfold di
   rw[aeq]
   simp at h
   omega
  have:AD m p=false:=by unfold AD;rw[hb];rfl
  rw[this]
  exact ext (by kernel_rfl) rfl rfl
 intro h
 have hb:di m=true:=by
  unfold di
  rw[aen]
  simp at h
  omega
 have hm:AD m p=bif p then bz m.ps&&decide (cu m.ps=m.n)&&decide (cu (kF m.ps)=m.n)else decide (m.ps=[]):=by unfold AD;rw[hb];rfl
 rw[hm]
 cases p with
 |false=>
  refine adN (fun _=>?_) fun h=>by cases h
  rw[show(bif false then bz m.ps&&decide (cu m.ps=m.n)&&decide (cu (kF m.ps)=m.n)else decide (m.ps=[]))=((((m.ps.map ax).length:Nat):Int)==0)from(abb m.ps).symm]
  exact ext (by kernel_rfl) rfl rfl
 |true=>
  refine adN (fun h=>by cases h) fun _=>?_
  refine .inl ⟨_,fun _=>(gz m.ps (by omega)).ok,?_⟩
  repeat refine gG ?_
  refine .inl ⟨_,fun _=>(nb m.ps (by omega)).ok,?_⟩
  repeat refine gG ?_
  refine .inl ⟨_,fun _=>(BA m.ps (by omega)).ok,?_⟩
  repeat refine gG ?_
  have gl:=(pS m.ps).1
  refine .inl ⟨_,fun _=>(nb (kF m.ps) (by omega)).ok,?_⟩
  repeat refine gG ?_
  refine⟨by kernel_rfl,?_⟩
  rw[show(bif true then bz m.ps&&decide (cu m.ps=m.n)&&decide (cu (kF m.ps)=m.n)else decide (m.ps=[]))=(bif bif bz m.ps then cu m.ps==m.n else false then cu (kF m.ps)==m.n else false)by
   rw[aek];cases bz m.ps<;>simp]
  exact ext (by kernel_rfl) rfl rfl
end
section
open Go.TM
def m0:c5:=⟨0,0,0,0,[]⟩
def Qc(r:Int):Int:=if r<0 then -2-r else r
def XZ(r:Int)(x:S1):List Ky:=if r<0 then x.bk else x.gv
def gR(mv:List c5)(tm:Int)(tk gv:List Ky)(k:Nat):Bool:=
 if k<tk.length then decide ((mv.getD k m0).fr=(mv.getD 0 m0).fr/\1<=(mv.getD k m0).fr/\(mv.getD k m0).to=0/\(mv.getD k m0).it=(tk.getD k (0,0)).1/\(mv.getD k m0).n=(tk.getD k (0,0)).2*tm)
 else decide ((mv.getD k m0).fr=0/\1<=(mv.getD k m0).to/\(mv.getD k m0).to=(mv.getD (mv.length-1) m0).to/\(mv.getD k m0).it=(gv.getD (k-tk.length) (0,0)).1/\(mv.getD k m0).n=(gv.getD (k-tk.length) (0,0)).2*tm)
def qY(s:cG):Bool:=
 if Qc s.aM<0\/5<=Qc s.aM\/s.times<1\/1048576<s.times then false else match dA[(Qc s.aM).toNat]? with
  |some r=>bif r.sp then false else if(s.aM<0/\r.ch=r.of)\/s.mv.length≠r.tk.length+(XZ s.aM r).length then false else(List.range s.mv.length).all (gR s.mv s.times r.tk (XZ s.aM r))
  |none=>false
theorem C6{i:Nat}{r:S1}(h:dA[i]?=some r):(∀p∈r.tk,0<=p.2/\p.2<=100)/\(∀p∈r.gv,0<=p.2/\p.2<=100)/\(∀p∈r.bk,0<=p.2/\p.2<=100):=by
 have:∀r∈dA,(∀p∈r.tk,0<=p.2/\p.2<=100)/\(∀p∈r.gv,0<=p.2/\p.2<=100)/\(∀p∈r.bk,0<=p.2/\p.2<=100):=by
  intro r hr
  simp only[dA,adV,List.mem_nil_iff,or_false]at hr
  rcases hr with rfl|rfl|rfl|rfl|rfl<;>decide
 exact this r (adR h)
theorem C7{i:Nat}{r:S1}(h:dA[i]?=some r):r.tk.length<=10/\r.gv.length<=10/\r.bk.length<=10:=by
 have:∀r∈dA,r.tk.length<=10/\r.gv.length<=10/\r.bk.length<=10:=by
  intro r hr
  simp only[dA,adV,List.mem_nil_iff,or_false]at hr
  rcases hr with rfl|rfl|rfl|rfl|rfl<;>decide
 exact this r (adR h)
theorem vU{a t:Int}(ha:0<=a/\a<=100)(ht:1<=t/\t<=1048576):0<=a*t/\a*t<=104857600:=
 ⟨Int.mul_nonneg ha.1 (by omega),Int.le_trans (Int.mul_le_mul ha.2 ht.2 (by omega) (by omega)) (by omega)⟩
variable [bj]
theorem F1(R:RL)(s:cG)(hr:vP s.aM)(hl:s.mv.length<=1000)(h1:1<=s.mv.length):aj Tryz.prog 125 [.ptr 0 0,cx (aP s)] 4 (dq R) 0 [.dv (B (qY s))] (dq R):=by
 refine cO Tryz.func125 rfl (by kernel_rfl) ?_
 have SS:-9223372036854775808<=s.aM/\s.aM<=9223372036854775807:=hr
 have Ut:(dA.map ij).length=5:=rfl
 have acF:dA.length=5:=rfl
 refine adN ?_ ?_
 ·intro lE
  have lE:=ad5 lE
  refine⟨fun _=>by omega,?_⟩
  repeat refine gG ?_
  have hI:Qc s.aM=(-2-s.aM):=if_pos lE
  have hG:∀r,XZ s.aM r=r.bk:=fun r=>if_pos lE
  obtain⟨r,vG⟩:∃r,0<=(-2-s.aM)/\(-2-s.aM)<5->dA[(-2-s.aM).toNat]?=some r:=⟨(dA[(-2-s.aM).toNat]?).getD ⟨⟨#[]⟩,false,0,0,0,0,[],[],[]⟩,fun h=>by rw[ace (show(-2-s.aM).toNat<dA.length from(show(-2-s.aM).toNat<5 by omega))];rfl⟩
  have Qd:0<=(-2-s.aM)/\(-2-s.aM)<5->(dA.map ij)[(-2-s.aM).toNat]?=some (ij r):=fun h=>by rw[adQ,vG h];rfl
  refine⟨ij r,fun h=>?_,?_⟩
  ·simp[bw]at h
   exact⟨by omega,Qd (by omega)⟩
  repeat refine gG ?_
  refine adN ?_ ?_
  ·intro h
   have hc:qY s=false:=by
    unfold qY
    rw[hI]
    split
    ·rfl
    ·rename_i hn
     rw[vG (by omega)]
     have:r.sp=true:=by
      have h:=h
      rw[aec (show¬(-2-s.aM)<0 by omega),aec (show¬((dA.map ij).length:Int)<=(-2-s.aM)by omega),aec (show¬s.times<1 by omega),aec (show¬1048576<s.times by omega)]at h
      exact h
     simp only[this,cond_true]
   rw[hc]
   exact ext (by kernel_rfl) rfl rfl
  intro h
  have dr:(0<=(-2-s.aM)/\(-2-s.aM)<5)/\1<=s.times/\s.times<=1048576/\r.sp=false:=by
   simp at h
   exact⟨by omega,by omega,by omega,h.2⟩
  obtain⟨tl1,tl2,tl3⟩:=C7 (vG dr.1)
  have jT:qY s=if(s.aM<0/\r.ch=r.of)\/s.mv.length≠r.tk.length+(r.bk).length then false else(List.range s.mv.length).all (gR s.mv s.times r.tk (r.bk)):=by
   unfold qY
   rw[hI,if_neg (by omega),vG dr.1]
   simp only[dr.2.2.2,cond_false,hG]
  repeat first|refine gG ?_|refine⟨ij r,fun _=>⟨by omega,Qd dr.1⟩,?_⟩|refine⟨fun _=>⟨by rw[adO,adO];omega,by rw[adO,adO];omega⟩,?_⟩
  refine adN (fun _=>?_) fun h=>absurd lE (ad6 h)
  repeat first|refine gG ?_|refine⟨ij r,fun _=>⟨by omega,Qd dr.1⟩,?_⟩|refine⟨fun _=>⟨by rw[adO,adO];omega,by rw[adO,adO];omega⟩,?_⟩
  refine⟨by kernel_rfl,?_⟩
  refine adN ?_ ?_
  ·intro h
   have hc:qY s=false:=by
    rw[jT,if_pos]
    rw[adO,adO,adO]at h
    simp at h
    rcases h with h|h
    ·exact .inl h
    ·exact .inr (by omega)
   rw[hc]
   exact ext (by kernel_rfl) rfl rfl
  intro h
  have F2:¬((s.aM<0/\r.ch=r.of)\/s.mv.length≠r.tk.length+(r.bk).length):=by
   rw[adO,adO,adO]at h
   simp at h
   rintro(hh|hh)
   ·exact h.1 hh.1 hh.2
   ·omega
  rw[if_neg F2]at jT
  have Uu:s.mv.length=r.tk.length+(r.bk).length:=by omega
  rw[jT]
  generalize oH:r.bk=gv at*
  refine⟨Nat,fun k=>⟨5,[(3,.ptr 4 0),(6,.dv (.sl 2 (r.tk.map fI))),(7,.dv (.sl 2 (gv.map fI))),(8,.dv (I k))],dq R++[(4,.cells (eP (aP s).cells))]⟩,fun k=>k<=s.mv.length/\∀j,j<k->gR s.mv s.times r.tk gv j=true,fun k=>s.mv.length-k,0,fun _=>rfl,jn rfl rfl rfl rfl,⟨ad3 _,fun j hj=>absurd hj (by omega)⟩,?_⟩
  rintro k ⟨hk,bK⟩
  refine adN ?_ ?_
  ·intro h
   have ay:k<s.mv.length:=by have:=ad5 h;rw[adO]at this;omega
   obtain⟨m,hm⟩:∃m,s.mv[k]?=some m:=⟨_,ace ay⟩
   obtain⟨f,hf⟩:∃f,s.mv[0]?=some f:=⟨_,ace (show 0<s.mv.length by omega)⟩
   obtain⟨g,hg⟩:∃g,s.mv[s.mv.length-1]?=some g:=⟨_,ace (show s.mv.length-1<s.mv.length by omega)⟩
   have dm:s.mv.getD k m0=m:=by rw[adT,hm];rfl
   have df:s.mv.getD 0 m0=f:=by rw[adT,hf];rfl
   have dg:s.mv.getD (s.mv.length-1) m0=g:=by rw[adT,hg];rfl
   have im:(s.mv.map aq)[(k:Int).toNat]?=some (aq m):=by rw[adQ];simp[hm]
   have i0:(s.mv.map aq)[(0:Int).toNat]?=some (aq f):=by rw[adQ];exact congrArg (Option.map aq) hf
   have ig:(s.mv.map aq)[(((s.mv.map aq).length:Int)-1).toNat]?=some (aq g):=by rw[adO,show((s.mv.length:Int)-1).toNat=s.mv.length-1 by omega,adQ,hg];rfl
   have lm:(s.mv.map aq).length=s.mv.length:=adO ..
   have lt:(r.tk.map fI).length=r.tk.length:=adO ..
   have lg:(gv.map fI).length=gv.length:=adO ..
   obtain⟨X0,bt2,bt3⟩:=C6 (vG dr.1)
   have bgv:∀p∈gv,0<=p.2/\p.2<=100:=by rw[<-oH];exact bt3
   refine⟨aq m,fun _=>⟨by omega,im⟩,?_⟩
   refine adN ?_ ?_
   ·intro qw
    have N8:k<r.tk.length:=by have:=ad5 qw;omega
    obtain⟨a,ha⟩:∃a,r.tk[k]?=some a:=⟨_,ace N8⟩
    have da:r.tk.getD k (0,0)=a:=by rw[adT,ha];rfl
    have ia:(r.tk.map fI)[(k:Int).toNat]?=some (fI a):=by rw[adQ];simp[ha]
    have X1:=vU (X0 a (adR ha)) ⟨dr.2.1,dr.2.2.1⟩
    have rj:gR s.mv s.times r.tk gv k=decide (m.fr=f.fr/\1<=m.fr/\m.to=0/\m.it=a.1/\m.n=a.2*s.times):=by unfold gR;rw[if_pos N8,dm,df,da]
    repeat first|refine gG ?_|refine⟨fun _=>by omega,?_⟩|refine⟨fI a,fun _=>⟨by omega,ia⟩,?_⟩|refine⟨aq f,fun _=>⟨by omega,i0⟩,?_⟩|refine⟨aq g,fun _=>⟨by omega,ig⟩,?_⟩
    refine⟨by kernel_rfl,?_⟩
    refine adN ?_ ?_
    ·intro h
     have mi:gR s.mv s.times r.tk gv k=false:=by
      rw[rj,aeq]
      rintro⟨q1,q2,q3,q4,q5⟩
      simp at h
      omega
     rw[show(List.range s.mv.length).all (gR s.mv s.times r.tk gv)=false from List.all_eq_false.2 ⟨k,aeh.2 ay,by rw[mi];simp⟩]
     exact ext (by kernel_rfl) rfl rfl
    ·intro h
     have I4:gR s.mv s.times r.tk gv k=true:=by
      rw[rj,aen]
      simp at h
      omega
     refine⟨fun _=>by omega,k+1,jn rfl rfl rfl rfl,⟨by omega,fun j hj=>?_⟩,mlt ay⟩
     rcases ad8 j k with u9|u9
     ·exact bK j u9
     ·rw[show j=k by omega];exact I4
   ·intro qw
    have N8:¬k<r.tk.length:=by have:=ad6 qw;omega
    obtain⟨a,ha⟩:∃a,gv[k-r.tk.length]?=some a:=⟨_,ace (show k-r.tk.length<gv.length by omega)⟩
    have da:gv.getD (k-r.tk.length) (0,0)=a:=by rw[adT,ha];rfl
    have ia:(gv.map fI)[((k:Int)-(r.tk.map fI).length).toNat]?=some (fI a):=by rw[lt,show((k:Int)-r.tk.length).toNat=k-r.tk.length by omega,adQ,ha];rfl
    have X1:=vU (bgv a (adR ha)) ⟨dr.2.1,dr.2.2.1⟩
    have rj:gR s.mv s.times r.tk gv k=decide (m.fr=0/\1<=m.to/\m.to=g.to/\m.it=a.1/\m.n=a.2*s.times):=by unfold gR;rw[if_neg N8,dm,dg,da]
    repeat first|refine gG ?_|refine⟨fun _=>by omega,?_⟩|refine⟨fI a,fun _=>⟨by omega,ia⟩,?_⟩|refine⟨aq f,fun _=>⟨by omega,i0⟩,?_⟩|refine⟨aq g,fun _=>⟨by omega,ig⟩,?_⟩
    refine⟨by kernel_rfl,?_⟩
    refine adN ?_ ?_
    ·intro h
     have mi:gR s.mv s.times r.tk gv k=false:=by
      rw[rj,aeq]
      rintro⟨q1,q2,q3,q4,q5⟩
      simp at h
      omega
     rw[show(List.range s.mv.length).all (gR s.mv s.times r.tk gv)=false from List.all_eq_false.2 ⟨k,aeh.2 ay,by rw[mi];simp⟩]
     exact ext (by kernel_rfl) rfl rfl
    ·intro h
     have I4:gR s.mv s.times r.tk gv k=true:=by
      rw[rj,aen]
      simp at h
      omega
     refine⟨fun _=>by omega,k+1,jn rfl rfl rfl rfl,⟨by omega,fun j hj=>?_⟩,mlt ay⟩
     rcases ad8 j k with u9|u9
     ·exact bK j u9
     ·rw[show j=k by omega];exact I4
  ·intro h
   have he:k=s.mv.length:=by have:=ad6 h;rw[adO]at this;omega
   subst he
   rw[show(List.range s.mv.length).all (gR s.mv s.times r.tk gv)=true from aed.2 fun j hj=>bK j (aeh.1 hj)]
   exact ext (by kernel_rfl) rfl rfl
 ·intro lE
  have lE:=ad6 lE
  repeat refine gG ?_
  have hI:Qc s.aM=s.aM:=if_neg lE
  have hG:∀r,XZ s.aM r=r.gv:=fun r=>if_neg lE
  obtain⟨r,vG⟩:∃r,0<=s.aM/\s.aM<5->dA[s.aM.toNat]?=some r:=⟨(dA[s.aM.toNat]?).getD ⟨⟨#[]⟩,false,0,0,0,0,[],[],[]⟩,fun h=>by rw[ace (show s.aM.toNat<dA.length from(show s.aM.toNat<5 by omega))];rfl⟩
  have Qd:0<=s.aM/\s.aM<5->(dA.map ij)[s.aM.toNat]?=some (ij r):=fun h=>by rw[adQ,vG h];rfl
  refine⟨ij r,fun h=>?_,?_⟩
  ·simp[bw]at h
   exact⟨by omega,Qd (by omega)⟩
  repeat refine gG ?_
  refine adN ?_ ?_
  ·intro h
   have hc:qY s=false:=by
    unfold qY
    rw[hI]
    split
    ·rfl
    ·rename_i hn
     rw[vG (by omega)]
     have:r.sp=true:=by
      have h:=h
      rw[aec (show¬s.aM<0 by omega),aec (show¬((dA.map ij).length:Int)<=s.aM by omega),aec (show¬s.times<1 by omega),aec (show¬1048576<s.times by omega)]at h
      exact h
     simp only[this,cond_true]
   rw[hc]
   exact ext (by kernel_rfl) rfl rfl
  intro h
  have dr:(0<=s.aM/\s.aM<5)/\1<=s.times/\s.times<=1048576/\r.sp=false:=by
   simp at h
   exact⟨by omega,by omega,by omega,h.2⟩
  obtain⟨tl1,tl2,tl3⟩:=C7 (vG dr.1)
  have jT:qY s=if(s.aM<0/\r.ch=r.of)\/s.mv.length≠r.tk.length+(r.gv).length then false else(List.range s.mv.length).all (gR s.mv s.times r.tk (r.gv)):=by
   unfold qY
   rw[hI,if_neg (by omega),vG dr.1]
   simp only[dr.2.2.2,cond_false,hG]
  repeat first|refine gG ?_|refine⟨ij r,fun _=>⟨by omega,Qd dr.1⟩,?_⟩|refine⟨fun _=>⟨by rw[adO,adO];omega,by rw[adO,adO];omega⟩,?_⟩
  refine adN (fun h=>absurd (ad5 h) lE) fun _=>?_
  repeat first|refine gG ?_|refine⟨ij r,fun _=>⟨by omega,Qd dr.1⟩,?_⟩|refine⟨fun _=>⟨by rw[adO,adO];omega,by rw[adO,adO];omega⟩,?_⟩
  refine⟨by kernel_rfl,?_⟩
  refine adN ?_ ?_
  ·intro h
   have hc:qY s=false:=by
    rw[jT,if_pos]
    rw[adO,adO,adO]at h
    simp at h
    rcases h with h|h
    ·exact .inl h
    ·exact .inr (by omega)
   rw[hc]
   exact ext (by kernel_rfl) rfl rfl
  intro h
  have F2:¬((s.aM<0/\r.ch=r.of)\/s.mv.length≠r.tk.length+(r.gv).length):=by
   rw[adO,adO,adO]at h
   simp at h
   rintro(hh|hh)
   ·exact h.1 hh.1 hh.2
   ·omega
  rw[if_neg F2]at jT
  have Uu:s.mv.length=r.tk.length+(r.gv).length:=by omega
  rw[jT]
  generalize oH:r.gv=gv at*
  refine⟨Nat,fun k=>⟨5,[(3,.ptr 4 0),(6,.dv (.sl 2 (r.tk.map fI))),(7,.dv (.sl 2 (gv.map fI))),(8,.dv (I k))],dq R++[(4,.cells (eP (aP s).cells))]⟩,fun k=>k<=s.mv.length/\∀j,j<k->gR s.mv s.times r.tk gv j=true,fun k=>s.mv.length-k,0,fun _=>rfl,jn rfl rfl rfl rfl,⟨ad3 _,fun j hj=>absurd hj (by omega)⟩,?_⟩
  rintro k ⟨hk,bK⟩
  refine adN ?_ ?_
  ·intro h
   have ay:k<s.mv.length:=by have:=ad5 h;rw[adO]at this;omega
   obtain⟨m,hm⟩:∃m,s.mv[k]?=some m:=⟨_,ace ay⟩
   obtain⟨f,hf⟩:∃f,s.mv[0]?=some f:=⟨_,ace (show 0<s.mv.length by omega)⟩
   obtain⟨g,hg⟩:∃g,s.mv[s.mv.length-1]?=some g:=⟨_,ace (show s.mv.length-1<s.mv.length by omega)⟩
   have dm:s.mv.getD k m0=m:=by rw[adT,hm];rfl
   have df:s.mv.getD 0 m0=f:=by rw[adT,hf];rfl
   have dg:s.mv.getD (s.mv.length-1) m0=g:=by rw[adT,hg];rfl
   have im:(s.mv.map aq)[(k:Int).toNat]?=some (aq m):=by rw[adQ];simp[hm]
   have i0:(s.mv.map aq)[(0:Int).toNat]?=some (aq f):=by rw[adQ];exact congrArg (Option.map aq) hf
   have ig:(s.mv.map aq)[(((s.mv.map aq).length:Int)-1).toNat]?=some (aq g):=by rw[adO,show((s.mv.length:Int)-1).toNat=s.mv.length-1 by omega,adQ,hg];rfl
   have lm:(s.mv.map aq).length=s.mv.length:=adO ..
   have lt:(r.tk.map fI).length=r.tk.length:=adO ..
   have lg:(gv.map fI).length=gv.length:=adO ..
   obtain⟨X0,bt2,bt3⟩:=C6 (vG dr.1)
   have bgv:∀p∈gv,0<=p.2/\p.2<=100:=by rw[<-oH];exact bt2
   refine⟨aq m,fun _=>⟨by omega,im⟩,?_⟩
   refine adN ?_ ?_
   ·intro qw
    have N8:k<r.tk.length:=by have:=ad5 qw;omega
    obtain⟨a,ha⟩:∃a,r.tk[k]?=some a:=⟨_,ace N8⟩
    have da:r.tk.getD k (0,0)=a:=by rw[adT,ha];rfl
    have ia:(r.tk.map fI)[(k:Int).toNat]?=some (fI a):=by rw[adQ];simp[ha]
    have X1:=vU (X0 a (adR ha)) ⟨dr.2.1,dr.2.2.1⟩
    have rj:gR s.mv s.times r.tk gv k=decide (m.fr=f.fr/\1<=m.fr/\m.to=0/\m.it=a.1/\m.n=a.2*s.times):=by unfold gR;rw[if_pos N8,dm,df,da]
    repeat first|refine gG ?_|refine⟨fun _=>by omega,?_⟩|refine⟨fI a,fun _=>⟨by omega,ia⟩,?_⟩|refine⟨aq f,fun _=>⟨by omega,i0⟩,?_⟩|refine⟨aq g,fun _=>⟨by omega,ig⟩,?_⟩
    refine⟨by kernel_rfl,?_⟩
    refine adN ?_ ?_
    ·intro h
     have mi:gR s.mv s.times r.tk gv k=false:=by
      rw[rj,aeq]
      rintro⟨q1,q2,q3,q4,q5⟩
      simp at h
      omega
     rw[show(List.range s.mv.length).all (gR s.mv s.times r.tk gv)=false from List.all_eq_false.2 ⟨k,aeh.2 ay,by rw[mi];simp⟩]
     exact ext (by kernel_rfl) rfl rfl
    ·intro h
     have I4:gR s.mv s.times r.tk gv k=true:=by
      rw[rj,aen]
      simp at h
      omega
     refine⟨fun _=>by omega,k+1,jn rfl rfl rfl rfl,⟨by omega,fun j hj=>?_⟩,mlt ay⟩
     rcases ad8 j k with u9|u9
     ·exact bK j u9
     ·rw[show j=k by omega];exact I4
   ·intro qw
    have N8:¬k<r.tk.length:=by have:=ad6 qw;omega
    obtain⟨a,ha⟩:∃a,gv[k-r.tk.length]?=some a:=⟨_,ace (show k-r.tk.length<gv.length by omega)⟩
    have da:gv.getD (k-r.tk.length) (0,0)=a:=by rw[adT,ha];rfl
    have ia:(gv.map fI)[((k:Int)-(r.tk.map fI).length).toNat]?=some (fI a):=by rw[lt,show((k:Int)-r.tk.length).toNat=k-r.tk.length by omega,adQ,ha];rfl
    have X1:=vU (bgv a (adR ha)) ⟨dr.2.1,dr.2.2.1⟩
    have rj:gR s.mv s.times r.tk gv k=decide (m.fr=0/\1<=m.to/\m.to=g.to/\m.it=a.1/\m.n=a.2*s.times):=by unfold gR;rw[if_neg N8,dm,dg,da]
    repeat first|refine gG ?_|refine⟨fun _=>by omega,?_⟩|refine⟨fI a,fun _=>⟨by omega,ia⟩,?_⟩|refine⟨aq f,fun _=>⟨by omega,i0⟩,?_⟩|refine⟨aq g,fun _=>⟨by omega,ig⟩,?_⟩
    refine⟨by kernel_rfl,?_⟩
    refine adN ?_ ?_
    ·intro h
     have mi:gR s.mv s.times r.tk gv k=false:=by
      rw[rj,aeq]
      rintro⟨q1,q2,q3,q4,q5⟩
      simp at h
      omega
     rw[show(List.range s.mv.length).all (gR s.mv s.times r.tk gv)=false from List.all_eq_false.2 ⟨k,aeh.2 ay,by rw[mi];simp⟩]
     exact ext (by kernel_rfl) rfl rfl
    ·intro h
     have I4:gR s.mv s.times r.tk gv k=true:=by
      rw[rj,aen]
      simp at h
      omega
     refine⟨fun _=>by omega,k+1,jn rfl rfl rfl rfl,⟨by omega,fun j hj=>?_⟩,mlt ay⟩
     rcases ad8 j k with u9|u9
     ·exact bK j u9
     ·rw[show j=k by omega];exact I4
  ·intro h
   have he:k=s.mv.length:=by have:=ad6 h;rw[adO]at this;omega
   subst he
   rw[show(List.range s.mv.length).all (gR s.mv s.times r.tk gv)=true from aed.2 fun j hj=>bK j (aeh.1 hj)]
   exact ext (by kernel_rfl) rfl rfl
end
section
open Go.TM
def AE(s:cG):Bool:=decide (0<=s.kind/\s.kind<=10/\0<=s.iF/\s.iF<=1073741824)
def tw(s:cG):Bool:=decide (s.aM=-1/\1<=s.times/\s.times<=1048576/\s.mv.length=2/\(s.mv.getD 0 m0).to=0/\(s.mv.getD 1 m0).fr=0/\(s.mv.getD 1 m0).to=(s.mv.getD 0 m0).fr/\(s.mv.getD 0 m0).n.tmod s.times=0/\(s.mv.getD 1 m0).n.tmod s.times=0)
def ng(k:Int):Bool:=decide (k=5\/k=7\/k=9)
variable [bj]
def iz(now:Int)(s:cG):Bool:=
 AE s&&decide (now<=s.tick/\s.tick<=1099511627776/\1<=s.mv.length/\s.mv.length<=64)&&s.mv.all (fun m=>AD m (ng s.kind))&&
  bif decide (s.kind=4)then qY s else bif decide (s.kind=10)then tw s else s.mv.all (mg s.kind)&&decide (s.aM=-1/\s.times=0)
theorem yZ(R:RL)(s:cG)(hr:vP s.aM)(hn:R.sp.length<=1000000)(hl:s.mv.length<=1000)(kz:∀m∈s.mv,m.ps.length<=4000):aj Tryz.prog 88 [.ptr 0 0,cx (aP s)] 4 (dq R) 0 [.dv (B (iz (eW R.sp) s))] (dq R):=by
 refine cO Tryz.func88 rfl (by kernel_rfl) ?_
 repeat refine gG ?_
 by_cases hA:AE s=true
 ·have hA2:=ad5 hA
  refine .inr (cl [0,1,2,3] (MJ R hn) (by kernel_rfl) rfl rfl ?_)
  refine⟨by simp[bw];omega,?_⟩
  repeat first|refine gG ?_|refine⟨fun _=>rfl,?_⟩
  refine⟨by kernel_rfl,?_⟩
  refine adN ?_ ?_
  ·intro h
   have hc:iz (eW R.sp) s=false:=by
    have:decide (eW R.sp<=s.tick/\s.tick<=1099511627776/\1<=s.mv.length/\s.mv.length<=64)=false:=by
     rw[aeq]
     rw[adO]at h
     simp at h
     omega
    unfold iz
    rw[this,Bool.and_false];rfl
   rw[hc]
   exact ext (by kernel_rfl) rfl rfl
  intro h
  have hB:eW R.sp<=s.tick/\s.tick<=1099511627776/\1<=s.mv.length/\s.mv.length<=64:=by
   rw[adO]at h
   simp at h
   omega
  have hp:iz (eW R.sp) s=(s.mv.all (fun m=>AD m (ng s.kind))&&bif decide (s.kind=4)then qY s else bif decide (s.kind=10)then tw s else s.mv.all (mg s.kind)&&decide (s.aM=-1/\s.times=0)):=by
   unfold iz
   rw[hA,aeb hB];rfl
  rw[hp]
  refine .inl ⟨_,fun _=>(F0 s.kind).ok,?_⟩
  have ak:ng s.kind=decide (s.kind=5\/s.kind=7\/s.kind=9):=rfl
  rw[<-ak]
  have lm:(s.mv.map aq).length=s.mv.length:=adO ..
  refine⟨Nat,fun i=>⟨5,[(0,.ptr 0 0),(3,.ptr 4 0),(5,.dv (B (ng s.kind))),(6,.dv (I i))],dq R++[(4,.cells (eP (aP s).cells))]⟩,fun i=>i<=s.mv.length/\∀m∈s.mv.take i,AD m (ng s.kind)=true,fun i=>s.mv.length-i,0,fun _=>rfl,jn rfl rfl rfl rfl,⟨ad3 _,fun _ h=>by simp at h⟩,?_⟩
  rintro i ⟨hi,bK⟩
  refine adN ?_ ?_
  ·intro h
   have ay:i<s.mv.length:=by have:=ad5 h;omega
   obtain⟨m,hm⟩:∃m,s.mv[i]?=some m:=⟨_,ace ay⟩
   have lW:=adR hm
   have im:(s.mv.map aq)[(i:Int).toNat]?=some (aq m):=by rw[adQ];simp[hm]
   refine⟨aq m,fun _=>⟨by omega,im⟩,?_⟩
   refine .inr (cl [0,1,2,3] (I3 R m (ng s.kind) (kz m lW)) (by kernel_rfl) rfl rfl ?_)
   refine adN ?_ ?_
   ·intro h
    have h:AD m (ng s.kind)=false:=by simpa using h
    rw[show s.mv.all (fun m=>AD m (ng s.kind))=false from List.all_eq_false.2 ⟨m,lW,by rw[h];simp⟩]
    exact ext (by kernel_rfl) rfl rfl
   ·intro h
    have h:AD m (ng s.kind)=true:=by simpa using h
    exact⟨fun _=>by omega,i+1,jn rfl rfl rfl rfl,⟨by omega,fun q hq=>by
     rw[adY,hm]at hq
     rcases adX.1 hq with hq|hq
     ·exact bK q hq
     ·simp at hq;subst hq;exact h⟩,mlt ay⟩
  intro h
  have he:i=s.mv.length:=by have:=ad6 h;omega
  subst he
  rw[ad4]at bK
  rw[show s.mv.all (fun m=>AD m (ng s.kind))=true from aed.2 bK,Bool.true_and]
  refine adN ?_ ?_
  ·intro h
   have h4:s.kind=4:=beq_iff_eq.1 h
   rw[aeb h4]
   refine .inr (cl [0,1,2,3] (F1 R s hr hl (by omega)) (by kernel_rfl) rfl rfl ?_)
   exact ext (by kernel_rfl) rfl rfl
  intro h
  have h4:¬s.kind=4:=beq_eq_false_iff_ne.1 h
  rw[aec h4]
  refine adN ?_ ?_
  ·intro h
   have S3:s.kind=10:=beq_iff_eq.1 h
   rw[aeb S3]
   repeat first|refine gG ?_|refine⟨fun _=>rfl,?_⟩
   refine adN ?_ ?_
   ·intro h
    have hc:tw s=false:=by
     unfold tw
     rw[aeq]
     rintro⟨q1,q2,q3,q4,-⟩
     rw[lm]at h
     simp at h
     omega
    rw[hc]
    exact ext (by kernel_rfl) rfl rfl
   intro h
   have hc:s.aM=-1/\1<=s.times/\s.times<=1048576/\s.mv.length=2:=by
    rw[lm]at h
    simp at h
    omega
   obtain⟨c1,c2,c3,c4⟩:=hc
   obtain⟨a,ha⟩:∃a,s.mv[0]?=some a:=⟨_,ace (show 0<s.mv.length by omega)⟩
   obtain⟨b,hb⟩:∃b,s.mv[1]?=some b:=⟨_,ace (show 1<s.mv.length by omega)⟩
   have ia:(s.mv.map aq)[(0:Int).toNat]?=some (aq a):=by rw[adQ];exact congrArg (Option.map aq) ha
   have ib:(s.mv.map aq)[(1:Int).toNat]?=some (aq b):=by rw[adQ];exact congrArg (Option.map aq) hb
   have da:s.mv.getD 0 m0=a:=by rw[adT,ha];rfl
   have db:s.mv.getD 1 m0=b:=by rw[adT,hb];rfl
   refine⟨aq a,fun _=>⟨by omega,ia⟩,aq b,fun _=>⟨by omega,ib⟩,?_⟩
   repeat first|refine gG ?_|refine⟨fun _ h=>by omega,?_⟩
   have hcv:tw s=(bif bif bif bif a.to==0 then b.fr==0 else false then b.to==a.fr else false then a.n.tmod s.times==0 else false then b.n.tmod s.times==0 else false):=by
    unfold tw
    rw[da,db,aek]
    simp[c1,c2,c3,c4,and_assoc]
   rw[hcv]
   exact ext (by kernel_rfl) rfl rfl
  ·intro h
   have S3:¬s.kind=10:=beq_eq_false_iff_ne.1 h
   rw[aec S3]
   refine⟨Nat,fun i=>⟨5,[(3,.ptr 4 0),(10,.dv (I i))],dq R++[(4,.cells (eP (aP s).cells))]⟩,fun i=>i<=s.mv.length/\∀m∈s.mv.take i,mg s.kind m=true,fun i=>s.mv.length-i,0,fun _=>rfl,jn rfl rfl rfl rfl,⟨ad3 _,fun _ h=>by simp at h⟩,?_⟩
   rintro i ⟨hi,bK⟩
   refine adN ?_ ?_
   ·intro h
    have ay:i<s.mv.length:=by have:=ad5 h;omega
    obtain⟨m,hm⟩:∃m,s.mv[i]?=some m:=⟨_,ace ay⟩
    have lW:=adR hm
    have im:(s.mv.map aq)[(i:Int).toNat]?=some (aq m):=by rw[adQ];simp[hm]
    refine⟨aq m,fun _=>⟨by omega,im⟩,?_⟩
    refine .inl ⟨_,fun _=>(MK s.kind m).ok,?_⟩
    refine⟨by kernel_rfl,?_⟩
    refine adN ?_ ?_
    ·intro h
     have h:mg s.kind m=false:=by simpa using h
     rw[show s.mv.all (mg s.kind)=false from List.all_eq_false.2 ⟨m,lW,by rw[h];simp⟩]
     exact ext (by kernel_rfl) rfl rfl
    ·intro h
     have h:mg s.kind m=true:=by simpa using h
     exact⟨fun _=>by omega,i+1,jn rfl rfl rfl rfl,⟨by omega,fun q hq=>by
      rw[adY,hm]at hq
      rcases adX.1 hq with hq|hq
      ·exact bK q hq
      ·simp at hq;subst hq;exact h⟩,mlt ay⟩
   intro h
   have he:i=s.mv.length:=by have:=ad6 h;omega
   subst he
   rw[ad4]at bK
   rw[show s.mv.all (mg s.kind)=true from aed.2 bK,Bool.true_and]
   repeat refine gG ?_
   rw[show(bif false then tw s else decide (s.aM=-1/\s.times=0))=(bif s.aM== -1 then s.times==0 else false)by rw[aek];simp]
   exact ext (by kernel_rfl) rfl rfl
 ·have hA2:¬(0<=s.kind/\s.kind<=10/\0<=s.iF/\s.iF<=1073741824):=fun h=>hA (aeb h)
  refine .inl ⟨by simp[bw];omega,[I 0],fun h=>absurd h (by simp[bw];omega),rfl,?_⟩
  repeat first|refine gG ?_|refine⟨fun _=>rfl,?_⟩
  refine⟨by kernel_rfl,?_⟩
  refine adN ?_ ?_
  ·intro h
   have hc:iz (eW R.sp) s=false:=by unfold iz;rw[Bool.not_eq_true]at hA;rw[hA];rfl
   rw[hc]
   exact ext (by kernel_rfl) rfl rfl
  ·intro h
   simp at h
   omega
end
section
open Go.TM
variable [bj]
def Qe(x:Lt)(f:bp):Bool:=decide (f.kind=5)&& !decide (C2 f.ps [x]=[])
def vc(sh:Int)(fl:List bp):List Lt->Int
 |[]=>0
 |x::r=>if x.f.tdiv 4294967296=sh\/11<x.f.tdiv 4294967296 then 1 else bif fl.any (Qe x)then 8 else vc sh fl r
theorem ML(R:RL)(ps:List Lt)(hl:ps.length<=5000)(hf:R.fl.length<=1000000)(kz:∀f∈R.fl,f.ps.length<=200)(hb:∀x∈ps,0<=x.f/\x.f<=9223372036854775807):aj Tryz.prog 201 [.ptr 0 0,.dv (aQ ps)] 4 (dq R) 0 [.dv (I (vc R.sh R.fl ps))] (dq R):=by
 refine cO Tryz.func201 rfl (by kernel_rfl) ?_
 refine⟨Nat,fun i=>⟨4,[(0,.ptr 0 0),(1,.dv (aQ ps)),(5,.dv (I i))],dq R⟩,fun i=>i<=ps.length/\vc R.sh R.fl ps=vc R.sh R.fl (ps.drop i),fun i=>ps.length-i,0,fun _=>rfl,jn rfl rfl rfl rfl,⟨ad3 _,rfl⟩,?_⟩
 rintro i ⟨hi,hd⟩
 have lp:(ps.map ax).length=ps.length:=adO ..
 have lf:(R.fl.map ar).length=R.fl.length:=adO ..
 refine adN ?_ ?_
 ·intro h
  have ay:i<ps.length:=by have:=ad5 h;omega
  obtain⟨x,hx⟩:∃x,ps[i]?=some x:=⟨_,ace ay⟩
  have rX:=hb x (adR hx)
  have ix:(ps.map ax)[(i:Int).toNat]?=some (ax x):=by rw[adQ];simp[hx]
  have aV:ps.drop i=x::ps.drop (i+1):=by
   rw[List.drop_eq_getElem_cons ay,(adP.1 hx).2]
  rw[aV]at hd
  have q0:=Int.tdiv_nonneg rX.1 (show(0:Int)<=4294967296 by omega)
  have q1:x.f.tdiv 4294967296<=x.f:=Int.tdiv_le_self _ rX.1
  refine⟨ax x,fun _=>⟨by omega,ix⟩,fun _ h=>by omega,fun _=>by omega,?_⟩
  repeat refine gG ?_
  refine adN ?_ ?_
  ·intro h
   have hc:x.f.tdiv 4294967296=R.sh\/11<x.f.tdiv 4294967296:=by simpa using h
   rw[hd]
   unfold vc
   rw[if_pos hc]
   exact ext (by kernel_rfl) rfl rfl
  intro h
  have hc:¬(x.f.tdiv 4294967296=R.sh\/11<x.f.tdiv 4294967296):=by simpa using h
  have Qf:vc R.sh R.fl ps=bif R.fl.any (Qe x)then 8 else vc R.sh R.fl (ps.drop (i+1)):=by rw[hd];exact if_neg hc
  refine⟨Nat,fun j=>⟨4,[(0,.ptr 0 0),(1,.dv (aQ ps)),(5,.dv (I i)),(7,.dv (I j))],dq R⟩,fun j=>j<=R.fl.length/\∀f∈R.fl.take j,Qe x f=false,fun j=>R.fl.length-j,0,fun _=>rfl,jn rfl rfl rfl rfl,⟨ad3 _,fun _ h=>by simp at h⟩,?_⟩
  rintro j ⟨hj,bK⟩
  refine adN ?_ ?_
  ·intro h
   have ZJ:j<R.fl.length:=by have:=ad5 h;omega
   obtain⟨f,km⟩:∃f,R.fl[j]?=some f:=⟨_,ace ZJ⟩
   have K8:=adR km
   have jf:(R.fl.map ar)[(j:Int).toNat]?=some (ar f):=by rw[adQ];simp[km]
   have hfp:=kz f K8
   repeat first|refine g1 ?_|refine g2 ?_|refine g3 ?_|refine⟨fun _=>by omega,?_⟩|refine⟨ar f,fun _=>jf,?_⟩
   have gl:((ps.map ax).take ((i:Int)+1).toNat).drop (i:Int).toNat=[x].map ax:=by
    rw[show((i:Int)+1).toNat=i+1 by omega,Int.toNat_natCast,adY,adQ,hx,List.drop_append_of_le_length (by rw[ad9];omega),List.drop_of_length_le (by rw[ad9];omega)];rfl
   have hm:=(BD f.ps [x] (by omega) (by simp) (by simp only[List.length_cons,List.length_nil];omega) (by
    have:f.ps.length*(f.ps.length*(([x]:List Lt).length+1)+1)<=200*(200*(([x]:List Lt).length+1)+1):=Nat.mul_le_mul hfp (by simp only[List.length_cons,List.length_nil];omega)
    simp only[List.length_cons,List.length_nil]at this⊢;omega)).ok
   unfold aQ at hm
   rw[<-gl]at hm
   refine⟨fun _=>⟨by show(0:Int)<=i;omega,by show(i:Int)<=i+1;omega,by show(i:Int)+1<=_;omega⟩,?_⟩
   repeat first|refine g1 ?_|refine g2 ?_|refine g3 ?_
   refine .inl ⟨_,fun _=>hm,?_⟩
   repeat first|refine g1 ?_|refine g2 ?_|refine g3 ?_
   refine⟨by kernel_rfl,?_⟩
   refine adN ?_ ?_
   ·intro h
    have h:=dc h
    have ht:Qe x f=true:=by
     unfold Qe
     rw[aeb (beq_iff_eq.1 h.1),Bool.true_and,aer,aeq]
     intro e
     have h2:=ad5 h.2
     rw[e]at h2
     exact absurd h2 (by decide)
    rw[Qf,show R.fl.any (Qe x)=true from List.any_eq_true.2 ⟨f,K8,ht⟩]
    exact ext (by kernel_rfl) rfl rfl
   ·intro h
    have h:=mc h
    have ht:Qe x f=false:=by
     rw[<-Bool.not_eq_true]
     intro ht
     unfold Qe at ht
     rw[aep,aen,aer,aeq]at ht
     refine h ⟨beq_iff_eq.2 ht.1,aeb ?_⟩
     have:=List.length_pos_iff.2 ht.2
     rw[adO];omega
    exact⟨fun _=>by omega,j+1,jn rfl rfl rfl rfl,⟨by omega,fun q hq=>by
     rw[adY,km]at hq
     rcases adX.1 hq with hq|hq
     ·exact bK q hq
     ·simp at hq;subst hq;exact ht⟩,mlt ZJ⟩
  ·intro h
   have he:j=R.fl.length:=by have:=ad6 h;omega
   subst he
   rw[ad4]at bK
   have ha:R.fl.any (Qe x)=false:=by rw[List.any_eq_false];intro f hf;rw[bK f hf];simp
   rw[ha]at Qf
   exact⟨fun _=>by omega,i+1,jn rfl rfl rfl rfl,⟨by omega,Qf⟩,mlt ay⟩
 ·intro h
  have he:i=ps.length:=by have:=ad6 h;omega
  subst he
  rw[List.drop_length]at hd
  rw[hd]
  exact ext (by kernel_rfl) rfl rfl
end
section
open Go.TM
variable [bj]
def okF(it:Int)(x:Lt)(f:bp):Bool:=decide (f.kind≠6/\f.to=0/\f.it=it)&&rY [x] [⟨f.id,0,f.n⟩]
def F3(x:Lt)(f:bp):Bool:=decide (f.kind=9)&&decide (f.fr=0)&& !decide (C2 f.ps [x]=[])
def tx(fl:List bp)(it:Int):List Lt->Int
 |[]=>0
 |x::r=>bif fl.any (F3 x)|| !fl.any (okF it x)then 10 else tx fl it r
theorem Qg{p:bp->Bool}{l:List bp}{j:Nat}{f:bp}(h:l[j]?=some f):(l.take (j+1)).any p=((l.take j).any p||p f):=by
 rw[adY,h,List.any_append];simp
theorem MM(R:RL)(m:c5)(hl:m.ps.length<=5000)(hf:R.fl.length<=1000000)(kz:∀f∈R.fl,f.ps.length<=200):aj Tryz.prog 202 [.ptr 0 0,cx (aq m)] 4 (dq R) 0 [.dv (I (tx R.fl m.it m.ps))] (dq R):=by
 refine cO Tryz.func202 rfl (by kernel_rfl) ?_
 refine⟨Nat,fun i=>⟨5,[(0,.ptr 0 0),(3,.ptr 4 0),(5,.dv (I i))],dq R++[(4,.cells (eP (aq m).cells))]⟩,fun i=>i<=m.ps.length/\tx R.fl m.it m.ps=tx R.fl m.it (m.ps.drop i),fun i=>m.ps.length-i,0,fun _=>rfl,jn rfl rfl rfl rfl,⟨ad3 _,rfl⟩,?_⟩
 rintro i ⟨hi,hd⟩
 have lp:(m.ps.map ax).length=m.ps.length:=adO ..
 have lf:(R.fl.map ar).length=R.fl.length:=adO ..
 refine adN ?_ ?_
 ·intro h
  have ay:i<m.ps.length:=by have:=ad5 h;omega
  obtain⟨x,hx⟩:∃x,m.ps[i]?=some x:=⟨_,ace ay⟩
  have aV:m.ps.drop i=x::m.ps.drop (i+1):=by
   rw[List.drop_eq_getElem_cons ay,(adP.1 hx).2]
  rw[aV]at hd
  have Qf:tx R.fl m.it m.ps=bif R.fl.any (F3 x)|| !R.fl.any (okF m.it x)then 10 else tx R.fl m.it (m.ps.drop (i+1)):=hd
  have gl:((m.ps.map ax).take ((i:Int)+1).toNat).drop (i:Int).toNat=[x].map ax:=by
   rw[show((i:Int)+1).toNat=i+1 by omega,Int.toNat_natCast,adY,adQ,hx,List.drop_append_of_le_length (by rw[ad9];omega),List.drop_of_length_le (by rw[ad9];omega)];rfl
  refine⟨Nat,fun j=>⟨5,[(0,.ptr 0 0),(3,.ptr 4 0),(5,.dv (I i)),(6,.dv (B ((R.fl.take j).any (okF m.it x)))),(7,.dv (I j))],dq R++[(4,.cells (eP (aq m).cells))]⟩,fun j=>j<=R.fl.length/\∀f∈R.fl.take j,F3 x f=false,fun j=>R.fl.length-j,0,fun _=>rfl,jn rfl rfl rfl rfl,⟨ad3 _,fun _ h=>by simp at h⟩,?_⟩
  rintro j ⟨hj,bK⟩
  refine adN ?_ ?_
  ·intro h
   have ZJ:j<R.fl.length:=by have:=ad5 h;omega
   obtain⟨f,km⟩:∃f,R.fl[j]?=some f:=⟨_,ace ZJ⟩
   have K8:=adR km
   have jf:(R.fl.map ar)[(j:Int).toNat]?=some (ar f):=by rw[adQ];simp[km]
   have hfp:=kz f K8
   have dD:=Qg (p:=okF m.it x) km
   have hm:=(BD f.ps [x] (by omega) (by simp) (by simp only[List.length_cons,List.length_nil];omega) (by
    have:f.ps.length*(f.ps.length*(([x]:List Lt).length+1)+1)<=200*(200*(([x]:List Lt).length+1)+1):=Nat.mul_le_mul hfp (by simp only[List.length_cons,List.length_nil];omega)
    simp only[List.length_cons,List.length_nil]at this⊢;omega)).ok
   have hw:=(vR [x] [⟨f.id,0,f.n⟩] (by simp) (by simp) (by simp)).ok
   unfold aQ at hm hw
   rw[<-gl]at hm hw
   refine⟨fun _=>by omega,ar f,fun _=>jf,?_⟩
   refine .inl ⟨[ax ⟨f.id,0,f.n⟩],rfl,⟨rf,rf,rf,tv⟩,(by simp;rfl),?_⟩
   refine⟨fun _=>by omega,fun _=>⟨by show(0:Int)<=i;omega,by show(i:Int)<=i+1;omega,by show(i:Int)+1<=_;omega⟩,?_⟩
   refine .inl ⟨_,fun _=>hw,?_⟩
   repeat refine gG ?_
   have abi:okF m.it x f=(bif bif bif f.kind !=6 then f.to==0 else false then f.it==m.it else false then rY [x] [⟨f.id,0,f.n⟩]else false):=by
    unfold okF
    rw[aek];simp[and_assoc]
   refine adN ?_ ?_
   ·intro h
    have b8:okF m.it x f=true:=abi.trans h
    repeat first|refine g1 ?_|refine g2 ?_|refine g3 ?_|refine⟨fun _=>by omega,?_⟩
    refine⟨fun _=>⟨by show(0:Int)<=i;omega,by show(i:Int)<=i+1;omega,by show(i:Int)+1<=_;omega⟩,?_⟩
    repeat first|refine g1 ?_|refine g2 ?_|refine g3 ?_
    refine .inl ⟨_,fun _=>hm,?_⟩
    repeat first|refine g1 ?_|refine g2 ?_|refine g3 ?_
    refine⟨by kernel_rfl,?_⟩
    refine adN ?_ ?_
    ·intro h
     have h:=dc h
     have h1:=dc h.1
     have ht:F3 x f=true:=by
      unfold F3
      rw[aeb (beq_iff_eq.1 h1.1),aeb (beq_iff_eq.1 h1.2),Bool.true_and,Bool.true_and,aer,aeq]
      intro e
      have h2:=ad5 h.2
      rw[e]at h2
      exact absurd h2 (by decide)
     rw[Qf,show R.fl.any (F3 x)=true from List.any_eq_true.2 ⟨f,K8,ht⟩]
     exact ext (by kernel_rfl) rfl rfl
    ·intro h
     have h:=mc h
     have ht:F3 x f=false:=by
      rw[<-Bool.not_eq_true]
      intro ht
      unfold F3 at ht
      simp only[aep,aen,aer,aeq]at ht
      refine h ⟨by rw[beq_iff_eq.2 ht.1.1,beq_iff_eq.2 ht.1.2];rfl,aeb ?_⟩
      have:=List.length_pos_iff.2 ht.2
      rw[adO];omega
     exact⟨fun _=>by omega,j+1,jn (by simp only[dD,b8,Bool.or_true];rfl) rfl rfl rfl,⟨by omega,fun q hq=>by
      rw[adY,km]at hq
      rcases adX.1 hq with hq|hq
      ·exact bK q hq
      ·simp at hq;subst hq;exact ht⟩,mlt ZJ⟩
   ·intro h
    have b8:okF m.it x f=false:=abi.trans h
    repeat first|refine g1 ?_|refine g2 ?_|refine g3 ?_|refine⟨fun _=>by omega,?_⟩
    refine⟨fun _=>⟨by show(0:Int)<=i;omega,by show(i:Int)<=i+1;omega,by show(i:Int)+1<=_;omega⟩,?_⟩
    repeat first|refine g1 ?_|refine g2 ?_|refine g3 ?_
    refine .inl ⟨_,fun _=>hm,?_⟩
    repeat first|refine g1 ?_|refine g2 ?_|refine g3 ?_
    refine⟨by kernel_rfl,?_⟩
    refine adN ?_ ?_
    ·intro h
     have h:=dc h
     have h1:=dc h.1
     have ht:F3 x f=true:=by
      unfold F3
      rw[aeb (beq_iff_eq.1 h1.1),aeb (beq_iff_eq.1 h1.2),Bool.true_and,Bool.true_and,aer,aeq]
      intro e
      have h2:=ad5 h.2
      rw[e]at h2
      exact absurd h2 (by decide)
     rw[Qf,show R.fl.any (F3 x)=true from List.any_eq_true.2 ⟨f,K8,ht⟩]
     exact ext (by kernel_rfl) rfl rfl
    ·intro h
     have h:=mc h
     have ht:F3 x f=false:=by
      rw[<-Bool.not_eq_true]
      intro ht
      unfold F3 at ht
      simp only[aep,aen,aer,aeq]at ht
      refine h ⟨by rw[beq_iff_eq.2 ht.1.1,beq_iff_eq.2 ht.1.2];rfl,aeb ?_⟩
      have:=List.length_pos_iff.2 ht.2
      rw[adO];omega
     exact⟨fun _=>by omega,j+1,jn (by simp only[dD,b8,Bool.or_false];rfl) rfl rfl rfl,⟨by omega,fun q hq=>by
      rw[adY,km]at hq
      rcases adX.1 hq with hq|hq
      ·exact bK q hq
      ·simp at hq;subst hq;exact ht⟩,mlt ZJ⟩
  ·intro h
   have he:j=R.fl.length:=by have:=ad6 h;omega
   subst he
   rw[ad4]at bK
   have ha:R.fl.any (F3 x)=false:=by rw[List.any_eq_false];intro f hf;rw[bK f hf];simp
   rw[ha,Bool.false_or]at Qf
   simp only[ad4]
   refine adN ?_ ?_
   ·intro h
    rw[Qf,show(!R.fl.any (okF m.it x))=true from h]
    exact ext (by kernel_rfl) rfl rfl
   ·intro h
    rw[show(!R.fl.any (okF m.it x))=false from h]at Qf
    exact⟨fun _=>by omega,i+1,jn rfl rfl rfl rfl,⟨by omega,Qf⟩,mlt ay⟩
 ·intro h
  have he:i=m.ps.length:=by have:=ad6 h;omega
  subst he
  rw[List.drop_length]at hd
  rw[hd]
  exact ext (by kernel_rfl) rfl rfl
end
section
open Go.TM
variable [bj]
def wM(it:Int):Bool:=it==0||it==2
theorem MN(R:RL)(k:Int)(m:c5)(eC:0<m.fr)(hp:m.ps≠[])(hn:R.st.length<=100000)(ho:(bC R.st (m.fr,m.it)).length<=5000)(hl:m.ps.length<=5000)(cb:m.ps.length*((bC R.st (m.fr,m.it)).length+1)<=90000)(hsy:(bC R.st (m.fr,m.it)).length*(m.ps.length+1)<=90000):aj Tryz.prog 127 [.ptr 0 0,.dv (I k),cx (aq m)] 4 (dq R) 0 [.dv (aQ (bif rY m.ps (bC R.st (m.fr,m.it))then m.ps else[])),.dv (I (bif rY m.ps (bC R.st (m.fr,m.it))then 0 else 10))] (bif rY m.ps (bC R.st (m.fr,m.it))then jC 1 0 0 (u7 R (m.fr,m.it) (IU (bC R.st (m.fr,m.it)) m.ps))else dq R):=by
 refine cO Tryz.func127 rfl (by kernel_rfl) ?_
 have A2:=List.length_pos_iff.2 hp
 have lp:(m.ps.map ax).length=m.ps.length:=adO ..
 refine adN (fun _=>?_) fun h=>by have:=ad6 h;omega
 refine .inr (cl [0,1,2,3] (iH R m.fr m.it hn) (by kernel_rfl) rfl rfl ?_)
 refine adN (fun _=>?_) fun h=>by have:=ad6 h;omega
 refine .inl ⟨_,fun _=>(vR m.ps (bC R.st (m.fr,m.it)) hl ho cb).ok,?_⟩
 generalize rY m.ps (bC R.st (m.fr,m.it))=w at*
 cases w with
 |false=>
  refine adN (fun _=>?_) fun h=>by cases h
  exact⟨_,_,⟨rfl,rfl⟩,by kernel_rfl,⟨DV.aL 3,rf,tv⟩,aZ (k:=dq R) rfl⟩
 |true=>
  refine adN (fun h=>by cases h) fun _=>?_
  refine .inl ⟨_,fun _=>(tr (bC R.st (m.fr,m.it)) m.ps ho hl hsy).ok,?_⟩
  refine .inr (cl [0,1,2,3] (nY R m.fr m.it (IU (bC R.st (m.fr,m.it)) m.ps) hn) (by kernel_rfl) rfl rfl ?_)
  refine⟨by kernel_rfl,?_⟩
  exact ext (by kernel_rfl) rfl rfl
theorem MO(R:RL)(k:Int)(m:c5)(eC:0<m.fr)(hp:m.ps=[])(hi:0<=m.it/\m.it<5)(hm:0<=m.n/\m.n<=1099511627776)(hn:R.st.length<=100000)(hv:bz (bC R.st (m.fr,m.it))=true):aj Tryz.prog 127 [.ptr 0 0,.dv (I k),cx (aq m)] 4 (dq R) 0 [.dv (aQ (bif decide (cu (bC R.st (m.fr,m.it))<m.n)then[]else(eV (bC R.st (m.fr,m.it)) m.n (wM m.it)).1)),.dv (I (bif decide (cu (bC R.st (m.fr,m.it))<m.n)then 10 else 0))] (bif decide (cu (bC R.st (m.fr,m.it))<m.n)then dq R else jC 1 0 0 (u7 R (m.fr,m.it) (eV (bC R.st (m.fr,m.it)) m.n (wM m.it)).2)):=by
 rcases m with⟨fr,to,it,n,ps⟩
 dsimp only at*
 subst hp
 have:it=0\/it=1\/it=2\/it=3\/it=4:=by omega
 have ht:=fun x=>(IS (bC R.st (fr,it)) n x hm hv).ok
 unfold FN at ht
 have hs:=nY R fr it
 cases hc:decide (cu (bC R.st (fr,it))<n)<;>rw[hc]at ht
 ·rcases this with rfl|rfl|rfl|rfl|rfl
  all_goals
   refine cO Tryz.func127 rfl (by kernel_rfl) ?_
   refine adN (fun _=>?_) fun h=>absurd eC (ad6 h)
   refine .inr (cl [0,1,2,3] (iH R fr _ hn) (by kernel_rfl) rfl rfl ?_)
   refine adN (fun h=>by have:=ad5 h;simp at this) fun _=>?_
   refine⟨_,fun _=>⟨ad5 rfl,rfl⟩,?_⟩
   refine .inl ⟨_,fun _=>ht _,?_⟩
   refine⟨by kernel_rfl,?_⟩
   refine adN (fun h=>by cases h) fun _=>?_
   refine .inr (cl [0,1,2,3] (hs _ hn) (by kernel_rfl) rfl rfl ?_)
   exact ext (by kernel_rfl) rfl rfl
 ·rcases this with rfl|rfl|rfl|rfl|rfl
  all_goals
   refine cO Tryz.func127 rfl (by kernel_rfl) ?_
   refine adN (fun _=>?_) fun h=>absurd eC (ad6 h)
   refine .inr (cl [0,1,2,3] (iH R fr _ hn) (by kernel_rfl) rfl rfl ?_)
   refine adN (fun h=>by have:=ad5 h;simp at this) fun _=>?_
   refine⟨_,fun _=>⟨ad5 rfl,rfl⟩,?_⟩
   refine .inl ⟨_,fun _=>ht _,?_⟩
   refine⟨by kernel_rfl,?_⟩
   refine adN (fun _=>?_) fun h=>by cases h
   exact⟨_,_,⟨rfl,rfl⟩,by kernel_rfl,⟨DV.aL 3,rf,tv⟩,aZ (k:=dq R) rfl⟩
theorem MP(R:RL)(k:Int)(m:c5)(eC:¬0<m.fr)(hl:m.ps.length<=5000)(hf:R.fl.length<=1000000)(kz:∀f∈R.fl,f.ps.length<=200)(hb:k=5->∀x∈m.ps,0<=x.f/\x.f<=9223372036854775807):aj Tryz.prog 127 [.ptr 0 0,.dv (I k),cx (aq m)] 4 (dq R) 0 [.dv (aQ (if k=5\/k=9 then m.ps else[])),.dv (I (if k=5 then vc R.sh R.fl m.ps else if k=9 then tx R.fl m.it m.ps else 0))] (dq R):=by
 refine cO Tryz.func127 rfl (by kernel_rfl) ?_
 refine adN (fun h=>absurd (ad5 h) eC) fun _=>?_
 refine adN ?_ ?_
 ·intro h
  have h:k=5:=by simpa using h
  subst h
  refine .inr (cl [0,1,2,3] (ML R m.ps hl hf kz (hb rfl)) (by kernel_rfl) rfl rfl ?_)
  refine⟨by kernel_rfl,?_⟩
  exact ext (by kernel_rfl) rfl rfl
 intro h
 have h5:k≠5:=by simpa using h
 refine adN ?_ ?_
 ·intro h
  have h:k=9:=by simpa using h
  subst h
  refine .inr (cl [0,1,2,3] (MM R m hl hf kz) (by kernel_rfl) rfl rfl ?_)
  refine⟨by kernel_rfl,?_⟩
  exact ext (by kernel_rfl) rfl rfl
 ·intro h
  have h9:k≠9:=by simpa using h
  rw[if_neg (show¬(k=5\/k=9)by omega),if_neg h5,if_neg h9]
  exact⟨_,_,⟨rfl,rfl⟩,by kernel_rfl,⟨DV.aL 3,rf,tv⟩,aZ (k:=dq R) rfl⟩
end
end Go.Proofs.YtfpebgpgabjieaaGreatDoor
