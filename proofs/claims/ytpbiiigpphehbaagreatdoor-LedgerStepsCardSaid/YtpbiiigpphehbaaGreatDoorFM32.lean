import Derived.Test.YtpbiiigpphehbaaGreatDoorFM30
import Derived.Test.YtpbiiigpphehbaaGreatDoorFM31
set_option linter.all false
namespace Go.Proofs.YtpbiiigpphehbaaGreatDoor
set_option maxRecDepth 100000
set_option maxHeartbeats 4000000
section
open Go.TM
def Ze(a b c:Nat)(R:RL):List AV:=.dv (I R.sh)::eB iO++[.own 1 a 0 [],.own 2 b 0 [],.own 3 c 0 []]
def jI(a b c:Nat)(R:RL):ae:=[(0,.cells (Ze a b c R)),(1,.tree a 0 (.aB 3 (R.st.map gy))),(2,.tree b 0 (.aB 11 (R.fl.map aM))),(3,.tree c 0 (.aB 7 (R.sp.map aC)))]
def uT(R:RL)(k:Ky)(l:List Lt):RL:={ R with st:=aU R.st k l }
variable [bJ]
theorem bK3{n:Nat}(h:n<=1000000):n*(nth j4 (nth j4 53).elem).bytes<=140737488355328:=by
 rw[show(nth j4 (nth j4 53).elem).bytes=40 by kernel_rfl];omega
theorem Sz(R:RL)(a i:Int)(l:List Lt)(hn:R.st.length<=100000)(hc:¬qE R.st (a,i)<R.st.length):aq Tryz.prog 55 [.ptr 0 0,.dv (I a),.dv (I i),.dv (aS l)] 4 (dE R) 0 [] (jI 1 0 0 (uT R (a,i) l)):=by
 have e:aU R.st (a,i) l=R.st++[((a,i),l)]:=by rw[Db,if_neg hc]
 have hf:=find_spec R a i hn
 rw[if_neg hc]at hf
 refine cO Tryz.func55 rfl (by kernel_rfl) ?_
 refine .inr (cl [0,1,2,3] hf (by kernel_rfl) rfl rfl ?_)
 refine aby (fun _=>?_) fun h=>by simp at h
 refine .inl ⟨[gy ((a,i),l)],rfl,⟨rf,rf,rf,tv⟩,(by simp;rfl),?_⟩
 refine .inr ⟨[gy ((a,i),l)],b7.refl _,bK3 (by simp;omega),by simp;omega,?_⟩
 refine ext (by kernel_rfl) rfl ?_
 simp only[uT,e,jI,abS]
 rfl
theorem Pz(R:RL)(a i:Int)(l:List Lt)(hn:R.st.length<=100000)(hc:qE R.st (a,i)<R.st.length):aq Tryz.prog 55 [.ptr 0 0,.dv (I a),.dv (I i),.dv (aS l)] 4 (dE R) 0 [] (jI 1 0 0 (uT R (a,i) l)):=by
 have e:aU R.st (a,i) l=R.st.set (qE R.st (a,i)) ((a,i),l):=by rw[Db,if_pos hc]
 have hf:=find_spec R a i hn
 rw[if_pos hc]at hf
 have hx:=Px hc
 generalize qE R.st (a,i)=q at*
 refine rO (i:=1) (e0:=0) (K1:=[(0,.cells (.dv (I R.sh)::eB iO++[.own 1 0 0 [],.own 2 0 0 [],.own 3 0 0 []])),(1,.tree 0 0 (.aB 3 ((aU R.st (a,i) l).map gy))),(2,.tree 0 0 (.aB 11 (R.fl.map aM))),(3,.tree 0 0 (.aB 7 (R.sp.map aC)))]) ?_ (by omega) ⟨_,rfl,rfl,fun j hj=>?_⟩
 ·refine cO Tryz.func55 rfl (by kernel_rfl) ?_
  refine .inr (cl [0,1,2,3] hf (by kernel_rfl) rfl rfl ?_)
  refine aby (fun h=>by have:=abQ h;omega) fun _=>?_
  refine⟨fun _=>⟨by omega,by rw[abz];omega⟩,[aS l],⟨rf,tv⟩,gy ((a,i),cr R.st (a,i)),by rw[abB];simp[hx],?_⟩
  refine ext (by kernel_rfl) rfl ?_
  simp only[e,List.map_set]
  rfl
 ·match j,hj with
  |0,_=>exact .cells (.same _ (.same _ (.same _ (.same _ (.same _ (.rY (.same _ (.same _ .nil))))))))
  |2,_=>exact .refl _
  |3,_=>exact .refl _
  |j+4,_=>exact .refl _
theorem nW(R:RL)(a i:Int)(l:List Lt)(hn:R.st.length<=100000):aq Tryz.prog 55 [.ptr 0 0,.dv (I a),.dv (I i),.dv (aS l)] 4 (dE R) 0 [] (jI 1 0 0 (uT R (a,i) l)):=by
 by_cases hc:qE R.st (a,i)<R.st.length
 ·exact Pz R a i l hn hc
 ·exact Sz R a i l hn hc
end
section
open Go.TM
def Dc(it:Int)(p:Ky×List Lt):Int:=if p.1.2=it then bQ p.2 else 0
def dp(m:SM)(it:Int):Int:=(m.map (Dc it)).sum
def eC(l:List dJ):Int:=match l.getLast? with
 |some s=>s.tick
 |none=>0
theorem Il(l:List Lt):0<=bQ l/\bQ l<=4503599627370496:=by
 unfold bQ
 cases hv:ca l with
 |false=>exact⟨Int.le_refl _,by show(0:Int)<=_;omega⟩
 |true=>
  obtain⟨h1,h2⟩:=hZ hv
  have:=C5 fun x hx=>lR (h2 x hx)
  show 0<=du l/\du l<=_
  omega
theorem VY(it:Int)(p:Ky×List Lt):0<=Dc it p/\Dc it p<=4503599627370496:=by
 have:=Il p.2
 unfold Dc;split<;>omega
theorem Dd(it:Int):∀m:SM,0<=dp m it/\dp m it<=4503599627370496*m.length
 |[]=>by simp[dp]
 |p::m=>by
  have h1:=VY it p
  have h2:=Dd it m
  simp only[dp,List.map_cons,List.sum_cons,List.length_cons]at*
  omega
theorem LZ{m:SM}{it:Int}{j:Nat}{p:Ky×List Lt}(h:m[j]?=some p):dp (m.take (j+1)) it=dp (m.take j) it+Dc it p:=by
 unfold dp;rw[abJ,h,abS,List.sum_append];simp
variable [bJ]
theorem vM(R:RL)(it:Int)(hn:R.st.length<=1000)(hl:∀p∈R.st,p.2.length<=1000000):aq Tryz.prog 41 [.ptr 0 0,.dv (I it)] 4 (dE R) 0 [.dv (I (dp R.st it))] (dE R):=by
 refine cO Tryz.func41 rfl (by kernel_rfl) ?_
 refine⟨Nat,fun j=>⟨4,[(0,.ptr 0 0),(1,.dv (I it)),(5,.dv (I (dp (R.st.take j) it))),(6,.dv (I j))],dE R⟩,fun j=>j<=R.st.length,fun j=>R.st.length-j,0,fun _=>rfl,jn rfl rfl rfl rfl,abO _,?_⟩
 rintro j hj
 refine aby ?_ ?_
 ·intro h
  have au:j<R.st.length:=by have:=abQ h;rw[abz]at this;omega
  obtain⟨p,hp⟩:∃p,R.st[j]?=some p:=⟨_,aaa au⟩
  have ip:(R.st.map gy)[(j:Int).toNat]?=some (gy p):=by rw[abB];simp[hp]
  have dQ:=LZ (it:=it) hp
  have b1:=Dd it (R.st.take j)
  have b2:=Il p.2
  have b3:(R.st.take j).length<=1000:=by rw[abU];omega
  refine⟨fun _=>⟨by omega,by rw[abz];omega⟩,gy p,fun _=>ip,?_⟩
  refine aby ?_ ?_
  ·intro h
   have e:Dc it p=bQ p.2:=if_pos (beq_iff_eq.1 h)
   rw[e]at dQ
   refine⟨fun _=>⟨by omega,by rw[abz];omega⟩,gy p,fun _=>ip,?_⟩
   refine .inl ⟨_,fun _=>(kz p.2 (hl p (abC hp))).ok,?_⟩
   exact⟨fun _=>⟨by omega,by omega⟩,fun _=>⟨by omega,by omega⟩,j+1,jn (by simp only[dQ];rfl) rfl rfl rfl,by omega,mlt au⟩
  ·intro h
   have e:Dc it p=0:=if_neg (beq_eq_false_iff_ne.1 h)
   rw[e,Int.add_zero]at dQ
   exact⟨fun _=>⟨by omega,by omega⟩,j+1,jn (by simp only[dQ];rfl) rfl rfl rfl,by omega,mlt au⟩
 ·intro h
  have he:j=R.st.length:=by have:=abR h;rw[abz]at this;omega
  subst he
  simp only[abP]
  exact ext (by kernel_rfl) rfl rfl
theorem BD(R:RL)(hn:R.sp.length<=1000000):aq Tryz.prog 28 [.ptr 0 0] 4 (dE R) 0 [.dv (I (eC R.sp))] (dE R):=by
 refine cO Tryz.func28 rfl (by kernel_rfl) ?_
 rcases List.eq_nil_or_concat R.sp with hR|⟨r,s,hR⟩
 ·have e1:(R.sp.map aC).length=0:=by rw[hR];rfl
  have e2:eC R.sp=0:=by rw[hR];rfl
  rw[e2]
  exact aby (fun _=>ext (by kernel_rfl) rfl rfl) fun h=>by have:=beq_eq_false_iff_ne.1 h;rw[e1]at this;omega
 ·rw[List.concat_eq_append]at hR
  have e1:(R.sp.map aC).length=r.length+1:=by rw[hR];simp
  have hl:r.length+1<=1000000:=by rw[hR]at hn;simpa using hn
  have e2:eC R.sp=s.tick:=by rw[hR];simp[eC]
  refine aby (fun h=>by have:=beq_iff_eq.1 h;rw[e1]at this;omega) fun _=>?_
  refine⟨fun _=>⟨by omega,by omega⟩,fun _=>⟨by omega,by omega⟩,aC s,fun _=>by rw[e1,show(((r.length+1:Nat):Int)-1).toNat=r.length by omega,hR];simp,?_⟩
  rw[e2]
  exact⟨by kernel_rfl,ext (by kernel_rfl) rfl rfl⟩
end
section
open Go.TM
theorem BE{α:Type}{e:α->DV}(h:∀x,(e x).aV)(l:List α):∀x,x∈l.map e->x.aV:=fun x hx=>by
 obtain⟨y,_,rfl⟩:=ab1.1 hx
 exact h y
theorem Zf(p:Ky×List Lt):(gy p).aV:=fun d hd=>by
 simp only[gy,DV.cells,abG,List.mem_nil_iff,or_false]at hd
 rcases hd with rfl|rfl|rfl<;>rfl
theorem T7(p:oj):(aM p).aV:=fun d hd=>by
 simp only[aM,DV.cells,abG,List.mem_nil_iff,or_false]at hd
 rcases hd with rfl|rfl|rfl|rfl|rfl|rfl|rfl|rfl|rfl|rfl|rfl<;>rfl
theorem Zg(p:dJ):(aC p).aV:=fun d hd=>by
 simp only[aC,DV.cells,abG,List.mem_nil_iff,or_false]at hd
 rcases hd with rfl|rfl|rfl|rfl|rfl|rfl|rfl<;>rfl
variable [bJ]
theorem bF{n:Nat}(h:n<=1000000):n*(nth j4 (nth j4 54).elem).bytes<=140737488355328:=by
 rw[show(nth j4 (nth j4 54).elem).bytes=120 by kernel_rfl];omega
theorem bS{n:Nat}(h:n<=1000000):n*(nth j4 (nth j4 55).elem).bytes<=140737488355328:=by
 rw[show(nth j4 (nth j4 55).elem).bytes=72 by kernel_rfl];omega
def aaL(R:RL):ae:=[(4,.cells (.dv (I R.sh)::eB iO++[.own 5 0 0 [],.own 6 0 0 [],.own 7 0 0 []])),(5,.tree 0 0 (.aB 3 (R.st.map gy))),(6,.tree 0 0 (.aB 11 (R.fl.map aM))),(7,.tree 0 0 (.aB 7 (R.sp.map aC)))]
theorem Im(R:RL)(h1:R.st.length<=1000000)(h2:R.fl.length<=1000000)(h3:R.sp.length<=1000000):aq Tryz.prog 25 [.ptr 0 0] 4 (dE R) 4 [.ptr 4 0] (dE R++aaL R):=by
 refine cO Tryz.func25 rfl (by kernel_rfl) ?_
 refine⟨by kernel_rfl,?_⟩
 refine .inr (.inl ⟨BE Zf R.st,R.st.map gy,b7.refl _,bK3 (by rw[abz];omega),by rw[abz];omega,?_⟩)
 refine⟨by kernel_rfl,?_⟩
 refine .inr (.inl ⟨BE T7 R.fl,R.fl.map aM,b7.refl _,bF (by rw[abz];omega),by rw[abz];omega,?_⟩)
 refine⟨by kernel_rfl,?_⟩
 refine .inr (.inl ⟨BE Zg R.sp,R.sp.map aC,b7.refl _,bS (by rw[abz];omega),by rw[abz];omega,?_⟩)
 exact⟨by kernel_rfl,ext (by kernel_rfl) rfl rfl⟩
theorem FN(k:Int):aO Tryz.prog 49 [I k] [B (decide (k=5\/k=7\/k=9))]:=by
 refine pO Tryz.func49 rfl (by kernel_rfl) rfl ?_
 repeat first|apply g1|apply g2|apply g3|apply g4|apply g5
 refine⟨DV.Le.of_eq ?_,tv⟩
 congr 1
 rw[ab5];simp[or_assoc]
def lT(k:Int)(m:dX):Bool:=
 if k=0\/k=5 then decide (m.fr=0)else if k=1\/k=6 then decide (m.to=0)else if k=7 then decide (0<m.fr)else if k=9 then decide (0<m.to)else decide (0<m.fr/\0<m.to)
theorem L0(k:Int)(m:dX):aO Tryz.prog 52 [I k,ak m] [B (lT k m)]:=by
 refine pO Tryz.func52 rfl (by kernel_rfl) rfl ?_
 repeat' first|exact trivial|assumption|refine g1 ?_|refine g3 ?_|refine aby ?_ ?_|refine DV.Le.of_eq ?_|intro h
 all_goals(congr 1;rw[ab5];simp_all [lT])
end
section
open Go.TM
def fV(m:dX):Bool:=decide (0<=m.it/\m.it<5/\1<=m.n/\m.n<=1099511627776/\m.fr≠m.to/\0<=m.fr/\0<=m.to/\m.fr<=1073741824/\m.to<=1073741824)
variable [bJ]
def BF(m:dX)(p:Bool):Bool:=fV m&&bif p then ca m.ps&&decide (bQ m.ps=m.n)&&decide (bQ (nV m.ps)=m.n)else decide (m.ps=[])
theorem Io(R:RL)(m:dX)(p:Bool)(hl:m.ps.length<=4000):aq Tryz.prog 50 [.ptr 0 0,cJ (ak m),.dv (B p)] 4 (dE R) 0 [.dv (B (BF m p))] (dE R):=by
 refine cO Tryz.func50 rfl (by kernel_rfl) ?_
 repeat first|apply g1|apply g2|apply g3|apply g4|apply g5
 have lz:(yR (I 2) (I 20)).length=5:=rfl
 refine⟨by kernel_rfl,?_⟩
 refine aby ?_ ?_
 ·intro h
  have hb:fV m=false:=by
   unfold fV
   rw[acb]
   simp at h
   omega
  have:BF m p=false:=by unfold BF;rw[hb];rfl
  rw[this]
  exact ext (by kernel_rfl) rfl rfl
 intro h
 have hb:fV m=true:=by
  unfold fV
  rw[ab8]
  simp at h
  omega
 have hm:BF m p=bif p then ca m.ps&&decide (bQ m.ps=m.n)&&decide (bQ (nV m.ps)=m.n)else decide (m.ps=[]):=by unfold BF;rw[hb];rfl
 rw[hm]
 cases p with
 |false=>
  refine aby (fun _=>?_) fun h=>by cases h
  rw[show(bif false then ca m.ps&&decide (bQ m.ps=m.n)&&decide (bQ (nV m.ps)=m.n)else decide (m.ps=[]))=((((m.ps.map aF).length:Nat):Int)==0)from(Zc m.ps).symm]
  exact ext (by kernel_rfl) rfl rfl
 |true=>
  refine aby (fun h=>by cases h) fun _=>?_
  refine .inl ⟨_,fun _=>(gh m.ps (by omega)).ok,?_⟩
  repeat first|apply g1|apply g2|apply g3|apply g4|apply g5
  refine .inl ⟨_,fun _=>(kz m.ps (by omega)).ok,?_⟩
  repeat first|apply g1|apply g2|apply g3|apply g4|apply g5
  refine .inl ⟨_,fun _=>(Bx m.ps (by omega)).ok,?_⟩
  repeat first|apply g1|apply g2|apply g3|apply g4|apply g5
  have iQ:=(y6 m.ps).1
  refine .inl ⟨_,fun _=>(kz (nV m.ps) (by omega)).ok,?_⟩
  repeat first|apply g1|apply g2|apply g3|apply g4|apply g5
  refine⟨by kernel_rfl,?_⟩
  rw[show(bif true then ca m.ps&&decide (bQ m.ps=m.n)&&decide (bQ (nV m.ps)=m.n)else decide (m.ps=[]))=(bif bif ca m.ps then bQ m.ps==m.n else false then bQ (nV m.ps)==m.n else false)by
   rw[ab5];cases ca m.ps<;>simp]
  exact ext (by kernel_rfl) rfl rfl
end
section
open Go.TM
def m0:dX:=⟨0,0,0,0,[]⟩
def PA(r:Int):Int:=if r<0 then -2-r else r
def VZ(r:Int)(x:Sv):List Ky:=if r<0 then x.bk else x.gv
def gE(mv:List dX)(tm:Int)(tk gv:List Ky)(k:Nat):Bool:=
 if k<tk.length then decide ((mv.getD k m0).fr=(mv.getD 0 m0).fr/\1<=(mv.getD k m0).fr/\(mv.getD k m0).to=0/\(mv.getD k m0).it=(tk.getD k (0,0)).1/\(mv.getD k m0).n=(tk.getD k (0,0)).2*tm)
 else decide ((mv.getD k m0).fr=0/\1<=(mv.getD k m0).to/\(mv.getD k m0).to=(mv.getD (mv.length-1) m0).to/\(mv.getD k m0).it=(gv.getD (k-tk.length) (0,0)).1/\(mv.getD k m0).n=(gv.getD (k-tk.length) (0,0)).2*tm)
def qt(s:dJ):Bool:=
 if PA s.aD<0\/5<=PA s.aD\/s.times<1\/1048576<s.times then false else match dT[(PA s.aD).toNat]? with
  |some r=>bif r.sp then false else if(s.aD<0/\r.ch=r.of)\/s.mv.length≠r.tk.length+(VZ s.aD r).length then false else(List.range s.mv.length).all (gE s.mv s.times r.tk (VZ s.aD r))
  |none=>false
theorem De{i:Nat}{r:Sv}(h:dT[i]?=some r):(∀p∈r.tk,0<=p.2/\p.2<=100)/\(∀p∈r.gv,0<=p.2/\p.2<=100)/\(∀p∈r.bk,0<=p.2/\p.2<=100):=by
 have:∀r∈dT,(∀p∈r.tk,0<=p.2/\p.2<=100)/\(∀p∈r.gv,0<=p.2/\p.2<=100)/\(∀p∈r.bk,0<=p.2/\p.2<=100):=by
  intro r hr
  simp only[dT,abG,List.mem_nil_iff,or_false]at hr
  rcases hr with rfl|rfl|rfl|rfl|rfl<;>decide
 exact this r (abC h)
theorem Df{i:Nat}{r:Sv}(h:dT[i]?=some r):r.tk.length<=10/\r.gv.length<=10/\r.bk.length<=10:=by
 have:∀r∈dT,r.tk.length<=10/\r.gv.length<=10/\r.bk.length<=10:=by
  intro r hr
  simp only[dT,abG,List.mem_nil_iff,or_false]at hr
  rcases hr with rfl|rfl|rfl|rfl|rfl<;>decide
 exact this r (abC h)
theorem vN{a t:Int}(ha:0<=a/\a<=100)(ht:1<=t/\t<=1048576):0<=a*t/\a*t<=104857600:=
 ⟨Int.mul_nonneg ha.1 (by omega),Int.le_trans (Int.mul_le_mul ha.2 ht.2 (by omega) (by omega)) (by omega)⟩
variable [bJ]
theorem FO(R:RL)(s:dJ)(hr:oC s.aD)(hl:s.mv.length<=1000)(h1:1<=s.mv.length):aq Tryz.prog 51 [.ptr 0 0,cJ (aC s)] 4 (dE R) 0 [.dv (B (qt s))] (dE R):=by
 refine cO Tryz.func51 rfl (by kernel_rfl) ?_
 have Q0:-9223372036854775808<=s.aD/\s.aD<=9223372036854775807:=hr
 have SA:(dT.map gT).length=5:=rfl
 have aaM:dT.length=5:=rfl
 refine aby ?_ ?_
 ·intro kX
  have kX:=abQ kX
  refine⟨fun _=>⟨by omega,by omega⟩,?_⟩
  repeat first|apply g1|apply g2|apply g3|apply g4|apply g5
  have hI:PA s.aD=(-2-s.aD):=if_pos kX
  have hG:∀r,VZ s.aD r=r.bk:=fun r=>if_pos kX
  obtain⟨r,uw⟩:∃r,0<=(-2-s.aD)/\(-2-s.aD)<5->dT[(-2-s.aD).toNat]?=some r:=⟨(dT[(-2-s.aD).toNat]?).getD ⟨⟨#[]⟩,false,0,0,0,0,[],[],[]⟩,fun h=>by rw[aaa (show(-2-s.aD).toNat<dT.length from(show(-2-s.aD).toNat<5 by omega))];rfl⟩
  have PB:0<=(-2-s.aD)/\(-2-s.aD)<5->(dT.map gT)[(-2-s.aD).toNat]?=some (gT r):=fun h=>by rw[abB,uw h];rfl
  refine⟨gT r,fun h=>?_,?_⟩
  ·simp[bw]at h
   exact⟨by omega,PB (by omega)⟩
  repeat first|apply g1|apply g2|apply g3|apply g4|apply g5
  refine aby ?_ ?_
  ·intro h
   have hc:qt s=false:=by
    unfold qt
    rw[hI]
    split
    ·rfl
    ·rename_i hn
     rw[uw (by omega)]
     have:r.sp=true:=by
      have h:=h
      rw[abX (show¬(-2-s.aD)<0 by omega),abX (show¬((dT.map gT).length:Int)<=(-2-s.aD)by omega),abX (show¬s.times<1 by omega),abX (show¬1048576<s.times by omega)]at h
      exact h
     simp only[this,cond_true]
   rw[hc]
   exact ext (by kernel_rfl) rfl rfl
  intro h
  have dP:(0<=(-2-s.aD)/\(-2-s.aD)<5)/\1<=s.times/\s.times<=1048576/\r.sp=false:=by
   simp at h
   exact⟨⟨by omega,by omega⟩,by omega,by omega,h.2⟩
  obtain⟨tl1,tl2,tl3⟩:=Df (uw dP.1)
  have jr:qt s=if(s.aD<0/\r.ch=r.of)\/s.mv.length≠r.tk.length+(r.bk).length then false else(List.range s.mv.length).all (gE s.mv s.times r.tk (r.bk)):=by
   unfold qt
   rw[hI,if_neg (by omega),uw dP.1]
   simp only[dP.2.2.2,cond_false,hG]
  repeat first|apply g1|apply g2|apply g3|apply g4|apply g5|refine⟨gT r,fun _=>⟨by omega,PB dP.1⟩,?_⟩|refine⟨fun _=>⟨by rw[abz,abz];omega,by rw[abz,abz];omega⟩,?_⟩
  refine aby (fun _=>?_) fun h=>absurd kX (abR h)
  repeat first|apply g1|apply g2|apply g3|apply g4|apply g5|refine⟨gT r,fun _=>⟨by omega,PB dP.1⟩,?_⟩|refine⟨fun _=>⟨by rw[abz,abz];omega,by rw[abz,abz];omega⟩,?_⟩
  refine⟨by kernel_rfl,?_⟩
  refine aby ?_ ?_
  ·intro h
   have hc:qt s=false:=by
    rw[jr,if_pos]
    rw[abz,abz,abz]at h
    simp at h
    rcases h with h|h
    ·exact .inl h
    ·exact .inr (by omega)
   rw[hc]
   exact ext (by kernel_rfl) rfl rfl
  intro h
  have Hb:¬((s.aD<0/\r.ch=r.of)\/s.mv.length≠r.tk.length+(r.bk).length):=by
   rw[abz,abz,abz]at h
   simp at h
   rintro(hh|hh)
   ·exact h.1 hh.1 hh.2
   ·omega
  rw[if_neg Hb]at jr
  have SB:s.mv.length=r.tk.length+(r.bk).length:=by omega
  rw[jr]
  generalize nb:r.bk=gv at*
  refine⟨Nat,fun k=>⟨5,[(3,.ptr 4 0),(6,.dv (.sl 2 (r.tk.map fk))),(7,.dv (.sl 2 (gv.map fk))),(8,.dv (I k))],dE R++[(4,.cells (eB (aC s).cells))]⟩,fun k=>k<=s.mv.length/\∀j,j<k->gE s.mv s.times r.tk gv j=true,fun k=>s.mv.length-k,0,fun _=>rfl,jn rfl rfl rfl rfl,⟨abO _,fun j hj=>absurd hj (by omega)⟩,?_⟩
  rintro k ⟨hk,br⟩
  refine aby ?_ ?_
  ·intro h
   have au:k<s.mv.length:=by have:=abQ h;rw[abz]at this;omega
   obtain⟨m,hm⟩:∃m,s.mv[k]?=some m:=⟨_,aaa au⟩
   obtain⟨f,hf⟩:∃f,s.mv[0]?=some f:=⟨_,aaa (show 0<s.mv.length by omega)⟩
   obtain⟨g,hg⟩:∃g,s.mv[s.mv.length-1]?=some g:=⟨_,aaa (show s.mv.length-1<s.mv.length by omega)⟩
   have dm:s.mv.getD k m0=m:=by rw[abE,hm];rfl
   have df:s.mv.getD 0 m0=f:=by rw[abE,hf];rfl
   have dg:s.mv.getD (s.mv.length-1) m0=g:=by rw[abE,hg];rfl
   have im:(s.mv.map ak)[(k:Int).toNat]?=some (ak m):=by rw[abB];simp[hm]
   have i0:(s.mv.map ak)[(0:Int).toNat]?=some (ak f):=by rw[abB];exact congrArg (Option.map ak) hf
   have ig:(s.mv.map ak)[(((s.mv.map ak).length:Int)-1).toNat]?=some (ak g):=by rw[abz,show((s.mv.length:Int)-1).toNat=s.mv.length-1 by omega,abB,hg];rfl
   have lm:(s.mv.map ak).length=s.mv.length:=abz ..
   have lt:(r.tk.map fk).length=r.tk.length:=abz ..
   have lg:(gv.map fk).length=gv.length:=abz ..
   obtain⟨V0,Zh,Zi⟩:=De (uw dP.1)
   have bgv:∀p∈gv,0<=p.2/\p.2<=100:=by rw[<-nb];exact Zi
   refine⟨ak m,fun _=>⟨by omega,im⟩,?_⟩
   refine aby ?_ ?_
   ·intro oP
    have D1:k<r.tk.length:=by have:=abQ oP;omega
    obtain⟨a,ha⟩:∃a,r.tk[k]?=some a:=⟨_,aaa D1⟩
    have da:r.tk.getD k (0,0)=a:=by rw[abE,ha];rfl
    have ia:(r.tk.map fk)[(k:Int).toNat]?=some (fk a):=by rw[abB];simp[ha]
    have RA:=vN (V0 a (abC ha)) ⟨dP.2.1,dP.2.2.1⟩
    have qz:gE s.mv s.times r.tk gv k=decide (m.fr=f.fr/\1<=m.fr/\m.to=0/\m.it=a.1/\m.n=a.2*s.times):=by unfold gE;rw[if_pos D1,dm,df,da]
    repeat first|apply g1|apply g2|apply g3|apply g4|apply g5|refine⟨fun _=>⟨by omega,by omega⟩,?_⟩|refine⟨fk a,fun _=>⟨by omega,ia⟩,?_⟩|refine⟨ak f,fun _=>⟨by omega,i0⟩,?_⟩|refine⟨ak g,fun _=>⟨by omega,ig⟩,?_⟩
    refine⟨by kernel_rfl,?_⟩
    refine aby ?_ ?_
    ·intro h
     have td:gE s.mv s.times r.tk gv k=false:=by
      rw[qz,acb]
      rintro⟨q1,q2,q3,q4,q5⟩
      simp at h
      omega
     rw[show(List.range s.mv.length).all (gE s.mv s.times r.tk gv)=false from List.all_eq_false.2 ⟨k,ab2.2 au,by rw[td];simp⟩]
     exact ext (by kernel_rfl) rfl rfl
    ·intro h
     have Ip:gE s.mv s.times r.tk gv k=true:=by
      rw[qz,ab8]
      simp at h
      omega
     refine⟨fun _=>⟨by omega,by omega⟩,k+1,jn rfl rfl rfl rfl,⟨by omega,fun j hj=>?_⟩,mlt au⟩
     rcases abT j k with uU|uU
     ·exact br j uU
     ·rw[show j=k by omega];exact Ip
   ·intro oP
    have D1:¬k<r.tk.length:=by have:=abR oP;omega
    obtain⟨a,ha⟩:∃a,gv[k-r.tk.length]?=some a:=⟨_,aaa (show k-r.tk.length<gv.length by omega)⟩
    have da:gv.getD (k-r.tk.length) (0,0)=a:=by rw[abE,ha];rfl
    have ia:(gv.map fk)[((k:Int)-(r.tk.map fk).length).toNat]?=some (fk a):=by rw[lt,show((k:Int)-r.tk.length).toNat=k-r.tk.length by omega,abB,ha];rfl
    have RA:=vN (bgv a (abC ha)) ⟨dP.2.1,dP.2.2.1⟩
    have qz:gE s.mv s.times r.tk gv k=decide (m.fr=0/\1<=m.to/\m.to=g.to/\m.it=a.1/\m.n=a.2*s.times):=by unfold gE;rw[if_neg D1,dm,dg,da]
    repeat first|apply g1|apply g2|apply g3|apply g4|apply g5|refine⟨fun _=>⟨by omega,by omega⟩,?_⟩|refine⟨fk a,fun _=>⟨by omega,ia⟩,?_⟩|refine⟨ak f,fun _=>⟨by omega,i0⟩,?_⟩|refine⟨ak g,fun _=>⟨by omega,ig⟩,?_⟩
    refine⟨by kernel_rfl,?_⟩
    refine aby ?_ ?_
    ·intro h
     have td:gE s.mv s.times r.tk gv k=false:=by
      rw[qz,acb]
      rintro⟨q1,q2,q3,q4,q5⟩
      simp at h
      omega
     rw[show(List.range s.mv.length).all (gE s.mv s.times r.tk gv)=false from List.all_eq_false.2 ⟨k,ab2.2 au,by rw[td];simp⟩]
     exact ext (by kernel_rfl) rfl rfl
    ·intro h
     have Ip:gE s.mv s.times r.tk gv k=true:=by
      rw[qz,ab8]
      simp at h
      omega
     refine⟨fun _=>⟨by omega,by omega⟩,k+1,jn rfl rfl rfl rfl,⟨by omega,fun j hj=>?_⟩,mlt au⟩
     rcases abT j k with uU|uU
     ·exact br j uU
     ·rw[show j=k by omega];exact Ip
  ·intro h
   have he:k=s.mv.length:=by have:=abR h;rw[abz]at this;omega
   subst he
   rw[show(List.range s.mv.length).all (gE s.mv s.times r.tk gv)=true from abY.2 fun j hj=>br j (ab2.1 hj)]
   exact ext (by kernel_rfl) rfl rfl
 ·intro kX
  have kX:=abR kX
  repeat first|apply g1|apply g2|apply g3|apply g4|apply g5
  have hI:PA s.aD=s.aD:=if_neg kX
  have hG:∀r,VZ s.aD r=r.gv:=fun r=>if_neg kX
  obtain⟨r,uw⟩:∃r,0<=s.aD/\s.aD<5->dT[s.aD.toNat]?=some r:=⟨(dT[s.aD.toNat]?).getD ⟨⟨#[]⟩,false,0,0,0,0,[],[],[]⟩,fun h=>by rw[aaa (show s.aD.toNat<dT.length from(show s.aD.toNat<5 by omega))];rfl⟩
  have PB:0<=s.aD/\s.aD<5->(dT.map gT)[s.aD.toNat]?=some (gT r):=fun h=>by rw[abB,uw h];rfl
  refine⟨gT r,fun h=>?_,?_⟩
  ·simp[bw]at h
   exact⟨by omega,PB (by omega)⟩
  repeat first|apply g1|apply g2|apply g3|apply g4|apply g5
  refine aby ?_ ?_
  ·intro h
   have hc:qt s=false:=by
    unfold qt
    rw[hI]
    split
    ·rfl
    ·rename_i hn
     rw[uw (by omega)]
     have:r.sp=true:=by
      have h:=h
      rw[abX (show¬s.aD<0 by omega),abX (show¬((dT.map gT).length:Int)<=s.aD by omega),abX (show¬s.times<1 by omega),abX (show¬1048576<s.times by omega)]at h
      exact h
     simp only[this,cond_true]
   rw[hc]
   exact ext (by kernel_rfl) rfl rfl
  intro h
  have dP:(0<=s.aD/\s.aD<5)/\1<=s.times/\s.times<=1048576/\r.sp=false:=by
   simp at h
   exact⟨⟨by omega,by omega⟩,by omega,by omega,h.2⟩
  obtain⟨tl1,tl2,tl3⟩:=Df (uw dP.1)
  have jr:qt s=if(s.aD<0/\r.ch=r.of)\/s.mv.length≠r.tk.length+(r.gv).length then false else(List.range s.mv.length).all (gE s.mv s.times r.tk (r.gv)):=by
   unfold qt
   rw[hI,if_neg (by omega),uw dP.1]
   simp only[dP.2.2.2,cond_false,hG]
  repeat first|apply g1|apply g2|apply g3|apply g4|apply g5|refine⟨gT r,fun _=>⟨by omega,PB dP.1⟩,?_⟩|refine⟨fun _=>⟨by rw[abz,abz];omega,by rw[abz,abz];omega⟩,?_⟩
  refine aby (fun h=>absurd (abQ h) kX) fun _=>?_
  repeat first|apply g1|apply g2|apply g3|apply g4|apply g5|refine⟨gT r,fun _=>⟨by omega,PB dP.1⟩,?_⟩|refine⟨fun _=>⟨by rw[abz,abz];omega,by rw[abz,abz];omega⟩,?_⟩
  refine⟨by kernel_rfl,?_⟩
  refine aby ?_ ?_
  ·intro h
   have hc:qt s=false:=by
    rw[jr,if_pos]
    rw[abz,abz,abz]at h
    simp at h
    rcases h with h|h
    ·exact .inl h
    ·exact .inr (by omega)
   rw[hc]
   exact ext (by kernel_rfl) rfl rfl
  intro h
  have Hb:¬((s.aD<0/\r.ch=r.of)\/s.mv.length≠r.tk.length+(r.gv).length):=by
   rw[abz,abz,abz]at h
   simp at h
   rintro(hh|hh)
   ·exact h.1 hh.1 hh.2
   ·omega
  rw[if_neg Hb]at jr
  have SB:s.mv.length=r.tk.length+(r.gv).length:=by omega
  rw[jr]
  generalize nb:r.gv=gv at*
  refine⟨Nat,fun k=>⟨5,[(3,.ptr 4 0),(6,.dv (.sl 2 (r.tk.map fk))),(7,.dv (.sl 2 (gv.map fk))),(8,.dv (I k))],dE R++[(4,.cells (eB (aC s).cells))]⟩,fun k=>k<=s.mv.length/\∀j,j<k->gE s.mv s.times r.tk gv j=true,fun k=>s.mv.length-k,0,fun _=>rfl,jn rfl rfl rfl rfl,⟨abO _,fun j hj=>absurd hj (by omega)⟩,?_⟩
  rintro k ⟨hk,br⟩
  refine aby ?_ ?_
  ·intro h
   have au:k<s.mv.length:=by have:=abQ h;rw[abz]at this;omega
   obtain⟨m,hm⟩:∃m,s.mv[k]?=some m:=⟨_,aaa au⟩
   obtain⟨f,hf⟩:∃f,s.mv[0]?=some f:=⟨_,aaa (show 0<s.mv.length by omega)⟩
   obtain⟨g,hg⟩:∃g,s.mv[s.mv.length-1]?=some g:=⟨_,aaa (show s.mv.length-1<s.mv.length by omega)⟩
   have dm:s.mv.getD k m0=m:=by rw[abE,hm];rfl
   have df:s.mv.getD 0 m0=f:=by rw[abE,hf];rfl
   have dg:s.mv.getD (s.mv.length-1) m0=g:=by rw[abE,hg];rfl
   have im:(s.mv.map ak)[(k:Int).toNat]?=some (ak m):=by rw[abB];simp[hm]
   have i0:(s.mv.map ak)[(0:Int).toNat]?=some (ak f):=by rw[abB];exact congrArg (Option.map ak) hf
   have ig:(s.mv.map ak)[(((s.mv.map ak).length:Int)-1).toNat]?=some (ak g):=by rw[abz,show((s.mv.length:Int)-1).toNat=s.mv.length-1 by omega,abB,hg];rfl
   have lm:(s.mv.map ak).length=s.mv.length:=abz ..
   have lt:(r.tk.map fk).length=r.tk.length:=abz ..
   have lg:(gv.map fk).length=gv.length:=abz ..
   obtain⟨V0,Zh,Zi⟩:=De (uw dP.1)
   have bgv:∀p∈gv,0<=p.2/\p.2<=100:=by rw[<-nb];exact Zh
   refine⟨ak m,fun _=>⟨by omega,im⟩,?_⟩
   refine aby ?_ ?_
   ·intro oP
    have D1:k<r.tk.length:=by have:=abQ oP;omega
    obtain⟨a,ha⟩:∃a,r.tk[k]?=some a:=⟨_,aaa D1⟩
    have da:r.tk.getD k (0,0)=a:=by rw[abE,ha];rfl
    have ia:(r.tk.map fk)[(k:Int).toNat]?=some (fk a):=by rw[abB];simp[ha]
    have RA:=vN (V0 a (abC ha)) ⟨dP.2.1,dP.2.2.1⟩
    have qz:gE s.mv s.times r.tk gv k=decide (m.fr=f.fr/\1<=m.fr/\m.to=0/\m.it=a.1/\m.n=a.2*s.times):=by unfold gE;rw[if_pos D1,dm,df,da]
    repeat first|apply g1|apply g2|apply g3|apply g4|apply g5|refine⟨fun _=>⟨by omega,by omega⟩,?_⟩|refine⟨fk a,fun _=>⟨by omega,ia⟩,?_⟩|refine⟨ak f,fun _=>⟨by omega,i0⟩,?_⟩|refine⟨ak g,fun _=>⟨by omega,ig⟩,?_⟩
    refine⟨by kernel_rfl,?_⟩
    refine aby ?_ ?_
    ·intro h
     have td:gE s.mv s.times r.tk gv k=false:=by
      rw[qz,acb]
      rintro⟨q1,q2,q3,q4,q5⟩
      simp at h
      omega
     rw[show(List.range s.mv.length).all (gE s.mv s.times r.tk gv)=false from List.all_eq_false.2 ⟨k,ab2.2 au,by rw[td];simp⟩]
     exact ext (by kernel_rfl) rfl rfl
    ·intro h
     have Ip:gE s.mv s.times r.tk gv k=true:=by
      rw[qz,ab8]
      simp at h
      omega
     refine⟨fun _=>⟨by omega,by omega⟩,k+1,jn rfl rfl rfl rfl,⟨by omega,fun j hj=>?_⟩,mlt au⟩
     rcases abT j k with uU|uU
     ·exact br j uU
     ·rw[show j=k by omega];exact Ip
   ·intro oP
    have D1:¬k<r.tk.length:=by have:=abR oP;omega
    obtain⟨a,ha⟩:∃a,gv[k-r.tk.length]?=some a:=⟨_,aaa (show k-r.tk.length<gv.length by omega)⟩
    have da:gv.getD (k-r.tk.length) (0,0)=a:=by rw[abE,ha];rfl
    have ia:(gv.map fk)[((k:Int)-(r.tk.map fk).length).toNat]?=some (fk a):=by rw[lt,show((k:Int)-r.tk.length).toNat=k-r.tk.length by omega,abB,ha];rfl
    have RA:=vN (bgv a (abC ha)) ⟨dP.2.1,dP.2.2.1⟩
    have qz:gE s.mv s.times r.tk gv k=decide (m.fr=0/\1<=m.to/\m.to=g.to/\m.it=a.1/\m.n=a.2*s.times):=by unfold gE;rw[if_neg D1,dm,dg,da]
    repeat first|apply g1|apply g2|apply g3|apply g4|apply g5|refine⟨fun _=>⟨by omega,by omega⟩,?_⟩|refine⟨fk a,fun _=>⟨by omega,ia⟩,?_⟩|refine⟨ak f,fun _=>⟨by omega,i0⟩,?_⟩|refine⟨ak g,fun _=>⟨by omega,ig⟩,?_⟩
    refine⟨by kernel_rfl,?_⟩
    refine aby ?_ ?_
    ·intro h
     have td:gE s.mv s.times r.tk gv k=false:=by
      rw[qz,acb]
      rintro⟨q1,q2,q3,q4,q5⟩
      simp at h
      omega
     rw[show(List.range s.mv.length).all (gE s.mv s.times r.tk gv)=false from List.all_eq_false.2 ⟨k,ab2.2 au,by rw[td];simp⟩]
     exact ext (by kernel_rfl) rfl rfl
    ·intro h
     have Ip:gE s.mv s.times r.tk gv k=true:=by
      rw[qz,ab8]
      simp at h
      omega
     refine⟨fun _=>⟨by omega,by omega⟩,k+1,jn rfl rfl rfl rfl,⟨by omega,fun j hj=>?_⟩,mlt au⟩
     rcases abT j k with uU|uU
     ·exact br j uU
     ·rw[show j=k by omega];exact Ip
  ·intro h
   have he:k=s.mv.length:=by have:=abR h;rw[abz]at this;omega
   subst he
   rw[show(List.range s.mv.length).all (gE s.mv s.times r.tk gv)=true from abY.2 fun j hj=>br j (ab2.1 hj)]
   exact ext (by kernel_rfl) rfl rfl
end
section
open Go.TM
def Dg(s:dJ):Bool:=decide (0<=s.kind/\s.kind<=10/\0<=s.gl/\s.gl<=1073741824)
def tg(s:dJ):Bool:=decide (s.aD=-1/\1<=s.times/\s.times<=1048576/\s.mv.length=2/\(s.mv.getD 0 m0).to=0/\(s.mv.getD 1 m0).fr=0/\(s.mv.getD 1 m0).to=(s.mv.getD 0 m0).fr/\(s.mv.getD 0 m0).n.tmod s.times=0/\(s.mv.getD 1 m0).n.tmod s.times=0)
def mc(k:Int):Bool:=decide (k=5\/k=7\/k=9)
variable [bJ]
def lC(now:Int)(s:dJ):Bool:=
 Dg s&&decide (now<=s.tick/\s.tick<=1099511627776/\1<=s.mv.length/\s.mv.length<=64)&&s.mv.all (fun m=>BF m (mc s.kind))&&
  bif decide (s.kind=4)then qt s else bif decide (s.kind=10)then tg s else s.mv.all (lT s.kind)&&decide (s.aD=-1/\s.times=0)
theorem y7(R:RL)(s:dJ)(hr:oC s.aD)(hn:R.sp.length<=1000000)(hl:s.mv.length<=1000)(lu:∀m∈s.mv,m.ps.length<=4000):aq Tryz.prog 24 [.ptr 0 0,cJ (aC s)] 4 (dE R) 0 [.dv (B (lC (eC R.sp) s))] (dE R):=by
 refine cO Tryz.func24 rfl (by kernel_rfl) ?_
 repeat first|apply g1|apply g2|apply g3|apply g4|apply g5
 by_cases hA:Dg s=true
 ·have hA2:=abQ hA
  refine .inr (cl [0,1,2,3] (BD R hn) (by kernel_rfl) rfl rfl ?_)
  refine⟨by simp[bw];omega,?_⟩
  repeat first|apply g1|apply g2|apply g3|apply g4|apply g5|refine⟨fun _=>rfl,?_⟩
  refine⟨by kernel_rfl,?_⟩
  refine aby ?_ ?_
  ·intro h
   have hc:lC (eC R.sp) s=false:=by
    have:decide (eC R.sp<=s.tick/\s.tick<=1099511627776/\1<=s.mv.length/\s.mv.length<=64)=false:=by
     rw[acb]
     rw[abz]at h
     simp at h
     omega
    unfold lC
    rw[this,Bool.and_false];rfl
   rw[hc]
   exact ext (by kernel_rfl) rfl rfl
  intro h
  have hB:eC R.sp<=s.tick/\s.tick<=1099511627776/\1<=s.mv.length/\s.mv.length<=64:=by
   rw[abz]at h
   simp at h
   omega
  have hp:lC (eC R.sp) s=(s.mv.all (fun m=>BF m (mc s.kind))&&bif decide (s.kind=4)then qt s else bif decide (s.kind=10)then tg s else s.mv.all (lT s.kind)&&decide (s.aD=-1/\s.times=0)):=by
   unfold lC
   rw[hA,abW hB];rfl
  rw[hp]
  refine .inl ⟨_,fun _=>(FN s.kind).ok,?_⟩
  have aj:mc s.kind=decide (s.kind=5\/s.kind=7\/s.kind=9):=rfl
  rw[<-aj]
  have lm:(s.mv.map ak).length=s.mv.length:=abz ..
  refine⟨Nat,fun i=>⟨5,[(0,.ptr 0 0),(3,.ptr 4 0),(5,.dv (B (mc s.kind))),(6,.dv (I i))],dE R++[(4,.cells (eB (aC s).cells))]⟩,fun i=>i<=s.mv.length/\∀m∈s.mv.take i,BF m (mc s.kind)=true,fun i=>s.mv.length-i,0,fun _=>rfl,jn rfl rfl rfl rfl,⟨abO _,fun _ h=>by simp at h⟩,?_⟩
  rintro i ⟨hi,br⟩
  refine aby ?_ ?_
  ·intro h
   have au:i<s.mv.length:=by have:=abQ h;omega
   obtain⟨m,hm⟩:∃m,s.mv[i]?=some m:=⟨_,aaa au⟩
   have rP:=abC hm
   have im:(s.mv.map ak)[(i:Int).toNat]?=some (ak m):=by rw[abB];simp[hm]
   refine⟨ak m,fun _=>⟨by omega,im⟩,?_⟩
   refine .inr (cl [0,1,2,3] (Io R m (mc s.kind) (lu m rP)) (by kernel_rfl) rfl rfl ?_)
   refine aby ?_ ?_
   ·intro h
    have h:BF m (mc s.kind)=false:=by simpa using h
    rw[show s.mv.all (fun m=>BF m (mc s.kind))=false from List.all_eq_false.2 ⟨m,rP,by rw[h];simp⟩]
    exact ext (by kernel_rfl) rfl rfl
   ·intro h
    have h:BF m (mc s.kind)=true:=by simpa using h
    exact⟨fun _=>⟨by omega,by omega⟩,i+1,jn rfl rfl rfl rfl,⟨by omega,fun q hq=>by
     rw[abJ,hm]at hq
     rcases abI.1 hq with hq|hq
     ·exact br q hq
     ·simp at hq;subst hq;exact h⟩,mlt au⟩
  intro h
  have he:i=s.mv.length:=by have:=abR h;omega
  subst he
  rw[abP]at br
  rw[show s.mv.all (fun m=>BF m (mc s.kind))=true from abY.2 br,Bool.true_and]
  refine aby ?_ ?_
  ·intro h
   have h4:s.kind=4:=beq_iff_eq.1 h
   rw[abW h4]
   refine .inr (cl [0,1,2,3] (FO R s hr hl (by omega)) (by kernel_rfl) rfl rfl ?_)
   exact ext (by kernel_rfl) rfl rfl
  intro h
  have h4:¬s.kind=4:=beq_eq_false_iff_ne.1 h
  rw[abX h4]
  refine aby ?_ ?_
  ·intro h
   have Q4:s.kind=10:=beq_iff_eq.1 h
   rw[abW Q4]
   repeat first|apply g1|apply g2|apply g3|apply g4|apply g5|refine⟨fun _=>rfl,?_⟩
   refine aby ?_ ?_
   ·intro h
    have hc:tg s=false:=by
     unfold tg
     rw[acb]
     rintro⟨q1,q2,q3,q4,-⟩
     rw[lm]at h
     simp at h
     omega
    rw[hc]
    exact ext (by kernel_rfl) rfl rfl
   intro h
   have hc:s.aD=-1/\1<=s.times/\s.times<=1048576/\s.mv.length=2:=by
    rw[lm]at h
    simp at h
    omega
   obtain⟨c1,c2,c3,c4⟩:=hc
   obtain⟨a,ha⟩:∃a,s.mv[0]?=some a:=⟨_,aaa (show 0<s.mv.length by omega)⟩
   obtain⟨b,hb⟩:∃b,s.mv[1]?=some b:=⟨_,aaa (show 1<s.mv.length by omega)⟩
   have ia:(s.mv.map ak)[(0:Int).toNat]?=some (ak a):=by rw[abB];exact congrArg (Option.map ak) ha
   have ib:(s.mv.map ak)[(1:Int).toNat]?=some (ak b):=by rw[abB];exact congrArg (Option.map ak) hb
   have da:s.mv.getD 0 m0=a:=by rw[abE,ha];rfl
   have db:s.mv.getD 1 m0=b:=by rw[abE,hb];rfl
   refine⟨ak a,fun _=>⟨by omega,ia⟩,ak b,fun _=>⟨by omega,ib⟩,?_⟩
   repeat first|apply g1|apply g2|apply g3|apply g4|apply g5|refine⟨fun _ h=>by omega,?_⟩
   have hcv:tg s=(bif bif bif bif a.to==0 then b.fr==0 else false then b.to==a.fr else false then a.n.tmod s.times==0 else false then b.n.tmod s.times==0 else false):=by
    unfold tg
    rw[da,db,ab5]
    simp[c1,c2,c3,c4,and_assoc]
   rw[hcv]
   exact ext (by kernel_rfl) rfl rfl
  ·intro h
   have Q4:¬s.kind=10:=beq_eq_false_iff_ne.1 h
   rw[abX Q4]
   refine⟨Nat,fun i=>⟨5,[(3,.ptr 4 0),(10,.dv (I i))],dE R++[(4,.cells (eB (aC s).cells))]⟩,fun i=>i<=s.mv.length/\∀m∈s.mv.take i,lT s.kind m=true,fun i=>s.mv.length-i,0,fun _=>rfl,jn rfl rfl rfl rfl,⟨abO _,fun _ h=>by simp at h⟩,?_⟩
   rintro i ⟨hi,br⟩
   refine aby ?_ ?_
   ·intro h
    have au:i<s.mv.length:=by have:=abQ h;omega
    obtain⟨m,hm⟩:∃m,s.mv[i]?=some m:=⟨_,aaa au⟩
    have rP:=abC hm
    have im:(s.mv.map ak)[(i:Int).toNat]?=some (ak m):=by rw[abB];simp[hm]
    refine⟨ak m,fun _=>⟨by omega,im⟩,?_⟩
    refine .inl ⟨_,fun _=>(L0 s.kind m).ok,?_⟩
    refine⟨by kernel_rfl,?_⟩
    refine aby ?_ ?_
    ·intro h
     have h:lT s.kind m=false:=by simpa using h
     rw[show s.mv.all (lT s.kind)=false from List.all_eq_false.2 ⟨m,rP,by rw[h];simp⟩]
     exact ext (by kernel_rfl) rfl rfl
    ·intro h
     have h:lT s.kind m=true:=by simpa using h
     exact⟨fun _=>⟨by omega,by omega⟩,i+1,jn rfl rfl rfl rfl,⟨by omega,fun q hq=>by
      rw[abJ,hm]at hq
      rcases abI.1 hq with hq|hq
      ·exact br q hq
      ·simp at hq;subst hq;exact h⟩,mlt au⟩
   intro h
   have he:i=s.mv.length:=by have:=abR h;omega
   subst he
   rw[abP]at br
   rw[show s.mv.all (lT s.kind)=true from abY.2 br,Bool.true_and]
   repeat first|apply g1|apply g2|apply g3|apply g4|apply g5
   rw[show(bif false then tg s else decide (s.aD=-1/\s.times=0))=(bif s.aD== -1 then s.times==0 else false)by rw[ab5];simp]
   exact ext (by kernel_rfl) rfl rfl
 ·have hA2:¬(0<=s.kind/\s.kind<=10/\0<=s.gl/\s.gl<=1073741824):=fun h=>hA (abW h)
  refine .inl ⟨by simp[bw];omega,[I 0],fun h=>absurd h (by simp[bw];omega),rfl,?_⟩
  repeat first|apply g1|apply g2|apply g3|apply g4|apply g5|refine⟨fun _=>rfl,?_⟩
  refine⟨by kernel_rfl,?_⟩
  refine aby ?_ ?_
  ·intro h
   have hc:lC (eC R.sp) s=false:=by unfold lC;rw[Bool.not_eq_true]at hA;rw[hA];rfl
   rw[hc]
   exact ext (by kernel_rfl) rfl rfl
  ·intro h
   simp at h
   omega
end
end Go.Proofs.YtpbiiigpphehbaaGreatDoor
