import Derived.Test.YtmojfblpbcficaaGreatDoorUM19
import Derived.Test.YtmojfblpbcficaaGreatDoorUM20
set_option linter.all false
open Go.TM.oA Go.TM.oB Go.TM.oC Go.TM.oD Go.TM.oE
namespace Go.Proofs.YtmojfblpbcficaaGreatDoor
set_option maxRecDepth 100000
set_option maxHeartbeats 4000000
section
open Go.TM
def aaZ(a b c:Nat)(R:RL):List AV:=.dv (I R.sh)::ed gE++[.own 1 a 0 [],.own 2 b 0 [],.own 3 c 0 []]
def jG(a b c:Nat)(R:RL):ae:=[(0,.cells (aaZ a b c R)),(1,.tree a 0 (.aD 3 (R.st.map fB))),(2,.tree b 0 (.aD 11 (R.fl.map aG))),(3,.tree c 0 (.aD 7 (R.sp.map aC)))]
def vk(R:RL)(k:Ky)(l:List Lt):RL:={ R with st:=aH R.st k l }
variable [bp]
theorem bK3{n:Nat}(h:n<=1000000):n*(nth kp (nth kp 96).elem).bytes<=140737488355328:=by
 rw[show(nth kp (nth kp 96).elem).bytes=40 by kernel_rfl];omega
theorem Ud(R:RL)(a i:Int)(l:List Lt)(hn:R.st.length<=100000)(hc:¬rB R.st (a,i)<R.st.length):aj Tryz.prog 94 [.ptr 0 0,.dv (I a),.dv (I i),.dv (aM l)] 4 (de R) 0 [] (jG 1 0 0 (vk R (a,i) l)):=by
 have e:aH R.st (a,i) l=R.st++[((a,i),l)]:=by rw[Du,if_neg hc]
 have hf:=find_spec R a i hn
 rw[if_neg hc]at hf
 refine cO Tryz.func94 rfl (by kernel_rfl) ?_
 refine .inr (cl [0,1,2,3] hf (by kernel_rfl) rfl rfl ?_)
 refine T5 (fun _=>?_) fun h=>by simp at h
 refine .inl ⟨[fB ((a,i),l)],rfl,⟨rf,rf,rf,tv⟩,(by simp;rfl),?_⟩
 refine .inr ⟨[fB ((a,i),l)],b7.refl _,bK3 (by simp;omega),by simp;omega,?_⟩
 refine ext (by kernel_rfl) rfl ?_
 simp only[vk,e,jG,adB]
 rfl
theorem QA(R:RL)(a i:Int)(l:List Lt)(hn:R.st.length<=100000)(hc:rB R.st (a,i)<R.st.length):aj Tryz.prog 94 [.ptr 0 0,.dv (I a),.dv (I i),.dv (aM l)] 4 (de R) 0 [] (jG 1 0 0 (vk R (a,i) l)):=by
 have e:aH R.st (a,i) l=R.st.set (rB R.st (a,i)) ((a,i),l):=by rw[Du,if_pos hc]
 have hf:=find_spec R a i hn
 rw[if_pos hc]at hf
 have hx:=Qy hc
 generalize rB R.st (a,i)=q at*
 refine sn (i:=1) (e0:=0) (K1:=[(0,.cells (.dv (I R.sh)::ed gE++[.own 1 0 0 [],.own 2 0 0 [],.own 3 0 0 []])),(1,.tree 0 0 (.aD 3 ((aH R.st (a,i) l).map fB))),(2,.tree 0 0 (.aD 11 (R.fl.map aG))),(3,.tree 0 0 (.aD 7 (R.sp.map aC)))]) ?_ (by omega) ⟨_,rfl,rfl,fun j hj=>?_⟩
 ·refine cO Tryz.func94 rfl (by kernel_rfl) ?_
  refine .inr (cl [0,1,2,3] hf (by kernel_rfl) rfl rfl ?_)
  refine T5 (fun h=>by have:=adz h;omega) fun _=>?_
  refine⟨fun _=>⟨by omega,by rw[WY];omega⟩,[aM l],⟨rf,tv⟩,fB ((a,i),aW R.st (a,i)),by rw[abW];simp[hx],?_⟩
  refine ext (by kernel_rfl) rfl ?_
  simp only[e,List.map_set]
  rfl
 ·match j,hj with
  |0,_=>exact .cells (.same _ (.same _ (.same _ (.same _ (.same _ (.sH (.same _ (.same _ .nil))))))))
  |2,_=>exact .refl _
  |3,_=>exact .refl _
  |j+4,_=>exact .refl _
theorem oj(R:RL)(a i:Int)(l:List Lt)(hn:R.st.length<=100000):aj Tryz.prog 94 [.ptr 0 0,.dv (I a),.dv (I i),.dv (aM l)] 4 (de R) 0 [] (jG 1 0 0 (vk R (a,i) l)):=by
 by_cases hc:rB R.st (a,i)<R.st.length
 ·exact QA R a i l hn hc
 ·exact Ud R a i l hn hc
end
section
open Go.TM
def zr(it:Int)(p:Ky×List Lt):Int:=if p.1.2=it then br p.2 else 0
def bK(m:SM)(it:Int):Int:=(m.map (zr it)).sum
def eC(l:List cJ):Int:=match l.getLast? with
 |some s=>s.tick
 |none=>0
theorem vl(l:List Lt):0<=br l/\br l<=4503599627370496:=by
 unfold br
 cases hv:bB l with
 |false=>exact⟨Int.le_refl _,by show(0:Int)<=_;omega⟩
 |true=>
  obtain⟨h1,h2⟩:=eU hv
  have:=za fun x hx=>j5 (h2 x hx)
  show 0<=b8 l/\b8 l<=_
  omega
theorem XQ(it:Int)(p:Ky×List Lt):0<=zr it p/\zr it p<=4503599627370496:=by
 have:=vl p.2
 unfold zr;split<;>omega
theorem Dv(it:Int):∀m:SM,0<=bK m it/\bK m it<=4503599627370496*m.length
 |[]=>by simp[bK]
 |p::m=>by
  have h1:=XQ it p
  have h2:=Dv it m
  simp only[bK,List.map_cons,List.sum_cons,List.length_cons]at*
  omega
theorem M5{m:SM}{it:Int}{j:Nat}{p:Ky×List Lt}(h:m[j]?=some p):bK (m.take (j+1)) it=bK (m.take j) it+zr it p:=by
 unfold bK;rw[ads,h,adB,List.sum_append];simp
variable [bp]
theorem wi(R:RL)(it:Int)(hn:R.st.length<=1000)(hl:∀p∈R.st,p.2.length<=1000000):aj Tryz.prog 57 [.ptr 0 0,.dv (I it)] 4 (de R) 0 [.dv (I (bK R.st it))] (de R):=by
 refine cO Tryz.func57 rfl (by kernel_rfl) ?_
 refine⟨Nat,fun j=>⟨4,[(0,.ptr 0 0),(1,.dv (I it)),(5,.dv (I (bK (R.st.take j) it))),(6,.dv (I j))],de R⟩,fun j=>j<=R.st.length,fun j=>R.st.length-j,0,fun _=>rfl,jn rfl rfl rfl rfl,adx _,?_⟩
 rintro j hj
 refine T5 ?_ ?_
 ·intro h
  have au:j<R.st.length:=by have:=adz h;rw[WY]at this;omega
  obtain⟨p,hp⟩:∃p,R.st[j]?=some p:=⟨_,IF au⟩
  have ip:(R.st.map fB)[(j:Int).toNat]?=some (fB p):=by rw[abW];simp[hp]
  have eG:=M5 (it:=it) hp
  have b1:=Dv it (R.st.take j)
  have b2:=vl p.2
  have b3:(R.st.take j).length<=1000:=by rw[adD];omega
  refine⟨fun _=>⟨by omega,by rw[WY];omega⟩,fB p,fun _=>ip,?_⟩
  refine T5 ?_ ?_
  ·intro h
   have e:zr it p=br p.2:=if_pos (beq_iff_eq.1 h)
   rw[e]at eG
   refine⟨fun _=>⟨by omega,by rw[WY];omega⟩,fB p,fun _=>ip,?_⟩
   refine .inl ⟨_,fun _=>(kV p.2 (hl p (ab6 hp))).ok,?_⟩
   exact⟨fun _=>by omega,fun _=>by omega,j+1,jn (by simp only[eG];rfl) rfl rfl rfl,by omega,mlt au⟩
  ·intro h
   have e:zr it p=0:=if_neg (beq_eq_false_iff_ne.1 h)
   rw[e,Int.add_zero]at eG
   exact⟨fun _=>by omega,j+1,jn (by simp only[eG];rfl) rfl rfl rfl,by omega,mlt au⟩
 ·intro h
  have he:j=R.st.length:=by have:=adA h;rw[WY]at this;omega
  subst he
  simp only[ady]
  exact ext (by kernel_rfl) rfl rfl
theorem BV(R:RL)(hn:R.sp.length<=1000000):aj Tryz.prog 53 [.ptr 0 0] 4 (de R) 0 [.dv (I (eC R.sp))] (de R):=by
 refine cO Tryz.func53 rfl (by kernel_rfl) ?_
 rcases List.eq_nil_or_concat R.sp with hR|⟨r,s,hR⟩
 ·have e1:(R.sp.map aC).length=0:=by rw[hR];rfl
  have e2:eC R.sp=0:=by rw[hR];rfl
  rw[e2]
  exact T5 (fun _=>ext (by kernel_rfl) rfl rfl) fun h=>by have:=beq_eq_false_iff_ne.1 h;rw[e1]at this;omega
 ·rw[List.concat_eq_append]at hR
  have e1:(R.sp.map aC).length=r.length+1:=by rw[hR];simp
  have hl:r.length+1<=1000000:=by rw[hR]at hn;simpa using hn
  have e2:eC R.sp=s.tick:=by rw[hR];simp[eC]
  refine T5 (fun h=>by have:=beq_iff_eq.1 h;rw[e1]at this;omega) fun _=>?_
  refine⟨fun _=>by omega,fun _=>by omega,aC s,fun _=>by rw[e1,show(((r.length+1:Nat):Int)-1).toNat=r.length by omega,hR];simp,?_⟩
  rw[e2]
  exact⟨by kernel_rfl,ext (by kernel_rfl) rfl rfl⟩
end
section
open Go.TM
theorem BW{α:Type}{e:α->DV}(h:∀x,(e x).aT)(l:List α):∀x,x∈l.map e->x.aT:=fun x hx=>by
 obtain⟨y,_,rfl⟩:=adK.1 hx
 exact h y
theorem aa0(p:Ky×List Lt):(fB p).aT:=fun d hd=>by
 simp only[fB,DV.cells,adp,List.mem_nil_iff,or_false]at hd
 rcases hd with rfl|rfl|rfl<;>rfl
theorem VW(p:eS):(aG p).aT:=fun d hd=>by
 simp only[aG,DV.cells,adp,List.mem_nil_iff,or_false]at hd
 rcases hd with rfl|rfl|rfl|rfl|rfl|rfl|rfl|rfl|rfl|rfl|rfl<;>rfl
theorem aa1(p:cJ):(aC p).aT:=fun d hd=>by
 simp only[aC,DV.cells,adp,List.mem_nil_iff,or_false]at hd
 rcases hd with rfl|rfl|rfl|rfl|rfl|rfl|rfl<;>rfl
variable [bp]
theorem bF{n:Nat}(h:n<=1000000):n*(nth kp (nth kp 25).elem).bytes<=140737488355328:=by
 rw[show(nth kp (nth kp 25).elem).bytes=120 by kernel_rfl];omega
theorem bS{n:Nat}(h:n<=1000000):n*(nth kp (nth kp 55).elem).bytes<=140737488355328:=by
 rw[show(nth kp (nth kp 55).elem).bytes=72 by kernel_rfl];omega
def acn(R:RL):ae:=[(4,.cells (.dv (I R.sh)::ed gE++[.own 5 0 0 [],.own 6 0 0 [],.own 7 0 0 []])),(5,.tree 0 0 (.aD 3 (R.st.map fB))),(6,.tree 0 0 (.aD 11 (R.fl.map aG))),(7,.tree 0 0 (.aD 7 (R.sp.map aC)))]
theorem Jg(R:RL)(h1:R.st.length<=1000000)(h2:R.fl.length<=1000000)(h3:R.sp.length<=1000000):aj Tryz.prog 50 [.ptr 0 0] 4 (de R) 4 [.ptr 4 0] (de R++acn R):=by
 refine cO Tryz.func50 rfl (by kernel_rfl) ?_
 refine⟨by kernel_rfl,?_⟩
 refine .inr (.inl ⟨BW aa0 R.st,R.st.map fB,b7.refl _,bK3 (by rw[WY];omega),by rw[WY];omega,?_⟩)
 refine⟨by kernel_rfl,?_⟩
 refine .inr (.inl ⟨BW VW R.fl,R.fl.map aG,b7.refl _,bF (by rw[WY];omega),by rw[WY];omega,?_⟩)
 refine⟨by kernel_rfl,?_⟩
 refine .inr (.inl ⟨BW aa1 R.sp,R.sp.map aC,b7.refl _,bS (by rw[WY];omega),by rw[WY];omega,?_⟩)
 exact⟨by kernel_rfl,ext (by kernel_rfl) rfl rfl⟩
theorem Gj(k:Int):aN Tryz.prog 88 [I k] [B (decide (k=5\/k=7\/k=9))]:=by
 refine pO Tryz.func88 rfl (by kernel_rfl) rfl ?_
 repeat refine gG ?_
 refine⟨DV.Le.of_eq ?_,tv⟩
 congr 1
 rw[adO];simp[or_assoc]
def nD(k:Int)(m:dc):Bool:=
 if k=0\/k=5 then decide (m.fr=0)else if k=1\/k=6 then decide (m.to=0)else if k=7 then decide (0<m.fr)else if k=9 then decide (0<m.to)else decide (0<m.fr/\0<m.to)
theorem M6(k:Int)(m:dc):aN Tryz.prog 91 [I k,ao m] [B (nD k m)]:=by
 refine pO Tryz.func91 rfl (by kernel_rfl) rfl ?_
 repeat' first|exact trivial|assumption|refine g1 ?_|refine g3 ?_|refine T5 ?_ ?_|refine DV.Le.of_eq ?_|intro h
 all_goals(congr 1;rw[adO];simp_all [nD])
end
section
open Go.TM
def du(m:dc):Bool:=decide (0<=m.it/\m.it<5/\1<=m.n/\m.n<=1099511627776/\m.fr≠m.to/\0<=m.fr/\0<=m.to/\m.fr<=1073741824/\m.to<=1073741824)
variable [bp]
def BX(m:dc)(p:Bool):Bool:=du m&&bif p then bB m.ps&&decide (br m.ps=m.n)&&decide (br (kI m.ps)=m.n)else decide (m.ps=[])
theorem Jh(R:RL)(m:dc)(p:Bool)(hl:m.ps.length<=4000):aj Tryz.prog 89 [.ptr 0 0,cH (ao m),.dv (B p)] 4 (de R) 0 [.dv (B (BX m p))] (de R):=by
 refine cO Tryz.func89 rfl (by kernel_rfl) ?_
 repeat refine gG ?_
 have mf:(y7 (I 2) (I 20)).length=5:=rfl
 refine⟨by kernel_rfl,?_⟩
 refine T5 ?_ ?_
 ·intro h
  have hb:du m=false:=by
   unfold du
   rw[adU]
   simp at h
   omega
  have:BX m p=false:=by unfold BX;rw[hb];rfl
  rw[this]
  exact ext (by kernel_rfl) rfl rfl
 intro h
 have hb:du m=true:=by
  unfold du
  rw[adR]
  simp at h
  omega
 have hm:BX m p=bif p then bB m.ps&&decide (br m.ps=m.n)&&decide (br (kI m.ps)=m.n)else decide (m.ps=[]):=by unfold BX;rw[hb];rfl
 rw[hm]
 cases p with
 |false=>
  refine T5 (fun _=>?_) fun h=>by cases h
  rw[show(bif false then bB m.ps&&decide (br m.ps=m.n)&&decide (br (kI m.ps)=m.n)else decide (m.ps=[]))=((((m.ps.map aA).length:Nat):Int)==0)from(aaX m.ps).symm]
  exact ext (by kernel_rfl) rfl rfl
 |true=>
  refine T5 (fun h=>by cases h) fun _=>?_
  refine .inl ⟨_,fun _=>(gB m.ps (by omega)).ok,?_⟩
  repeat refine gG ?_
  refine .inl ⟨_,fun _=>(kV m.ps (by omega)).ok,?_⟩
  repeat refine gG ?_
  refine .inl ⟨_,fun _=>(BP m.ps (by omega)).ok,?_⟩
  repeat refine gG ?_
  have gM:=(qd m.ps).1
  refine .inl ⟨_,fun _=>(kV (kI m.ps) (by omega)).ok,?_⟩
  repeat refine gG ?_
  refine⟨by kernel_rfl,?_⟩
  rw[show(bif true then bB m.ps&&decide (br m.ps=m.n)&&decide (br (kI m.ps)=m.n)else decide (m.ps=[]))=(bif bif bB m.ps then br m.ps==m.n else false then br (kI m.ps)==m.n else false)by
   rw[adO];cases bB m.ps<;>simp]
  exact ext (by kernel_rfl) rfl rfl
end
section
open Go.TM
def m0:dc:=⟨0,0,0,0,[]⟩
def QB(r:Int):Int:=if r<0 then -2-r else r
def XT(r:Int)(x:T9):List Ky:=if r<0 then x.bk else x.gv
def gT(mv:List dc)(tm:Int)(tk gv:List Ky)(k:Nat):Bool:=
 if k<tk.length then decide ((mv.getD k m0).fr=(mv.getD 0 m0).fr/\1<=(mv.getD k m0).fr/\(mv.getD k m0).to=0/\(mv.getD k m0).it=(tk.getD k (0,0)).1/\(mv.getD k m0).n=(tk.getD k (0,0)).2*tm)
 else decide ((mv.getD k m0).fr=0/\1<=(mv.getD k m0).to/\(mv.getD k m0).to=(mv.getD (mv.length-1) m0).to/\(mv.getD k m0).it=(gv.getD (k-tk.length) (0,0)).1/\(mv.getD k m0).n=(gv.getD (k-tk.length) (0,0)).2*tm)
def rp(s:cJ):Bool:=
 if QB s.aP<0\/5<=QB s.aP\/s.times<1\/1048576<s.times then false else match dY[(QB s.aP).toNat]? with
  |some r=>bif r.sp then false else if(s.aP<0/\r.ch=r.of)\/s.mv.length≠r.tk.length+(XT s.aP r).length then false else(List.range s.mv.length).all (gT s.mv s.times r.tk (XT s.aP r))
  |none=>false
theorem Dw{i:Nat}{r:T9}(h:dY[i]?=some r):(∀p∈r.tk,0<=p.2/\p.2<=100)/\(∀p∈r.gv,0<=p.2/\p.2<=100)/\(∀p∈r.bk,0<=p.2/\p.2<=100):=by
 have:∀r∈dY,(∀p∈r.tk,0<=p.2/\p.2<=100)/\(∀p∈r.gv,0<=p.2/\p.2<=100)/\(∀p∈r.bk,0<=p.2/\p.2<=100):=by
  intro r hr
  simp only[dY,adp,List.mem_nil_iff,or_false]at hr
  rcases hr with rfl|rfl|rfl|rfl|rfl<;>decide
 exact this r (ab6 h)
theorem Dy{i:Nat}{r:T9}(h:dY[i]?=some r):r.tk.length<=10/\r.gv.length<=10/\r.bk.length<=10:=by
 have:∀r∈dY,r.tk.length<=10/\r.gv.length<=10/\r.bk.length<=10:=by
  intro r hr
  simp only[dY,adp,List.mem_nil_iff,or_false]at hr
  rcases hr with rfl|rfl|rfl|rfl|rfl<;>decide
 exact this r (ab6 h)
theorem wj{a t:Int}(ha:0<=a/\a<=100)(ht:1<=t/\t<=1048576):0<=a*t/\a*t<=104857600:=
 ⟨Int.mul_nonneg ha.1 (by omega),Int.le_trans (Int.mul_le_mul ha.2 ht.2 (by omega) (by omega)) (by omega)⟩
variable [bp]
theorem Gk(R:RL)(s:cJ)(hr:tw s.aP)(hl:s.mv.length<=1000)(h1:1<=s.mv.length):aj Tryz.prog 90 [.ptr 0 0,cH (aC s)] 4 (de R) 0 [.dv (B (rp s))] (de R):=by
 refine cO Tryz.func90 rfl (by kernel_rfl) ?_
 have SF:-9223372036854775808<=s.aP/\s.aP<=9223372036854775807:=hr
 have Ue:(dY.map iB).length=5:=rfl
 have aco:dY.length=5:=rfl
 refine T5 ?_ ?_
 ·intro lQ
  have lQ:=adz lQ
  refine⟨fun _=>by omega,?_⟩
  repeat refine gG ?_
  have hI:QB s.aP=(-2-s.aP):=if_pos lQ
  have hG:∀r,XT s.aP r=r.bk:=fun r=>if_pos lQ
  obtain⟨r,vY⟩:∃r,0<=(-2-s.aP)/\(-2-s.aP)<5->dY[(-2-s.aP).toNat]?=some r:=⟨(dY[(-2-s.aP).toNat]?).getD ⟨⟨#[]⟩,false,0,0,0,0,[],[],[]⟩,fun h=>by rw[IF (show(-2-s.aP).toNat<dY.length from(show(-2-s.aP).toNat<5 by omega))];rfl⟩
  have QC:0<=(-2-s.aP)/\(-2-s.aP)<5->(dY.map iB)[(-2-s.aP).toNat]?=some (iB r):=fun h=>by rw[abW,vY h];rfl
  refine⟨iB r,fun h=>?_,?_⟩
  ·simp[bw]at h
   exact⟨by omega,QC (by omega)⟩
  repeat refine gG ?_
  refine T5 ?_ ?_
  ·intro h
   have hc:rp s=false:=by
    unfold rp
    rw[hI]
    split
    ·rfl
    ·rename_i hn
     rw[vY (by omega)]
     have:r.sp=true:=by
      have h:=h
      rw[adG (show¬(-2-s.aP)<0 by omega),adG (show¬((dY.map iB).length:Int)<=(-2-s.aP)by omega),adG (show¬s.times<1 by omega),adG (show¬1048576<s.times by omega)]at h
      exact h
     simp only[this,cond_true]
   rw[hc]
   exact ext (by kernel_rfl) rfl rfl
  intro h
  have dw:(0<=(-2-s.aP)/\(-2-s.aP)<5)/\1<=s.times/\s.times<=1048576/\r.sp=false:=by
   simp at h
   exact⟨by omega,by omega,by omega,h.2⟩
  obtain⟨tl1,tl2,tl3⟩:=Dy (vY dw.1)
  have jQ:rp s=if(s.aP<0/\r.ch=r.of)\/s.mv.length≠r.tk.length+(r.bk).length then false else(List.range s.mv.length).all (gT s.mv s.times r.tk (r.bk)):=by
   unfold rp
   rw[hI,if_neg (by omega),vY dw.1]
   simp only[dw.2.2.2,cond_false,hG]
  repeat first|refine gG ?_|refine⟨iB r,fun _=>⟨by omega,QC dw.1⟩,?_⟩|refine⟨fun _=>⟨by rw[WY,WY];omega,by rw[WY,WY];omega⟩,?_⟩
  refine T5 (fun _=>?_) fun h=>absurd lQ (adA h)
  repeat first|refine gG ?_|refine⟨iB r,fun _=>⟨by omega,QC dw.1⟩,?_⟩|refine⟨fun _=>⟨by rw[WY,WY];omega,by rw[WY,WY];omega⟩,?_⟩
  refine⟨by kernel_rfl,?_⟩
  refine T5 ?_ ?_
  ·intro h
   have hc:rp s=false:=by
    rw[jQ,if_pos]
    rw[WY,WY,WY]at h
    simp at h
    rcases h with h|h
    ·exact .inl h
    ·exact .inr (by omega)
   rw[hc]
   exact ext (by kernel_rfl) rfl rfl
  intro h
  have BY:¬((s.aP<0/\r.ch=r.of)\/s.mv.length≠r.tk.length+(r.bk).length):=by
   rw[WY,WY,WY]at h
   simp at h
   rintro(hh|hh)
   ·exact h.1 hh.1 hh.2
   ·omega
  rw[if_neg BY]at jQ
  have Uf:s.mv.length=r.tk.length+(r.bk).length:=by omega
  rw[jQ]
  generalize nQ:r.bk=gv at*
  refine⟨Nat,fun k=>⟨5,[(3,.ptr 4 0),(6,.dv (.sl 2 (r.tk.map fK))),(7,.dv (.sl 2 (gv.map fK))),(8,.dv (I k))],de R++[(4,.cells (ed (aC s).cells))]⟩,fun k=>k<=s.mv.length/\∀j,j<k->gT s.mv s.times r.tk gv j=true,fun k=>s.mv.length-k,0,fun _=>rfl,jn rfl rfl rfl rfl,⟨adx _,fun j hj=>absurd hj (by omega)⟩,?_⟩
  rintro k ⟨hk,bO⟩
  refine T5 ?_ ?_
  ·intro h
   have au:k<s.mv.length:=by have:=adz h;rw[WY]at this;omega
   obtain⟨m,hm⟩:∃m,s.mv[k]?=some m:=⟨_,IF au⟩
   obtain⟨f,hf⟩:∃f,s.mv[0]?=some f:=⟨_,IF (show 0<s.mv.length by omega)⟩
   obtain⟨g,hg⟩:∃g,s.mv[s.mv.length-1]?=some g:=⟨_,IF (show s.mv.length-1<s.mv.length by omega)⟩
   have dm:s.mv.getD k m0=m:=by rw[acb,hm];rfl
   have df:s.mv.getD 0 m0=f:=by rw[acb,hf];rfl
   have dg:s.mv.getD (s.mv.length-1) m0=g:=by rw[acb,hg];rfl
   have im:(s.mv.map ao)[(k:Int).toNat]?=some (ao m):=by rw[abW];simp[hm]
   have i0:(s.mv.map ao)[(0:Int).toNat]?=some (ao f):=by rw[abW];exact congrArg (Option.map ao) hf
   have ig:(s.mv.map ao)[(((s.mv.map ao).length:Int)-1).toNat]?=some (ao g):=by rw[WY,show((s.mv.length:Int)-1).toNat=s.mv.length-1 by omega,abW,hg];rfl
   have lm:(s.mv.map ao).length=s.mv.length:=WY ..
   have lt:(r.tk.map fK).length=r.tk.length:=WY ..
   have lg:(gv.map fK).length=gv.length:=WY ..
   obtain⟨XU,bt2,bt3⟩:=Dw (vY dw.1)
   have bgv:∀p∈gv,0<=p.2/\p.2<=100:=by rw[<-nQ];exact bt3
   refine⟨ao m,fun _=>⟨by omega,im⟩,?_⟩
   refine T5 ?_ ?_
   ·intro qM
    have EH:k<r.tk.length:=by have:=adz qM;omega
    obtain⟨a,ha⟩:∃a,r.tk[k]?=some a:=⟨_,IF EH⟩
    have da:r.tk.getD k (0,0)=a:=by rw[acb,ha];rfl
    have ia:(r.tk.map fK)[(k:Int).toNat]?=some (fK a):=by rw[abW];simp[ha]
    have XW:=wj (XU a (ab6 ha)) ⟨dw.2.1,dw.2.2.1⟩
    have rC:gT s.mv s.times r.tk gv k=decide (m.fr=f.fr/\1<=m.fr/\m.to=0/\m.it=a.1/\m.n=a.2*s.times):=by unfold gT;rw[if_pos EH,dm,df,da]
    repeat first|refine gG ?_|refine⟨fun _=>by omega,?_⟩|refine⟨fK a,fun _=>⟨by omega,ia⟩,?_⟩|refine⟨ao f,fun _=>⟨by omega,i0⟩,?_⟩|refine⟨ao g,fun _=>⟨by omega,ig⟩,?_⟩
    refine⟨by kernel_rfl,?_⟩
    refine T5 ?_ ?_
    ·intro h
     have nE:gT s.mv s.times r.tk gv k=false:=by
      rw[rC,adU]
      rintro⟨q1,q2,q3,q4,q5⟩
      simp at h
      omega
     rw[show(List.range s.mv.length).all (gT s.mv s.times r.tk gv)=false from List.all_eq_false.2 ⟨k,adL.2 au,by rw[nE];simp⟩]
     exact ext (by kernel_rfl) rfl rfl
    ·intro h
     have Ji:gT s.mv s.times r.tk gv k=true:=by
      rw[rC,adR]
      simp at h
      omega
     refine⟨fun _=>by omega,k+1,jn rfl rfl rfl rfl,⟨by omega,fun j hj=>?_⟩,mlt au⟩
     rcases adC j k with vm|vm
     ·exact bO j vm
     ·rw[show j=k by omega];exact Ji
   ·intro qM
    have EH:¬k<r.tk.length:=by have:=adA qM;omega
    obtain⟨a,ha⟩:∃a,gv[k-r.tk.length]?=some a:=⟨_,IF (show k-r.tk.length<gv.length by omega)⟩
    have da:gv.getD (k-r.tk.length) (0,0)=a:=by rw[acb,ha];rfl
    have ia:(gv.map fK)[((k:Int)-(r.tk.map fK).length).toNat]?=some (fK a):=by rw[lt,show((k:Int)-r.tk.length).toNat=k-r.tk.length by omega,abW,ha];rfl
    have XW:=wj (bgv a (ab6 ha)) ⟨dw.2.1,dw.2.2.1⟩
    have rC:gT s.mv s.times r.tk gv k=decide (m.fr=0/\1<=m.to/\m.to=g.to/\m.it=a.1/\m.n=a.2*s.times):=by unfold gT;rw[if_neg EH,dm,dg,da]
    repeat first|refine gG ?_|refine⟨fun _=>by omega,?_⟩|refine⟨fK a,fun _=>⟨by omega,ia⟩,?_⟩|refine⟨ao f,fun _=>⟨by omega,i0⟩,?_⟩|refine⟨ao g,fun _=>⟨by omega,ig⟩,?_⟩
    refine⟨by kernel_rfl,?_⟩
    refine T5 ?_ ?_
    ·intro h
     have nE:gT s.mv s.times r.tk gv k=false:=by
      rw[rC,adU]
      rintro⟨q1,q2,q3,q4,q5⟩
      simp at h
      omega
     rw[show(List.range s.mv.length).all (gT s.mv s.times r.tk gv)=false from List.all_eq_false.2 ⟨k,adL.2 au,by rw[nE];simp⟩]
     exact ext (by kernel_rfl) rfl rfl
    ·intro h
     have Ji:gT s.mv s.times r.tk gv k=true:=by
      rw[rC,adR]
      simp at h
      omega
     refine⟨fun _=>by omega,k+1,jn rfl rfl rfl rfl,⟨by omega,fun j hj=>?_⟩,mlt au⟩
     rcases adC j k with vm|vm
     ·exact bO j vm
     ·rw[show j=k by omega];exact Ji
  ·intro h
   have he:k=s.mv.length:=by have:=adA h;rw[WY]at this;omega
   subst he
   rw[show(List.range s.mv.length).all (gT s.mv s.times r.tk gv)=true from adH.2 fun j hj=>bO j (adL.1 hj)]
   exact ext (by kernel_rfl) rfl rfl
 ·intro lQ
  have lQ:=adA lQ
  repeat refine gG ?_
  have hI:QB s.aP=s.aP:=if_neg lQ
  have hG:∀r,XT s.aP r=r.gv:=fun r=>if_neg lQ
  obtain⟨r,vY⟩:∃r,0<=s.aP/\s.aP<5->dY[s.aP.toNat]?=some r:=⟨(dY[s.aP.toNat]?).getD ⟨⟨#[]⟩,false,0,0,0,0,[],[],[]⟩,fun h=>by rw[IF (show s.aP.toNat<dY.length from(show s.aP.toNat<5 by omega))];rfl⟩
  have QC:0<=s.aP/\s.aP<5->(dY.map iB)[s.aP.toNat]?=some (iB r):=fun h=>by rw[abW,vY h];rfl
  refine⟨iB r,fun h=>?_,?_⟩
  ·simp[bw]at h
   exact⟨by omega,QC (by omega)⟩
  repeat refine gG ?_
  refine T5 ?_ ?_
  ·intro h
   have hc:rp s=false:=by
    unfold rp
    rw[hI]
    split
    ·rfl
    ·rename_i hn
     rw[vY (by omega)]
     have:r.sp=true:=by
      have h:=h
      rw[adG (show¬s.aP<0 by omega),adG (show¬((dY.map iB).length:Int)<=s.aP by omega),adG (show¬s.times<1 by omega),adG (show¬1048576<s.times by omega)]at h
      exact h
     simp only[this,cond_true]
   rw[hc]
   exact ext (by kernel_rfl) rfl rfl
  intro h
  have dw:(0<=s.aP/\s.aP<5)/\1<=s.times/\s.times<=1048576/\r.sp=false:=by
   simp at h
   exact⟨by omega,by omega,by omega,h.2⟩
  obtain⟨tl1,tl2,tl3⟩:=Dy (vY dw.1)
  have jQ:rp s=if(s.aP<0/\r.ch=r.of)\/s.mv.length≠r.tk.length+(r.gv).length then false else(List.range s.mv.length).all (gT s.mv s.times r.tk (r.gv)):=by
   unfold rp
   rw[hI,if_neg (by omega),vY dw.1]
   simp only[dw.2.2.2,cond_false,hG]
  repeat first|refine gG ?_|refine⟨iB r,fun _=>⟨by omega,QC dw.1⟩,?_⟩|refine⟨fun _=>⟨by rw[WY,WY];omega,by rw[WY,WY];omega⟩,?_⟩
  refine T5 (fun h=>absurd (adz h) lQ) fun _=>?_
  repeat first|refine gG ?_|refine⟨iB r,fun _=>⟨by omega,QC dw.1⟩,?_⟩|refine⟨fun _=>⟨by rw[WY,WY];omega,by rw[WY,WY];omega⟩,?_⟩
  refine⟨by kernel_rfl,?_⟩
  refine T5 ?_ ?_
  ·intro h
   have hc:rp s=false:=by
    rw[jQ,if_pos]
    rw[WY,WY,WY]at h
    simp at h
    rcases h with h|h
    ·exact .inl h
    ·exact .inr (by omega)
   rw[hc]
   exact ext (by kernel_rfl) rfl rfl
  intro h
  have BY:¬((s.aP<0/\r.ch=r.of)\/s.mv.length≠r.tk.length+(r.gv).length):=by
   rw[WY,WY,WY]at h
   simp at h
   rintro(hh|hh)
   ·exact h.1 hh.1 hh.2
   ·omega
  rw[if_neg BY]at jQ
  have Uf:s.mv.length=r.tk.length+(r.gv).length:=by omega
  rw[jQ]
  generalize nQ:r.gv=gv at*
  refine⟨Nat,fun k=>⟨5,[(3,.ptr 4 0),(6,.dv (.sl 2 (r.tk.map fK))),(7,.dv (.sl 2 (gv.map fK))),(8,.dv (I k))],de R++[(4,.cells (ed (aC s).cells))]⟩,fun k=>k<=s.mv.length/\∀j,j<k->gT s.mv s.times r.tk gv j=true,fun k=>s.mv.length-k,0,fun _=>rfl,jn rfl rfl rfl rfl,⟨adx _,fun j hj=>absurd hj (by omega)⟩,?_⟩
  rintro k ⟨hk,bO⟩
  refine T5 ?_ ?_
  ·intro h
   have au:k<s.mv.length:=by have:=adz h;rw[WY]at this;omega
   obtain⟨m,hm⟩:∃m,s.mv[k]?=some m:=⟨_,IF au⟩
   obtain⟨f,hf⟩:∃f,s.mv[0]?=some f:=⟨_,IF (show 0<s.mv.length by omega)⟩
   obtain⟨g,hg⟩:∃g,s.mv[s.mv.length-1]?=some g:=⟨_,IF (show s.mv.length-1<s.mv.length by omega)⟩
   have dm:s.mv.getD k m0=m:=by rw[acb,hm];rfl
   have df:s.mv.getD 0 m0=f:=by rw[acb,hf];rfl
   have dg:s.mv.getD (s.mv.length-1) m0=g:=by rw[acb,hg];rfl
   have im:(s.mv.map ao)[(k:Int).toNat]?=some (ao m):=by rw[abW];simp[hm]
   have i0:(s.mv.map ao)[(0:Int).toNat]?=some (ao f):=by rw[abW];exact congrArg (Option.map ao) hf
   have ig:(s.mv.map ao)[(((s.mv.map ao).length:Int)-1).toNat]?=some (ao g):=by rw[WY,show((s.mv.length:Int)-1).toNat=s.mv.length-1 by omega,abW,hg];rfl
   have lm:(s.mv.map ao).length=s.mv.length:=WY ..
   have lt:(r.tk.map fK).length=r.tk.length:=WY ..
   have lg:(gv.map fK).length=gv.length:=WY ..
   obtain⟨XU,bt2,bt3⟩:=Dw (vY dw.1)
   have bgv:∀p∈gv,0<=p.2/\p.2<=100:=by rw[<-nQ];exact bt2
   refine⟨ao m,fun _=>⟨by omega,im⟩,?_⟩
   refine T5 ?_ ?_
   ·intro qM
    have EH:k<r.tk.length:=by have:=adz qM;omega
    obtain⟨a,ha⟩:∃a,r.tk[k]?=some a:=⟨_,IF EH⟩
    have da:r.tk.getD k (0,0)=a:=by rw[acb,ha];rfl
    have ia:(r.tk.map fK)[(k:Int).toNat]?=some (fK a):=by rw[abW];simp[ha]
    have XW:=wj (XU a (ab6 ha)) ⟨dw.2.1,dw.2.2.1⟩
    have rC:gT s.mv s.times r.tk gv k=decide (m.fr=f.fr/\1<=m.fr/\m.to=0/\m.it=a.1/\m.n=a.2*s.times):=by unfold gT;rw[if_pos EH,dm,df,da]
    repeat first|refine gG ?_|refine⟨fun _=>by omega,?_⟩|refine⟨fK a,fun _=>⟨by omega,ia⟩,?_⟩|refine⟨ao f,fun _=>⟨by omega,i0⟩,?_⟩|refine⟨ao g,fun _=>⟨by omega,ig⟩,?_⟩
    refine⟨by kernel_rfl,?_⟩
    refine T5 ?_ ?_
    ·intro h
     have nE:gT s.mv s.times r.tk gv k=false:=by
      rw[rC,adU]
      rintro⟨q1,q2,q3,q4,q5⟩
      simp at h
      omega
     rw[show(List.range s.mv.length).all (gT s.mv s.times r.tk gv)=false from List.all_eq_false.2 ⟨k,adL.2 au,by rw[nE];simp⟩]
     exact ext (by kernel_rfl) rfl rfl
    ·intro h
     have Ji:gT s.mv s.times r.tk gv k=true:=by
      rw[rC,adR]
      simp at h
      omega
     refine⟨fun _=>by omega,k+1,jn rfl rfl rfl rfl,⟨by omega,fun j hj=>?_⟩,mlt au⟩
     rcases adC j k with vm|vm
     ·exact bO j vm
     ·rw[show j=k by omega];exact Ji
   ·intro qM
    have EH:¬k<r.tk.length:=by have:=adA qM;omega
    obtain⟨a,ha⟩:∃a,gv[k-r.tk.length]?=some a:=⟨_,IF (show k-r.tk.length<gv.length by omega)⟩
    have da:gv.getD (k-r.tk.length) (0,0)=a:=by rw[acb,ha];rfl
    have ia:(gv.map fK)[((k:Int)-(r.tk.map fK).length).toNat]?=some (fK a):=by rw[lt,show((k:Int)-r.tk.length).toNat=k-r.tk.length by omega,abW,ha];rfl
    have XW:=wj (bgv a (ab6 ha)) ⟨dw.2.1,dw.2.2.1⟩
    have rC:gT s.mv s.times r.tk gv k=decide (m.fr=0/\1<=m.to/\m.to=g.to/\m.it=a.1/\m.n=a.2*s.times):=by unfold gT;rw[if_neg EH,dm,dg,da]
    repeat first|refine gG ?_|refine⟨fun _=>by omega,?_⟩|refine⟨fK a,fun _=>⟨by omega,ia⟩,?_⟩|refine⟨ao f,fun _=>⟨by omega,i0⟩,?_⟩|refine⟨ao g,fun _=>⟨by omega,ig⟩,?_⟩
    refine⟨by kernel_rfl,?_⟩
    refine T5 ?_ ?_
    ·intro h
     have nE:gT s.mv s.times r.tk gv k=false:=by
      rw[rC,adU]
      rintro⟨q1,q2,q3,q4,q5⟩
      simp at h
      omega
     rw[show(List.range s.mv.length).all (gT s.mv s.times r.tk gv)=false from List.all_eq_false.2 ⟨k,adL.2 au,by rw[nE];simp⟩]
     exact ext (by kernel_rfl) rfl rfl
    ·intro h
     have Ji:gT s.mv s.times r.tk gv k=true:=by
      rw[rC,adR]
      simp at h
      omega
     refine⟨fun _=>by omega,k+1,jn rfl rfl rfl rfl,⟨by omega,fun j hj=>?_⟩,mlt au⟩
     rcases adC j k with vm|vm
     ·exact bO j vm
     ·rw[show j=k by omega];exact Ji
  ·intro h
   have he:k=s.mv.length:=by have:=adA h;rw[WY]at this;omega
   subst he
   rw[show(List.range s.mv.length).all (gT s.mv s.times r.tk gv)=true from adH.2 fun j hj=>bO j (adL.1 hj)]
   exact ext (by kernel_rfl) rfl rfl
end
section
open Go.TM
def AO(s:cJ):Bool:=decide (0<=s.kind/\s.kind<=10/\0<=s.jt/\s.jt<=1073741824)
def tE(s:cJ):Bool:=decide (s.aP=-1/\1<=s.times/\s.times<=1048576/\s.mv.length=2/\(s.mv.getD 0 m0).to=0/\(s.mv.getD 1 m0).fr=0/\(s.mv.getD 1 m0).to=(s.mv.getD 0 m0).fr/\(s.mv.getD 0 m0).n.tmod s.times=0/\(s.mv.getD 1 m0).n.tmod s.times=0)
def om(k:Int):Bool:=decide (k=5\/k=7\/k=9)
variable [bp]
def jo(now:Int)(s:cJ):Bool:=
 AO s&&decide (now<=s.tick/\s.tick<=1099511627776/\1<=s.mv.length/\s.mv.length<=64)&&s.mv.all (fun m=>BX m (om s.kind))&&
  bif decide (s.kind=4)then rp s else bif decide (s.kind=10)then tE s else s.mv.all (nD s.kind)&&decide (s.aP=-1/\s.times=0)
theorem zt(R:RL)(s:cJ)(hr:tw s.aP)(hn:R.sp.length<=1000000)(hl:s.mv.length<=1000)(kF:∀m∈s.mv,m.ps.length<=4000):aj Tryz.prog 49 [.ptr 0 0,cH (aC s)] 4 (de R) 0 [.dv (B (jo (eC R.sp) s))] (de R):=by
 refine cO Tryz.func49 rfl (by kernel_rfl) ?_
 repeat refine gG ?_
 by_cases hA:AO s=true
 ·have hA2:=adz hA
  refine .inr (cl [0,1,2,3] (BV R hn) (by kernel_rfl) rfl rfl ?_)
  refine⟨by simp[bw];omega,?_⟩
  repeat first|refine gG ?_|refine⟨fun _=>rfl,?_⟩
  refine⟨by kernel_rfl,?_⟩
  refine T5 ?_ ?_
  ·intro h
   have hc:jo (eC R.sp) s=false:=by
    have:decide (eC R.sp<=s.tick/\s.tick<=1099511627776/\1<=s.mv.length/\s.mv.length<=64)=false:=by
     rw[adU]
     rw[WY]at h
     simp at h
     omega
    unfold jo
    rw[this,Bool.and_false];rfl
   rw[hc]
   exact ext (by kernel_rfl) rfl rfl
  intro h
  have hB:eC R.sp<=s.tick/\s.tick<=1099511627776/\1<=s.mv.length/\s.mv.length<=64:=by
   rw[WY]at h
   simp at h
   omega
  have hp:jo (eC R.sp) s=(s.mv.all (fun m=>BX m (om s.kind))&&bif decide (s.kind=4)then rp s else bif decide (s.kind=10)then tE s else s.mv.all (nD s.kind)&&decide (s.aP=-1/\s.times=0)):=by
   unfold jo
   rw[hA,adF hB];rfl
  rw[hp]
  refine .inl ⟨_,fun _=>(Gj s.kind).ok,?_⟩
  have ak:om s.kind=decide (s.kind=5\/s.kind=7\/s.kind=9):=rfl
  rw[<-ak]
  have lm:(s.mv.map ao).length=s.mv.length:=WY ..
  refine⟨Nat,fun i=>⟨5,[(0,.ptr 0 0),(3,.ptr 4 0),(5,.dv (B (om s.kind))),(6,.dv (I i))],de R++[(4,.cells (ed (aC s).cells))]⟩,fun i=>i<=s.mv.length/\∀m∈s.mv.take i,BX m (om s.kind)=true,fun i=>s.mv.length-i,0,fun _=>rfl,jn rfl rfl rfl rfl,⟨adx _,fun _ h=>by simp at h⟩,?_⟩
  rintro i ⟨hi,bO⟩
  refine T5 ?_ ?_
  ·intro h
   have au:i<s.mv.length:=by have:=adz h;omega
   obtain⟨m,hm⟩:∃m,s.mv[i]?=some m:=⟨_,IF au⟩
   have kB:=ab6 hm
   have im:(s.mv.map ao)[(i:Int).toNat]?=some (ao m):=by rw[abW];simp[hm]
   refine⟨ao m,fun _=>⟨by omega,im⟩,?_⟩
   refine .inr (cl [0,1,2,3] (Jh R m (om s.kind) (kF m kB)) (by kernel_rfl) rfl rfl ?_)
   refine T5 ?_ ?_
   ·intro h
    have h:BX m (om s.kind)=false:=by simpa using h
    rw[show s.mv.all (fun m=>BX m (om s.kind))=false from List.all_eq_false.2 ⟨m,kB,by rw[h];simp⟩]
    exact ext (by kernel_rfl) rfl rfl
   ·intro h
    have h:BX m (om s.kind)=true:=by simpa using h
    exact⟨fun _=>by omega,i+1,jn rfl rfl rfl rfl,⟨by omega,fun q hq=>by
     rw[ads,hm]at hq
     rcases adr.1 hq with hq|hq
     ·exact bO q hq
     ·simp at hq;subst hq;exact h⟩,mlt au⟩
  intro h
  have he:i=s.mv.length:=by have:=adA h;omega
  subst he
  rw[ady]at bO
  rw[show s.mv.all (fun m=>BX m (om s.kind))=true from adH.2 bO,Bool.true_and]
  refine T5 ?_ ?_
  ·intro h
   have h4:s.kind=4:=beq_iff_eq.1 h
   rw[adF h4]
   refine .inr (cl [0,1,2,3] (Gk R s hr hl (by omega)) (by kernel_rfl) rfl rfl ?_)
   exact ext (by kernel_rfl) rfl rfl
  intro h
  have h4:¬s.kind=4:=beq_eq_false_iff_ne.1 h
  rw[adG h4]
  refine T5 ?_ ?_
  ·intro h
   have SQ:s.kind=10:=beq_iff_eq.1 h
   rw[adF SQ]
   repeat first|refine gG ?_|refine⟨fun _=>rfl,?_⟩
   refine T5 ?_ ?_
   ·intro h
    have hc:tE s=false:=by
     unfold tE
     rw[adU]
     rintro⟨q1,q2,q3,q4,-⟩
     rw[lm]at h
     simp at h
     omega
    rw[hc]
    exact ext (by kernel_rfl) rfl rfl
   intro h
   have hc:s.aP=-1/\1<=s.times/\s.times<=1048576/\s.mv.length=2:=by
    rw[lm]at h
    simp at h
    omega
   obtain⟨c1,c2,c3,c4⟩:=hc
   obtain⟨a,ha⟩:∃a,s.mv[0]?=some a:=⟨_,IF (show 0<s.mv.length by omega)⟩
   obtain⟨b,hb⟩:∃b,s.mv[1]?=some b:=⟨_,IF (show 1<s.mv.length by omega)⟩
   have ia:(s.mv.map ao)[(0:Int).toNat]?=some (ao a):=by rw[abW];exact congrArg (Option.map ao) ha
   have ib:(s.mv.map ao)[(1:Int).toNat]?=some (ao b):=by rw[abW];exact congrArg (Option.map ao) hb
   have da:s.mv.getD 0 m0=a:=by rw[acb,ha];rfl
   have db:s.mv.getD 1 m0=b:=by rw[acb,hb];rfl
   refine⟨ao a,fun _=>⟨by omega,ia⟩,ao b,fun _=>⟨by omega,ib⟩,?_⟩
   repeat first|refine gG ?_|refine⟨fun _ h=>by omega,?_⟩
   have hcv:tE s=(bif bif bif bif a.to==0 then b.fr==0 else false then b.to==a.fr else false then a.n.tmod s.times==0 else false then b.n.tmod s.times==0 else false):=by
    unfold tE
    rw[da,db,adO]
    simp[c1,c2,c3,c4,and_assoc]
   rw[hcv]
   exact ext (by kernel_rfl) rfl rfl
  ·intro h
   have SQ:¬s.kind=10:=beq_eq_false_iff_ne.1 h
   rw[adG SQ]
   refine⟨Nat,fun i=>⟨5,[(3,.ptr 4 0),(10,.dv (I i))],de R++[(4,.cells (ed (aC s).cells))]⟩,fun i=>i<=s.mv.length/\∀m∈s.mv.take i,nD s.kind m=true,fun i=>s.mv.length-i,0,fun _=>rfl,jn rfl rfl rfl rfl,⟨adx _,fun _ h=>by simp at h⟩,?_⟩
   rintro i ⟨hi,bO⟩
   refine T5 ?_ ?_
   ·intro h
    have au:i<s.mv.length:=by have:=adz h;omega
    obtain⟨m,hm⟩:∃m,s.mv[i]?=some m:=⟨_,IF au⟩
    have kB:=ab6 hm
    have im:(s.mv.map ao)[(i:Int).toNat]?=some (ao m):=by rw[abW];simp[hm]
    refine⟨ao m,fun _=>⟨by omega,im⟩,?_⟩
    refine .inl ⟨_,fun _=>(M6 s.kind m).ok,?_⟩
    refine⟨by kernel_rfl,?_⟩
    refine T5 ?_ ?_
    ·intro h
     have h:nD s.kind m=false:=by simpa using h
     rw[show s.mv.all (nD s.kind)=false from List.all_eq_false.2 ⟨m,kB,by rw[h];simp⟩]
     exact ext (by kernel_rfl) rfl rfl
    ·intro h
     have h:nD s.kind m=true:=by simpa using h
     exact⟨fun _=>by omega,i+1,jn rfl rfl rfl rfl,⟨by omega,fun q hq=>by
      rw[ads,hm]at hq
      rcases adr.1 hq with hq|hq
      ·exact bO q hq
      ·simp at hq;subst hq;exact h⟩,mlt au⟩
   intro h
   have he:i=s.mv.length:=by have:=adA h;omega
   subst he
   rw[ady]at bO
   rw[show s.mv.all (nD s.kind)=true from adH.2 bO,Bool.true_and]
   repeat refine gG ?_
   rw[show(bif false then tE s else decide (s.aP=-1/\s.times=0))=(bif s.aP== -1 then s.times==0 else false)by rw[adO];simp]
   exact ext (by kernel_rfl) rfl rfl
 ·have hA2:¬(0<=s.kind/\s.kind<=10/\0<=s.jt/\s.jt<=1073741824):=fun h=>hA (adF h)
  refine .inl ⟨by simp[bw];omega,[I 0],fun h=>absurd h (by simp[bw];omega),rfl,?_⟩
  repeat first|refine gG ?_|refine⟨fun _=>rfl,?_⟩
  refine⟨by kernel_rfl,?_⟩
  refine T5 ?_ ?_
  ·intro h
   have hc:jo (eC R.sp) s=false:=by unfold jo;rw[Bool.not_eq_true]at hA;rw[hA];rfl
   rw[hc]
   exact ext (by kernel_rfl) rfl rfl
  ·intro h
   simp at h
   omega
end
section
open Go.TM
variable [bp]
def QD(x:Lt)(f:eS):Bool:=decide (f.kind=5)&& !decide (AN f.ps [x]=[])
def vn(sh:Int)(fl:List eS):List Lt->Int
 |[]=>0
 |x::r=>if x.f.tdiv 4294967296=sh\/11<x.f.tdiv 4294967296 then 1 else bif fl.any (QD x)then 8 else vn sh fl r
theorem M7(R:RL)(ps:List Lt)(hl:ps.length<=5000)(hf:R.fl.length<=1000000)(kF:∀f∈R.fl,f.ps.length<=200)(hb:∀x∈ps,0<=x.f/\x.f<=9223372036854775807):aj Tryz.prog 149 [.ptr 0 0,.dv (aM ps)] 4 (de R) 0 [.dv (I (vn R.sh R.fl ps))] (de R):=by
 refine cO Tryz.func149 rfl (by kernel_rfl) ?_
 refine⟨Nat,fun i=>⟨4,[(0,.ptr 0 0),(1,.dv (aM ps)),(5,.dv (I i))],de R⟩,fun i=>i<=ps.length/\vn R.sh R.fl ps=vn R.sh R.fl (ps.drop i),fun i=>ps.length-i,0,fun _=>rfl,jn rfl rfl rfl rfl,⟨adx _,rfl⟩,?_⟩
 rintro i ⟨hi,hd⟩
 have lp:(ps.map aA).length=ps.length:=WY ..
 have lf:(R.fl.map aG).length=R.fl.length:=WY ..
 refine T5 ?_ ?_
 ·intro h
  have au:i<ps.length:=by have:=adz h;omega
  obtain⟨x,hx⟩:∃x,ps[i]?=some x:=⟨_,IF au⟩
  have Dn:=hb x (ab6 hx)
  have ix:(ps.map aA)[(i:Int).toNat]?=some (aA x):=by rw[abW];simp[hx]
  have aO:ps.drop i=x::ps.drop (i+1):=by
   rw[List.drop_eq_getElem_cons au,(W8.1 hx).2]
  rw[aO]at hd
  have q0:=Int.tdiv_nonneg Dn.1 (show(0:Int)<=4294967296 by omega)
  have q1:x.f.tdiv 4294967296<=x.f:=Int.tdiv_le_self _ Dn.1
  refine⟨aA x,fun _=>⟨by omega,ix⟩,fun _ h=>by omega,fun _=>by omega,?_⟩
  repeat refine gG ?_
  refine T5 ?_ ?_
  ·intro h
   have hc:x.f.tdiv 4294967296=R.sh\/11<x.f.tdiv 4294967296:=by simpa using h
   rw[hd]
   unfold vn
   rw[if_pos hc]
   exact ext (by kernel_rfl) rfl rfl
  intro h
  have hc:¬(x.f.tdiv 4294967296=R.sh\/11<x.f.tdiv 4294967296):=by simpa using h
  have QE:vn R.sh R.fl ps=bif R.fl.any (QD x)then 8 else vn R.sh R.fl (ps.drop (i+1)):=by rw[hd];exact if_neg hc
  refine⟨Nat,fun j=>⟨4,[(0,.ptr 0 0),(1,.dv (aM ps)),(5,.dv (I i)),(7,.dv (I j))],de R⟩,fun j=>j<=R.fl.length/\∀f∈R.fl.take j,QD x f=false,fun j=>R.fl.length-j,0,fun _=>rfl,jn rfl rfl rfl rfl,⟨adx _,fun _ h=>by simp at h⟩,?_⟩
  rintro j ⟨hj,bO⟩
  refine T5 ?_ ?_
  ·intro h
   have Zw:j<R.fl.length:=by have:=adz h;omega
   obtain⟨f,kP⟩:∃f,R.fl[j]?=some f:=⟨_,IF Zw⟩
   have Lr:=ab6 kP
   have jf:(R.fl.map aG)[(j:Int).toNat]?=some (aG f):=by rw[abW];simp[kP]
   have hfp:=kF f Lr
   repeat first|refine g1 ?_|refine g2 ?_|refine g3 ?_|refine⟨fun _=>by omega,?_⟩|refine⟨aG f,fun _=>jf,?_⟩
   have gM:((ps.map aA).take ((i:Int)+1).toNat).drop (i:Int).toNat=[x].map aA:=by
    rw[show((i:Int)+1).toNat=i+1 by omega,Int.toNat_natCast,ads,abW,hx,List.drop_append_of_le_length (by rw[adD];omega),List.drop_of_length_le (by rw[adD];omega)];rfl
   have hm:=(BS f.ps [x] (by omega) (by simp) (by simp only[List.length_cons,List.length_nil];omega) (by
    have:f.ps.length*(f.ps.length*(([x]:List Lt).length+1)+1)<=200*(200*(([x]:List Lt).length+1)+1):=Nat.mul_le_mul hfp (by simp only[List.length_cons,List.length_nil];omega)
    simp only[List.length_cons,List.length_nil]at this⊢;omega)).ok
   unfold aM at hm
   rw[<-gM]at hm
   refine⟨fun _=>⟨by show(0:Int)<=i;omega,by show(i:Int)<=i+1;omega,by show(i:Int)+1<=_;omega⟩,?_⟩
   repeat first|refine g1 ?_|refine g2 ?_|refine g3 ?_
   refine .inl ⟨_,fun _=>hm,?_⟩
   repeat first|refine g1 ?_|refine g2 ?_|refine g3 ?_
   refine⟨by kernel_rfl,?_⟩
   refine T5 ?_ ?_
   ·intro h
    have h:=c6 h
    have ht:QD x f=true:=by
     unfold QD
     rw[adF (beq_iff_eq.1 h.1),Bool.true_and,adV,adU]
     intro e
     have h2:=adz h.2
     rw[e]at h2
     exact absurd h2 (by decide)
    rw[QE,show R.fl.any (QD x)=true from List.any_eq_true.2 ⟨f,Lr,ht⟩]
    exact ext (by kernel_rfl) rfl rfl
   ·intro h
    have h:=lM h
    have ht:QD x f=false:=by
     rw[<-Bool.not_eq_true]
     intro ht
     unfold QD at ht
     rw[adT,adR,adV,adU]at ht
     refine h ⟨beq_iff_eq.2 ht.1,adF ?_⟩
     have:=List.length_pos_iff.2 ht.2
     rw[WY];omega
    exact⟨fun _=>by omega,j+1,jn rfl rfl rfl rfl,⟨by omega,fun q hq=>by
     rw[ads,kP]at hq
     rcases adr.1 hq with hq|hq
     ·exact bO q hq
     ·simp at hq;subst hq;exact ht⟩,mlt Zw⟩
  ·intro h
   have he:j=R.fl.length:=by have:=adA h;omega
   subst he
   rw[ady]at bO
   have ha:R.fl.any (QD x)=false:=by rw[List.any_eq_false];intro f hf;rw[bO f hf];simp
   rw[ha]at QE
   exact⟨fun _=>by omega,i+1,jn rfl rfl rfl rfl,⟨by omega,QE⟩,mlt au⟩
 ·intro h
  have he:i=ps.length:=by have:=adA h;omega
  subst he
  rw[List.drop_length]at hd
  rw[hd]
  exact ext (by kernel_rfl) rfl rfl
end
section
open Go.TM
variable [bp]
def okF(it:Int)(x:Lt)(f:eS):Bool:=decide (f.kind≠6/\f.to=0/\f.it=it)&&rn [x] [⟨f.id,0,f.n⟩]
def Dz(x:Lt)(f:eS):Bool:=decide (f.kind=9)&&decide (f.fr=0)&& !decide (AN f.ps [x]=[])
def tF(fl:List eS)(it:Int):List Lt->Int
 |[]=>0
 |x::r=>bif fl.any (Dz x)|| !fl.any (okF it x)then 10 else tF fl it r
theorem QF{p:eS->Bool}{l:List eS}{j:Nat}{f:eS}(h:l[j]?=some f):(l.take (j+1)).any p=((l.take j).any p||p f):=by
 rw[ads,h,List.any_append];simp
theorem M8(R:RL)(m:dc)(hl:m.ps.length<=5000)(hf:R.fl.length<=1000000)(kF:∀f∈R.fl,f.ps.length<=200):aj Tryz.prog 150 [.ptr 0 0,cH (ao m)] 4 (de R) 0 [.dv (I (tF R.fl m.it m.ps))] (de R):=by
 refine cO Tryz.func150 rfl (by kernel_rfl) ?_
 refine⟨Nat,fun i=>⟨5,[(0,.ptr 0 0),(3,.ptr 4 0),(5,.dv (I i))],de R++[(4,.cells (ed (ao m).cells))]⟩,fun i=>i<=m.ps.length/\tF R.fl m.it m.ps=tF R.fl m.it (m.ps.drop i),fun i=>m.ps.length-i,0,fun _=>rfl,jn rfl rfl rfl rfl,⟨adx _,rfl⟩,?_⟩
 rintro i ⟨hi,hd⟩
 have lp:(m.ps.map aA).length=m.ps.length:=WY ..
 have lf:(R.fl.map aG).length=R.fl.length:=WY ..
 refine T5 ?_ ?_
 ·intro h
  have au:i<m.ps.length:=by have:=adz h;omega
  obtain⟨x,hx⟩:∃x,m.ps[i]?=some x:=⟨_,IF au⟩
  have aO:m.ps.drop i=x::m.ps.drop (i+1):=by
   rw[List.drop_eq_getElem_cons au,(W8.1 hx).2]
  rw[aO]at hd
  have QE:tF R.fl m.it m.ps=bif R.fl.any (Dz x)|| !R.fl.any (okF m.it x)then 10 else tF R.fl m.it (m.ps.drop (i+1)):=hd
  have gM:((m.ps.map aA).take ((i:Int)+1).toNat).drop (i:Int).toNat=[x].map aA:=by
   rw[show((i:Int)+1).toNat=i+1 by omega,Int.toNat_natCast,ads,abW,hx,List.drop_append_of_le_length (by rw[adD];omega),List.drop_of_length_le (by rw[adD];omega)];rfl
  refine⟨Nat,fun j=>⟨5,[(0,.ptr 0 0),(3,.ptr 4 0),(5,.dv (I i)),(6,.dv (B ((R.fl.take j).any (okF m.it x)))),(7,.dv (I j))],de R++[(4,.cells (ed (ao m).cells))]⟩,fun j=>j<=R.fl.length/\∀f∈R.fl.take j,Dz x f=false,fun j=>R.fl.length-j,0,fun _=>rfl,jn rfl rfl rfl rfl,⟨adx _,fun _ h=>by simp at h⟩,?_⟩
  rintro j ⟨hj,bO⟩
  refine T5 ?_ ?_
  ·intro h
   have Zw:j<R.fl.length:=by have:=adz h;omega
   obtain⟨f,kP⟩:∃f,R.fl[j]?=some f:=⟨_,IF Zw⟩
   have Lr:=ab6 kP
   have jf:(R.fl.map aG)[(j:Int).toNat]?=some (aG f):=by rw[abW];simp[kP]
   have hfp:=kF f Lr
   have eG:=QF (p:=okF m.it x) kP
   have hm:=(BS f.ps [x] (by omega) (by simp) (by simp only[List.length_cons,List.length_nil];omega) (by
    have:f.ps.length*(f.ps.length*(([x]:List Lt).length+1)+1)<=200*(200*(([x]:List Lt).length+1)+1):=Nat.mul_le_mul hfp (by simp only[List.length_cons,List.length_nil];omega)
    simp only[List.length_cons,List.length_nil]at this⊢;omega)).ok
   have hw:=(wh [x] [⟨f.id,0,f.n⟩] (by simp) (by simp) (by simp)).ok
   unfold aM at hm hw
   rw[<-gM]at hm hw
   refine⟨fun _=>by omega,aG f,fun _=>jf,?_⟩
   refine .inl ⟨[aA ⟨f.id,0,f.n⟩],rfl,⟨rf,rf,rf,tv⟩,(by simp;rfl),?_⟩
   refine⟨fun _=>by omega,fun _=>⟨by show(0:Int)<=i;omega,by show(i:Int)<=i+1;omega,by show(i:Int)+1<=_;omega⟩,?_⟩
   refine .inl ⟨_,fun _=>hw,?_⟩
   repeat refine gG ?_
   have aa2:okF m.it x f=(bif bif bif f.kind !=6 then f.to==0 else false then f.it==m.it else false then rn [x] [⟨f.id,0,f.n⟩]else false):=by
    unfold okF
    rw[adO];simp[and_assoc]
   refine T5 ?_ ?_
   ·intro h
    have cC:okF m.it x f=true:=aa2.trans h
    repeat first|refine g1 ?_|refine g2 ?_|refine g3 ?_|refine⟨fun _=>by omega,?_⟩
    refine⟨fun _=>⟨by show(0:Int)<=i;omega,by show(i:Int)<=i+1;omega,by show(i:Int)+1<=_;omega⟩,?_⟩
    repeat first|refine g1 ?_|refine g2 ?_|refine g3 ?_
    refine .inl ⟨_,fun _=>hm,?_⟩
    repeat first|refine g1 ?_|refine g2 ?_|refine g3 ?_
    refine⟨by kernel_rfl,?_⟩
    refine T5 ?_ ?_
    ·intro h
     have h:=c6 h
     have h1:=c6 h.1
     have ht:Dz x f=true:=by
      unfold Dz
      rw[adF (beq_iff_eq.1 h1.1),adF (beq_iff_eq.1 h1.2),Bool.true_and,Bool.true_and,adV,adU]
      intro e
      have h2:=adz h.2
      rw[e]at h2
      exact absurd h2 (by decide)
     rw[QE,show R.fl.any (Dz x)=true from List.any_eq_true.2 ⟨f,Lr,ht⟩]
     exact ext (by kernel_rfl) rfl rfl
    ·intro h
     have h:=lM h
     have ht:Dz x f=false:=by
      rw[<-Bool.not_eq_true]
      intro ht
      unfold Dz at ht
      simp only[adT,adR,adV,adU]at ht
      refine h ⟨by rw[beq_iff_eq.2 ht.1.1,beq_iff_eq.2 ht.1.2];rfl,adF ?_⟩
      have:=List.length_pos_iff.2 ht.2
      rw[WY];omega
     exact⟨fun _=>by omega,j+1,jn (by simp only[eG,cC,Bool.or_true];rfl) rfl rfl rfl,⟨by omega,fun q hq=>by
      rw[ads,kP]at hq
      rcases adr.1 hq with hq|hq
      ·exact bO q hq
      ·simp at hq;subst hq;exact ht⟩,mlt Zw⟩
   ·intro h
    have cC:okF m.it x f=false:=aa2.trans h
    repeat first|refine g1 ?_|refine g2 ?_|refine g3 ?_|refine⟨fun _=>by omega,?_⟩
    refine⟨fun _=>⟨by show(0:Int)<=i;omega,by show(i:Int)<=i+1;omega,by show(i:Int)+1<=_;omega⟩,?_⟩
    repeat first|refine g1 ?_|refine g2 ?_|refine g3 ?_
    refine .inl ⟨_,fun _=>hm,?_⟩
    repeat first|refine g1 ?_|refine g2 ?_|refine g3 ?_
    refine⟨by kernel_rfl,?_⟩
    refine T5 ?_ ?_
    ·intro h
     have h:=c6 h
     have h1:=c6 h.1
     have ht:Dz x f=true:=by
      unfold Dz
      rw[adF (beq_iff_eq.1 h1.1),adF (beq_iff_eq.1 h1.2),Bool.true_and,Bool.true_and,adV,adU]
      intro e
      have h2:=adz h.2
      rw[e]at h2
      exact absurd h2 (by decide)
     rw[QE,show R.fl.any (Dz x)=true from List.any_eq_true.2 ⟨f,Lr,ht⟩]
     exact ext (by kernel_rfl) rfl rfl
    ·intro h
     have h:=lM h
     have ht:Dz x f=false:=by
      rw[<-Bool.not_eq_true]
      intro ht
      unfold Dz at ht
      simp only[adT,adR,adV,adU]at ht
      refine h ⟨by rw[beq_iff_eq.2 ht.1.1,beq_iff_eq.2 ht.1.2];rfl,adF ?_⟩
      have:=List.length_pos_iff.2 ht.2
      rw[WY];omega
     exact⟨fun _=>by omega,j+1,jn (by simp only[eG,cC,Bool.or_false];rfl) rfl rfl rfl,⟨by omega,fun q hq=>by
      rw[ads,kP]at hq
      rcases adr.1 hq with hq|hq
      ·exact bO q hq
      ·simp at hq;subst hq;exact ht⟩,mlt Zw⟩
  ·intro h
   have he:j=R.fl.length:=by have:=adA h;omega
   subst he
   rw[ady]at bO
   have ha:R.fl.any (Dz x)=false:=by rw[List.any_eq_false];intro f hf;rw[bO f hf];simp
   rw[ha,Bool.false_or]at QE
   simp only[ady]
   refine T5 ?_ ?_
   ·intro h
    rw[QE,show(!R.fl.any (okF m.it x))=true from h]
    exact ext (by kernel_rfl) rfl rfl
   ·intro h
    rw[show(!R.fl.any (okF m.it x))=false from h]at QE
    exact⟨fun _=>by omega,i+1,jn rfl rfl rfl rfl,⟨by omega,QE⟩,mlt au⟩
 ·intro h
  have he:i=m.ps.length:=by have:=adA h;omega
  subst he
  rw[List.drop_length]at hd
  rw[hd]
  exact ext (by kernel_rfl) rfl rfl
end
section
open Go.TM
variable [bp]
def ur(it:Int):Bool:=it==0||it==2
theorem M9(R:RL)(k:Int)(m:dc)(fb:0<m.fr)(hp:m.ps≠[])(hn:R.st.length<=100000)(ho:(aW R.st (m.fr,m.it)).length<=5000)(hl:m.ps.length<=5000)(bP:m.ps.length*((aW R.st (m.fr,m.it)).length+1)<=90000)(hsy:(aW R.st (m.fr,m.it)).length*(m.ps.length+1)<=90000):aj Tryz.prog 92 [.ptr 0 0,.dv (I k),cH (ao m)] 4 (de R) 0 [.dv (aM (bif rn m.ps (aW R.st (m.fr,m.it))then m.ps else[])),.dv (I (bif rn m.ps (aW R.st (m.fr,m.it))then 0 else 10))] (bif rn m.ps (aW R.st (m.fr,m.it))then jG 1 0 0 (vk R (m.fr,m.it) (Jd (aW R.st (m.fr,m.it)) m.ps))else de R):=by
 refine cO Tryz.func92 rfl (by kernel_rfl) ?_
 have Io:=List.length_pos_iff.2 hp
 have lp:(m.ps.map aA).length=m.ps.length:=WY ..
 refine T5 (fun _=>?_) fun h=>by have:=adA h;omega
 refine .inr (cl [0,1,2,3] (gj R m.fr m.it hn) (by kernel_rfl) rfl rfl ?_)
 refine T5 (fun _=>?_) fun h=>by have:=adA h;omega
 refine .inl ⟨_,fun _=>(wh m.ps (aW R.st (m.fr,m.it)) hl ho bP).ok,?_⟩
 generalize rn m.ps (aW R.st (m.fr,m.it))=w at*
 cases w with
 |false=>
  refine T5 (fun _=>?_) fun h=>by cases h
  exact⟨_,_,⟨rfl,rfl⟩,by kernel_rfl,⟨DV.aI 3,rf,tv⟩,aV (k:=de R) rfl⟩
 |true=>
  refine T5 (fun h=>by cases h) fun _=>?_
  refine .inl ⟨_,fun _=>(tD (aW R.st (m.fr,m.it)) m.ps ho hl hsy).ok,?_⟩
  refine .inr (cl [0,1,2,3] (oj R m.fr m.it (Jd (aW R.st (m.fr,m.it)) m.ps) hn) (by kernel_rfl) rfl rfl ?_)
  refine⟨by kernel_rfl,?_⟩
  exact ext (by kernel_rfl) rfl rfl
theorem Na(R:RL)(k:Int)(m:dc)(fb:0<m.fr)(hp:m.ps=[])(hi:0<=m.it/\m.it<5)(hm:0<=m.n/\m.n<=1099511627776)(hn:R.st.length<=100000)(hv:bB (aW R.st (m.fr,m.it))=true):aj Tryz.prog 92 [.ptr 0 0,.dv (I k),cH (ao m)] 4 (de R) 0 [.dv (aM (bif decide (br (aW R.st (m.fr,m.it))<m.n)then[]else(eP (aW R.st (m.fr,m.it)) m.n (ur m.it)).1)),.dv (I (bif decide (br (aW R.st (m.fr,m.it))<m.n)then 10 else 0))] (bif decide (br (aW R.st (m.fr,m.it))<m.n)then de R else jG 1 0 0 (vk R (m.fr,m.it) (eP (aW R.st (m.fr,m.it)) m.n (ur m.it)).2)):=by
 rcases m with⟨fr,to,it,n,ps⟩
 dsimp only at*
 subst hp
 have:it=0\/it=1\/it=2\/it=3\/it=4:=by omega
 have ht:=fun x=>(Jb (aW R.st (fr,it)) n x hm hv).ok
 unfold Gc at ht
 have hs:=oj R fr it
 cases hc:decide (br (aW R.st (fr,it))<n)<;>rw[hc]at ht
 ·rcases this with rfl|rfl|rfl|rfl|rfl
  all_goals
   refine cO Tryz.func92 rfl (by kernel_rfl) ?_
   refine T5 (fun _=>?_) fun h=>absurd fb (adA h)
   refine .inr (cl [0,1,2,3] (gj R fr _ hn) (by kernel_rfl) rfl rfl ?_)
   refine T5 (fun h=>by have:=adz h;simp at this) fun _=>?_
   refine⟨_,fun _=>⟨adz rfl,rfl⟩,?_⟩
   refine .inl ⟨_,fun _=>ht _,?_⟩
   refine⟨by kernel_rfl,?_⟩
   refine T5 (fun h=>by cases h) fun _=>?_
   refine .inr (cl [0,1,2,3] (hs _ hn) (by kernel_rfl) rfl rfl ?_)
   exact ext (by kernel_rfl) rfl rfl
 ·rcases this with rfl|rfl|rfl|rfl|rfl
  all_goals
   refine cO Tryz.func92 rfl (by kernel_rfl) ?_
   refine T5 (fun _=>?_) fun h=>absurd fb (adA h)
   refine .inr (cl [0,1,2,3] (gj R fr _ hn) (by kernel_rfl) rfl rfl ?_)
   refine T5 (fun h=>by have:=adz h;simp at this) fun _=>?_
   refine⟨_,fun _=>⟨adz rfl,rfl⟩,?_⟩
   refine .inl ⟨_,fun _=>ht _,?_⟩
   refine⟨by kernel_rfl,?_⟩
   refine T5 (fun _=>?_) fun h=>by cases h
   exact⟨_,_,⟨rfl,rfl⟩,by kernel_rfl,⟨DV.aI 3,rf,tv⟩,aV (k:=de R) rfl⟩
theorem Nb(R:RL)(k:Int)(m:dc)(fb:¬0<m.fr)(hl:m.ps.length<=5000)(hf:R.fl.length<=1000000)(kF:∀f∈R.fl,f.ps.length<=200)(hb:k=5->∀x∈m.ps,0<=x.f/\x.f<=9223372036854775807):aj Tryz.prog 92 [.ptr 0 0,.dv (I k),cH (ao m)] 4 (de R) 0 [.dv (aM (if k=5\/k=9 then m.ps else[])),.dv (I (if k=5 then vn R.sh R.fl m.ps else if k=9 then tF R.fl m.it m.ps else 0))] (de R):=by
 refine cO Tryz.func92 rfl (by kernel_rfl) ?_
 refine T5 (fun h=>absurd (adz h) fb) fun _=>?_
 refine T5 ?_ ?_
 ·intro h
  have h:k=5:=by simpa using h
  subst h
  refine .inr (cl [0,1,2,3] (M7 R m.ps hl hf kF (hb rfl)) (by kernel_rfl) rfl rfl ?_)
  refine⟨by kernel_rfl,?_⟩
  exact ext (by kernel_rfl) rfl rfl
 intro h
 have h5:k≠5:=by simpa using h
 refine T5 ?_ ?_
 ·intro h
  have h:k=9:=by simpa using h
  subst h
  refine .inr (cl [0,1,2,3] (M8 R m hl hf kF) (by kernel_rfl) rfl rfl ?_)
  refine⟨by kernel_rfl,?_⟩
  exact ext (by kernel_rfl) rfl rfl
 ·intro h
  have h9:k≠9:=by simpa using h
  rw[if_neg (show¬(k=5\/k=9)by omega),if_neg h5,if_neg h9]
  exact⟨_,_,⟨rfl,rfl⟩,by kernel_rfl,⟨DV.aI 3,rf,tv⟩,aV (k:=de R) rfl⟩
end
end Go.Proofs.YtmojfblpbcficaaGreatDoor
