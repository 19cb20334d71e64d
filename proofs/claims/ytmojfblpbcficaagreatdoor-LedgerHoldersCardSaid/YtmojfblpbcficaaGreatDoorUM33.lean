import Derived.Test.YtmojfblpbcficaaGreatDoorUM32
import Derived.Test.YtmojfblpbcficaaGreatDoorUM21
import Derived.Test.YtmojfblpbcficaaGreatDoorUM25
import Derived.Test.YtmojfblpbcficaaGreatDoorUM18
import Derived.Test.YtmojfblpbcficaaGreatDoorUM30
set_option linter.all false
open Go.TM.oA Go.TM.oB Go.TM.oC Go.TM.oD Go.TM.oE
namespace Go.Proofs.YtmojfblpbcficaaGreatDoor
set_option maxRecDepth 100000
set_option maxHeartbeats 4000000
section
open Go.TM
def ZB(s:cJ):Bool:=bif decide (s.kind=4)then tR s else bif decide (s.kind=10)then tE s else decide (s.aP=-1)&&decide (s.times=0)
def sx(now:Int)(s:cJ):Bool:=AO s&&decide (0<=s.tick/\now<=s.tick/\s.tick<=1099511627776/\1<=s.mv.length/\s.mv.length<=64)&&s.mv.all (sw s.kind)&&ZB s
variable [bp]
theorem UC(P:PL)(s:cJ)(hr:tw s.aP)(hl:s.mv.length<=1000)(h1:1<=s.mv.length):aj Tryz.prog (whN s.kind) [.ptr 0 0,cH (aC s)] 7 (gY P) 0 [.dv (B (ZB s))] (gY P):=by
 unfold whN ZB
 split
 ·rename_i h;rw[adF h];exact DZ P s hr hl h1
 rename_i h4
 rw[adG h4]
 split
 ·rename_i h;rw[adF h];exact GN P s
 ·rename_i h;rw[adG h];exact DY P s
theorem mV(P:PL)(s:cJ)(hr:tw s.aP)(hn:P.sp.length<=1000000)(hl:s.mv.length<=1000)(kF:∀m∈s.mv,m.ps.length<=4000):aj Tryz.prog 86 [.ptr 0 0,cH (aC s)] 7 (gY P) 0 [.dv (B (sx (eC P.sp) s))] (gY P):=by
 by_cases hk:0<=s.kind/\s.kind<=10
 ·by_cases hg:(0<=s.jt/\s.jt<=1073741824)/\0<=s.tick/\s.tick<=1099511627776
  ·refine cO Tryz.func86 rfl (by kernel_rfl) ?_
   repeat refine gG ?_
   refine .inl ⟨_,fun _=>(B6 s.kind hk).ok,?_⟩
   repeat refine gG ?_
   refine .inl ⟨_,fun _=>(lW s.jt).ok,?_⟩
   repeat refine gG ?_
   refine .inr (cl [0,1,2,3,4,5,6] (B4 P hn) (by kernel_rfl) rfl rfl ?_)
   refine⟨by simp[bw];omega,?_⟩
   repeat first|refine gG ?_|refine⟨fun _=>rfl,?_⟩
   refine T5 (by kernel_rfl) ?_
   have hA:AO s=true:=adF ⟨hk.1,hk.2,hg.1.1,hg.1.2⟩
   refine T5 ?_ ?_
   ·intro h
    have hc:sx (eC P.sp) s=false:=by
     have:decide (0<=s.tick/\eC P.sp<=s.tick/\s.tick<=1099511627776/\1<=s.mv.length/\s.mv.length<=64)=false:=by
      rw[adU]
      rw[WY]at h
      simp at h
      omega
     unfold sx
     rw[this,Bool.and_false];rfl
    rw[hc]
    exact ext (by kernel_rfl) rfl rfl
   intro h
   have hB:0<=s.tick/\eC P.sp<=s.tick/\s.tick<=1099511627776/\1<=s.mv.length/\s.mv.length<=64:=by
    rw[WY]at h
    simp at h
    omega
   have hp:sx (eC P.sp) s=(s.mv.all (sw s.kind)&&ZB s):=by
    unfold sx
    rw[hA,adF hB];simp
   rw[hp]
   have lm:(s.mv.map ao).length=s.mv.length:=WY ..
   refine⟨Nat,fun k=>⟨9,[(0,.ptr 0 0),(3,.ptr 7 0),(5,.ptr 8 0),(53,.dv (.sl 5 (s.mv.map ao))),(54,.dv (I (s.mv.map ao).length)),(55,.dv (I k))],gY P++[(7,.cells (ed (aC s).cells)),(8,.cells (ed (Yo s.kind).cells))]⟩,fun k=>k<=s.mv.length/\∀m∈s.mv.take k,sw s.kind m=true,fun k=>s.mv.length-k,0,fun _=>rfl,jn rfl rfl rfl rfl,⟨adx _,by simp⟩,?_⟩
   rintro k ⟨hk,bO⟩
   refine T5 ?_ ?_
   ·intro h
    have au:k<s.mv.length:=by have:=adz h;omega
    obtain⟨m,hm⟩:∃m,s.mv[k]?=some m:=⟨_,IF au⟩
    have kB:=ab6 hm
    have im:(s.mv.map ao)[(k:Int).toNat]?=some (ao m):=by rw[abW];exact congrArg (Option.map ao) hm
    refine⟨ao m,fun _=>⟨by omega,im⟩,?_⟩
    refine .inr (cl [0,1,2,3,4,5,6] (nt P m s.kind (kF m kB)) (by kernel_rfl) rfl rfl ?_)
    refine T5 ?_ ?_
    ·intro h
     have h:sw s.kind m=false:=by simpa using h
     rw[show s.mv.all (sw s.kind)=false from List.all_eq_false.2 ⟨m,kB,by rw[h];simp⟩]
     exact ext (by kernel_rfl) rfl rfl
    ·intro h
     have h:sw s.kind m=true:=by simpa using h
     exact⟨fun _=>by omega,k+1,jn rfl rfl rfl rfl,⟨by omega,fun q hq=>by
      rw[ads,hm]at hq
      rcases adr.1 hq with hq|hq
      ·exact bO q hq
      ·simp at hq;subst hq;exact h⟩,mlt au⟩
   intro h
   have he:k=s.mv.length:=by have:=adA h;omega
   subst he
   rw[ady]at bO
   rw[show s.mv.all (sw s.kind)=true from adH.2 bO,Bool.true_and]
   refine .inr (cl [0,1,2,3,4,5,6] (UC P s hr hl (by omega)) (by kernel_rfl) rfl rfl ?_)
   exact ext (by kernel_rfl) rfl rfl
  ·have hA:sx (eC P.sp) s=false:=by
    have:AO s=false\/decide (0<=s.tick/\eC P.sp<=s.tick/\s.tick<=1099511627776/\1<=s.mv.length/\s.mv.length<=64)=false:=by
     unfold AO
     rw[adU,adU]
     omega
    unfold sx
    rcases this with h|h<;>rw[h]<;>simp
   rw[hA]
   refine cO Tryz.func86 rfl (by kernel_rfl) ?_
   repeat refine gG ?_
   refine .inl ⟨_,fun _=>(B6 s.kind hk).ok,?_⟩
   repeat refine gG ?_
   refine .inl ⟨_,fun _=>(lW s.jt).ok,?_⟩
   repeat refine gG ?_
   refine .inl ⟨by simp[bw];omega,[I 0],fun h=>absurd h (by simp[bw];omega),rfl,?_⟩
   repeat refine gG ?_
   refine T5 (by kernel_rfl) ?_
   refine T5 (fun _=>ext (by kernel_rfl) rfl rfl) fun h=>absurd h ?_
   simp;omega
 ·have hA:sx (eC P.sp) s=false:=by
   have:AO s=false:=by
    unfold AO
    rw[adU]
    omega
   unfold sx
   rw[this];simp
  rw[hA]
  refine cO Tryz.func86 rfl (by kernel_rfl) ?_
  repeat refine gG ?_
  refine .inl ⟨_,fun _=>(JK s.kind hk).ok,?_⟩
  repeat refine gG ?_
  refine .inl ⟨_,fun _=>(lW s.jt).ok,?_⟩
  repeat refine gG ?_
  refine .inl ⟨by simp[bw],[I 0],fun h=>absurd h (by simp[bw]),rfl,?_⟩
  repeat refine gG ?_
  refine T5 (by kernel_rfl) ?_
  refine T5 (fun _=>ext (by kernel_rfl) rfl rfl) fun h=>absurd h ?_
  simp
end
section
open Go.TM
theorem UD{i:Nat}{r:T9}(h:dY[i]?=some r):r.of<=r.ch↔r.ch=r.of:=by
 have:∀r∈dY,r.ch<=r.of:=by
  intro r hr
  simp only[dY,adp,List.mem_nil_iff,or_false]at hr
  rcases hr with rfl|rfl|rfl|rfl|rfl<;>decide
 have:=this r (ab6 h)
 omega
theorem B7(l:List dc)(n j:Nat):(l.drop n).getD j m0=l.getD (n+j) m0:=by
 rw[acb,acb,List.getElem?_drop]
theorem Ra{l:List dc}{i:Nat}(h:i<l.length):l.getD i m0∈l:=by
 rw[acb,IF h];exact adP h
theorem Yq(mv:List dc)(tm:Int)(tk gv:List Ky)(hb:∀m∈mv,du m=true)(hl:mv.length=tk.length+gv.length):((List.range tk.length).all (qj mv tm tk)&&(List.range gv.length).all (ph (mv.drop tk.length) tm gv))=(List.range mv.length).all (gT mv tm tk gv):=by
 have hB:∀i,i<mv.length->(mv.getD i m0).fr≠(mv.getD i m0).to/\0<=(mv.getD i m0).fr/\0<=(mv.getD i m0).to:=fun i hi=>by
  have:=adz (hb _ (Ra hi))
  omega
 rw[adO,adT,adH,adH,adH]
 have hT:∀k,qj mv tm tk k=true↔((mv.getD k m0).fr=(mv.getD 0 m0).fr/\(mv.getD k m0).to=0/\(mv.getD k m0).it=(tk.getD k (0,0)).1/\(mv.getD k m0).n=(tk.getD k (0,0)).2*tm):=fun k=>adR
 have hG:∀k,ph (mv.drop tk.length) tm gv k=true↔((mv.getD (tk.length+k) m0).fr=0/\(mv.getD (tk.length+k) m0).to=(mv.getD tk.length m0).to/\(mv.getD (tk.length+k) m0).it=(gv.getD k (0,0)).1/\(mv.getD (tk.length+k) m0).n=(gv.getD k (0,0)).2*tm):=fun k=>by
  unfold ph
  rw[adR,B7,B7,Nat.add_zero]
 have Zv:∀k,k<tk.length->(gT mv tm tk gv k=true↔((mv.getD k m0).fr=(mv.getD 0 m0).fr/\1<=(mv.getD k m0).fr/\(mv.getD k m0).to=0/\(mv.getD k m0).it=(tk.getD k (0,0)).1/\(mv.getD k m0).n=(tk.getD k (0,0)).2*tm)):=fun k h=>by
  unfold gT
  rw[if_pos h,adR]
 have VU:∀k,gT mv tm tk gv (tk.length+k)=true↔((mv.getD (tk.length+k) m0).fr=0/\1<=(mv.getD (tk.length+k) m0).to/\(mv.getD (tk.length+k) m0).to=(mv.getD (mv.length-1) m0).to/\(mv.getD (tk.length+k) m0).it=(gv.getD k (0,0)).1/\(mv.getD (tk.length+k) m0).n=(gv.getD k (0,0)).2*tm):=fun k=>by
  unfold gT
  rw[if_neg (by omega),adR,Nat.add_sub_cancel_left]
 constructor
 ·rintro⟨h1,h2⟩ k hk
  have hk:=adL.1 hk
  rcases adC k tk.length with h|h
  ·have:=(hT k).1 (h1 k (adL.2 h))
   have hb:=hB k hk
   rw[Zv k h]
   refine⟨this.1,?_,this.2⟩
   omega
  ·obtain⟨j,rfl⟩:∃j,k=tk.length+j:=⟨k-tk.length,by omega⟩
   have a:=(hG j).1 (h2 j (adL.2 (by omega)))
   have b:=(hG (gv.length-1)).1 (h2 (gv.length-1) (adL.2 (by omega)))
   have hb:=hB _ hk
   rw[VU]
   rw[show mv.length-1=tk.length+(gv.length-1)by omega]
   refine⟨a.1,by omega,?_,a.2.2⟩
   rw[a.2.1,b.2.1]
 ·intro h
  refine⟨fun k hk=>?_,fun j hj=>?_⟩
  ·have hk:=adL.1 hk
   have:=(Zv k hk).1 (h k (adL.2 (by omega)))
   rw[hT]
   exact⟨this.1,this.2.2⟩
  ·have hj:=adL.1 hj
   have a:=(VU j).1 (h _ (adL.2 (by omega)))
   have b:=(VU 0).1 (h _ (adL.2 (by omega)))
   rw[Nat.add_zero]at b
   rw[hG]
   refine⟨a.1,?_,a.2.2.2⟩
   rw[a.2.2.1,b.2.2.1]
theorem Yr(s:cJ)(hb:∀m∈s.mv,du m=true):tR s=rp s:=by
 unfold tR rp
 by_cases h1:s.aP=-1
 ·rw[if_pos,if_pos]
  ·unfold QB;rw[h1];simp
  ·unfold V4;rw[h1];simp
 have e1:V4 s.aP=QB s.aP:=by unfold V4 QB;split<;>split<;>omega
 have e2:Yp s.aP=XT s.aP:=by funext r;unfold Yp XT;split<;>split<;>first|rfl|omega
 rw[e1,e2]
 by_cases h2:QB s.aP<0\/5<=QB s.aP\/s.times<1\/1048576<s.times
 ·rw[if_pos h2,if_pos h2]
 rw[if_neg h2,if_neg h2]
 cases hr:dY[(QB s.aP).toNat]? with
 |none=>rfl
 |some r=>
  have hch:=UD hr
  dsimp only
  cases r.sp with
  |true=>simp
  |false=>
   simp only[cond_false,Bool.false_eq_true,false_or]
   by_cases h3:(s.aP<0/\r.ch=r.of)\/s.mv.length≠r.tk.length+(XT s.aP r).length
   ·rw[if_pos h3,if_pos]
    rcases h3 with h3|h3
    ·exact .inl ⟨by omega,hch.2 h3.2⟩
    ·exact .inr h3
   ·rw[if_neg h3,if_neg]
    ·exact Yq s.mv s.times r.tk _ hb (by omega)
    ·rintro(h4|h4)
     ·exact h3 (.inl ⟨by omega,hch.1 h4.2⟩)
     ·exact h3 (.inr h4)
theorem Rb{k:Int}(hk:0<=k/\k<=10)(h4:k≠4)(SQ:k≠10){m:dc}(hb:du m=true):(DW k m.fr&&DX k m.to)=nD k m:=by
 have hb:=adz hb
 rw[adO]
 rcases kinds hk with rfl|rfl|rfl|rfl|rfl|rfl|rfl|rfl|rfl|rfl|rfl<;>first|exact absurd rfl h4|exact absurd rfl SQ|(simp[DW,DX,nD];omega)
theorem UE{l:List dc}{p q:dc->Bool}:l.all (fun m=>p m&&q m)=(l.all p&&l.all q):=by
 induction l with
 |nil=>rfl
 |cons a l ih=>simp only[List.all_cons,ih];cases p a<;>cases q a<;>cases l.all p<;>rfl
theorem pos_eq(now:Int)(s:cJ)(h0:0<=now):sx now s=jo now s:=by
 unfold sx jo
 cases hr:AO s with
 |false=>rfl
 |true=>
 have hr:=adz hr
 have hd:decide (0<=s.tick/\now<=s.tick/\s.tick<=1099511627776/\1<=s.mv.length/\s.mv.length<=64)=decide (now<=s.tick/\s.tick<=1099511627776/\1<=s.mv.length/\s.mv.length<=64):=by
  rw[decide_eq_decide];omega
 rw[hd]
 generalize decide (now<=s.tick/\s.tick<=1099511627776/\1<=s.mv.length/\s.mv.length<=64)=d
 rw[show s.mv.all (sw s.kind)=(s.mv.all (fun m=>BX m (om s.kind))&&s.mv.all fun m=>DW s.kind m.fr&&DX s.kind m.to)from UE]
 cases hm:s.mv.all (fun m=>BX m (om s.kind))with
 |false=>cases d<;>rfl
 |true=>
 have hb:∀m∈s.mv,du m=true:=fun m h=>by
  have:=adH.1 hm m h
  unfold BX at this
  exact(adT _ _▸this).1
 have hw:((s.mv.all fun m=>DW s.kind m.fr&&DX s.kind m.to)&&ZB s)=(bif decide (s.kind=4)then rp s else bif decide (s.kind=10)then tE s else s.mv.all (nD s.kind)&&decide (s.aP=-1/\s.times=0)):=by
  unfold ZB
  by_cases h4:s.kind=4
  ·rw[adF h4,show(s.mv.all fun m=>DW s.kind m.fr&&DX s.kind m.to)=true from adH.2 fun m _=>by rw[h4];rfl]
   exact Yr s hb
  rw[adG h4]
  by_cases SQ:s.kind=10
  ·rw[adF SQ,show(s.mv.all fun m=>DW s.kind m.fr&&DX s.kind m.to)=true from adH.2 fun m _=>by rw[SQ];rfl]
   rfl
  rw[adG SQ]
  simp only[cond_false]
  congr 1
  ·rw[adO,adH,adH]
   exact forall_congr' fun m=>forall_congr' fun h=>by rw[Rb ⟨hr.1,hr.2.1⟩ h4 SQ (hb m h)]
  ·rw[adO];simp
 rw[<-hw]
 cases d<;>simp
end
section
open Go.TM
variable [bp]
theorem Ny(P:PL)(s:cJ)(hr:tw s.aP)(hn:P.sp.length<=1000000)(hl:s.mv.length<=1000)(kF:∀m∈s.mv,m.ps.length<=4000)(hp:sx (eC P.sp) s=false)(au:(P.sp.length:Int)<65536):aj Tryz.prog 46 [.ptr 0 0,cH (aC s)] 7 (gY P) 0 [.dv .eY,.dv (I 1)] (gY P):=by
 have lp:(P.sp.map aC).length=P.sp.length:=WY ..
 have kF:=mV P s hr hn hl kF
 rw[hp]at kF
 refine cO Tryz.func46 rfl (by kernel_rfl) ?_
 repeat refine gG ?_
 refine T5 (fun h2=>absurd (adz h2) (by omega)) fun _=>?_
 refine .inr (cl [0,1,2,3,4,5,6] kF (by kernel_rfl) rfl rfl ?_)
 exact T5 (fun _=>ext (by kernel_rfl) rfl rfl) fun h=>(by cases h)
end
section
open Go.TM
structure Ch where
 sp:cJ
 st:SM
 b9:IM Int
 imp:IM (List Lt)
 ret:IM (List Lt)
 fl:List eS
 sk:List Int
def acy(P:PL):List AV:=.dv (I P.sh)::ed gE++[.own 8 0 0 [],.own 9 0 0 [],.own 10 0 0 [],.own 11 0 0 [],.own 12 0 0 [],.own 13 0 0 []]
def abl(P:PL):ae:=[(7,.cells (acy P)),(8,.tree 0 0 (.omap eb (oq P.st))),(9,.tree 0 0 (.omap cr (nG P.b9))),(10,.tree 0 0 (.aD 7 (P.sp.map aC))),(11,.tree 0 0 (.aD 11 (P.fl.map aG))),(12,.tree 0 0 (.omap cr (mU P.imp))),(13,.tree 0 0 (.omap cr (mU P.ret)))]
def chC(v u:Nat)(c:Ch):List AV:=.ptr 7 0::(ed (aC c.sp).cells++[.own 1 0 0 [],.own 2 0 0 [],.own 3 0 0 [],.own 4 0 0 [],.own 5 v 0 [],.own 6 u 0 []])
def dM(v u:Nat)(P:PL)(c:Ch):ae:=[(0,.cells (chC v u c)),(1,.tree 0 0 (.omap eb (oq c.st))),(2,.tree 0 0 (.omap cr (nG c.b9))),(3,.tree 0 0 (.omap cr (mU c.imp))),(4,.tree 0 0 (.omap cr (mU c.ret))),(5,.tree v 0 (.aD 11 (c.fl.map aG))),(6,.tree u 0 (.aD 1 (c.sk.map I)))]++abl P
def eH(P:PL)(c:Ch)(k:Ky):List Lt:=(aX c.st k).getD (aW P.st k)
theorem fQ(l:List Lt):(aM l).aT:=fun d hd=>by
 have hd:d∈[aM l]:=hd
 rw[ado]at hd;subst hd;rfl
theorem vA(n:Int):(I n).aT:=fun d hd=>by
 have hd:d∈[I n]:=hd
 rw[ado]at hd;subst hd;rfl
theorem oz(m:SM)(k:Ky):∀x,ca (oq m) (qV k)=some x->x.aT:=by
 intro x hx
 rw[show ca (oq m) (qV k)=_ from jd (ev:=fun l:List Lt=>aM l) iC m k]at hx
 cases hq:aX m k with
 |none=>rw[hq]at hx;cases hx
 |some y=>rw[hq]at hx;injection hx with hx;subst hx;exact fQ y
theorem oF(m:IM Int)(k:Int):∀x,ca (nG m) (eI k)=some x->x.aT:=by
 intro x hx
 rw[show ca (nG m) (eI k)=_ from jd (ev:=eI) je m k]at hx
 cases hq:aX m k with
 |none=>rw[hq]at hx;cases hx
 |some y=>rw[hq]at hx;injection hx with hx;subst hx;exact vA y
theorem D0(m:IM (List Lt))(k:Int):∀x,ca (mU m) (eI k)=some x->x.aT:=by
 intro x hx
 rw[show ca (mU m) (eI k)=_ from jd (ev:=fun l:List Lt=>aM l) je m k]at hx
 cases hq:aX m k with
 |none=>rw[hq]at hx;cases hx
 |some y=>rw[hq]at hx;injection hx with hx;subst hx;exact fQ y
variable [bp]
theorem iK(P:PL)(c:Ch)(a i:Int):aj Tryz.prog 143 [.ptr 0 0,.dv (I a),.dv (I i)] 14 (dM 0 0 P c) 0 [.dv (aM (eH P c (a,i)))] (dM 0 0 P c):=by
 have hg:=jd (ev:=fun l:List Lt=>aM l) iC c.st (a,i)
 have hh:=jd (ev:=fun l:List Lt=>aM l) iC P.st (a,i)
 refine cO Tryz.func143 rfl (by kernel_rfl) ?_
 refine⟨mD,qV (a,i),rfl,rfl,?_⟩
 unfold eH
 cases h:aX c.st (a,i)with
 |some l=>
  rw[h]at hg
  refine⟨aM l,true,fun _=>hg,fun h=>(by cases h),rfl,?_⟩
  refine T5 (by kernel_rfl) ?_
  refine T5 (fun _=>?_) fun h=>(by cases h)
  exact ext (by kernel_rfl) rfl rfl
 |none=>
  rw[h]at hg
  refine⟨.ax,false,fun _=>hg,fun _=>rfl,rfl,?_⟩
  refine T5 (by kernel_rfl) ?_
  refine T5 (fun h=>(by cases h)) fun _=>?_
  refine⟨mD,qV (a,i),rfl,rfl,?_⟩
  unfold aW
  cases h:aX P.st (a,i)with
  |some l=>
   rw[h]at hh
   refine⟨aM l,true,fun _=>hh,fun h=>(by cases h),rfl,?_⟩
   exact⟨by kernel_rfl,ext (by kernel_rfl) rfl rfl⟩
  |none=>
   rw[h]at hh
   refine⟨.ax,false,fun _=>hh,fun _=>rfl,rfl,?_⟩
   refine T5 (by kernel_rfl) ?_
   exact⟨_,_,⟨rfl,rfl⟩,by kernel_rfl,⟨DV.aI 3,tv⟩,aV (k:=dM 0 0 P c) rfl⟩
def unK(a b:IM (List Lt)):ae:=[(0,.tree 0 0 (.omap cr (mU a))),(1,.tree 0 0 (.omap cr (mU b)))]
def sI(a b:IM (List Lt))(f:Int):Option (List Lt):=(aX a f).or (aX b f)
def unD:Option (List Lt)->DV
 |some l=>aM l
 |none=>.ax
theorem zK(m b:IM (List Lt))(f:Int):aj Tryz.prog 239 [.own 0 0 0 [],.own 1 0 0 [],.dv (I f)] 2 (unK m b) 0 [.dv (unD (sI m b f))] (unK m b):=by
 have hg:=jd (ev:=fun l:List Lt=>aM l) je m f
 have hh:=jd (ev:=fun l:List Lt=>aM l) je b f
 refine cO Tryz.func239 rfl (by kernel_rfl) ?_
 refine⟨j8,eI f,rfl,rfl,?_⟩
 unfold sI
 cases h:aX m f with
 |some l=>
  rw[h]at hg
  refine⟨aM l,true,fun _=>hg,fun h=>(by cases h),rfl,?_⟩
  refine T5 (fun _=>?_) fun h=>(by cases h)
  exact ext (by kernel_rfl) rfl rfl
 |none=>
  rw[h]at hg
  refine⟨.ax,false,fun _=>hg,fun _=>rfl,rfl,?_⟩
  refine T5 (fun h=>(by cases h)) fun _=>?_
  refine⟨j8,eI f,rfl,rfl,?_⟩
  cases h:aX b f with
  |some l=>
   rw[h]at hh
   refine⟨aM l,true,fun _=>hh,fun h=>(by cases h),rfl,?_⟩
   exact ext (by kernel_rfl) rfl rfl
  |none=>
   rw[h]at hh
   refine⟨.ax,false,fun _=>hh,fun _=>rfl,rfl,?_⟩
   exact ext (by kernel_rfl) rfl rfl
end
section
open Go.TM
theorem LP{it:Int}(h:0<=it/\it<5):∃s o c w b z,(y7 (I 2) (I 20))[it.toNat]?=some (.agg [.str s,B o,B (ur it),B c,I w,I b,I z]):=by
 have:it=0\/it=1\/it=2\/it=3\/it=4:=by omega
 rcases this with rfl|rfl|rfl|rfl|rfl<;>exact⟨_,_,_,_,_,_,rfl⟩
variable [bp]
theorem Rc(hS:ou)(P:PL)(c:Ch)(m:dc)(hp:m.ps=[])(hi:0<=m.it/\m.it<5)(hm:0<=m.n/\m.n<=1099511627776)(hv:bB (eH P c (m.fr,m.it))=true)(hc:decide (br (eH P c (m.fr,m.it))<m.n)=true):aj Tryz.prog 209 [.ptr 0 0,cH (ao m)] 14 (dM 0 0 P c) 0 [.dv (aM []),.dv (I 10)] (dM 0 0 P c):=by
 have ht:=fun x=>(zI hS (eH P c (m.fr,m.it)) m.n x hm hv).ok
 unfold Gc at ht
 rw[hc]at ht
 obtain⟨z1,z2,z3,z4,z5,z6,hx⟩:=LP hi
 have lp:(m.ps.map aA).length=0:=by rw[hp];rfl
 refine cO Tryz.func209 rfl (by kernel_rfl) ?_
 repeat refine gG ?_
 refine .inr (cl [0,1,2,3,4,5,6,7,8,9,10,11,12,13] (iK P c m.fr _) (by kernel_rfl) rfl rfl ?_)
 repeat refine gG ?_
 refine T5 (fun _=>?_) fun h=>(by rw[lp]at h;cases h)
 refine⟨_,fun _=>⟨hi.1,hx⟩,?_⟩
 refine .inl ⟨_,fun _=>ht _,?_⟩
 refine T5 (by kernel_rfl) ?_
 refine T5 (fun _=>?_) fun h=>(by cases h)
 exact⟨_,_,⟨rfl,rfl⟩,by kernel_rfl,⟨DV.aI 3,rf,tv⟩,aV (k:=dM 0 0 P c) rfl⟩
theorem Re(hS:ou)(P:PL)(c:Ch)(m:dc)(hp:m.ps=[])(hi:0<=m.it/\m.it<5)(hm:0<=m.n/\m.n<=1099511627776)(hv:bB (eH P c (m.fr,m.it))=true)(hc:decide (br (eH P c (m.fr,m.it))<m.n)=false):aj Tryz.prog 209 [.ptr 0 0,cH (ao m)] 14 (dM 0 0 P c) 0 [.dv (aM (eP (eH P c (m.fr,m.it)) m.n (ur m.it)).1),.dv (I 0)] (dM 0 0 P { c with st:=aH c.st (m.fr,m.it) (eP (eH P c (m.fr,m.it)) m.n (ur m.it)).2 }):=by
 have ht:=fun x=>(zI hS (eH P c (m.fr,m.it)) m.n x hm hv).ok
 unfold Gc at ht
 rw[hc]at ht
 obtain⟨z1,z2,z3,z4,z5,z6,hx⟩:=LP hi
 have lp:(m.ps.map aA).length=0:=by rw[hp];rfl
 refine cO Tryz.func209 rfl (by kernel_rfl) ?_
 repeat refine gG ?_
 refine .inr (cl [0,1,2,3,4,5,6,7,8,9,10,11,12,13] (iK P c m.fr _) (by kernel_rfl) rfl rfl ?_)
 repeat refine gG ?_
 refine T5 (fun _=>?_) fun h=>(by rw[lp]at h;cases h)
 refine⟨_,fun _=>⟨hi.1,hx⟩,?_⟩
 refine .inl ⟨_,fun _=>ht _,?_⟩
 refine T5 (by kernel_rfl) ?_
 refine T5 (fun h=>(by cases h)) fun _=>?_
 refine⟨mD,qV (m.fr,m.it),rfl,rfl,?_⟩
 refine⟨aM (eP (eH P c (m.fr,m.it)) m.n (ur m.it)).2,⟨rf,tv⟩,rfl,false,fun _=>⟨oz c.st _,fQ _⟩,?_⟩
 rw[show c7 (oq c.st) (qV (m.fr,m.it)) (aM (eP (eH P c (m.fr,m.it)) m.n (ur m.it)).2)=oq (aH c.st (m.fr,m.it) (eP (eH P c (m.fr,m.it)) m.n (ur m.it)).2)from c5 iC c.st _ _]
 exact⟨by kernel_rfl,ext (by kernel_rfl) rfl rfl⟩
end
section
open Go.Proofs Go.Sort Go.RowKit
theorem GP(w:World):Calls Tryz.prog 241 #[.slice none 0 0] w fun e w'=>e=.returned (.slice none 0 0)/\w'=w:=by
 go_enter Tryz.func241,Tryz.ntmps241
 go_wp2
 go_ret
 exact⟨by simp,rfl⟩
theorem zL(a:Addr)(l c:Nat)(h:l<=c)(w:World):Calls Tryz.prog 241 #[.slice (some a) l c] w fun e w'=>e=.returned (.slice (some a) l l)/\w'=w:=by
 go_enter Tryz.func241,Tryz.ntmps241
 go_wp2
 go_ret
 exact⟨by simp,rfl⟩
open Go.TM
variable [bp]
theorem GQ:fF Tryz.prog 241:=⟨_,Tryz.func241,by kernel_rfl,by kernel_rfl⟩
theorem UF{a:DV}(h:∀(M:Mem) v,bz M a v->v=.slice none 0 0\/∃p l c,l<=c/\v=.slice (some p) l c/\bz M a (.slice (some p) l l)):aN Tryz.prog 241 [a] [a]:=by
 refine⟨GQ,fun w M vs dw hg hr=>?_⟩
 match vs,hr with
 |[v],hr=>
  have hv:bz M a v:=hr.2 0 a v rfl rfl
  rcases h M v hv with rfl|⟨p,l,c,h1,rfl,h3⟩
  ·refine(GP w).mono ?_
   rintro e w' ⟨rfl,rfl⟩
   exact⟨_,M,rfl,Below.refl _ _,Mem.Le.refl _,dw,fun _ _=>rfl,hv⟩
  ·refine(zL p l c h1 w).mono ?_
   rintro e w' ⟨rfl,rfl⟩
   exact⟨_,M,rfl,Below.refl _ _,Mem.Le.refl _,dw,fun _ _=>rfl,h3⟩
theorem zM:aN Tryz.prog 241 [.ax] [.ax]:=UF fun M v hv=>by
 generalize hx:DV.ax=x at hv
 cases hv with
 |ax=>exact .inl rfl
 |_=>cases hx
end
section
open Go.TM
def Nz(P:PL)(c:Ch)(x:Lt):Int:=bif (bif x.f.tdiv 4294967296==P.sh then true else decide (12<=x.f.tdiv 4294967296))then 1 else match sI c.imp P.imp x.f with
 |some _=>8
 |none=>0
def Rf(P:PL)(c:Ch)(x:Lt):Ch:=if Nz P c x=0 then { c with imp:=aH c.imp x.f (ct [x]) }else c
theorem D1(x:Lt):(kG [x] []).1=[]:=by
 simp only[kG,jm,List.dropWhile_nil,Aq,List.flatMap_cons,List.flatMap_nil,List.append_nil]
 split<;>rfl
variable [bp]
theorem JL(P:PL)(c:Ch)(m:dc)(x:Lt)(hp:m.ps=[x])(hx:az x=true)(hf:x.f<=9223372036854775807)(hq:∀l,sI c.imp P.imp x.f=some l->NS l/\(∀y∈l,az y=true)/\l.length<=5000/\(kG [x] l).1≠[]):aj Tryz.prog 210 [.ptr 0 0,cH (ao m)] 14 (dM 0 0 P c) 0 [.dv (I (Nz P c x))] (dM 0 0 P (Rf P c x)):=by
 have lp:(m.ps.map aA).length=1:=by rw[hp];rfl
 have ix:(m.ps.map aA)[(0:Int).toNat]?=some (aA x):=by rw[hp];rfl
 refine cO Tryz.func210 rfl (by kernel_rfl) ?_
 repeat refine gG ?_
 refine⟨Nat,fun i=>⟨15,[(0,.ptr 0 0),(12,.dv (.sl 3 (m.ps.map aA))),(13,.dv (I (m.ps.map aA).length)),(14,.dv (I i))],dM 0 0 P (match i with|0=>c|_=>Rf P c x)⟩,fun i=>i<=1/\(i=1->Nz P c x=0),fun i=>1-i,0,fun _=>rfl,jn rfl rfl rfl rfl,by omega,?_⟩
 rintro i ⟨hi,hz⟩
 refine T5 ?_ ?_
 ·intro h
  have h0:i=0:=by have:=adz h;omega
  subst h0
  have hb:=ai.1 hx
  have jI:=Int.tdiv_nonneg hb.1 (show(0:Int)<=4294967296 by decide)
  have cx:x.f.tdiv 4294967296<=x.f:=Int.tdiv_le_self _ hb.1
  refine⟨aA x,fun _=>⟨by omega,ix⟩,?_⟩
  refine⟨fun _ h=>(by cases h),fun _=>by omega,?_⟩
  repeat refine gG ?_
  refine T5 ?_ ?_
  ·intro h
   have he:Nz P c x=1:=by unfold Nz;rw[h];rfl
   have hc:Rf P c x=c:=by unfold Rf;rw[he];rfl
   rw[he,hc]
   exact ext (by kernel_rfl) rfl rfl
  intro h
  refine .inr (cl [3,12] (zK c.imp P.imp x.f) (by kernel_rfl) rfl rfl ?_)
  cases hu:sI c.imp P.imp x.f with
  |some l=>
   obtain⟨q1,q2,q3,q4⟩:=hq l hu
   have he:Nz P c x=8:=by unfold Nz;rw[h,hu];rfl
   have hc:Rf P c x=c:=by unfold Rf;rw[he];rfl
   rw[he,hc]
   refine T5 (by kernel_rfl) ?_
   refine .inl ⟨[aA x],rfl,⟨rf,rf,rf,tv⟩,(by simp;rfl),?_⟩
   refine .inl ⟨_,fun _=>(j9 [x] l (by simpa using hx) q1 q2 (by simp) q3 (by simp;omega)).ok,?_⟩
   repeat refine gG ?_
   refine T5 (fun _=>ext (by kernel_rfl) rfl rfl) fun h=>?_
   have h:¬(0:Int)<((kG [x] l).1.map aA).length:=adA h
   rw[WY]at h
   have:=List.length_pos_iff.2 q4
   omega
  |none=>
   have he:Nz P c x=0:=by unfold Nz;rw[h,hu];rfl
   have hc:Rf P c x={ c with imp:=aH c.imp x.f (ct [x]) }:=by unfold Rf;rw[he];rfl
   rw[he,hc]
   refine T5 (by kernel_rfl) ?_
   refine .inl ⟨[aA x],rfl,⟨rf,rf,rf,tv⟩,(by simp;rfl),?_⟩
   have hd:=j9 [x] [] (by simpa using hx) NS.nil (by simp) (by simp) (by simp) (by simp)
   rw[D1]at hd
   refine .inl ⟨_,fun _=>⟨[aM [x],aM []],⟨rf,DV.aI 3,tv⟩,hd⟩,?_⟩
   repeat refine gG ?_
   refine T5 (fun h=>(by cases h)) fun _=>?_
   refine .inl ⟨_,fun _=>zM.ok,?_⟩
   refine .inl ⟨[aA x],rfl,⟨rf,rf,rf,tv⟩,(by simp;rfl),?_⟩
   refine .inr ⟨[aA x],b7.refl _,Nat.le_of_ble_eq_true rfl,Nat.le_of_ble_eq_true rfl,?_⟩
   refine .inl (.inr ⟨_,fun _=>⟨[aM [x]],⟨rf,tv⟩,lV [x] (by simpa using hx) (by simp)⟩,?_⟩)
   refine⟨j8,eI x.f,rfl,rfl,aM (ct [x]),⟨rf,tv⟩,rfl,false,fun _=>⟨D0 c.imp _,fQ _⟩,?_⟩
   rw[show c7 (mU c.imp) (eI x.f) (aM (ct [x]))=mU (aH c.imp x.f (ct [x]))from c5 je c.imp _ _]
   refine T5 (by kernel_rfl) ?_
   exact⟨fun _=>by omega,1,jn rfl rfl rfl rfl,⟨by omega,fun _=>rfl⟩,mlt (by omega)⟩
 ·intro h
  have h1:i=1:=by have:=adA h;omega
  subst h1
  rw[hz rfl]
  exact ext (by kernel_rfl) rfl rfl
end
section
open Go.TM
variable [bp]
end
section
open Go.TM
variable [bp]
theorem sy(P:PL)(c c':Ch)(m:dc)(l:List Lt)(e:Int)(hf:m.fr≠0)(hw:aj Tryz.prog 209 [.ptr 0 0,cH (ao m)] 14 (dM 0 0 P c) 0 [.dv (aM l),.dv (I e)] (dM 0 0 P c')):aj Tryz.prog 142 [.ptr 0 0,cH (ao m)] 14 (dM 0 0 P c) 0 [.dv (aM l),.dv (I e)] (dM 0 0 P c'):=by
 refine cO Tryz.func142 rfl (by kernel_rfl) ?_
 repeat refine gG ?_
 refine T5 (fun _=>?_) fun h=>absurd (by simpa using h) hf
 refine .inr (cl [0,1,2,3,4,5,6,7,8,9,10,11,12,13] hw (by kernel_rfl) rfl rfl ?_)
 exact ext (by kernel_rfl) rfl rfl
theorem JM(P:PL)(c:Ch)(m:dc)(hf:m.fr=0)(h5:c.sp.kind≠5)(h9:c.sp.kind≠9):aj Tryz.prog 142 [.ptr 0 0,cH (ao m)] 14 (dM 0 0 P c) 0 [.dv (aM []),.dv (I 0)] (dM 0 0 P c):=by
 refine cO Tryz.func142 rfl (by kernel_rfl) ?_
 repeat refine gG ?_
 refine T5 (fun h=>absurd hf (by simpa using h)) fun _=>?_
 refine T5 (fun h=>absurd (beq_iff_eq.1 h) h5) fun _=>?_
 refine T5 (fun h=>absurd (beq_iff_eq.1 h) h9) fun _=>?_
 exact⟨_,_,⟨rfl,rfl⟩,by kernel_rfl,⟨DV.aI 3,rf,tv⟩,aV (k:=dM 0 0 P c) rfl⟩
theorem JN(P:PL)(c:Ch)(m:dc)(x:Lt)(hf:m.fr=0)(h5:c.sp.kind=5)(hp:m.ps=[x])(hx:az x=true)(hm:x.f<=9223372036854775807)(hq:∀l,sI c.imp P.imp x.f=some l->NS l/\(∀y∈l,az y=true)/\l.length<=5000/\(kG [x] l).1≠[]):aj Tryz.prog 142 [.ptr 0 0,cH (ao m)] 14 (dM 0 0 P c) 0 [.dv (aM [x]),.dv (I (Nz P c x))] (dM 0 0 P (Rf P c x)):=by
 refine cO Tryz.func142 rfl (by kernel_rfl) ?_
 repeat refine gG ?_
 refine T5 (fun h=>absurd hf (by simpa using h)) fun _=>?_
 refine T5 (fun _=>?_) fun h=>absurd h5 (beq_eq_false_iff_ne.1 h)
 refine .inr (cl [] (eD m.ps (by rw[hp];simp)) (by kernel_rfl) rfl rfl ?_)
 refine .inr (cl [0,1,2,3,4,5,6,7,8,9,10,11,12,13] (JL P c m x hp hx hm hq) (by kernel_rfl) rfl rfl ?_)
 refine T5 (by kernel_rfl) ?_
 rw[hp]
 exact⟨_,_,⟨rfl,rfl⟩,by kernel_rfl,⟨mC _,rf,tv⟩,aV (k:=dM 0 0 P (Rf P c x)) rfl⟩
end
section
open Go.TM
def dU(P:PL)(c:Ch)(m:dc):Int:=(aX c.b9 m.it).getD (GG P.b9 m.it)
def dN(P:PL)(c:Ch)(m:dc)(l:List Lt)(md:List Int):eS:=⟨P.sh*4294967296+P.fl.length+c.fl.length,c.sp.id,c.sp.kind,c.sp.tick,c.sp.jt,m.fr,m.to,m.it,m.n,l,md⟩
def AU(P:PL)(c:Ch)(m:dc)(t:Int)(l:List Lt)(md:List Int):Ch:={ c with b9:=aH c.b9 m.it t,fl:=c.fl++[dN P c m l md] }
def chL(v u:Nat)(P:PL)(c:Ch)(F S:List DV):ae:=[(0,.cells (chC v u c)),(1,.tree 0 0 (.omap eb (oq c.st))),(2,.tree 0 0 (.omap cr (nG c.b9))),(3,.tree 0 0 (.omap cr (mU c.imp))),(4,.tree 0 0 (.omap cr (mU c.ret))),(5,.tree v 0 (.aD 11 F)),(6,.tree u 0 (.aD 1 S))]++abl P
theorem UG(v u:Nat)(P:PL)(c:Ch)(f:List eS)(x:eS)(g:List Int)(y:Int):dM v u P { c with fl:=f++[x],sk:=g++[y] }=chL v u P { c with fl:=f++[x],sk:=g++[y] } (f.map aG++[aG x]) (g.map I++[I y]):=by
 unfold dM chL;simp only[adB,List.map_cons,List.map_nil]
theorem qW(v u:Nat)(P:PL)(c:Ch)(f:List eS)(x:eS):dM v u P { c with fl:=f++[x] }=chL v u P { c with fl:=f++[x] } (f.map aG++[aG x]) (c.sk.map I):=by
 unfold dM chL;simp only[adB,List.map_cons,List.map_nil]
theorem rE(m:IM Int)(k:Int):ca (nG m) (eI k)=bif (aX m k).isSome then some (I ((aX m k).getD 0))else none:=by
 rw[show ca (nG m) (eI k)=_ from jd (ev:=eI) je m k]
 cases aX m k<;>rfl
theorem rF(m:IM Int)(k:Int)(h:(aX m k).isSome=false):I ((aX m k).getD 0)=I 0:=by
 cases hq:aX m k with
 |none=>rfl
 |some b=>rw[hq]at h;cases h
theorem GR{P:PL}{c:Ch}{m:dc}(h:(aX c.b9 m.it).isSome=true):(aX c.b9 m.it).getD 0=dU P c m:=by
 unfold dU
 cases hq:aX c.b9 m.it with
 |none=>rw[hq]at h;cases h
 |some b=>rfl
theorem GS{P:PL}{c:Ch}{m:dc}(h:(aX c.b9 m.it).isSome=false):GG P.b9 m.it=dU P c m:=by
 unfold dU
 cases hq:aX c.b9 m.it with
 |none=>rfl
 |some b=>rw[hq]at h;cases h
variable [bp]
theorem zO(P:PL)(c c':Ch)(m:dc)(l:List Lt)(e:Int)(he:e≠0)(ht:aj Tryz.prog 142 [.ptr 0 0,cH (ao m)] 14 (dM 0 0 P c) 0 [.dv (aM l),.dv (I e)] (dM 0 0 P c')):
 aj Tryz.prog 87 [.ptr 0 0,cH (ao m)] 14 (dM 1 1 P c) 0 [.dv (I e)] (dM 1 1 P c'):=by
 refine cO Tryz.func87 rfl (by kernel_rfl) ?_
 repeat refine gG ?_
 refine .inr (cl [0,1,2,3,4,5,6,7,8,9,10,11,12,13] ht (by kernel_rfl) rfl rfl ?_)
 repeat refine gG ?_
 refine T5 (fun _=>ext (by kernel_rfl) rfl rfl) fun h=>absurd (by simpa using h) he
end
section
open Go.TM
def spI(P:PL)(s:cJ):cJ:={ s with id:=P.sh*4294967296+P.sp.length }
def ch0(P:PL)(s:cJ):Ch:=⟨spI P s,[],[],[],[],[],[]⟩
def Rg(P:PL)(c:Ch):ae:=gY P++[(8,.tree 0 0 (.omap eb (oq c.st))),(9,.tree 0 0 (.omap cr (nG c.b9))),(10,.tree 0 0 (.omap cr (mU c.imp))),(11,.tree 0 0 (.omap cr (mU c.ret))),(12,.cells (.ptr 0 0::(ed (aC c.sp).cells++[.own 8 0 0 [],.own 9 0 0 [],.own 10 0 0 [],.own 11 0 0 [],.own 13 0 0 [],.own 14 0 0 []]))),(13,.tree 0 0 (.aD 11 (c.fl.map aG))),(14,.tree 0 0 (.aD 1 (c.sk.map I)))]
def JO(P:PL)(s:cJ)(cN:Nat->Ch):Nat->Ch
 |0=>ch0 P s
 |i+1=>cN i
variable [bp]
theorem NA(P:PL)(s:cJ)(hr:tw s.aP)(hs:0<=P.sh/\P.sh<=12)(hl:s.mv.length<=1000)(kF:∀m∈s.mv,m.ps.length<=4000)(hp:sx (eC P.sp) s=true)(au:(P.sp.length:Int)<65536)
 (cN:Nat->Ch) (k:Nat) (hk:k<s.mv.length) (e:Int) (he:e≠0) (c':Ch)
 (hH:∀i m,i<k->s.mv[i]?=some m->aj Tryz.prog 87 [.ptr 0 0,cH (ao m)] 14 (dM 0 0 P (JO P s cN i)) 0 [.dv (I 0)] (dM 1 1 P (JO P s cN (i+1))))
 (hE:∀m,s.mv[k]?=some m->aj Tryz.prog 87 [.ptr 0 0,cH (ao m)] 14 (dM 0 0 P (JO P s cN k)) 0 [.dv (I e)] (dM 1 1 P c')):
 aj Tryz.prog 46 [.ptr 0 0,cH (aC s)] 7 (gY P) 0 [.dv .eY,.dv (I e)] (gY P):=by
 have lp:(P.sp.map aC).length=P.sp.length:=WY ..
 have lm:(s.mv.map ao).length=s.mv.length:=WY ..
 have V5:=mV P s hr (by omega) hl kF
 rw[hp]at V5
 refine cO Tryz.func46 rfl (by kernel_rfl) ?_
 repeat refine gG ?_
 refine T5 (fun h2=>absurd (adz h2) (by omega)) fun _=>?_
 refine .inr (cl [0,1,2,3,4,5,6] V5 (by kernel_rfl) rfl rfl ?_)
 refine T5 (fun h=>(by cases h)) fun _=>?_
 refine .inl ⟨_,fun _=>(vw s (by omega) fun m hm=>by have:=kF m hm;omega).ok,?_⟩
 refine⟨eb,cr,cr,cr,fun _=>by omega,fun _=>by omega,?_⟩
 refine T5 (by kernel_rfl) ?_
 refine⟨Nat,fun i=>⟨15,[(0,.ptr 0 0),(6,.ptr 12 0),(48,.dv (.sl 5 (s.mv.map ao))),(49,.dv (I (s.mv.map ao).length)),(50,.dv (I i))],Rg P (JO P s cN i)⟩,fun i=>i<=k,fun i=>s.mv.length-i,0,fun _=>rfl,?_,adx _,?_⟩
 ·refine⟨⟨rfl,rfl,rf,rf,rf,tv⟩,?_,?_,?_⟩
  ·repeat' first|exact trivial|rfl|exact rf|refine T5 ?_ ?_
   all_goals first|exact⟨11,rfl⟩|exact⟨1,rfl⟩|exact aJ (by rw[lp];rfl)
  ·rfl
  ·rfl
 intro i hi
 refine T5 ?_ ?_
 ·intro h
  have au:i<s.mv.length:=by have:=adz h;omega
  obtain⟨m,hm⟩:∃m,s.mv[i]?=some m:=⟨_,IF au⟩
  have im:(s.mv.map ao)[(i:Int).toNat]?=some (ao m):=by rw[abW];exact congrArg (Option.map ao) hm
  refine⟨ao m,fun _=>⟨by omega,im⟩,?_⟩
  by_cases I0:i=k
  ·subst I0
   refine .inr (cl [12,8,9,10,11,13,14,0,1,2,3,4,5,6] (hE m hm) (by kernel_rfl) rfl rfl ?_)
   refine T5 (fun _=>ext (by kernel_rfl) rfl rfl) fun h=>absurd (by simpa using h) he
  ·have uo:i<k:=by have:i<=k:=hi;omega
   refine .inr (cl [12,8,9,10,11,13,14,0,1,2,3,4,5,6] (hH i m uo hm) (by kernel_rfl) rfl rfl ?_)
   refine T5 (fun h=>(by cases h)) fun _=>?_
   exact⟨fun _=>by omega,i+1,jn rfl rfl rfl rfl,uo,mlt au⟩
 ·intro h
  have:=adA h
  have:i<=k:=hi
  omega
theorem NB(P:PL)(s:cJ)(hr:tw s.aP)(hs:0<=P.sh/\P.sh<=12)(hl:s.mv.length<=1000)(kF:∀m∈s.mv,m.ps.length<=4000)(hp:sx (eC P.sp) s=true)(au:(P.sp.length:Int)<65536)
 (cN:Nat->Ch)
 (hH:∀i m,s.mv[i]?=some m->aj Tryz.prog 87 [.ptr 0 0,cH (ao m)] 14 (dM 0 0 P (JO P s cN i)) 0 [.dv (I 0)] (dM 1 1 P (JO P s cN (i+1)))):
 aj Tryz.prog 46 [.ptr 0 0,cH (aC s)] 7 (gY P) 8 [.ptr 12 0,.dv (I 0)] (Rg P (JO P s cN s.mv.length)):=by
 have lp:(P.sp.map aC).length=P.sp.length:=WY ..
 have lm:(s.mv.map ao).length=s.mv.length:=WY ..
 have V5:=mV P s hr (by omega) hl kF
 rw[hp]at V5
 refine cO Tryz.func46 rfl (by kernel_rfl) ?_
 repeat refine gG ?_
 refine T5 (fun h2=>absurd (adz h2) (by omega)) fun _=>?_
 refine .inr (cl [0,1,2,3,4,5,6] V5 (by kernel_rfl) rfl rfl ?_)
 refine T5 (fun h=>(by cases h)) fun _=>?_
 refine .inl ⟨_,fun _=>(vw s (by omega) fun m hm=>by have:=kF m hm;omega).ok,?_⟩
 refine⟨eb,cr,cr,cr,fun _=>by omega,fun _=>by omega,?_⟩
 refine T5 (by kernel_rfl) ?_
 refine⟨Nat,fun i=>⟨15,[(0,.ptr 0 0),(6,.ptr 12 0),(48,.dv (.sl 5 (s.mv.map ao))),(49,.dv (I (s.mv.map ao).length)),(50,.dv (I i))],Rg P (JO P s cN i)⟩,fun i=>i<=s.mv.length,fun i=>s.mv.length-i,0,fun _=>rfl,?_,adx _,?_⟩
 ·refine⟨⟨rfl,rfl,rf,rf,rf,tv⟩,?_,?_,?_⟩
  ·repeat' first|exact trivial|rfl|exact rf|refine T5 ?_ ?_
   all_goals first|exact⟨11,rfl⟩|exact⟨1,rfl⟩|exact aJ (by rw[lp];rfl)
  ·rfl
  ·rfl
 intro i hi
 refine T5 ?_ ?_
 ·intro h
  have au:i<s.mv.length:=by have:=adz h;omega
  obtain⟨m,hm⟩:∃m,s.mv[i]?=some m:=⟨_,IF au⟩
  have im:(s.mv.map ao)[(i:Int).toNat]?=some (ao m):=by rw[abW];exact congrArg (Option.map ao) hm
  refine⟨ao m,fun _=>⟨by omega,im⟩,?_⟩
  refine .inr (cl [12,8,9,10,11,13,14,0,1,2,3,4,5,6] (hH i m hm) (by kernel_rfl) rfl rfl ?_)
  refine T5 (fun h=>(by cases h)) fun _=>?_
  exact⟨fun _=>by omega,i+1,jn rfl rfl rfl rfl,au,mlt au⟩
 ·intro h
  have hi:i<=s.mv.length:=hi
  have he:i=s.mv.length:=by have:=adA h;omega
  subst he
  exact ext (by kernel_rfl) rfl rfl
end
section
open Go.TM
variable [bp]
theorem zP(P:PL)(s:cJ)(e:Int)(he:e≠0)(h:aj Tryz.prog 46 [.ptr 0 0,cH (aC s)] 7 (gY P) 0 [.dv .eY,.dv (I e)] (gY P)):aj Tryz.prog 15 [.ptr 0 0,cH (aC s)] 7 (gY P) 0 [.dv (I 0),.dv (I e)] (gY P):=by
 refine cO Tryz.func15 rfl (by kernel_rfl) ?_
 repeat refine gG ?_
 refine .inr (cl [0,1,2,3,4,5,6] h (by kernel_rfl) rfl rfl ?_)
 exact T5 (fun _=>ext (by kernel_rfl) rfl rfl) fun h=>absurd (by simpa using h) he
end
section
open Go.TM
def cpK(a b:IM Int):ae:=[(0,.tree 0 0 (.omap cr (nG a))),(1,.tree 0 0 (.omap cr (nG b)))]
variable [bp]
structure LpC where
 left:IM Int
 done:IM Int
def UH(a b:IM Int):IM Int:=b.foldl (fun m p=>aH m p.1 p.2) a
theorem qk{α:Type}:∀{l:List α} {i:Nat} {x:α},l[i]?=some x->l.Perm (x::l.eraseIdx i)
 |[],i,x,h=>by simp at h
 |y::l,0,x,h=>by simp at h;subst h;simp
 |y::l,i+1,x,h=>by
  have:=qk (l:=l) (i:=i) (x:=x) (by simpa using h)
  rw[List.eraseIdx_cons_succ]
  exact(this.cons y).trans (List.Perm.swap x y _)
theorem k8{α β:Type}(f:α->β):∀(l:List α) (i:Nat),(l.eraseIdx i).map f=(l.map f).eraseIdx i
 |[],_=>rfl
 |_::_,0=>rfl
 |_::l,i+1=>by simp only[List.eraseIdx_cons_succ,List.map_cons,k8 f l i]
theorem D2(a b:IM Int):bW Tryz.prog 47 [.own 0 0 0 [],.own 1 0 0 []] 2 (cpK a b) 0 (fun rs k=>∃done:IM Int,done.Perm b/\rs=[]/\k=cpK (UH a done) b):=by
 refine ni gi mixed (fg _) (fM _) Tryz.func47 rfl rfl (by kernel_rfl) ?_
 refine⟨LpC,fun z=>⟨3,[(0,.own 0 0 0 []),(7,.ptr 2 0)],[(0,.tree 0 0 (.omap cr (nG (UH a z.done)))),(1,.held),(2,.lj 1 [] (.omap cr (nG b)) (nG z.left) none)]⟩,fun z=>(z.done++z.left).Perm b,fun z=>z.left.length,⟨b,[]⟩,fun z=>rfl,?_,List.Perm.refl _,?_⟩
 ·exact⟨⟨rfl,rfl,tv⟩,⟨⟨rfl,rfl⟩,tv,⟨rfl,rfl,rfl,rfl,.inl rfl,tv⟩,tv⟩,rfl,rfl⟩
 ·rintro⟨left,done⟩ g1
  simp only at g1
  refine⟨tv,fun h5=>⟨(fun h6=>by cases h6),fun _=>?_⟩,fun pos cc jS=>⟨fun _=>?_,fun h6=>by cases h6⟩⟩
  ·have hz:left=[]:=List.map_eq_nil_iff.1 h5
   subst hz
   rw[List.append_nil]at g1
   exact⟨_,_,⟨done,g1,rfl,rfl⟩,by kernel_rfl,tv,⟨rfl,rfl⟩,⟨rfl,rfl⟩,tv⟩
  ·have jS:(left.map fun p=>DV.fR (eI p.1) (eI p.2))[pos]?=some cc:=jS
   rw[abW]at jS
   obtain⟨⟨k,x⟩,hk,rfl⟩:∃p,left[pos]?=some p/\cc=DV.fR (eI p.1) (eI p.2):=by
    cases hq:left[pos]? with
    |none=>rw[hq]at jS;cases jS
    |some p=>rw[hq]at jS;exact⟨p,rfl,by simpa using jS.symm⟩
   have Bm:((done++[(k,x)])++left.eraseIdx pos).Perm b:=by
    rw[adJ];exact((qk hk).append_left done).symm.trans g1
   have hc:UH a (done++[(k,x)])=aH (UH a done) k x:=by unfold UH;rw[adI];rfl
   refine⟨vA x,j8,eI k,rfl,rfl,I x,⟨rf,tv⟩,rfl,false,fun _=>⟨oF (UH a done) _,vA _⟩,?_⟩
   rw[show c7 (nG (UH a done)) (eI k) (I x)=nG (UH a (done++[(k,x)]))by rw[hc];exact c5 je (UH a done) k x]
   rw[show(nG left).eraseIdx pos=nG (left.eraseIdx pos)from(k8 _ left pos).symm]
   refine⟨⟨left.eraseIdx pos,done++[(k,x)]⟩,?_,Bm,?_⟩
   ·exact⟨⟨rfl,rfl,tv⟩,⟨⟨rfl,rfl⟩,tv,⟨rfl,rfl,rfl,rfl,.inl rfl,tv⟩,tv⟩,rfl,rfl⟩
   ·have:=(W8.1 hk).1
    show(left.eraseIdx pos).length<left.length
    rw[List.length_eraseIdx_of_lt this];omega
structure LpM where
 left:IM (List Lt)
 done:IM (List Lt)
def D3(a b:IM (List Lt)):IM (List Lt):=b.foldl (fun m p=>aH m p.1 p.2) a
def UI(a b:IM (List Lt)):ae:=[(0,.tree 0 0 (.omap cr (mU a))),(1,.tree 0 0 (.omap cr (mU b)))]
theorem D4(a b:IM (List Lt)):bW Tryz.prog 48 [.own 0 0 0 [],.own 1 0 0 []] 2 (UI a b) 0 (fun rs k=>∃done:IM (List Lt),done.Perm b/\rs=[]/\k=UI (D3 a done) b):=by
 refine ni gi mixed (fg _) (fM _) Tryz.func48 rfl rfl (by kernel_rfl) ?_
 refine⟨LpM,fun z=>⟨3,[(0,.own 0 0 0 []),(7,.ptr 2 0)],[(0,.tree 0 0 (.omap cr (mU (D3 a z.done)))),(1,.held),(2,.lj 1 [] (.omap cr (mU b)) (mU z.left) none)]⟩,fun z=>(z.done++z.left).Perm b,fun z=>z.left.length,⟨b,[]⟩,fun z=>rfl,?_,List.Perm.refl _,?_⟩
 ·exact⟨⟨rfl,rfl,tv⟩,⟨⟨rfl,rfl⟩,tv,⟨rfl,rfl,rfl,rfl,.inl rfl,tv⟩,tv⟩,rfl,rfl⟩
 ·rintro⟨left,done⟩ g1
  simp only at g1
  refine⟨tv,fun h5=>⟨(fun h6=>by cases h6),fun _=>?_⟩,fun pos cc jS=>⟨fun _=>?_,fun h6=>by cases h6⟩⟩
  ·have hz:left=[]:=List.map_eq_nil_iff.1 h5
   subst hz
   rw[List.append_nil]at g1
   exact⟨_,_,⟨done,g1,rfl,rfl⟩,by kernel_rfl,tv,⟨rfl,rfl⟩,⟨rfl,rfl⟩,tv⟩
  ·have jS:(left.map fun p=>DV.fR (eI p.1) (aM p.2))[pos]?=some cc:=jS
   rw[abW]at jS
   obtain⟨⟨k,x⟩,hk,rfl⟩:∃p,left[pos]?=some p/\cc=DV.fR (eI p.1) (aM p.2):=by
    cases hq:left[pos]? with
    |none=>rw[hq]at jS;cases jS
    |some p=>rw[hq]at jS;exact⟨p,rfl,by simpa using jS.symm⟩
   have Bm:((done++[(k,x)])++left.eraseIdx pos).Perm b:=by
    rw[adJ];exact((qk hk).append_left done).symm.trans g1
   have hc:D3 a (done++[(k,x)])=aH (D3 a done) k x:=by unfold D3;rw[adI];rfl
   refine⟨fQ x,j8,eI k,rfl,rfl,aM x,⟨rf,tv⟩,rfl,false,fun _=>⟨D0 (D3 a done) _,fQ _⟩,?_⟩
   rw[show c7 (mU (D3 a done)) (eI k) (aM x)=mU (D3 a (done++[(k,x)]))by rw[hc];exact c5 je (D3 a done) k x]
   rw[show(mU left).eraseIdx pos=mU (left.eraseIdx pos)from(k8 _ left pos).symm]
   refine⟨⟨left.eraseIdx pos,done++[(k,x)]⟩,?_,Bm,?_⟩
   ·exact⟨⟨rfl,rfl,tv⟩,⟨⟨rfl,rfl⟩,tv,⟨rfl,rfl,rfl,rfl,.inl rfl,tv⟩,tv⟩,rfl,rfl⟩
   ·have:=(W8.1 hk).1
    show(left.eraseIdx pos).length<left.length
    rw[List.length_eraseIdx_of_lt this];omega
end
section
open Go.TM
section
variable {κ β:Type} [DecidableEq κ]
def NC(a b:List (κ×β)):List (κ×β):=b.foldl (fun m p=>aH m p.1 p.2) a
theorem B8{m m':List (κ×β)}(h:Nk m)(h':Nk m')(e:∀k,aX m k=aX m' k):m.Perm m':=by
 have nd:∀{l:List (κ×β)},Nk l->l.Nodup:=fun hl=>(List.pairwise_map.1 hl).imp fun h e=>h (congrArg _ e)
 refine(List.perm_ext_iff_of_nodup (nd h) (nd h')).2 fun⟨k,x⟩=>⟨fun hm=>?_,fun hm=>?_⟩
 ·exact lL (by rw[<-e k];exact qS h hm)
 ·exact lL (by rw[e k];exact qS h' hm)
theorem vB:∀(b a:List (κ×β)),Nk a->Nk (NC a b)
 |[],_,h=>h
 |p::b,a,h=>vB b _ (h.put p.1 p.2)
theorem nH:∀(b a:List (κ×β)),Nk b->∀k,aX (NC a b) k=(aX b k).or (aX a k)
 |[],_,_,_=>rfl
 |(q,x)::b,a,h,k=>by
  have hb:Nk b:=(List.nodup_cons.1 h).2
  have hq:q∉b.map (·.1):=(List.nodup_cons.1 h).1
  show aX (NC (aH a q x) b) k=_
  rw[nH b _ hb k,j4]
  by_cases hk:q=k
  ·subst hk
   rw[ny hq,if_pos rfl]
   simp[aX]
  ·rw[if_neg hk]
   simp[aX,hk]
theorem GU{a b d:List (κ×β)}(ha:Nk a)(hb:Nk b)(h:d.Perm b):(NC a d).Perm (NC a b):=by
 have hd:Nk d:=hb.perm h.symm
 refine B8 (vB d a ha) (vB b a ha) fun k=>?_
 rw[nH d a hd,nH b a hb,BG hd h]
end
theorem mF{P:Program}{f:Nat}{a:List AV}{m ex:Nat}{K:ae}{R R':List AV->ae->Prop}[bp](h:bW P f a m K ex R)(hi:∀r k,R r k->R' r k):bW P f a m K ex R':=
 ⟨h.1,fun w G vs mq cP hr=>Calls.mono (h.2 w G vs mq cP hr) fun e w' ⟨v,r,k,G',h1,h2,h3⟩=>⟨v,r,k,G',h1,hi r k h2,h3⟩⟩
variable [bp]
theorem GV(a b:IM Int)(ha:Nk a)(hb:Nk b):aj Tryz.prog 47 [.own 0 0 0 [],.own 1 0 0 []] 2 (cpK a b) 0 [] (cpK (NC a b) b):=
 sb (mF (D2 a b) fun r k ⟨done,hp,h1,h2⟩=>⟨h1,h2▸.cons (.omap 0 0 cr ((GU ha hb hp).map _)) (.refl _)⟩)
theorem wB(a b:IM (List Lt))(ha:Nk a)(hb:Nk b):aj Tryz.prog 48 [.own 0 0 0 [],.own 1 0 0 []] 2 (UI a b) 0 [] (UI (NC a b) b):=
 sb (mF (D4 a b) fun r k ⟨done,hp,h1,h2⟩=>⟨h1,h2▸.cons (.omap 0 0 cr ((GU ha hb hp).map _)) (.refl _)⟩)
end
section
open Go.TM
def zQ(a b:Nat)(P:PL):ae:=[(0,.cells (.dv (I P.sh)::ed gE++[.own 1 0 0 [],.own 2 0 0 [],.own 3 a 0 [],.own 4 b 0 [],.own 5 0 0 [],.own 6 0 0 []])),(1,.tree 0 0 (.omap eb (oq P.st))),(2,.tree 0 0 (.omap cr (nG P.b9))),(3,.tree a 0 (.aD 7 (P.sp.map aC))),(4,.tree b 0 (.aD 11 (P.fl.map aG))),(5,.tree 0 0 (.omap cr (mU P.imp))),(6,.tree 0 0 (.omap cr (mU P.ret)))]
def B9(m:SM)(d:SM):SM:=d.foldl (fun m p=>if p.2=[]then tr m p.1 else aH m p.1 p.2) m
def V6(P:PL)(c:Ch)(d:SM):PL:={ P with st:=B9 P.st d,b9:=NC P.b9 c.b9,imp:=NC P.imp c.imp,ret:=NC P.ret c.ret,fl:=P.fl++c.fl,sp:=P.sp++[c.sp] }
structure LpS where
 left:SM
 done:SM
def poK(P:PL)(c:Ch)(z:LpS):ae:=zQ 1 1 { P with st:=B9 P.st z.done }++[(9,.held),(10,.tree 0 0 (.omap cr (nG c.b9))),(11,.tree 0 0 (.omap cr (mU c.imp))),(12,.tree 0 0 (.omap cr (mU c.ret))),(13,.cells (.ptr 0 0::(ed (aC c.sp).cells++[.own 9 0 0 [],.own 10 0 0 [],.own 11 0 0 [],.own 12 0 0 [],.own 14 0 0 [],.own 15 0 0 []]))),(14,.tree 0 0 (.aD 11 (c.fl.map aG))),(15,.tree 0 0 (.aD 1 (c.sk.map I))),(16,.lj 9 [] (.omap eb (oq c.st)) (oq z.left) none)]
def LQ(a b:Nat)(P:PL)(S F:List DV):ae:=[(0,.cells (.dv (I P.sh)::ed gE++[.own 1 0 0 [],.own 2 0 0 [],.own 3 a 0 [],.own 4 b 0 [],.own 5 0 0 [],.own 6 0 0 []])),(1,.tree 0 0 (.omap eb (oq P.st))),(2,.tree 0 0 (.omap cr (nG P.b9))),(3,.tree a 0 (.aD 7 S)),(4,.tree b 0 (.aD 11 F)),(5,.tree 0 0 (.omap cr (mU P.imp))),(6,.tree 0 0 (.omap cr (mU P.ret)))]
theorem Rh(P:PL)(c:Ch)(d:SM):LQ 1 1 (V6 P c d) (P.sp.map aC++[aC c.sp]) (P.fl.map aG++c.fl.map aG)=zQ 1 1 (V6 P c d):=by
 unfold LQ zQ V6;simp only[adB,List.map_cons,List.map_nil]
variable [bp]
theorem GW(P:PL)(s:cJ)(c:Ch)(hn:Nk P.b9/\Nk P.imp/\Nk P.ret/\Nk c.b9/\Nk c.imp/\Nk c.ret)(hf:P.fl.length<=800000/\c.fl.length<=100000/\P.sp.length<=900000)(h:aj Tryz.prog 46 [.ptr 0 0,cH (aC s)] 7 (gY P) 8 [.ptr 12 0,.dv (I 0)] (Rg P c)):bW Tryz.prog 15 [.ptr 0 0,cH (aC s)] 7 (zQ 1 1 P) 0 (fun rs k=>∃done:SM,done.Perm c.st/\rs=[.dv (I c.sp.id),.dv (I 0)]/\k=zQ 1 1 (V6 P c done)):=by
 refine ni gi mixed (fg _) (fM _) Tryz.func15 rfl rfl (by kernel_rfl) ?_
 repeat refine gG ?_
 refine .inr (cl [0,1,2,3,4,5,6] h (by kernel_rfl) rfl rfl ?_)
 refine T5 (fun h=>(by cases h)) fun _=>?_
 refine⟨LpS,fun z=>⟨17,[(0,.ptr 0 0),(6,.ptr 13 0),(23,.ptr 16 0)],poK P c z⟩,fun z=>(z.done++z.left).Perm c.st,fun z=>z.left.length,⟨c.st,[]⟩,fun z=>rfl,?_,List.Perm.refl _,?_⟩
 ·refine⟨⟨rfl,rfl,rfl,tv⟩,?_,rfl,rfl⟩
  repeat' first|exact trivial|rfl|exact rf|refine T5 ?_ ?_
  all_goals exact .inl rfl
 ·rintro⟨left,done⟩ g1
  simp only at g1
  refine⟨tv,fun h5=>⟨(fun h6=>by cases h6),fun _=>?_⟩,fun pos cc jS=>⟨fun _=>?_,fun h6=>by cases h6⟩⟩
  ·have hz:left=[]:=List.map_eq_nil_iff.1 h5
   subst hz
   rw[List.append_nil]at g1
   refine .inr (cl [2,10] (GV P.b9 c.b9 hn.1 hn.2.2.2.1) (by kernel_rfl) rfl rfl ?_)
   refine T5 (by kernel_rfl) ?_
   refine .inr (cl [5,11] (wB P.imp c.imp hn.2.1 hn.2.2.2.2.1) (by kernel_rfl) rfl rfl ?_)
   refine T5 (by kernel_rfl) ?_
   refine .inr (cl [6,12] (wB P.ret c.ret hn.2.2.1 hn.2.2.2.2.2) (by kernel_rfl) rfl rfl ?_)
   refine T5 (by kernel_rfl) ?_
   refine .inr (.inl ⟨BW VW c.fl,c.fl.map aG,b7.refl _,bF (by simp;omega),by simp;omega,?_⟩)
   refine T5 (by kernel_rfl) ?_
   refine .inl ⟨[aC c.sp],rfl,⟨rf,rf,rf,rf,rf,rf,rf,tv⟩,(by simp;rfl),?_⟩
   refine .inr ⟨[aC c.sp],b7.refl _,bS (by simp;omega),by simp;omega,?_⟩
   refine T5 (by kernel_rfl) ?_
   exact⟨_,LQ 1 1 (V6 P c done) (P.sp.map aC++[aC c.sp]) (P.fl.map aG++c.fl.map aG),⟨done,g1,rfl,Rh P c done⟩,by kernel_rfl,⟨rf,rf,tv⟩,aV (k:=LQ 1 1 (V6 P c done) (P.sp.map aC++[aC c.sp]) (P.fl.map aG++c.fl.map aG)) rfl⟩
  ·have jS:(left.map fun p=>DV.fR (qV p.1) (aM p.2))[pos]?=some cc:=jS
   rw[abW]at jS
   obtain⟨⟨k,l⟩,hk,rfl⟩:∃p,left[pos]?=some p/\cc=DV.fR (qV p.1) (aM p.2):=by
    cases hq:left[pos]? with
    |none=>rw[hq]at jS;cases jS
    |some p=>rw[hq]at jS;exact⟨p,rfl,by simpa using jS.symm⟩
   have Bm:((done++[(k,l)])++left.eraseIdx pos).Perm c.st:=by
    rw[adJ];exact((qk hk).append_left done).symm.trans g1
   have hc:B9 P.st (done++[(k,l)])=if l=[]then tr (B9 P.st done) k else aH (B9 P.st done) k l:=by unfold B9;rw[adI];rfl
   refine⟨fQ l,?_⟩
   rw[show(oq left).eraseIdx pos=oq (left.eraseIdx pos)from(k8 _ left pos).symm]
   refine T5 (fun h=>?_) fun h=>?_
   ·have hl:l=[]:=by cases l with
     |nil=>rfl
     |cons=>cases h
    rw[if_pos hl]at hc
    refine⟨mD,qV k,rfl,rfl,?_⟩
    rw[show iM (oq (B9 P.st done)) (qV k)=oq (B9 P.st (done++[(k,l)]))by rw[hc];exact TT iC (B9 P.st done) k]
    refine T5 (by kernel_rfl) ?_
    refine⟨⟨left.eraseIdx pos,done++[(k,l)]⟩,?_,Bm,?_⟩
    ·refine⟨⟨rfl,rfl,rfl,tv⟩,?_,rfl,rfl⟩
     repeat' first|exact trivial|rfl|exact rf|refine T5 ?_ ?_
     all_goals exact .inl rfl
    ·have:=(W8.1 hk).1
     show(left.eraseIdx pos).length<left.length
     rw[List.length_eraseIdx_of_lt this];omega
   ·have hl:l≠[]:=fun e=>by subst e;cases h
    rw[if_neg hl]at hc
    refine⟨mD,qV k,rfl,rfl,aM l,⟨rf,tv⟩,rfl,false,fun _=>⟨oz (B9 P.st done) _,fQ _⟩,?_⟩
    rw[show c7 (oq (B9 P.st done)) (qV k) (aM l)=oq (B9 P.st (done++[(k,l)]))by rw[hc];exact c5 iC (B9 P.st done) k l]
    refine T5 (by kernel_rfl) ?_
    refine⟨⟨left.eraseIdx pos,done++[(k,l)]⟩,?_,Bm,?_⟩
    ·refine⟨⟨rfl,rfl,rfl,tv⟩,?_,rfl,rfl⟩
     repeat' first|exact trivial|rfl|exact rf|refine T5 ?_ ?_
     all_goals exact .inl rfl
    ·have:=(W8.1 hk).1
     show(left.eraseIdx pos).length<left.length
     rw[List.length_eraseIdx_of_lt this];omega
end
section
open Go.TM
theorem D5:∀(d m:SM),Nk m->Nk (B9 m d)
 |[],_,h=>h
 |p::d,m,h=>by
  show Nk (B9 (if p.2=[]then tr m p.1 else aH m p.1 p.2) d)
  refine D5 d _ ?_
  split
  ·exact h.del _
  ·exact h.put _ _
theorem tS:∀(d m:SM),Nk m->Nk d->∀k,aX (B9 m d) k=(match aX d k with
 |some l=>if l=[]then none else some l
 |none=>aX m k)
 |[],_,_,_,_=>rfl
 |(q,l)::d,m,hm,h,k=>by
  have hd:Nk d:=(List.nodup_cons.1 h).2
  have hq:q∉d.map (·.1):=(List.nodup_cons.1 h).1
  show aX (B9 (if l=[]then tr m q else aH m q l) d) k=_
  have SO:Nk (if l=[]then tr m q else aH m q l):=by
   split
   ·exact hm.del _
   ·exact hm.put _ _
  rw[tS d _ SO hd k]
  by_cases hk:q=k
  ·subst hk
   rw[ny hq]
   simp only[aX,if_true]
   split
   ·rw[F2 hm,if_pos rfl]
   ·rw[j4,if_pos rfl]
  ·simp only[aX,if_neg hk]
   cases aX d k with
   |some x=>rfl
   |none=>
    simp only
    split
    ·rw[F2 hm,if_neg hk]
    ·rw[j4,if_neg hk]
theorem Ri{m d b:SM}(hm:Nk m)(hb:Nk b)(h:d.Perm b):(B9 m d).Perm (B9 m b):=by
 have hd:Nk d:=hb.perm h.symm
 refine B8 (D5 d m hm) (D5 b m hm) fun k=>?_
 rw[tS d m hm hd,tS b m hm hb,BG hd h]
variable [bp]
theorem JP(P:PL)(s:cJ)(c:Ch)(hn:Nk P.b9/\Nk P.imp/\Nk P.ret/\Nk c.b9/\Nk c.imp/\Nk c.ret)(hf:P.fl.length<=800000/\c.fl.length<=100000/\P.sp.length<=900000)(ak:Nk P.st/\Nk c.st)(h:aj Tryz.prog 46 [.ptr 0 0,cH (aC s)] 7 (gY P) 8 [.ptr 12 0,.dv (I 0)] (Rg P c)):aj Tryz.prog 15 [.ptr 0 0,cH (aC s)] 7 (zQ 1 1 P) 0 [.dv (I c.sp.id),.dv (I 0)] (zQ 1 1 (V6 P c c.st)):=
 sb (mF (GW P s c hn hf h) fun r k ⟨done,hp,h1,h2⟩=>⟨h1,h2▸.cons (.refl _) (.cons (.omap 0 0 eb ((Ri ak.1 ak.2 hp).map _)) (.refl _))⟩)
end
section
open Go.TM
variable [bp]
theorem jg{f:Nat}{P:PL}{c:Ch}{a rs:List AV}{K':ae}{ex:Nat}(h:aj Tryz.prog f a 14 (dM 1 1 P c) ex rs K'):aj Tryz.prog f a 14 (dM 0 0 P c) ex rs K':=
 cU 5 (K0:=dM 0 0 P c) (cU 6 (K0:=dM 1 0 P c) h ⟨⟨_,rfl,rfl,fun j hj=>(by match j,hj with|0,_=>exact .cells (.same _ (.same _ (.same _ (.same _ (.same _ (.same _ (.same _ (.same _ (.same _ (.same _ (.same _ (.same _ (.same _ (.sH .nil))))))))))))))|1,_=>exact .refl _|2,_=>exact .refl _|3,_=>exact .refl _|4,_=>exact .refl _|5,_=>exact .refl _|j+7,_=>exact .refl _)⟩,jl.refl _ _ _ _⟩)
  ⟨⟨_,rfl,rfl,fun j hj=>(by match j,hj with|0,_=>exact .cells (.same _ (.same _ (.same _ (.same _ (.same _ (.same _ (.same _ (.same _ (.same _ (.same _ (.same _ (.same _ (.sH (.same _ .nil))))))))))))))|1,_=>exact .refl _|2,_=>exact .refl _|3,_=>exact .refl _|4,_=>exact .refl _|6,_=>exact .refl _|j+7,_=>exact .refl _)⟩,jl.refl _ _ _ _⟩
theorem Rj{f:Nat}{P:PL}{a rs:List AV}{K':ae}{ex:Nat}(h:aj Tryz.prog f a 7 (zQ 1 1 P) ex rs K'):aj Tryz.prog f a 7 (gY P) ex rs K':=
 cU 3 (K0:=gY P) (cU 4 (K0:=zQ 1 0 P) h ⟨⟨_,rfl,rfl,fun j hj=>(by match j,hj with|0,_=>exact .cells (.same _ (.same _ (.same _ (.same _ (.same _ (.same _ (.same _ (.same _ (.sH (.same _ (.same _ .nil)))))))))))|1,_=>exact .refl _|2,_=>exact .refl _|3,_=>exact .refl _|5,_=>exact .refl _|6,_=>exact .refl _|j+7,_=>exact .refl _)⟩,jl.refl _ _ _ _⟩)
  ⟨⟨_,rfl,rfl,fun j hj=>(by match j,hj with|0,_=>exact .cells (.same _ (.same _ (.same _ (.same _ (.same _ (.same _ (.same _ (.sH (.same _ (.same _ (.same _ .nil)))))))))))|1,_=>exact .refl _|2,_=>exact .refl _|4,_=>exact .refl _|5,_=>exact .refl _|6,_=>exact .refl _|j+7,_=>exact .refl _)⟩,jl.refl _ _ _ _⟩
end
section
open Go.TM
variable [bp]
theorem wC(l:List Int)(hl:l.length<=1000000):aj Tryz.prog 78 [.own 0 0 0 []] 1 [(0,.tree 0 0 (.aD 1 (l.map I)))] 0 [.dv (Ints l)] [(0,.tree 0 0 (.aD 1 (l.map I)))]:=by
 refine cO Tryz.func78 rfl (by kernel_rfl) ?_
 by_cases hn:l=[]
 ·subst hn
  refine .inl ⟨⟨_,_,⟨rfl,rfl⟩,by kernel_rfl,⟨DV.aI 1,tv⟩,aV (k:=[(0,.tree 0 0 (.aD 1 []))]) rfl⟩,?_⟩
  refine .inr (.inl ⟨[],rfl,tv,(fun _ h=>by cases h),?_⟩)
  refine .inr (.inl ⟨BW vA [],[],b7.refl _,bI (by simp),by simp,?_⟩)
  exact⟨_,_,⟨rfl,rfl⟩,by kernel_rfl,⟨qi 1 (fun _=>rfl) (l:=([]:List Int)) (e:=I),tv⟩,aV (k:=[(0,.tree 0 0 (.aD 1 []))]) rfl⟩
 ·refine .inr ⟨fun h=>hn (List.map_eq_nil_iff.1 h),T5 (fun h=>by cases h) fun _=>?_⟩
  refine .inr (.inl ⟨[],rfl,tv,(fun _ h=>by cases h),?_⟩)
  refine .inr (.inl ⟨BW vA l,l.map I,b7.refl _,bI (by simp;omega),by simp;omega,?_⟩)
  exact⟨_,_,⟨rfl,rfl⟩,by kernel_rfl,⟨qi 1 (fun _=>rfl),tv⟩,aV (k:=[(0,.tree 0 0 (.aD 1 (l.map I)))]) rfl⟩
end
end Go.Proofs.YtmojfblpbcficaaGreatDoor
