import Derived.Test.YtmojfblpbcficaaGreatDoorUM29
import Derived.Test.YtmojfblpbcficaaGreatDoorUM30
import Derived.Test.YtmojfblpbcficaaGreatDoorUM21
set_option linter.all false
open Go.TM.oA Go.TM.oB Go.TM.oC Go.TM.oD Go.TM.oE
namespace Go.Proofs.YtmojfblpbcficaaGreatDoor
set_option maxRecDepth 100000
set_option maxHeartbeats 4000000
open Go.TM
def frN(k:Int):Nat:=if k=0\/k=5 then 203 else if k=4\/k=10\/k=9 then 206 else 204
def toN(k:Int):Nat:=if k=1\/k=6 then 203 else if k=4\/k=10\/k=7 then 206 else 204
def whN(k:Int):Nat:=if k=4 then 207 else if k=10 then 208 else 205
def Yo(k:Int):DV:=.agg [.fn (frN k) [],.fn (toN k) [],.bool (om k),.fn (whN k) []]
def DW(k a:Int):Bool:=if k=0\/k=5 then a==0 else if k=4\/k=10\/k=9 then true else a !=0
def DX(k a:Int):Bool:=if k=1\/k=6 then a==0 else if k=4\/k=10\/k=7 then true else a !=0
theorem kinds{k:Int}(h:0<=k/\k<=10):k=0\/k=1\/k=2\/k=3\/k=4\/k=5\/k=6\/k=7\/k=8\/k=9\/k=10:=by omega
variable [bp]
theorem tP(a:Int):aN Tryz.prog 203 [I a] [B (a==0)]:=by
 refine pO Tryz.func203 rfl (by kernel_rfl) rfl ?_
 exact⟨rf,tv⟩
theorem tQ(a:Int):aN Tryz.prog 204 [I a] [B (a !=0)]:=by
 refine pO Tryz.func204 rfl (by kernel_rfl) rfl ?_
 exact⟨rf,tv⟩
theorem zJ(a:Int):aN Tryz.prog 206 [I a] [B true]:=by
 refine pO Tryz.func206 rfl (by kernel_rfl) rfl ?_
 exact⟨rf,tv⟩
theorem UA(k a:Int):aN Tryz.prog (frN k) [I a] [B (DW k a)]:=by
 unfold frN DW
 split
 ·exact tP a
 split
 ·exact zJ a
 ·exact tQ a
theorem UB(k a:Int):aN Tryz.prog (toN k) [I a] [B (DX k a)]:=by
 unfold toN DX
 split
 ·exact tP a
 split
 ·exact zJ a
 ·exact tQ a
theorem lW(a:Int):aN Tryz.prog 140 [I a] [B (decide (0<=a)&&decide (a<=1073741824))]:=by
 refine pO Tryz.func140 rfl (by kernel_rfl) rfl ?_
 repeat refine gG ?_
 refine⟨DV.Le.of_eq ?_,tv⟩
 cases decide (0<=a)<;>rfl
theorem B6(k:Int)(h:0<=k/\k<=10):aN Tryz.prog 139 [I k] [Yo k,B true]:=by
 rcases kinds h with rfl|rfl|rfl|rfl|rfl|rfl|rfl|rfl|rfl|rfl|rfl
 all_goals
  refine pO Tryz.func139 rfl (by kernel_rfl) rfl ?_
  repeat first|refine T5 (fun h=>absurd h (by decide)) fun _=>?_|refine T5 (fun _=>?_) fun h=>absurd h (by decide)
  exact⟨rf,rf,tv⟩
theorem JK(k:Int)(h:¬(0<=k/\k<=10)):aN Tryz.prog 139 [I k] [.agg [.jN,.jN,B false,.jN],B false]:=by
 have hk:∀n:Int,0<=n/\n<=10->¬(k==n)=true:=fun n hn he=>by have:=beq_iff_eq.1 he;omega
 refine pO Tryz.func139 rfl (by kernel_rfl) rfl ?_
 repeat refine T5 (fun h=>absurd h (hk _ (by decide))) fun _=>?_
 exact⟨rf,rf,tv⟩
def sw(k:Int)(m:dc):Bool:=BX m (om k)&&(DW k m.fr&&DX k m.to)
theorem Q9(k:Int)(m:dc)(L:Int)(hL:L=5):(bif bif bif bif bif bif bif bif decide (m.it<0)then true else decide (L<=m.it)then true else decide (m.n<1)then true else decide (1099511627776<m.n)then true else !(decide (0<=m.fr)&&decide (m.fr<=1073741824))then true else !(decide (0<=m.to)&&decide (m.to<=1073741824))then true else m.fr==m.to then true else !DW k m.fr then true else !DX k m.to)=!(du m&&(DW k m.fr&&DX k m.to)):=by
 subst hL
 generalize DW k m.fr=x
 generalize DX k m.to=y
 rw[adO]
 cases x<;>cases y<;>simp[du]<;>omega
theorem nt(P:PL)(m:dc)(k:Int)(hl:m.ps.length<=4000):aj Tryz.prog 141 [.ptr 0 0,cH (ao m),cH (Yo k)] 7 (gY P) 0 [.dv (B (sw k m))] (gY P):=by
 refine cO Tryz.func141 rfl (by kernel_rfl) ?_
 repeat refine gG ?_
 refine .inl ⟨_,fun _=>(lW m.fr).ok,?_⟩
 repeat refine gG ?_
 refine .inl ⟨_,fun _=>(lW m.to).ok,?_⟩
 repeat refine gG ?_
 refine .inl ⟨_,fun _=>(UA k m.fr).ok,?_⟩
 refine .inl ?_
 repeat refine gG ?_
 refine .inl ⟨_,fun _=>(UB k m.to).ok,?_⟩
 refine .inl ?_
 repeat refine gG ?_
 refine T5 (by kernel_rfl) ?_
 refine T5 (fun h=>?_) fun h=>T5 (fun hs=>?_) fun hs=>?_
 ·have h:=(Q9 k m _ rfl).symm.trans h
  have h:(du m&&(DW k m.fr&&DX k m.to))=false:=by cases hh:(du m&&(DW k m.fr&&DX k m.to));rfl;rw[hh]at h;cases h
  have e:sw k m=false:=by
   unfold sw BX
   generalize du m=x at h⊢
   generalize (DW k m.fr&&DX k m.to)=y at h⊢
   cases x<;>cases y<;>simp_all
  rw[e]
  exact ext (by kernel_rfl) rfl rfl
 ·have h:=(Q9 k m _ rfl).symm.trans h
  have h:(du m&&(DW k m.fr&&DX k m.to))=true:=by cases hh:(du m&&(DW k m.fr&&DX k m.to));rw[hh]at h;cases h;rfl
  have hs:om k=false:=by simpa using hs
  have e:sw k m=((m.ps.map aA).length==(0:Int)):=by
   unfold sw BX
   rw[hs]
   rw[adT]at h
   rw[h.1,h.2]
   cases m.ps<;>simp<;>omega
  rw[e]
  exact ext (by kernel_rfl) rfl rfl
 have h:=(Q9 k m _ rfl).symm.trans h
 have h:(du m&&(DW k m.fr&&DX k m.to))=true:=by cases hh:(du m&&(DW k m.fr&&DX k m.to));rw[hh]at h;cases h;rfl
 have hs:om k=true:=by simpa using hs
 rw[adT]at h
 have e:sw k m=(bB m.ps&&decide (br m.ps=m.n)&&decide (br (kI m.ps)=m.n)):=by
  unfold sw BX
  rw[hs,h.1,h.2];simp
 rw[e]
 have ZA:=ey m.ps (by omega)
 cases hv:bB m.ps with
 |false=>
  rw[hv]at ZA
  refine .inl ⟨_,fun _=>ZA.ok,?_⟩
  repeat refine gG ?_
  refine .inl ⟨[I 0],fun h=>(by cases h),?_⟩
  repeat refine gG ?_
  refine .inl ⟨[aM []],fun h=>(by cases h),?_⟩
  repeat refine gG ?_
  refine .inl ⟨[I 0],fun h=>(by cases h),?_⟩
  repeat refine gG ?_
  refine⟨by kernel_rfl,?_⟩
  refine ext (by kernel_rfl) rfl rfl
 |true=>
  rw[hv]at ZA
  have hn:=fun x hx=>j5 ((eU hv).2 x hx)
  refine .inl ⟨_,fun _=>ZA.ok,?_⟩
  repeat refine gG ?_
  refine .inl ⟨_,fun _=>(jF m.ps (by omega)).ok,?_⟩
  repeat refine gG ?_
  refine .inl ⟨_,fun _=>(lV m.ps (eU hv).2 (by omega)).ok,?_⟩
  repeat refine gG ?_
  have hq:=nC (eU hv).2
  have hT:br (ct m.ps)=b8 (ct m.ps):=by
   have:bB (ct m.ps)=true:=by
    unfold bB
    rw[adH.2 hq.1,adF (by have:=hq.2.1;omega)];rfl
   unfold br;rw[this];rfl
  have hsv:kI m.ps=ct m.ps:=by unfold kI;rw[hv];rfl
  refine .inl ⟨_,fun _=>(nz (ct m.ps) (by have:=hq.2.1;omega) fun x hx=>j5 (hq.1 x hx)).ok,?_⟩
  repeat refine gG ?_
  refine⟨by kernel_rfl,?_⟩
  have ee:(true&&decide (br m.ps=m.n)&&decide (br (kI m.ps)=m.n))=(bif (bif true then br m.ps==m.n else false)then b8 (ct m.ps)==m.n else false):=by
   rw[hsv,hT]
   have e1:∀a b:Int,decide (a=b)=(a==b):=fun a b=>by rw[adO];simp
   rw[e1,e1]
   cases(br m.ps==m.n)<;>rfl
  rw[ee]
  refine ext (by kernel_rfl) rfl rfl
theorem DY(P:PL)(s:cJ):aj Tryz.prog 205 [.ptr 0 0,cH (aC s)] 7 (gY P) 0 [.dv (B (decide (s.aP=-1)&&decide (s.times=0)))] (gY P):=by
 refine cO Tryz.func205 rfl (by kernel_rfl) ?_
 repeat refine gG ?_
 rw[show(decide (s.aP=-1)&&decide (s.times=0))=(bif s.aP== -1 then s.times==0 else false)by rw[adO];simp]
 exact ext (by kernel_rfl) rfl rfl
theorem ow(n:Int):aN Tryz.prog 235 [I n] [B (decide (1<=n)&&decide (n<=1048576))]:=by
 refine pO Tryz.func235 rfl (by kernel_rfl) rfl ?_
 repeat refine gG ?_
 refine⟨DV.Le.of_eq ?_,tv⟩
 cases decide (1<=n)<;>rfl
theorem GN(P:PL)(s:cJ):aj Tryz.prog 208 [.ptr 0 0,cH (aC s)] 7 (gY P) 0 [.dv (B (tE s))] (gY P):=by
 refine cO Tryz.func208 rfl (by kernel_rfl) ?_
 repeat refine gG ?_
 have lm:(s.mv.map ao).length=s.mv.length:=WY ..
 refine .inl ⟨_,fun _=>(ow s.times).ok,?_⟩
 repeat refine gG ?_
 refine T5 ?_ ?_
 ·intro h
  have hc:tE s=false:=by
   unfold tE
   rw[adU]
   rintro⟨q1,q2,q3,q4,-⟩
   rw[lm]at h
   simp at h
   omega
  rw[hc]
  exact ext (by kernel_rfl) rfl rfl
 intro h
 have hc:s.aP=-1/\1<=s.times/\s.times<=1048576/\s.mv.length=2:=by
  rw[lm]at h
  simp at h
  omega
 obtain⟨c1,c2,c3,c4⟩:=hc
 obtain⟨a,ha⟩:∃a,s.mv[0]?=some a:=⟨_,IF (show 0<s.mv.length by omega)⟩
 obtain⟨b,hb⟩:∃b,s.mv[1]?=some b:=⟨_,IF (show 1<s.mv.length by omega)⟩
 have ia:(s.mv.map ao)[(0:Int).toNat]?=some (ao a):=by rw[abW];exact congrArg (Option.map ao) ha
 have ib:(s.mv.map ao)[(1:Int).toNat]?=some (ao b):=by rw[abW];exact congrArg (Option.map ao) hb
 have da:s.mv.getD 0 m0=a:=by rw[acb,ha];rfl
 have db:s.mv.getD 1 m0=b:=by rw[acb,hb];rfl
 refine⟨ao a,fun _=>⟨by omega,ia⟩,?_⟩
 repeat refine gG ?_
 refine⟨ao b,fun _=>⟨by omega,ib⟩,?_⟩
 repeat first|refine gG ?_|refine⟨fun _ h=>by omega,?_⟩|refine T5 (fun _ h=>h) ?_|refine T5 (fun h=>h) ?_
 refine T5 (by kernel_rfl) ?_
 have hcv:tE s=(bif bif bif bif a.to==0 then b.fr==0 else false then a.fr==b.to else false then a.n.tmod s.times==0 else false then b.n.tmod s.times==0 else false):=by
  unfold tE
  rw[da,db,adO,BEq.comm (a:=a.fr)]
  simp[c1,c2,c3,c4,and_assoc]
 rw[hcv]
 repeat first|refine gG ?_|refine⟨fun _ h=>by omega,?_⟩
 exact ext (by kernel_rfl) rfl rfl
end Go.Proofs.YtmojfblpbcficaaGreatDoor
