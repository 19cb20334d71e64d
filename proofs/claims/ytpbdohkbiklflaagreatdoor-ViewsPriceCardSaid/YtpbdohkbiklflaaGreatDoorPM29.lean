import Derived.Test.YtpbdohkbiklflaaGreatDoorPM22
import Derived.Test.YtpbdohkbiklflaaGreatDoorPM27
import Derived.Test.YtpbdohkbiklflaaGreatDoorPM28
import Derived.Test.YtpbdohkbiklflaaGreatDoorPM23
import Derived.Test.YtpbdohkbiklflaaGreatDoorPM24
set_option linter.unusedVariables false
set_option linter.unusedSimpArgs false
set_option linter.unusedSectionVars false
namespace Go.Proofs.YtpbdohkbiklflaaGreatDoor
open Go.TM
variable [cP]
set_option maxRecDepth 100000
theorem Ik:bj Tryz.prog 32 [.dv (.fn 33 [])] 0 [] 1 [.ptr 0 0] [(0,.cells [.dv (.fn 33 []),.dv .aG])]:=by
 refine bl aK mixed (aq _) (ar _) Tryz.func32 rfl rfl (by kernel_rfl) ?_
 exact ⟨_,_,⟨rfl,rfl⟩,by kernel_rfl,⟨rfl,tv⟩,⟨rf,rf,tv⟩,tv⟩
theorem Il:bj Tryz.prog 32 [.dv (.fn 33 [])] 0 [] 1 [.own 0 0 0 []] [(0,.tree 0 0 (dZ true []))] :=
 E7 (ds:=[.fn 33 [],.aG]) Ik
def Lc (coin ab aD:Int):Vs:=⟨coin,ab,aD,0,0,[],[0,0,0,0],[(true,[]),(true,[]),(true,[]),(true,[])],[(true,[]),(true,[]),(true,[]),(true,[])],[]⟩
def Ld (coin:Int):Bool:=bif bif decide (coin<0) then true else decide (4≤coin) then true else !(decide (coin=1) || decide (coin=3))
def E9 (ab aD:Int):Bool:=bif bif bif decide (ab<1) then true else decide (1099511627776<ab) then true else decide (aD<0) then true else decide (1048576<aD)
theorem Nq (n:ByteArray) (coin:Int) (h:0≤coin∧coin<4):∃nm,(wc n)[coin.toNat]?=some (.agg [.str nm,B false,B false,B (decide (coin=1) || decide (coin=3)),I 0,I 0,I 0]):=by
 obtain h | h | h | h:coin=0 ∨ coin=1 ∨ coin=2 ∨ coin=3:=by omega
 all_goals (subst h; exact ⟨_,rfl⟩)
theorem Lf (n:ByteArray) (coin:Int):∃nm,bw (bif decide (coin<0) then true else decide (((wc n).length:Int)≤coin)) false=true→0≤coin∧(wc n)[coin.toNat]?=some (.agg [.str nm,B false,B false,B (decide (coin=1) || decide (coin=3)),I 0,I 0,I 0]):=by
 by_cases h:0≤coin∧coin<4
 ·obtain ⟨nm,hn⟩:=Nq n coin h
  exact ⟨nm,fun _=>⟨h.1,hn⟩⟩
 ·refine ⟨eB,fun hb=>absurd hb ?_⟩
  have:(bif decide (coin<0) then true else decide (((wc n).length:Int)≤coin))=true:=by
   show (bif decide (coin<0) then true else decide ((4:Int)≤coin))=true
   rw [Bool.cond_true_left,Bool.or_eq_true,decide_eq_true_eq,decide_eq_true_eq]; omega
  rw [this]; simp [bw]
theorem VI:(nth tab (nth tab 76).elem).bytes=8:=rfl
def W0 (coin ab aD:Int):List AV:=[.dv (I 4),.dv (I coin),.dv (I ab),.dv (I aD),.dv (I 0),.dv (I 0),.own 1 0 0 [],.own 2 0 0 [],.own 5 0 0 []]
def S0 (coin ab aD:Int) (j:Nat):bo:=⟨6,[(11,.ptr 4 0),(68,.dv (I 4)),(69,.dv (I j))],[(1,.tree 0 0 (.omap ei [])),(2,.tree 0 0 (.ay 1 [I 0,I 0,I 0,I 0])),(3,.tree 0 0 (.ay 1 [.aG,.aG,.aG,.aG])),(4,.cells (W0 coin ab aD++[.own 3 0 0 [],.dv .aG])),(5,.tree 0 0 (.ay 1 (List.replicate j (dZ true []))))]⟩
def YK (coin ab aD:Int):ah:=[(1,.tree 0 0 (.omap ei [])),(2,.tree 0 0 (.ay 1 [I 0,I 0,I 0,I 0])),(3,.tree 0 0 (.ay 1 [.aG,.aG,.aG,.aG])),(4,.cells (W0 coin ab aD++[.own 3 0 0 [],.own 6 0 0 []])),(5,.tree 0 0 (.ay 1 (List.replicate 4 (dZ true [])))),(6,.tree 0 0 (.ay 1 []))]
set_option maxHeartbeats 4000000 in
theorem yV (coin ab aD:Int) (h:Ld coin=false) (h2:E9 ab aD=false):bj Tryz.prog 11 [vg (Ao eB),.dv (I coin),.dv (I ab),.dv (I aD)] 0 [] 7 [.ptr 4 0,.dv (I 0)] (YK coin ab aD):=by
 refine bl aK mixed (aq _) (ar _) Tryz.func11 rfl rfl (by kernel_rfl) ?_
 refine .inl ⟨_,fun _=>E6.ok,?_⟩
 refine ⟨fun h9=>by simp at h9,fun _=>?_⟩
 repeat first | refine ⟨id,?_⟩ | refine ⟨fun _ h=>cx h,?_⟩ | refine ⟨fun _ h=>ax h,?_⟩ | refine ⟨fun h=>⟨h,fun h2=>aP h h2⟩,?_⟩ | refine ⟨fun h=>⟨h,fun h2=>aC h h2⟩,?_⟩
 obtain ⟨nm,PD⟩:=Lf eB coin
 refine ⟨_,PD,?_⟩
 repeat first | refine ⟨id,?_⟩ | refine ⟨fun _ h=>cx h,?_⟩ | refine ⟨fun _ h=>ax h,?_⟩ | refine ⟨fun h=>⟨h,fun h2=>aP h h2⟩,?_⟩ | refine ⟨fun h=>⟨h,fun h2=>aC h h2⟩,?_⟩
 refine ⟨fun hc=>?_,fun _=>?_⟩
 ·have:Ld coin=true:=hc
  rw [h] at this; cases this
 repeat first | refine ⟨id,?_⟩ | refine ⟨fun _ h=>cx h,?_⟩ | refine ⟨fun _ h=>ax h,?_⟩ | refine ⟨fun h=>⟨h,fun h2=>aP h h2⟩,?_⟩ | refine ⟨fun h=>⟨h,fun h2=>aC h h2⟩,?_⟩
 refine ⟨fun hc=>?_,fun _=>?_⟩
 ·have:E9 ab aD=true:=hc
  rw [h2] at this; cases this
 refine ⟨ei,I 0,⟨rf,tv⟩,Int.natCast_nonneg _,Int.le_refl _,(by show (4:Int) * 8≤_; omega),(by show (4:Int)≤_; omega),false,(fun h=>by cases h),.aG,⟨rf,tv⟩,Int.natCast_nonneg _,Int.le_refl _,(by show (4:Int) * 24≤_; omega),(by show (4:Int)≤_; omega),false,(fun h=>by cases h),?_⟩
 refine ⟨by kernel_rfl,?_⟩
 refine ⟨Nat,S0 coin ab aD,fun z=>z≤4,fun z=>4 - z,0,fun _=>rfl,?_⟩
 refine ⟨⟨⟨rfl,rf,rf,tv⟩,⟨⟨rfl,rfl⟩,⟨rfl,rfl⟩,⟨rfl,rfl⟩,⟨rf,rf,rf,rf,rf,rf,rfl,rfl,⟨rfl,rfl,rfl,rfl,1,rfl⟩,rfl,rf,tv⟩,⟨rfl,rfl,1,rfl⟩,tv⟩,rfl,rfl⟩,Nat.zero_le _,?_⟩
 rintro j hj
 refine ⟨fun aJ=>?_,fun dw=>?_⟩
 ·have aJ:j<4:=by have:=of_decide_eq_true aJ; omega
  refine .inr ⟨[],[.dv (.fn 33 [])],[],1,_,_,Il,by kernel_rfl,by kernel_rfl,⟨rf,tv⟩,tv,?_⟩
  refine .inr (.inl ⟨[dZ true []],rfl,⟨rfl,tv⟩,(by simp; rfl),?_⟩)
  refine .inr (.inr ⟨rfl,[dZ true []],eO.refl _,(by rw [VI,List.length_replicate]; simp; omega),(by rw [List.length_replicate]; simp; omega),?_⟩)
  exact ⟨by kernel_rfl,fun _=>⟨by omega,by omega⟩,j+1,⟨⟨rfl,rf,aB (by simp),tv⟩,⟨⟨rfl,rfl⟩,⟨rfl,rfl⟩,⟨rfl,rfl⟩,⟨rf,rf,rf,rf,rf,rf,rfl,rfl,rfl,rfl,rf,tv⟩,⟨rfl,by rw [List.replicate_succ']⟩,tv⟩,rfl,rfl⟩,by omega,by simp only; omega⟩
 ·have dw:j=4:=by have:=of_decide_eq_false dw; omega
  subst dw
  exact ⟨_,_,⟨rfl,rfl⟩,by kernel_rfl,⟨rfl,rf,tv⟩,⟨rfl,rfl⟩,⟨rfl,rfl⟩,⟨rfl,rfl⟩,⟨rf,rf,rf,rf,rf,rf,rfl,rfl,rfl,rfl,⟨rfl,rfl,rfl,rfl,1,rfl⟩,tv⟩,⟨rfl,rfl⟩,⟨rfl,rfl,1,rfl⟩,tv⟩
end Go.Proofs.YtpbdohkbiklflaaGreatDoor
namespace Go.Proofs.YtpbdohkbiklflaaGreatDoor
open Go.TM
variable [cP]
theorem CN:∀(m:HM) (k:Ky) (x:Int),(bP m k x).length=m.length+(if (bp m k).isSome=true then 0 else 1)
 | [],k,x=>by simp [bP,bp]
 | p::r,k,x=>by
  simp only [bP,bp]
  split
  ·simp
  ·rw [List.length_cons,CN r k x,List.length_cons]; omega
theorem CO:∀(m:HM) (k:Ky),(iF m k).length+(if (bp m k).isSome=true then 1 else 0)=m.length
 | [],k=>by simp [iF,bp]
 | p::r,k=>by
  simp only [iF,bp]
  split
  ·simp
  ·have:=CO r k
   rw [List.length_cons,List.length_cons]; omega
theorem Nr {s:Vs} {L:Nat} (h:GP s L) (a:Int) (i:Nat) (now:Int):((cG s (a,(i:Int)) i now).H.length:Int)=(s.H.length:Int)+CB s.H ((a,(i:Int)),now):=by
 have hg:=AF h (a,(i:Int))
 rw [AD]
 unfold CB c9
 simp only
 by_cases h0:hv s.H (a,(i:Int))=now
 ·rw [if_pos h0]
  by_cases h1:now=0
  ·simp [h0,h1]
  ·simp [h0,h1]
 ·rw [if_neg h0]
  by_cases h1:now=0
  ·subst h1
   rw [if_pos rfl]
   rw [if_neg h0] at hg
   have:=CO s.H (a,(i:Int))
   rw [hg] at this
   simp at this
   simp [h0]; omega
  ·rw [if_neg h1]
   have:=CN s.H (a,(i:Int)) now
   rw [hg] at this
   by_cases h2:hv s.H (a,(i:Int))=0
   ·rw [if_pos h2] at this
    simp at this
    simp [h2,h1,this]
   ·rw [if_neg h2] at this
    simp at this
    simp [h2,h1,this]
theorem yW {H G:HM}:∀(es:HM),(∀e∈es,hv H e.1=hv G e.1)→iH H es=iH G es
 | [],_=>rfl
 | e::r,h=>by
  show CB H e+iH H r=CB G e+iH G r
  rw [yW r fun x hx=>h x (List.mem_cons_of_mem _ hx)]
  unfold CB
  rw [h e List.mem_cons_self]
theorem CP:∀{es:HM} {s:Vs} {L:Nat},GP s L→Bc es→L+es.length≤500→(0≤s.work∧s.work+es.length≤2305843009213693952)→((aI s es).H.length:Int)=(s.H.length:Int)+iH s.H es
 | [],s,L,_,_,_,_=>by simp [aI,iH]
 | e::r,s,L,h,he,hL,hw=>by
  obtain ⟨p1,⟨i,hi,p2⟩,p3,p4⟩:=he.pos e List.mem_cons_self
  have hc:=he.cons
  obtain ⟨⟨a,it⟩,now⟩:=e
  simp only at p1 p2 p3 p4
  subst p2
  simp only [List.length_cons] at hL hw
  have h1:=(AB h (by omega) (by omega) hi p1 ⟨p3,p4⟩).2
  have h2:=n9 s (a,(i:Int)) i now
  rw [gS]
  simp only [Int.toNat_natCast]
  rw [CP h1 hc.1 (by omega) (by omega),Nr h]
  rw [yW (H:=(cG s (a,(i:Int)) i now).H) (G:=s.H) r fun x hx=>by
   rw [um h.nd,if_neg]
   intro h9
   exact hc.2 (List.mem_map.2 ⟨x,hx,h9.symm⟩)]
  show _=_+(CB s.H ((a,(i:Int)),now)+iH s.H r)
  omega
structure Rl (s:Vs) (S:SS) (N:Nat) (v:RV):Prop where
 ok:IK s S (8 * N) N
 coin:v.coin=s.coin
 ab:v.ab=s.ab
 aD:v.aD=s.aD
 hold:∀a it,1≤a→hv s.H (a,it)=bh a it v.steps
 last:s.last=bK v.steps
 work:v.work=s.work
 S3:S.map AK=kZ s.coin (s.last - s.ab) v.steps
 len:v.steps.length≤N
 Rp:∀x∈v.steps,x.tick≤s.last∧x.mv.length≤4∧∀m∈x.mv,iO m=false
 S4:s.last≤1099511627776
theorem Fa (l:List St) (x:St):bK (l++[x])=x.tick:=by
 unfold bK
 rw [List.length_append,List.length_cons,List.length_nil,List.getD_eq_getElem?_getD]
 simp
theorem pI {coin:Int} {st:St} (h:bm coin st=true):aZ coin st=((aZ coin st).1,(aZ coin st).2.1,(aZ coin st).2.2.1,true):=by
 have h:(aZ coin st).2.2.2=true:=h
 generalize aZ coin st=q at *
 obtain ⟨a,b,c,d⟩:=q
 simp only at h; subst h; rfl
theorem nD (S:SS) (lim:Int):(S.filter fun p=>decide (lim<p.2.tick)).map AK=(S.map AK).filter fun q=>decide (lim<q.2.1):=by
 rw [List.filter_map]; rfl
theorem Rl.sorted {s:Vs} {S:SS} {N:Nat} {v:RV} (h:Rl s S N v):∀x∈v.steps,x.tick≤s.last:=fun x hx=>(h.Rp x hx).1
theorem Rl.bs {s:Vs} {S:SS} {N:Nat} {v:RV} (h:Rl s S N v):bs v.coin v.ab v.steps (bK v.steps)=S.length:=by
 rw [h.coin,h.ab,←h.last,wE h.sorted,←h.S3,List.length_map]
theorem Rl.key {s:Vs} {S:SS} {N:Nat} {v:RV} (h:Rl s S N v) {lim:Int} (hl:s.last - s.ab≤lim):(S.drop (dx S lim)).map AK=kZ s.coin lim v.steps:=by
 rw [yQ h.ok.IL.ord,nD,h.S3,tn _ hl]
theorem GU (S:SS) (lim:Int):dx S lim≤S.length:=by unfold dx; exact (List.takeWhile_sublist _).length_le
structure VJ (s:Vs) (S:SS) (v:RV) (st:St) (A:HM):Prop where
 S3:(bs v.coin v.ab (v.steps++[st]) st.tick:Int)=(S.length:Int) - (dx S (st.tick - s.ab):Int)+gG (bm v.coin st)
 YL:(yF v.coin v.ab (v.steps++[st]) st.tick:Int)=K4 s S st+iH s.H A
 Rh:py (v.steps++[st]) v.steps (cn (v.steps++[st]))=A.countP (Ic s.H)
 key:(oM s S st).map AK=kZ s.coin (st.tick - s.ab) (v.steps++[st])
theorem S5 {s:Vs} {S:SS} {N:Nat} {v:RV} (h:Rl s S N v) (hN:N≤20) {st:St} (hm:st.mv.length≤4) (ht:s.last≤st.tick) {A:HM} (hA:kB s.H [] st.mv=.ok A)
  (hh:∀a it,1≤a→Proofs.YtpbdohkbiklflaaGreatDoor.hold A s.H (a,it)=bh a it (v.steps++[st])):VJ s S v st A:=by
 obtain ⟨a1,a2,a3,a4⟩:=CG h.ok (by omega) hm hA
 have w6:=h.ok.SX
 have SR:=h.ok.wk
 have zJ:=h.key (lim:=st.tick - s.ab) (by omega)
 have hle:=GU S (st.tick - s.ab)
 have HY:∀x∈v.steps++[st],x.tick≤st.tick:=fun x hx=>by
  rcases List.mem_append.1 hx with hx | hx
  ·have:=h.sorted x hx; omega
  ·simp at hx; subst hx; omega
 have S6:(Proofs.YtpbdohkbiklflaaGreatDoor.bs v.coin v.ab (v.steps++[st]) st.tick:Int)=(S.length:Int) - (dx S (st.tick - s.ab):Int)+gG (bm v.coin st):=by
  rw [wE HY,h.coin,h.ab,yP,List.length_append,←zJ,List.length_map,List.length_drop]
  cases hq:bm s.coin st with
  | false=>simp [gG]; omega
  | true=>rw [if_pos ⟨rfl,by omega⟩]; simp [gG]; omega
 have iJ:=CP h.ok.bY a1 (by omega) (by omega)
 have ou:=oc h.ok.bY a1 (by omega) (by omega)
 have OI:=No (l:=v.steps++[st]) ou.nd (fun p hp=>by have:=ou.pos p hp; exact ⟨this.1,this.2.1,by omega⟩) fun a it ha=>by rw [lY h.ok.bY.nd a1,hh a it ha]
 refine ⟨S6,?_,?_,?_⟩
 ·unfold yF K4
  rw [OI]
  have h1:(s.bS.length:Int)=S.length:=by rw [h.ok.IL.GR.bS,List.length_map]
  have h2:(bif (aZ s.coin st).2.2.2 then (1:Int) else 0)=gG (bm v.coin st):=by rw [h.coin]; rfl
  rw [h2]
  have:=S6
  omega
 ·exact Np rfl a1.nd (fun p hp=>by have:=a1.pos p hp; exact ⟨this.1,this.2.1⟩) h.hold hh
 ·unfold oM
  simp only
  rw [List.map_append,zJ,yP]
  congr 1
  cases hq:(aZ s.coin st).2.2.2 with
  | false=>rw [if_neg]; · rfl
           rintro ⟨h9,_⟩; have h9:(aZ s.coin st).2.2.2=true:=h9; rw [hq] at h9; cases h9
  | true =>
   rw [if_pos ⟨hq,by omega⟩]
   have hb:=wC (so hA) (pI (coin:=s.coin) (st:=st) hq)
   simp only [cond_true,List.map_cons,List.map_nil]
   unfold AK SZ
   simp only
   rw [Int.toNat_of_nonneg hb.1]
theorem CQ {s:Vs} {S:SS} {N:Nat} {v:RV} (h:Rl s S N v) (hN:N≤20) {st:St} (hm:st.mv.length≤4) :
  match eM s S st with
  | .err e=>kA v st=e∧e ≠ 0
  | .ok A=>kA v st=0∧Rl (cN s S st (aI s A)) (oM s S st) (N+1) (pz v st):=by
 have gz:=AJ (H:=s.H) (steps:=v.steps) st.mv [] [] fun a it ha=>h.hold a it ha
 unfold kA
 by_cases ht:st.tick<bK v.steps ∨ 1099511627776<st.tick
 ·rw [if_pos ht]
  have:eM s S st=.err 1:=by
   unfold eM
   rw [if_pos (show (bif decide (st.tick<s.last) then true else decide (1099511627776<st.tick))=true by rw [h.last]; rcases ht with h1 | h1 <;> simp [h1])]
  rw [this]
  exact ⟨rfl,by decide⟩
 ·rw [if_neg ht]
  rw [not_or] at ht
  have rh:eM s S st=match kB s.H [] st.mv with
   | .err e=>.err e
   | .ok A=>if s.aD<K4 s S st+iH s.H A then .err 22 else .ok A:=by
   unfold eM
   rw [if_neg (show ¬ (bif decide (st.tick<s.last) then true else decide (1099511627776<st.tick))=true by rw [h.last]; simp [ht.1,ht.2])]
   rfl
  cases hq:kB s.H [] st.mv with
  | err e =>
   rw [hq] at gz rh
   simp only at rh gz
   rw [rh,if_pos (by rw [gz.1]; exact gz.2)]
   exact gz
  | ok A =>
   rw [hq] at gz rh
   simp only [List.nil_append] at rh gz
   rw [if_neg (by rw [gz.1]; simp)]
   have hh:∀a it,1≤a→Proofs.YtpbdohkbiklflaaGreatDoor.hold A s.H (a,it)=bh a it (v.steps++[st]):=fun a it ha=>by rw [gz.2 a it ha,pA]
   have aJ:s.last≤st.tick:=by rw [h.last]; omega
   have hf:=S5 h hN hm aJ hq hh
   rw [hf.YL,h.aD]
   by_cases hs:s.aD<K4 s S st+iH s.H A
   ·rw [if_pos hs] at rh ⊢
    rw [rh]
    exact ⟨rfl,by decide⟩
   ·rw [if_neg hs] at rh ⊢
    rw [rh]
    refine ⟨rfl,?_⟩
    obtain ⟨f1,f2,f3,f4⟩:=AI h.ok (by omega) (by omega) st hm rh
    obtain ⟨g1,g2,g3,g4,g5,g6,g7⟩:=AH s S st (aI s A)
    have hr:=jN A s
    obtain ⟨a1,a2,a3,a4⟩:=CG h.ok (by omega) hm hq
    refine ⟨by rw [show 8 * (N+1)=8 * N+8 by omega]; exact f1,?_,?_,?_,?_,?_,?_,?_,?_,?_,by rw [g5]; exact f3.2⟩
    ·rw [g6,hr.1]; exact h.coin
    ·rw [g4,hr.2.1]; exact h.ab
    ·rw [g7,hr.2.2.1]; exact h.aD
    ·intro a it ha
     rw [g1,lY h.ok.bY.nd a1,hh a it ha]; rfl
    ·rw [g5]; exact (Fa _ _).symm
    ·rw [wD,od h.ok.bY.nd a1]
     show v.work+_+_+_ - _=_
     rw [hf.S3,hf.Rh,h.bs,h.work,h.coin]
     have hle:=GU S (st.tick - s.ab)
     have:(bif (aZ s.coin st).2.2.2 then (1:Int) else 0)=gG (bm s.coin st):=rfl
     rw [this]
     omega
    ·rw [g5,g4,g6,hr.2.1,hr.1,hf.key]; rfl
    ·show (v.steps++[st]).length≤_
     rw [List.length_append]; have:=h.len; simp; omega
    ·intro x hx
     rw [g5]
     have hx:x∈v.steps++[st]:=hx
     rcases List.mem_append.1 hx with hx | hx
     ·have:=h.Rp x hx; exact ⟨by omega,this.2⟩
     ·simp at hx; subst hx; exact ⟨Int.le_refl _,hm,so hq⟩
theorem YM {coin ab aD:Int} (hw:1≤ab∧ab≤1099511627776) (h0:IK (Lc coin ab aD) [] 0 0):Rl (Lc coin ab aD) [] 0 ⟨coin,ab,aD,[],0⟩ :=
 ⟨h0,rfl,rfl,rfl,fun a it _=>rfl,rfl,rfl,rfl,Nat.le_refl _,fun x hx=>(by cases hx),by show (0:Int)≤_; omega⟩
theorem Rl.VK {s:Vs} {S:SS} {N:Nat} {v:RV} (h:Rl s S N v) (hN:N≤100):sj v.steps:=by
 refine ⟨by have:=h.len; omega,fun x hx=>⟨(h.Rp x hx).2.1,fun m hm=>?_⟩⟩
 have:=qR ((h.Rp x hx).2.2 m hm); omega
end Go.Proofs.YtpbdohkbiklflaaGreatDoor
namespace Go.Proofs.YtpbdohkbiklflaaGreatDoor
open Go.TM
variable [cP]
set_option maxRecDepth 100000
def QF (s:Vs) (it:Nat) (tick:Int):ah:=vK false s++[(6,.cells [.ptr 0 0]),(7,.cells [.dv (I tick)]),(8,.cells [.own 4 0 0 [.el it 0]])]
theorem Ns (s:Vs) (it:Nat) (tick:Int) (l:List Sl) (hs:(s.sl.map mE)[it]?=some (.ay 5 (l.map bU))) (i:Nat) (x:Sl) (hi:l[i]?=some x) (hb:-9223372036854775808≤tick - s.ab∧tick - s.ab≤9223372036854775807) :
  bj Tryz.prog 41 [.dv (I i),.ptr 8 0,.ptr 7 0,.ptr 6 0] 9 (QF s it tick) 0 [.dv (B (decide (tick - s.ab<x.tick)))] (QF s it tick):=by
 have aJ:i<l.length:=(List.getElem?_eq_some_iff.1 hi).1
 refine bl aK mixed (aq _) (ar _) Tryz.func41 rfl rfl (by kernel_rfl) ?_
 refine ⟨.ay 5 (l.map bU),fun _=>hs,?_⟩
 refine ⟨fun _=>⟨by omega,by rw [List.length_map]; omega⟩,?_⟩
 refine ⟨.ay 5 (l.map bU),fun _=>hs,?_⟩
 refine ⟨bU x,fun _=>by rw [List.getElem?_map,Int.toNat_natCast,hi]; rfl,?_⟩
 refine ⟨fun _=>⟨by omega,by omega⟩,?_⟩
 exact ⟨by kernel_rfl,_,_,⟨rfl,rfl⟩,by kernel_rfl,⟨rf,tv⟩,⟨rf,rf,rf,rf,rf,rf,rfl,rfl,rfl,rfl,rfl,tv⟩,⟨rfl,rfl⟩,⟨rfl,rfl⟩,⟨rfl,rfl⟩,⟨rfl,rfl⟩,⟨rfl,rfl⟩,⟨rfl,tv⟩,⟨rf,tv⟩,⟨rfl,tv⟩,tv⟩
theorem AL (s:Vs) (it:Nat) (tick:Int) (l:List Sl) (hs:(s.sl.map mE)[it]?=some (.ay 5 (l.map bU))) (k:Nat) (hk:k≤l.length) (hl:l.length≤1000) (hb:-9223372036854775808≤tick - s.ab∧tick - s.ab≤9223372036854775807)
  (h1:∀i y,i<k→l[i]?=some y→¬ tick - s.ab<y.tick) (h2:∀i y,k≤i→l[i]?=some y→tick - s.ab<y.tick) :
  bj Tryz.prog 40 [.dv (I l.length),.fn 41 [.ptr 8 0,.ptr 7 0,.ptr 6 0]] 9 (QF s it tick) 0 [.dv (I k)] (QF s it tick):=by
 refine bl aK mixed (aq _) (ar _) Tryz.func40 rfl rfl (by kernel_rfl) ?_
 refine ⟨TZ,KE 41 [.ptr 8 0,.ptr 7 0,.ptr 6 0] 9 (QF s it tick),fun q=>q.i≤k∧k≤q.j∧q.j≤l.length,fun q=>q.j - q.i,⟨0,l.length⟩,fun _=>rfl,⟨⟨⟨rfl,rfl,rfl,rfl,tv⟩,rf,rf,tv⟩,⟨⟨rf,rf,rf,rf,rf,rf,rfl,rfl,rfl,rfl,rfl,tv⟩,⟨rfl,rfl⟩,⟨rfl,rfl⟩,⟨rfl,rfl⟩,⟨rfl,rfl⟩,⟨rfl,rfl⟩,⟨rfl,tv⟩,⟨rf,tv⟩,⟨rfl,tv⟩,tv⟩,rfl,rfl⟩,⟨Nat.zero_le _,hk,Nat.le_refl _⟩,?_⟩
 rintro q ⟨p1,p2,p3⟩
 refine ⟨fun aJ=>?_,fun dw=>?_⟩
 ·have aJ:q.i<q.j:=by have:=of_decide_eq_true aJ; simp only [Int.ofNat_lt] at this; exact this
  refine ⟨fun _=>⟨by omega,by omega⟩,?_⟩
  refine ⟨fun _=>by omega,?_⟩
  have hlen:(q.i+q.j) / 2<l.length:=by omega
  have bp:=List.getElem?_eq_getElem hlen
  refine .inr ⟨[0,1,2,3,4,5,6,7,8],[.dv (I ((q.i+q.j) / 2:Nat)),.ptr 8 0,.ptr 7 0,.ptr 6 0],QF s it tick,0,_,_,Ns s it tick l hs ((q.i+q.j) / 2) _ bp hb,by kernel_rfl,by kernel_rfl,⟨?_,rfl,rfl,rfl,tv⟩,⟨⟨rf,rf,rf,rf,rf,rf,rfl,rfl,rfl,rfl,rfl,tv⟩,⟨rfl,rfl⟩,⟨rfl,rfl⟩,⟨rfl,rfl⟩,⟨rfl,rfl⟩,⟨rfl,rfl⟩,⟨rfl,tv⟩,⟨rf,tv⟩,⟨rfl,tv⟩,tv⟩,?_⟩
  ·rw [lO (by omega)]; exact rf
  ·refine ⟨fun hb=>?_,fun hb=>?_⟩
   ·have cO:¬ tick - s.ab<l[(q.i+q.j) / 2].tick:=by simpa using hb
    have Qg:(q.i+q.j) / 2<k:=by
     rcases Nat.lt_or_ge ((q.i+q.j) / 2) k with h | h
     ·exact h
     ·exact absurd (h2 _ _ h bp) cO
    rw [lO (by omega)]
    refine ⟨fun _=>⟨by omega,by omega⟩,?_⟩
    exact ⟨⟨(q.i+q.j) / 2+1,q.j⟩,⟨⟨⟨rfl,rfl,rfl,rfl,tv⟩,aB (by simp),rf,tv⟩,⟨⟨rf,rf,rf,rf,rf,rf,rfl,rfl,rfl,rfl,rfl,tv⟩,⟨rfl,rfl⟩,⟨rfl,rfl⟩,⟨rfl,rfl⟩,⟨rfl,rfl⟩,⟨rfl,rfl⟩,⟨rfl,tv⟩,⟨rf,tv⟩,⟨rfl,tv⟩,tv⟩,rfl,rfl⟩,⟨Qg,p2,p3⟩,by simp only; omega⟩
   ·have cO:tick - s.ab<l[(q.i+q.j) / 2].tick:=by simpa using hb
    have Qh:k≤(q.i+q.j) / 2:=by
     rcases Nat.lt_or_ge ((q.i+q.j) / 2) k with h | h
     ·exact absurd cO (h1 _ _ h bp)
     ·exact h
    rw [lO (by omega)]
    exact ⟨⟨q.i,(q.i+q.j) / 2⟩,⟨⟨⟨rfl,rfl,rfl,rfl,tv⟩,rf,rf,tv⟩,⟨⟨rf,rf,rf,rf,rf,rf,rfl,rfl,rfl,rfl,rfl,tv⟩,⟨rfl,rfl⟩,⟨rfl,rfl⟩,⟨rfl,rfl⟩,⟨rfl,rfl⟩,⟨rfl,rfl⟩,⟨rfl,tv⟩,⟨rf,tv⟩,⟨rfl,tv⟩,tv⟩,rfl,rfl⟩,⟨p1,Qh,by simp only; omega⟩,by simp only; omega⟩
 ·have dw:¬ q.i<q.j:=by have:=of_decide_eq_false dw; omega
  have yw:q.i=k:=by omega
  exact ⟨_,_,⟨rfl,rfl⟩,by kernel_rfl,⟨aB (by rw [yw]),tv⟩,⟨rf,rf,rf,rf,rf,rf,rfl,rfl,rfl,rfl,rfl,tv⟩,⟨rfl,rfl⟩,⟨rfl,rfl⟩,⟨rfl,rfl⟩,⟨rfl,rfl⟩,⟨rfl,rfl⟩,⟨rfl,tv⟩,⟨rf,tv⟩,⟨rfl,tv⟩,tv⟩
def Ue (s:Vs) (tick:Int):ah:=vK false s++[(6,.cells [.ptr 0 0]),(7,.cells [.dv (I tick)]),(8,.cells [.dv .aG])]
def QG (K:ah) (_:Unit):bo:=⟨9,[(5,.dv (I 0)),(6,.dv (I 0))],K⟩
theorem xE (s:Vs) (tick:Int):bj Tryz.prog 40 [.dv (I 0),.fn 41 [.ptr 8 0,.ptr 7 0,.ptr 6 0]] 9 (Ue s tick) 0 [.dv (I 0)] (Ue s tick):=by
 refine bl aK mixed (aq _) (ar _) Tryz.func40 rfl rfl (by kernel_rfl) ?_
 refine ⟨Unit,QG (Ue s tick),fun _=>True,fun _=>0,(),fun _=>rfl,⟨⟨rf,rf,tv⟩,⟨⟨rf,rf,rf,rf,rf,rf,rfl,rfl,rfl,rfl,rfl,tv⟩,⟨rfl,rfl⟩,⟨rfl,rfl⟩,⟨rfl,rfl⟩,⟨rfl,rfl⟩,⟨rfl,rfl⟩,⟨rfl,tv⟩,⟨rf,tv⟩,⟨rf,tv⟩,tv⟩,rfl,rfl⟩,tv,?_⟩
 rintro _ _
 refine ⟨fun h=>by simp at h,fun _=>?_⟩
 exact ⟨_,_,⟨rfl,rfl⟩,by kernel_rfl,⟨rf,tv⟩,⟨rf,rf,rf,rf,rf,rf,rfl,rfl,rfl,rfl,rfl,tv⟩,⟨rfl,rfl⟩,⟨rfl,rfl⟩,⟨rfl,rfl⟩,⟨rfl,rfl⟩,⟨rfl,rfl⟩,⟨rfl,tv⟩,⟨rf,tv⟩,⟨rf,tv⟩,tv⟩
theorem AM (s:Vs) (it tick:Int):(bif bif decide (it<0) then true else decide (4≤it) then true else decide (tick<s.last))=decide (it<0 ∨ 4≤it ∨ tick<s.last):=by by_cases h1:it<0 <;> by_cases h2:4≤it <;> simp [h1,h2]
def Sl.zero:Sl:=⟨0,0,0,0,0⟩
def jO (s:Vs) (it:Nat) (l:List Sl) (k:Nat):List Int × Bool :=
 if k=l.length then ([0,0,0,0,0],false) else
 ([(it:Int),s.coin,(l.getD (l.length - 1) Sl.zero).bN - ((l.getD k Sl.zero).bN - (l.getD k Sl.zero).n),(l.getD (l.length - 1) Sl.zero).cz - ((l.getD k Sl.zero).cz - (l.getD k Sl.zero).c),(l.getD (l.length - 1) Sl.zero).c.tdiv (l.getD (l.length - 1) Sl.zero).n],true)
def CR (l:List Int):AV:=.agg (l.map fun n=>.dv (I n))
set_option maxHeartbeats 4000000 in
theorem CS (s:Vs) (it tick:Int) (h:it<0 ∨ 4≤it ∨ tick<s.last):bj Tryz.prog 17 [.ptr 0 0,.dv (I it),.dv (I tick)] 6 (vK false s) 0 [CR [0,0,0,0,0],.dv (B false)] (vK false s):=by
 refine bl aK mixed (aq _) (ar _) Tryz.func17 rfl rfl (by kernel_rfl) ?_
 repeat first | refine ⟨id,?_⟩ | refine ⟨fun _ h=>cx h,?_⟩ | refine ⟨fun _ h=>ax h,?_⟩ | refine ⟨fun h=>⟨h,fun h2=>aP h h2⟩,?_⟩ | refine ⟨fun h=>⟨h,fun h2=>aC h h2⟩,?_⟩
 refine ⟨by kernel_rfl,fun _=>?_,fun h'=>absurd h (of_decide_eq_false ((AM s it tick).symm.trans h'))⟩
 exact ⟨_,_,⟨rfl,rfl⟩,by kernel_rfl,⟨⟨rf,rf,rf,rf,rf,tv⟩,rf,tv⟩,⟨rf,rf,rf,rf,rf,rf,rfl,rfl,rfl,rfl,rfl,tv⟩,⟨rfl,rfl⟩,⟨rfl,rfl⟩,⟨rfl,rfl⟩,⟨rfl,rfl⟩,⟨rfl,rfl⟩,tv⟩
set_option maxHeartbeats 4000000 in
theorem nE (s:Vs) (it:Nat) (tick:Int) (h4:it<4) (hl:s.sl.length=4) (ht:s.last≤tick) (l:List Sl) (hs:s.sl[it]?=some (false,l)) (k:Nat) (hk:k≤l.length) (Qq:l.length≤1000) (hb:-9223372036854775808≤tick - s.ab∧tick - s.ab≤9223372036854775807)
  (h1:∀i y,i<k→l[i]?=some y→¬ tick - s.ab<y.tick) (h2:∀i y,k≤i→l[i]?=some y→tick - s.ab<y.tick)
  (hn:∀y,y∈l→1≤y.n∧y.n≤1152921504606846976∧1≤y.c∧y.c≤1152921504606846976∧0≤y.bN∧y.bN≤1152921504606846976∧0≤y.cz∧y.cz≤1152921504606846976) :
  bj Tryz.prog 17 [.ptr 0 0,.dv (I it),.dv (I tick)] 6 (vK false s) 0 [CR (jO s it l k).1,.dv (B (jO s it l k).2)] (vK false s):=by
 have gD:(s.sl.map mE)[it]?=some (.ay 5 (l.map bU)):=by rw [List.getElem?_map,hs]; rfl
 have tL:=AL s it tick l gD k hk Qq hb h1 h2
 refine bl aK mixed (aq _) (ar _) Tryz.func17 rfl rfl (by kernel_rfl) ?_
 repeat first | refine ⟨id,?_⟩ | refine ⟨fun _ h=>cx h,?_⟩ | refine ⟨fun _ h=>ax h,?_⟩ | refine ⟨fun h=>⟨h,fun h2=>aP h h2⟩,?_⟩ | refine ⟨fun h=>⟨h,fun h2=>aC h h2⟩,?_⟩
 refine ⟨by kernel_rfl,fun h'=>?_,fun _=>?_⟩
 ·have:=of_decide_eq_true ((AM s it tick).symm.trans h'); omega
 refine ⟨fun _=>⟨by omega,by rw [List.length_map]; omega⟩,.ay 5 (l.map bU),fun _=>gD,?_⟩
 refine ⟨.ay 5 (l.map bU),fun _=>gD,?_⟩
 refine .inr ⟨[0,1,2,3,4,5,6,7,9],[.dv (I l.length),.fn 41 [.ptr 8 0,.ptr 7 0,.ptr 6 0]],QF s it tick,0,_,_,tL,by kernel_rfl,by kernel_rfl,⟨aB (by rw [List.length_map]),⟨rfl,rfl,rfl,rfl,tv⟩,tv⟩,⟨⟨rf,rf,rf,rf,rf,rf,rfl,rfl,rfl,rfl,rfl,tv⟩,⟨rfl,rfl⟩,⟨rfl,rfl⟩,⟨rfl,rfl⟩,⟨rfl,rfl⟩,⟨rfl,rfl⟩,⟨rfl,tv⟩,⟨rf,tv⟩,⟨rfl,tv⟩,tv⟩,?_⟩
 refine ⟨.ay 5 (l.map bU),fun _=>gD,?_⟩
 refine ⟨fun h'=>?_,fun h'=>?_⟩
 ·have D7:k=l.length:=by
   rw [List.length_map] at h'
   have h9:(k:Int)=(l.length:Int):=by simpa using h'
   omega
  rw [show jO s it l k=([0,0,0,0,0],false) from if_pos D7]
  exact ⟨_,_,⟨rfl,rfl⟩,by kernel_rfl,⟨⟨rf,rf,rf,rf,rf,tv⟩,rf,tv⟩,⟨rf,rf,rf,rf,rf,rf,rfl,rfl,rfl,rfl,rfl,tv⟩,⟨rfl,rfl⟩,⟨rfl,rfl⟩,⟨rfl,rfl⟩,⟨rfl,rfl⟩,⟨rfl,rfl⟩,tv⟩
 have D7:k<l.length:=by
  rw [List.length_map] at h'
  have h9:¬ (k:Int)=(l.length:Int):=by simpa using h'
  omega
 have S7:l[k]?=some (l.getD k Sl.zero):=by rw [List.getD_eq_getElem?_getD,List.getElem?_eq_getElem D7]; rfl
 have S8:l[l.length - 1]?=some (l.getD (l.length - 1) Sl.zero):=by rw [List.getD_eq_getElem?_getD,List.getElem?_eq_getElem (by omega)]; rfl
 have ZC:=hn _ (List.mem_of_getElem? S7)
 have ZD:=hn _ (List.mem_of_getElem? S8)
 have Pw:jO s it l k=([(it:Int),s.coin,(l.getD (l.length - 1) Sl.zero).bN - ((l.getD k Sl.zero).bN - (l.getD k Sl.zero).n),(l.getD (l.length - 1) Sl.zero).cz - ((l.getD k Sl.zero).cz - (l.getD k Sl.zero).c),(l.getD (l.length - 1) Sl.zero).c.tdiv (l.getD (l.length - 1) Sl.zero).n],true):=if_neg (by omega)
 rw [Pw]
 generalize l.getD k Sl.zero=xk at *
 generalize l.getD (l.length - 1) Sl.zero=y at *
 have W3:(l.map bU)[((k:Int)).toNat]?=some (bU xk):=by rw [Int.toNat_natCast,List.getElem?_map,S7]; rfl
 have WU:(l.map bU).length=l.length:=List.length_map ..
 have W4:(l.map bU)[((((l.map bU).length:Nat):Int) - 1).toNat]?=some (bU y):=by
  rw [WU,show ((l.length:Int) - 1).toNat=l.length - 1 by omega,List.getElem?_map,S8]; rfl
 repeat first | refine ⟨.ay 5 (l.map bU),fun _=>gD,?_⟩ | refine ⟨bU xk,fun _=>W3,?_⟩ | refine ⟨bU y,fun _=>W4,?_⟩ | refine ⟨by kernel_rfl,?_⟩ | refine ⟨fun _=>⟨by omega,by omega⟩,?_⟩
 have YN:0≤y.c.tdiv y.n:=Int.tdiv_nonneg (by omega) (by omega)
 have YO:y.c.tdiv y.n≤y.c:=Int.tdiv_le_self y.n (by omega)
 refine ⟨fun _ h=>by omega,?_⟩
 repeat first | refine ⟨.ay 5 (l.map bU),fun _=>gD,?_⟩ | refine ⟨bU xk,fun _=>W3,?_⟩ | refine ⟨bU y,fun _=>W4,?_⟩ | refine ⟨by kernel_rfl,?_⟩ | refine ⟨fun _=>⟨by omega,by omega⟩,?_⟩
 exact ⟨_,_,⟨rfl,rfl⟩,by kernel_rfl,⟨⟨rf,rf,rf,rf,rf,tv⟩,rf,tv⟩,⟨rf,rf,rf,rf,rf,rf,rfl,rfl,rfl,rfl,rfl,tv⟩,⟨rfl,rfl⟩,⟨rfl,rfl⟩,⟨rfl,rfl⟩,⟨rfl,rfl⟩,⟨rfl,rfl⟩,tv⟩
set_option maxHeartbeats 4000000 in
theorem CT (s:Vs) (it:Nat) (tick:Int) (h4:it<4) (hl:s.sl.length=4) (ht:s.last≤tick) (l:List Sl) (hs:s.sl[it]?=some (true,l)) :
  bj Tryz.prog 17 [.ptr 0 0,.dv (I it),.dv (I tick)] 6 (vK false s) 0 [CR [0,0,0,0,0],.dv (B false)] (vK false s):=by
 have gD:(s.sl.map mE)[it]?=some .aG:=by rw [List.getElem?_map,hs]; rfl
 refine bl aK mixed (aq _) (ar _) Tryz.func17 rfl rfl (by kernel_rfl) ?_
 repeat first | refine ⟨id,?_⟩ | refine ⟨fun _ h=>cx h,?_⟩ | refine ⟨fun _ h=>ax h,?_⟩ | refine ⟨fun h=>⟨h,fun h2=>aP h h2⟩,?_⟩ | refine ⟨fun h=>⟨h,fun h2=>aC h h2⟩,?_⟩
 refine ⟨by kernel_rfl,fun h'=>?_,fun _=>?_⟩
 ·have:=of_decide_eq_true ((AM s it tick).symm.trans h'); omega
 refine ⟨fun _=>⟨by omega,by rw [List.length_map]; omega⟩,.aG,fun _=>gD,?_⟩
 refine .inr ⟨[0,1,2,3,4,5,6,7,9],[.dv (I 0),.fn 41 [.ptr 8 0,.ptr 7 0,.ptr 6 0]],Ue s tick,0,_,_,xE s tick,by kernel_rfl,by kernel_rfl,⟨rf,⟨rfl,rfl,rfl,rfl,tv⟩,tv⟩,⟨⟨rf,rf,rf,rf,rf,rf,rfl,rfl,rfl,rfl,rfl,tv⟩,⟨rfl,rfl⟩,⟨rfl,rfl⟩,⟨rfl,rfl⟩,⟨rfl,rfl⟩,⟨rfl,rfl⟩,⟨rfl,tv⟩,⟨rf,tv⟩,⟨rf,tv⟩,tv⟩,?_⟩
 refine ⟨fun _=>?_,fun h=>by simp at h⟩
 exact ⟨_,_,⟨rfl,rfl⟩,by kernel_rfl,⟨⟨rf,rf,rf,rf,rf,tv⟩,rf,tv⟩,⟨rf,rf,rf,rf,rf,rf,rfl,rfl,rfl,rfl,rfl,tv⟩,⟨rfl,rfl⟩,⟨rfl,rfl⟩,⟨rfl,rfl⟩,⟨rfl,rfl⟩,⟨rfl,rfl⟩,tv⟩
end Go.Proofs.YtpbdohkbiklflaaGreatDoor
namespace Go.Proofs.YtpbdohkbiklflaaGreatDoor
open Go.TM
variable [cP]
def S9 (it:Int) (p:EU) (q:Int × Int × Int × Int):EU:=if q.1=it then ⟨p.bN+q.2.2.1,p.cz+q.2.2.2,q.2.2.2.tdiv q.2.2.1⟩ else p
theorem CU (coin thr it:Int):∀(l:List St) (p:EU),l.foldl (dL coin thr it) p=(kZ coin thr l).foldl (S9 it) p
 | [],_=>rfl
 | s::r,p=>by
  rw [List.foldl_cons,CU coin thr it r]
  unfold kZ
  by_cases h:(bm coin s && decide (thr<s.tick))=true
  ·rw [List.filter_cons_of_pos (p:=fun x=>bm coin x && decide (thr<x.tick)) h,List.map_cons,List.foldl_cons]
   congr 1
   simp at h
   unfold dL S9 SZ
   simp [h.1,h.2]
  ·rw [List.filter_cons_of_neg (p:=fun x=>bm coin x && decide (thr<x.tick)) h]
   congr 1
   unfold dL
   rw [if_neg]
   rintro ⟨h1,_,h2⟩
   simp [h1,h2] at h
def Lg (p:EU) (x:Sl):EU:=⟨p.bN+x.n,p.cz+x.c,x.c.tdiv x.n⟩
theorem Lh (it:Nat):∀(S:SS) (p:EU),(S.map AK).foldl (S9 it) p=(bC S it).foldl Lg p
 | [],_=>rfl
 | q::r,p=>by
  rw [List.map_cons,List.foldl_cons,Lh it r]
  unfold bC
  by_cases h:q.1=it
  ·rw [List.filter_cons_of_pos (by simpa using h),List.map_cons,List.foldl_cons]
   congr 1
   unfold S9 AK Lg
   rw [if_pos (by simp only; rw [h])]
  ·rw [List.filter_cons_of_neg (by simpa using h)]
   congr 1
   unfold S9 AK
   rw [if_neg (by simp only; omega)]
theorem Fb (S:SS) (it:Nat) (q:Int→Bool):bC (S.filter fun p=>q p.2.tick) it=(bC S it).filter fun x=>q x.tick:=by
 unfold bC
 rw [List.filter_map,List.filter_filter,List.filter_filter]
 congr 1
 refine List.filter_congr fun x _=>?_
 simp [Bool.and_comm]
theorem wH:∀(r:List Sl) (x:Sl) (p:EU),ka (x::r) →
  (x::r).foldl Lg p=⟨p.bN+(((x::r).getLast (by simp)).bN - (x.bN - x.n)),p.cz+(((x::r).getLast (by simp)).cz - (x.cz - x.c)),((x::r).getLast (by simp)).c.tdiv ((x::r).getLast (by simp)).n⟩
 | [],x,p,_=>by
  show Lg p x=_
  unfold Lg
  simp only [List.getLast_singleton,EU.mk.injEq,and_true]
  omega
 | y::r,x,p,h=>by
  have h1:=h 0 x y rfl rfl
  have h2:ka (y::r):=fun j a b ha hb=>h (j+1) a b ha hb
  rw [List.foldl_cons,wH r y (Lg p x) h2]
  rw [List.getLast_cons (List.cons_ne_nil y r)]
  unfold Lg
  simp only [EU.mk.injEq,and_true]
  omega
theorem yX:∀(r:List Sl) (p:EU),(∀x∈r,1≤x.n)→p.bN+r.length≤(r.foldl Lg p).bN
 | [],p,_=>by simp
 | x::r,p,h=>by
  have:=yX r (Lg p x) fun y hy=>h y (List.mem_cons_of_mem _ hy)
  have h1:=h x List.mem_cons_self
  rw [List.foldl_cons,List.length_cons]
  unfold Lg at this ⊢
  simp only at this
  omega
theorem CV:∀{l:List Sl} (_:l.Pairwise fun x y=>x.tick≤y.tick) (thr:Int),∃k,k≤l.length∧(∀i y,i<k→l[i]?=some y→¬ thr<y.tick)∧(∀i y,k≤i→l[i]?=some y→thr<y.tick)∧l.filter (fun x=>decide (thr<x.tick))=l.drop k
 | [],_,thr=>⟨0,Nat.le_refl _,fun i y h=>by omega,fun i y _ h=>by simp at h,rfl⟩
 | x::r,h,thr=>by
  rw [List.pairwise_cons] at h
  by_cases hx:thr<x.tick
  ·refine ⟨0,Nat.zero_le _,fun i y h=>by omega,fun i y _ hy=>?_,?_⟩
   ·rcases List.mem_cons.1 (List.mem_of_getElem? hy) with rfl | hy
    ·exact hx
    ·have:=h.1 y hy; omega
   ·rw [List.drop_zero,List.filter_eq_self.2]
    intro y hy
    rcases List.mem_cons.1 hy with rfl | hy
    ·simpa using hx
    ·have:=h.1 y hy; simp; omega
  ·obtain ⟨k,h1,h2,h3,h4⟩:=CV h.2 thr
   refine ⟨k+1,by rw [List.length_cons]; omega,fun i y hi hy=>?_,fun i y hi hy=>?_,?_⟩
   ·match i,hy with
    | 0,hy=>simp at hy; subst hy; exact hx
    | i+1,hy=>exact h2 i y (by omega) (by simpa using hy)
   ·match i,hi,hy with
    | i+1,hi,hy=>exact h3 i y (by omega) (by simpa using hy)
   ·rw [List.filter_cons_of_neg (by simpa using hx),h4,List.drop_succ_cons]
def qX (v:RV) (it:Int) (thr:Int):List Int × Bool :=
 if (ow v.coin thr it v.steps).bN=0 then ([0,0,0,0,0],false) else ([it,v.coin,(ow v.coin thr it v.steps).bN,(ow v.coin thr it v.steps).cz,(ow v.coin thr it v.steps).last],true)
theorem Rl.Ta {s:Vs} {S:SS} {N:Nat} {v:RV} (h:Rl s S N v) (it:Nat) {tick:Int} (ht:s.last≤tick) :
  ∃k,k≤(bC S it).length∧(∀i y,i<k→(bC S it)[i]?=some y→¬ tick - s.ab<y.tick)∧(∀i y,k≤i→(bC S it)[i]?=some y→tick - s.ab<y.tick)∧jO s it (bC S it) k=qX v it (tick - s.ab):=by
 have VL:(bC S it).Pairwise fun x y=>x.tick≤y.tick:=by
  unfold bC
  rw [List.pairwise_map]
  exact (h.ok.IL.ord).filter _
 obtain ⟨k,h1,h2,h3,h4⟩:=CV VL (tick - s.ab)
 refine ⟨k,h1,h2,h3,?_⟩
 have hp:ow v.coin (tick - s.ab) it v.steps=((bC S it).drop k).foldl Lg ⟨0,0,0⟩:=by
  unfold ow
  rw [CU,h.coin,←tn s.coin (t:=s.last - s.ab) (u:=tick - s.ab) (by omega),←h.S3,←nD,Lh,Fb S it (fun t=>decide (tick - s.ab<t)),h4]
 unfold jO qX
 rw [hp]
 have YP:=h.ok.IL.chain it
 by_cases hk:k=(bC S it).length
 ·rw [if_pos hk,hk,List.drop_length]; rfl
 ·have aJ:k<(bC S it).length:=by omega
  have az:=List.drop_eq_getElem_cons aJ
  have fE:ka ((bC S it).drop k):=fun j x y hx hy=>YP (k+j) x y (by rw [List.getElem?_drop] at hx; exact hx) (by rw [List.getElem?_drop] at hy; exact hy)
  have eJ:=yX ((bC S it).drop k) ⟨0,0,0⟩ fun x hx=>(h.ok.IL.val _ (AG (List.mem_of_mem_drop hx))).1
  rw [List.length_drop] at eJ
  simp only at eJ
  rw [if_neg hk,if_neg (by omega)]
  have bD:(bC S it).drop k ≠ []:=by rw [az]; exact List.cons_ne_nil _ _
  have mQ:(bC S it).getD ((bC S it).length - 1) Sl.zero=((bC S it).drop k).getLast bD:=by
   rw [List.getLast_eq_getElem,List.getElem_drop,List.getD_eq_getElem?_getD,List.getElem?_eq_getElem (by omega)]
   simp only [Option.getD_some,List.length_drop]
   congr 1; omega
  have VM:(bC S it).getD k Sl.zero=(bC S it)[k]:=by rw [List.getD_eq_getElem?_getD,List.getElem?_eq_getElem aJ]; rfl
  rw [mQ,VM]
  have YQ:=wH ((bC S it).drop (k+1)) (bC S it)[k] ⟨0,0,0⟩ (by rw [←az]; exact fE)
  have pP:∀(l r:List Sl) (h1:l ≠ []) (h2:r ≠ []),l=r→l.getLast h1=r.getLast h2:=by intro l r h1 h2 h; subst h; rfl
  rw [pP _ _ bD (List.cons_ne_nil _ _) az,az,YQ,h.coin]
  simp
end Go.Proofs.YtpbdohkbiklflaaGreatDoor
namespace Go.Proofs.YtpbdohkbiklflaaGreatDoor
open Go.TM
variable [cP]
set_option maxRecDepth 100000
end Go.Proofs.YtpbdohkbiklflaaGreatDoor
namespace Go.Proofs.YtpbdohkbiklflaaGreatDoor
open Go.TM
variable [cP]
set_option maxRecDepth 100000
def VN (st:St):ao:=.cells [.dv (I st.id),.dv (I st.kind),.dv (I st.GI),.dv (I st.tick),.dv (I st.M8),.dv (I st.times),.dv (Au st.mv)]
theorem Li (m:Mv):(bif bif bif bif bif bif bif bif decide (m.it<0) then true else decide (4≤m.it) then true else decide (m.n<1) then true else decide (1099511627776<m.n) then true else decide (m.f<0) then true else decide (1073741824<m.f) then true else decide (m.t<0) then true else decide (1073741824<m.t) then true else decide (m.f=m.t))=iO m:=by
 unfold iO qP
 have e:∀a:Int,(!(decide (0≤a) && decide (a≤1073741824)))=(bif decide (a<0) then true else decide (1073741824<a)):=by
  intro a
  by_cases h1:0≤a <;> by_cases h2:a≤1073741824 <;> simp [h1,h2] <;> omega
 rw [e,e]
 cases decide (m.it<0) <;> cases decide (4≤m.it) <;> cases decide (m.n<1) <;> cases decide (1099511627776<m.n) <;> cases decide (m.f<0) <;> cases decide (1073741824<m.f) <;> cases decide (m.t<0) <;> cases decide (1073741824<m.t) <;> rfl
theorem OP (s:St):sL (fW s)=fW s:=rfl
def Tb (v:RV) (st:St) (i:Nat):bo:=⟨1,[(0,.dv (IJ v)),(3,.ptr 0 0),(5,.dv (I i))],[(0,VN st)]⟩
set_option maxHeartbeats 4000000 in
theorem Fc (v:RV) (hl:sj v.steps) (Sp:v.steps.length≤50) (st:St) (VO:st.mv.length≤4):cL Tryz.prog 44 [IJ v,fW st] [I (ov v.steps [] st.mv)]:=by
 refine bE aK mixed (aq _) (ar _) Tryz.func44 rfl (by kernel_rfl) rfl ?_
 refine ⟨Nat,Tb v st,fun i=>i≤st.mv.length∧ov v.steps (st.mv.take i) (st.mv.drop i)=ov v.steps [] st.mv∧∀m∈st.mv.take i,iO m=false,fun i=>st.mv.length - i,0,fun _=>rfl,⟨⟨rf,rfl,rf,tv⟩,⟨⟨rf,rf,rf,rf,rf,rf,rf,tv⟩,tv⟩,rfl,rfl⟩,⟨by omega,by simp,by simp⟩,?_⟩
 rintro i ⟨hi,xF,G7⟩
 refine ⟨fun h=>?_,fun h=>?_⟩
 ·have hk:i<st.mv.length:=by simpa using h
  have hs:=List.getElem?_eq_getElem hk
  have az:=List.drop_eq_getElem_cons hk
  generalize st.mv[i]=m at hs az
  have iQ:(st.mv.map cD)[((i:Int)).toNat]?=some (cD m):=by rw [Int.toNat_natCast,List.getElem?_map,hs]; rfl
  rw [az,ov] at xF
  have aJ:st.mv.length - (i+1)<st.mv.length - i:=by omega
  refine ⟨cD m,fun _=>⟨by omega,iQ⟩,?_⟩
  repeat first | refine ⟨id,?_⟩ | refine ⟨fun _ h=>cx h,?_⟩ | refine ⟨fun _ h=>ax h,?_⟩ | refine ⟨fun h=>⟨h,fun h2=>aP h h2⟩,?_⟩ | refine ⟨fun h=>⟨h,fun h2=>aC h h2⟩,?_⟩
  refine ⟨by kernel_rfl,fun hc=>?_,fun hc=>?_⟩
  ·have hc:=(Li m).symm.trans hc
   rw [if_pos hc] at xF
   exact ⟨aB xF,tv⟩
  have hc:=(Li m).symm.trans hc
  rw [if_neg (by rw [hc]; simp)] at xF
  obtain ⟨b1,b2,b3,b4,b5,b6,b7⟩:=qR hc
  have OF:List.drop (Option.getD none (0:Int)).toNat (List.take (Option.getD (some (i:Int)) ((st.mv.map cD).length:Int)).toNat (st.mv.map cD))=(st.mv.take i).map cD:=by
   simp [List.map_take]
  have yx:∀q:List St,(q.map fW).length=q.length:=fun q=>List.length_map ..
  refine ⟨fun _=>⟨Int.le_refl _,by show (0:Int)≤(i:Int); omega,by show (i:Int)≤((st.mv.map cD).length:Int); rw [List.length_map]; omega⟩,.inr ⟨v.steps.map fW,eO.refl _,by rw [Nc,yx]; omega,by rw [yx]; omega,?_⟩⟩
  have HY:st.mv.take (i+1)=st.mv.take i++[m]:=by rw [List.take_add_one,hs]; rfl
  have Tc:∀x∈st.mv.take (i+1),iO x=false:=by
   rw [HY]; intro x hx
   rcases List.mem_append.1 hx with hx | hx
   ·exact G7 x hx
   ·simp only [List.mem_singleton] at hx; subst hx; exact hc
  by_cases h0:m.f=0
  ·have hg:bw (m.f != 0) true=false:=by rw [h0]; rfl
   have YR:(m.f != 0)=false:=by rw [h0]; rfl
   refine .inr (.inl ⟨hg,?_⟩)
   refine .inr (.inl ⟨hg,?_⟩)
   repeat first | refine ⟨id,?_⟩ | refine ⟨fun _ h=>cx h,?_⟩ | refine ⟨fun _ h=>ax h,?_⟩ | refine ⟨fun h=>⟨h,fun h2=>aP h h2⟩,?_⟩ | refine ⟨fun h=>⟨h,fun h2=>aC h h2⟩,?_⟩
   refine .inl ⟨hg,[I 0],(fun h=>by rw [hg] at h; cases h),rfl,?_⟩
   repeat first | refine ⟨id,?_⟩ | refine ⟨fun _ h=>cx h,?_⟩ | refine ⟨fun _ h=>ax h,?_⟩ | refine ⟨fun h=>⟨h,fun h2=>aP h h2⟩,?_⟩ | refine ⟨fun h=>⟨h,fun h2=>aC h h2⟩,?_⟩
   have hn:¬ (m.f ≠ 0∧bh m.f m.it (v.steps++[⟨0,0,0,0,0,0,st.mv.take i⟩])<m.n):=by rintro ⟨h9,_⟩; exact h9 h0
   rw [if_neg hn] at xF
   refine ⟨by kernel_rfl,fun fE=>?_,fun _=>?_⟩
   ·rw [YR] at fE; cases fE
   ·exact ⟨fun _=>⟨by omega,by omega⟩,i+1,⟨⟨rf,rfl,aB (by omega),tv⟩,⟨⟨rf,rf,rf,rf,rf,rf,rf,tv⟩,tv⟩,rfl,rfl⟩,⟨by omega,by rw [HY]; exact xF,Tc⟩,aJ⟩
  ·have hg:bw (m.f != 0) true=true:=ax (by simpa using h0)
   refine .inr (.inr ⟨hg,fun _=>hg,.inl ⟨[fW ⟨0,0,0,0,0,0,st.mv.take i⟩],rfl,⟨rf,rf,rf,rf,rf,rf,DV.Le.of_eq (congrArg (DV.sl 5) OF),tv⟩,(by simp; rfl),?_⟩⟩)
   refine .inr (.inr ⟨hg,fun _=>hg,.inr ⟨[fW ⟨0,0,0,0,0,0,st.mv.take i⟩],eO.refl _,by rw [Nc,yx]; simp; omega,by rw [yx]; simp; omega,?_⟩⟩)
   repeat first | refine ⟨id,?_⟩ | refine ⟨fun _ h=>cx h,?_⟩ | refine ⟨fun _ h=>ax h,?_⟩ | refine ⟨fun h=>⟨h,fun h2=>aP h h2⟩,?_⟩ | refine ⟨fun h=>⟨h,fun h2=>aC h h2⟩,?_⟩
   have iE:sL (DV.ay 7 (v.steps.map fW++[fW ⟨0,0,0,0,0,0,st.mv.take i⟩]))=jJ (v.steps++[(⟨0,0,0,0,0,0,st.mv.take i⟩:St)]):=by
    show DV.sl 7 (HO (v.steps.map fW++[fW ⟨0,0,0,0,0,0,st.mv.take i⟩]))=DV.sl 7 ((v.steps++[(⟨0,0,0,0,0,0,st.mv.take i⟩:St)]).map fW)
    rw [show v.steps.map fW++[fW ⟨0,0,0,0,0,0,st.mv.take i⟩]=(v.steps++[(⟨0,0,0,0,0,0,st.mv.take i⟩:St)]).map fW by simp,tZ OP]
   have CW:sj (v.steps++[(⟨0,0,0,0,0,0,st.mv.take i⟩:St)]):=by
    refine ⟨by rw [List.length_append]; simp; omega,fun s hs=>?_⟩
    rcases List.mem_append.1 hs with hs | hs
    ·exact hl.2 s hs
    ·simp only [List.mem_singleton] at hs; subst hs
     exact ⟨by simp only [List.length_take]; omega,fun x hx=>by have:=qR (G7 x hx); omega⟩
   have W5:=jb _ m.f m.it CW
   rw [←iE] at W5
   refine .inl (.inl ⟨_,fun _=>W5.ok,rfl,?_⟩)
   repeat first | refine ⟨id,?_⟩ | refine ⟨fun _ h=>cx h,?_⟩ | refine ⟨fun _ h=>ax h,?_⟩ | refine ⟨fun h=>⟨h,fun h2=>aP h h2⟩,?_⟩ | refine ⟨fun h=>⟨h,fun h2=>aC h h2⟩,?_⟩
   have OQ:∀r:Int,(bif m.f != 0 then decide (r<m.n) else false)=decide (r<m.n):=fun r=>by rw [show (m.f != 0)=true by simpa using h0]; rfl
   refine ⟨by kernel_rfl,fun fE=>?_,fun fE=>?_⟩
   ·have fE:=of_decide_eq_true ((OQ _).symm.trans fE)
    rw [if_pos ⟨h0,fE⟩] at xF
    exact ⟨aB xF,tv⟩
   ·have fE:=of_decide_eq_false ((OQ _).symm.trans fE)
    rw [if_neg (fun h9=>fE h9.2)] at xF
    exact ⟨fun _=>⟨by omega,by omega⟩,i+1,⟨⟨rf,rfl,aB (by omega),tv⟩,⟨⟨rf,rf,rf,rf,rf,rf,rf,tv⟩,tv⟩,rfl,rfl⟩,⟨by omega,by rw [HY]; exact xF,Tc⟩,aJ⟩
 ·have hk:i=st.mv.length:=by
   have:¬ i<st.mv.length:=by simpa using h
   omega
  subst hk
  rw [List.drop_length] at xF
  exact ⟨aB xF,tv⟩
end Go.Proofs.YtpbdohkbiklflaaGreatDoor
namespace Go.Proofs.YtpbdohkbiklflaaGreatDoor
open Go.TM
variable [cP]
set_option maxRecDepth 100000
theorem AN (l r:List St):∀xs:List Int,py l r xs≤4 * xs.length
 | []=>Nat.le_refl _
 | a::q=>by
  have h1:=AN l r q
  have h2:=ub (fun k=>!decide (bh a (k:Nat) l=bh a (k:Nat) r)) 4
  unfold py at h1 ⊢
  rw [List.map_cons,List.sum_cons,List.length_cons]
  have h3:Rh a l r=(List.range 4).countP fun k=>!decide (bh a (k:Nat) l=bh a (k:Nat) r):=rfl
  omega
theorem GV {steps:List St}:∀{r b:List Mv},ov steps b r=0→∀m∈r,iO m=false
 | [],_,_,m,hm=>by cases hm
 | v::r,b,h,m,hm=>by
  rw [ov] at h
  split at h
  ·cases h
  rename_i hb
  split at h
  ·cases h
  rcases List.mem_cons.1 hm with rfl | hm
  ·simpa using hb
  ·exact GV h m hm
def Td (v:RV) (st:St) (i:Nat):bo:=⟨2,[(0,.own 0 0 0 []),(3,.ptr 1 0),(6,.dv (jJ (v.steps++[st]))),(7,.dv (fV (cn (v.steps++[st])))),(8,.dv (I i))],Rm { v with work:=v.work+(py (v.steps++[st]) v.steps ((cn (v.steps++[st])).take i):Nat) }++[(1,VN st)]⟩
def QH (v:RV) (st:St) (i:Nat) (a:Int) (k:Nat):bo:=⟨2,[(0,.own 0 0 0 []),(3,.ptr 1 0),(6,.dv (jJ (v.steps++[st]))),(7,.dv (fV (cn (v.steps++[st])))),(8,.dv (I i)),(9,.dv (I k))],Rm { v with work:=v.work+(py (v.steps++[st]) v.steps ((cn (v.steps++[st])).take i)+(List.range k).countP fun k=>!decide (bh a (k:Nat) (v.steps++[st])=bh a (k:Nat) v.steps):Nat) }++[(1,VN st)]⟩
set_option maxHeartbeats 4000000 in
theorem Fe (v:RV) (hl:sj v.steps) (Sp:v.steps.length≤50) (st:St) (VO:st.mv.length≤4) (hw:0≤v.ab∧v.ab≤1099511627776) (SR:0≤v.work∧v.work≤1000000000000) (mQ:0≤bK v.steps∧bK v.steps≤1099511627776) :
  bj Tryz.prog 20 [.own 0 0 0 [],ES st] 1 (Rm v) 0 [.dv (I (kA v st))] (Rm (if kA v st=0 then pz v st else v)):=by
 refine bl aK mixed (aq _) (ar _) Tryz.func20 rfl rfl (by kernel_rfl) ?_
 refine .inl (.inl ⟨_,fun _=>(kX v (by omega)).ok,rfl,?_⟩)
 repeat first | refine ⟨id,?_⟩ | refine ⟨fun _ h=>cx h,?_⟩ | refine ⟨fun _ h=>ax h,?_⟩ | refine ⟨fun h=>⟨h,fun h2=>aP h h2⟩,?_⟩ | refine ⟨fun h=>⟨h,fun h2=>aC h h2⟩,?_⟩
 refine ⟨by kernel_rfl,fun hc=>?_,fun hc=>?_⟩
 ·have hc:st.tick<bK v.steps ∨ 1099511627776<st.tick:=by
   have hc:(bif decide (st.tick<bK v.steps) then true else decide (1099511627776<st.tick))=true:=hc
   simpa using hc
  have he:kA v st=1:=if_pos hc
  rw [he,if_neg (by decide)]
  exact ⟨_,_,⟨rfl,rfl⟩,by kernel_rfl,⟨rf,tv⟩,⟨rfl,rfl⟩,tv⟩
 have hc:¬ (st.tick<bK v.steps ∨ 1099511627776<st.tick):=by
  have hc:(bif decide (st.tick<bK v.steps) then true else decide (1099511627776<st.tick))=false:=hc
  rintro (h1 | h1) <;> simp [h1] at hc
 refine .inl (.inl ⟨_,fun _=>(Fc v hl Sp st VO).ok,rfl,?_⟩)
 refine ⟨fun h9=>?_,fun h9=>?_⟩
 ·have h9:ov v.steps [] st.mv ≠ 0:=by simpa using h9
  have he:kA v st=ov v.steps [] st.mv:=by unfold kA; rw [if_neg hc,if_pos h9]
  rw [he,if_neg h9]
  exact ⟨_,_,⟨rfl,rfl⟩,by kernel_rfl,⟨rf,tv⟩,⟨rfl,rfl⟩,tv⟩
 have h9:ov v.steps [] st.mv=0:=by simpa using h9
 have hE:kA v st=if v.aD<(yF v.coin v.ab (v.steps++[st]) st.tick:Int) then 22 else 0:=by
  unfold kA; rw [if_neg hc,if_neg (by rw [h9]; simp)]
 have Vw:=GV (b:=[]) h9
 have hlen:(v.steps++[st]).length=v.steps.length+1:=by rw [List.length_append]; rfl
 have CW:sj (v.steps++[st]):=by
  refine ⟨by omega,fun s hs=>?_⟩
  rcases List.mem_append.1 hs with hs | hs
  ·exact hl.2 s hs
  ·simp only [List.mem_singleton] at hs; subst hs
   exact ⟨VO,fun x hx=>by have:=qR (Vw x hx); omega⟩
 have iE:sL (DV.ay 7 (v.steps.map fW++[fW st]))=jJ (v.steps++[st]):=by
  show DV.sl 7 (HO (v.steps.map fW++[fW st]))=DV.sl 7 ((v.steps++[st]).map fW)
  rw [show v.steps.map fW++[fW st]=(v.steps++[st]).map fW by simp,tZ OP]
 have yx:∀q:List St,(q.map fW).length=q.length:=fun q=>List.length_map ..
 have HY:0≤st.tick∧st.tick≤1099511627776:=by omega
 have aT:=EY v (v.steps++[st]) CW st.tick (by omega)
 have Rd:=yH (v.steps++[st]) CW
 rw [←iE] at aT Rd
 refine .inr ⟨v.steps.map fW,eO.refl _,by rw [Nc,yx]; omega,by rw [yx]; omega,?_⟩
 refine .inl ⟨[fW st],rfl,⟨rf,rf,rf,rf,rf,rf,rf,tv⟩,(by simp; rfl),.inr ⟨[fW st],eO.refl _,by rw [Nc,yx]; simp; omega,by rw [yx]; simp; omega,?_⟩⟩
 refine .inl (.inl ⟨_,fun _=>aT.ok,rfl,?_⟩)
 refine ⟨by kernel_rfl,fun hz=>?_,fun hz=>?_⟩
 ·have hz:=of_decide_eq_true hz
  rw [if_pos hz] at hE
  rw [hE,if_neg (by decide)]
  exact ⟨_,_,⟨rfl,rfl⟩,by kernel_rfl,⟨rf,tv⟩,⟨rfl,rfl⟩,tv⟩
 have hz:=of_decide_eq_false hz
 rw [if_neg hz] at hE
 rw [hE,if_pos rfl]
 refine .inl (.inr ⟨_,fun _=>Rd.ok,?_⟩)
 have Rj:=EX CW
 refine ⟨Nat,Td v st,fun i=>i≤(cn (v.steps++[st])).length,fun i=>(cn (v.steps++[st])).length - i,0,fun _=>rfl,⟨⟨rfl,rfl,?_,rf,rf,tv⟩,⟨⟨rfl,?_⟩,⟨rf,rf,rf,rf,rf,rf,rf,tv⟩,tv⟩,rfl,rfl⟩,by omega,?_⟩
 ·exact DV.Le.of_eq iE
 ·show DV.cT (Qx v)=DV.cT (Qx { v with work:=v.work+(py (v.steps++[st]) v.steps ((cn (v.steps++[st])).take 0):Nat) })
  rw [List.take_zero,show py (v.steps++[st]) v.steps []=0 from rfl,show v.work+((0:Nat):Int)=v.work by omega]
 rintro i hi
 refine ⟨fun h=>?_,fun h=>?_⟩
 ·have hk:i<(cn (v.steps++[st])).length:=by simpa using h
  have hs:=List.getElem?_eq_getElem hk
  generalize (cn (v.steps++[st]))[i]=a at hs
  have iQ:((cn (v.steps++[st])).map I)[((i:Int)).toNat]?=some (I a):=by rw [Int.toNat_natCast,List.getElem?_map,hs]; rfl
  have QA:=AN (v.steps++[st]) v.steps ((cn (v.steps++[st])).take i)
  rw [List.length_take] at QA
  refine ⟨Nat,QH v st i a,fun k=>k≤4,fun k=>4 - k,0,fun _=>rfl,⟨⟨rfl,rfl,rf,rf,rf,rf,tv⟩,⟨⟨rfl,rfl⟩,⟨rf,rf,rf,rf,rf,rf,rf,tv⟩,tv⟩,rfl,rfl⟩,by omega,?_⟩
  rintro k Dw
  refine ⟨fun h=>?_,fun h=>?_⟩
  ·have H0:k<4:=by have:=of_decide_eq_true h; omega
   have cS:=Cy (fun k=>!decide (bh a (k:Nat) (v.steps++[st])=bh a (k:Nat) v.steps)) k
   have Nf:=ub (fun k=>!decide (bh a (k:Nat) (v.steps++[st])=bh a (k:Nat) v.steps)) k
   refine ⟨I a,fun _=>⟨by omega,iQ⟩,?_⟩
   refine .inl ⟨_,fun _=>(jb (v.steps++[st]) a k CW).ok,?_⟩
   refine ⟨I a,fun _=>⟨by omega,iQ⟩,?_⟩
   refine .inl ⟨_,fun _=>(jb v.steps a k hl).ok,?_⟩
   have aJ:4 - (k+1)<4 - k:=by omega
   refine ⟨by kernel_rfl,fun hc=>?_,fun hc=>?_⟩
   ·have hc:(!decide (bh a (k:Nat) (v.steps++[st])=bh a (k:Nat) v.steps))=true:=hc
    rw [if_pos hc] at cS
    generalize hD:py (v.steps++[st]) v.steps ((cn (v.steps++[st])).take i)=D at *
    generalize hC:(List.range k).countP (fun k=>!decide (bh a (k:Nat) (v.steps++[st])=bh a (k:Nat) v.steps))=C at *
    refine ⟨fun _=>⟨by show _≤v.work+((D+C:Nat):Int)+1; omega,by show v.work+((D+C:Nat):Int)+1≤_; omega⟩,?_⟩
    refine ⟨[I (v.work+((D+C:Nat):Int)+1)],⟨rf,tv⟩,?_⟩
    refine ⟨fun _=>⟨by omega,by omega⟩,k+1,⟨⟨rfl,rfl,rf,rf,rf,aB (by omega),tv⟩,⟨⟨rfl,?_⟩,⟨rf,rf,rf,rf,rf,rf,rf,tv⟩,tv⟩,rfl,rfl⟩,by omega,aJ⟩
    rw [hD,cS]
    show DV.cT (.agg [I 4,I v.coin,I v.ab,I v.aD,jJ v.steps,I (v.work+((D+C:Nat):Int)+1)])=DV.cT (.agg [I 4,I v.coin,I v.ab,I v.aD,jJ v.steps,I (v.work+((D+(C+1):Nat):Int))])
    rw [show v.work+((D+C:Nat):Int)+1=v.work+((D+(C+1):Nat):Int) by omega]
   ·have hc:(!decide (bh a (k:Nat) (v.steps++[st])=bh a (k:Nat) v.steps))=false:=hc
    rw [if_neg (by rw [hc]; simp)] at cS
    refine ⟨fun _=>⟨by omega,by omega⟩,k+1,⟨⟨rfl,rfl,rf,rf,rf,aB (by omega),tv⟩,⟨⟨rfl,?_⟩,⟨rf,rf,rf,rf,rf,rf,rf,tv⟩,tv⟩,rfl,rfl⟩,by omega,aJ⟩
    rw [cS]; rfl
  ·have H0:k=4:=by have:=of_decide_eq_false h; omega
   have cS:=Cz (f:=fun a=>Rh a (v.steps++[st]) v.steps) hs
   refine ⟨fun _=>⟨by omega,by omega⟩,i+1,⟨⟨rfl,rfl,rf,rf,aB (by omega),tv⟩,⟨⟨rfl,?_⟩,⟨rf,rf,rf,rf,rf,rf,rf,tv⟩,tv⟩,rfl,rfl⟩,by omega,by show (cn (v.steps++[st])).length - (i+1)<(cn (v.steps++[st])).length - i; omega⟩
   rw [H0,show py (v.steps++[st]) v.steps ((cn (v.steps++[st])).take (i+1))=py (v.steps++[st]) v.steps ((cn (v.steps++[st])).take i)+(List.range 4).countP (fun k=>!decide (bh a (k:Nat) (v.steps++[st])=bh a (k:Nat) v.steps)) from cS]
 ·have hk:i=(cn (v.steps++[st])).length:=by
   have:¬ i<(cn (v.steps++[st])).length:=by simpa using h
   omega
  rw [hk,List.take_length]
  have ZE:=AN (v.steps++[st]) v.steps (cn (v.steps++[st]))
  have W6:pz v st={ v with steps:=v.steps++[st],work:=v.work+(py (v.steps++[st]) v.steps (cn (v.steps++[st])):Int)+gG (bm v.coin st)+(bs v.coin v.ab v.steps (bK v.steps):Int) - ((bs v.coin v.ab (v.steps++[st]) st.tick:Int) - gG (bm v.coin st)) }:=rfl
  generalize py (v.steps++[st]) v.steps (cn (v.steps++[st]))=D at *
  have ou:=yI { v with work:=v.work+(D:Nat) } st
  rw [Ax] at ou
  generalize fc v.coin st=q at ou
  refine .inl (.inl ⟨_,fun _=>ou.ok,rfl,?_⟩)
  have fb:=Az v.coin v.ab v.steps (bK v.steps)
  have oC:=Az v.coin v.ab (v.steps++[st]) st.tick
  have W7:∀w,w+(bs v.coin v.ab v.steps (bK v.steps):Int) - ((bs v.coin v.ab (v.steps++[st]) st.tick:Int) - gG (bm v.coin st))=(pz v st).work→Qx (pz v st)=.agg [I 4,I v.coin,I v.ab,I v.aD,jJ (v.steps++[st]),I (w+(bs v.coin v.ab v.steps (bK v.steps):Int) - ((bs v.coin v.ab (v.steps++[st]) st.tick:Int) - gG (bm v.coin st)))]:=fun w hw=>by rw [hw]; rfl
  have tG:0≤gG (bm v.coin st)∧gG (bm v.coin st)≤1:=by unfold gG; cases bm v.coin st <;> simp
  refine ⟨fun hb=>?_,fun hb=>?_⟩
  ·have hb:bm v.coin st=true:=hb
   refine ⟨fun _=>⟨by show _≤v.work+(D:Int)+1; omega,by show v.work+(D:Int)+1≤_; omega⟩,?_⟩
   refine ⟨[I (v.work+(D:Int)+1)],⟨rf,tv⟩,?_⟩
   refine .inl (.inl ⟨_,fun _=>(kX { v with work:=v.work+(D:Int)+1 } (by show v.steps.length≤1000; omega)).ok,rfl,?_⟩)
   refine .inl (.inl ⟨_,fun _=>(jK { v with work:=v.work+(D:Int)+1 } v.steps hl.1 (bK v.steps) (by show _≤bK v.steps - v.ab∧bK v.steps - v.ab≤_; omega)).ok,rfl,?_⟩)
   refine ⟨fun _=>⟨by show _≤v.work+(D:Int)+1+(bs v.coin v.ab v.steps (bK v.steps):Int); omega,by show v.work+(D:Int)+1+(bs v.coin v.ab v.steps (bK v.steps):Int)≤_; omega⟩,?_⟩
   refine .inl (.inl ⟨_,fun _=>(jK { v with work:=v.work+(D:Int)+1 } (v.steps++[st]) CW.1 st.tick (by show _≤st.tick - v.ab∧st.tick - v.ab≤_; omega)).ok,rfl,?_⟩)
   refine .inl ⟨_,fun _=>(Cx (bm v.coin st)).ok,?_⟩
   refine ⟨fun _=>⟨by show _≤(bs v.coin v.ab (v.steps++[st]) st.tick:Int) - gG (bm v.coin st); omega,by show (bs v.coin v.ab (v.steps++[st]) st.tick:Int) - gG (bm v.coin st)≤_; omega⟩,?_⟩
   refine ⟨fun _=>⟨by show _≤v.work+(D:Int)+1+(bs v.coin v.ab v.steps (bK v.steps):Int) - ((bs v.coin v.ab (v.steps++[st]) st.tick:Int) - gG (bm v.coin st)); omega,by show v.work+(D:Int)+1+(bs v.coin v.ab v.steps (bK v.steps):Int) - ((bs v.coin v.ab (v.steps++[st]) st.tick:Int) - gG (bm v.coin st))≤_; omega⟩,?_⟩
   refine ⟨[I (v.work+(D:Int)+1+(bs v.coin v.ab v.steps (bK v.steps):Int) - ((bs v.coin v.ab (v.steps++[st]) st.tick:Int) - gG (bm v.coin st)))],⟨rf,tv⟩,?_⟩
   refine ⟨by kernel_rfl,?_⟩
   refine ⟨[jJ (v.steps++[st])],⟨rf,tv⟩,?_⟩
   refine ⟨_,_,⟨rfl,rfl⟩,by kernel_rfl,⟨rf,tv⟩,⟨rfl,?_⟩,tv⟩
   rw [W7 (v.work+(D:Int)+1) (by rw [W6,hb]; simp [gG])]
   rfl
  ·have hb:bm v.coin st=false:=hb
   refine .inl (.inl ⟨_,fun _=>(kX { v with work:=v.work+(D:Int) } (by show v.steps.length≤1000; omega)).ok,rfl,?_⟩)
   refine .inl (.inl ⟨_,fun _=>(jK { v with work:=v.work+(D:Int) } v.steps hl.1 (bK v.steps) (by show _≤bK v.steps - v.ab∧bK v.steps - v.ab≤_; omega)).ok,rfl,?_⟩)
   refine ⟨fun _=>⟨by show _≤v.work+(D:Int)+(bs v.coin v.ab v.steps (bK v.steps):Int); omega,by show v.work+(D:Int)+(bs v.coin v.ab v.steps (bK v.steps):Int)≤_; omega⟩,?_⟩
   refine .inl (.inl ⟨_,fun _=>(jK { v with work:=v.work+(D:Int) } (v.steps++[st]) CW.1 st.tick (by show _≤st.tick - v.ab∧st.tick - v.ab≤_; omega)).ok,rfl,?_⟩)
   refine .inl ⟨_,fun _=>(Cx (bm v.coin st)).ok,?_⟩
   refine ⟨fun _=>⟨by show _≤(bs v.coin v.ab (v.steps++[st]) st.tick:Int) - gG (bm v.coin st); omega,by show (bs v.coin v.ab (v.steps++[st]) st.tick:Int) - gG (bm v.coin st)≤_; omega⟩,?_⟩
   refine ⟨fun _=>⟨by show _≤v.work+(D:Int)+(bs v.coin v.ab v.steps (bK v.steps):Int) - ((bs v.coin v.ab (v.steps++[st]) st.tick:Int) - gG (bm v.coin st)); omega,by show v.work+(D:Int)+(bs v.coin v.ab v.steps (bK v.steps):Int) - ((bs v.coin v.ab (v.steps++[st]) st.tick:Int) - gG (bm v.coin st))≤_; omega⟩,?_⟩
   refine ⟨[I (v.work+(D:Int)+(bs v.coin v.ab v.steps (bK v.steps):Int) - ((bs v.coin v.ab (v.steps++[st]) st.tick:Int) - gG (bm v.coin st)))],⟨rf,tv⟩,?_⟩
   refine ⟨by kernel_rfl,?_⟩
   refine ⟨[jJ (v.steps++[st])],⟨rf,tv⟩,?_⟩
   refine ⟨_,_,⟨rfl,rfl⟩,by kernel_rfl,⟨rf,tv⟩,⟨rfl,?_⟩,tv⟩
   rw [W7 (v.work+(D:Int)) (by rw [W6,hb]; simp [gG])]
   rfl
end Go.Proofs.YtpbdohkbiklflaaGreatDoor
