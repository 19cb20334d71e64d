import Derived.Test.YtpbdohkbiklflaaGreatDoorWM22
import Derived.Test.YtpbdohkbiklflaaGreatDoorWM27
import Derived.Test.YtpbdohkbiklflaaGreatDoorWM28
import Derived.Test.YtpbdohkbiklflaaGreatDoorWM23
import Derived.Test.YtpbdohkbiklflaaGreatDoorWM24
import Derived.Test.YtpbdohkbiklflaaGreatDoorWM26
set_option linter.unusedVariables false
set_option linter.unusedSimpArgs false
set_option linter.unusedSectionVars false
namespace Go.Proofs.YtpbdohkbiklflaaGreatDoor
open Go.TM
variable [cZ]
set_option maxRecDepth 100000
theorem HQ:bl Tryz.prog 32 [.dv (.fn 33 [])] 0 [] 1 [.ptr 0 0] [(0,.cells [.dv (.fn 33 []),.dv .aG])]:=by
 refine bn aO mixed (aq _) (ar _) Tryz.func32 rfl rfl (by kernel_rfl) ?_
 exact ⟨_,_,⟨rfl,rfl⟩,by kernel_rfl,⟨rfl,tv⟩,⟨rf,rf,tv⟩,tv⟩
theorem HR:bl Tryz.prog 32 [.dv (.fn 33 [])] 0 [] 1 [.own 0 0 0 []] [(0,.tree 0 0 (dX true []))] :=
 EJ (ds:=[.fn 33 [],.aG]) HQ
def KH (coin ab aC:Int):Vs:=⟨coin,ab,aC,0,0,[],[0,0,0,0],[(true,[]),(true,[]),(true,[]),(true,[])],[(true,[]),(true,[]),(true,[]),(true,[])],[]⟩
def KI (coin:Int):Bool:=bif bif decide (coin<0) then true else decide (4≤coin) then true else !(decide (coin=1) || decide (coin=3))
def EL (ab aC:Int):Bool:=bif bif bif decide (ab<1) then true else decide (1099511627776<ab) then true else decide (aC<0) then true else decide (1048576<aC)
theorem MX (n:ByteArray) (coin:Int) (h:0≤coin∧coin<4):∃nm,(vV n)[coin.toNat]?=some (.agg [.str nm,B false,B false,B (decide (coin=1) || decide (coin=3)),I 0,I 0,I 0]):=by
 obtain h | h | h | h:coin=0 ∨ coin=1 ∨ coin=2 ∨ coin=3:=by omega
 all_goals (subst h; exact ⟨_,rfl⟩)
theorem KJ (n:ByteArray) (coin:Int):∃nm,bw (bif decide (coin<0) then true else decide (((vV n).length:Int)≤coin)) false=true→0≤coin∧(vV n)[coin.toNat]?=some (.agg [.str nm,B false,B false,B (decide (coin=1) || decide (coin=3)),I 0,I 0,I 0]):=by
 by_cases h:0≤coin∧coin<4
 ·obtain ⟨nm,hn⟩:=MX n coin h
  exact ⟨nm,fun _=>⟨h.1,hn⟩⟩
 ·refine ⟨ez,fun hb=>absurd hb ?_⟩
  have:(bif decide (coin<0) then true else decide (((vV n).length:Int)≤coin))=true:=by
   show (bif decide (coin<0) then true else decide ((4:Int)≤coin))=true
   rw [Bool.cond_true_left,Bool.or_eq_true,decide_eq_true_eq,decide_eq_true_eq]; omega
  rw [this]; simp [bw]
theorem U5:(nth tab (nth tab 76).elem).bytes=8:=rfl
def Wj (coin ab aC:Int):List AV:=[.dv (I 4),.dv (I coin),.dv (I ab),.dv (I aC),.dv (I 0),.dv (I 0),.own 1 0 0 [],.own 2 0 0 [],.own 5 0 0 []]
def Sq (coin ab aC:Int) (j:Nat):br:=⟨6,[(11,.ptr 4 0),(68,.dv (I 4)),(69,.dv (I j))],[(1,.tree 0 0 (.omap eg [])),(2,.tree 0 0 (.ax 1 [I 0,I 0,I 0,I 0])),(3,.tree 0 0 (.ax 1 [.aG,.aG,.aG,.aG])),(4,.cells (Wj coin ab aC++[.own 3 0 0 [],.dv .aG])),(5,.tree 0 0 (.ax 1 (List.replicate j (dX true []))))]⟩
def Ya (coin ab aC:Int):ah:=[(1,.tree 0 0 (.omap eg [])),(2,.tree 0 0 (.ax 1 [I 0,I 0,I 0,I 0])),(3,.tree 0 0 (.ax 1 [.aG,.aG,.aG,.aG])),(4,.cells (Wj coin ab aC++[.own 3 0 0 [],.own 6 0 0 []])),(5,.tree 0 0 (.ax 1 (List.replicate 4 (dX true [])))),(6,.tree 0 0 (.ax 1 []))]
set_option maxHeartbeats 4000000 in
theorem yG (coin ab aC:Int) (h:KI coin=false) (h2:EL ab aC=false):bl Tryz.prog 11 [uZ (z5 ez),.dv (I coin),.dv (I ab),.dv (I aC)] 0 [] 7 [.ptr 4 0,.dv (I 0)] (Ya coin ab aC):=by
 refine bn aO mixed (aq _) (ar _) Tryz.func11 rfl rfl (by kernel_rfl) ?_
 refine .inl ⟨_,fun _=>EI.ok,?_⟩
 refine ⟨fun h9=>by simp at h9,fun _=>?_⟩
 repeat first | refine ⟨id,?_⟩ | refine ⟨fun _ h=>cx h,?_⟩ | refine ⟨fun _ h=>ay h,?_⟩ | refine ⟨fun h=>⟨h,fun h2=>aQ h h2⟩,?_⟩ | refine ⟨fun h=>⟨h,fun h2=>aF h h2⟩,?_⟩
 obtain ⟨nm,O8⟩:=KJ ez coin
 refine ⟨_,O8,?_⟩
 repeat first | refine ⟨id,?_⟩ | refine ⟨fun _ h=>cx h,?_⟩ | refine ⟨fun _ h=>ay h,?_⟩ | refine ⟨fun h=>⟨h,fun h2=>aQ h h2⟩,?_⟩ | refine ⟨fun h=>⟨h,fun h2=>aF h h2⟩,?_⟩
 refine ⟨fun hc=>?_,fun _=>?_⟩
 ·have:KI coin=true:=hc
  rw [h] at this; cases this
 repeat first | refine ⟨id,?_⟩ | refine ⟨fun _ h=>cx h,?_⟩ | refine ⟨fun _ h=>ay h,?_⟩ | refine ⟨fun h=>⟨h,fun h2=>aQ h h2⟩,?_⟩ | refine ⟨fun h=>⟨h,fun h2=>aF h h2⟩,?_⟩
 refine ⟨fun hc=>?_,fun _=>?_⟩
 ·have:EL ab aC=true:=hc
  rw [h2] at this; cases this
 refine ⟨eg,I 0,⟨rf,tv⟩,Int.natCast_nonneg _,Int.le_refl _,(by show (4:Int) * 8≤_; omega),(by show (4:Int)≤_; omega),false,(fun h=>by cases h),.aG,⟨rf,tv⟩,Int.natCast_nonneg _,Int.le_refl _,(by show (4:Int) * 24≤_; omega),(by show (4:Int)≤_; omega),false,(fun h=>by cases h),?_⟩
 refine ⟨by kernel_rfl,?_⟩
 refine ⟨Nat,Sq coin ab aC,fun z=>z≤4,fun z=>4 - z,0,fun _=>rfl,?_⟩
 refine ⟨⟨⟨rfl,rf,rf,tv⟩,⟨⟨rfl,rfl⟩,⟨rfl,rfl⟩,⟨rfl,rfl⟩,⟨rf,rf,rf,rf,rf,rf,rfl,rfl,⟨rfl,rfl,rfl,rfl,1,rfl⟩,rfl,rf,tv⟩,⟨rfl,rfl,1,rfl⟩,tv⟩,rfl,rfl⟩,Nat.zero_le _,?_⟩
 rintro j hj
 refine ⟨fun aJ=>?_,fun du=>?_⟩
 ·have aJ:j<4:=by have:=of_decide_eq_true aJ; omega
  refine .inr ⟨[],[.dv (.fn 33 [])],[],1,_,_,HR,by kernel_rfl,by kernel_rfl,⟨rf,tv⟩,tv,?_⟩
  refine .inr (.inl ⟨[dX true []],rfl,⟨rfl,tv⟩,(by simp; rfl),?_⟩)
  refine .inr (.inr ⟨rfl,[dX true []],eJ.refl _,(by rw [U5,List.length_replicate]; simp; omega),(by rw [List.length_replicate]; simp; omega),?_⟩)
  exact ⟨by kernel_rfl,fun _=>⟨by omega,by omega⟩,j+1,⟨⟨rfl,rf,aB (by simp),tv⟩,⟨⟨rfl,rfl⟩,⟨rfl,rfl⟩,⟨rfl,rfl⟩,⟨rf,rf,rf,rf,rf,rf,rfl,rfl,rfl,rfl,rf,tv⟩,⟨rfl,by rw [List.replicate_succ']⟩,tv⟩,rfl,rfl⟩,by omega,by simp only; omega⟩
 ·have du:j=4:=by have:=of_decide_eq_false du; omega
  subst du
  exact ⟨_,_,⟨rfl,rfl⟩,by kernel_rfl,⟨rfl,rf,tv⟩,⟨rfl,rfl⟩,⟨rfl,rfl⟩,⟨rfl,rfl⟩,⟨rf,rf,rf,rf,rf,rf,rfl,rfl,rfl,rfl,⟨rfl,rfl,rfl,rfl,1,rfl⟩,tv⟩,⟨rfl,rfl⟩,⟨rfl,rfl,1,rfl⟩,tv⟩
end Go.Proofs.YtpbdohkbiklflaaGreatDoor
namespace Go.Proofs.YtpbdohkbiklflaaGreatDoor
open Go.TM
variable [cZ]
theorem Cv:∀(m:HM) (k:Ky) (x:Int),(bM m k x).length=m.length+(if (bm m k).isSome=true then 0 else 1)
 | [],k,x=>by simp [bM,bm]
 | p::r,k,x=>by
  simp only [bM,bm]
  split
  ·simp
  ·rw [List.length_cons,Cv r k x,List.length_cons]; omega
theorem Cw:∀(m:HM) (k:Ky),(iD m k).length+(if (bm m k).isSome=true then 1 else 0)=m.length
 | [],k=>by simp [iD,bm]
 | p::r,k=>by
  simp only [iD,bm]
  split
  ·simp
  ·have:=Cw r k
   rw [List.length_cons,List.length_cons]; omega
theorem MY {s:Vs} {L:Nat} (h:Gs s L) (a:Int) (i:Nat) (now:Int):((cF s (a,(i:Int)) i now).H.length:Int)=(s.H.length:Int)+Cj s.H ((a,(i:Int)),now):=by
 have hg:=An h (a,(i:Int))
 rw [Al]
 unfold Cj c7
 simp only
 by_cases h0:hv s.H (a,(i:Int))=now
 ·rw [if_pos h0]
  by_cases h1:now=0
  ·simp [h0,h1]
  ·simp [h0,h1]
 ·rw [if_neg h0]
  by_cases h1:now=0
  ·subst h1
   rw [if_pos rfl]
   rw [if_neg h0] at hg
   have:=Cw s.H (a,(i:Int))
   rw [hg] at this
   simp at this
   simp [h0]; omega
  ·rw [if_neg h1]
   have:=Cv s.H (a,(i:Int)) now
   rw [hg] at this
   by_cases h2:hv s.H (a,(i:Int))=0
   ·rw [if_pos h2] at this
    simp at this
    simp [h2,h1,this]
   ·rw [if_neg h2] at this
    simp at this
    simp [h2,h1,this]
theorem yH {H G:HM}:∀(es:HM),(∀e∈es,hv H e.1=hv G e.1)→iG H es=iG G es
 | [],_=>rfl
 | e::r,h=>by
  show Cj H e+iG H r=Cj G e+iG G r
  rw [yH r fun x hx=>h x (List.mem_cons_of_mem _ hx)]
  unfold Cj
  rw [h e List.mem_cons_self]
theorem Cx:∀{es:HM} {s:Vs} {L:Nat},Gs s L→AP es→L+es.length≤500→(0≤s.work∧s.work+es.length≤2305843009213693952)→((aI s es).H.length:Int)=(s.H.length:Int)+iG s.H es
 | [],s,L,_,_,_,_=>by simp [aI,iG]
 | e::r,s,L,h,he,hL,hw=>by
  obtain ⟨p1,⟨i,hi,p2⟩,p3,p4⟩:=he.pos e List.mem_cons_self
  have hc:=he.cons
  obtain ⟨⟨a,it⟩,now⟩:=e
  simp only at p1 p2 p3 p4
  subst p2
  simp only [List.length_cons] at hL hw
  have h1:=(Ak h (by omega) (by omega) hi p1 ⟨p3,p4⟩).2
  have h2:=n5 s (a,(i:Int)) i now
  rw [gP]
  simp only [Int.toNat_natCast]
  rw [Cx h1 hc.1 (by omega) (by omega),MY h]
  rw [yH (H:=(cF s (a,(i:Int)) i now).H) (G:=s.H) r fun x hx=>by
   rw [tY h.nd,if_neg]
   intro h9
   exact hc.2 (List.mem_map.2 ⟨x,hx,h9.symm⟩)]
  show _=_+(Cj s.H ((a,(i:Int)),now)+iG s.H r)
  omega
structure Rl (s:Vs) (S:SS) (N:Nat) (v:RV):Prop where
 ok:KG s S (8 * N) N
 coin:v.coin=s.coin
 ab:v.ab=s.ab
 aC:v.aC=s.aC
 hold:∀a it,1≤a→hv s.H (a,it)=bg a it v.steps
 last:s.last=cC v.steps
 work:v.work=s.work
 QQ:S.map HP=nw s.coin (s.last - s.ab) v.steps
 len:v.steps.length≤N
 QR:∀x∈v.steps,x.tick≤s.last∧x.mv.length≤4∧∀m∈x.mv,iL m=false
 Qa:s.last≤1099511627776
theorem EM (l:List St) (x:St):cC (l++[x])=x.tick:=by
 unfold cC
 rw [List.length_append,List.length_cons,List.length_nil,List.getD_eq_getElem?_getD]
 simp
theorem EO {coin:Int} {st:St} (h:bh coin st=true):bD coin st=((bD coin st).1,(bD coin st).2.1,(bD coin st).2.2.1,true):=by
 have h:(bD coin st).2.2.2=true:=h
 generalize bD coin st=q at *
 obtain ⟨a,b,c,d⟩:=q
 simp only at h; subst h; rfl
theorem wq (S:SS) (lim:Int):(S.filter fun p=>decide (lim<p.2.tick)).map HP=(S.map HP).filter fun q=>decide (lim<q.2.1):=by
 rw [List.filter_map]; rfl
theorem Rl.sorted {s:Vs} {S:SS} {N:Nat} {v:RV} (h:Rl s S N v):∀x∈v.steps,x.tick≤s.last:=fun x hx=>(h.QR x hx).1
theorem Rl.bq {s:Vs} {S:SS} {N:Nat} {v:RV} (h:Rl s S N v):bq v.coin v.ab v.steps (cC v.steps)=S.length:=by
 rw [h.coin,h.ab,←h.last,wj h.sorted,←h.QQ,List.length_map]
theorem Rl.key {s:Vs} {S:SS} {N:Nat} {v:RV} (h:Rl s S N v) {lim:Int} (hl:s.last - s.ab≤lim):(S.drop (dw S lim)).map HP=nw s.coin lim v.steps:=by
 rw [yB h.ok.MT.ord,wq,h.QQ,Co _ hl]
theorem Aq (S:SS) (lim:Int):dw S lim≤S.length:=by unfold dw; exact (List.takeWhile_sublist _).length_le
structure U6 (s:Vs) (S:SS) (v:RV) (st:St) (A:HM):Prop where
 QQ:(bq v.coin v.ab (v.steps++[st]) st.tick:Int)=(S.length:Int) - (dw S (st.tick - s.ab):Int)+eZ (bh v.coin st)
 Yb:(ym v.coin v.ab (v.steps++[st]) st.tick:Int)=Kv s S st+iG s.H A
 QM:pk (v.steps++[st]) v.steps (cn (v.steps++[st]))=A.countP (Gu s.H)
 key:(nv s S st).map HP=nw s.coin (st.tick - s.ab) (v.steps++[st])
theorem Sr {s:Vs} {S:SS} {N:Nat} {v:RV} (h:Rl s S N v) (hN:N≤20) {st:St} (hm:st.mv.length≤4) (ht:s.last≤st.tick) {A:HM} (hA:ko s.H [] st.mv=.ok A)
  (hh:∀a it,1≤a→Proofs.YtpbdohkbiklflaaGreatDoor.hold A s.H (a,it)=bg a it (v.steps++[st])):U6 s S v st A:=by
 obtain ⟨a1,a2,a3,a4⟩:=yz h.ok (by omega) hm hA
 have wQ:=h.ok.QP
 have Sk:=h.ok.wk
 have zq:=h.key (lim:=st.tick - s.ab) (by omega)
 have hle:=Aq S (st.tick - s.ab)
 have Hy:∀x∈v.steps++[st],x.tick≤st.tick:=fun x hx=>by
  rcases List.mem_append.1 hx with hx | hx
  ·have:=h.sorted x hx; omega
  ·simp at hx; subst hx; omega
 have Ss:(Proofs.YtpbdohkbiklflaaGreatDoor.bq v.coin v.ab (v.steps++[st]) st.tick:Int)=(S.length:Int) - (dw S (st.tick - s.ab):Int)+eZ (bh v.coin st):=by
  rw [wj Hy,h.coin,h.ab,yA,List.length_append,←zq,List.length_map,List.length_drop]
  cases hq:bh s.coin st with
  | false=>simp [eZ]; omega
  | true=>rw [if_pos ⟨rfl,by omega⟩]; simp [eZ]; omega
 have gY:=Cx h.ok.bU a1 (by omega) (by omega)
 have pj:=n7 h.ok.bU a1 (by omega) (by omega)
 have Od:=MV (l:=v.steps++[st]) pj.nd (fun p hp=>by have:=pj.pos p hp; exact ⟨this.1,this.2.1,by omega⟩) fun a it ha=>by rw [lR h.ok.bU.nd a1,hh a it ha]
 refine ⟨Ss,?_,?_,?_⟩
 ·unfold ym Kv
  rw [Od]
  have h1:(s.bQ.length:Int)=S.length:=by rw [h.ok.MT.bO.bQ,List.length_map]
  have h2:(bif (bD s.coin st).2.2.2 then (1:Int) else 0)=eZ (bh v.coin st):=by rw [h.coin]; rfl
  rw [h2]
  have:=Ss
  omega
 ·exact MW rfl a1.nd (fun p hp=>by have:=a1.pos p hp; exact ⟨this.1,this.2.1⟩) h.hold hh
 ·unfold nv
  simp only
  rw [List.map_append,zq,yA]
  congr 1
  cases hq:(bD s.coin st).2.2.2 with
  | false=>rw [if_neg]; · rfl
           rintro ⟨h9,_⟩; have h9:(bD s.coin st).2.2.2=true:=h9; rw [hq] at h9; cases h9
  | true =>
   rw [if_pos ⟨hq,by omega⟩]
   have hb:=ED (se hA) (EO (coin:=s.coin) (st:=st) hq)
   simp only [cond_true,List.map_cons,List.map_nil]
   unfold HP Ty
   simp only
   rw [Int.toNat_of_nonneg hb.1]
theorem KK {s:Vs} {S:SS} {N:Nat} {v:RV} (h:Rl s S N v) (hN:N≤20) {st:St} (hm:st.mv.length≤4) :
  match eS s S st with
  | .err e=>kn v st=e∧e ≠ 0
  | .ok A=>kn v st=0∧Rl (cL s S st (aI s A)) (nv s S st) (N+1) (nt v st):=by
 have gw:=Ap (H:=s.H) (steps:=v.steps) st.mv [] [] fun a it ha=>h.hold a it ha
 unfold kn
 by_cases ht:st.tick<cC v.steps ∨ 1099511627776<st.tick
 ·rw [if_pos ht]
  have:eS s S st=.err 1:=by
   unfold eS
   rw [if_pos (show (bif decide (st.tick<s.last) then true else decide (1099511627776<st.tick))=true by rw [h.last]; rcases ht with h1 | h1 <;> simp [h1])]
  rw [this]
  exact ⟨rfl,by decide⟩
 ·rw [if_neg ht]
  rw [not_or] at ht
  have qY:eS s S st=match ko s.H [] st.mv with
   | .err e=>.err e
   | .ok A=>if s.aC<Kv s S st+iG s.H A then .err 22 else .ok A:=by
   unfold eS
   rw [if_neg (show ¬ (bif decide (st.tick<s.last) then true else decide (1099511627776<st.tick))=true by rw [h.last]; simp [ht.1,ht.2])]
   rfl
  cases hq:ko s.H [] st.mv with
  | err e =>
   rw [hq] at gw qY
   simp only at qY gw
   rw [qY,if_pos (by rw [gw.1]; exact gw.2)]
   exact gw
  | ok A =>
   rw [hq] at gw qY
   simp only [List.nil_append] at qY gw
   rw [if_neg (by rw [gw.1]; simp)]
   have hh:∀a it,1≤a→Proofs.YtpbdohkbiklflaaGreatDoor.hold A s.H (a,it)=bg a it (v.steps++[st]):=fun a it ha=>by rw [gw.2 a it ha,pn]
   have aJ:s.last≤st.tick:=by rw [h.last]; omega
   have hf:=Sr h hN hm aJ hq hh
   rw [hf.Yb,h.aC]
   by_cases hs:s.aC<Kv s S st+iG s.H A
   ·rw [if_pos hs] at qY ⊢
    rw [qY]
    exact ⟨rfl,by decide⟩
   ·rw [if_neg hs] at qY ⊢
    rw [qY]
    refine ⟨rfl,?_⟩
    obtain ⟨f1,f2,f3,f4⟩:=ub h.ok (by omega) (by omega) st hm qY
    obtain ⟨g1,g2,g3,g4,g5,g6,g7⟩:=Ao s S st (aI s A)
    have hr:=jJ A s
    obtain ⟨a1,a2,a3,a4⟩:=yz h.ok (by omega) hm hq
    refine ⟨by rw [show 8 * (N+1)=8 * N+8 by omega]; exact f1,?_,?_,?_,?_,?_,?_,?_,?_,?_,by rw [g5]; exact f3.2⟩
    ·rw [g6,hr.1]; exact h.coin
    ·rw [g4,hr.2.1]; exact h.ab
    ·rw [g7,hr.2.2.1]; exact h.aC
    ·intro a it ha
     rw [g1,lR h.ok.bU.nd a1,hh a it ha]; rfl
    ·rw [g5]; exact (EM _ _).symm
    ·rw [py,kS h.ok.bU.nd a1]
     show v.work+_+_+_ - _=_
     rw [hf.QQ,hf.QM,h.bq,h.work,h.coin]
     have hle:=Aq S (st.tick - s.ab)
     have:(bif (bD s.coin st).2.2.2 then (1:Int) else 0)=eZ (bh s.coin st):=rfl
     rw [this]
     omega
    ·rw [g5,g4,g6,hr.2.1,hr.1,hf.key]; rfl
    ·show (v.steps++[st]).length≤_
     rw [List.length_append]; have:=h.len; simp; omega
    ·intro x hx
     rw [g5]
     have hx:x∈v.steps++[st]:=hx
     rcases List.mem_append.1 hx with hx | hx
     ·have:=h.QR x hx; exact ⟨by omega,this.2⟩
     ·simp at hx; subst hx; exact ⟨Int.le_refl _,hm,se hq⟩
theorem Yc {coin ab aC:Int} (hw:1≤ab∧ab≤1099511627776) (h0:KG (KH coin ab aC) [] 0 0):Rl (KH coin ab aC) [] 0 ⟨coin,ab,aC,[],0⟩ :=
 ⟨h0,rfl,rfl,rfl,fun a it _=>rfl,rfl,rfl,rfl,Nat.le_refl _,fun x hx=>(by cases hx),by show (0:Int)≤_; omega⟩
theorem Rl.U7 {s:Vs} {S:SS} {N:Nat} {v:RV} (h:Rl s S N v) (hN:N≤100):r6 v.steps:=by
 refine ⟨by have:=h.len; omega,fun x hx=>⟨(h.QR x hx).2.1,fun m hm=>?_⟩⟩
 have:=qI ((h.QR x hx).2.2 m hm); omega
end Go.Proofs.YtpbdohkbiklflaaGreatDoor
namespace Go.Proofs.YtpbdohkbiklflaaGreatDoor
open Go.TM
variable [cZ]
set_option maxRecDepth 100000
def Qb (s:Vs) (it:Nat) (tick:Int):ah:=vK false s++[(6,.cells [.ptr 0 0]),(7,.cells [.dv (I tick)]),(8,.cells [.own 4 0 0 [.el it 0]])]
theorem MZ (s:Vs) (it:Nat) (tick:Int) (l:List Sl) (hs:(s.sl.map mA)[it]?=some (.ax 5 (l.map bT))) (i:Nat) (x:Sl) (hi:l[i]?=some x) (hb:-9223372036854775808≤tick - s.ab∧tick - s.ab≤9223372036854775807) :
  bl Tryz.prog 41 [.dv (I i),.ptr 8 0,.ptr 7 0,.ptr 6 0] 9 (Qb s it tick) 0 [.dv (B (decide (tick - s.ab<x.tick)))] (Qb s it tick):=by
 have aJ:i<l.length:=(List.getElem?_eq_some_iff.1 hi).1
 refine bn aO mixed (aq _) (ar _) Tryz.func41 rfl rfl (by kernel_rfl) ?_
 refine ⟨.ax 5 (l.map bT),fun _=>hs,?_⟩
 refine ⟨fun _=>⟨by omega,by rw [List.length_map]; omega⟩,?_⟩
 refine ⟨.ax 5 (l.map bT),fun _=>hs,?_⟩
 refine ⟨bT x,fun _=>by rw [List.getElem?_map,Int.toNat_natCast,hi]; rfl,?_⟩
 refine ⟨fun _=>⟨by omega,by omega⟩,?_⟩
 exact ⟨by kernel_rfl,_,_,⟨rfl,rfl⟩,by kernel_rfl,⟨rf,tv⟩,⟨rf,rf,rf,rf,rf,rf,rfl,rfl,rfl,rfl,rfl,tv⟩,⟨rfl,rfl⟩,⟨rfl,rfl⟩,⟨rfl,rfl⟩,⟨rfl,rfl⟩,⟨rfl,rfl⟩,⟨rfl,tv⟩,⟨rf,tv⟩,⟨rfl,tv⟩,tv⟩
theorem Ar (s:Vs) (it:Nat) (tick:Int) (l:List Sl) (hs:(s.sl.map mA)[it]?=some (.ax 5 (l.map bT))) (k:Nat) (hk:k≤l.length) (hl:l.length≤1000) (hb:-9223372036854775808≤tick - s.ab∧tick - s.ab≤9223372036854775807)
  (h1:∀i y,i<k→l[i]?=some y→¬ tick - s.ab<y.tick) (h2:∀i y,k≤i→l[i]?=some y→tick - s.ab<y.tick) :
  bl Tryz.prog 40 [.dv (I l.length),.fn 41 [.ptr 8 0,.ptr 7 0,.ptr 6 0]] 9 (Qb s it tick) 0 [.dv (I k)] (Qb s it tick):=by
 refine bn aO mixed (aq _) (ar _) Tryz.func40 rfl rfl (by kernel_rfl) ?_
 refine ⟨Tl,Ka 41 [.ptr 8 0,.ptr 7 0,.ptr 6 0] 9 (Qb s it tick),fun q=>q.i≤k∧k≤q.j∧q.j≤l.length,fun q=>q.j - q.i,⟨0,l.length⟩,fun _=>rfl,⟨⟨⟨rfl,rfl,rfl,rfl,tv⟩,rf,rf,tv⟩,⟨⟨rf,rf,rf,rf,rf,rf,rfl,rfl,rfl,rfl,rfl,tv⟩,⟨rfl,rfl⟩,⟨rfl,rfl⟩,⟨rfl,rfl⟩,⟨rfl,rfl⟩,⟨rfl,rfl⟩,⟨rfl,tv⟩,⟨rf,tv⟩,⟨rfl,tv⟩,tv⟩,rfl,rfl⟩,⟨Nat.zero_le _,hk,Nat.le_refl _⟩,?_⟩
 rintro q ⟨p1,p2,p3⟩
 refine ⟨fun aJ=>?_,fun du=>?_⟩
 ·have aJ:q.i<q.j:=by have:=of_decide_eq_true aJ; simp only [Int.ofNat_lt] at this; exact this
  refine ⟨fun _=>⟨by omega,by omega⟩,?_⟩
  refine ⟨fun _=>by omega,?_⟩
  have hlen:(q.i+q.j) / 2<l.length:=by omega
  have bm:=List.getElem?_eq_getElem hlen
  refine .inr ⟨[0,1,2,3,4,5,6,7,8],[.dv (I ((q.i+q.j) / 2:Nat)),.ptr 8 0,.ptr 7 0,.ptr 6 0],Qb s it tick,0,_,_,MZ s it tick l hs ((q.i+q.j) / 2) _ bm hb,by kernel_rfl,by kernel_rfl,⟨?_,rfl,rfl,rfl,tv⟩,⟨⟨rf,rf,rf,rf,rf,rf,rfl,rfl,rfl,rfl,rfl,tv⟩,⟨rfl,rfl⟩,⟨rfl,rfl⟩,⟨rfl,rfl⟩,⟨rfl,rfl⟩,⟨rfl,rfl⟩,⟨rfl,tv⟩,⟨rf,tv⟩,⟨rfl,tv⟩,tv⟩,?_⟩
  ·rw [lH (by omega)]; exact rf
  ·refine ⟨fun hb=>?_,fun hb=>?_⟩
   ·have cM:¬ tick - s.ab<l[(q.i+q.j) / 2].tick:=by simpa using hb
    have PK:(q.i+q.j) / 2<k:=by
     rcases Nat.lt_or_ge ((q.i+q.j) / 2) k with h | h
     ·exact h
     ·exact absurd (h2 _ _ h bm) cM
    rw [lH (by omega)]
    refine ⟨fun _=>⟨by omega,by omega⟩,?_⟩
    exact ⟨⟨(q.i+q.j) / 2+1,q.j⟩,⟨⟨⟨rfl,rfl,rfl,rfl,tv⟩,aB (by simp),rf,tv⟩,⟨⟨rf,rf,rf,rf,rf,rf,rfl,rfl,rfl,rfl,rfl,tv⟩,⟨rfl,rfl⟩,⟨rfl,rfl⟩,⟨rfl,rfl⟩,⟨rfl,rfl⟩,⟨rfl,rfl⟩,⟨rfl,tv⟩,⟨rf,tv⟩,⟨rfl,tv⟩,tv⟩,rfl,rfl⟩,⟨PK,p2,p3⟩,by simp only; omega⟩
   ·have cM:tick - s.ab<l[(q.i+q.j) / 2].tick:=by simpa using hb
    have PL:k≤(q.i+q.j) / 2:=by
     rcases Nat.lt_or_ge ((q.i+q.j) / 2) k with h | h
     ·exact absurd cM (h1 _ _ h bm)
     ·exact h
    rw [lH (by omega)]
    exact ⟨⟨q.i,(q.i+q.j) / 2⟩,⟨⟨⟨rfl,rfl,rfl,rfl,tv⟩,rf,rf,tv⟩,⟨⟨rf,rf,rf,rf,rf,rf,rfl,rfl,rfl,rfl,rfl,tv⟩,⟨rfl,rfl⟩,⟨rfl,rfl⟩,⟨rfl,rfl⟩,⟨rfl,rfl⟩,⟨rfl,rfl⟩,⟨rfl,tv⟩,⟨rf,tv⟩,⟨rfl,tv⟩,tv⟩,rfl,rfl⟩,⟨p1,PL,by simp only; omega⟩,by simp only; omega⟩
 ·have du:¬ q.i<q.j:=by have:=of_decide_eq_false du; omega
  have ye:q.i=k:=by omega
  exact ⟨_,_,⟨rfl,rfl⟩,by kernel_rfl,⟨aB (by rw [ye]),tv⟩,⟨rf,rf,rf,rf,rf,rf,rfl,rfl,rfl,rfl,rfl,tv⟩,⟨rfl,rfl⟩,⟨rfl,rfl⟩,⟨rfl,rfl⟩,⟨rfl,rfl⟩,⟨rfl,rfl⟩,⟨rfl,tv⟩,⟨rf,tv⟩,⟨rfl,tv⟩,tv⟩
theorem M0 (s:Vs) (it tick:Int):(bif bif decide (it<0) then true else decide (4≤it) then true else decide (tick<s.last))=decide (it<0 ∨ 4≤it ∨ tick<s.last):=by by_cases h1:it<0 <;> by_cases h2:4≤it <;> simp [h1,h2]
def Sl.zero:Sl:=⟨0,0,0,0,0⟩
def sk (s:Vs) (it:Nat) (l:List Sl) (k:Nat):List Int × Bool :=
 if k=l.length then ([0,0,0,0,0],false) else
 ([(it:Int),s.coin,(l.getD (l.length - 1) Sl.zero).gn - ((l.getD k Sl.zero).gn - (l.getD k Sl.zero).n),(l.getD (l.length - 1) Sl.zero).gr - ((l.getD k Sl.zero).gr - (l.getD k Sl.zero).c),(l.getD (l.length - 1) Sl.zero).c.tdiv (l.getD (l.length - 1) Sl.zero).n],true)
def Su (l:List Int):AV:=.agg (l.map fun n=>.dv (I n))
set_option maxHeartbeats 4000000 in
theorem tc (s:Vs) (it:Nat) (tick:Int) (h4:it<4) (hl:s.sl.length=4) (ht:s.last≤tick) (l:List Sl) (hs:s.sl[it]?=some (false,l)) (k:Nat) (hk:k≤l.length) (PW:l.length≤1000) (hb:-9223372036854775808≤tick - s.ab∧tick - s.ab≤9223372036854775807)
  (h1:∀i y,i<k→l[i]?=some y→¬ tick - s.ab<y.tick) (h2:∀i y,k≤i→l[i]?=some y→tick - s.ab<y.tick)
  (hn:∀y,y∈l→1≤y.n∧y.n≤1152921504606846976∧1≤y.c∧y.c≤1152921504606846976∧0≤y.gn∧y.gn≤1152921504606846976∧0≤y.gr∧y.gr≤1152921504606846976) :
  bl Tryz.prog 17 [.ptr 0 0,.dv (I it),.dv (I tick)] 6 (vK false s) 0 [Su (sk s it l k).1,.dv (B (sk s it l k).2)] (vK false s):=by
 have iF:(s.sl.map mA)[it]?=some (.ax 5 (l.map bT)):=by rw [List.getElem?_map,hs]; rfl
 have wN:=Ar s it tick l iF k hk PW hb h1 h2
 refine bn aO mixed (aq _) (ar _) Tryz.func17 rfl rfl (by kernel_rfl) ?_
 repeat first | refine ⟨id,?_⟩ | refine ⟨fun _ h=>cx h,?_⟩ | refine ⟨fun _ h=>ay h,?_⟩ | refine ⟨fun h=>⟨h,fun h2=>aQ h h2⟩,?_⟩ | refine ⟨fun h=>⟨h,fun h2=>aF h h2⟩,?_⟩
 refine ⟨by kernel_rfl,fun h'=>?_,fun _=>?_⟩
 ·have:=of_decide_eq_true ((M0 s it tick).symm.trans h'); omega
 refine ⟨fun _=>⟨by omega,by rw [List.length_map]; omega⟩,.ax 5 (l.map bT),fun _=>iF,?_⟩
 refine ⟨.ax 5 (l.map bT),fun _=>iF,?_⟩
 refine .inr ⟨[0,1,2,3,4,5,6,7,9],[.dv (I l.length),.fn 41 [.ptr 8 0,.ptr 7 0,.ptr 6 0]],Qb s it tick,0,_,_,wN,by kernel_rfl,by kernel_rfl,⟨aB (by rw [List.length_map]),⟨rfl,rfl,rfl,rfl,tv⟩,tv⟩,⟨⟨rf,rf,rf,rf,rf,rf,rfl,rfl,rfl,rfl,rfl,tv⟩,⟨rfl,rfl⟩,⟨rfl,rfl⟩,⟨rfl,rfl⟩,⟨rfl,rfl⟩,⟨rfl,rfl⟩,⟨rfl,tv⟩,⟨rf,tv⟩,⟨rfl,tv⟩,tv⟩,?_⟩
 refine ⟨.ax 5 (l.map bT),fun _=>iF,?_⟩
 refine ⟨fun h'=>?_,fun h'=>?_⟩
 ·have DI:k=l.length:=by
   rw [List.length_map] at h'
   have h9:(k:Int)=(l.length:Int):=by simpa using h'
   omega
  rw [show sk s it l k=([0,0,0,0,0],false) from if_pos DI]
  exact ⟨_,_,⟨rfl,rfl⟩,by kernel_rfl,⟨⟨rf,rf,rf,rf,rf,tv⟩,rf,tv⟩,⟨rf,rf,rf,rf,rf,rf,rfl,rfl,rfl,rfl,rfl,tv⟩,⟨rfl,rfl⟩,⟨rfl,rfl⟩,⟨rfl,rfl⟩,⟨rfl,rfl⟩,⟨rfl,rfl⟩,tv⟩
 have DI:k<l.length:=by
  rw [List.length_map] at h'
  have h9:¬ (k:Int)=(l.length:Int):=by simpa using h'
  omega
 have Sv:l[k]?=some (l.getD k Sl.zero):=by rw [List.getD_eq_getElem?_getD,List.getElem?_eq_getElem DI]; rfl
 have Sw:l[l.length - 1]?=some (l.getD (l.length - 1) Sl.zero):=by rw [List.getD_eq_getElem?_getD,List.getElem?_eq_getElem (by omega)]; rfl
 have Y1:=hn _ (List.mem_of_getElem? Sv)
 have Y2:=hn _ (List.mem_of_getElem? Sw)
 have O1:sk s it l k=([(it:Int),s.coin,(l.getD (l.length - 1) Sl.zero).gn - ((l.getD k Sl.zero).gn - (l.getD k Sl.zero).n),(l.getD (l.length - 1) Sl.zero).gr - ((l.getD k Sl.zero).gr - (l.getD k Sl.zero).c),(l.getD (l.length - 1) Sl.zero).c.tdiv (l.getD (l.length - 1) Sl.zero).n],true):=if_neg (by omega)
 rw [O1]
 generalize l.getD k Sl.zero=xk at *
 generalize l.getD (l.length - 1) Sl.zero=y at *
 have Wk:(l.map bT)[((k:Int)).toNat]?=some (bT xk):=by rw [Int.toNat_natCast,List.getElem?_map,Sv]; rfl
 have Wc:(l.map bT).length=l.length:=List.length_map ..
 have Wl:(l.map bT)[((((l.map bT).length:Nat):Int) - 1).toNat]?=some (bT y):=by
  rw [Wc,show ((l.length:Int) - 1).toNat=l.length - 1 by omega,List.getElem?_map,Sw]; rfl
 repeat first | refine ⟨.ax 5 (l.map bT),fun _=>iF,?_⟩ | refine ⟨bT xk,fun _=>Wk,?_⟩ | refine ⟨bT y,fun _=>Wl,?_⟩ | refine ⟨by kernel_rfl,?_⟩ | refine ⟨fun _=>⟨by omega,by omega⟩,?_⟩
 have Wm:0≤y.c.tdiv y.n:=Int.tdiv_nonneg (by omega) (by omega)
 have Wn:y.c.tdiv y.n≤y.c:=Int.tdiv_le_self y.n (by omega)
 refine ⟨fun _ h=>by omega,?_⟩
 repeat first | refine ⟨.ax 5 (l.map bT),fun _=>iF,?_⟩ | refine ⟨bT xk,fun _=>Wk,?_⟩ | refine ⟨bT y,fun _=>Wl,?_⟩ | refine ⟨by kernel_rfl,?_⟩ | refine ⟨fun _=>⟨by omega,by omega⟩,?_⟩
 exact ⟨_,_,⟨rfl,rfl⟩,by kernel_rfl,⟨⟨rf,rf,rf,rf,rf,tv⟩,rf,tv⟩,⟨rf,rf,rf,rf,rf,rf,rfl,rfl,rfl,rfl,rfl,tv⟩,⟨rfl,rfl⟩,⟨rfl,rfl⟩,⟨rfl,rfl⟩,⟨rfl,rfl⟩,⟨rfl,rfl⟩,tv⟩
end Go.Proofs.YtpbdohkbiklflaaGreatDoor
namespace Go.Proofs.YtpbdohkbiklflaaGreatDoor
open Go.TM
variable [cZ]
end Go.Proofs.YtpbdohkbiklflaaGreatDoor
namespace Go.Proofs.YtpbdohkbiklflaaGreatDoor
open Go.TM
variable [cZ]
set_option maxRecDepth 100000
end Go.Proofs.YtpbdohkbiklflaaGreatDoor
namespace Go.Proofs.YtpbdohkbiklflaaGreatDoor
open Go.TM
variable [cZ]
set_option maxRecDepth 100000
def U8 (st:St):ao:=.cells [.dv (I st.id),.dv (I st.kind),.dv (I st.Gk),.dv (I st.tick),.dv (I st.ME),.dv (I st.times),.dv (Ad st.mv)]
theorem KL (m:Mv):(bif bif bif bif bif bif bif bif decide (m.it<0) then true else decide (4≤m.it) then true else decide (m.n<1) then true else decide (1099511627776<m.n) then true else decide (m.f<0) then true else decide (1073741824<m.f) then true else decide (m.t<0) then true else decide (1073741824<m.t) then true else decide (m.f=m.t))=iL m:=by
 unfold iL qG
 have e:∀a:Int,(!(decide (0≤a) && decide (a≤1073741824)))=(bif decide (a<0) then true else decide (1073741824<a)):=by
  intro a
  by_cases h1:0≤a <;> by_cases h2:a≤1073741824 <;> simp [h1,h2] <;> omega
 rw [e,e]
 cases decide (m.it<0) <;> cases decide (4≤m.it) <;> cases decide (m.n<1) <;> cases decide (1099511627776<m.n) <;> cases decide (m.f<0) <;> cases decide (1073741824<m.f) <;> cases decide (m.t<0) <;> cases decide (1073741824<m.t) <;> rfl
theorem Ok (s:St):sG (gG s)=gG s:=rfl
def Sx (v:RV) (st:St) (i:Nat):br:=⟨1,[(0,.dv (MK v)),(3,.ptr 0 0),(5,.dv (I i))],[(0,U8 st)]⟩
set_option maxHeartbeats 4000000 in
theorem EP (v:RV) (hl:r6 v.steps) (RQ:v.steps.length≤50) (st:St) (U9:st.mv.length≤4):cP Tryz.prog 44 [MK v,gG st] [I (oj v.steps [] st.mv)]:=by
 refine bI aO mixed (aq _) (ar _) Tryz.func44 rfl (by kernel_rfl) rfl ?_
 refine ⟨Nat,Sx v st,fun i=>i≤st.mv.length∧oj v.steps (st.mv.take i) (st.mv.drop i)=oj v.steps [] st.mv∧∀m∈st.mv.take i,iL m=false,fun i=>st.mv.length - i,0,fun _=>rfl,⟨⟨rf,rfl,rf,tv⟩,⟨⟨rf,rf,rf,rf,rf,rf,rf,tv⟩,tv⟩,rfl,rfl⟩,⟨by omega,by simp,by simp⟩,?_⟩
 rintro i ⟨hi,xm,GD⟩
 refine ⟨fun h=>?_,fun h=>?_⟩
 ·have hk:i<st.mv.length:=by simpa using h
  have hs:=List.getElem?_eq_getElem hk
  have aA:=List.drop_eq_getElem_cons hk
  generalize st.mv[i]=m at hs aA
  have jO:(st.mv.map bR)[((i:Int)).toNat]?=some (bR m):=by rw [Int.toNat_natCast,List.getElem?_map,hs]; rfl
  rw [aA,oj] at xm
  have aJ:st.mv.length - (i+1)<st.mv.length - i:=by omega
  refine ⟨bR m,fun _=>⟨by omega,jO⟩,?_⟩
  repeat first | refine ⟨id,?_⟩ | refine ⟨fun _ h=>cx h,?_⟩ | refine ⟨fun _ h=>ay h,?_⟩ | refine ⟨fun h=>⟨h,fun h2=>aQ h h2⟩,?_⟩ | refine ⟨fun h=>⟨h,fun h2=>aF h h2⟩,?_⟩
  refine ⟨by kernel_rfl,fun hc=>?_,fun hc=>?_⟩
  ·have hc:=(KL m).symm.trans hc
   rw [if_pos hc] at xm
   exact ⟨aB xm,tv⟩
  have hc:=(KL m).symm.trans hc
  rw [if_neg (by rw [hc]; simp)] at xm
  obtain ⟨b1,b2,b3,b4,b5,b6,b7⟩:=qI hc
  have R3:List.drop (Option.getD none (0:Int)).toNat (List.take (Option.getD (some (i:Int)) ((st.mv.map bR).length:Int)).toNat (st.mv.map bR))=(st.mv.take i).map bR:=by
   simp [List.map_take]
  have yf:∀q:List St,(q.map gG).length=q.length:=fun q=>List.length_map ..
  refine ⟨fun _=>⟨Int.le_refl _,by show (0:Int)≤(i:Int); omega,by show (i:Int)≤((st.mv.map bR).length:Int); rw [List.length_map]; omega⟩,.inr ⟨v.steps.map gG,eJ.refl _,by rw [MI,yf]; omega,by rw [yf]; omega,?_⟩⟩
  have Hy:st.mv.take (i+1)=st.mv.take i++[m]:=by rw [List.take_add_one,hs]; rfl
  have Sy:∀x∈st.mv.take (i+1),iL x=false:=by
   rw [Hy]; intro x hx
   rcases List.mem_append.1 hx with hx | hx
   ·exact GD x hx
   ·simp only [List.mem_singleton] at hx; subst hx; exact hc
  by_cases h0:m.f=0
  ·have hg:bw (m.f != 0) true=false:=by rw [h0]; rfl
   have Yd:(m.f != 0)=false:=by rw [h0]; rfl
   refine .inr (.inl ⟨hg,?_⟩)
   refine .inr (.inl ⟨hg,?_⟩)
   repeat first | refine ⟨id,?_⟩ | refine ⟨fun _ h=>cx h,?_⟩ | refine ⟨fun _ h=>ay h,?_⟩ | refine ⟨fun h=>⟨h,fun h2=>aQ h h2⟩,?_⟩ | refine ⟨fun h=>⟨h,fun h2=>aF h h2⟩,?_⟩
   refine .inl ⟨hg,[I 0],(fun h=>by rw [hg] at h; cases h),rfl,?_⟩
   repeat first | refine ⟨id,?_⟩ | refine ⟨fun _ h=>cx h,?_⟩ | refine ⟨fun _ h=>ay h,?_⟩ | refine ⟨fun h=>⟨h,fun h2=>aQ h h2⟩,?_⟩ | refine ⟨fun h=>⟨h,fun h2=>aF h h2⟩,?_⟩
   have hn:¬ (m.f ≠ 0∧bg m.f m.it (v.steps++[⟨0,0,0,0,0,0,st.mv.take i⟩])<m.n):=by rintro ⟨h9,_⟩; exact h9 h0
   rw [if_neg hn] at xm
   refine ⟨by kernel_rfl,fun gC=>?_,fun _=>?_⟩
   ·rw [Yd] at gC; cases gC
   ·exact ⟨fun _=>⟨by omega,by omega⟩,i+1,⟨⟨rf,rfl,aB (by omega),tv⟩,⟨⟨rf,rf,rf,rf,rf,rf,rf,tv⟩,tv⟩,rfl,rfl⟩,⟨by omega,by rw [Hy]; exact xm,Sy⟩,aJ⟩
  ·have hg:bw (m.f != 0) true=true:=ay (by simpa using h0)
   refine .inr (.inr ⟨hg,fun _=>hg,.inl ⟨[gG ⟨0,0,0,0,0,0,st.mv.take i⟩],rfl,⟨rf,rf,rf,rf,rf,rf,DV.Le.of_eq (congrArg (DV.sl 5) R3),tv⟩,(by simp; rfl),?_⟩⟩)
   refine .inr (.inr ⟨hg,fun _=>hg,.inr ⟨[gG ⟨0,0,0,0,0,0,st.mv.take i⟩],eJ.refl _,by rw [MI,yf]; simp; omega,by rw [yf]; simp; omega,?_⟩⟩)
   repeat first | refine ⟨id,?_⟩ | refine ⟨fun _ h=>cx h,?_⟩ | refine ⟨fun _ h=>ay h,?_⟩ | refine ⟨fun h=>⟨h,fun h2=>aQ h h2⟩,?_⟩ | refine ⟨fun h=>⟨h,fun h2=>aF h h2⟩,?_⟩
   have iC:sG (DV.ax 7 (v.steps.map gG++[gG ⟨0,0,0,0,0,0,st.mv.take i⟩]))=jF (v.steps++[(⟨0,0,0,0,0,0,st.mv.take i⟩:St)]):=by
    show DV.sl 7 (Ho (v.steps.map gG++[gG ⟨0,0,0,0,0,0,st.mv.take i⟩]))=DV.sl 7 ((v.steps++[(⟨0,0,0,0,0,0,st.mv.take i⟩:St)]).map gG)
    rw [show v.steps.map gG++[gG ⟨0,0,0,0,0,0,st.mv.take i⟩]=(v.steps++[(⟨0,0,0,0,0,0,st.mv.take i⟩:St)]).map gG by simp,tS Ok]
   have Cy:r6 (v.steps++[(⟨0,0,0,0,0,0,st.mv.take i⟩:St)]):=by
    refine ⟨by rw [List.length_append]; simp; omega,fun s hs=>?_⟩
    rcases List.mem_append.1 hs with hs | hs
    ·exact hl.2 s hs
    ·simp only [List.mem_singleton] at hs; subst hs
     exact ⟨by simp only [List.length_take]; omega,fun x hx=>by have:=qI (GD x hx); omega⟩
   have Wo:=iX _ m.f m.it Cy
   rw [←iC] at Wo
   refine .inl (.inl ⟨_,fun _=>Wo.ok,rfl,?_⟩)
   repeat first | refine ⟨id,?_⟩ | refine ⟨fun _ h=>cx h,?_⟩ | refine ⟨fun _ h=>ay h,?_⟩ | refine ⟨fun h=>⟨h,fun h2=>aQ h h2⟩,?_⟩ | refine ⟨fun h=>⟨h,fun h2=>aF h h2⟩,?_⟩
   have Ol:∀r:Int,(bif m.f != 0 then decide (r<m.n) else false)=decide (r<m.n):=fun r=>by rw [show (m.f != 0)=true by simpa using h0]; rfl
   refine ⟨by kernel_rfl,fun gC=>?_,fun gC=>?_⟩
   ·have gC:=of_decide_eq_true ((Ol _).symm.trans gC)
    rw [if_pos ⟨h0,gC⟩] at xm
    exact ⟨aB xm,tv⟩
   ·have gC:=of_decide_eq_false ((Ol _).symm.trans gC)
    rw [if_neg (fun h9=>gC h9.2)] at xm
    exact ⟨fun _=>⟨by omega,by omega⟩,i+1,⟨⟨rf,rfl,aB (by omega),tv⟩,⟨⟨rf,rf,rf,rf,rf,rf,rf,tv⟩,tv⟩,rfl,rfl⟩,⟨by omega,by rw [Hy]; exact xm,Sy⟩,aJ⟩
 ·have hk:i=st.mv.length:=by
   have:¬ i<st.mv.length:=by simpa using h
   omega
  subst hk
  rw [List.drop_length] at xm
  exact ⟨aB xm,tv⟩
end Go.Proofs.YtpbdohkbiklflaaGreatDoor
namespace Go.Proofs.YtpbdohkbiklflaaGreatDoor
open Go.TM
variable [cZ]
set_option maxRecDepth 100000
theorem As (l r:List St):∀xs:List Int,pk l r xs≤4 * xs.length
 | []=>Nat.le_refl _
 | a::q=>by
  have h1:=As l r q
  have h2:=tU (fun k=>!decide (bg a (k:Nat) l=bg a (k:Nat) r)) 4
  unfold pk at h1 ⊢
  rw [List.map_cons,List.sum_cons,List.length_cons]
  have h3:QM a l r=(List.range 4).countP fun k=>!decide (bg a (k:Nat) l=bg a (k:Nat) r):=rfl
  omega
theorem Gw {steps:List St}:∀{r b:List Mv},oj steps b r=0→∀m∈r,iL m=false
 | [],_,_,m,hm=>by cases hm
 | v::r,b,h,m,hm=>by
  rw [oj] at h
  split at h
  ·cases h
  rename_i hb
  split at h
  ·cases h
  rcases List.mem_cons.1 hm with rfl | hm
  ·simpa using hb
  ·exact Gw h m hm
def Sz (v:RV) (st:St) (i:Nat):br:=⟨2,[(0,.own 0 0 0 []),(3,.ptr 1 0),(6,.dv (jF (v.steps++[st]))),(7,.dv (gD (cn (v.steps++[st])))),(8,.dv (I i))],Ku { v with work:=v.work+(pk (v.steps++[st]) v.steps ((cn (v.steps++[st])).take i):Nat) }++[(1,U8 st)]⟩
def Qc (v:RV) (st:St) (i:Nat) (a:Int) (k:Nat):br:=⟨2,[(0,.own 0 0 0 []),(3,.ptr 1 0),(6,.dv (jF (v.steps++[st]))),(7,.dv (gD (cn (v.steps++[st])))),(8,.dv (I i)),(9,.dv (I k))],Ku { v with work:=v.work+(pk (v.steps++[st]) v.steps ((cn (v.steps++[st])).take i)+(List.range k).countP fun k=>!decide (bg a (k:Nat) (v.steps++[st])=bg a (k:Nat) v.steps):Nat) }++[(1,U8 st)]⟩
set_option maxHeartbeats 4000000 in
theorem ER (v:RV) (hl:r6 v.steps) (RQ:v.steps.length≤50) (st:St) (U9:st.mv.length≤4) (hw:0≤v.ab∧v.ab≤1099511627776) (Sk:0≤v.work∧v.work≤1000000000000) (pY:0≤cC v.steps∧cC v.steps≤1099511627776) :
  bl Tryz.prog 20 [.own 0 0 0 [],Es st] 1 (Ku v) 0 [.dv (I (kn v st))] (Ku (if kn v st=0 then nt v st else v)):=by
 refine bn aO mixed (aq _) (ar _) Tryz.func20 rfl rfl (by kernel_rfl) ?_
 refine .inl (.inl ⟨_,fun _=>(n3 v (by omega)).ok,rfl,?_⟩)
 repeat first | refine ⟨id,?_⟩ | refine ⟨fun _ h=>cx h,?_⟩ | refine ⟨fun _ h=>ay h,?_⟩ | refine ⟨fun h=>⟨h,fun h2=>aQ h h2⟩,?_⟩ | refine ⟨fun h=>⟨h,fun h2=>aF h h2⟩,?_⟩
 refine ⟨by kernel_rfl,fun hc=>?_,fun hc=>?_⟩
 ·have hc:st.tick<cC v.steps ∨ 1099511627776<st.tick:=by
   have hc:(bif decide (st.tick<cC v.steps) then true else decide (1099511627776<st.tick))=true:=hc
   simpa using hc
  have he:kn v st=1:=if_pos hc
  rw [he,if_neg (by decide)]
  exact ⟨_,_,⟨rfl,rfl⟩,by kernel_rfl,⟨rf,tv⟩,⟨rfl,rfl⟩,tv⟩
 have hc:¬ (st.tick<cC v.steps ∨ 1099511627776<st.tick):=by
  have hc:(bif decide (st.tick<cC v.steps) then true else decide (1099511627776<st.tick))=false:=hc
  rintro (h1 | h1) <;> simp [h1] at hc
 refine .inl (.inl ⟨_,fun _=>(EP v hl RQ st U9).ok,rfl,?_⟩)
 refine ⟨fun h9=>?_,fun h9=>?_⟩
 ·have h9:oj v.steps [] st.mv ≠ 0:=by simpa using h9
  have he:kn v st=oj v.steps [] st.mv:=by unfold kn; rw [if_neg hc,if_pos h9]
  rw [he,if_neg h9]
  exact ⟨_,_,⟨rfl,rfl⟩,by kernel_rfl,⟨rf,tv⟩,⟨rfl,rfl⟩,tv⟩
 have h9:oj v.steps [] st.mv=0:=by simpa using h9
 have hE:kn v st=if v.aC<(ym v.coin v.ab (v.steps++[st]) st.tick:Int) then 22 else 0:=by
  unfold kn; rw [if_neg hc,if_neg (by rw [h9]; simp)]
 have UQ:=Gw (b:=[]) h9
 have hlen:(v.steps++[st]).length=v.steps.length+1:=by rw [List.length_append]; rfl
 have Cy:r6 (v.steps++[st]):=by
  refine ⟨by omega,fun s hs=>?_⟩
  rcases List.mem_append.1 hs with hs | hs
  ·exact hl.2 s hs
  ·simp only [List.mem_singleton] at hs; subst hs
   exact ⟨U9,fun x hx=>by have:=qI (UQ x hx); omega⟩
 have iC:sG (DV.ax 7 (v.steps.map gG++[gG st]))=jF (v.steps++[st]):=by
  show DV.sl 7 (Ho (v.steps.map gG++[gG st]))=DV.sl 7 ((v.steps++[st]).map gG)
  rw [show v.steps.map gG++[gG st]=(v.steps++[st]).map gG by simp,tS Ok]
 have yf:∀q:List St,(q.map gG).length=q.length:=fun q=>List.length_map ..
 have Hy:0≤st.tick∧st.tick≤1099511627776:=by omega
 have aT:=Ez v (v.steps++[st]) Cy st.tick (by omega)
 have QH:=yp (v.steps++[st]) Cy
 rw [←iC] at aT QH
 refine .inr ⟨v.steps.map gG,eJ.refl _,by rw [MI,yf]; omega,by rw [yf]; omega,?_⟩
 refine .inl ⟨[gG st],rfl,⟨rf,rf,rf,rf,rf,rf,rf,tv⟩,(by simp; rfl),.inr ⟨[gG st],eJ.refl _,by rw [MI,yf]; simp; omega,by rw [yf]; simp; omega,?_⟩⟩
 refine .inl (.inl ⟨_,fun _=>aT.ok,rfl,?_⟩)
 refine ⟨by kernel_rfl,fun hz=>?_,fun hz=>?_⟩
 ·have hz:=of_decide_eq_true hz
  rw [if_pos hz] at hE
  rw [hE,if_neg (by decide)]
  exact ⟨_,_,⟨rfl,rfl⟩,by kernel_rfl,⟨rf,tv⟩,⟨rfl,rfl⟩,tv⟩
 have hz:=of_decide_eq_false hz
 rw [if_neg hz] at hE
 rw [hE,if_pos rfl]
 refine .inl (.inr ⟨_,fun _=>QH.ok,?_⟩)
 have Si:=Ew Cy
 refine ⟨Nat,Sz v st,fun i=>i≤(cn (v.steps++[st])).length,fun i=>(cn (v.steps++[st])).length - i,0,fun _=>rfl,⟨⟨rfl,rfl,?_,rf,rf,tv⟩,⟨⟨rfl,?_⟩,⟨rf,rf,rf,rf,rf,rf,rf,tv⟩,tv⟩,rfl,rfl⟩,by omega,?_⟩
 ·exact DV.Le.of_eq iC
 ·show DV.cQ (P3 v)=DV.cQ (P3 { v with work:=v.work+(pk (v.steps++[st]) v.steps ((cn (v.steps++[st])).take 0):Nat) })
  rw [List.take_zero,show pk (v.steps++[st]) v.steps []=0 from rfl,show v.work+((0:Nat):Int)=v.work by omega]
 rintro i hi
 refine ⟨fun h=>?_,fun h=>?_⟩
 ·have hk:i<(cn (v.steps++[st])).length:=by simpa using h
  have hs:=List.getElem?_eq_getElem hk
  generalize (cn (v.steps++[st]))[i]=a at hs
  have jO:((cn (v.steps++[st])).map I)[((i:Int)).toNat]?=some (I a):=by rw [Int.toNat_natCast,List.getElem?_map,hs]; rfl
  have P6:=As (v.steps++[st]) v.steps ((cn (v.steps++[st])).take i)
  rw [List.length_take] at P6
  refine ⟨Nat,Qc v st i a,fun k=>k≤4,fun k=>4 - k,0,fun _=>rfl,⟨⟨rfl,rfl,rf,rf,rf,rf,tv⟩,⟨⟨rfl,rfl⟩,⟨rf,rf,rf,rf,rf,rf,rf,tv⟩,tv⟩,rfl,rfl⟩,by omega,?_⟩
  rintro k C7
  refine ⟨fun h=>?_,fun h=>?_⟩
  ·have HA:k<4:=by have:=of_decide_eq_true h; omega
   have de:=Cg (fun k=>!decide (bg a (k:Nat) (v.steps++[st])=bg a (k:Nat) v.steps)) k
   have ML:=tU (fun k=>!decide (bg a (k:Nat) (v.steps++[st])=bg a (k:Nat) v.steps)) k
   refine ⟨I a,fun _=>⟨by omega,jO⟩,?_⟩
   refine .inl ⟨_,fun _=>(iX (v.steps++[st]) a k Cy).ok,?_⟩
   refine ⟨I a,fun _=>⟨by omega,jO⟩,?_⟩
   refine .inl ⟨_,fun _=>(iX v.steps a k hl).ok,?_⟩
   have aJ:4 - (k+1)<4 - k:=by omega
   refine ⟨by kernel_rfl,fun hc=>?_,fun hc=>?_⟩
   ·have hc:(!decide (bg a (k:Nat) (v.steps++[st])=bg a (k:Nat) v.steps))=true:=hc
    rw [if_pos hc] at de
    generalize hD:pk (v.steps++[st]) v.steps ((cn (v.steps++[st])).take i)=D at *
    generalize hC:(List.range k).countP (fun k=>!decide (bg a (k:Nat) (v.steps++[st])=bg a (k:Nat) v.steps))=C at *
    refine ⟨fun _=>⟨by show _≤v.work+((D+C:Nat):Int)+1; omega,by show v.work+((D+C:Nat):Int)+1≤_; omega⟩,?_⟩
    refine ⟨[I (v.work+((D+C:Nat):Int)+1)],⟨rf,tv⟩,?_⟩
    refine ⟨fun _=>⟨by omega,by omega⟩,k+1,⟨⟨rfl,rfl,rf,rf,rf,aB (by omega),tv⟩,⟨⟨rfl,?_⟩,⟨rf,rf,rf,rf,rf,rf,rf,tv⟩,tv⟩,rfl,rfl⟩,by omega,aJ⟩
    rw [hD,de]
    show DV.cQ (.agg [I 4,I v.coin,I v.ab,I v.aC,jF v.steps,I (v.work+((D+C:Nat):Int)+1)])=DV.cQ (.agg [I 4,I v.coin,I v.ab,I v.aC,jF v.steps,I (v.work+((D+(C+1):Nat):Int))])
    rw [show v.work+((D+C:Nat):Int)+1=v.work+((D+(C+1):Nat):Int) by omega]
   ·have hc:(!decide (bg a (k:Nat) (v.steps++[st])=bg a (k:Nat) v.steps))=false:=hc
    rw [if_neg (by rw [hc]; simp)] at de
    refine ⟨fun _=>⟨by omega,by omega⟩,k+1,⟨⟨rfl,rfl,rf,rf,rf,aB (by omega),tv⟩,⟨⟨rfl,?_⟩,⟨rf,rf,rf,rf,rf,rf,rf,tv⟩,tv⟩,rfl,rfl⟩,by omega,aJ⟩
    rw [de]; rfl
  ·have HA:k=4:=by have:=of_decide_eq_false h; omega
   have de:=Ch (f:=fun a=>QM a (v.steps++[st]) v.steps) hs
   refine ⟨fun _=>⟨by omega,by omega⟩,i+1,⟨⟨rfl,rfl,rf,rf,aB (by omega),tv⟩,⟨⟨rfl,?_⟩,⟨rf,rf,rf,rf,rf,rf,rf,tv⟩,tv⟩,rfl,rfl⟩,by omega,by show (cn (v.steps++[st])).length - (i+1)<(cn (v.steps++[st])).length - i; omega⟩
   rw [HA,show pk (v.steps++[st]) v.steps ((cn (v.steps++[st])).take (i+1))=pk (v.steps++[st]) v.steps ((cn (v.steps++[st])).take i)+(List.range 4).countP (fun k=>!decide (bg a (k:Nat) (v.steps++[st])=bg a (k:Nat) v.steps)) from de]
 ·have hk:i=(cn (v.steps++[st])).length:=by
   have:¬ i<(cn (v.steps++[st])).length:=by simpa using h
   omega
  rw [hk,List.take_length]
  have Y3:=As (v.steps++[st]) v.steps (cn (v.steps++[st]))
  have Wp:nt v st={ v with steps:=v.steps++[st],work:=v.work+(pk (v.steps++[st]) v.steps (cn (v.steps++[st])):Int)+eZ (bh v.coin st)+(bq v.coin v.ab v.steps (cC v.steps):Int) - ((bq v.coin v.ab (v.steps++[st]) st.tick:Int) - eZ (bh v.coin st)) }:=rfl
  generalize pk (v.steps++[st]) v.steps (cn (v.steps++[st]))=D at *
  have pj:=r7 { v with work:=v.work+(D:Nat) } st
  rw [Ag] at pj
  generalize ik v.coin st=q at pj
  refine .inl (.inl ⟨_,fun _=>pj.ok,rfl,?_⟩)
  have eT:=Ai v.coin v.ab v.steps (cC v.steps)
  have ot:=Ai v.coin v.ab (v.steps++[st]) st.tick
  have Wq:∀w,w+(bq v.coin v.ab v.steps (cC v.steps):Int) - ((bq v.coin v.ab (v.steps++[st]) st.tick:Int) - eZ (bh v.coin st))=(nt v st).work→P3 (nt v st)=.agg [I 4,I v.coin,I v.ab,I v.aC,jF (v.steps++[st]),I (w+(bq v.coin v.ab v.steps (cC v.steps):Int) - ((bq v.coin v.ab (v.steps++[st]) st.tick:Int) - eZ (bh v.coin st)))]:=fun w hw=>by rw [hw]; rfl
  have tA:0≤eZ (bh v.coin st)∧eZ (bh v.coin st)≤1:=by unfold eZ; cases bh v.coin st <;> simp
  refine ⟨fun hb=>?_,fun hb=>?_⟩
  ·have hb:bh v.coin st=true:=hb
   refine ⟨fun _=>⟨by show _≤v.work+(D:Int)+1; omega,by show v.work+(D:Int)+1≤_; omega⟩,?_⟩
   refine ⟨[I (v.work+(D:Int)+1)],⟨rf,tv⟩,?_⟩
   refine .inl (.inl ⟨_,fun _=>(n3 { v with work:=v.work+(D:Int)+1 } (by show v.steps.length≤1000; omega)).ok,rfl,?_⟩)
   refine .inl (.inl ⟨_,fun _=>(jG { v with work:=v.work+(D:Int)+1 } v.steps hl.1 (cC v.steps) (by show _≤cC v.steps - v.ab∧cC v.steps - v.ab≤_; omega)).ok,rfl,?_⟩)
   refine ⟨fun _=>⟨by show _≤v.work+(D:Int)+1+(bq v.coin v.ab v.steps (cC v.steps):Int); omega,by show v.work+(D:Int)+1+(bq v.coin v.ab v.steps (cC v.steps):Int)≤_; omega⟩,?_⟩
   refine .inl (.inl ⟨_,fun _=>(jG { v with work:=v.work+(D:Int)+1 } (v.steps++[st]) Cy.1 st.tick (by show _≤st.tick - v.ab∧st.tick - v.ab≤_; omega)).ok,rfl,?_⟩)
   refine .inl ⟨_,fun _=>(Cf (bh v.coin st)).ok,?_⟩
   refine ⟨fun _=>⟨by show _≤(bq v.coin v.ab (v.steps++[st]) st.tick:Int) - eZ (bh v.coin st); omega,by show (bq v.coin v.ab (v.steps++[st]) st.tick:Int) - eZ (bh v.coin st)≤_; omega⟩,?_⟩
   refine ⟨fun _=>⟨by show _≤v.work+(D:Int)+1+(bq v.coin v.ab v.steps (cC v.steps):Int) - ((bq v.coin v.ab (v.steps++[st]) st.tick:Int) - eZ (bh v.coin st)); omega,by show v.work+(D:Int)+1+(bq v.coin v.ab v.steps (cC v.steps):Int) - ((bq v.coin v.ab (v.steps++[st]) st.tick:Int) - eZ (bh v.coin st))≤_; omega⟩,?_⟩
   refine ⟨[I (v.work+(D:Int)+1+(bq v.coin v.ab v.steps (cC v.steps):Int) - ((bq v.coin v.ab (v.steps++[st]) st.tick:Int) - eZ (bh v.coin st)))],⟨rf,tv⟩,?_⟩
   refine ⟨by kernel_rfl,?_⟩
   refine ⟨[jF (v.steps++[st])],⟨rf,tv⟩,?_⟩
   refine ⟨_,_,⟨rfl,rfl⟩,by kernel_rfl,⟨rf,tv⟩,⟨rfl,?_⟩,tv⟩
   rw [Wq (v.work+(D:Int)+1) (by rw [Wp,hb]; simp [eZ])]
   rfl
  ·have hb:bh v.coin st=false:=hb
   refine .inl (.inl ⟨_,fun _=>(n3 { v with work:=v.work+(D:Int) } (by show v.steps.length≤1000; omega)).ok,rfl,?_⟩)
   refine .inl (.inl ⟨_,fun _=>(jG { v with work:=v.work+(D:Int) } v.steps hl.1 (cC v.steps) (by show _≤cC v.steps - v.ab∧cC v.steps - v.ab≤_; omega)).ok,rfl,?_⟩)
   refine ⟨fun _=>⟨by show _≤v.work+(D:Int)+(bq v.coin v.ab v.steps (cC v.steps):Int); omega,by show v.work+(D:Int)+(bq v.coin v.ab v.steps (cC v.steps):Int)≤_; omega⟩,?_⟩
   refine .inl (.inl ⟨_,fun _=>(jG { v with work:=v.work+(D:Int) } (v.steps++[st]) Cy.1 st.tick (by show _≤st.tick - v.ab∧st.tick - v.ab≤_; omega)).ok,rfl,?_⟩)
   refine .inl ⟨_,fun _=>(Cf (bh v.coin st)).ok,?_⟩
   refine ⟨fun _=>⟨by show _≤(bq v.coin v.ab (v.steps++[st]) st.tick:Int) - eZ (bh v.coin st); omega,by show (bq v.coin v.ab (v.steps++[st]) st.tick:Int) - eZ (bh v.coin st)≤_; omega⟩,?_⟩
   refine ⟨fun _=>⟨by show _≤v.work+(D:Int)+(bq v.coin v.ab v.steps (cC v.steps):Int) - ((bq v.coin v.ab (v.steps++[st]) st.tick:Int) - eZ (bh v.coin st)); omega,by show v.work+(D:Int)+(bq v.coin v.ab v.steps (cC v.steps):Int) - ((bq v.coin v.ab (v.steps++[st]) st.tick:Int) - eZ (bh v.coin st))≤_; omega⟩,?_⟩
   refine ⟨[I (v.work+(D:Int)+(bq v.coin v.ab v.steps (cC v.steps):Int) - ((bq v.coin v.ab (v.steps++[st]) st.tick:Int) - eZ (bh v.coin st)))],⟨rf,tv⟩,?_⟩
   refine ⟨by kernel_rfl,?_⟩
   refine ⟨[jF (v.steps++[st])],⟨rf,tv⟩,?_⟩
   refine ⟨_,_,⟨rfl,rfl⟩,by kernel_rfl,⟨rf,tv⟩,⟨rfl,?_⟩,tv⟩
   rw [Wq (v.work+(D:Int)) (by rw [Wp,hb]; simp [eZ])]
   rfl
end Go.Proofs.YtpbdohkbiklflaaGreatDoor
namespace Go.Proofs.YtpbdohkbiklflaaGreatDoor
open Go.TM
variable [cZ]
def Tz:Vs:=KH 1 10 100
def mq:St:=⟨0,0,0,0,0,0,[⟨0,1,0,5⟩,⟨0,2,1,9⟩]⟩
def DR:St:=⟨0,2,0,4,0,0,[⟨1,2,0,3⟩,⟨2,1,1,7⟩]⟩
def A1:HM:=[((1,0),5),((2,1),9)]
def A2:HM:=[((1,0),2),((2,0),3),((2,1),2),((1,1),7)]
theorem Qd (coin ab aC:Int) (hw:1≤ab∧ab≤1099511627776):KG (KH coin ab aC) [] 0 0:=by
 refine ⟨⟨List.nodup_nil,fun p hp=>(by cases hp),Nat.le_refl _,rfl,rfl,fun i hi=>?_,fun i hi=>?_⟩,⟨⟨rfl,rfl,fun p hp=>(by cases hp),fun i f l h=>?_,fun i f l h hf=>?_,by simp,fun p hp=>(by cases hp)⟩,Nat.le_refl _,fun p hp=>(by cases hp),fun i j x y hx=>by simp [ck] at hx,List.Pairwise.nil,fun p hp=>(by cases hp)⟩,hw,Int.le_refl _,⟨Int.le_refl _,Int.le_refl _⟩,fun p hp=>(by cases hp)⟩
 ·have:(KH coin ab aC).rk.getD i (true,[])=(true,[]):=by
   obtain h | h | h | h:i=0 ∨ i=1 ∨ i=2 ∨ i=3:=by omega
   all_goals (subst h; rfl)
  rw [this]
  exact ⟨fun _=>rfl,List.Pairwise.nil,fun x=>by simp [KH,bm]⟩
 ·obtain h | h | h | h:i=0 ∨ i=1 ∨ i=2 ∨ i=3:=by omega
  all_goals (subst h; rfl)
 all_goals
  have hi:i<4:=(List.getElem?_eq_some_iff.1 h).1
  obtain h0 | h0 | h0 | h0:i=0 ∨ i=1 ∨ i=2 ∨ i=3:=by omega
  all_goals (subst h0; simp [KH] at h; simp [ck,h])
theorem f1:eS Tz [] mq=.ok A1:=by kernel_rfl
def QS:Vs:=cL Tz [] mq (aI Tz A1)
def S1:SS:=nv Tz [] mq
theorem f2:eS QS S1 DR=.ok A2:=by kernel_rfl
def yI:Vs:=cL QS S1 DR (aI QS A2)
def S2:SS:=nv QS S1 DR
theorem v1:KG QS S1 8 1:=(ub (Qd 1 10 100 ⟨by omega,by omega⟩) (by omega) (by omega) mq (by simp [mq]) f1).1
theorem v2:KG yI S2 16 2:=(ub v1 (by omega) (by omega) DR (by simp [DR]) f2).1
set_option maxRecDepth 100000
set_option maxHeartbeats 4000000 in
theorem ES:cP Tryz.prog 14 [] [B true]:=by
 have c0:=yG 1 10 100 rfl rfl
 have c1:=si (Qd 1 10 100 ⟨by omega,by omega⟩) (by omega) (by omega) mq (by simp [mq])
 have c2:=si v1 (by omega) (by omega) DR (by simp [DR])
 rw [show eS (KH 1 10 100) [] mq=.ok A1 from f1] at c1
 rw [f2] at c2
 simp only at c1 c2
 have ew:yI.ab=10:=by kernel_rfl
 have Va:=tc yI 0 13 (by omega) (by kernel_rfl) (by rw [show yI.last=4 by kernel_rfl]; omega) [⟨4,3,7,3,7⟩] (by kernel_rfl) 0 (by omega) (by simp) (by rw [ew]; omega) (fun i y hi _=>by omega)
  (fun i y _ hy=>by have hy:=List.mem_of_getElem? hy; simp only [List.mem_singleton] at hy; subst hy; rw [ew]; simp only; omega) (fun y hy=>by simp only [List.mem_singleton] at hy; subst hy; simp only; omega)
 have Vb:=tc yI 0 14 (by omega) (by kernel_rfl) (by rw [show yI.last=4 by kernel_rfl]; omega) [⟨4,3,7,3,7⟩] (by kernel_rfl) 1 (by simp) (by simp) (by rw [ew]; omega)
  (fun i y _ hy=>by have hy:=List.mem_of_getElem? hy; simp only [List.mem_singleton] at hy; subst hy; rw [ew]; simp only; omega) (fun i y hi hy=>by have:=(List.getElem?_eq_some_iff.1 hy).1; simp at this; omega) (fun y hy=>by simp only [List.mem_singleton] at hy; subst hy; simp only; omega)
 rw [show sk yI 0 [⟨4,3,7,3,7⟩] 0=([0,1,3,7,2],true) by kernel_rfl] at Va
 rw [show sk yI 0 [⟨4,3,7,3,7⟩] 1=([0,0,0,0,0],false) by kernel_rfl] at Vb
 simp only at Va Vb
 have t0:=Kl yI (by kernel_rfl) (fun x hx=>by
  obtain ⟨i,hi⟩:=List.getElem?_of_mem hx
  have hl:i<4:=by have:=(List.getElem?_eq_some_iff.1 hi).1; rw [show yI.rk.length=4 by kernel_rfl] at this; exact this
  have:=v2.bU.rk i hl
  rw [List.getD_eq_getElem?_getD,hi] at this
  have h2:=KC this
  have h3:=v2.bU.len
  exact ⟨by simp only [Option.getD_some] at h2; omega,this.1⟩) 0 1 (by omega)
 rw [show MC yI 0 1=[(2,3)] by kernel_rfl] at t0
 have z0:=yj yI (by rw [show yI.H.length=4 by kernel_rfl,show yI.bQ.length=1 by kernel_rfl]; omega)
 rw [show ((yI.H.length:Int)+(yI.bQ.length:Int))=5 by kernel_rfl] at z0
 refine bI aO mixed (aq _) (ar _) Tryz.func14 rfl (by kernel_rfl) rfl ?_
 refine .inl ⟨_,fun _=>wo.ok,?_⟩
 refine .inr ⟨[],[uZ (z5 ez),.dv (I 1),.dv (I 10),.dv (I 100)],[],7,_,_,c0,by kernel_rfl,by kernel_rfl,⟨⟨rf,rf,rf,rf,tv⟩,rf,rf,rf,tv⟩,tv,?_⟩
 repeat first | refine ⟨id,?_⟩ | refine ⟨fun _ h=>cx h,?_⟩ | refine ⟨fun _ h=>ay h,?_⟩ | refine ⟨fun h=>⟨h,fun h2=>aQ h h2⟩,?_⟩ | refine ⟨fun h=>⟨h,fun h2=>aF h h2⟩,?_⟩
 refine ⟨fun h=>by simp at h,fun _=>?_⟩
 refine .inl ⟨[bR ⟨0,1,0,5⟩,bR ⟨0,2,1,9⟩],rfl,⟨rf,rf,rf,rf,rf,rf,rf,rf,rf,rf,tv⟩,(by simp; exact ⟨rfl,rfl⟩),.inr ⟨[4,1,2,5,3,6],[.ptr 0 0,Es mq],vK false (KH 1 10 100),9,_,_,c1,by kernel_rfl,by kernel_rfl,⟨rfl,⟨rf,rf,rf,rf,rf,rf,rf,tv⟩,tv⟩,⟨⟨rf,rf,rf,rf,rf,rf,rfl,rfl,rfl,rfl,rfl,tv⟩,⟨rfl,rfl⟩,⟨rfl,rfl⟩,⟨rfl,rfl⟩,⟨rfl,rfl⟩,⟨rfl,rfl⟩,tv⟩,?_⟩⟩
 refine .inl ⟨[bR ⟨1,2,0,3⟩,bR ⟨2,1,1,7⟩],rfl,⟨rf,rf,rf,rf,rf,rf,rf,rf,rf,rf,tv⟩,(by simp; exact ⟨rfl,rfl⟩),.inr ⟨[4,1,2,5,3,6],[.ptr 0 0,Es DR],vK false QS,9,_,_,c2,by kernel_rfl,by kernel_rfl,⟨rfl,⟨rf,rf,rf,rf,rf,rf,rf,tv⟩,tv⟩,⟨⟨rf,rf,rf,rf,rf,rf,rfl,rfl,rfl,rfl,rfl,tv⟩,⟨rfl,rfl⟩,⟨rfl,rfl⟩,⟨rfl,rfl⟩,⟨rfl,rfl⟩,⟨rfl,rfl⟩,tv⟩,?_⟩⟩
 refine .inr ⟨[4,1,2,5,3,6],[.ptr 0 0,.dv (I 0),.dv (I 13)],vK false yI,0,_,_,Va,by kernel_rfl,by kernel_rfl,⟨rfl,rf,rf,tv⟩,⟨⟨rf,rf,rf,rf,rf,rf,rfl,rfl,rfl,rfl,rfl,tv⟩,⟨rfl,rfl⟩,⟨rfl,rfl⟩,⟨rfl,rfl⟩,⟨rfl,rfl⟩,⟨rfl,rfl⟩,tv⟩,?_⟩
 refine .inr ⟨[4,1,2,5,3,6],[.ptr 0 0,.dv (I 0),.dv (I 14)],vK false yI,0,_,_,Vb,by kernel_rfl,by kernel_rfl,⟨rfl,rf,rf,tv⟩,⟨⟨rf,rf,rf,rf,rf,rf,rfl,rfl,rfl,rfl,rfl,tv⟩,⟨rfl,rfl⟩,⟨rfl,rfl⟩,⟨rfl,rfl⟩,⟨rfl,rfl⟩,⟨rfl,rfl⟩,tv⟩,?_⟩
 refine .inr ⟨[4,1,2,5,3,6],[.ptr 0 0,.dv (I 0),.dv (I 1)],vK false yI,0,_,_,t0,by kernel_rfl,by kernel_rfl,⟨rfl,rf,rf,tv⟩,⟨⟨rf,rf,rf,rf,rf,rf,rfl,rfl,rfl,rfl,rfl,tv⟩,⟨rfl,rfl⟩,⟨rfl,rfl⟩,⟨rfl,rfl⟩,⟨rfl,rfl⟩,⟨rfl,rfl⟩,tv⟩,?_⟩
 repeat first | refine ⟨id,?_⟩ | refine ⟨fun _ h=>cx h,?_⟩ | refine ⟨fun _ h=>ay h,?_⟩ | refine ⟨fun h=>⟨h,fun h2=>aQ h h2⟩,?_⟩ | refine ⟨fun h=>⟨h,fun h2=>aF h h2⟩,?_⟩
 refine ⟨eR (2,3),fun _=>⟨by omega,rfl⟩,?_⟩
 repeat first | refine ⟨id,?_⟩ | refine ⟨fun _ h=>cx h,?_⟩ | refine ⟨fun _ h=>ay h,?_⟩ | refine ⟨fun h=>⟨h,fun h2=>aQ h h2⟩,?_⟩ | refine ⟨fun h=>⟨h,fun h2=>aF h h2⟩,?_⟩
 refine ⟨eR (2,3),fun _=>⟨by omega,rfl⟩,?_⟩
 repeat first | refine ⟨id,?_⟩ | refine ⟨fun _ h=>cx h,?_⟩ | refine ⟨fun _ h=>ay h,?_⟩ | refine ⟨fun h=>⟨h,fun h2=>aQ h h2⟩,?_⟩ | refine ⟨fun h=>⟨h,fun h2=>aF h h2⟩,?_⟩
 refine .inr ⟨[4,1,2,5,3,6],[.ptr 0 0],vK false yI,0,_,_,z0,by kernel_rfl,by kernel_rfl,⟨rfl,tv⟩,⟨⟨rf,rf,rf,rf,rf,rf,rfl,rfl,rfl,rfl,rfl,tv⟩,⟨rfl,rfl⟩,⟨rfl,rfl⟩,⟨rfl,rfl⟩,⟨rfl,rfl⟩,⟨rfl,rfl⟩,tv⟩,?_⟩
 exact ⟨by kernel_rfl,fun _=>rfl,fun _ _=>by kernel_rfl,DV.Le.of_eq (by kernel_rfl),tv⟩
end Go.Proofs.YtpbdohkbiklflaaGreatDoor
