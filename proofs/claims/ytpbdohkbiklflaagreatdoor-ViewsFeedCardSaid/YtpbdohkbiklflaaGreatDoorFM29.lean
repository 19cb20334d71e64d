import Derived.Test.YtpbdohkbiklflaaGreatDoorFM22
import Derived.Test.YtpbdohkbiklflaaGreatDoorFM27
import Derived.Test.YtpbdohkbiklflaaGreatDoorFM28
import Derived.Test.YtpbdohkbiklflaaGreatDoorFM23
import Derived.Test.YtpbdohkbiklflaaGreatDoorFM24
set_option linter.unusedVariables false
set_option linter.unusedSimpArgs false
set_option linter.unusedSectionVars false
namespace Go.Proofs.YtpbdohkbiklflaaGreatDoor
open Go.TM
variable [de]
set_option maxRecDepth 100000
theorem IB:bn Tryz.prog 32 [.dv (.fn 33 [])] 0 [] 1 [.ptr 0 0] [(0,.cells [.dv (.fn 33 []),.dv .aH])]:=by
 refine bl aG mixed (aq _) (ar _) Tryz.func32 rfl rfl (by kernel_rfl) ?_
 exact ⟨_,_,⟨rfl,rfl⟩,by kernel_rfl,⟨rfl,tv⟩,⟨rf,rf,tv⟩,tv⟩
theorem IC:bn Tryz.prog 32 [.dv (.fn 33 [])] 0 [] 1 [.own 0 0 0 []] [(0,.tree 0 0 (dY true []))] :=
 Fm (ds:=[.fn 33 [],.aH]) IB
def I0 (coin ab aC:Int):Vs:=⟨coin,ab,aC,0,0,[],[0,0,0,0],[(true,[]),(true,[]),(true,[]),(true,[])],[(true,[]),(true,[]),(true,[]),(true,[])],[]⟩
def Lr (coin:Int):Bool:=bif bif decide (coin<0) then true else decide (4≤coin) then true else !(decide (coin=1) || decide (coin=3))
def Fp (ab aC:Int):Bool:=bif bif bif decide (ab<1) then true else decide (1099511627776<ab) then true else decide (aC<0) then true else decide (1048576<aC)
theorem Ny (n:ByteArray) (coin:Int) (h:0≤coin∧coin<4):∃nm,(wi n)[coin.toNat]?=some (.agg [.str nm,B false,B false,B (decide (coin=1) || decide (coin=3)),I 0,I 0,I 0]):=by
 obtain h | h | h | h:coin=0 ∨ coin=1 ∨ coin=2 ∨ coin=3:=by omega
 all_goals (subst h; exact ⟨_,rfl⟩)
theorem Ls (n:ByteArray) (coin:Int):∃nm,bw (bif decide (coin<0) then true else decide (((wi n).length:Int)≤coin)) false=true→0≤coin∧(wi n)[coin.toNat]?=some (.agg [.str nm,B false,B false,B (decide (coin=1) || decide (coin=3)),I 0,I 0,I 0]):=by
 by_cases h:0≤coin∧coin<4
 ·obtain ⟨nm,hn⟩:=Ny n coin h
  exact ⟨nm,fun _=>⟨h.1,hn⟩⟩
 ·refine ⟨dF,fun hb=>absurd hb ?_⟩
  have:(bif decide (coin<0) then true else decide (((wi n).length:Int)≤coin))=true:=by
   show (bif decide (coin<0) then true else decide ((4:Int)≤coin))=true
   rw [Bool.cond_true_left,Bool.or_eq_true,decide_eq_true_eq,decide_eq_true_eq]; omega
  rw [this]; simp [bw]
theorem VP:(nth tab (nth tab 76).elem).bytes=8:=rfl
def W6 (coin ab aC:Int):List AV:=[.dv (I 4),.dv (I coin),.dv (I ab),.dv (I aC),.dv (I 0),.dv (I 0),.own 1 0 0 [],.own 2 0 0 [],.own 5 0 0 []]
def Ta (coin ab aC:Int) (j:Nat):bh:=⟨6,[(11,.ptr 4 0),(68,.dv (I 4)),(69,.dv (I j))],[(1,.tree 0 0 (.omap eh [])),(2,.tree 0 0 (.ay 1 [I 0,I 0,I 0,I 0])),(3,.tree 0 0 (.ay 1 [.aH,.aH,.aH,.aH])),(4,.cells (W6 coin ab aC++[.own 3 0 0 [],.dv .aH])),(5,.tree 0 0 (.ay 1 (List.replicate j (dY true []))))]⟩
def YR (coin ab aC:Int):ah:=[(1,.tree 0 0 (.omap eh [])),(2,.tree 0 0 (.ay 1 [I 0,I 0,I 0,I 0])),(3,.tree 0 0 (.ay 1 [.aH,.aH,.aH,.aH])),(4,.cells (W6 coin ab aC++[.own 3 0 0 [],.own 6 0 0 []])),(5,.tree 0 0 (.ay 1 (List.replicate 4 (dY true [])))),(6,.tree 0 0 (.ay 1 []))]
set_option maxHeartbeats 4000000 in
theorem sx (coin ab aC:Int) (h:Lr coin=false) (h2:Fp ab aC=false):bn Tryz.prog 11 [tI (wj dF),.dv (I coin),.dv (I ab),.dv (I aC)] 0 [] 7 [.ptr 4 0,.dv (I 0)] (YR coin ab aC):=by
 refine bl aG mixed (aq _) (ar _) Tryz.func11 rfl rfl (by kernel_rfl) ?_
 refine .inl ⟨_,fun _=>Fl.ok,?_⟩
 refine ⟨fun h9=>by simp at h9,fun _=>?_⟩
 repeat first | refine ⟨id,?_⟩ | refine ⟨fun _ h=>cf h,?_⟩ | refine ⟨fun _ h=>ax h,?_⟩ | refine ⟨fun h=>⟨h,fun h2=>aQ h h2⟩,?_⟩ | refine ⟨fun h=>⟨h,fun h2=>aD h h2⟩,?_⟩
 obtain ⟨nm,PN⟩:=Ls dF coin
 refine ⟨_,PN,?_⟩
 repeat first | refine ⟨id,?_⟩ | refine ⟨fun _ h=>cf h,?_⟩ | refine ⟨fun _ h=>ax h,?_⟩ | refine ⟨fun h=>⟨h,fun h2=>aQ h h2⟩,?_⟩ | refine ⟨fun h=>⟨h,fun h2=>aD h h2⟩,?_⟩
 refine ⟨fun hc=>?_,fun _=>?_⟩
 ·have:Lr coin=true:=hc
  rw [h] at this; cases this
 repeat first | refine ⟨id,?_⟩ | refine ⟨fun _ h=>cf h,?_⟩ | refine ⟨fun _ h=>ax h,?_⟩ | refine ⟨fun h=>⟨h,fun h2=>aQ h h2⟩,?_⟩ | refine ⟨fun h=>⟨h,fun h2=>aD h h2⟩,?_⟩
 refine ⟨fun hc=>?_,fun _=>?_⟩
 ·have:Fp ab aC=true:=hc
  rw [h2] at this; cases this
 refine ⟨eh,I 0,⟨rf,tv⟩,Int.natCast_nonneg _,Int.le_refl _,(by show (4:Int) * 8≤_; omega),(by show (4:Int)≤_; omega),false,(fun h=>by cases h),.aH,⟨rf,tv⟩,Int.natCast_nonneg _,Int.le_refl _,(by show (4:Int) * 24≤_; omega),(by show (4:Int)≤_; omega),false,(fun h=>by cases h),?_⟩
 refine ⟨by kernel_rfl,?_⟩
 refine ⟨Nat,Ta coin ab aC,fun z=>z≤4,fun z=>4 - z,0,fun _=>rfl,?_⟩
 refine ⟨⟨⟨rfl,rf,rf,tv⟩,⟨⟨rfl,rfl⟩,⟨rfl,rfl⟩,⟨rfl,rfl⟩,⟨rf,rf,rf,rf,rf,rf,rfl,rfl,⟨rfl,rfl,rfl,rfl,1,rfl⟩,rfl,rf,tv⟩,⟨rfl,rfl,1,rfl⟩,tv⟩,rfl,rfl⟩,Nat.zero_le _,?_⟩
 rintro j hj
 refine ⟨fun aK=>?_,fun dk=>?_⟩
 ·have aK:j<4:=by have:=of_decide_eq_true aK; omega
  refine .inr ⟨[],[.dv (.fn 33 [])],[],1,_,_,IC,by kernel_rfl,by kernel_rfl,⟨rf,tv⟩,tv,?_⟩
  refine .inr (.inl ⟨[dY true []],rfl,⟨rfl,tv⟩,(by simp; rfl),?_⟩)
  refine .inr (.inr ⟨rfl,[dY true []],dX.refl _,(by rw [VP,List.length_replicate]; simp; omega),(by rw [List.length_replicate]; simp; omega),?_⟩)
  exact ⟨by kernel_rfl,fun _=>⟨by omega,by omega⟩,j+1,⟨⟨rfl,rf,az (by simp),tv⟩,⟨⟨rfl,rfl⟩,⟨rfl,rfl⟩,⟨rfl,rfl⟩,⟨rf,rf,rf,rf,rf,rf,rfl,rfl,rfl,rfl,rf,tv⟩,⟨rfl,by rw [List.replicate_succ']⟩,tv⟩,rfl,rfl⟩,by omega,by simp only; omega⟩
 ·have dk:j=4:=by have:=of_decide_eq_false dk; omega
  subst dk
  exact ⟨_,_,⟨rfl,rfl⟩,by kernel_rfl,⟨rfl,rf,tv⟩,⟨rfl,rfl⟩,⟨rfl,rfl⟩,⟨rfl,rfl⟩,⟨rf,rf,rf,rf,rf,rf,rfl,rfl,rfl,rfl,⟨rfl,rfl,rfl,rfl,1,rfl⟩,tv⟩,⟨rfl,rfl⟩,⟨rfl,rfl,1,rfl⟩,tv⟩
end Go.Proofs.YtpbdohkbiklflaaGreatDoor
namespace Go.Proofs.YtpbdohkbiklflaaGreatDoor
open Go.TM
variable [de]
theorem C0:∀(m:HM) (k:Ky) (x:Int),(bO m k x).length=m.length+(if (bm m k).isSome=true then 0 else 1)
 | [],k,x=>by simp [bO,bm]
 | p::r,k,x=>by
  simp only [bO,bm]
  split
  ·simp
  ·rw [List.length_cons,C0 r k x,List.length_cons]; omega
theorem C1:∀(m:HM) (k:Ky),(iE m k).length+(if (bm m k).isSome=true then 1 else 0)=m.length
 | [],k=>by simp [iE,bm]
 | p::r,k=>by
  simp only [iE,bm]
  split
  ·simp
  ·have:=C1 r k
   rw [List.length_cons,List.length_cons]; omega
theorem Nz {s:Vs} {L:Nat} (h:G4 s L) (a:Int) (i:Nat) (now:Int):((cG s (a,(i:Int)) i now).H.length:Int)=(s.H.length:Int)+CM s.H ((a,(i:Int)),now):=by
 have hg:=AO h (a,(i:Int))
 rw [AM]
 unfold CM c7
 simp only
 by_cases h0:hv s.H (a,(i:Int))=now
 ·rw [if_pos h0]
  by_cases h1:now=0
  ·simp [h0,h1]
  ·simp [h0,h1]
 ·rw [if_neg h0]
  by_cases h1:now=0
  ·subst h1
   rw [if_pos rfl]
   rw [if_neg h0] at hg
   have:=C1 s.H (a,(i:Int))
   rw [hg] at this
   simp at this
   simp [h0]; omega
  ·rw [if_neg h1]
   have:=C0 s.H (a,(i:Int)) now
   rw [hg] at this
   by_cases h2:hv s.H (a,(i:Int))=0
   ·rw [if_pos h2] at this
    simp at this
    simp [h2,h1,this]
   ·rw [if_neg h2] at this
    simp at this
    simp [h2,h1,this]
theorem y3 {H G:HM}:∀(es:HM),(∀e∈es,hv H e.1=hv G e.1)→iH H es=iH G es
 | [],_=>rfl
 | e::r,h=>by
  show CM H e+iH H r=CM G e+iH G r
  rw [y3 r fun x hx=>h x (List.mem_cons_of_mem _ hx)]
  unfold CM
  rw [h e List.mem_cons_self]
theorem C2:∀{es:HM} {s:Vs} {L:Nat},G4 s L→Bj es→L+es.length≤500→(0≤s.work∧s.work+es.length≤2305843009213693952)→((aJ s es).H.length:Int)=(s.H.length:Int)+iH s.H es
 | [],s,L,_,_,_,_=>by simp [aJ,iH]
 | e::r,s,L,h,he,hL,hw=>by
  obtain ⟨p1,⟨i,hi,p2⟩,p3,p4⟩:=he.pos e List.mem_cons_self
  have hc:=he.cons
  obtain ⟨⟨a,it⟩,now⟩:=e
  simp only at p1 p2 p3 p4
  subst p2
  simp only [List.length_cons] at hL hw
  have h1:=(AL h (by omega) (by omega) hi p1 ⟨p3,p4⟩).2
  have h2:=oh s (a,(i:Int)) i now
  rw [gT]
  simp only [Int.toNat_natCast]
  rw [C2 h1 hc.1 (by omega) (by omega),Nz h]
  rw [y3 (H:=(cG s (a,(i:Int)) i now).H) (G:=s.H) r fun x hx=>by
   rw [uy h.nd,if_neg]
   intro h9
   exact hc.2 (List.mem_map.2 ⟨x,hx,h9.symm⟩)]
  show _=_+(CM s.H ((a,(i:Int)),now)+iH s.H r)
  omega
structure Rl (s:Vs) (S:SS) (N:Nat) (v:RV):Prop where
 ok:Lq s S (8 * N) N
 coin:v.coin=s.coin
 ab:v.ab=s.ab
 aC:v.aC=s.aC
 hold:∀a it,1≤a→hv s.H (a,it)=aL a it v.steps
 last:s.last=bZ v.steps
 work:v.work=s.work
 Un:S.map IA=nz s.coin (s.last - s.ab) v.steps
 len:v.steps.length≤N
 Tb:∀x∈v.steps,x.tick≤s.last∧x.mv.length≤4∧∀m∈x.mv,iN m=false
 QR:s.last≤1099511627776
theorem Fq (l:List St) (x:St):bZ (l++[x])=x.tick:=by
 unfold bZ
 rw [List.length_append,List.length_cons,List.length_nil,List.getD_eq_getElem?_getD]
 simp
theorem Fs {coin:Int} {st:St} (h:bC coin st=true):bQ coin st=((bQ coin st).1,(bQ coin st).2.1,(bQ coin st).2.2.1,true):=by
 have h:(bQ coin st).2.2.2=true:=h
 generalize bQ coin st=q at *
 obtain ⟨a,b,c,d⟩:=q
 simp only at h; subst h; rfl
theorem wN (S:SS) (lim:Int):(S.filter fun p=>decide (lim<p.2.tick)).map IA=(S.map IA).filter fun q=>decide (lim<q.2.1):=by
 rw [List.filter_map]; rfl
theorem Rl.sorted {s:Vs} {S:SS} {N:Nat} {v:RV} (h:Rl s S N v):∀x∈v.steps,x.tick≤s.last:=fun x hx=>(h.Tb x hx).1
theorem Rl.bq {s:Vs} {S:SS} {N:Nat} {v:RV} (h:Rl s S N v):bq v.coin v.ab v.steps (bZ v.steps)=S.length:=by
 rw [h.coin,h.ab,←h.last,wM h.sorted,←h.Un,List.length_map]
theorem Rl.key {s:Vs} {S:SS} {N:Nat} {v:RV} (h:Rl s S N v) {lim:Int} (hl:s.last - s.ab≤lim):(S.drop (du S lim)).map IA=nz s.coin lim v.steps:=by
 rw [yX h.ok.Nv.ord,wN,h.Un,CU _ hl]
theorem Rl.size {s:Vs} {S:SS} {N:Nat} {v:RV} (h:Rl s S N v):(qT v.coin v.ab v.steps (bZ v.steps):Int)=(s.H.length:Int)+(s.bL.length:Int):=by
 unfold qT
 rw [h.bq,G7 h.ok.bJ.nd (fun p hp=>by have:=h.ok.bJ.pos p hp; exact ⟨this.1,this.2.1,by omega⟩) h.hold,h.ok.Nv.CS.bL,List.length_map]
 omega
theorem G8 (S:SS) (lim:Int):du S lim≤S.length:=by unfold du; exact (List.takeWhile_sublist _).length_le
structure VQ (s:Vs) (S:SS) (v:RV) (st:St) (A:HM):Prop where
 Un:(bq v.coin v.ab (v.steps++[st]) st.tick:Int)=(S.length:Int) - (du S (st.tick - s.ab):Int)+gI (bC v.coin st)
 YS:(qT v.coin v.ab (v.steps++[st]) st.tick:Int)=Lj s S st+iH s.H A
 Rv:pD (v.steps++[st]) v.steps (bk (v.steps++[st]))=A.countP (Iu s.H)
 key:(oS s S st).map IA=nz s.coin (st.tick - s.ab) (v.steps++[st])
theorem Tc {s:Vs} {S:SS} {N:Nat} {v:RV} (h:Rl s S N v) (hN:N≤20) {st:St} (hm:st.mv.length≤4) (ht:s.last≤st.tick) {A:HM} (hA:ko s.H [] st.mv=.ok A)
  (hh:∀a it,1≤a→Proofs.YtpbdohkbiklflaaGreatDoor.hold A s.H (a,it)=aL a it (v.steps++[st])):VQ s S v st A:=by
 obtain ⟨a1,a2,a3,a4⟩:=CT h.ok (by omega) hm hA
 have xg:=h.ok.Rz
 have Rx:=h.ok.wk
 have zQ:=h.key (lim:=st.tick - s.ab) (by omega)
 have hle:=G8 S (st.tick - s.ab)
 have Ig:∀x∈v.steps++[st],x.tick≤st.tick:=fun x hx=>by
  rcases List.mem_append.1 hx with hx | hx
  ·have:=h.sorted x hx; omega
  ·simp at hx; subst hx; omega
 have Td:(Proofs.YtpbdohkbiklflaaGreatDoor.bq v.coin v.ab (v.steps++[st]) st.tick:Int)=(S.length:Int) - (du S (st.tick - s.ab):Int)+gI (bC v.coin st):=by
  rw [wM Ig,h.coin,h.ab,yW,List.length_append,←zQ,List.length_map,List.length_drop]
  cases hq:bC s.coin st with
  | false=>simp [gI]; omega
  | true=>rw [if_pos ⟨rfl,by omega⟩]; simp [gI]; omega
 have iI:=C2 h.ok.bJ a1 (by omega) (by omega)
 have sn:=oj h.ok.bJ a1 (by omega) (by omega)
 have OR:=G7 (l:=v.steps++[st]) sn.nd (fun p hp=>by have:=sn.pos p hp; exact ⟨this.1,this.2.1,by omega⟩) fun a it ha=>by rw [lT h.ok.bJ.nd a1,hh a it ha]
 refine ⟨Td,?_,?_,?_⟩
 ·unfold qT Lj
  rw [OR]
  have h1:(s.bL.length:Int)=S.length:=by rw [h.ok.Nv.CS.bL,List.length_map]
  have h2:(bif (bQ s.coin st).2.2.2 then (1:Int) else 0)=gI (bC v.coin st):=by rw [h.coin]; rfl
  rw [h2]
  have:=Td
  omega
 ·exact Nx rfl a1.nd (fun p hp=>by have:=a1.pos p hp; exact ⟨this.1,this.2.1⟩) h.hold hh
 ·unfold oS
  simp only
  rw [List.map_append,zQ,yW]
  congr 1
  cases hq:(bQ s.coin st).2.2.2 with
  | false=>rw [if_neg]; · rfl
           rintro ⟨h9,_⟩; have h9:(bQ s.coin st).2.2.2=true:=h9; rw [hq] at h9; cases h9
  | true =>
   rw [if_pos ⟨hq,by omega⟩]
   have hb:=Fe (sr hA) (Fs (coin:=s.coin) (st:=st) hq)
   simp only [cond_true,List.map_cons,List.map_nil]
   unfold IA Um
   simp only
   rw [Int.toNat_of_nonneg hb.1]
theorem C3 {s:Vs} {S:SS} {N:Nat} {v:RV} (h:Rl s S N v) (hN:N≤20) {st:St} (hm:st.mv.length≤4) :
  match eS s S st with
  | .err e=>kn v st=e∧e ≠ 0
  | .ok A=>kn v st=0∧Rl (cM s S st (aJ s A)) (oS s S st) (N+1) (pE v st):=by
 have gB:=AR (H:=s.H) (steps:=v.steps) st.mv [] [] fun a it ha=>h.hold a it ha
 unfold kn
 by_cases ht:st.tick<bZ v.steps ∨ 1099511627776<st.tick
 ·rw [if_pos ht]
  have:eS s S st=.err 1:=by
   unfold eS
   rw [if_pos (show (bif decide (st.tick<s.last) then true else decide (1099511627776<st.tick))=true by rw [h.last]; rcases ht with h1 | h1 <;> simp [h1])]
  rw [this]
  exact ⟨rfl,by decide⟩
 ·rw [if_neg ht]
  rw [not_or] at ht
  have rj:eS s S st=match ko s.H [] st.mv with
   | .err e=>.err e
   | .ok A=>if s.aC<Lj s S st+iH s.H A then .err 22 else .ok A:=by
   unfold eS
   rw [if_neg (show ¬ (bif decide (st.tick<s.last) then true else decide (1099511627776<st.tick))=true by rw [h.last]; simp [ht.1,ht.2])]
   rfl
  cases hq:ko s.H [] st.mv with
  | err e =>
   rw [hq] at gB rj
   simp only at rj gB
   rw [rj,if_pos (by rw [gB.1]; exact gB.2)]
   exact gB
  | ok A =>
   rw [hq] at gB rj
   simp only [List.nil_append] at rj gB
   rw [if_neg (by rw [gB.1]; simp)]
   have hh:∀a it,1≤a→Proofs.YtpbdohkbiklflaaGreatDoor.hold A s.H (a,it)=aL a it (v.steps++[st]):=fun a it ha=>by rw [gB.2 a it ha,pF]
   have aK:s.last≤st.tick:=by rw [h.last]; omega
   have hf:=Tc h hN hm aK hq hh
   rw [hf.YS,h.aC]
   by_cases hs:s.aC<Lj s S st+iH s.H A
   ·rw [if_pos hs] at rj ⊢
    rw [rj]
    exact ⟨rfl,by decide⟩
   ·rw [if_neg hs] at rj ⊢
    rw [rj]
    refine ⟨rfl,?_⟩
    obtain ⟨f1,f2,f3,f4⟩:=AQ h.ok (by omega) (by omega) st hm rj
    obtain ⟨g1,g2,g3,g4,g5,g6,g7⟩:=AP s S st (aJ s A)
    have hr:=jM A s
    obtain ⟨a1,a2,a3,a4⟩:=CT h.ok (by omega) hm hq
    refine ⟨by rw [show 8 * (N+1)=8 * N+8 by omega]; exact f1,?_,?_,?_,?_,?_,?_,?_,?_,?_,by rw [g5]; exact f3.2⟩
    ·rw [g6,hr.1]; exact h.coin
    ·rw [g4,hr.2.1]; exact h.ab
    ·rw [g7,hr.2.2.1]; exact h.aC
    ·intro a it ha
     rw [g1,lT h.ok.bJ.nd a1,hh a it ha]; rfl
    ·rw [g5]; exact (Fq _ _).symm
    ·rw [wL,om h.ok.bJ.nd a1]
     show v.work+_+_+_ - _=_
     rw [hf.Un,hf.Rv,h.bq,h.work,h.coin]
     have hle:=G8 S (st.tick - s.ab)
     have:(bif (bQ s.coin st).2.2.2 then (1:Int) else 0)=gI (bC s.coin st):=rfl
     rw [this]
     omega
    ·rw [g5,g4,g6,hr.2.1,hr.1,hf.key]; rfl
    ·show (v.steps++[st]).length≤_
     rw [List.length_append]; have:=h.len; simp; omega
    ·intro x hx
     rw [g5]
     have hx:x∈v.steps++[st]:=hx
     rcases List.mem_append.1 hx with hx | hx
     ·have:=h.Tb x hx; exact ⟨by omega,this.2⟩
     ·simp at hx; subst hx; exact ⟨Int.le_refl _,hm,sr hq⟩
theorem W7 {coin ab aC:Int} (hw:1≤ab∧ab≤1099511627776) (h0:Lq (I0 coin ab aC) [] 0 0):Rl (I0 coin ab aC) [] 0 ⟨coin,ab,aC,[],0⟩ :=
 ⟨h0,rfl,rfl,rfl,fun a it _=>rfl,rfl,rfl,rfl,Nat.le_refl _,fun x hx=>(by cases hx),by show (0:Int)≤_; omega⟩
theorem Rl.QS {s:Vs} {S:SS} {N:Nat} {v:RV} (h:Rl s S N v) (hN:N≤100):nw v.steps:=by
 refine ⟨by have:=h.len; omega,fun x hx=>⟨(h.Tb x hx).2.1,fun m hm=>?_⟩⟩
 have:=oR ((h.Tb x hx).2.2 m hm); omega
end Go.Proofs.YtpbdohkbiklflaaGreatDoor
namespace Go.Proofs.YtpbdohkbiklflaaGreatDoor
open Go.TM
variable [de]
set_option maxRecDepth 100000
def QT (s:Vs) (it:Nat) (tick:Int):ah:=vK false s++[(6,.cells [.ptr 0 0]),(7,.cells [.dv (I tick)]),(8,.cells [.own 4 0 0 [.el it 0]])]
theorem NA (s:Vs) (it:Nat) (tick:Int) (l:List Sl) (hs:(s.sl.map mD)[it]?=some (.ay 5 (l.map bT))) (i:Nat) (x:Sl) (hi:l[i]?=some x) (hb:-9223372036854775808≤tick - s.ab∧tick - s.ab≤9223372036854775807) :
  bn Tryz.prog 41 [.dv (I i),.ptr 8 0,.ptr 7 0,.ptr 6 0] 9 (QT s it tick) 0 [.dv (B (decide (tick - s.ab<x.tick)))] (QT s it tick):=by
 have aK:i<l.length:=(List.getElem?_eq_some_iff.1 hi).1
 refine bl aG mixed (aq _) (ar _) Tryz.func41 rfl rfl (by kernel_rfl) ?_
 refine ⟨.ay 5 (l.map bT),fun _=>hs,?_⟩
 refine ⟨fun _=>⟨by omega,by rw [List.length_map]; omega⟩,?_⟩
 refine ⟨.ay 5 (l.map bT),fun _=>hs,?_⟩
 refine ⟨bT x,fun _=>by rw [List.getElem?_map,Int.toNat_natCast,hi]; rfl,?_⟩
 refine ⟨fun _=>⟨by omega,by omega⟩,?_⟩
 exact ⟨by kernel_rfl,_,_,⟨rfl,rfl⟩,by kernel_rfl,⟨rf,tv⟩,⟨rf,rf,rf,rf,rf,rf,rfl,rfl,rfl,rfl,rfl,tv⟩,⟨rfl,rfl⟩,⟨rfl,rfl⟩,⟨rfl,rfl⟩,⟨rfl,rfl⟩,⟨rfl,rfl⟩,⟨rfl,tv⟩,⟨rf,tv⟩,⟨rfl,tv⟩,tv⟩
theorem AS (s:Vs) (it:Nat) (tick:Int) (l:List Sl) (hs:(s.sl.map mD)[it]?=some (.ay 5 (l.map bT))) (k:Nat) (hk:k≤l.length) (hl:l.length≤1000) (hb:-9223372036854775808≤tick - s.ab∧tick - s.ab≤9223372036854775807)
  (h1:∀i y,i<k→l[i]?=some y→¬ tick - s.ab<y.tick) (h2:∀i y,k≤i→l[i]?=some y→tick - s.ab<y.tick) :
  bn Tryz.prog 40 [.dv (I l.length),.fn 41 [.ptr 8 0,.ptr 7 0,.ptr 6 0]] 9 (QT s it tick) 0 [.dv (I k)] (QT s it tick):=by
 refine bl aG mixed (aq _) (ar _) Tryz.func40 rfl rfl (by kernel_rfl) ?_
 refine ⟨T8,KQ 41 [.ptr 8 0,.ptr 7 0,.ptr 6 0] 9 (QT s it tick),fun q=>q.i≤k∧k≤q.j∧q.j≤l.length,fun q=>q.j - q.i,⟨0,l.length⟩,fun _=>rfl,⟨⟨⟨rfl,rfl,rfl,rfl,tv⟩,rf,rf,tv⟩,⟨⟨rf,rf,rf,rf,rf,rf,rfl,rfl,rfl,rfl,rfl,tv⟩,⟨rfl,rfl⟩,⟨rfl,rfl⟩,⟨rfl,rfl⟩,⟨rfl,rfl⟩,⟨rfl,rfl⟩,⟨rfl,tv⟩,⟨rf,tv⟩,⟨rfl,tv⟩,tv⟩,rfl,rfl⟩,⟨Nat.zero_le _,hk,Nat.le_refl _⟩,?_⟩
 rintro q ⟨p1,p2,p3⟩
 refine ⟨fun aK=>?_,fun dk=>?_⟩
 ·have aK:q.i<q.j:=by have:=of_decide_eq_true aK; simp only [Int.ofNat_lt] at this; exact this
  refine ⟨fun _=>⟨by omega,by omega⟩,?_⟩
  refine ⟨fun _=>by omega,?_⟩
  have hlen:(q.i+q.j) / 2<l.length:=by omega
  have bm:=List.getElem?_eq_getElem hlen
  refine .inr ⟨[0,1,2,3,4,5,6,7,8],[.dv (I ((q.i+q.j) / 2:Nat)),.ptr 8 0,.ptr 7 0,.ptr 6 0],QT s it tick,0,_,_,NA s it tick l hs ((q.i+q.j) / 2) _ bm hb,by kernel_rfl,by kernel_rfl,⟨?_,rfl,rfl,rfl,tv⟩,⟨⟨rf,rf,rf,rf,rf,rf,rfl,rfl,rfl,rfl,rfl,tv⟩,⟨rfl,rfl⟩,⟨rfl,rfl⟩,⟨rfl,rfl⟩,⟨rfl,rfl⟩,⟨rfl,rfl⟩,⟨rfl,tv⟩,⟨rf,tv⟩,⟨rfl,tv⟩,tv⟩,?_⟩
  ·rw [lJ (by omega)]; exact rf
  ·refine ⟨fun hb=>?_,fun hb=>?_⟩
   ·have cO:¬ tick - s.ab<l[(q.i+q.j) / 2].tick:=by simpa using hb
    have Qp:(q.i+q.j) / 2<k:=by
     rcases Nat.lt_or_ge ((q.i+q.j) / 2) k with h | h
     ·exact h
     ·exact absurd (h2 _ _ h bm) cO
    rw [lJ (by omega)]
    refine ⟨fun _=>⟨by omega,by omega⟩,?_⟩
    exact ⟨⟨(q.i+q.j) / 2+1,q.j⟩,⟨⟨⟨rfl,rfl,rfl,rfl,tv⟩,az (by simp),rf,tv⟩,⟨⟨rf,rf,rf,rf,rf,rf,rfl,rfl,rfl,rfl,rfl,tv⟩,⟨rfl,rfl⟩,⟨rfl,rfl⟩,⟨rfl,rfl⟩,⟨rfl,rfl⟩,⟨rfl,rfl⟩,⟨rfl,tv⟩,⟨rf,tv⟩,⟨rfl,tv⟩,tv⟩,rfl,rfl⟩,⟨Qp,p2,p3⟩,by simp only; omega⟩
   ·have cO:tick - s.ab<l[(q.i+q.j) / 2].tick:=by simpa using hb
    have Qq:k≤(q.i+q.j) / 2:=by
     rcases Nat.lt_or_ge ((q.i+q.j) / 2) k with h | h
     ·exact absurd cO (h1 _ _ h bm)
     ·exact h
    rw [lJ (by omega)]
    exact ⟨⟨q.i,(q.i+q.j) / 2⟩,⟨⟨⟨rfl,rfl,rfl,rfl,tv⟩,rf,rf,tv⟩,⟨⟨rf,rf,rf,rf,rf,rf,rfl,rfl,rfl,rfl,rfl,tv⟩,⟨rfl,rfl⟩,⟨rfl,rfl⟩,⟨rfl,rfl⟩,⟨rfl,rfl⟩,⟨rfl,rfl⟩,⟨rfl,tv⟩,⟨rf,tv⟩,⟨rfl,tv⟩,tv⟩,rfl,rfl⟩,⟨p1,Qq,by simp only; omega⟩,by simp only; omega⟩
 ·have dk:¬ q.i<q.j:=by have:=of_decide_eq_false dk; omega
  have yI:q.i=k:=by omega
  exact ⟨_,_,⟨rfl,rfl⟩,by kernel_rfl,⟨az (by rw [yI]),tv⟩,⟨rf,rf,rf,rf,rf,rf,rfl,rfl,rfl,rfl,rfl,tv⟩,⟨rfl,rfl⟩,⟨rfl,rfl⟩,⟨rfl,rfl⟩,⟨rfl,rfl⟩,⟨rfl,rfl⟩,⟨rfl,tv⟩,⟨rf,tv⟩,⟨rfl,tv⟩,tv⟩
theorem NB (s:Vs) (it tick:Int):(bif bif decide (it<0) then true else decide (4≤it) then true else decide (tick<s.last))=decide (it<0 ∨ 4≤it ∨ tick<s.last):=by by_cases h1:it<0 <;> by_cases h2:4≤it <;> simp [h1,h2]
def Sl.zero:Sl:=⟨0,0,0,0,0⟩
def sy (s:Vs) (it:Nat) (l:List Sl) (k:Nat):List Int × Bool :=
 if k=l.length then ([0,0,0,0,0],false) else
 ([(it:Int),s.coin,(l.getD (l.length - 1) Sl.zero).gx - ((l.getD k Sl.zero).gx - (l.getD k Sl.zero).n),(l.getD (l.length - 1) Sl.zero).gy - ((l.getD k Sl.zero).gy - (l.getD k Sl.zero).c),(l.getD (l.length - 1) Sl.zero).c.tdiv (l.getD (l.length - 1) Sl.zero).n],true)
def Te (l:List Int):AV:=.agg (l.map fun n=>.dv (I n))
set_option maxHeartbeats 4000000 in
theorem tu (s:Vs) (it:Nat) (tick:Int) (h4:it<4) (hl:s.sl.length=4) (ht:s.last≤tick) (l:List Sl) (hs:s.sl[it]?=some (false,l)) (k:Nat) (hk:k≤l.length) (QA:l.length≤1000) (hb:-9223372036854775808≤tick - s.ab∧tick - s.ab≤9223372036854775807)
  (h1:∀i y,i<k→l[i]?=some y→¬ tick - s.ab<y.tick) (h2:∀i y,k≤i→l[i]?=some y→tick - s.ab<y.tick)
  (hn:∀y,y∈l→1≤y.n∧y.n≤1152921504606846976∧1≤y.c∧y.c≤1152921504606846976∧0≤y.gx∧y.gx≤1152921504606846976∧0≤y.gy∧y.gy≤1152921504606846976) :
  bn Tryz.prog 17 [.ptr 0 0,.dv (I it),.dv (I tick)] 6 (vK false s) 0 [Te (sy s it l k).1,.dv (B (sy s it l k).2)] (vK false s):=by
 have iG:(s.sl.map mD)[it]?=some (.ay 5 (l.map bT)):=by rw [List.getElem?_map,hs]; rfl
 have xd:=AS s it tick l iG k hk QA hb h1 h2
 refine bl aG mixed (aq _) (ar _) Tryz.func17 rfl rfl (by kernel_rfl) ?_
 repeat first | refine ⟨id,?_⟩ | refine ⟨fun _ h=>cf h,?_⟩ | refine ⟨fun _ h=>ax h,?_⟩ | refine ⟨fun h=>⟨h,fun h2=>aQ h h2⟩,?_⟩ | refine ⟨fun h=>⟨h,fun h2=>aD h h2⟩,?_⟩
 refine ⟨by kernel_rfl,fun h'=>?_,fun _=>?_⟩
 ·have:=of_decide_eq_true ((NB s it tick).symm.trans h'); omega
 refine ⟨fun _=>⟨by omega,by rw [List.length_map]; omega⟩,.ay 5 (l.map bT),fun _=>iG,?_⟩
 refine ⟨.ay 5 (l.map bT),fun _=>iG,?_⟩
 refine .inr ⟨[0,1,2,3,4,5,6,7,9],[.dv (I l.length),.fn 41 [.ptr 8 0,.ptr 7 0,.ptr 6 0]],QT s it tick,0,_,_,xd,by kernel_rfl,by kernel_rfl,⟨az (by rw [List.length_map]),⟨rfl,rfl,rfl,rfl,tv⟩,tv⟩,⟨⟨rf,rf,rf,rf,rf,rf,rfl,rfl,rfl,rfl,rfl,tv⟩,⟨rfl,rfl⟩,⟨rfl,rfl⟩,⟨rfl,rfl⟩,⟨rfl,rfl⟩,⟨rfl,rfl⟩,⟨rfl,tv⟩,⟨rf,tv⟩,⟨rfl,tv⟩,tv⟩,?_⟩
 refine ⟨.ay 5 (l.map bT),fun _=>iG,?_⟩
 refine ⟨fun h'=>?_,fun h'=>?_⟩
 ·have Ed:k=l.length:=by
   rw [List.length_map] at h'
   have h9:(k:Int)=(l.length:Int):=by simpa using h'
   omega
  rw [show sy s it l k=([0,0,0,0,0],false) from if_pos Ed]
  exact ⟨_,_,⟨rfl,rfl⟩,by kernel_rfl,⟨⟨rf,rf,rf,rf,rf,tv⟩,rf,tv⟩,⟨rf,rf,rf,rf,rf,rf,rfl,rfl,rfl,rfl,rfl,tv⟩,⟨rfl,rfl⟩,⟨rfl,rfl⟩,⟨rfl,rfl⟩,⟨rfl,rfl⟩,⟨rfl,rfl⟩,tv⟩
 have Ed:k<l.length:=by
  rw [List.length_map] at h'
  have h9:¬ (k:Int)=(l.length:Int):=by simpa using h'
  omega
 have Tf:l[k]?=some (l.getD k Sl.zero):=by rw [List.getD_eq_getElem?_getD,List.getElem?_eq_getElem Ed]; rfl
 have Tg:l[l.length - 1]?=some (l.getD (l.length - 1) Sl.zero):=by rw [List.getD_eq_getElem?_getD,List.getElem?_eq_getElem (by omega)]; rfl
 have ZH:=hn _ (List.mem_of_getElem? Tf)
 have ZI:=hn _ (List.mem_of_getElem? Tg)
 have PG:sy s it l k=([(it:Int),s.coin,(l.getD (l.length - 1) Sl.zero).gx - ((l.getD k Sl.zero).gx - (l.getD k Sl.zero).n),(l.getD (l.length - 1) Sl.zero).gy - ((l.getD k Sl.zero).gy - (l.getD k Sl.zero).c),(l.getD (l.length - 1) Sl.zero).c.tdiv (l.getD (l.length - 1) Sl.zero).n],true):=if_neg (by omega)
 rw [PG]
 generalize l.getD k Sl.zero=xk at *
 generalize l.getD (l.length - 1) Sl.zero=y at *
 have W8:(l.map bT)[((k:Int)).toNat]?=some (bT xk):=by rw [Int.toNat_natCast,List.getElem?_map,Tf]; rfl
 have WX:(l.map bT).length=l.length:=List.length_map ..
 have W9:(l.map bT)[((((l.map bT).length:Nat):Int) - 1).toNat]?=some (bT y):=by
  rw [WX,show ((l.length:Int) - 1).toNat=l.length - 1 by omega,List.getElem?_map,Tg]; rfl
 repeat first | refine ⟨.ay 5 (l.map bT),fun _=>iG,?_⟩ | refine ⟨bT xk,fun _=>W8,?_⟩ | refine ⟨bT y,fun _=>W9,?_⟩ | refine ⟨by kernel_rfl,?_⟩ | refine ⟨fun _=>⟨by omega,by omega⟩,?_⟩
 have ZJ:0≤y.c.tdiv y.n:=Int.tdiv_nonneg (by omega) (by omega)
 have ZK:y.c.tdiv y.n≤y.c:=Int.tdiv_le_self y.n (by omega)
 refine ⟨fun _ h=>by omega,?_⟩
 repeat first | refine ⟨.ay 5 (l.map bT),fun _=>iG,?_⟩ | refine ⟨bT xk,fun _=>W8,?_⟩ | refine ⟨bT y,fun _=>W9,?_⟩ | refine ⟨by kernel_rfl,?_⟩ | refine ⟨fun _=>⟨by omega,by omega⟩,?_⟩
 exact ⟨_,_,⟨rfl,rfl⟩,by kernel_rfl,⟨⟨rf,rf,rf,rf,rf,tv⟩,rf,tv⟩,⟨rf,rf,rf,rf,rf,rf,rfl,rfl,rfl,rfl,rfl,tv⟩,⟨rfl,rfl⟩,⟨rfl,rfl⟩,⟨rfl,rfl⟩,⟨rfl,rfl⟩,⟨rfl,rfl⟩,tv⟩
end Go.Proofs.YtpbdohkbiklflaaGreatDoor
namespace Go.Proofs.YtpbdohkbiklflaaGreatDoor
open Go.TM
variable [de]
def nF (l:List St) (a it:Int):Int:=if a<1 then 0 else aL a it l
theorem Rl.holding {s:Vs} {S:SS} {N:Nat} {v:RV} (h:Rl s S N v) (a it:Int):hv s.H (a,it)=nF v.steps a it:=by
 unfold nF
 split
 ·rename_i ha
  have:=kS (m:=s.H) (k:=(a,it)) fun hm=>by
   obtain ⟨p,h1,h2⟩:=List.mem_map.1 hm
   have:=(h.ok.bJ.pos p h1).1
   rw [h2] at this; simp only at this; omega
  unfold hv; rw [this]; rfl
 ·exact h.hold a it (by omega)
theorem Rl.Th {s:Vs} {S:SS} {N:Nat} {v:RV} (h:Rl s S N v) {it:Int} (hi:it<0 ∨ 4≤it) (a:Int):aL a it v.steps=0 :=
 Fk fun x hx m hm=>by have:=oR ((h.Tb x hx).2.2 m hm); omega
theorem G9 (f:Int→Int) (b c:Int):∀{xs:List Int},xs.Nodup→(xs.map fun a=>if a=b then c else f a).sum=(xs.map f).sum+if b∈xs then c - f b else 0
 | [],_=>by simp
 | a::r,h=>by
  rw [List.nodup_cons] at h
  rw [List.map_cons,List.sum_cons,G9 f b c h.2,List.map_cons,List.sum_cons]
  by_cases hb:a=b
  ·subst hb
   rw [if_pos rfl,if_neg h.1,if_pos List.mem_cons_self]; omega
  ·rw [if_neg hb]
   by_cases h2:b∈r
   ·rw [if_pos h2,if_pos (List.mem_cons_of_mem _ h2)]; omega
   ·rw [if_neg h2,if_neg]
    ·omega
    ·intro h9; rcases List.mem_cons.1 h9 with h9 | h9
     ·exact hb h9.symm
     ·exact h2 h9
theorem wO (f:Int→Int) (h:∀a,f a=0):∀xs:List Int,(xs.map f).sum=0
 | []=>rfl
 | a::r=>by rw [List.map_cons,List.sum_cons,h,wO f h r]; rfl
theorem Lt (i:Int) {xs:List Int} (ha:xs.Nodup):∀{H:HM},Nk H→(∀p∈H,p.1.1∈xs)→(xs.map fun a=>hv H (a,i)).sum=iq H i
 | [],_,_=>wO _ (fun _=>rfl) xs
 | p::r,hn,hp=>by
  have Bo:=hn
  unfold Nk at hn
  rw [List.map_cons,List.nodup_cons] at hn
  have ih:=Lt i ha (H:=r) hn.2 fun q hq=>hp q (List.mem_cons_of_mem _ hq)
  have hz:hv r p.1=0:=by unfold hv; rw [kS hn.1]; rfl
  obtain ⟨⟨a,it⟩,x⟩:=p
  by_cases hi:it=i
  ·subst hi
   have e:(xs.map fun b=>hv ((((a,it),x):Ky × Int)::r) (b,it))=xs.map fun b=>if b=a then x else hv r (b,it):=by
    refine List.map_congr_left fun b _=>?_
    rw [uw]
    by_cases hb:b=a
    ·subst hb; rw [if_pos rfl,if_pos rfl]
    ·rw [if_neg hb,if_neg]; intro h9; injection h9 with h9 _; exact hb h9.symm
   rw [e,G9 (fun b=>hv r (b,it)) a x ha,if_pos (hp _ List.mem_cons_self),ih]
   simp only at hz
   rw [hz]
   simp [iq]; omega
  ·have e:(xs.map fun b=>hv ((((a,it),x):Ky × Int)::r) (b,i))=xs.map fun b=>hv r (b,i):=by
    refine List.map_congr_left fun b _=>?_
    rw [uw,if_neg]; intro h9; injection h9 with _ h9; exact hi h9
   rw [e,ih]
   simp [iq,hi]
theorem Rl.total {s:Vs} {S:SS} {N:Nat} {v:RV} (h:Rl s S N v) (it:Int):(if it<0 ∨ 4≤it then 0 else s.cS.getD it.toNat 0)=E1 v.steps it:=by
 unfold E1
 split
 ·rename_i hi
  exact (wO _ (fun a=>h.Th hi a) _).symm
 ·rename_i hi
  obtain ⟨i,rfl⟩:=Int.eq_ofNat_of_zero_le (show 0≤it by omega)
  rw [Int.toNat_natCast,h.ok.bJ.QO i (by omega),←Lt (i:Int) (sw (nA v.steps)) h.ok.bJ.nd]
  ·congr 1
   refine List.map_congr_left fun a ha=>?_
   exact h.hold a _ (by have:=((kU _ _).1 ha).1; omega)
  ·intro p hp
   apply Classical.byContradiction
   intro h9
   have h1:=h.ok.bJ.pos p hp
   have h2:=h.hold p.1.1 p.1.2 h1.1
   rw [nC (by omega) h9] at h2
   unfold hv at h2
   rw [fo h.ok.bJ.nd (k:=(p.1.1,p.1.2)) (x:=p.2) hp] at h2
   simp at h2; omega
theorem Ha (o:List Rk) (n:Int):∀k,il o n k≤k
 | 0=>Nat.le_refl _
 | k+1=>by unfold il; split
           ·have:=Ha o n k; omega
           ·exact Nat.le_refl _
theorem Hb (o:List Rk) (n:Int):∀k j,il o n k≤j→j<k→(o.getD j (0,0)).2<n
 | 0,j,_,h=>by omega
 | k+1,j,h1,h2=>by
  unfold il at h1
  split at h1
  ·rename_i h3
   by_cases hj:j=k
   ·subst hj; exact h3
   ·exact Hb o n k j h1 (by omega)
  ·omega
theorem Hc (o:List Rk) (n:Int):∀k,il o n k=0 ∨ n≤(o.getD (il o n k - 1) (0,0)).2
 | 0=>.inl rfl
 | k+1=>by
  unfold il
  split
  ·exact Hc o n k
  ·rename_i h; right; simp only [Nat.add_sub_cancel]; omega
theorem ID {o:List Rk} {x:Rk} (h:fQ o) (hx:∀y∈o,y.1<x.1):fQ (jI o x)∧∀y,y∈jI o x ↔ y=x ∨ y∈o:=by
 have hk:=Ha o x.2 o.length
 have e:=List.take_append_drop (il o x.2 o.length) o
 constructor
 ·unfold jI fQ
  unfold fQ at h
  have h':=h
  rw [←e,List.pairwise_append] at h'
  rw [List.pairwise_append]
  have dk:∀j (hj:j<o.length),j<il o x.2 o.length→x.2≤o[j].2:=by
   intro j hj ZL
   rcases Hc o x.2 o.length with h0 | h0
   ·omega
   ·have hl:il o x.2 o.length - 1<o.length:=by omega
    rw [List.getD_eq_getElem?_getD,List.getElem?_eq_getElem hl] at h0
    simp only [Option.getD_some] at h0
    by_cases Ua:j=il o x.2 o.length - 1
    ·subst Ua; exact h0
    ·have:=List.pairwise_iff_getElem.1 h j _ hj hl (by omega)
     unfold jT at this
     simp at this
     omega
  refine ⟨h'.1,?_,?_⟩
  ·rw [List.pairwise_cons]
   refine ⟨fun y hy=>?_,h'.2.1⟩
   obtain ⟨j,hj,rfl⟩:=List.mem_iff_getElem.1 hy
   rw [List.length_drop] at hj
   have:=Hb o x.2 o.length (il o x.2 o.length+j) (by omega) (by omega)
   rw [List.getD_eq_getElem?_getD,List.getElem?_eq_getElem (by omega)] at this
   simp only [Option.getD_some] at this
   rw [List.getElem_drop]
   unfold jT; simp [this]
  ·intro y hy z hz
   rcases List.mem_cons.1 hz with rfl | hz
   ·obtain ⟨j,hj,rfl⟩:=List.mem_iff_getElem.1 hy
    rw [List.length_take] at hj
    rw [List.getElem_take]
    have h1:=dk j (by omega) (by omega)
    have h2:=hx _ (List.getElem_mem (show j<o.length by omega))
    unfold jT
    by_cases h3:z.2<(o[j]'(by omega)).2
    ·simp [h3]
    ·simp [h2]; omega
   ·exact h'.2.2 y hy z hz
 ·intro y
  unfold jI
  have:y∈o ↔ y∈o.take (il o x.2 o.length) ∨ y∈o.drop (il o x.2 o.length):=by rw [←List.mem_append,e]
  rw [List.mem_append,List.mem_cons,this]
  constructor
  ·rintro (h1 | h1 | h1)
   ·exact .inr (.inl h1)
   ·exact .inl h1
   ·exact .inr (.inr h1)
  ·rintro (h1 | h1 | h1)
   ·exact .inr (.inl h1)
   ·exact .inl h1
   ·exact .inr (.inr h1)
theorem qY (l:List St) (it:Int):∀(xs done:List Int) (o:List Rk),Fj (done++xs)→fQ o→(∀x:Rk,x∈o ↔ x.1∈done∧x.2=aL x.1 it l∧x.2 ≠ 0∧x.1<1048576) →
  fQ (xs.foldl (kR l it) o)∧∀x:Rk,x∈xs.foldl (kR l it) o ↔ x.1∈done++xs∧x.2=aL x.1 it l∧x.2 ≠ 0∧x.1<1048576
 | [],done,o,_,ho,hm=>by rw [List.append_nil]; exact ⟨ho,hm⟩
 | a::r,done,o,hi,ho,hm=>by
  have aK:∀y∈done,y<a:=by
   unfold Fj at hi
   rw [List.pairwise_append] at hi
   exact fun y hy=>hi.2.2 y hy a List.mem_cons_self
  have tF:Fj ((done++[a])++r):=by rw [List.append_assoc]; exact hi
  rw [List.foldl_cons,show done++a::r=(done++[a])++r by rw [List.append_assoc]; rfl]
  by_cases hc:aL a it l=0 ∨ 1048576≤a
  ·have:kR l it o a=o:=by unfold kR; rw [if_pos hc]
   rw [this]
   refine qY l it r (done++[a]) o tF ho fun x=>?_
   rw [hm,List.mem_append,List.mem_singleton]
   constructor
   ·rintro ⟨h1,h2⟩; exact ⟨.inl h1,h2⟩
   ·rintro ⟨h1 | h1,h2,h3,h4⟩
    ·exact ⟨h1,h2,h3,h4⟩
    ·rw [h1] at h2 h4; rw [h2] at h3
     rcases hc with h5 | h5
     ·exact absurd h5 h3
     ·omega
  ·have:kR l it o a=jI o (a,aL a it l):=by unfold kR; rw [if_neg hc]
   rw [this]
   rw [not_or] at hc
   obtain ⟨h1,h2⟩:=ID (x:=(a,aL a it l)) ho fun y hy=>aK _ ((hm y).1 hy).1
   refine qY l it r (done++[a]) _ tF h1 fun x=>?_
   rw [h2,hm,List.mem_append,List.mem_singleton]
   constructor
   ·rintro (rfl | ⟨h3,h4⟩)
    ·exact ⟨.inr rfl,rfl,hc.1,by omega⟩
    ·exact ⟨.inl h3,h4⟩
   ·rintro ⟨h3 | h3,h4,h5,h6⟩
    ·exact .inr ⟨h3,h4,h5,h6⟩
    ·left; exact Prod.ext h3 (by rw [h4,h3])
theorem Rl.VR {s:Vs} {S:SS} {N:Nat} {v:RV} (h:Rl s S N v) {i:Nat} (hi:i<4):(s.rk.getD i (true,[])).2=CD v.steps i:=by
 obtain ⟨h1,h2⟩:=qY v.steps (i:Int) (bk v.steps) [] [] (by simpa using nA v.steps) List.Pairwise.nil (fun x=>by simp)
 obtain ⟨g1,g2,g3⟩:=h.ok.bJ.rk i hi
 refine CQ g2 h1 fun x=>?_
 rw [g3,show CD v.steps i=(bk v.steps).foldl (kR v.steps i) [] from rfl,h2,List.nil_append]
 obtain ⟨a,n⟩:=x
 simp only
 constructor
 ·rintro ⟨h3,h4⟩
  have h5:=h.ok.bJ.pos _ (dG h4)
  simp only at h5
  have h6:=h.hold a (i:Int) h5.1
  unfold hv at h6
  rw [h4] at h6
  simp only [Option.getD_some] at h6
  refine ⟨?_,h6,by omega,h3⟩
  apply Classical.byContradiction
  intro h9
  rw [nC (by omega) h9] at h6; omega
 ·rintro ⟨h3,h4,h5,h6⟩
  have ha:=((kU _ _).1 h3).1
  refine ⟨h6,?_⟩
  rw [←h.hold a (i:Int) (by omega)] at h4
  have:=(h.ok.bJ.zn (a,(i:Int))).2.2.1 (by rw [←h4]; exact h5)
  rw [this,←h4]
theorem Rl.top {s:Vs} {S:SS} {N:Nat} {v:RV} (h:Rl s S N v) (it n:Int):Cy s it n=Nj v.steps it n:=by
 unfold Cy Nj
 split
 ·rename_i hc
  by_cases hn:n≤0
  ·rw [show n.toNat=0 by omega]; rfl
  ·have jy:it<0 ∨ 4≤it:=by omega
   obtain ⟨h1,h2⟩:=qY v.steps it (bk v.steps) [] [] (by simpa using nA v.steps) List.Pairwise.nil (fun x=>by simp)
   have:CD v.steps it=[]:=by
    rw [List.eq_nil_iff_forall_not_mem]
    intro x hx
    have:=(h2 x).1 hx
    rw [h.Th jy] at this
    exact this.2.2.1 this.2.1
   rw [this,List.take_nil]
 ·rename_i hc
  rw [not_or,not_or] at hc
  obtain ⟨i,rfl⟩:=Int.eq_ofNat_of_zero_le (show 0≤it by omega)
  rw [Int.toNat_natCast,h.VR (by omega)]
end Go.Proofs.YtpbdohkbiklflaaGreatDoor
namespace Go.Proofs.YtpbdohkbiklflaaGreatDoor
open Go.TM
variable [de]
set_option maxRecDepth 100000
def qZ (s:Vs) (v:RV):ah:=vK false s++[(6,.tree 0 0 (.cN (OT v)))]
def q5:List Int:=[0,1,2,3,4,6,9,12,27,1048577,3145731,-1]
def Ti (s:Vs) (v:RV) (i:Nat):bh:=⟨7,[(0,.ptr 0 0),(1,.own 6 0 0 []),(5,.dv (eY q5)),(6,.dv (I ((i:Int) - 1)))],qZ s v⟩
def QU (s:Vs) (v:RV) (i:Nat) (k:Nat):bh:=⟨7,[(0,.ptr 0 0),(1,.own 6 0 0 []),(5,.dv (eY q5)),(6,.dv (I ((i:Int) - 1))),(7,.dv (I k))],qZ s v⟩
def QV (s:Vs) (v:RV) (i:Nat) (n:Nat):bh:=⟨7,[(0,.ptr 0 0),(1,.own 6 0 0 []),(5,.dv (eY q5)),(6,.dv (I ((i:Int) - 1))),(8,.dv (I ((n:Int) - 1)))],qZ s v⟩
set_option maxHeartbeats 4000000 in
theorem oq {s:Vs} {S:SS} {N:Nat} {v:RV} (h:Rl s S N v) (hN:N≤40):bn Tryz.prog 30 [.ptr 0 0,.own 6 0 0 []] 7 (qZ s v) 0 [.dv (B true)] (qZ s v):=by
 have CF:=h.QS (by omega)
 have QQ:=h.ok.S9
 have Tj:=h.ok.Rz
 have YT:=h.ok.bJ.tl
 have ZM:=h.ok.bJ.len
 have ZN:=h.ok.Nv.len
 have Xa:s.bL.length=S.length:=by rw [h.ok.Nv.CS.bL,List.length_map]
 have aT:=sm s (by omega)
 have nU:=E7 v CF (by have:=h.QR; rw [←h.last,h.ab]; omega)
 rw [h.size] at nU
 have K6:∀x,x∈s.rk→x.2.length≤1000∧(x.1=true→x.2=[]):=fun x hx=>by
  obtain ⟨i,hi⟩:=List.getElem?_of_mem hx
  have hl:i<4:=by have:=(List.getElem?_eq_some_iff.1 hi).1; rw [h.ok.bJ.rl] at this; exact this
  have h1:=h.ok.bJ.rk i hl
  rw [List.getD_eq_getElem?_getD,hi] at h1
  have h2:=Fa h1
  exact ⟨by simp only [Option.getD_some] at h2; omega,h1.1⟩
 have Hd:∀it n,(Cy s it n).length≤1000000:=fun it n=>by
  unfold Cy
  split
  ·simp
  ·rename_i hc
   have hl:it.toNat<s.rk.length:=by rw [h.ok.bJ.rl]; omega
   have h1:=(K6 _ (List.getElem_mem hl)).1
   rw [List.length_take,List.getD_eq_getElem?_getD,List.getElem?_eq_getElem hl]
   simp only [Option.getD_some]
   omega
 refine bl aG mixed (aq _) (ar _) Tryz.func30 rfl rfl (by kernel_rfl) ?_
 refine .inr ⟨[0,1,2,3,4,5],[.ptr 0 0],vK false s,0,_,_,aT,by kernel_rfl,by kernel_rfl,⟨rfl,tv⟩,⟨⟨rf,rf,rf,rf,rf,rf,rfl,rfl,rfl,rfl,rfl,tv⟩,⟨rfl,rfl⟩,⟨rfl,rfl⟩,⟨rfl,rfl⟩,⟨rfl,rfl⟩,⟨rfl,rfl⟩,tv⟩,?_⟩
 refine .inl (.inl ⟨_,fun _=>nU.ok,rfl,?_⟩)
 refine ⟨fun h9=>by simp at h9,fun _=>?_⟩
 refine .inl ⟨q5.map I,rfl,⟨rf,rf,rf,rf,rf,rf,rf,rf,rf,rf,rf,rf,tv⟩,(by simp [q5]; exact ⟨rfl,rfl,rfl,rfl,rfl,rfl,rfl,rfl,rfl,rfl,rfl,rfl⟩),?_⟩
 refine ⟨Nat,Ti s v,fun i=>i≤6,fun i=>6 - i,0,fun _=>rfl,⟨⟨rfl,rfl,rf,rf,tv⟩,⟨⟨rf,rf,rf,rf,rf,rf,rfl,rfl,rfl,rfl,rfl,tv⟩,⟨rfl,rfl⟩,⟨rfl,rfl⟩,⟨rfl,rfl⟩,⟨rfl,rfl⟩,⟨rfl,rfl⟩,⟨rfl,rfl⟩,tv⟩,rfl,rfl⟩,by omega,?_⟩
 rintro i hi
 refine ⟨fun h9=>?_,fun h9=>?_⟩
 ·have ZO:i<6:=by have:=of_decide_eq_true h9; omega
  have Tk:=EX s YT ((i:Int) - 1)
  rw [h.total] at Tk
  refine .inr ⟨[0,1,2,3,4,5],[.ptr 0 0,.dv (I ((i:Int) - 1))],vK false s,0,_,_,Tk,by kernel_rfl,by kernel_rfl,⟨rfl,rf,tv⟩,⟨⟨rf,rf,rf,rf,rf,rf,rfl,rfl,rfl,rfl,rfl,tv⟩,⟨rfl,rfl⟩,⟨rfl,rfl⟩,⟨rfl,rfl⟩,⟨rfl,rfl⟩,⟨rfl,rfl⟩,tv⟩,?_⟩
  refine .inl (.inl ⟨_,fun _=>(Ik v CF ((i:Int) - 1)).ok,rfl,?_⟩)
  refine ⟨fun h9=>by simp at h9,fun _=>?_⟩
  refine ⟨Nat,QU s v i,fun k=>k≤12,fun k=>12 - k,0,fun _=>rfl,⟨⟨rfl,rfl,rf,rf,rf,tv⟩,⟨⟨rf,rf,rf,rf,rf,rf,rfl,rfl,rfl,rfl,rfl,tv⟩,⟨rfl,rfl⟩,⟨rfl,rfl⟩,⟨rfl,rfl⟩,⟨rfl,rfl⟩,⟨rfl,rfl⟩,⟨rfl,rfl⟩,tv⟩,rfl,rfl⟩,by omega,?_⟩
  rintro k hk
  refine ⟨fun h9=>?_,fun h9=>?_⟩
  ·have VS:k<12:=by
    have h9:decide ((k:Int)<12)=true:=h9
    have:=of_decide_eq_true h9; omega
   have YU:k<q5.length:=VS
   have fS:(q5.map I)[((k:Int)).toNat]?=some (I q5[k]):=by rw [Int.toNat_natCast,List.getElem?_map,List.getElem?_eq_getElem YU]; rfl
   generalize q5[k]=a at fS
   have I6:ct Tryz.prog 59 [GV v,I a,I ((i:Int) - 1)] [I (nF v.steps a ((i:Int) - 1))]:=Lg v CF a ((i:Int) - 1)
   have hh:=Ie s a ((i:Int) - 1)
   rw [h.holding] at hh
   refine ⟨I a,fun _=>⟨by omega,fS⟩,?_⟩
   refine .inr ⟨[0,1,2,3,4,5],[.ptr 0 0,.dv (I a),.dv (I ((i:Int) - 1))],vK false s,0,_,_,hh,by kernel_rfl,by kernel_rfl,⟨rfl,rf,rf,tv⟩,⟨⟨rf,rf,rf,rf,rf,rf,rfl,rfl,rfl,rfl,rfl,tv⟩,⟨rfl,rfl⟩,⟨rfl,rfl⟩,⟨rfl,rfl⟩,⟨rfl,rfl⟩,⟨rfl,rfl⟩,tv⟩,?_⟩
   refine ⟨I a,fun _=>⟨by omega,fS⟩,?_⟩
   refine .inl (.inl ⟨_,fun _=>I6.ok,rfl,?_⟩)
   refine ⟨by kernel_rfl,fun h9=>?_,fun _=>?_⟩
   ·have h9:(nF v.steps a ((i:Int) - 1) != nF v.steps a ((i:Int) - 1))=true:=h9
    simp at h9
   exact ⟨fun _=>⟨by omega,by omega⟩,k+1,⟨⟨rfl,rfl,rf,rf,az (by omega),tv⟩,⟨⟨rf,rf,rf,rf,rf,rf,rfl,rfl,rfl,rfl,rfl,tv⟩,⟨rfl,rfl⟩,⟨rfl,rfl⟩,⟨rfl,rfl⟩,⟨rfl,rfl⟩,⟨rfl,rfl⟩,⟨rfl,rfl⟩,tv⟩,rfl,rfl⟩,by omega,by show 12 - (k+1)<12 - k; omega⟩
  ·refine ⟨Nat,QV s v i,fun n=>n≤5,fun n=>5 - n,0,fun _=>rfl,⟨⟨rfl,rfl,rf,rf,rf,tv⟩,⟨⟨rf,rf,rf,rf,rf,rf,rfl,rfl,rfl,rfl,rfl,tv⟩,⟨rfl,rfl⟩,⟨rfl,rfl⟩,⟨rfl,rfl⟩,⟨rfl,rfl⟩,⟨rfl,rfl⟩,⟨rfl,rfl⟩,tv⟩,rfl,rfl⟩,by omega,?_⟩
   rintro n hn
   refine ⟨fun h9=>?_,fun h9=>?_⟩
   ·have ZP:n<5:=by have:=of_decide_eq_true h9; omega
    refine .inr ⟨[0,1,2,3,4,5],[.ptr 0 0,.dv (I ((i:Int) - 1)),.dv (I ((n:Int) - 1))],vK false s,0,_,_,wv s h.ok.bJ.rl K6 ((i:Int) - 1) ((n:Int) - 1) (by omega),by kernel_rfl,by kernel_rfl,⟨rfl,rf,rf,tv⟩,⟨⟨rf,rf,rf,rf,rf,rf,rfl,rfl,rfl,rfl,rfl,tv⟩,⟨rfl,rfl⟩,⟨rfl,rfl⟩,⟨rfl,rfl⟩,⟨rfl,rfl⟩,⟨rfl,rfl⟩,tv⟩,?_⟩
    refine .inl ⟨_,fun _=>(wF _ (Hd ((i:Int) - 1) ((n:Int) - 1))).ok,?_⟩
    refine .inr ⟨[6],[.own 0 0 0 [],.dv (I ((i:Int) - 1)),.dv (I ((n:Int) - 1))],GY v,0,_,_,wD v CF ((i:Int) - 1) ((n:Int) - 1) (by omega),by kernel_rfl,by kernel_rfl,⟨rfl,rf,rf,tv⟩,⟨⟨rfl,rfl⟩,tv⟩,?_⟩
    rw [←h.top ((i:Int) - 1) ((n:Int) - 1)]
    refine .inl ⟨_,fun _=>(wE _ (Hd ((i:Int) - 1) ((n:Int) - 1))).ok,?_⟩
    refine ⟨fun h9=>by simp at h9,fun _=>?_⟩
    exact ⟨fun _=>⟨by omega,by omega⟩,n+1,⟨⟨rfl,rfl,rf,rf,az (by omega),tv⟩,⟨⟨rf,rf,rf,rf,rf,rf,rfl,rfl,rfl,rfl,rfl,tv⟩,⟨rfl,rfl⟩,⟨rfl,rfl⟩,⟨rfl,rfl⟩,⟨rfl,rfl⟩,⟨rfl,rfl⟩,⟨rfl,rfl⟩,tv⟩,rfl,rfl⟩,by omega,by show 5 - (n+1)<5 - n; omega⟩
   ·exact ⟨fun _=>⟨by omega,by omega⟩,i+1,⟨⟨rfl,rfl,rf,az (by omega),tv⟩,⟨⟨rf,rf,rf,rf,rf,rf,rfl,rfl,rfl,rfl,rfl,tv⟩,⟨rfl,rfl⟩,⟨rfl,rfl⟩,⟨rfl,rfl⟩,⟨rfl,rfl⟩,⟨rfl,rfl⟩,⟨rfl,rfl⟩,tv⟩,rfl,rfl⟩,by omega,by show 6 - (i+1)<6 - i; omega⟩
 refine .inr ⟨[0,1,2,3,4,5],[.ptr 0 0,.dv (I (1)),.dv (I (100))],vK false s,0,_,_,wv s h.ok.bJ.rl K6 (1) (100) (by omega),by kernel_rfl,by kernel_rfl,⟨rfl,rf,rf,tv⟩,⟨⟨rf,rf,rf,rf,rf,rf,rfl,rfl,rfl,rfl,rfl,tv⟩,⟨rfl,rfl⟩,⟨rfl,rfl⟩,⟨rfl,rfl⟩,⟨rfl,rfl⟩,⟨rfl,rfl⟩,tv⟩,?_⟩
 refine .inl ⟨_,fun _=>(wF _ (Hd (1) (100))).ok,?_⟩
 refine .inr ⟨[6],[.own 0 0 0 [],.dv (I (1)),.dv (I (100))],GY v,0,_,_,wD v CF (1) (100) (by omega),by kernel_rfl,by kernel_rfl,⟨rfl,rf,rf,tv⟩,⟨⟨rfl,rfl⟩,tv⟩,?_⟩
 rw [←h.top (1) (100)]
 refine .inl ⟨_,fun _=>(wE _ (Hd (1) (100))).ok,?_⟩
 exact ⟨_,_,⟨rfl,rfl⟩,by kernel_rfl,⟨rf,tv⟩,⟨⟨rf,rf,rf,rf,rf,rf,rfl,rfl,rfl,rfl,rfl,tv⟩,⟨rfl,rfl⟩,⟨rfl,rfl⟩,⟨rfl,rfl⟩,⟨rfl,rfl⟩,⟨rfl,rfl⟩,⟨rfl,rfl⟩,tv⟩⟩
end Go.Proofs.YtpbdohkbiklflaaGreatDoor
namespace Go.Proofs.YtpbdohkbiklflaaGreatDoor
open Go.TM
variable [de]
set_option maxRecDepth 100000
def VT (st:St):ao:=.cells [.dv (I st.id),.dv (I st.kind),.dv (I st.GS),.dv (I st.tick),.dv (I st.Ng),.dv (I st.times),.dv (AD st.mv)]
theorem Lu (m:Mv):(bif bif bif bif bif bif bif bif decide (m.it<0) then true else decide (4≤m.it) then true else decide (m.n<1) then true else decide (1099511627776<m.n) then true else decide (m.f<0) then true else decide (1073741824<m.f) then true else decide (m.t<0) then true else decide (1073741824<m.t) then true else decide (m.f=m.t))=iN m:=by
 unfold iN qR
 have e:∀a:Int,(!(decide (0≤a) && decide (a≤1073741824)))=(bif decide (a<0) then true else decide (1073741824<a)):=by
  intro a
  by_cases h1:0≤a <;> by_cases h2:a≤1073741824 <;> simp [h1,h2] <;> omega
 rw [e,e]
 cases decide (m.it<0) <;> cases decide (4≤m.it) <;> cases decide (m.n<1) <;> cases decide (1099511627776<m.n) <;> cases decide (m.f<0) <;> cases decide (1073741824<m.f) <;> cases decide (m.t<0) <;> cases decide (1073741824<m.t) <;> rfl
theorem O0 (s:St):sQ (gL s)=gL s:=rfl
def Tl (v:RV) (st:St) (i:Nat):bh:=⟨1,[(0,.dv (GV v)),(3,.ptr 0 0),(5,.dv (I i))],[(0,VT st)]⟩
set_option maxHeartbeats 4000000 in
theorem Ft (v:RV) (hl:nw v.steps) (SA:v.steps.length≤50) (st:St) (VU:st.mv.length≤4):ct Tryz.prog 44 [GV v,gL st] [I (oD v.steps [] st.mv)]:=by
 refine bp aG mixed (aq _) (ar _) Tryz.func44 rfl (by kernel_rfl) rfl ?_
 refine ⟨Nat,Tl v st,fun i=>i≤st.mv.length∧oD v.steps (st.mv.take i) (st.mv.drop i)=oD v.steps [] st.mv∧∀m∈st.mv.take i,iN m=false,fun i=>st.mv.length - i,0,fun _=>rfl,⟨⟨rf,rfl,rf,tv⟩,⟨⟨rf,rf,rf,rf,rf,rf,rf,tv⟩,tv⟩,rfl,rfl⟩,⟨by omega,by simp,by simp⟩,?_⟩
 rintro i ⟨hi,xQ,Hl⟩
 refine ⟨fun h=>?_,fun h=>?_⟩
 ·have hk:i<st.mv.length:=by simpa using h
  have hs:=List.getElem?_eq_getElem hk
  have aB:=List.drop_eq_getElem_cons hk
  generalize st.mv[i]=m at hs aB
  have fS:(st.mv.map cD)[((i:Int)).toNat]?=some (cD m):=by rw [Int.toNat_natCast,List.getElem?_map,hs]; rfl
  rw [aB,oD] at xQ
  have aK:st.mv.length - (i+1)<st.mv.length - i:=by omega
  refine ⟨cD m,fun _=>⟨by omega,fS⟩,?_⟩
  repeat first | refine ⟨id,?_⟩ | refine ⟨fun _ h=>cf h,?_⟩ | refine ⟨fun _ h=>ax h,?_⟩ | refine ⟨fun h=>⟨h,fun h2=>aQ h h2⟩,?_⟩ | refine ⟨fun h=>⟨h,fun h2=>aD h h2⟩,?_⟩
  refine ⟨by kernel_rfl,fun hc=>?_,fun hc=>?_⟩
  ·have hc:=(Lu m).symm.trans hc
   rw [if_pos hc] at xQ
   exact ⟨az xQ,tv⟩
  have hc:=(Lu m).symm.trans hc
  rw [if_neg (by rw [hc]; simp)] at xQ
  obtain ⟨b1,b2,b3,b4,b5,b6,b7⟩:=oR hc
  have Qt:List.drop (Option.getD none (0:Int)).toNat (List.take (Option.getD (some (i:Int)) ((st.mv.map cD).length:Int)).toNat (st.mv.map cD))=(st.mv.take i).map cD:=by
   simp [List.map_take]
  have oQ:∀q:List St,(q.map gL).length=q.length:=fun q=>List.length_map ..
  refine ⟨fun _=>⟨Int.le_refl _,by show (0:Int)≤(i:Int); omega,by show (i:Int)≤((st.mv.map cD).length:Int); rw [List.length_map]; omega⟩,.inr ⟨v.steps.map gL,dX.refl _,by rw [Nl,oQ]; omega,by rw [oQ]; omega,?_⟩⟩
  have Ig:st.mv.take (i+1)=st.mv.take i++[m]:=by rw [List.take_add_one,hs]; rfl
  have Tm:∀x∈st.mv.take (i+1),iN x=false:=by
   rw [Ig]; intro x hx
   rcases List.mem_append.1 hx with hx | hx
   ·exact Hl x hx
   ·simp only [List.mem_singleton] at hx; subst hx; exact hc
  by_cases h0:m.f=0
  ·have hg:bw (m.f != 0) true=false:=by rw [h0]; rfl
   have YV:(m.f != 0)=false:=by rw [h0]; rfl
   refine .inr (.inl ⟨hg,?_⟩)
   refine .inr (.inl ⟨hg,?_⟩)
   repeat first | refine ⟨id,?_⟩ | refine ⟨fun _ h=>cf h,?_⟩ | refine ⟨fun _ h=>ax h,?_⟩ | refine ⟨fun h=>⟨h,fun h2=>aQ h h2⟩,?_⟩ | refine ⟨fun h=>⟨h,fun h2=>aD h h2⟩,?_⟩
   refine .inl ⟨hg,[I 0],(fun h=>by rw [hg] at h; cases h),rfl,?_⟩
   repeat first | refine ⟨id,?_⟩ | refine ⟨fun _ h=>cf h,?_⟩ | refine ⟨fun _ h=>ax h,?_⟩ | refine ⟨fun h=>⟨h,fun h2=>aQ h h2⟩,?_⟩ | refine ⟨fun h=>⟨h,fun h2=>aD h h2⟩,?_⟩
   have hn:¬ (m.f ≠ 0∧aL m.f m.it (v.steps++[⟨0,0,0,0,0,0,st.mv.take i⟩])<m.n):=by rintro ⟨h9,_⟩; exact h9 h0
   rw [if_neg hn] at xQ
   refine ⟨by kernel_rfl,fun fW=>?_,fun _=>?_⟩
   ·rw [YV] at fW; cases fW
   ·exact ⟨fun _=>⟨by omega,by omega⟩,i+1,⟨⟨rf,rfl,az (by omega),tv⟩,⟨⟨rf,rf,rf,rf,rf,rf,rf,tv⟩,tv⟩,rfl,rfl⟩,⟨by omega,by rw [Ig]; exact xQ,Tm⟩,aK⟩
  ·have hg:bw (m.f != 0) true=true:=ax (by simpa using h0)
   refine .inr (.inr ⟨hg,fun _=>hg,.inl ⟨[gL ⟨0,0,0,0,0,0,st.mv.take i⟩],rfl,⟨rf,rf,rf,rf,rf,rf,DV.Le.of_eq (congrArg (DV.sl 5) Qt),tv⟩,(by simp; rfl),?_⟩⟩)
   refine .inr (.inr ⟨hg,fun _=>hg,.inr ⟨[gL ⟨0,0,0,0,0,0,st.mv.take i⟩],dX.refl _,by rw [Nl,oQ]; simp; omega,by rw [oQ]; simp; omega,?_⟩⟩)
   repeat first | refine ⟨id,?_⟩ | refine ⟨fun _ h=>cf h,?_⟩ | refine ⟨fun _ h=>ax h,?_⟩ | refine ⟨fun h=>⟨h,fun h2=>aQ h h2⟩,?_⟩ | refine ⟨fun h=>⟨h,fun h2=>aD h h2⟩,?_⟩
   have hZ:sQ (DV.ay 7 (v.steps.map gL++[gL ⟨0,0,0,0,0,0,st.mv.take i⟩]))=jJ (v.steps++[(⟨0,0,0,0,0,0,st.mv.take i⟩:St)]):=by
    show DV.sl 7 (EG (v.steps.map gL++[gL ⟨0,0,0,0,0,0,st.mv.take i⟩]))=DV.sl 7 ((v.steps++[(⟨0,0,0,0,0,0,st.mv.take i⟩:St)]).map gL)
    rw [show v.steps.map gL++[gL ⟨0,0,0,0,0,0,st.mv.take i⟩]=(v.steps++[(⟨0,0,0,0,0,0,st.mv.take i⟩:St)]).map gL by simp,oc O0]
   have C4:nw (v.steps++[(⟨0,0,0,0,0,0,st.mv.take i⟩:St)]):=by
    refine ⟨by rw [List.length_append]; simp; omega,fun s hs=>?_⟩
    rcases List.mem_append.1 hs with hs | hs
    ·exact hl.2 s hs
    ·simp only [List.mem_singleton] at hs; subst hs
     exact ⟨by simp only [List.length_take]; omega,fun x hx=>by have:=oR (Hl x hx); omega⟩
   have Xb:=eu _ m.f m.it C4
   rw [←hZ] at Xb
   refine .inl (.inl ⟨_,fun _=>Xb.ok,rfl,?_⟩)
   repeat first | refine ⟨id,?_⟩ | refine ⟨fun _ h=>cf h,?_⟩ | refine ⟨fun _ h=>ax h,?_⟩ | refine ⟨fun h=>⟨h,fun h2=>aQ h h2⟩,?_⟩ | refine ⟨fun h=>⟨h,fun h2=>aD h h2⟩,?_⟩
   have O1:∀r:Int,(bif m.f != 0 then decide (r<m.n) else false)=decide (r<m.n):=fun r=>by rw [show (m.f != 0)=true by simpa using h0]; rfl
   refine ⟨by kernel_rfl,fun fW=>?_,fun fW=>?_⟩
   ·have fW:=of_decide_eq_true ((O1 _).symm.trans fW)
    rw [if_pos ⟨h0,fW⟩] at xQ
    exact ⟨az xQ,tv⟩
   ·have fW:=of_decide_eq_false ((O1 _).symm.trans fW)
    rw [if_neg (fun h9=>fW h9.2)] at xQ
    exact ⟨fun _=>⟨by omega,by omega⟩,i+1,⟨⟨rf,rfl,az (by omega),tv⟩,⟨⟨rf,rf,rf,rf,rf,rf,rf,tv⟩,tv⟩,rfl,rfl⟩,⟨by omega,by rw [Ig]; exact xQ,Tm⟩,aK⟩
 ·have hk:i=st.mv.length:=by
   have:¬ i<st.mv.length:=by simpa using h
   omega
  subst hk
  rw [List.drop_length] at xQ
  exact ⟨az xQ,tv⟩
end Go.Proofs.YtpbdohkbiklflaaGreatDoor
