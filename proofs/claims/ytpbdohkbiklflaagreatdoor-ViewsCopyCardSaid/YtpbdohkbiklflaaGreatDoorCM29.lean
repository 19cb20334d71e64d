import Derived.Test.YtpbdohkbiklflaaGreatDoorCM22
import Derived.Test.YtpbdohkbiklflaaGreatDoorCM27
import Derived.Test.YtpbdohkbiklflaaGreatDoorCM28
import Derived.Test.YtpbdohkbiklflaaGreatDoorCM23
import Derived.Test.YtpbdohkbiklflaaGreatDoorCM24
set_option linter.unusedVariables false
set_option linter.unusedSimpArgs false
set_option linter.unusedSectionVars false
namespace Go.Proofs.YtpbdohkbiklflaaGreatDoor
open Go.TM
variable [cG]
set_option maxRecDepth 100000
theorem J0:aO Tryz.prog 32 [.dv (.fn 33 [])] 0 [] 1 [.ptr 0 0] [(0,.cells [.dv (.fn 33 []),.dv .aG])]:=by
 refine aJ aD mixed (af _) (ai _) Tryz.func32 rfl rfl (by kernel_rfl) ?_
 exact ⟨_,_,⟨rfl,rfl⟩,by kernel_rfl,⟨rfl,tv⟩,⟨rf,rf,tv⟩,tv⟩
theorem oZ:aO Tryz.prog 32 [.dv (.fn 33 [])] 0 [] 1 [.own 0 0 0 []] [(0,.tree 0 0 (cz true []))] :=
 Gt (ds:=[.fn 33 [],.aG]) J0
def MU (coin ab aE:Int):Vs:=⟨coin,ab,aE,0,0,[],[0,0,0,0],[(true,[]),(true,[]),(true,[]),(true,[])],[(true,[]),(true,[]),(true,[]),(true,[])],[]⟩
def MV (coin:Int):Bool:=bif bif decide (coin<0) then true else decide (4≤coin) then true else !(decide (coin=1) || decide (coin=3))
def Gv (ab aE:Int):Bool:=bif bif bif decide (ab<1) then true else decide (1099511627776<ab) then true else decide (aE<0) then true else decide (1048576<aE)
theorem Pl (n:ByteArray) (coin:Int) (h:0≤coin∧coin<4):∃nm,(w5 n)[coin.toNat]?=some (.agg [.str nm,B false,B false,B (decide (coin=1) || decide (coin=3)),I 0,I 0,I 0]):=by
 obtain h | h | h | h:coin=0 ∨ coin=1 ∨ coin=2 ∨ coin=3:=by omega
 all_goals (subst h; exact ⟨_,rfl⟩)
theorem MW (n:ByteArray) (coin:Int):∃nm,bw (bif decide (coin<0) then true else decide (((w5 n).length:Int)≤coin)) false=true→0≤coin∧(w5 n)[coin.toNat]?=some (.agg [.str nm,B false,B false,B (decide (coin=1) || decide (coin=3)),I 0,I 0,I 0]):=by
 by_cases h:0≤coin∧coin<4
 ·obtain ⟨nm,hn⟩:=Pl n coin h
  exact ⟨nm,fun _=>⟨h.1,hn⟩⟩
 ·refine ⟨eJ,fun hb=>absurd hb ?_⟩
  have:(bif decide (coin<0) then true else decide (((w5 n).length:Int)≤coin))=true:=by
   show (bif decide (coin<0) then true else decide ((4:Int)≤coin))=true
   rw [Bool.cond_true_left,Bool.or_eq_true,decide_eq_true_eq,decide_eq_true_eq]; omega
  rw [this]; simp [bw]
theorem XQ:(nth tab (nth tab 76).elem).bytes=8:=rfl
def Y9 (coin ab aE:Int):List AV:=[.dv (I 4),.dv (I coin),.dv (I ab),.dv (I aE),.dv (I 0),.dv (I 0),.own 1 0 0 [],.own 2 0 0 [],.own 5 0 0 []]
def U1 (coin ab aE:Int) (j:Nat):aY:=⟨6,[(11,.ptr 4 0),(68,.dv (I 4)),(69,.dv (I j))],[(1,.tree 0 0 (.omap dw [])),(2,.tree 0 0 (.aw 1 [I 0,I 0,I 0,I 0])),(3,.tree 0 0 (.aw 1 [.aG,.aG,.aG,.aG])),(4,.cells (Y9 coin ab aE++[.own 3 0 0 [],.dv .aG])),(5,.tree 0 0 (.aw 1 (List.replicate j (cz true []))))]⟩
def nwK (coin ab aE:Int):aj:=[(1,.tree 0 0 (.omap dw [])),(2,.tree 0 0 (.aw 1 [I 0,I 0,I 0,I 0])),(3,.tree 0 0 (.aw 1 [.aG,.aG,.aG,.aG])),(4,.cells (Y9 coin ab aE++[.own 3 0 0 [],.own 6 0 0 []])),(5,.tree 0 0 (.aw 1 (List.replicate 4 (cz true [])))),(6,.tree 0 0 (.aw 1 []))]
set_option maxHeartbeats 4000000 in
theorem zS (coin ab aE:Int) (h:MV coin=false) (h2:Gv ab aE=false):aO Tryz.prog 11 [wg (Bn eJ),.dv (I coin),.dv (I ab),.dv (I aE)] 0 [] 7 [.ptr 4 0,.dv (I 0)] (nwK coin ab aE):=by
 refine aJ aD mixed (af _) (ai _) Tryz.func11 rfl rfl (by kernel_rfl) ?_
 refine .inl ⟨_,fun _=>Gs.ok,?_⟩
 refine ⟨fun h9=>by simp at h9,fun _=>?_⟩
 repeat first | refine ⟨id,?_⟩ | refine ⟨fun _ h=>bW h,?_⟩ | refine ⟨fun _ h=>ay h,?_⟩ | refine ⟨fun h=>⟨h,fun h2=>aF h h2⟩,?_⟩ | refine ⟨fun h=>⟨h,fun h2=>aA h h2⟩,?_⟩
 obtain ⟨nm,RD⟩:=MW eJ coin
 refine ⟨_,RD,?_⟩
 repeat first | refine ⟨id,?_⟩ | refine ⟨fun _ h=>bW h,?_⟩ | refine ⟨fun _ h=>ay h,?_⟩ | refine ⟨fun h=>⟨h,fun h2=>aF h h2⟩,?_⟩ | refine ⟨fun h=>⟨h,fun h2=>aA h h2⟩,?_⟩
 refine ⟨fun hc=>?_,fun _=>?_⟩
 ·have:MV coin=true:=hc
  rw [h] at this; cases this
 repeat first | refine ⟨id,?_⟩ | refine ⟨fun _ h=>bW h,?_⟩ | refine ⟨fun _ h=>ay h,?_⟩ | refine ⟨fun h=>⟨h,fun h2=>aF h h2⟩,?_⟩ | refine ⟨fun h=>⟨h,fun h2=>aA h h2⟩,?_⟩
 refine ⟨fun hc=>?_,fun _=>?_⟩
 ·have:Gv ab aE=true:=hc
  rw [h2] at this; cases this
 refine ⟨dw,I 0,⟨rf,tv⟩,Int.natCast_nonneg _,Int.le_refl _,(by show (4:Int) * 8≤_; omega),(by show (4:Int)≤_; omega),false,(fun h=>by cases h),.aG,⟨rf,tv⟩,Int.natCast_nonneg _,Int.le_refl _,(by show (4:Int) * 24≤_; omega),(by show (4:Int)≤_; omega),false,(fun h=>by cases h),?_⟩
 refine ⟨by kernel_rfl,?_⟩
 refine ⟨Nat,U1 coin ab aE,fun z=>z≤4,fun z=>4 - z,0,fun _=>rfl,?_⟩
 refine ⟨⟨⟨rfl,rf,rf,tv⟩,⟨⟨rfl,rfl⟩,⟨rfl,rfl⟩,⟨rfl,rfl⟩,⟨rf,rf,rf,rf,rf,rf,rfl,rfl,⟨rfl,rfl,rfl,rfl,1,rfl⟩,rfl,rf,tv⟩,⟨rfl,rfl,1,rfl⟩,tv⟩,rfl,rfl⟩,Nat.zero_le _,?_⟩
 rintro j hj
 refine ⟨fun aK=>?_,fun dy=>?_⟩
 ·have aK:j<4:=by have:=of_decide_eq_true aK; omega
  refine .inr ⟨[],[.dv (.fn 33 [])],[],1,_,_,oZ,by kernel_rfl,by kernel_rfl,⟨rf,tv⟩,tv,?_⟩
  refine .inr (.inl ⟨[cz true []],rfl,⟨rfl,tv⟩,(by simp; rfl),?_⟩)
  refine .inr (.inr ⟨rfl,[cz true []],dm.refl _,(by rw [XQ,List.length_replicate]; simp; omega),(by rw [List.length_replicate]; simp; omega),?_⟩)
  exact ⟨by kernel_rfl,fun _=>⟨by omega,by omega⟩,j+1,⟨⟨rfl,rf,au (by simp),tv⟩,⟨⟨rfl,rfl⟩,⟨rfl,rfl⟩,⟨rfl,rfl⟩,⟨rf,rf,rf,rf,rf,rf,rfl,rfl,rfl,rfl,rf,tv⟩,⟨rfl,by rw [List.replicate_succ']⟩,tv⟩,rfl,rfl⟩,by omega,by simp only; omega⟩
 ·have dy:j=4:=by have:=of_decide_eq_false dy; omega
  subst dy
  exact ⟨_,_,⟨rfl,rfl⟩,by kernel_rfl,⟨rfl,rf,tv⟩,⟨rfl,rfl⟩,⟨rfl,rfl⟩,⟨rfl,rfl⟩,⟨rf,rf,rf,rf,rf,rf,rfl,rfl,rfl,rfl,⟨rfl,rfl,rfl,rfl,1,rfl⟩,tv⟩,⟨rfl,rfl⟩,⟨rfl,rfl,1,rfl⟩,tv⟩
end Go.Proofs.YtpbdohkbiklflaaGreatDoor
namespace Go.Proofs.YtpbdohkbiklflaaGreatDoor
open Go.TM
variable [cG]
theorem DX:∀(m:HM) (k:Ky) (x:Int),(bT m k x).length=m.length+(if (bt m k).isSome=true then 0 else 1)
 | [],k,x=>by simp [bT,bt]
 | p::r,k,x=>by
  simp only [bT,bt]
  split
  ·simp
  ·rw [List.length_cons,DX r k x,List.length_cons]; omega
theorem DY:∀(m:HM) (k:Ky),(iY m k).length+(if (bt m k).isSome=true then 1 else 0)=m.length
 | [],k=>by simp [iY,bt]
 | p::r,k=>by
  simp only [iY,bt]
  split
  ·simp
  ·have:=DY r k
   rw [List.length_cons,List.length_cons]; omega
theorem Pm {s:Vs} {L:Nat} (h:Io s L) (a:Int) (i:Nat) (now:Int):((cQ s (a,(i:Int)) i now).H.length:Int)=(s.H.length:Int)+DK s.H ((a,(i:Int)),now):=by
 have hg:=BG h (a,(i:Int))
 rw [BE]
 unfold DK df
 simp only
 by_cases h0:hv s.H (a,(i:Int))=now
 ·rw [if_pos h0]
  by_cases h1:now=0
  ·simp [h0,h1]
  ·simp [h0,h1]
 ·rw [if_neg h0]
  by_cases h1:now=0
  ·subst h1
   rw [if_pos rfl]
   rw [if_neg h0] at hg
   have:=DY s.H (a,(i:Int))
   rw [hg] at this
   simp at this
   simp [h0]; omega
  ·rw [if_neg h1]
   have:=DX s.H (a,(i:Int)) now
   rw [hg] at this
   by_cases h2:hv s.H (a,(i:Int))=0
   ·rw [if_pos h2] at this
    simp at this
    simp [h2,h1,this]
   ·rw [if_neg h2] at this
    simp at this
    simp [h2,h1,this]
theorem zT {H G:HM}:∀(es:HM),(∀e∈es,hv H e.1=hv G e.1)→ja H es=ja G es
 | [],_=>rfl
 | e::r,h=>by
  show DK H e+ja H r=DK G e+ja G r
  rw [zT r fun x hx=>h x (List.mem_cons_of_mem _ hx)]
  unfold DK
  rw [h e List.mem_cons_self]
theorem DZ:∀{es:HM} {s:Vs} {L:Nat},Io s L→Cf es→L+es.length≤500→(0≤s.work∧s.work+es.length≤2305843009213693952)→((aL s es).H.length:Int)=(s.H.length:Int)+ja s.H es
 | [],s,L,_,_,_,_=>by simp [aL,ja]
 | e::r,s,L,h,he,hL,hw=>by
  obtain ⟨p1,⟨i,hi,p2⟩,p3,p4⟩:=he.pos e List.mem_cons_self
  have hc:=he.cons
  obtain ⟨⟨a,it⟩,now⟩:=e
  simp only at p1 p2 p3 p4
  subst p2
  simp only [List.length_cons] at hL hw
  have h1:=(BD h (by omega) (by omega) hi p1 ⟨p3,p4⟩).2
  have h2:=oV s (a,(i:Int)) i now
  rw [ij]
  simp only [Int.toNat_natCast]
  rw [DZ h1 hc.1 (by omega) (by omega),Pm h]
  rw [zT (H:=(cQ s (a,(i:Int)) i now).H) (G:=s.H) r fun x hx=>by
   rw [vh h.nd,if_neg]
   intro h9
   exact hc.2 (List.mem_map.2 ⟨x,hx,h9.symm⟩)]
  show _=_+(DK s.H ((a,(i:Int)),now)+ja s.H r)
  omega
structure Rl (s:Vs) (S:SS) (N:Nat) (v:RV):Prop where
 ok:Kq s S (8 * N) N
 coin:v.coin=s.coin
 ab:v.ab=s.ab
 aE:v.aE=s.aE
 hold:∀a it,1≤a→hv s.H (a,it)=aN a it v.steps
 last:s.last=bs v.steps
 work:v.work=s.work
 SJ:S.map BL=lC s.coin (s.last - s.ab) v.steps
 len:v.steps.length≤N
 Pn:∀x∈v.steps,x.tick≤s.last∧x.mv.length≤4∧∀m∈x.mv,jf m=false
 J1:s.last≤1099511627776
theorem Gw (l:List St) (x:St):bs (l++[x])=x.tick:=by
 unfold bs
 rw [List.length_append,List.length_cons,List.length_nil,List.getD_eq_getElem?_getD]
 simp
theorem qy {coin:Int} {st:St} (h:br coin st=true):bh coin st=((bh coin st).1,(bh coin st).2.1,(bh coin st).2.2.1,true):=by
 have h:(bh coin st).2.2.2=true:=h
 generalize bh coin st=q at *
 obtain ⟨a,b,c,d⟩:=q
 simp only at h; subst h; rfl
theorem n9 (S:SS) (lim:Int):(S.filter fun p=>decide (lim<p.2.tick)).map BL=(S.map BL).filter fun q=>decide (lim<q.2.1):=by
 rw [List.filter_map]; rfl
theorem Rl.sorted {s:Vs} {S:SS} {N:Nat} {v:RV} (h:Rl s S N v):∀x∈v.steps,x.tick≤s.last:=fun x hx=>(h.Pn x hx).1
theorem Rl.bz {s:Vs} {S:SS} {N:Nat} {v:RV} (h:Rl s S N v):bz v.coin v.ab v.steps (bs v.steps)=S.length:=by
 rw [h.coin,h.ab,←h.last,xz h.sorted,←h.SJ,List.length_map]
theorem Rl.key {s:Vs} {S:SS} {N:Nat} {v:RV} (h:Rl s S N v) {lim:Int} (hl:s.last - s.ab≤lim):(S.drop (dC S lim)).map BL=lC s.coin lim v.steps:=by
 rw [zN h.ok.xx.ord,n9,h.SJ,ub _ hl]
theorem Rl.size {s:Vs} {S:SS} {N:Nat} {v:RV} (h:Rl s S N v):(rO v.coin v.ab v.steps (bs v.steps):Int)=(s.H.length:Int)+(s.bH.length:Int):=by
 unfold rO
 rw [h.bz,Ir h.ok.bK.nd (fun p hp=>by have:=h.ok.bK.pos p hp; exact ⟨this.1,this.2.1,by omega⟩) h.hold,h.ok.xx.n3.bH,List.length_map]
 omega
theorem Is (S:SS) (lim:Int):dC S lim≤S.length:=by unfold dC; exact (List.takeWhile_sublist _).length_le
structure XT (s:Vs) (S:SS) (v:RV) (st:St) (A:HM):Prop where
 SJ:(bz v.coin v.ab (v.steps++[st]) st.tick:Int)=(S.length:Int) - (dC S (st.tick - s.ab):Int)+gV (br v.coin st)
 siz:(rO v.coin v.ab (v.steps++[st]) st.tick:Int)=MN s S st+ja s.H A
 Tw:qn (v.steps++[st]) v.steps (bp (v.steps++[st]))=A.countP (JU s.H)
 key:(n5 s S st).map BL=lC s.coin (st.tick - s.ab) (v.steps++[st])
theorem U2 {s:Vs} {S:SS} {N:Nat} {v:RV} (h:Rl s S N v) (hN:N≤20) {st:St} (hm:st.mv.length≤4) (ht:s.last≤st.tick) {A:HM} (hA:kR s.H [] st.mv=.ok A)
  (hh:∀a it,1≤a→Proofs.YtpbdohkbiklflaaGreatDoor.hold A s.H (a,it)=aN a it (v.steps++[st])):XT s S v st A:=by
 obtain ⟨a1,a2,a3,a4⟩:=DQ h.ok (by omega) hm hA
 have uR:=h.ok.Pf
 have SG:=h.ok.wk
 have AJ:=h.key (lim:=st.tick - s.ab) (by omega)
 have hle:=Is S (st.tick - s.ab)
 have JG:∀x∈v.steps++[st],x.tick≤st.tick:=fun x hx=>by
  rcases List.mem_append.1 hx with hx | hx
  ·have:=h.sorted x hx; omega
  ·simp at hx; subst hx; omega
 have U3:(Proofs.YtpbdohkbiklflaaGreatDoor.bz v.coin v.ab (v.steps++[st]) st.tick:Int)=(S.length:Int) - (dC S (st.tick - s.ab):Int)+gV (br v.coin st):=by
  rw [xz JG,h.coin,h.ab,zM,List.length_append,←AJ,List.length_map,List.length_drop]
  cases hq:br s.coin st with
  | false=>simp [gV]; omega
  | true=>rw [if_pos ⟨rfl,by omega⟩]; simp [gV]; omega
 have gX:=DZ h.ok.bK a1 (by omega) (by omega)
 have oT:=oX h.ok.bK a1 (by omega) (by omega)
 have QD:=Ir (l:=v.steps++[st]) oT.nd (fun p hp=>by have:=oT.pos p hp; exact ⟨this.1,this.2.1,by omega⟩) fun a it ha=>by rw [my h.ok.bK.nd a1,hh a it ha]
 refine ⟨U3,?_,?_,?_⟩
 ·unfold rO MN
  rw [QD]
  have h1:(s.bH.length:Int)=S.length:=by rw [h.ok.xx.n3.bH,List.length_map]
  have h2:(bif (bh s.coin st).2.2.2 then (1:Int) else 0)=gV (br v.coin st):=by rw [h.coin]; rfl
  rw [h2]
  have:=U3
  omega
 ·exact Pk rfl a1.nd (fun p hp=>by have:=a1.pos p hp; exact ⟨this.1,this.2.1⟩) h.hold hh
 ·unfold n5
  simp only
  rw [List.map_append,AJ,zM]
  congr 1
  cases hq:(bh s.coin st).2.2.2 with
  | false=>rw [if_neg]; · rfl
           rintro ⟨h9,_⟩; have h9:(bh s.coin st).2.2.2=true:=h9; rw [hq] at h9; cases h9
  | true =>
   rw [if_pos ⟨hq,by omega⟩]
   have hb:=xw (s9 hA) (qy (coin:=s.coin) (st:=st) hq)
   simp only [cond_true,List.map_cons,List.map_nil]
   unfold BL U0
   simp only
   rw [Int.toNat_of_nonneg hb.1]
theorem rS {s:Vs} {S:SS} {N:Nat} {v:RV} (h:Rl s S N v) (hN:N≤20) {st:St} (hm:st.mv.length≤4) :
  match ez s S st with
  | .err e=>ie v st=e∧e ≠ 0
  | .ok A=>ie v st=0∧Rl (cN s S st (aL s A)) (n5 s S st) (N+1) (kQ v st):=by
 have gP:=BK (H:=s.H) (steps:=v.steps) st.mv [] [] fun a it ha=>h.hold a it ha
 unfold ie
 by_cases ht:st.tick<bs v.steps ∨ 1099511627776<st.tick
 ·rw [if_pos ht]
  have:ez s S st=.err 1:=by
   unfold ez
   rw [if_pos (show (bif decide (st.tick<s.last) then true else decide (1099511627776<st.tick))=true by rw [h.last]; rcases ht with h1 | h1 <;> simp [h1])]
  rw [this]
  exact ⟨rfl,by decide⟩
 ·rw [if_neg ht]
  rw [not_or] at ht
  have r9:ez s S st=match kR s.H [] st.mv with
   | .err e=>.err e
   | .ok A=>if s.aE<MN s S st+ja s.H A then .err 22 else .ok A:=by
   unfold ez
   rw [if_neg (show ¬ (bif decide (st.tick<s.last) then true else decide (1099511627776<st.tick))=true by rw [h.last]; simp [ht.1,ht.2])]
   rfl
  cases hq:kR s.H [] st.mv with
  | err e =>
   rw [hq] at gP r9
   simp only at r9 gP
   rw [r9,if_pos (by rw [gP.1]; exact gP.2)]
   exact gP
  | ok A =>
   rw [hq] at gP r9
   simp only [List.nil_append] at r9 gP
   rw [if_neg (by rw [gP.1]; simp)]
   have hh:∀a it,1≤a→Proofs.YtpbdohkbiklflaaGreatDoor.hold A s.H (a,it)=aN a it (v.steps++[st]):=fun a it ha=>by rw [gP.2 a it ha,qo]
   have aK:s.last≤st.tick:=by rw [h.last]; omega
   have hf:=U2 h hN hm aK hq hh
   rw [hf.siz,h.aE]
   by_cases hs:s.aE<MN s S st+ja s.H A
   ·rw [if_pos hs] at r9 ⊢
    rw [r9]
    exact ⟨rfl,by decide⟩
   ·rw [if_neg hs] at r9 ⊢
    rw [r9]
    refine ⟨rfl,?_⟩
    obtain ⟨f1,f2,f3,f4⟩:=BJ h.ok (by omega) (by omega) st hm r9
    obtain ⟨g1,g2,g3,g4,g5,g6,g7⟩:=BI s S st (aL s A)
    have hr:=j7 A s
    obtain ⟨a1,a2,a3,a4⟩:=DQ h.ok (by omega) hm hq
    refine ⟨by rw [show 8 * (N+1)=8 * N+8 by omega]; exact f1,?_,?_,?_,?_,?_,?_,?_,?_,?_,by rw [g5]; exact f3.2⟩
    ·rw [g6,hr.1]; exact h.coin
    ·rw [g4,hr.2.1]; exact h.ab
    ·rw [g7,hr.2.2.1]; exact h.aE
    ·intro a it ha
     rw [g1,my h.ok.bK.nd a1,hh a it ha]; rfl
    ·rw [g5]; exact (Gw _ _).symm
    ·rw [xy,oY h.ok.bK.nd a1]
     show v.work+_+_+_ - _=_
     rw [hf.SJ,hf.Tw,h.bz,h.work,h.coin]
     have hle:=Is S (st.tick - s.ab)
     have:(bif (bh s.coin st).2.2.2 then (1:Int) else 0)=gV (br s.coin st):=rfl
     rw [this]
     omega
    ·rw [g5,g4,g6,hr.2.1,hr.1,hf.key]; rfl
    ·show (v.steps++[st]).length≤_
     rw [List.length_append]; have:=h.len; simp; omega
    ·intro x hx
     rw [g5]
     have hx:x∈v.steps++[st]:=hx
     rcases List.mem_append.1 hx with hx | hx
     ·have:=h.Pn x hx; exact ⟨by omega,this.2⟩
     ·simp at hx; subst hx; exact ⟨Int.le_refl _,hm,s9 hq⟩
theorem rl0 {coin ab aE:Int} (hw:1≤ab∧ab≤1099511627776) (h0:Kq (MU coin ab aE) [] 0 0):Rl (MU coin ab aE) [] 0 ⟨coin,ab,aE,[],0⟩ :=
 ⟨h0,rfl,rfl,rfl,fun a it _=>rfl,rfl,rfl,rfl,Nat.le_refl _,fun x hx=>(by cases hx),by show (0:Int)≤_; omega⟩
theorem Rl.SK {s:Vs} {S:SS} {N:Nat} {v:RV} (h:Rl s S N v) (hN:N≤100):m8 v.steps:=by
 refine ⟨by have:=h.len; omega,fun x hx=>⟨(h.Pn x hx).2.1,fun m hm=>?_⟩⟩
 have:=pB ((h.Pn x hx).2.2 m hm); omega
end Go.Proofs.YtpbdohkbiklflaaGreatDoor
namespace Go.Proofs.YtpbdohkbiklflaaGreatDoor
open Go.TM
variable [cG]
set_option maxRecDepth 100000
def SL (s:Vs) (it:Nat) (tick:Int):aj:=vK false s++[(6,.cells [.ptr 0 0]),(7,.cells [.dv (I tick)]),(8,.cells [.own 4 0 0 [.el it 0]])]
theorem Po (s:Vs) (it:Nat) (tick:Int) (l:List Sl) (hs:(s.sl.map kj)[it]?=some (.aw 5 (l.map bQ))) (i:Nat) (x:Sl) (hi:l[i]?=some x) (hb:-9223372036854775808≤tick - s.ab∧tick - s.ab≤9223372036854775807) :
  aO Tryz.prog 41 [.dv (I i),.ptr 8 0,.ptr 7 0,.ptr 6 0] 9 (SL s it tick) 0 [.dv (B (decide (tick - s.ab<x.tick)))] (SL s it tick):=by
 have aK:i<l.length:=(List.getElem?_eq_some_iff.1 hi).1
 refine aJ aD mixed (af _) (ai _) Tryz.func41 rfl rfl (by kernel_rfl) ?_
 refine ⟨.aw 5 (l.map bQ),fun _=>hs,?_⟩
 refine ⟨fun _=>⟨by omega,by rw [List.length_map]; omega⟩,?_⟩
 refine ⟨.aw 5 (l.map bQ),fun _=>hs,?_⟩
 refine ⟨bQ x,fun _=>by rw [List.getElem?_map,Int.toNat_natCast,hi]; rfl,?_⟩
 refine ⟨fun _=>⟨by omega,by omega⟩,?_⟩
 exact ⟨by kernel_rfl,_,_,⟨rfl,rfl⟩,by kernel_rfl,⟨rf,tv⟩,⟨rf,rf,rf,rf,rf,rf,rfl,rfl,rfl,rfl,rfl,tv⟩,⟨rfl,rfl⟩,⟨rfl,rfl⟩,⟨rfl,rfl⟩,⟨rfl,rfl⟩,⟨rfl,rfl⟩,⟨rfl,tv⟩,⟨rf,tv⟩,⟨rfl,tv⟩,tv⟩
theorem BM (s:Vs) (it:Nat) (tick:Int) (l:List Sl) (hs:(s.sl.map kj)[it]?=some (.aw 5 (l.map bQ))) (k:Nat) (hk:k≤l.length) (hl:l.length≤1000) (hb:-9223372036854775808≤tick - s.ab∧tick - s.ab≤9223372036854775807)
  (h1:∀i y,i<k→l[i]?=some y→¬ tick - s.ab<y.tick) (h2:∀i y,k≤i→l[i]?=some y→tick - s.ab<y.tick) :
  aO Tryz.prog 40 [.dv (I l.length),.fn 41 [.ptr 8 0,.ptr 7 0,.ptr 6 0]] 9 (SL s it tick) 0 [.dv (I k)] (SL s it tick):=by
 refine aJ aD mixed (af _) (ai _) Tryz.func40 rfl rfl (by kernel_rfl) ?_
 refine ⟨V6,Mq 41 [.ptr 8 0,.ptr 7 0,.ptr 6 0] 9 (SL s it tick),fun q=>q.i≤k∧k≤q.j∧q.j≤l.length,fun q=>q.j - q.i,⟨0,l.length⟩,fun _=>rfl,⟨⟨⟨rfl,rfl,rfl,rfl,tv⟩,rf,rf,tv⟩,⟨⟨rf,rf,rf,rf,rf,rf,rfl,rfl,rfl,rfl,rfl,tv⟩,⟨rfl,rfl⟩,⟨rfl,rfl⟩,⟨rfl,rfl⟩,⟨rfl,rfl⟩,⟨rfl,rfl⟩,⟨rfl,tv⟩,⟨rf,tv⟩,⟨rfl,tv⟩,tv⟩,rfl,rfl⟩,⟨Nat.zero_le _,hk,Nat.le_refl _⟩,?_⟩
 rintro q ⟨p1,p2,p3⟩
 refine ⟨fun aK=>?_,fun dy=>?_⟩
 ·have aK:q.i<q.j:=by have:=of_decide_eq_true aK; simp only [Int.ofNat_lt] at this; exact this
  refine ⟨fun _=>⟨by omega,by omega⟩,?_⟩
  refine ⟨fun _=>by omega,?_⟩
  have hlen:(q.i+q.j) / 2<l.length:=by omega
  have bt:=List.getElem?_eq_getElem hlen
  refine .inr ⟨[0,1,2,3,4,5,6,7,8],[.dv (I ((q.i+q.j) / 2:Nat)),.ptr 8 0,.ptr 7 0,.ptr 6 0],SL s it tick,0,_,_,Po s it tick l hs ((q.i+q.j) / 2) _ bt hb,by kernel_rfl,by kernel_rfl,⟨?_,rfl,rfl,rfl,tv⟩,⟨⟨rf,rf,rf,rf,rf,rf,rfl,rfl,rfl,rfl,rfl,tv⟩,⟨rfl,rfl⟩,⟨rfl,rfl⟩,⟨rfl,rfl⟩,⟨rfl,rfl⟩,⟨rfl,rfl⟩,⟨rfl,tv⟩,⟨rf,tv⟩,⟨rfl,tv⟩,tv⟩,?_⟩
  ·rw [mf (by omega)]; exact rf
  ·refine ⟨fun hb=>?_,fun hb=>?_⟩
   ·have cL:¬ tick - s.ab<l[(q.i+q.j) / 2].tick:=by simpa using hb
    have Sf:(q.i+q.j) / 2<k:=by
     rcases Nat.lt_or_ge ((q.i+q.j) / 2) k with h | h
     ·exact h
     ·exact absurd (h2 _ _ h bt) cL
    rw [mf (by omega)]
    refine ⟨fun _=>⟨by omega,by omega⟩,?_⟩
    exact ⟨⟨(q.i+q.j) / 2+1,q.j⟩,⟨⟨⟨rfl,rfl,rfl,rfl,tv⟩,au (by simp),rf,tv⟩,⟨⟨rf,rf,rf,rf,rf,rf,rfl,rfl,rfl,rfl,rfl,tv⟩,⟨rfl,rfl⟩,⟨rfl,rfl⟩,⟨rfl,rfl⟩,⟨rfl,rfl⟩,⟨rfl,rfl⟩,⟨rfl,tv⟩,⟨rf,tv⟩,⟨rfl,tv⟩,tv⟩,rfl,rfl⟩,⟨Sf,p2,p3⟩,by simp only; omega⟩
   ·have cL:tick - s.ab<l[(q.i+q.j) / 2].tick:=by simpa using hb
    have Sg:k≤(q.i+q.j) / 2:=by
     rcases Nat.lt_or_ge ((q.i+q.j) / 2) k with h | h
     ·exact absurd cL (h1 _ _ h bt)
     ·exact h
    rw [mf (by omega)]
    exact ⟨⟨q.i,(q.i+q.j) / 2⟩,⟨⟨⟨rfl,rfl,rfl,rfl,tv⟩,rf,rf,tv⟩,⟨⟨rf,rf,rf,rf,rf,rf,rfl,rfl,rfl,rfl,rfl,tv⟩,⟨rfl,rfl⟩,⟨rfl,rfl⟩,⟨rfl,rfl⟩,⟨rfl,rfl⟩,⟨rfl,rfl⟩,⟨rfl,tv⟩,⟨rf,tv⟩,⟨rfl,tv⟩,tv⟩,rfl,rfl⟩,⟨p1,Sg,by simp only; omega⟩,by simp only; omega⟩
 ·have dy:¬ q.i<q.j:=by have:=of_decide_eq_false dy; omega
  have zv:q.i=k:=by omega
  exact ⟨_,_,⟨rfl,rfl⟩,by kernel_rfl,⟨au (by rw [zv]),tv⟩,⟨rf,rf,rf,rf,rf,rf,rfl,rfl,rfl,rfl,rfl,tv⟩,⟨rfl,rfl⟩,⟨rfl,rfl⟩,⟨rfl,rfl⟩,⟨rfl,rfl⟩,⟨rfl,rfl⟩,⟨rfl,tv⟩,⟨rf,tv⟩,⟨rfl,tv⟩,tv⟩
def Wj (s:Vs) (tick:Int):aj:=vK false s++[(6,.cells [.ptr 0 0]),(7,.cells [.dv (I tick)]),(8,.cells [.dv .aG])]
def SM (K:aj) (_:Unit):aY:=⟨9,[(5,.dv (I 0)),(6,.dv (I 0))],K⟩
theorem yB (s:Vs) (tick:Int):aO Tryz.prog 40 [.dv (I 0),.fn 41 [.ptr 8 0,.ptr 7 0,.ptr 6 0]] 9 (Wj s tick) 0 [.dv (I 0)] (Wj s tick):=by
 refine aJ aD mixed (af _) (ai _) Tryz.func40 rfl rfl (by kernel_rfl) ?_
 refine ⟨Unit,SM (Wj s tick),fun _=>True,fun _=>0,(),fun _=>rfl,⟨⟨rf,rf,tv⟩,⟨⟨rf,rf,rf,rf,rf,rf,rfl,rfl,rfl,rfl,rfl,tv⟩,⟨rfl,rfl⟩,⟨rfl,rfl⟩,⟨rfl,rfl⟩,⟨rfl,rfl⟩,⟨rfl,rfl⟩,⟨rfl,tv⟩,⟨rf,tv⟩,⟨rf,tv⟩,tv⟩,rfl,rfl⟩,tv,?_⟩
 rintro _ _
 refine ⟨fun h=>by simp at h,fun _=>?_⟩
 exact ⟨_,_,⟨rfl,rfl⟩,by kernel_rfl,⟨rf,tv⟩,⟨rf,rf,rf,rf,rf,rf,rfl,rfl,rfl,rfl,rfl,tv⟩,⟨rfl,rfl⟩,⟨rfl,rfl⟩,⟨rfl,rfl⟩,⟨rfl,rfl⟩,⟨rfl,rfl⟩,⟨rfl,tv⟩,⟨rf,tv⟩,⟨rf,tv⟩,tv⟩
theorem BN (s:Vs) (it tick:Int):(bif bif decide (it<0) then true else decide (4≤it) then true else decide (tick<s.last))=decide (it<0 ∨ 4≤it ∨ tick<s.last):=by by_cases h1:it<0 <;> by_cases h2:4≤it <;> simp [h1,h2]
def Sl.zero:Sl:=⟨0,0,0,0,0⟩
def j8 (s:Vs) (it:Nat) (l:List Sl) (k:Nat):List Int × Bool :=
 if k=l.length then ([0,0,0,0,0],false) else
 ([(it:Int),s.coin,(l.getD (l.length - 1) Sl.zero).bS - ((l.getD k Sl.zero).bS - (l.getD k Sl.zero).n),(l.getD (l.length - 1) Sl.zero).cH - ((l.getD k Sl.zero).cH - (l.getD k Sl.zero).c),(l.getD (l.length - 1) Sl.zero).c.tdiv (l.getD (l.length - 1) Sl.zero).n],true)
def D0 (l:List Int):AV:=.agg (l.map fun n=>.dv (I n))
set_option maxHeartbeats 4000000 in
theorem D1 (s:Vs) (it tick:Int) (h:it<0 ∨ 4≤it ∨ tick<s.last):aO Tryz.prog 17 [.ptr 0 0,.dv (I it),.dv (I tick)] 6 (vK false s) 0 [D0 [0,0,0,0,0],.dv (B false)] (vK false s):=by
 refine aJ aD mixed (af _) (ai _) Tryz.func17 rfl rfl (by kernel_rfl) ?_
 repeat first | refine ⟨id,?_⟩ | refine ⟨fun _ h=>bW h,?_⟩ | refine ⟨fun _ h=>ay h,?_⟩ | refine ⟨fun h=>⟨h,fun h2=>aF h h2⟩,?_⟩ | refine ⟨fun h=>⟨h,fun h2=>aA h h2⟩,?_⟩
 refine ⟨by kernel_rfl,fun _=>?_,fun h'=>absurd h (of_decide_eq_false ((BN s it tick).symm.trans h'))⟩
 exact ⟨_,_,⟨rfl,rfl⟩,by kernel_rfl,⟨⟨rf,rf,rf,rf,rf,tv⟩,rf,tv⟩,⟨rf,rf,rf,rf,rf,rf,rfl,rfl,rfl,rfl,rfl,tv⟩,⟨rfl,rfl⟩,⟨rfl,rfl⟩,⟨rfl,rfl⟩,⟨rfl,rfl⟩,⟨rfl,rfl⟩,tv⟩
set_option maxHeartbeats 4000000 in
theorem oa (s:Vs) (it:Nat) (tick:Int) (h4:it<4) (hl:s.sl.length=4) (ht:s.last≤tick) (l:List Sl) (hs:s.sl[it]?=some (false,l)) (k:Nat) (hk:k≤l.length) (Ss:l.length≤1000) (hb:-9223372036854775808≤tick - s.ab∧tick - s.ab≤9223372036854775807)
  (h1:∀i y,i<k→l[i]?=some y→¬ tick - s.ab<y.tick) (h2:∀i y,k≤i→l[i]?=some y→tick - s.ab<y.tick)
  (hn:∀y,y∈l→1≤y.n∧y.n≤1152921504606846976∧1≤y.c∧y.c≤1152921504606846976∧0≤y.bS∧y.bS≤1152921504606846976∧0≤y.cH∧y.cH≤1152921504606846976) :
  aO Tryz.prog 17 [.ptr 0 0,.dv (I it),.dv (I tick)] 6 (vK false s) 0 [D0 (j8 s it l k).1,.dv (B (j8 s it l k).2)] (vK false s):=by
 have gS:(s.sl.map kj)[it]?=some (.aw 5 (l.map bQ)):=by rw [List.getElem?_map,hs]; rfl
 have uK:=BM s it tick l gS k hk Ss hb h1 h2
 refine aJ aD mixed (af _) (ai _) Tryz.func17 rfl rfl (by kernel_rfl) ?_
 repeat first | refine ⟨id,?_⟩ | refine ⟨fun _ h=>bW h,?_⟩ | refine ⟨fun _ h=>ay h,?_⟩ | refine ⟨fun h=>⟨h,fun h2=>aF h h2⟩,?_⟩ | refine ⟨fun h=>⟨h,fun h2=>aA h h2⟩,?_⟩
 refine ⟨by kernel_rfl,fun h'=>?_,fun _=>?_⟩
 ·have:=of_decide_eq_true ((BN s it tick).symm.trans h'); omega
 refine ⟨fun _=>⟨by omega,by rw [List.length_map]; omega⟩,.aw 5 (l.map bQ),fun _=>gS,?_⟩
 refine ⟨.aw 5 (l.map bQ),fun _=>gS,?_⟩
 refine .inr ⟨[0,1,2,3,4,5,6,7,9],[.dv (I l.length),.fn 41 [.ptr 8 0,.ptr 7 0,.ptr 6 0]],SL s it tick,0,_,_,uK,by kernel_rfl,by kernel_rfl,⟨au (by rw [List.length_map]),⟨rfl,rfl,rfl,rfl,tv⟩,tv⟩,⟨⟨rf,rf,rf,rf,rf,rf,rfl,rfl,rfl,rfl,rfl,tv⟩,⟨rfl,rfl⟩,⟨rfl,rfl⟩,⟨rfl,rfl⟩,⟨rfl,rfl⟩,⟨rfl,rfl⟩,⟨rfl,tv⟩,⟨rf,tv⟩,⟨rfl,tv⟩,tv⟩,?_⟩
 refine ⟨.aw 5 (l.map bQ),fun _=>gS,?_⟩
 refine ⟨fun h'=>?_,fun h'=>?_⟩
 ·have Fl:k=l.length:=by
   rw [List.length_map] at h'
   have h9:(k:Int)=(l.length:Int):=by simpa using h'
   omega
  rw [show j8 s it l k=([0,0,0,0,0],false) from if_pos Fl]
  exact ⟨_,_,⟨rfl,rfl⟩,by kernel_rfl,⟨⟨rf,rf,rf,rf,rf,tv⟩,rf,tv⟩,⟨rf,rf,rf,rf,rf,rf,rfl,rfl,rfl,rfl,rfl,tv⟩,⟨rfl,rfl⟩,⟨rfl,rfl⟩,⟨rfl,rfl⟩,⟨rfl,rfl⟩,⟨rfl,rfl⟩,tv⟩
 have Fl:k<l.length:=by
  rw [List.length_map] at h'
  have h9:¬ (k:Int)=(l.length:Int):=by simpa using h'
  omega
 have U4:l[k]?=some (l.getD k Sl.zero):=by rw [List.getD_eq_getElem?_getD,List.getElem?_eq_getElem Fl]; rfl
 have U5:l[l.length - 1]?=some (l.getD (l.length - 1) Sl.zero):=by rw [List.getD_eq_getElem?_getD,List.getElem?_eq_getElem (by omega)]; rfl
 have hxb:=hn _ (List.mem_of_getElem? U4)
 have hyb:=hn _ (List.mem_of_getElem? U5)
 have Rv:j8 s it l k=([(it:Int),s.coin,(l.getD (l.length - 1) Sl.zero).bS - ((l.getD k Sl.zero).bS - (l.getD k Sl.zero).n),(l.getD (l.length - 1) Sl.zero).cH - ((l.getD k Sl.zero).cH - (l.getD k Sl.zero).c),(l.getD (l.length - 1) Sl.zero).c.tdiv (l.getD (l.length - 1) Sl.zero).n],true):=if_neg (by omega)
 rw [Rv]
 generalize l.getD k Sl.zero=xk at *
 generalize l.getD (l.length - 1) Sl.zero=y at *
 have Za:(l.map bQ)[((k:Int)).toNat]?=some (bQ xk):=by rw [Int.toNat_natCast,List.getElem?_map,U4]; rfl
 have Y3:(l.map bQ).length=l.length:=List.length_map ..
 have Zb:(l.map bQ)[((((l.map bQ).length:Nat):Int) - 1).toNat]?=some (bQ y):=by
  rw [Y3,show ((l.length:Int) - 1).toNat=l.length - 1 by omega,List.getElem?_map,U5]; rfl
 repeat first | refine ⟨.aw 5 (l.map bQ),fun _=>gS,?_⟩ | refine ⟨bQ xk,fun _=>Za,?_⟩ | refine ⟨bQ y,fun _=>Zb,?_⟩ | refine ⟨by kernel_rfl,?_⟩ | refine ⟨fun _=>⟨by omega,by omega⟩,?_⟩
 have hd0:0≤y.c.tdiv y.n:=Int.tdiv_nonneg (by omega) (by omega)
 have hd1:y.c.tdiv y.n≤y.c:=Int.tdiv_le_self y.n (by omega)
 refine ⟨fun _ h=>by omega,?_⟩
 repeat first | refine ⟨.aw 5 (l.map bQ),fun _=>gS,?_⟩ | refine ⟨bQ xk,fun _=>Za,?_⟩ | refine ⟨bQ y,fun _=>Zb,?_⟩ | refine ⟨by kernel_rfl,?_⟩ | refine ⟨fun _=>⟨by omega,by omega⟩,?_⟩
 exact ⟨_,_,⟨rfl,rfl⟩,by kernel_rfl,⟨⟨rf,rf,rf,rf,rf,tv⟩,rf,tv⟩,⟨rf,rf,rf,rf,rf,rf,rfl,rfl,rfl,rfl,rfl,tv⟩,⟨rfl,rfl⟩,⟨rfl,rfl⟩,⟨rfl,rfl⟩,⟨rfl,rfl⟩,⟨rfl,rfl⟩,tv⟩
set_option maxHeartbeats 4000000 in
theorem D2 (s:Vs) (it:Nat) (tick:Int) (h4:it<4) (hl:s.sl.length=4) (ht:s.last≤tick) (l:List Sl) (hs:s.sl[it]?=some (true,l)) :
  aO Tryz.prog 17 [.ptr 0 0,.dv (I it),.dv (I tick)] 6 (vK false s) 0 [D0 [0,0,0,0,0],.dv (B false)] (vK false s):=by
 have gS:(s.sl.map kj)[it]?=some .aG:=by rw [List.getElem?_map,hs]; rfl
 refine aJ aD mixed (af _) (ai _) Tryz.func17 rfl rfl (by kernel_rfl) ?_
 repeat first | refine ⟨id,?_⟩ | refine ⟨fun _ h=>bW h,?_⟩ | refine ⟨fun _ h=>ay h,?_⟩ | refine ⟨fun h=>⟨h,fun h2=>aF h h2⟩,?_⟩ | refine ⟨fun h=>⟨h,fun h2=>aA h h2⟩,?_⟩
 refine ⟨by kernel_rfl,fun h'=>?_,fun _=>?_⟩
 ·have:=of_decide_eq_true ((BN s it tick).symm.trans h'); omega
 refine ⟨fun _=>⟨by omega,by rw [List.length_map]; omega⟩,.aG,fun _=>gS,?_⟩
 refine .inr ⟨[0,1,2,3,4,5,6,7,9],[.dv (I 0),.fn 41 [.ptr 8 0,.ptr 7 0,.ptr 6 0]],Wj s tick,0,_,_,yB s tick,by kernel_rfl,by kernel_rfl,⟨rf,⟨rfl,rfl,rfl,rfl,tv⟩,tv⟩,⟨⟨rf,rf,rf,rf,rf,rf,rfl,rfl,rfl,rfl,rfl,tv⟩,⟨rfl,rfl⟩,⟨rfl,rfl⟩,⟨rfl,rfl⟩,⟨rfl,rfl⟩,⟨rfl,rfl⟩,⟨rfl,tv⟩,⟨rf,tv⟩,⟨rf,tv⟩,tv⟩,?_⟩
 refine ⟨fun _=>?_,fun h=>by simp at h⟩
 exact ⟨_,_,⟨rfl,rfl⟩,by kernel_rfl,⟨⟨rf,rf,rf,rf,rf,tv⟩,rf,tv⟩,⟨rf,rf,rf,rf,rf,rf,rfl,rfl,rfl,rfl,rfl,tv⟩,⟨rfl,rfl⟩,⟨rfl,rfl⟩,⟨rfl,rfl⟩,⟨rfl,rfl⟩,⟨rfl,rfl⟩,tv⟩
end Go.Proofs.YtpbdohkbiklflaaGreatDoor
namespace Go.Proofs.YtpbdohkbiklflaaGreatDoor
open Go.TM
variable [cG]
def oc (l:List St) (a it:Int):Int:=if a<1 then 0 else aN a it l
theorem Rl.holding {s:Vs} {S:SS} {N:Nat} {v:RV} (h:Rl s S N v) (a it:Int):hv s.H (a,it)=oc v.steps a it:=by
 unfold oc
 split
 ·rename_i ha
  have:=lA (m:=s.H) (k:=(a,it)) fun hm=>by
   obtain ⟨p,h1,h2⟩:=List.mem_map.1 hm
   have:=(h.ok.bK.pos p h1).1
   rw [h2] at this; simp only at this; omega
  unfold hv; rw [this]; rfl
 ·exact h.hold a it (by omega)
theorem Rl.U6 {s:Vs} {S:SS} {N:Nat} {v:RV} (h:Rl s S N v) {it:Int} (hi:it<0 ∨ 4≤it) (a:Int):aN a it v.steps=0 :=
 Gr fun x hx m hm=>by have:=pB ((h.Pn x hx).2.2 m hm); omega
theorem It (f:Int→Int) (b c:Int):∀{xs:List Int},xs.Nodup→(xs.map fun a=>if a=b then c else f a).sum=(xs.map f).sum+if b∈xs then c - f b else 0
 | [],_=>by simp
 | a::r,h=>by
  rw [List.nodup_cons] at h
  rw [List.map_cons,List.sum_cons,It f b c h.2,List.map_cons,List.sum_cons]
  by_cases hb:a=b
  ·subst hb
   rw [if_pos rfl,if_neg h.1,if_pos List.mem_cons_self]; omega
  ·rw [if_neg hb]
   by_cases h2:b∈r
   ·rw [if_pos h2,if_pos (List.mem_cons_of_mem _ h2)]; omega
   ·rw [if_neg h2,if_neg]
    ·omega
    ·intro h9; rcases List.mem_cons.1 h9 with h9 | h9
     ·exact hb h9.symm
     ·exact h2 h9
theorem xB (f:Int→Int) (h:∀a,f a=0):∀xs:List Int,(xs.map f).sum=0
 | []=>rfl
 | a::r=>by rw [List.map_cons,List.sum_cons,h,xB f h r]; rfl
theorem MX (i:Int) {xs:List Int} (ha:xs.Nodup):∀{H:HM},Nk H→(∀p∈H,p.1.1∈xs)→(xs.map fun a=>hv H (a,i)).sum=iO H i
 | [],_,_=>xB _ (fun _=>rfl) xs
 | p::r,hn,hp=>by
  have yN:=hn
  unfold Nk at hn
  rw [List.map_cons,List.nodup_cons] at hn
  have ih:=MX i ha (H:=r) hn.2 fun q hq=>hp q (List.mem_cons_of_mem _ hq)
  have hz:hv r p.1=0:=by unfold hv; rw [lA hn.1]; rfl
  obtain ⟨⟨a,it⟩,x⟩:=p
  by_cases hi:it=i
  ·subst hi
   have e:(xs.map fun b=>hv ((((a,it),x):Ky × Int)::r) (b,it))=xs.map fun b=>if b=a then x else hv r (b,it):=by
    refine List.map_congr_left fun b _=>?_
    rw [vf]
    by_cases hb:b=a
    ·subst hb; rw [if_pos rfl,if_pos rfl]
    ·rw [if_neg hb,if_neg]; intro h9; injection h9 with h9 _; exact hb h9.symm
   rw [e,It (fun b=>hv r (b,it)) a x ha,if_pos (hp _ List.mem_cons_self),ih]
   simp only at hz
   rw [hz]
   simp [iO]; omega
  ·have e:(xs.map fun b=>hv ((((a,it),x):Ky × Int)::r) (b,i))=xs.map fun b=>hv r (b,i):=by
    refine List.map_congr_left fun b _=>?_
    rw [vf,if_neg]; intro h9; injection h9 with _ h9; exact hi h9
   rw [e,ih]
   simp [iO,hi]
theorem Rl.total {s:Vs} {S:SS} {N:Nat} {v:RV} (h:Rl s S N v) (it:Int):(if it<0 ∨ 4≤it then 0 else s.cI.getD it.toNat 0)=F9 v.steps it:=by
 unfold F9
 split
 ·rename_i hi
  exact (xB _ (fun a=>h.U6 hi a) _).symm
 ·rename_i hi
  obtain ⟨i,rfl⟩:=Int.eq_ofNat_of_zero_le (show 0≤it by omega)
  rw [Int.toNat_natCast,h.ok.bK.SH i (by omega),←MX (i:Int) (td (n6 v.steps)) h.ok.bK.nd]
  ·congr 1
   refine List.map_congr_left fun a ha=>?_
   exact h.hold a _ (by have:=((lD _ _).1 ha).1; omega)
  ·intro p hp
   apply Classical.byContradiction
   intro h9
   have h1:=h.ok.bK.pos p hp
   have h2:=h.hold p.1.1 p.1.2 h1.1
   rw [n7 (by omega) h9] at h2
   unfold hv at h2
   rw [fI h.ok.bK.nd (k:=(p.1.1,p.1.2)) (x:=p.2) hp] at h2
   simp at h2; omega
theorem Iu (o:List Rk) (n:Int):∀k,iM o n k≤k
 | 0=>Nat.le_refl _
 | k+1=>by unfold iM; split
           ·have:=Iu o n k; omega
           ·exact Nat.le_refl _
theorem Iv (o:List Rk) (n:Int):∀k j,iM o n k≤j→j<k→(o.getD j (0,0)).2<n
 | 0,j,_,h=>by omega
 | k+1,j,h1,h2=>by
  unfold iM at h1
  split at h1
  ·rename_i h3
   by_cases hj:j=k
   ·subst hj; exact h3
   ·exact Iv o n k j h1 (by omega)
  ·omega
theorem Iw (o:List Rk) (n:Int):∀k,iM o n k=0 ∨ n≤(o.getD (iM o n k - 1) (0,0)).2
 | 0=>.inl rfl
 | k+1=>by
  unfold iM
  split
  ·exact Iw o n k
  ·rename_i h; right; simp only [Nat.add_sub_cancel]; omega
theorem J2 {o:List Rk} {x:Rk} (h:gl o) (hx:∀y∈o,y.1<x.1):gl (j4 o x)∧∀y,y∈j4 o x ↔ y=x ∨ y∈o:=by
 have hk:=Iu o x.2 o.length
 have e:=List.take_append_drop (iM o x.2 o.length) o
 constructor
 ·unfold j4 gl
  unfold gl at h
  have h':=h
  rw [←e,List.pairwise_append] at h'
  rw [List.pairwise_append]
  have dy:∀j (hj:j<o.length),j<iM o x.2 o.length→x.2≤o[j].2:=by
   intro j hj hjk
   rcases Iw o x.2 o.length with h0 | h0
   ·omega
   ·have hl:iM o x.2 o.length - 1<o.length:=by omega
    rw [List.getD_eq_getElem?_getD,List.getElem?_eq_getElem hl] at h0
    simp only [Option.getD_some] at h0
    by_cases Sk:j=iM o x.2 o.length - 1
    ·subst Sk; exact h0
    ·have:=List.pairwise_iff_getElem.1 h j _ hj hl (by omega)
     unfold kh at this
     simp at this
     omega
  refine ⟨h'.1,?_,?_⟩
  ·rw [List.pairwise_cons]
   refine ⟨fun y hy=>?_,h'.2.1⟩
   obtain ⟨j,hj,rfl⟩:=List.mem_iff_getElem.1 hy
   rw [List.length_drop] at hj
   have:=Iv o x.2 o.length (iM o x.2 o.length+j) (by omega) (by omega)
   rw [List.getD_eq_getElem?_getD,List.getElem?_eq_getElem (by omega)] at this
   simp only [Option.getD_some] at this
   rw [List.getElem_drop]
   unfold kh; simp [this]
  ·intro y hy z hz
   rcases List.mem_cons.1 hz with rfl | hz
   ·obtain ⟨j,hj,rfl⟩:=List.mem_iff_getElem.1 hy
    rw [List.length_take] at hj
    rw [List.getElem_take]
    have h1:=dy j (by omega) (by omega)
    have h2:=hx _ (List.getElem_mem (show j<o.length by omega))
    unfold kh
    by_cases h3:z.2<(o[j]'(by omega)).2
    ·simp [h3]
    ·simp [h2]; omega
   ·exact h'.2.2 y hy z hz
 ·intro y
  unfold j4
  have:y∈o ↔ y∈o.take (iM o x.2 o.length) ∨ y∈o.drop (iM o x.2 o.length):=by rw [←List.mem_append,e]
  rw [List.mem_append,List.mem_cons,this]
  constructor
  ·rintro (h1 | h1 | h1)
   ·exact .inr (.inl h1)
   ·exact .inl h1
   ·exact .inr (.inr h1)
  ·rintro (h1 | h1 | h1)
   ·exact .inr (.inl h1)
   ·exact .inl h1
   ·exact .inr (.inr h1)
theorem rT (l:List St) (it:Int):∀(xs done:List Int) (o:List Rk),Gq (done++xs)→gl o→(∀x:Rk,x∈o ↔ x.1∈done∧x.2=aN x.1 it l∧x.2 ≠ 0∧x.1<1048576) →
  gl (xs.foldl (lz l it) o)∧∀x:Rk,x∈xs.foldl (lz l it) o ↔ x.1∈done++xs∧x.2=aN x.1 it l∧x.2 ≠ 0∧x.1<1048576
 | [],done,o,_,ho,hm=>by rw [List.append_nil]; exact ⟨ho,hm⟩
 | a::r,done,o,hi,ho,hm=>by
  have aK:∀y∈done,y<a:=by
   unfold Gq at hi
   rw [List.pairwise_append] at hi
   exact fun y hy=>hi.2.2 y hy a List.mem_cons_self
  have uB:Gq ((done++[a])++r):=by rw [List.append_assoc]; exact hi
  rw [List.foldl_cons,show done++a::r=(done++[a])++r by rw [List.append_assoc]; rfl]
  by_cases hc:aN a it l=0 ∨ 1048576≤a
  ·have:lz l it o a=o:=by unfold lz; rw [if_pos hc]
   rw [this]
   refine rT l it r (done++[a]) o uB ho fun x=>?_
   rw [hm,List.mem_append,List.mem_singleton]
   constructor
   ·rintro ⟨h1,h2⟩; exact ⟨.inl h1,h2⟩
   ·rintro ⟨h1 | h1,h2,h3,h4⟩
    ·exact ⟨h1,h2,h3,h4⟩
    ·rw [h1] at h2 h4; rw [h2] at h3
     rcases hc with h5 | h5
     ·exact absurd h5 h3
     ·omega
  ·have:lz l it o a=j4 o (a,aN a it l):=by unfold lz; rw [if_neg hc]
   rw [this]
   rw [not_or] at hc
   obtain ⟨h1,h2⟩:=J2 (x:=(a,aN a it l)) ho fun y hy=>aK _ ((hm y).1 hy).1
   refine rT l it r (done++[a]) _ uB h1 fun x=>?_
   rw [h2,hm,List.mem_append,List.mem_singleton]
   constructor
   ·rintro (rfl | ⟨h3,h4⟩)
    ·exact ⟨.inr rfl,rfl,hc.1,by omega⟩
    ·exact ⟨.inl h3,h4⟩
   ·rintro ⟨h3 | h3,h4,h5,h6⟩
    ·exact .inr ⟨h3,h4,h5,h6⟩
    ·left; exact Prod.ext h3 (by rw [h4,h3])
theorem Rl.XU {s:Vs} {S:SS} {N:Nat} {v:RV} (h:Rl s S N v) {i:Nat} (hi:i<4):(s.rk.getD i (true,[])).2=DA v.steps i:=by
 obtain ⟨h1,h2⟩:=rT v.steps (i:Int) (bp v.steps) [] [] (by simpa using n6 v.steps) List.Pairwise.nil (fun x=>by simp)
 obtain ⟨g1,g2,g3⟩:=h.ok.bK.rk i hi
 refine DO g2 h1 fun x=>?_
 rw [g3,show DA v.steps i=(bp v.steps).foldl (lz v.steps i) [] from rfl,h2,List.nil_append]
 obtain ⟨a,n⟩:=x
 simp only
 constructor
 ·rintro ⟨h3,h4⟩
  have h5:=h.ok.bK.pos _ (dM h4)
  simp only at h5
  have h6:=h.hold a (i:Int) h5.1
  unfold hv at h6
  rw [h4] at h6
  simp only [Option.getD_some] at h6
  refine ⟨?_,h6,by omega,h3⟩
  apply Classical.byContradiction
  intro h9
  rw [n7 (by omega) h9] at h6; omega
 ·rintro ⟨h3,h4,h5,h6⟩
  have ha:=((lD _ _).1 h3).1
  refine ⟨h6,?_⟩
  rw [←h.hold a (i:Int) (by omega)] at h4
  have:=(h.ok.bK.Ah (a,(i:Int))).2.2.1 (by rw [←h4]; exact h5)
  rw [this,←h4]
theorem Rl.top {s:Vs} {S:SS} {N:Nat} {v:RV} (h:Rl s S N v) (it n:Int):Dv s it n=O3 v.steps it n:=by
 unfold Dv O3
 split
 ·rename_i hc
  by_cases hn:n≤0
  ·rw [show n.toNat=0 by omega]; rfl
  ·have jR:it<0 ∨ 4≤it:=by omega
   obtain ⟨h1,h2⟩:=rT v.steps it (bp v.steps) [] [] (by simpa using n6 v.steps) List.Pairwise.nil (fun x=>by simp)
   have:DA v.steps it=[]:=by
    rw [List.eq_nil_iff_forall_not_mem]
    intro x hx
    have:=(h2 x).1 hx
    rw [h.U6 jR] at this
    exact this.2.2.1 this.2.1
   rw [this,List.take_nil]
 ·rename_i hc
  rw [not_or,not_or] at hc
  obtain ⟨i,rfl⟩:=Int.eq_ofNat_of_zero_le (show 0≤it by omega)
  rw [Int.toNat_natCast,h.XU (by omega)]
def U7 (it:Int) (p:Ga) (q:Int × Int × Int × Int):Ga:=if q.1=it then ⟨p.bS+q.2.2.1,p.cH+q.2.2.2,q.2.2.2.tdiv q.2.2.1⟩ else p
theorem D3 (coin thr it:Int):∀(l:List St) (p:Ga),l.foldl (dS coin thr it) p=(lC coin thr l).foldl (U7 it) p
 | [],_=>rfl
 | s::r,p=>by
  rw [List.foldl_cons,D3 coin thr it r]
  unfold lC
  by_cases h:(br coin s && decide (thr<s.tick))=true
  ·rw [List.filter_cons_of_pos (p:=fun x=>br coin x && decide (thr<x.tick)) h,List.map_cons,List.foldl_cons]
   congr 1
   simp at h
   unfold dS U7 U0
   simp [h.1,h.2]
  ·rw [List.filter_cons_of_neg (p:=fun x=>br coin x && decide (thr<x.tick)) h]
   congr 1
   unfold dS
   rw [if_neg]
   rintro ⟨h1,_,h2⟩
   simp [h1,h2] at h
def MY (p:Ga) (x:Sl):Ga:=⟨p.bS+x.n,p.cH+x.c,x.c.tdiv x.n⟩
theorem MZ (it:Nat):∀(S:SS) (p:Ga),(S.map BL).foldl (U7 it) p=(bI S it).foldl MY p
 | [],_=>rfl
 | q::r,p=>by
  rw [List.map_cons,List.foldl_cons,MZ it r]
  unfold bI
  by_cases h:q.1=it
  ·rw [List.filter_cons_of_pos (by simpa using h),List.map_cons,List.foldl_cons]
   congr 1
   unfold U7 BL MY
   rw [if_pos (by simp only; rw [h])]
  ·rw [List.filter_cons_of_neg (by simpa using h)]
   congr 1
   unfold U7 BL
   rw [if_neg (by simp only; omega)]
theorem Gx (S:SS) (it:Nat) (q:Int→Bool):bI (S.filter fun p=>q p.2.tick) it=(bI S it).filter fun x=>q x.tick:=by
 unfold bI
 rw [List.filter_map,List.filter_filter,List.filter_filter]
 congr 1
 refine List.filter_congr fun x _=>?_
 simp [Bool.and_comm]
theorem xC:∀(r:List Sl) (x:Sl) (p:Ga),ku (x::r) →
  (x::r).foldl MY p=⟨p.bS+(((x::r).getLast (by simp)).bS - (x.bS - x.n)),p.cH+(((x::r).getLast (by simp)).cH - (x.cH - x.c)),((x::r).getLast (by simp)).c.tdiv ((x::r).getLast (by simp)).n⟩
 | [],x,p,_=>by
  show MY p x=_
  unfold MY
  simp only [List.getLast_singleton,Ga.mk.injEq,and_true]
  omega
 | y::r,x,p,h=>by
  have h1:=h 0 x y rfl rfl
  have h2:ku (y::r):=fun j a b ha hb=>h (j+1) a b ha hb
  rw [List.foldl_cons,xC r y (MY p x) h2]
  rw [List.getLast_cons (List.cons_ne_nil y r)]
  unfold MY
  simp only [Ga.mk.injEq,and_true]
  omega
theorem zU:∀(r:List Sl) (p:Ga),(∀x∈r,1≤x.n)→p.bS+r.length≤(r.foldl MY p).bS
 | [],p,_=>by simp
 | x::r,p,h=>by
  have:=zU r (MY p x) fun y hy=>h y (List.mem_cons_of_mem _ hy)
  have h1:=h x List.mem_cons_self
  rw [List.foldl_cons,List.length_cons]
  unfold MY at this ⊢
  simp only at this
  omega
theorem D4:∀{l:List Sl} (_:l.Pairwise fun x y=>x.tick≤y.tick) (thr:Int),∃k,k≤l.length∧(∀i y,i<k→l[i]?=some y→¬ thr<y.tick)∧(∀i y,k≤i→l[i]?=some y→thr<y.tick)∧l.filter (fun x=>decide (thr<x.tick))=l.drop k
 | [],_,thr=>⟨0,Nat.le_refl _,fun i y h=>by omega,fun i y _ h=>by simp at h,rfl⟩
 | x::r,h,thr=>by
  rw [List.pairwise_cons] at h
  by_cases hx:thr<x.tick
  ·refine ⟨0,Nat.zero_le _,fun i y h=>by omega,fun i y _ hy=>?_,?_⟩
   ·rcases List.mem_cons.1 (List.mem_of_getElem? hy) with rfl | hy
    ·exact hx
    ·have:=h.1 y hy; omega
   ·rw [List.drop_zero,List.filter_eq_self.2]
    intro y hy
    rcases List.mem_cons.1 hy with rfl | hy
    ·simpa using hx
    ·have:=h.1 y hy; simp; omega
  ·obtain ⟨k,h1,h2,h3,h4⟩:=D4 h.2 thr
   refine ⟨k+1,by rw [List.length_cons]; omega,fun i y hi hy=>?_,fun i y hi hy=>?_,?_⟩
   ·match i,hy with
    | 0,hy=>simp at hy; subst hy; exact hx
    | i+1,hy=>exact h2 i y (by omega) (by simpa using hy)
   ·match i,hi,hy with
    | i+1,hi,hy=>exact h3 i y (by omega) (by simpa using hy)
   ·rw [List.filter_cons_of_neg (by simpa using hx),h4,List.drop_succ_cons]
def rU (v:RV) (it:Int) (thr:Int):List Int × Bool :=
 if (pd v.coin thr it v.steps).bS=0 then ([0,0,0,0,0],false) else ([it,v.coin,(pd v.coin thr it v.steps).bS,(pd v.coin thr it v.steps).cH,(pd v.coin thr it v.steps).last],true)
theorem Rl.U8 {s:Vs} {S:SS} {N:Nat} {v:RV} (h:Rl s S N v) (it:Nat) {tick:Int} (ht:s.last≤tick) :
  ∃k,k≤(bI S it).length∧(∀i y,i<k→(bI S it)[i]?=some y→¬ tick - s.ab<y.tick)∧(∀i y,k≤i→(bI S it)[i]?=some y→tick - s.ab<y.tick)∧j8 s it (bI S it) k=rU v it (tick - s.ab):=by
 have XW:(bI S it).Pairwise fun x y=>x.tick≤y.tick:=by
  unfold bI
  rw [List.pairwise_map]
  exact (h.ok.xx.ord).filter _
 obtain ⟨k,h1,h2,h3,h4⟩:=D4 XW (tick - s.ab)
 refine ⟨k,h1,h2,h3,?_⟩
 have hp:pd v.coin (tick - s.ab) it v.steps=((bI S it).drop k).foldl MY ⟨0,0,0⟩:=by
  unfold pd
  rw [D3,h.coin,←ub s.coin (t:=s.last - s.ab) (u:=tick - s.ab) (by omega),←h.SJ,←n9,MZ,Gx S it (fun t=>decide (tick - s.ab<t)),h4]
 unfold j8 rU
 rw [hp]
 have hch:=h.ok.xx.chain it
 by_cases hk:k=(bI S it).length
 ·rw [if_pos hk,hk,List.drop_length]; rfl
 ·have aK:k<(bI S it).length:=by omega
  have aB:=List.drop_eq_getElem_cons aK
  have fC:ku ((bI S it).drop k):=fun j x y hx hy=>hch (k+j) x y (by rw [List.getElem?_drop] at hx; exact hx) (by rw [List.getElem?_drop] at hy; exact hy)
  have eQ:=zU ((bI S it).drop k) ⟨0,0,0⟩ fun x hx=>(h.ok.xx.val _ (BH (List.mem_of_mem_drop hx))).1
  rw [List.length_drop] at eQ
  simp only at eQ
  rw [if_neg hk,if_neg (by omega)]
  have bJ:(bI S it).drop k ≠ []:=by rw [aB]; exact List.cons_ne_nil _ _
  have kX:(bI S it).getD ((bI S it).length - 1) Sl.zero=((bI S it).drop k).getLast bJ:=by
   rw [List.getLast_eq_getElem,List.getElem_drop,List.getD_eq_getElem?_getD,List.getElem?_eq_getElem (by omega)]
   simp only [Option.getD_some,List.length_drop]
   congr 1; omega
  have XX:(bI S it).getD k Sl.zero=(bI S it)[k]:=by rw [List.getD_eq_getElem?_getD,List.getElem?_eq_getElem aK]; rfl
  rw [kX,XX]
  have hcf:=xC ((bI S it).drop (k+1)) (bI S it)[k] ⟨0,0,0⟩ (by rw [←aB]; exact fC)
  have oH:∀(l r:List Sl) (h1:l ≠ []) (h2:r ≠ []),l=r→l.getLast h1=r.getLast h2:=by intro l r h1 h2 h; subst h; rfl
  rw [oH _ _ bJ (List.cons_ne_nil _ _) aB,aB,hcf,h.coin]
  simp
end Go.Proofs.YtpbdohkbiklflaaGreatDoor
namespace Go.Proofs.YtpbdohkbiklflaaGreatDoor
open Go.TM
variable [cG]
set_option maxRecDepth 100000
def rV (s:Vs) (v:RV):aj:=vK false s++[(6,.tree 0 0 (.cB (QF v)))]
def rW:List Int:=[0,1,2,3,4,6,9,12,27,1048577,3145731,-1]
def U9 (s:Vs) (v:RV) (i:Nat):aY:=⟨7,[(0,.ptr 0 0),(1,.own 6 0 0 []),(5,.dv (eE rW)),(6,.dv (I ((i:Int) - 1)))],rV s v⟩
def SN (s:Vs) (v:RV) (i:Nat) (k:Nat):aY:=⟨7,[(0,.ptr 0 0),(1,.own 6 0 0 []),(5,.dv (eE rW)),(6,.dv (I ((i:Int) - 1))),(7,.dv (I k))],rV s v⟩
def SO (s:Vs) (v:RV) (i:Nat) (n:Nat):aY:=⟨7,[(0,.ptr 0 0),(1,.own 6 0 0 []),(5,.dv (eE rW)),(6,.dv (I ((i:Int) - 1))),(8,.dv (I ((n:Int) - 1)))],rV s v⟩
set_option maxHeartbeats 4000000 in
theorem tg {s:Vs} {S:SS} {N:Nat} {v:RV} (h:Rl s S N v) (hN:N≤40):aO Tryz.prog 30 [.ptr 0 0,.own 6 0 0 []] 7 (rV s v) 0 [.dv (B true)] (rV s v):=by
 have Gd:=h.SK (by omega)
 have Pj:=h.ok.Pg
 have Va:=h.ok.Pf
 have Zc:=h.ok.bK.tl
 have hHl:=h.ok.bK.len
 have hSl:=h.ok.xx.len
 have Vb:s.bH.length=S.length:=by rw [h.ok.xx.n3.bH,List.length_map]
 have aU:=s6 s (by omega)
 have oz:=Gf v Gd (by have:=h.J1; rw [←h.last,h.ab]; omega)
 rw [h.size] at oz
 have JE:∀x,x∈s.rk→x.2.length≤1000∧(x.1=true→x.2=[]):=fun x hx=>by
  obtain ⟨i,hi⟩:=List.getElem?_of_mem hx
  have hl:i<4:=by have:=(List.getElem?_eq_some_iff.1 hi).1; rw [h.ok.bK.rl] at this; exact this
  have h1:=h.ok.bK.rk i hl
  rw [List.getD_eq_getElem?_getD,hi] at h1
  have h2:=BC h1
  exact ⟨by simp only [Option.getD_some] at h2; omega,h1.1⟩
 have Ix:∀it n,(Dv s it n).length≤1000000:=fun it n=>by
  unfold Dv
  split
  ·simp
  ·rename_i hc
   have hl:it.toNat<s.rk.length:=by rw [h.ok.bK.rl]; omega
   have h1:=(JE _ (List.getElem_mem hl)).1
   rw [List.length_take,List.getD_eq_getElem?_getD,List.getElem?_eq_getElem hl]
   simp only [Option.getD_some]
   omega
 refine aJ aD mixed (af _) (ai _) Tryz.func30 rfl rfl (by kernel_rfl) ?_
 refine .inr ⟨[0,1,2,3,4,5],[.ptr 0 0],vK false s,0,_,_,aU,by kernel_rfl,by kernel_rfl,⟨rfl,tv⟩,⟨⟨rf,rf,rf,rf,rf,rf,rfl,rfl,rfl,rfl,rfl,tv⟩,⟨rfl,rfl⟩,⟨rfl,rfl⟩,⟨rfl,rfl⟩,⟨rfl,rfl⟩,⟨rfl,rfl⟩,tv⟩,?_⟩
 refine .inl (.inl ⟨_,fun _=>oz.ok,rfl,?_⟩)
 refine ⟨fun h9=>by simp at h9,fun _=>?_⟩
 refine .inl ⟨rW.map I,rfl,⟨rf,rf,rf,rf,rf,rf,rf,rf,rf,rf,rf,rf,tv⟩,(by simp [rW]; exact ⟨rfl,rfl,rfl,rfl,rfl,rfl,rfl,rfl,rfl,rfl,rfl,rfl⟩),?_⟩
 refine ⟨Nat,U9 s v,fun i=>i≤6,fun i=>6 - i,0,fun _=>rfl,⟨⟨rfl,rfl,rf,rf,tv⟩,⟨⟨rf,rf,rf,rf,rf,rf,rfl,rfl,rfl,rfl,rfl,tv⟩,⟨rfl,rfl⟩,⟨rfl,rfl⟩,⟨rfl,rfl⟩,⟨rfl,rfl⟩,⟨rfl,rfl⟩,⟨rfl,rfl⟩,tv⟩,rfl,rfl⟩,by omega,?_⟩
 rintro i hi
 refine ⟨fun h9=>?_,fun h9=>?_⟩
 ·have hi6:i<6:=by have:=of_decide_eq_true h9; omega
  have Vc:=F5 s Zc ((i:Int) - 1)
  rw [h.total] at Vc
  refine .inr ⟨[0,1,2,3,4,5],[.ptr 0 0,.dv (I ((i:Int) - 1))],vK false s,0,_,_,Vc,by kernel_rfl,by kernel_rfl,⟨rfl,rf,tv⟩,⟨⟨rf,rf,rf,rf,rf,rf,rfl,rfl,rfl,rfl,rfl,tv⟩,⟨rfl,rfl⟩,⟨rfl,rfl⟩,⟨rfl,rfl⟩,⟨rfl,rfl⟩,⟨rfl,rfl⟩,tv⟩,?_⟩
  refine .inl (.inl ⟨_,fun _=>(JL v Gd ((i:Int) - 1)).ok,rfl,?_⟩)
  refine ⟨fun h9=>by simp at h9,fun _=>?_⟩
  refine ⟨Nat,SN s v i,fun k=>k≤12,fun k=>12 - k,0,fun _=>rfl,⟨⟨rfl,rfl,rf,rf,rf,tv⟩,⟨⟨rf,rf,rf,rf,rf,rf,rfl,rfl,rfl,rfl,rfl,tv⟩,⟨rfl,rfl⟩,⟨rfl,rfl⟩,⟨rfl,rfl⟩,⟨rfl,rfl⟩,⟨rfl,rfl⟩,⟨rfl,rfl⟩,tv⟩,rfl,rfl⟩,by omega,?_⟩
  rintro k hk
  refine ⟨fun h9=>?_,fun h9=>?_⟩
  ·have XY:k<12:=by
    have h9:decide ((k:Int)<12)=true:=h9
    have:=of_decide_eq_true h9; omega
   have hka:k<rW.length:=XY
   have fJ:(rW.map I)[((k:Int)).toNat]?=some (I rW[k]):=by rw [Int.toNat_natCast,List.getElem?_map,List.getElem?_eq_getElem hka]; rfl
   generalize rW[k]=a at fJ
   have Kw:cr Tryz.prog 59 [DD v,I a,I ((i:Int) - 1)] [I (oc v.steps a ((i:Int) - 1))]:=MK v Gd a ((i:Int) - 1)
   have hh:=JF s a ((i:Int) - 1)
   rw [h.holding] at hh
   refine ⟨I a,fun _=>⟨by omega,fJ⟩,?_⟩
   refine .inr ⟨[0,1,2,3,4,5],[.ptr 0 0,.dv (I a),.dv (I ((i:Int) - 1))],vK false s,0,_,_,hh,by kernel_rfl,by kernel_rfl,⟨rfl,rf,rf,tv⟩,⟨⟨rf,rf,rf,rf,rf,rf,rfl,rfl,rfl,rfl,rfl,tv⟩,⟨rfl,rfl⟩,⟨rfl,rfl⟩,⟨rfl,rfl⟩,⟨rfl,rfl⟩,⟨rfl,rfl⟩,tv⟩,?_⟩
   refine ⟨I a,fun _=>⟨by omega,fJ⟩,?_⟩
   refine .inl (.inl ⟨_,fun _=>Kw.ok,rfl,?_⟩)
   refine ⟨by kernel_rfl,fun h9=>?_,fun _=>?_⟩
   ·have h9:(oc v.steps a ((i:Int) - 1) != oc v.steps a ((i:Int) - 1))=true:=h9
    simp at h9
   exact ⟨fun _=>⟨by omega,by omega⟩,k+1,⟨⟨rfl,rfl,rf,rf,au (by omega),tv⟩,⟨⟨rf,rf,rf,rf,rf,rf,rfl,rfl,rfl,rfl,rfl,tv⟩,⟨rfl,rfl⟩,⟨rfl,rfl⟩,⟨rfl,rfl⟩,⟨rfl,rfl⟩,⟨rfl,rfl⟩,⟨rfl,rfl⟩,tv⟩,rfl,rfl⟩,by omega,by show 12 - (k+1)<12 - k; omega⟩
  ·refine ⟨Nat,SO s v i,fun n=>n≤5,fun n=>5 - n,0,fun _=>rfl,⟨⟨rfl,rfl,rf,rf,rf,tv⟩,⟨⟨rf,rf,rf,rf,rf,rf,rfl,rfl,rfl,rfl,rfl,tv⟩,⟨rfl,rfl⟩,⟨rfl,rfl⟩,⟨rfl,rfl⟩,⟨rfl,rfl⟩,⟨rfl,rfl⟩,⟨rfl,rfl⟩,tv⟩,rfl,rfl⟩,by omega,?_⟩
   rintro n hn
   refine ⟨fun h9=>?_,fun h9=>?_⟩
   ·have hn5:n<5:=by have:=of_decide_eq_true h9; omega
    refine .inr ⟨[0,1,2,3,4,5],[.ptr 0 0,.dv (I ((i:Int) - 1)),.dv (I ((n:Int) - 1))],vK false s,0,_,_,w9 s h.ok.bK.rl JE ((i:Int) - 1) ((n:Int) - 1) (by omega),by kernel_rfl,by kernel_rfl,⟨rfl,rf,rf,tv⟩,⟨⟨rf,rf,rf,rf,rf,rf,rfl,rfl,rfl,rfl,rfl,tv⟩,⟨rfl,rfl⟩,⟨rfl,rfl⟩,⟨rfl,rfl⟩,⟨rfl,rfl⟩,⟨rfl,rfl⟩,tv⟩,?_⟩
    refine .inl ⟨_,fun _=>(xl _ (Ix ((i:Int) - 1) ((n:Int) - 1))).ok,?_⟩
    refine .inr ⟨[6],[.own 0 0 0 [],.dv (I ((i:Int) - 1)),.dv (I ((n:Int) - 1))],DI v,0,_,_,xi v Gd ((i:Int) - 1) ((n:Int) - 1) (by omega),by kernel_rfl,by kernel_rfl,⟨rfl,rf,rf,tv⟩,⟨⟨rfl,rfl⟩,tv⟩,?_⟩
    rw [←h.top ((i:Int) - 1) ((n:Int) - 1)]
    refine .inl ⟨_,fun _=>(xj _ (Ix ((i:Int) - 1) ((n:Int) - 1))).ok,?_⟩
    refine ⟨fun h9=>by simp at h9,fun _=>?_⟩
    exact ⟨fun _=>⟨by omega,by omega⟩,n+1,⟨⟨rfl,rfl,rf,rf,au (by omega),tv⟩,⟨⟨rf,rf,rf,rf,rf,rf,rfl,rfl,rfl,rfl,rfl,tv⟩,⟨rfl,rfl⟩,⟨rfl,rfl⟩,⟨rfl,rfl⟩,⟨rfl,rfl⟩,⟨rfl,rfl⟩,⟨rfl,rfl⟩,tv⟩,rfl,rfl⟩,by omega,by show 5 - (n+1)<5 - n; omega⟩
   ·exact ⟨fun _=>⟨by omega,by omega⟩,i+1,⟨⟨rfl,rfl,rf,au (by omega),tv⟩,⟨⟨rf,rf,rf,rf,rf,rf,rfl,rfl,rfl,rfl,rfl,tv⟩,⟨rfl,rfl⟩,⟨rfl,rfl⟩,⟨rfl,rfl⟩,⟨rfl,rfl⟩,⟨rfl,rfl⟩,⟨rfl,rfl⟩,tv⟩,rfl,rfl⟩,by omega,by show 6 - (i+1)<6 - i; omega⟩
 refine .inr ⟨[0,1,2,3,4,5],[.ptr 0 0,.dv (I (1)),.dv (I (100))],vK false s,0,_,_,w9 s h.ok.bK.rl JE (1) (100) (by omega),by kernel_rfl,by kernel_rfl,⟨rfl,rf,rf,tv⟩,⟨⟨rf,rf,rf,rf,rf,rf,rfl,rfl,rfl,rfl,rfl,tv⟩,⟨rfl,rfl⟩,⟨rfl,rfl⟩,⟨rfl,rfl⟩,⟨rfl,rfl⟩,⟨rfl,rfl⟩,tv⟩,?_⟩
 refine .inl ⟨_,fun _=>(xl _ (Ix (1) (100))).ok,?_⟩
 refine .inr ⟨[6],[.own 0 0 0 [],.dv (I (1)),.dv (I (100))],DI v,0,_,_,xi v Gd (1) (100) (by omega),by kernel_rfl,by kernel_rfl,⟨rfl,rf,rf,tv⟩,⟨⟨rfl,rfl⟩,tv⟩,?_⟩
 rw [←h.top (1) (100)]
 refine .inl ⟨_,fun _=>(xj _ (Ix (1) (100))).ok,?_⟩
 exact ⟨_,_,⟨rfl,rfl⟩,by kernel_rfl,⟨rf,tv⟩,⟨⟨rf,rf,rf,rf,rf,rf,rfl,rfl,rfl,rfl,rfl,tv⟩,⟨rfl,rfl⟩,⟨rfl,rfl⟩,⟨rfl,rfl⟩,⟨rfl,rfl⟩,⟨rfl,rfl⟩,⟨rfl,rfl⟩,tv⟩⟩
end Go.Proofs.YtpbdohkbiklflaaGreatDoor
