import Derived.Test.YtpbdohkbiklflaaGreatDoorSM22
import Derived.Test.YtpbdohkbiklflaaGreatDoorSM25
import Derived.Test.YtpbdohkbiklflaaGreatDoorSM26
import Derived.Test.YtpbdohkbiklflaaGreatDoorSM23
set_option linter.unusedVariables false
set_option linter.unusedSimpArgs false
set_option linter.unusedSectionVars false
namespace Go.Proofs.YtpbdohkbiklflaaGreatDoor
open Go.TM
variable [cQ]
set_option maxRecDepth 100000
theorem Gg:bg Tryz.prog 32 [.dv (.fn 33 [])] 0 [] 1 [.ptr 0 0] [(0,.cells [.dv (.fn 33 []),.dv .aD])]:=by
 refine bk aW mixed (aw _) (ay _) Tryz.func32 rfl rfl (by kernel_rfl) ?_
 exact ⟨_,_,⟨rfl,rfl⟩,by kernel_rfl,⟨rfl,tv⟩,⟨rf,rf,tv⟩,tv⟩
theorem Gi:bg Tryz.prog 32 [.dv (.fn 33 [])] 0 [] 1 [.own 0 0 0 []] [(0,.tree 0 0 (dP true []))] :=
 Ds (ds:=[.fn 33 [],.aD]) Gg
def Lk (aZ au aU:Int):Vs:=⟨aZ,au,aU,0,0,[],[0,0,0,0],[(true,[]),(true,[]),(true,[]),(true,[])],[(true,[]),(true,[]),(true,[]),(true,[])],[]⟩
def QA (aZ:Int):Bool:=bif bif decide (aZ<0) then true else decide (4≤aZ) then true else !(decide (aZ=1) || decide (aZ=3))
def Ll (au aU:Int):Bool:=bif bif bif decide (au<1) then true else decide (1099511627776<au) then true else decide (aU<0) then true else decide (1048576<aU)
theorem Lm (n:ByteArray) (aZ:Int) (h:0≤aZ∧aZ<4):∃nm,(uR n)[aZ.toNat]?=some (.agg [.str nm,B false,B false,B (decide (aZ=1) || decide (aZ=3)),I 0,I 0,I 0]):=by
 obtain h | h | h | h:aZ=0 ∨ aZ=1 ∨ aZ=2 ∨ aZ=3:=by omega
 all_goals (subst h; exact ⟨_,rfl⟩)
theorem Ol (n:ByteArray) (aZ:Int):∃nm,bw (bif decide (aZ<0) then true else decide (((uR n).length:Int)≤aZ)) false=true→0≤aZ∧(uR n)[aZ.toNat]?=some (.agg [.str nm,B false,B false,B (decide (aZ=1) || decide (aZ=3)),I 0,I 0,I 0]):=by
 by_cases h:0≤aZ∧aZ<4
 ·obtain ⟨nm,hn⟩:=Lm n aZ h
  exact ⟨nm,fun _=>⟨h.1,hn⟩⟩
 ·refine ⟨gV,fun hb=>absurd hb ?_⟩
  have:(bif decide (aZ<0) then true else decide (((uR n).length:Int)≤aZ))=true:=by
   show (bif decide (aZ<0) then true else decide ((4:Int)≤aZ))=true
   rw [Bool.cond_true_left,Bool.or_eq_true,decide_eq_true_eq,decide_eq_true_eq]; omega
  rw [this]; simp [bw]
theorem Tc:(nth tab (nth tab 76).elem).bytes=8:=rfl
def Uo (aZ au aU:Int):List AV:=[.dv (I 4),.dv (I aZ),.dv (I au),.dv (I aU),.dv (I 0),.dv (I 0),.own 1 0 0 [],.own 2 0 0 [],.own 5 0 0 []]
def QB (aZ au aU:Int) (j:Nat):bN:=⟨6,[(11,.ptr 4 0),(68,.dv (I 4)),(69,.dv (I j))],[(1,.tree 0 0 (.omap dL [])),(2,.tree 0 0 (.ar 1 [I 0,I 0,I 0,I 0])),(3,.tree 0 0 (.ar 1 [.aD,.aD,.aD,.aD])),(4,.cells (Uo aZ au aU++[.own 3 0 0 [],.dv .aD])),(5,.tree 0 0 (.ar 1 (List.replicate j (dP true []))))]⟩
def V5 (aZ au aU:Int):af:=[(1,.tree 0 0 (.omap dL [])),(2,.tree 0 0 (.ar 1 [I 0,I 0,I 0,I 0])),(3,.tree 0 0 (.ar 1 [.aD,.aD,.aD,.aD])),(4,.cells (Uo aZ au aU++[.own 3 0 0 [],.own 6 0 0 []])),(5,.tree 0 0 (.ar 1 (List.replicate 4 (dP true [])))),(6,.tree 0 0 (.ar 1 []))]
set_option maxHeartbeats 4000000 in
theorem ri (aZ au aU:Int) (h:QA aZ=false) (h2:Ll au aU=false):bg Tryz.prog 11 [wc (FR gV),.dv (I aZ),.dv (I au),.dv (I aU)] 0 [] 7 [.ptr 4 0,.dv (I 0)] (V5 aZ au aU):=by
 refine bk aW mixed (aw _) (ay _) Tryz.func11 rfl rfl (by kernel_rfl) ?_
 refine .inl ⟨_,fun _=>Dr.ok,?_⟩
 refine ⟨fun h9=>by simp at h9,fun _=>?_⟩
 repeat first | refine ⟨id,?_⟩ | refine ⟨fun _ h=>dB h,?_⟩ | refine ⟨fun _ h=>aA h,?_⟩ | refine ⟨fun h=>⟨h,fun h2=>bW h h2⟩,?_⟩ | refine ⟨fun h=>⟨h,fun h2=>br h h2⟩,?_⟩
 obtain ⟨nm,PE⟩:=Ol gV aZ
 refine ⟨_,PE,?_⟩
 repeat first | refine ⟨id,?_⟩ | refine ⟨fun _ h=>dB h,?_⟩ | refine ⟨fun _ h=>aA h,?_⟩ | refine ⟨fun h=>⟨h,fun h2=>bW h h2⟩,?_⟩ | refine ⟨fun h=>⟨h,fun h2=>br h h2⟩,?_⟩
 refine ⟨fun hc=>?_,fun _=>?_⟩
 ·have:QA aZ=true:=hc
  rw [h] at this; cases this
 repeat first | refine ⟨id,?_⟩ | refine ⟨fun _ h=>dB h,?_⟩ | refine ⟨fun _ h=>aA h,?_⟩ | refine ⟨fun h=>⟨h,fun h2=>bW h h2⟩,?_⟩ | refine ⟨fun h=>⟨h,fun h2=>br h h2⟩,?_⟩
 refine ⟨fun hc=>?_,fun _=>?_⟩
 ·have:Ll au aU=true:=hc
  rw [h2] at this; cases this
 refine ⟨dL,I 0,⟨rf,tv⟩,Int.natCast_nonneg _,Int.le_refl _,(by show (4:Int) * 8≤_; omega),(by show (4:Int)≤_; omega),false,(fun h=>by cases h),.aD,⟨rf,tv⟩,Int.natCast_nonneg _,Int.le_refl _,(by show (4:Int) * 24≤_; omega),(by show (4:Int)≤_; omega),false,(fun h=>by cases h),?_⟩
 refine ⟨by kernel_rfl,?_⟩
 refine ⟨Nat,QB aZ au aU,fun z=>z≤4,fun z=>4 - z,0,fun _=>rfl,?_⟩
 refine ⟨⟨⟨rfl,rf,rf,tv⟩,⟨⟨rfl,rfl⟩,⟨rfl,rfl⟩,⟨rfl,rfl⟩,⟨rf,rf,rf,rf,rf,rf,rfl,rfl,⟨rfl,rfl,rfl,rfl,1,rfl⟩,rfl,rf,tv⟩,⟨rfl,rfl,1,rfl⟩,tv⟩,rfl,rfl⟩,Nat.zero_le _,?_⟩
 rintro j hj
 refine ⟨fun aK=>?_,fun db=>?_⟩
 ·have aK:j<4:=by have:=of_decide_eq_true aK; omega
  refine .inr ⟨[],[.dv (.fn 33 [])],[],1,_,_,Gi,by kernel_rfl,by kernel_rfl,⟨rf,tv⟩,tv,?_⟩
  refine .inr (.inl ⟨[dP true []],rfl,⟨rfl,tv⟩,(by simp; rfl),?_⟩)
  refine .inr (.inr ⟨rfl,[dP true []],fK.refl _,(by rw [Tc,List.length_replicate]; simp; omega),(by rw [List.length_replicate]; simp; omega),?_⟩)
  exact ⟨by kernel_rfl,fun _=>⟨by omega,by omega⟩,j+1,⟨⟨rfl,rf,bq (by simp),tv⟩,⟨⟨rfl,rfl⟩,⟨rfl,rfl⟩,⟨rfl,rfl⟩,⟨rf,rf,rf,rf,rf,rf,rfl,rfl,rfl,rfl,rf,tv⟩,⟨rfl,by rw [List.replicate_succ']⟩,tv⟩,rfl,rfl⟩,by omega,by simp only; omega⟩
 ·have db:j=4:=by have:=of_decide_eq_false db; omega
  subst db
  exact ⟨_,_,⟨rfl,rfl⟩,by kernel_rfl,⟨rfl,rf,tv⟩,⟨rfl,rfl⟩,⟨rfl,rfl⟩,⟨rfl,rfl⟩,⟨rf,rf,rf,rf,rf,rf,rfl,rfl,rfl,rfl,⟨rfl,rfl,rfl,rfl,1,rfl⟩,tv⟩,⟨rfl,rfl⟩,⟨rfl,rfl,1,rfl⟩,tv⟩
end Go.Proofs.YtpbdohkbiklflaaGreatDoor
namespace Go.Proofs.YtpbdohkbiklflaaGreatDoor
open Go.TM
variable [cQ]
end Go.Proofs.YtpbdohkbiklflaaGreatDoor
namespace Go.Proofs.YtpbdohkbiklflaaGreatDoor
open Go.TM
variable [cQ]
set_option maxRecDepth 100000
def Om (s:Vs) (it:Nat) (tick:Int):af:=vK false s++[(6,.cells [.ptr 0 0]),(7,.cells [.dv (I tick)]),(8,.cells [.own 4 0 0 [.el it 0]])]
theorem Ln (s:Vs) (it:Nat) (tick:Int) (l:List Sl) (hs:(s.sl.map lI)[it]?=some (.ar 5 (l.map bO))) (i:Nat) (x:Sl) (hi:l[i]?=some x) (hb:-9223372036854775808≤tick - s.au∧tick - s.au≤9223372036854775807) :
  bg Tryz.prog 41 [.dv (I i),.ptr 8 0,.ptr 7 0,.ptr 6 0] 9 (Om s it tick) 0 [.dv (B (decide (tick - s.au<x.tick)))] (Om s it tick):=by
 have aK:i<l.length:=(List.getElem?_eq_some_iff.1 hi).1
 refine bk aW mixed (aw _) (ay _) Tryz.func41 rfl rfl (by kernel_rfl) ?_
 refine ⟨.ar 5 (l.map bO),fun _=>hs,?_⟩
 refine ⟨fun _=>⟨by omega,by rw [List.length_map]; omega⟩,?_⟩
 refine ⟨.ar 5 (l.map bO),fun _=>hs,?_⟩
 refine ⟨bO x,fun _=>by rw [List.getElem?_map,Int.toNat_natCast,hi]; rfl,?_⟩
 refine ⟨fun _=>⟨by omega,by omega⟩,?_⟩
 exact ⟨by kernel_rfl,_,_,⟨rfl,rfl⟩,by kernel_rfl,⟨rf,tv⟩,⟨rf,rf,rf,rf,rf,rf,rfl,rfl,rfl,rfl,rfl,tv⟩,⟨rfl,rfl⟩,⟨rfl,rfl⟩,⟨rfl,rfl⟩,⟨rfl,rfl⟩,⟨rfl,rfl⟩,⟨rfl,tv⟩,⟨rf,tv⟩,⟨rfl,tv⟩,tv⟩
theorem zg (s:Vs) (it:Nat) (tick:Int) (l:List Sl) (hs:(s.sl.map lI)[it]?=some (.ar 5 (l.map bO))) (k:Nat) (hk:k≤l.length) (hl:l.length≤1000) (hb:-9223372036854775808≤tick - s.au∧tick - s.au≤9223372036854775807)
  (h1:∀i y,i<k→l[i]?=some y→¬ tick - s.au<y.tick) (h2:∀i y,k≤i→l[i]?=some y→tick - s.au<y.tick) :
  bg Tryz.prog 40 [.dv (I l.length),.fn 41 [.ptr 8 0,.ptr 7 0,.ptr 6 0]] 9 (Om s it tick) 0 [.dv (I k)] (Om s it tick):=by
 refine bk aW mixed (aw _) (ay _) Tryz.func40 rfl rfl (by kernel_rfl) ?_
 refine ⟨Rq,IQ 41 [.ptr 8 0,.ptr 7 0,.ptr 6 0] 9 (Om s it tick),fun q=>q.i≤k∧k≤q.j∧q.j≤l.length,fun q=>q.j - q.i,⟨0,l.length⟩,fun _=>rfl,⟨⟨⟨rfl,rfl,rfl,rfl,tv⟩,rf,rf,tv⟩,⟨⟨rf,rf,rf,rf,rf,rf,rfl,rfl,rfl,rfl,rfl,tv⟩,⟨rfl,rfl⟩,⟨rfl,rfl⟩,⟨rfl,rfl⟩,⟨rfl,rfl⟩,⟨rfl,rfl⟩,⟨rfl,tv⟩,⟨rf,tv⟩,⟨rfl,tv⟩,tv⟩,rfl,rfl⟩,⟨Nat.zero_le _,hk,Nat.le_refl _⟩,?_⟩
 rintro q ⟨p1,p2,p3⟩
 refine ⟨fun aK=>?_,fun db=>?_⟩
 ·have aK:q.i<q.j:=by have:=of_decide_eq_true aK; simp only [Int.ofNat_lt] at this; exact this
  refine ⟨fun _=>⟨by omega,by omega⟩,?_⟩
  refine ⟨fun _=>by omega,?_⟩
  have hlen:(q.i+q.j) / 2<l.length:=by omega
  have bs:=List.getElem?_eq_getElem hlen
  refine .inr ⟨[0,1,2,3,4,5,6,7,8],[.dv (I ((q.i+q.j) / 2:Nat)),.ptr 8 0,.ptr 7 0,.ptr 6 0],Om s it tick,0,_,_,Ln s it tick l hs ((q.i+q.j) / 2) _ bs hb,by kernel_rfl,by kernel_rfl,⟨?_,rfl,rfl,rfl,tv⟩,⟨⟨rf,rf,rf,rf,rf,rf,rfl,rfl,rfl,rfl,rfl,tv⟩,⟨rfl,rfl⟩,⟨rfl,rfl⟩,⟨rfl,rfl⟩,⟨rfl,rfl⟩,⟨rfl,rfl⟩,⟨rfl,tv⟩,⟨rf,tv⟩,⟨rfl,tv⟩,tv⟩,?_⟩
  ·rw [ld (by omega)]; exact rf
  ·refine ⟨fun hb=>?_,fun hb=>?_⟩
   ·have cE:¬ tick - s.au<l[(q.i+q.j) / 2].tick:=by simpa using hb
    have N2:(q.i+q.j) / 2<k:=by
     rcases Nat.lt_or_ge ((q.i+q.j) / 2) k with h | h
     ·exact h
     ·exact absurd (h2 _ _ h bs) cE
    rw [ld (by omega)]
    refine ⟨fun _=>⟨by omega,by omega⟩,?_⟩
    exact ⟨⟨(q.i+q.j) / 2+1,q.j⟩,⟨⟨⟨rfl,rfl,rfl,rfl,tv⟩,bq (by simp),rf,tv⟩,⟨⟨rf,rf,rf,rf,rf,rf,rfl,rfl,rfl,rfl,rfl,tv⟩,⟨rfl,rfl⟩,⟨rfl,rfl⟩,⟨rfl,rfl⟩,⟨rfl,rfl⟩,⟨rfl,rfl⟩,⟨rfl,tv⟩,⟨rf,tv⟩,⟨rfl,tv⟩,tv⟩,rfl,rfl⟩,⟨N2,p2,p3⟩,by simp only; omega⟩
   ·have cE:tick - s.au<l[(q.i+q.j) / 2].tick:=by simpa using hb
    have N3:k≤(q.i+q.j) / 2:=by
     rcases Nat.lt_or_ge ((q.i+q.j) / 2) k with h | h
     ·exact absurd cE (h1 _ _ h bs)
     ·exact h
    rw [ld (by omega)]
    exact ⟨⟨q.i,(q.i+q.j) / 2⟩,⟨⟨⟨rfl,rfl,rfl,rfl,tv⟩,rf,rf,tv⟩,⟨⟨rf,rf,rf,rf,rf,rf,rfl,rfl,rfl,rfl,rfl,tv⟩,⟨rfl,rfl⟩,⟨rfl,rfl⟩,⟨rfl,rfl⟩,⟨rfl,rfl⟩,⟨rfl,rfl⟩,⟨rfl,tv⟩,⟨rf,tv⟩,⟨rfl,tv⟩,tv⟩,rfl,rfl⟩,⟨p1,N3,by simp only; omega⟩,by simp only; omega⟩
 ·have db:¬ q.i<q.j:=by have:=of_decide_eq_false db; omega
  have xm:q.i=k:=by omega
  exact ⟨_,_,⟨rfl,rfl⟩,by kernel_rfl,⟨bq (by rw [xm]),tv⟩,⟨rf,rf,rf,rf,rf,rf,rfl,rfl,rfl,rfl,rfl,tv⟩,⟨rfl,rfl⟩,⟨rfl,rfl⟩,⟨rfl,rfl⟩,⟨rfl,rfl⟩,⟨rfl,rfl⟩,⟨rfl,tv⟩,⟨rf,tv⟩,⟨rfl,tv⟩,tv⟩
def RF (s:Vs) (tick:Int):af:=vK false s++[(6,.cells [.ptr 0 0]),(7,.cells [.dv (I tick)]),(8,.cells [.dv .aD])]
def On (K:af) (_:Unit):bN:=⟨9,[(5,.dv (I 0)),(6,.dv (I 0))],K⟩
theorem wy (s:Vs) (tick:Int):bg Tryz.prog 40 [.dv (I 0),.fn 41 [.ptr 8 0,.ptr 7 0,.ptr 6 0]] 9 (RF s tick) 0 [.dv (I 0)] (RF s tick):=by
 refine bk aW mixed (aw _) (ay _) Tryz.func40 rfl rfl (by kernel_rfl) ?_
 refine ⟨Unit,On (RF s tick),fun _=>True,fun _=>0,(),fun _=>rfl,⟨⟨rf,rf,tv⟩,⟨⟨rf,rf,rf,rf,rf,rf,rfl,rfl,rfl,rfl,rfl,tv⟩,⟨rfl,rfl⟩,⟨rfl,rfl⟩,⟨rfl,rfl⟩,⟨rfl,rfl⟩,⟨rfl,rfl⟩,⟨rfl,tv⟩,⟨rf,tv⟩,⟨rf,tv⟩,tv⟩,rfl,rfl⟩,tv,?_⟩
 rintro _ _
 refine ⟨fun h=>by simp at h,fun _=>?_⟩
 exact ⟨_,_,⟨rfl,rfl⟩,by kernel_rfl,⟨rf,tv⟩,⟨rf,rf,rf,rf,rf,rf,rfl,rfl,rfl,rfl,rfl,tv⟩,⟨rfl,rfl⟩,⟨rfl,rfl⟩,⟨rfl,rfl⟩,⟨rfl,rfl⟩,⟨rfl,rfl⟩,⟨rfl,tv⟩,⟨rf,tv⟩,⟨rf,tv⟩,tv⟩
theorem E1 (s:Vs) (it tick:Int):(bif bif decide (it<0) then true else decide (4≤it) then true else decide (tick<s.last))=decide (it<0 ∨ 4≤it ∨ tick<s.last):=by by_cases h1:it<0 <;> by_cases h2:4≤it <;> simp [h1,h2]
def Sl.zero:Sl:=⟨0,0,0,0,0⟩
def gD (s:Vs) (it:Nat) (l:List Sl) (k:Nat):List Int × Bool :=
 if k=l.length then ([0,0,0,0,0],false) else
 ([(it:Int),s.aZ,(l.getD (l.length - 1) Sl.zero).gi - ((l.getD k Sl.zero).gi - (l.getD k Sl.zero).n),(l.getD (l.length - 1) Sl.zero).gj - ((l.getD k Sl.zero).gj - (l.getD k Sl.zero).c),(l.getD (l.length - 1) Sl.zero).c.tdiv (l.getD (l.length - 1) Sl.zero).n],true)
def Jj (l:List Int):AV:=.agg (l.map fun n=>.dv (I n))
set_option maxHeartbeats 4000000 in
theorem mO (s:Vs) (it:Nat) (tick:Int) (h4:it<4) (hl:s.sl.length=4) (ht:s.last≤tick) (l:List Sl) (hs:s.sl[it]?=some (false,l)) (k:Nat) (hk:k≤l.length) (Ob:l.length≤1000) (hb:-9223372036854775808≤tick - s.au∧tick - s.au≤9223372036854775807)
  (h1:∀i y,i<k→l[i]?=some y→¬ tick - s.au<y.tick) (h2:∀i y,k≤i→l[i]?=some y→tick - s.au<y.tick)
  (hn:∀y,y∈l→1≤y.n∧y.n≤1152921504606846976∧1≤y.c∧y.c≤1152921504606846976∧0≤y.gi∧y.gi≤1152921504606846976∧0≤y.gj∧y.gj≤1152921504606846976) :
  bg Tryz.prog 17 [.ptr 0 0,.dv (I it),.dv (I tick)] 6 (vK false s) 0 [Jj (gD s it l k).1,.dv (B (gD s it l k).2)] (vK false s):=by
 have gX:(s.sl.map lI)[it]?=some (.ar 5 (l.map bO)):=by rw [List.getElem?_map,hs]; rfl
 have zD:=zg s it tick l gX k hk Ob hb h1 h2
 refine bk aW mixed (aw _) (ay _) Tryz.func17 rfl rfl (by kernel_rfl) ?_
 repeat first | refine ⟨id,?_⟩ | refine ⟨fun _ h=>dB h,?_⟩ | refine ⟨fun _ h=>aA h,?_⟩ | refine ⟨fun h=>⟨h,fun h2=>bW h h2⟩,?_⟩ | refine ⟨fun h=>⟨h,fun h2=>br h h2⟩,?_⟩
 refine ⟨by kernel_rfl,fun h'=>?_,fun _=>?_⟩
 ·have:=of_decide_eq_true ((E1 s it tick).symm.trans h'); omega
 refine ⟨fun _=>⟨by omega,by rw [List.length_map]; omega⟩,.ar 5 (l.map bO),fun _=>gX,?_⟩
 refine ⟨.ar 5 (l.map bO),fun _=>gX,?_⟩
 refine .inr ⟨[0,1,2,3,4,5,6,7,9],[.dv (I l.length),.fn 41 [.ptr 8 0,.ptr 7 0,.ptr 6 0]],Om s it tick,0,_,_,zD,by kernel_rfl,by kernel_rfl,⟨bq (by rw [List.length_map]),⟨rfl,rfl,rfl,rfl,tv⟩,tv⟩,⟨⟨rf,rf,rf,rf,rf,rf,rfl,rfl,rfl,rfl,rfl,tv⟩,⟨rfl,rfl⟩,⟨rfl,rfl⟩,⟨rfl,rfl⟩,⟨rfl,rfl⟩,⟨rfl,rfl⟩,⟨rfl,tv⟩,⟨rf,tv⟩,⟨rfl,tv⟩,tv⟩,?_⟩
 refine ⟨.ar 5 (l.map bO),fun _=>gX,?_⟩
 refine ⟨fun h'=>?_,fun h'=>?_⟩
 ·have Cv:k=l.length:=by
   rw [List.length_map] at h'
   have h9:(k:Int)=(l.length:Int):=by simpa using h'
   omega
  rw [show gD s it l k=([0,0,0,0,0],false) from if_pos Cv]
  exact ⟨_,_,⟨rfl,rfl⟩,by kernel_rfl,⟨⟨rf,rf,rf,rf,rf,tv⟩,rf,tv⟩,⟨rf,rf,rf,rf,rf,rf,rfl,rfl,rfl,rfl,rfl,tv⟩,⟨rfl,rfl⟩,⟨rfl,rfl⟩,⟨rfl,rfl⟩,⟨rfl,rfl⟩,⟨rfl,rfl⟩,tv⟩
 have Cv:k<l.length:=by
  rw [List.length_map] at h'
  have h9:¬ (k:Int)=(l.length:Int):=by simpa using h'
  omega
 have QC:l[k]?=some (l.getD k Sl.zero):=by rw [List.getD_eq_getElem?_getD,List.getElem?_eq_getElem Cv]; rfl
 have QD:l[l.length - 1]?=some (l.getD (l.length - 1) Sl.zero):=by rw [List.getD_eq_getElem?_getD,List.getElem?_eq_getElem (by omega)]; rfl
 have WY:=hn _ (List.mem_of_getElem? QC)
 have WZ:=hn _ (List.mem_of_getElem? QD)
 have Nl:gD s it l k=([(it:Int),s.aZ,(l.getD (l.length - 1) Sl.zero).gi - ((l.getD k Sl.zero).gi - (l.getD k Sl.zero).n),(l.getD (l.length - 1) Sl.zero).gj - ((l.getD k Sl.zero).gj - (l.getD k Sl.zero).c),(l.getD (l.length - 1) Sl.zero).c.tdiv (l.getD (l.length - 1) Sl.zero).n],true):=if_neg (by omega)
 rw [Nl]
 generalize l.getD k Sl.zero=xk at *
 generalize l.getD (l.length - 1) Sl.zero=y at *
 have Up:(l.map bO)[((k:Int)).toNat]?=some (bO xk):=by rw [Int.toNat_natCast,List.getElem?_map,QC]; rfl
 have Ui:(l.map bO).length=l.length:=List.length_map ..
 have Uq:(l.map bO)[((((l.map bO).length:Nat):Int) - 1).toNat]?=some (bO y):=by
  rw [Ui,show ((l.length:Int) - 1).toNat=l.length - 1 by omega,List.getElem?_map,QD]; rfl
 repeat first | refine ⟨.ar 5 (l.map bO),fun _=>gX,?_⟩ | refine ⟨bO xk,fun _=>Up,?_⟩ | refine ⟨bO y,fun _=>Uq,?_⟩ | refine ⟨by kernel_rfl,?_⟩ | refine ⟨fun _=>⟨by omega,by omega⟩,?_⟩
 have W0:0≤y.c.tdiv y.n:=Int.tdiv_nonneg (by omega) (by omega)
 have W3:y.c.tdiv y.n≤y.c:=Int.tdiv_le_self y.n (by omega)
 refine ⟨fun _ h=>by omega,?_⟩
 repeat first | refine ⟨.ar 5 (l.map bO),fun _=>gX,?_⟩ | refine ⟨bO xk,fun _=>Up,?_⟩ | refine ⟨bO y,fun _=>Uq,?_⟩ | refine ⟨by kernel_rfl,?_⟩ | refine ⟨fun _=>⟨by omega,by omega⟩,?_⟩
 exact ⟨_,_,⟨rfl,rfl⟩,by kernel_rfl,⟨⟨rf,rf,rf,rf,rf,tv⟩,rf,tv⟩,⟨rf,rf,rf,rf,rf,rf,rfl,rfl,rfl,rfl,rfl,tv⟩,⟨rfl,rfl⟩,⟨rfl,rfl⟩,⟨rfl,rfl⟩,⟨rfl,rfl⟩,⟨rfl,rfl⟩,tv⟩
set_option maxHeartbeats 4000000 in
theorem Bj (s:Vs) (it:Nat) (tick:Int) (h4:it<4) (hl:s.sl.length=4) (ht:s.last≤tick) (l:List Sl) (hs:s.sl[it]?=some (true,l)) :
  bg Tryz.prog 17 [.ptr 0 0,.dv (I it),.dv (I tick)] 6 (vK false s) 0 [Jj [0,0,0,0,0],.dv (B false)] (vK false s):=by
 have gX:(s.sl.map lI)[it]?=some .aD:=by rw [List.getElem?_map,hs]; rfl
 refine bk aW mixed (aw _) (ay _) Tryz.func17 rfl rfl (by kernel_rfl) ?_
 repeat first | refine ⟨id,?_⟩ | refine ⟨fun _ h=>dB h,?_⟩ | refine ⟨fun _ h=>aA h,?_⟩ | refine ⟨fun h=>⟨h,fun h2=>bW h h2⟩,?_⟩ | refine ⟨fun h=>⟨h,fun h2=>br h h2⟩,?_⟩
 refine ⟨by kernel_rfl,fun h'=>?_,fun _=>?_⟩
 ·have:=of_decide_eq_true ((E1 s it tick).symm.trans h'); omega
 refine ⟨fun _=>⟨by omega,by rw [List.length_map]; omega⟩,.aD,fun _=>gX,?_⟩
 refine .inr ⟨[0,1,2,3,4,5,6,7,9],[.dv (I 0),.fn 41 [.ptr 8 0,.ptr 7 0,.ptr 6 0]],RF s tick,0,_,_,wy s tick,by kernel_rfl,by kernel_rfl,⟨rf,⟨rfl,rfl,rfl,rfl,tv⟩,tv⟩,⟨⟨rf,rf,rf,rf,rf,rf,rfl,rfl,rfl,rfl,rfl,tv⟩,⟨rfl,rfl⟩,⟨rfl,rfl⟩,⟨rfl,rfl⟩,⟨rfl,rfl⟩,⟨rfl,rfl⟩,⟨rfl,tv⟩,⟨rf,tv⟩,⟨rf,tv⟩,tv⟩,?_⟩
 refine ⟨fun _=>?_,fun h=>by simp at h⟩
 exact ⟨_,_,⟨rfl,rfl⟩,by kernel_rfl,⟨⟨rf,rf,rf,rf,rf,tv⟩,rf,tv⟩,⟨rf,rf,rf,rf,rf,rf,rfl,rfl,rfl,rfl,rfl,tv⟩,⟨rfl,rfl⟩,⟨rfl,rfl⟩,⟨rfl,rfl⟩,⟨rfl,rfl⟩,⟨rfl,rfl⟩,tv⟩
end Go.Proofs.YtpbdohkbiklflaaGreatDoor
namespace Go.Proofs.YtpbdohkbiklflaaGreatDoor
open Go.TM
variable [cQ]
theorem Bk:∀{l:List Sl} (_:l.Pairwise fun x y=>x.tick≤y.tick) (Oo:Int),∃k,k≤l.length∧(∀i y,i<k→l[i]?=some y→¬ Oo<y.tick)∧(∀i y,k≤i→l[i]?=some y→Oo<y.tick)∧l.filter (fun x=>decide (Oo<x.tick))=l.drop k
 | [],_,Oo=>⟨0,Nat.le_refl _,fun i y h=>by omega,fun i y _ h=>by simp at h,rfl⟩
 | x::r,h,Oo=>by
  rw [List.pairwise_cons] at h
  by_cases hx:Oo<x.tick
  ·refine ⟨0,Nat.zero_le _,fun i y h=>by omega,fun i y _ hy=>?_,?_⟩
   ·rcases List.mem_cons.1 (List.mem_of_getElem? hy) with rfl | hy
    ·exact hx
    ·have:=h.1 y hy; omega
   ·rw [List.drop_zero,List.filter_eq_self.2]
    intro y hy
    rcases List.mem_cons.1 hy with rfl | hy
    ·simpa using hx
    ·have:=h.1 y hy; simp; omega
  ·obtain ⟨k,h1,h2,h3,h4⟩:=Bk h.2 Oo
   refine ⟨k+1,by rw [List.length_cons]; omega,fun i y hi hy=>?_,fun i y hi hy=>?_,?_⟩
   ·match i,hy with
    | 0,hy=>simp at hy; subst hy; exact hx
    | i+1,hy=>exact h2 i y (by omega) (by simpa using hy)
   ·match i,hi,hy with
    | i+1,hi,hy=>exact h3 i y (by omega) (by simpa using hy)
   ·rw [List.filter_cons_of_neg (by simpa using hx),h4,List.drop_succ_cons]
end Go.Proofs.YtpbdohkbiklflaaGreatDoor
namespace Go.Proofs.YtpbdohkbiklflaaGreatDoor
open Go.TM
variable [cQ]
set_option maxRecDepth 100000
end Go.Proofs.YtpbdohkbiklflaaGreatDoor
namespace Go.Proofs.YtpbdohkbiklflaaGreatDoor
open Go.TM
variable [cQ]
set_option maxRecDepth 100000
end Go.Proofs.YtpbdohkbiklflaaGreatDoor
namespace Go.Proofs.YtpbdohkbiklflaaGreatDoor
open Go.TM
variable [cQ]
set_option maxRecDepth 100000
end Go.Proofs.YtpbdohkbiklflaaGreatDoor
namespace Go.Proofs.YtpbdohkbiklflaaGreatDoor
open Go.TM
variable [cQ]
def RG:Vs:=Lk 1 10 100
def lR:St:=⟨0,0,0,0,0,0,[⟨0,1,0,5⟩,⟨0,2,1,9⟩]⟩
def CE:St:=⟨0,2,0,4,0,0,[⟨1,2,0,3⟩,⟨2,1,1,7⟩]⟩
def A1:HM:=[((1,0),5),((2,1),9)]
def A2:HM:=[((1,0),2),((2,0),3),((2,1),2),((1,1),7)]
theorem Oq (aZ au aU:Int) (hw:1≤au∧au≤1099511627776):EZ (Lk aZ au aU) [] 0 0:=by
 refine ⟨⟨List.nodup_nil,fun p hp=>(by cases hp),Nat.le_refl _,rfl,rfl,fun i hi=>?_,fun i hi=>?_⟩,⟨⟨rfl,rfl,fun p hp=>(by cases hp),fun i f l h=>?_,fun i f l h hf=>?_,by simp,fun p hp=>(by cases hp)⟩,Nat.le_refl _,fun p hp=>(by cases hp),fun i j x y hx=>by simp [bL] at hx,List.Pairwise.nil,fun p hp=>(by cases hp)⟩,hw,Int.le_refl _,⟨Int.le_refl _,Int.le_refl _⟩,fun p hp=>(by cases hp)⟩
 ·have:(Lk aZ au aU).rk.getD i (true,[])=(true,[]):=by
   obtain h | h | h | h:i=0 ∨ i=1 ∨ i=2 ∨ i=3:=by omega
   all_goals (subst h; rfl)
  rw [this]
  exact ⟨fun _=>rfl,List.Pairwise.nil,fun x=>by simp [Lk,bs]⟩
 ·obtain h | h | h | h:i=0 ∨ i=1 ∨ i=2 ∨ i=3:=by omega
  all_goals (subst h; rfl)
 all_goals
  have hi:i<4:=(List.getElem?_eq_some_iff.1 h).1
  obtain h0 | h0 | h0 | h0:i=0 ∨ i=1 ∨ i=2 ∨ i=3:=by omega
  all_goals (subst h0; simp [Lk] at h; simp [bL,h])
theorem f1:eP RG [] lR=.ok A1:=by kernel_rfl
def Pb:Vs:=cn RG [] lR (aF RG A1)
def S1:SS:=xE RG [] lR
theorem f2:eP Pb S1 CE=.ok A2:=by kernel_rfl
def xF:Vs:=cn Pb S1 CE (aF Pb A2)
def S2:SS:=xE Pb S1 CE
theorem v1:EZ Pb S1 8 1:=(zd (Oq 1 10 100 ⟨by omega,by omega⟩) (by omega) (by omega) lR (by simp [lR]) f1).1
theorem v2:EZ xF S2 16 2:=(zd v1 (by omega) (by omega) CE (by simp [CE]) f2).1
set_option maxRecDepth 100000
set_option maxHeartbeats 4000000 in
theorem Dt:eh Tryz.prog 14 [] [B true]:=by
 have c0:=ri 1 10 100 rfl rfl
 have c1:=rh (Oq 1 10 100 ⟨by omega,by omega⟩) (by omega) (by omega) lR (by simp [lR])
 have c2:=rh v1 (by omega) (by omega) CE (by simp [CE])
 rw [show eP (Lk 1 10 100) [] lR=.ok A1 from f1] at c1
 rw [f2] at c2
 simp only at c1 c2
 have ew:xF.au=10:=by kernel_rfl
 have Td:=mO xF 0 13 (by omega) (by kernel_rfl) (by rw [show xF.last=4 by kernel_rfl]; omega) [⟨4,3,7,3,7⟩] (by kernel_rfl) 0 (by omega) (by simp) (by rw [ew]; omega) (fun i y hi _=>by omega)
  (fun i y _ hy=>by have hy:=List.mem_of_getElem? hy; simp only [List.mem_singleton] at hy; subst hy; rw [ew]; simp only; omega) (fun y hy=>by simp only [List.mem_singleton] at hy; subst hy; simp only; omega)
 have Te:=mO xF 0 14 (by omega) (by kernel_rfl) (by rw [show xF.last=4 by kernel_rfl]; omega) [⟨4,3,7,3,7⟩] (by kernel_rfl) 1 (by simp) (by simp) (by rw [ew]; omega)
  (fun i y _ hy=>by have hy:=List.mem_of_getElem? hy; simp only [List.mem_singleton] at hy; subst hy; rw [ew]; simp only; omega) (fun i y hi hy=>by have:=(List.getElem?_eq_some_iff.1 hy).1; simp at this; omega) (fun y hy=>by simp only [List.mem_singleton] at hy; subst hy; simp only; omega)
 rw [show gD xF 0 [⟨4,3,7,3,7⟩] 0=([0,1,3,7,2],true) by kernel_rfl] at Td
 rw [show gD xF 0 [⟨4,3,7,3,7⟩] 1=([0,0,0,0,0],false) by kernel_rfl] at Te
 simp only at Td Te
 have t0:=uX xF (by kernel_rfl) (fun x hx=>by
  obtain ⟨i,hi⟩:=List.getElem?_of_mem hx
  have hl:i<4:=by have:=(List.getElem?_eq_some_iff.1 hi).1; rw [show xF.rk.length=4 by kernel_rfl] at this; exact this
  have:=v2.bK.rk i hl
  rw [List.getD_eq_getElem?_getD,hi] at this
  have h2:=Df this
  have h3:=v2.bK.len
  exact ⟨by simp only [Option.getD_some] at h2; omega,this.1⟩) 0 1 (by omega)
 rw [show A6 xF 0 1=[(2,3)] by kernel_rfl] at t0
 have z0:=kn xF (by rw [show xF.H.length=4 by kernel_rfl,show xF.bD.length=1 by kernel_rfl]; omega)
 rw [show ((xF.H.length:Int)+(xF.bD.length:Int))=5 by kernel_rfl] at z0
 refine cM aW mixed (aw _) (ay _) Tryz.func14 rfl (by kernel_rfl) rfl ?_
 refine .inl ⟨_,fun _=>vh.ok,?_⟩
 refine .inr ⟨[],[wc (FR gV),.dv (I 1),.dv (I 10),.dv (I 100)],[],7,_,_,c0,by kernel_rfl,by kernel_rfl,⟨⟨rf,rf,rf,rf,tv⟩,rf,rf,rf,tv⟩,tv,?_⟩
 repeat first | refine ⟨id,?_⟩ | refine ⟨fun _ h=>dB h,?_⟩ | refine ⟨fun _ h=>aA h,?_⟩ | refine ⟨fun h=>⟨h,fun h2=>bW h h2⟩,?_⟩ | refine ⟨fun h=>⟨h,fun h2=>br h h2⟩,?_⟩
 refine ⟨fun h=>by simp at h,fun _=>?_⟩
 refine .inl ⟨[de ⟨0,1,0,5⟩,de ⟨0,2,1,9⟩],rfl,⟨rf,rf,rf,rf,rf,rf,rf,rf,rf,rf,tv⟩,(by simp; exact ⟨rfl,rfl⟩),.inr ⟨[4,1,2,5,3,6],[.ptr 0 0,F2 lR],vK false (Lk 1 10 100),9,_,_,c1,by kernel_rfl,by kernel_rfl,⟨rfl,⟨rf,rf,rf,rf,rf,rf,rf,tv⟩,tv⟩,⟨⟨rf,rf,rf,rf,rf,rf,rfl,rfl,rfl,rfl,rfl,tv⟩,⟨rfl,rfl⟩,⟨rfl,rfl⟩,⟨rfl,rfl⟩,⟨rfl,rfl⟩,⟨rfl,rfl⟩,tv⟩,?_⟩⟩
 refine .inl ⟨[de ⟨1,2,0,3⟩,de ⟨2,1,1,7⟩],rfl,⟨rf,rf,rf,rf,rf,rf,rf,rf,rf,rf,tv⟩,(by simp; exact ⟨rfl,rfl⟩),.inr ⟨[4,1,2,5,3,6],[.ptr 0 0,F2 CE],vK false Pb,9,_,_,c2,by kernel_rfl,by kernel_rfl,⟨rfl,⟨rf,rf,rf,rf,rf,rf,rf,tv⟩,tv⟩,⟨⟨rf,rf,rf,rf,rf,rf,rfl,rfl,rfl,rfl,rfl,tv⟩,⟨rfl,rfl⟩,⟨rfl,rfl⟩,⟨rfl,rfl⟩,⟨rfl,rfl⟩,⟨rfl,rfl⟩,tv⟩,?_⟩⟩
 refine .inr ⟨[4,1,2,5,3,6],[.ptr 0 0,.dv (I 0),.dv (I 13)],vK false xF,0,_,_,Td,by kernel_rfl,by kernel_rfl,⟨rfl,rf,rf,tv⟩,⟨⟨rf,rf,rf,rf,rf,rf,rfl,rfl,rfl,rfl,rfl,tv⟩,⟨rfl,rfl⟩,⟨rfl,rfl⟩,⟨rfl,rfl⟩,⟨rfl,rfl⟩,⟨rfl,rfl⟩,tv⟩,?_⟩
 refine .inr ⟨[4,1,2,5,3,6],[.ptr 0 0,.dv (I 0),.dv (I 14)],vK false xF,0,_,_,Te,by kernel_rfl,by kernel_rfl,⟨rfl,rf,rf,tv⟩,⟨⟨rf,rf,rf,rf,rf,rf,rfl,rfl,rfl,rfl,rfl,tv⟩,⟨rfl,rfl⟩,⟨rfl,rfl⟩,⟨rfl,rfl⟩,⟨rfl,rfl⟩,⟨rfl,rfl⟩,tv⟩,?_⟩
 refine .inr ⟨[4,1,2,5,3,6],[.ptr 0 0,.dv (I 0),.dv (I 1)],vK false xF,0,_,_,t0,by kernel_rfl,by kernel_rfl,⟨rfl,rf,rf,tv⟩,⟨⟨rf,rf,rf,rf,rf,rf,rfl,rfl,rfl,rfl,rfl,tv⟩,⟨rfl,rfl⟩,⟨rfl,rfl⟩,⟨rfl,rfl⟩,⟨rfl,rfl⟩,⟨rfl,rfl⟩,tv⟩,?_⟩
 repeat first | refine ⟨id,?_⟩ | refine ⟨fun _ h=>dB h,?_⟩ | refine ⟨fun _ h=>aA h,?_⟩ | refine ⟨fun h=>⟨h,fun h2=>bW h h2⟩,?_⟩ | refine ⟨fun h=>⟨h,fun h2=>br h h2⟩,?_⟩
 refine ⟨eR (2,3),fun _=>⟨by omega,rfl⟩,?_⟩
 repeat first | refine ⟨id,?_⟩ | refine ⟨fun _ h=>dB h,?_⟩ | refine ⟨fun _ h=>aA h,?_⟩ | refine ⟨fun h=>⟨h,fun h2=>bW h h2⟩,?_⟩ | refine ⟨fun h=>⟨h,fun h2=>br h h2⟩,?_⟩
 refine ⟨eR (2,3),fun _=>⟨by omega,rfl⟩,?_⟩
 repeat first | refine ⟨id,?_⟩ | refine ⟨fun _ h=>dB h,?_⟩ | refine ⟨fun _ h=>aA h,?_⟩ | refine ⟨fun h=>⟨h,fun h2=>bW h h2⟩,?_⟩ | refine ⟨fun h=>⟨h,fun h2=>br h h2⟩,?_⟩
 refine .inr ⟨[4,1,2,5,3,6],[.ptr 0 0],vK false xF,0,_,_,z0,by kernel_rfl,by kernel_rfl,⟨rfl,tv⟩,⟨⟨rf,rf,rf,rf,rf,rf,rfl,rfl,rfl,rfl,rfl,tv⟩,⟨rfl,rfl⟩,⟨rfl,rfl⟩,⟨rfl,rfl⟩,⟨rfl,rfl⟩,⟨rfl,rfl⟩,tv⟩,?_⟩
 exact ⟨by kernel_rfl,fun _=>rfl,fun _ _=>by kernel_rfl,DV.Le.of_eq (by kernel_rfl),tv⟩
end Go.Proofs.YtpbdohkbiklflaaGreatDoor
