import Derived.Test.YtpbdohkbiklflaaGreatDoorNM22
import Derived.Test.YtpbdohkbiklflaaGreatDoorNM23
import Derived.Test.YtpbdohkbiklflaaGreatDoorNM20
set_option linter.unusedVariables false
set_option linter.unusedSimpArgs false
set_option linter.unusedSectionVars false
namespace Go.Proofs.YtpbdohkbiklflaaGreatDoor
open Go.TM
variable [KObj]
set_option maxRecDepth 100000
theorem newS_spec:CSpec Tryz.prog 32 [.dv (.fn 33 [])] 0 [] 1 [.ptr 0 0] [(0,.cells [.dv (.fn 33 []),.dv .nils])]:=by
 refine cspec_of tab_ok mixed (calls_snd _) (range_snd _) Tryz.func32 rfl rfl (by kernel_rfl) ?_
 exact ⟨_,_,⟨rfl,rfl⟩,by kernel_rfl,⟨rfl,tv⟩,⟨rf,rf,tv⟩,tv⟩
theorem newT_spec:CSpec Tryz.prog 32 [.dv (.fn 33 [])] 0 [] 1 [.own 0 0 0 []] [(0,.tree 0 0 (srtD true []))] :=
 cspec_optr (ds:=[.fn 33 [],.nils]) newS_spec
def vs0 (coin window budget:Int):Vs:=⟨coin,window,budget,0,0,[],[0,0,0,0],[(true,[]),(true,[]),(true,[]),(true,[])],[(true,[]),(true,[]),(true,[]),(true,[])],[]⟩
def badC (coin:Int):Bool:=bif bif decide (coin<0) then true else decide (4≤coin) then true else !(decide (coin=1) || decide (coin=3))
def badW (window budget:Int):Bool:=bif bif bif decide (window<1) then true else decide (1099511627776<window) then true else decide (budget<0) then true else decide (1048576<budget)
theorem item_at (n:ByteArray) (coin:Int) (h:0≤coin∧coin<4):∃nm,(itemsV n)[coin.toNat]?=some (.agg [.str nm,B false,B false,B (decide (coin=1) || decide (coin=3)),I 0,I 0,I 0]):=by
 obtain h | h | h | h:coin=0 ∨ coin=1 ∨ coin=2 ∨ coin=3:=by omega
 all_goals (subst h; exact ⟨_,rfl⟩)
theorem item_g (n:ByteArray) (coin:Int):∃nm,bw (bif decide (coin<0) then true else decide (((itemsV n).length:Int)≤coin)) false=true→0≤coin∧(itemsV n)[coin.toNat]?=some (.agg [.str nm,B false,B false,B (decide (coin=1) || decide (coin=3)),I 0,I 0,I 0]):=by
 by_cases h:0≤coin∧coin<4
 ·obtain ⟨nm,hn⟩:=item_at n coin h
  exact ⟨nm,fun _=>⟨h.1,hn⟩⟩
 ·refine ⟨nameIron,fun hb=>absurd hb ?_⟩
  have:(bif decide (coin<0) then true else decide (((itemsV n).length:Int)≤coin))=true:=by
   show (bif decide (coin<0) then true else decide ((4:Int)≤coin))=true
   rw [Bool.cond_true_left,Bool.or_eq_true,decide_eq_true_eq,decide_eq_true_eq]; omega
  rw [this]; simp [bw]
theorem byPt:(nth tab (nth tab 76).elem).bytes=8:=rfl
def nwC (coin window budget:Int):List AV:=[.dv (I 4),.dv (I coin),.dv (I window),.dv (I budget),.dv (I 0),.dv (I 0),.own 1 0 0 [],.own 2 0 0 [],.own 5 0 0 []]
def nwInv (coin window budget:Int) (j:Nat):AState:=⟨6,[(11,.ptr 4 0),(68,.dv (I 4)),(69,.dv (I j))],[(1,.tree 0 0 (.omap pairK [])),(2,.tree 0 0 (.osl 1 [I 0,I 0,I 0,I 0])),(3,.tree 0 0 (.osl 1 [.nils,.nils,.nils,.nils])),(4,.cells (nwC coin window budget++[.own 3 0 0 [],.dv .nils])),(5,.tree 0 0 (.osl 1 (List.replicate j (srtD true []))))]⟩
def nwK (coin window budget:Int):Boxes:=[(1,.tree 0 0 (.omap pairK [])),(2,.tree 0 0 (.osl 1 [I 0,I 0,I 0,I 0])),(3,.tree 0 0 (.osl 1 [.nils,.nils,.nils,.nils])),(4,.cells (nwC coin window budget++[.own 3 0 0 [],.own 6 0 0 []])),(5,.tree 0 0 (.osl 1 (List.replicate 4 (srtD true [])))),(6,.tree 0 0 (.osl 1 []))]
set_option maxHeartbeats 4000000 in
theorem newC_spec (coin window budget:Int) (h:badC coin=false) (h2:badW window budget=false):CSpec Tryz.prog 11 [ofD (catV nameIron),.dv (I coin),.dv (I window),.dv (I budget)] 0 [] 7 [.ptr 4 0,.dv (I 0)] (nwK coin window budget):=by
 refine cspec_of tab_ok mixed (calls_snd _) (range_snd _) Tryz.func11 rfl rfl (by kernel_rfl) ?_
 refine .inl ⟨_,fun _=>valid_spec.ok,?_⟩
 refine ⟨fun h9=>by simp at h9,fun _=>?_⟩
 repeat first | refine ⟨id,?_⟩ | refine ⟨fun _ h=>bw_f h,?_⟩ | refine ⟨fun _ h=>bw_t h,?_⟩ | refine ⟨fun h=>⟨h,fun h2=>bw_and h h2⟩,?_⟩ | refine ⟨fun h=>⟨h,fun h2=>bw_andf h h2⟩,?_⟩
 obtain ⟨nm,hnm⟩:=item_g nameIron coin
 refine ⟨_,hnm,?_⟩
 repeat first | refine ⟨id,?_⟩ | refine ⟨fun _ h=>bw_f h,?_⟩ | refine ⟨fun _ h=>bw_t h,?_⟩ | refine ⟨fun h=>⟨h,fun h2=>bw_and h h2⟩,?_⟩ | refine ⟨fun h=>⟨h,fun h2=>bw_andf h h2⟩,?_⟩
 refine ⟨fun hc=>?_,fun _=>?_⟩
 ·have:badC coin=true:=hc
  rw [h] at this; cases this
 repeat first | refine ⟨id,?_⟩ | refine ⟨fun _ h=>bw_f h,?_⟩ | refine ⟨fun _ h=>bw_t h,?_⟩ | refine ⟨fun h=>⟨h,fun h2=>bw_and h h2⟩,?_⟩ | refine ⟨fun h=>⟨h,fun h2=>bw_andf h h2⟩,?_⟩
 refine ⟨fun hc=>?_,fun _=>?_⟩
 ·have:badW window budget=true:=hc
  rw [h2] at this; cases this
 refine ⟨pairK,I 0,⟨rf,tv⟩,Int.natCast_nonneg _,Int.le_refl _,(by show (4:Int) * 8≤_; omega),(by show (4:Int)≤_; omega),false,(fun h=>by cases h),.nils,⟨rf,tv⟩,Int.natCast_nonneg _,Int.le_refl _,(by show (4:Int) * 24≤_; omega),(by show (4:Int)≤_; omega),false,(fun h=>by cases h),?_⟩
 refine ⟨by kernel_rfl,?_⟩
 refine ⟨Nat,nwInv coin window budget,fun z=>z≤4,fun z=>4 - z,0,fun _=>rfl,?_⟩
 refine ⟨⟨⟨rfl,rf,rf,tv⟩,⟨⟨rfl,rfl⟩,⟨rfl,rfl⟩,⟨rfl,rfl⟩,⟨rf,rf,rf,rf,rf,rf,rfl,rfl,⟨rfl,rfl,rfl,rfl,1,rfl⟩,rfl,rf,tv⟩,⟨rfl,rfl,1,rfl⟩,tv⟩,rfl,rfl⟩,Nat.zero_le _,?_⟩
 rintro j hj
 refine ⟨fun hlt=>?_,fun hge=>?_⟩
 ·have hlt:j<4:=by have:=of_decide_eq_true hlt; omega
  refine .inr ⟨[],[.dv (.fn 33 [])],[],1,_,_,newT_spec,by kernel_rfl,by kernel_rfl,⟨rf,tv⟩,tv,?_⟩
  refine .inr (.inl ⟨[srtD true []],rfl,⟨rfl,tv⟩,(by simp; rfl),?_⟩)
  refine .inr (.inr ⟨rfl,[srtD true []],ELes.refl _,(by rw [byPt,List.length_replicate]; simp; omega),(by rw [List.length_replicate]; simp; omega),?_⟩)
  exact ⟨by kernel_rfl,fun _=>⟨by omega,by omega⟩,j+1,⟨⟨rfl,rf,le_int (by simp),tv⟩,⟨⟨rfl,rfl⟩,⟨rfl,rfl⟩,⟨rfl,rfl⟩,⟨rf,rf,rf,rf,rf,rf,rfl,rfl,rfl,rfl,rf,tv⟩,⟨rfl,by rw [List.replicate_succ']⟩,tv⟩,rfl,rfl⟩,by omega,by simp only; omega⟩
 ·have hge:j=4:=by have:=of_decide_eq_false hge; omega
  subst hge
  exact ⟨_,_,⟨rfl,rfl⟩,by kernel_rfl,⟨rfl,rf,tv⟩,⟨rfl,rfl⟩,⟨rfl,rfl⟩,⟨rfl,rfl⟩,⟨rf,rf,rf,rf,rf,rf,rfl,rfl,rfl,rfl,⟨rfl,rfl,rfl,rfl,1,rfl⟩,tv⟩,⟨rfl,rfl⟩,⟨rfl,rfl,1,rfl⟩,tv⟩
end Go.Proofs.YtpbdohkbiklflaaGreatDoor
namespace Go.Proofs.YtpbdohkbiklflaaGreatDoor
open Go.TM
variable [KObj]
set_option maxRecDepth 100000
def itK (n:ByteArray):Boxes:=[(0,.tree 0 0 (.osl 7 (itemsV n)))]
def catA:AV:=.agg [.own 0 0 0 [],.dv .nils,.dv .nils,.dv .nils]
def nwCo (coin window budget:Int):List AV:=[.dv (I 4),.dv (I coin),.dv (I window),.dv (I budget),.dv (I 0),.dv (I 0),.own 2 0 0 [],.own 3 0 0 [],.own 6 0 0 []]
def nwInvO (coin window budget:Int) (j:Nat):AState:=⟨7,[(11,.ptr 5 0),(68,.dv (I 4)),(69,.dv (I j))],itK nameIron++[(2,.tree 0 0 (.omap pairK [])),(3,.tree 0 0 (.osl 1 [I 0,I 0,I 0,I 0])),(4,.tree 0 0 (.osl 1 [.nils,.nils,.nils,.nils])),(5,.cells (nwCo coin window budget++[.own 4 0 0 [],.dv .nils])),(6,.tree 0 0 (.osl 1 (List.replicate j (srtD true []))))]⟩
def nwKo (coin window budget:Int):Boxes:=itK nameIron++[(2,.tree 0 0 (.omap pairK [])),(3,.tree 0 0 (.osl 1 [I 0,I 0,I 0,I 0])),(4,.tree 0 0 (.osl 1 [.nils,.nils,.nils,.nils])),(5,.cells (nwCo coin window budget++[.own 4 0 0 [],.own 7 0 0 []])),(6,.tree 0 0 (.osl 1 (List.replicate 4 (srtD true [])))),(7,.tree 0 0 (.osl 1 []))]
def rvC (coin window budget:Int):List AV:=[.dv (I 4),.dv (I coin),.dv (I window),.dv (I budget),.dv .nils,.dv (I 0)]
set_option maxHeartbeats 4000000 in
theorem catO_spec:CSpec Tryz.prog 9 [] 0 [] 2 [.agg [.own 1 0 0 [],.dv .nils,.dv .nils,.dv .nils]] [(1,.tree 0 0 (.osl 7 (itemsV nameIron)))]:=by
 refine cspec_of tab_ok mixed (calls_snd _) (range_snd _) Tryz.func9 rfl rfl (by kernel_rfl) ?_
 refine .inr (.inl ⟨itemsV nameIron,rfl,⟨rf,rf,rf,rf,rf,rf,rf,rf,rf,rf,rf,rf,rf,rf,rf,rf,rf,rf,rf,rf,rf,rf,rf,rf,rf,rf,rf,rf,tv⟩,(by simp [itemsV,DV.cells]; rfl),?_⟩)
 exact ⟨_,_,⟨rfl,rfl⟩,by kernel_rfl,⟨⟨rfl,rf,rf,rf,tv⟩,tv⟩,⟨rfl,rfl⟩,tv⟩
theorem item_o (n:ByteArray) (coin:Int):∃nm,bw (bif decide (coin<0) then true else decide (((itemsV n).length:Int)≤coin)) false=true→(0≤coin∧coin<((itemsV n).length:Int))∧(itemsV n)[coin.toNat]?=some (.agg [.str nm,B false,B false,B (decide (coin=1) || decide (coin=3)),I 0,I 0,I 0]):=by
 obtain ⟨nm,h⟩:=item_g n coin
 refine ⟨nm,fun hb=>⟨⟨(h hb).1,?_⟩,(h hb).2⟩⟩
 have:=(List.getElem?_eq_some_iff.1 (h hb).2).1
 have:=(h hb).1
 omega
set_option maxHeartbeats 4000000 in
theorem newAO_spec (coin window budget:Int) (h:badC coin=true):CSpec Tryz.prog 11 [catA,.dv (I coin),.dv (I window),.dv (I budget)] 1 (itK nameIron) 0 [.dv .nilp,.dv (I 9)] (itK nameIron):=by
 refine cspec_of tab_ok mixed (calls_snd _) (range_snd _) Tryz.func11 rfl rfl (by kernel_rfl) ?_
 refine .inl (.inl ⟨_,fun _=>valid_spec.ok,rfl,?_⟩)
 refine ⟨fun h9=>by simp at h9,fun _=>?_⟩
 repeat first | refine ⟨id,?_⟩ | refine ⟨fun _ h=>bw_f h,?_⟩ | refine ⟨fun _ h=>bw_t h,?_⟩ | refine ⟨fun h=>⟨h,fun h2=>bw_and h h2⟩,?_⟩ | refine ⟨fun h=>⟨h,fun h2=>bw_andf h h2⟩,?_⟩
 obtain ⟨nm,hnm⟩:=item_o nameIron coin
 refine ⟨fun hg=>(hnm hg).1,?_⟩
 repeat first | refine ⟨id,?_⟩ | refine ⟨fun _ h=>bw_f h,?_⟩ | refine ⟨fun _ h=>bw_t h,?_⟩ | refine ⟨fun h=>⟨h,fun h2=>bw_and h h2⟩,?_⟩ | refine ⟨fun h=>⟨h,fun h2=>bw_andf h h2⟩,?_⟩
 refine ⟨_,fun hg=>(hnm hg).2,?_⟩
 repeat first | refine ⟨id,?_⟩ | refine ⟨fun _ h=>bw_f h,?_⟩ | refine ⟨fun _ h=>bw_t h,?_⟩ | refine ⟨fun h=>⟨h,fun h2=>bw_and h h2⟩,?_⟩ | refine ⟨fun h=>⟨h,fun h2=>bw_andf h h2⟩,?_⟩
 refine ⟨fun _=>?_,fun hc=>?_⟩
 ·exact ⟨_,_,⟨rfl,rfl⟩,by kernel_rfl,⟨rf,rf,tv⟩,⟨rfl,rfl⟩,tv⟩
 ·have:badC coin=false:=hc
  rw [h] at this; cases this
set_option maxHeartbeats 4000000 in
theorem newBO_spec (coin window budget:Int) (h:badC coin=false) (h2:badW window budget=true):CSpec Tryz.prog 11 [catA,.dv (I coin),.dv (I window),.dv (I budget)] 1 (itK nameIron) 0 [.dv .nilp,.dv (I 5)] (itK nameIron):=by
 refine cspec_of tab_ok mixed (calls_snd _) (range_snd _) Tryz.func11 rfl rfl (by kernel_rfl) ?_
 refine .inl (.inl ⟨_,fun _=>valid_spec.ok,rfl,?_⟩)
 refine ⟨fun h9=>by simp at h9,fun _=>?_⟩
 repeat first | refine ⟨id,?_⟩ | refine ⟨fun _ h=>bw_f h,?_⟩ | refine ⟨fun _ h=>bw_t h,?_⟩ | refine ⟨fun h=>⟨h,fun h2=>bw_and h h2⟩,?_⟩ | refine ⟨fun h=>⟨h,fun h2=>bw_andf h h2⟩,?_⟩
 obtain ⟨nm,hnm⟩:=item_o nameIron coin
 refine ⟨fun hg=>(hnm hg).1,?_⟩
 repeat first | refine ⟨id,?_⟩ | refine ⟨fun _ h=>bw_f h,?_⟩ | refine ⟨fun _ h=>bw_t h,?_⟩ | refine ⟨fun h=>⟨h,fun h2=>bw_and h h2⟩,?_⟩ | refine ⟨fun h=>⟨h,fun h2=>bw_andf h h2⟩,?_⟩
 refine ⟨_,fun hg=>(hnm hg).2,?_⟩
 repeat first | refine ⟨id,?_⟩ | refine ⟨fun _ h=>bw_f h,?_⟩ | refine ⟨fun _ h=>bw_t h,?_⟩ | refine ⟨fun h=>⟨h,fun h2=>bw_and h h2⟩,?_⟩ | refine ⟨fun h=>⟨h,fun h2=>bw_andf h h2⟩,?_⟩
 refine ⟨fun hc=>?_,fun _=>?_⟩
 ·have:badC coin=true:=hc
  rw [h] at this; cases this
 repeat first | refine ⟨id,?_⟩ | refine ⟨fun _ h=>bw_f h,?_⟩ | refine ⟨fun _ h=>bw_t h,?_⟩ | refine ⟨fun h=>⟨h,fun h2=>bw_and h h2⟩,?_⟩ | refine ⟨fun h=>⟨h,fun h2=>bw_andf h h2⟩,?_⟩
 refine ⟨fun _=>?_,fun hc=>?_⟩
 ·exact ⟨_,_,⟨rfl,rfl⟩,by kernel_rfl,⟨rf,rf,tv⟩,⟨rfl,rfl⟩,tv⟩
 ·have:badW window budget=false:=hc
  rw [h2] at this; cases this
set_option maxHeartbeats 4000000 in
theorem newCO_spec (coin window budget:Int) (h:badC coin=false) (h2:badW window budget=false):CSpec Tryz.prog 11 [catA,.dv (I coin),.dv (I window),.dv (I budget)] 1 (itK nameIron) 7 [.ptr 5 0,.dv (I 0)] (nwKo coin window budget):=by
 refine cspec_of tab_ok mixed (calls_snd _) (range_snd _) Tryz.func11 rfl rfl (by kernel_rfl) ?_
 refine .inl (.inl ⟨_,fun _=>valid_spec.ok,rfl,?_⟩)
 refine ⟨fun h9=>by simp at h9,fun _=>?_⟩
 repeat first | refine ⟨id,?_⟩ | refine ⟨fun _ h=>bw_f h,?_⟩ | refine ⟨fun _ h=>bw_t h,?_⟩ | refine ⟨fun h=>⟨h,fun h2=>bw_and h h2⟩,?_⟩ | refine ⟨fun h=>⟨h,fun h2=>bw_andf h h2⟩,?_⟩
 obtain ⟨nm,hnm⟩:=item_o nameIron coin
 refine ⟨fun hg=>(hnm hg).1,?_⟩
 repeat first | refine ⟨id,?_⟩ | refine ⟨fun _ h=>bw_f h,?_⟩ | refine ⟨fun _ h=>bw_t h,?_⟩ | refine ⟨fun h=>⟨h,fun h2=>bw_and h h2⟩,?_⟩ | refine ⟨fun h=>⟨h,fun h2=>bw_andf h h2⟩,?_⟩
 refine ⟨_,fun hg=>(hnm hg).2,?_⟩
 repeat first | refine ⟨id,?_⟩ | refine ⟨fun _ h=>bw_f h,?_⟩ | refine ⟨fun _ h=>bw_t h,?_⟩ | refine ⟨fun h=>⟨h,fun h2=>bw_and h h2⟩,?_⟩ | refine ⟨fun h=>⟨h,fun h2=>bw_andf h h2⟩,?_⟩
 refine ⟨fun hc=>?_,fun _=>?_⟩
 ·have:badC coin=true:=hc
  rw [h] at this; cases this
 repeat first | refine ⟨id,?_⟩ | refine ⟨fun _ h=>bw_f h,?_⟩ | refine ⟨fun _ h=>bw_t h,?_⟩ | refine ⟨fun h=>⟨h,fun h2=>bw_and h h2⟩,?_⟩ | refine ⟨fun h=>⟨h,fun h2=>bw_andf h h2⟩,?_⟩
 refine ⟨fun hc=>?_,fun _=>?_⟩
 ·have:badW window budget=true:=hc
  rw [h2] at this; cases this
 refine ⟨pairK,I 0,⟨rf,tv⟩,Int.natCast_nonneg _,Int.le_refl _,(by show (4:Int) * 8≤_; omega),(by show (4:Int)≤_; omega),false,(fun h=>by cases h),.nils,⟨rf,tv⟩,Int.natCast_nonneg _,Int.le_refl _,(by show (4:Int) * 24≤_; omega),(by show (4:Int)≤_; omega),false,(fun h=>by cases h),?_⟩
 refine ⟨by kernel_rfl,?_⟩
 refine ⟨Nat,nwInvO coin window budget,fun z=>z≤4,fun z=>4 - z,0,fun _=>rfl,?_⟩
 refine ⟨⟨⟨rfl,rf,rf,tv⟩,⟨⟨rfl,rfl⟩,⟨rfl,rfl⟩,⟨rfl,rfl⟩,⟨rfl,rfl⟩,⟨rf,rf,rf,rf,rf,rf,rfl,rfl,⟨rfl,rfl,rfl,rfl,1,rfl⟩,rfl,rf,tv⟩,⟨rfl,rfl,1,rfl⟩,tv⟩,rfl,rfl⟩,Nat.zero_le _,?_⟩
 rintro j hj
 refine ⟨fun hlt=>?_,fun hge=>?_⟩
 ·have hlt:j<4:=by have:=of_decide_eq_true hlt; omega
  refine .inr ⟨[],[.dv (.fn 33 [])],[],1,_,_,newT_spec,by kernel_rfl,by kernel_rfl,⟨rf,tv⟩,tv,?_⟩
  refine .inr (.inl ⟨[srtD true []],rfl,⟨rfl,tv⟩,(by simp; rfl),?_⟩)
  refine .inr (.inr ⟨rfl,[srtD true []],ELes.refl _,(by rw [byPt,List.length_replicate]; simp; omega),(by rw [List.length_replicate]; simp; omega),?_⟩)
  exact ⟨by kernel_rfl,fun _=>⟨by omega,by omega⟩,j+1,⟨⟨rfl,rf,le_int (by simp),tv⟩,⟨⟨rfl,rfl⟩,⟨rfl,rfl⟩,⟨rfl,rfl⟩,⟨rfl,rfl⟩,⟨rf,rf,rf,rf,rf,rf,rfl,rfl,rfl,rfl,rf,tv⟩,⟨rfl,by rw [List.replicate_succ']⟩,tv⟩,rfl,rfl⟩,by omega,by simp only; omega⟩
 ·have hge:j=4:=by have:=of_decide_eq_false hge; omega
  subst hge
  exact ⟨_,_,⟨rfl,rfl⟩,by kernel_rfl,⟨rfl,rf,tv⟩,⟨rfl,rfl⟩,⟨rfl,rfl⟩,⟨rfl,rfl⟩,⟨rfl,rfl⟩,⟨rf,rf,rf,rf,rf,rf,rfl,rfl,rfl,rfl,⟨rfl,rfl,rfl,rfl,1,rfl⟩,tv⟩,⟨rfl,rfl⟩,⟨rfl,rfl,1,rfl⟩,tv⟩
set_option maxHeartbeats 4000000 in
theorem newDO_spec (coin window budget:Int):CSpec Tryz.prog 11 [catA,.dv (I coin),.dv (I window),.dv (I budget)] 1 (itK nameGold) 0 [.dv .nilp,.dv (I 8)] (itK nameGold):=by
 refine cspec_of tab_ok mixed (calls_snd _) (range_snd _) Tryz.func11 rfl rfl (by kernel_rfl) ?_
 refine .inl (.inl ⟨_,fun _=>valid2_spec.ok,rfl,?_⟩)
 refine ⟨fun _=>?_,fun h9=>by simp at h9⟩
 exact ⟨_,_,⟨rfl,rfl⟩,by kernel_rfl,⟨rf,rf,tv⟩,⟨rfl,rfl⟩,tv⟩
set_option maxHeartbeats 4000000 in
theorem rnewAO_spec (coin window budget:Int) (h:badC coin=true):CSpec Tryz.prog 12 [catA,.dv (I coin),.dv (I window),.dv (I budget)] 1 (itK nameIron) 0 [.dv .nilp,.dv (I 9)] (itK nameIron):=by
 refine cspec_of tab_ok mixed (calls_snd _) (range_snd _) Tryz.func12 rfl rfl (by kernel_rfl) ?_
 refine .inl (.inl ⟨_,fun _=>rvalid_spec.ok,rfl,?_⟩)
 refine ⟨fun h9=>by simp at h9,fun _=>?_⟩
 repeat first | refine ⟨id,?_⟩ | refine ⟨fun _ h=>bw_f h,?_⟩ | refine ⟨fun _ h=>bw_t h,?_⟩ | refine ⟨fun h=>⟨h,fun h2=>bw_and h h2⟩,?_⟩ | refine ⟨fun h=>⟨h,fun h2=>bw_andf h h2⟩,?_⟩
 obtain ⟨nm,hnm⟩:=item_o nameIron coin
 refine ⟨fun hg=>(hnm hg).1,?_⟩
 repeat first | refine ⟨id,?_⟩ | refine ⟨fun _ h=>bw_f h,?_⟩ | refine ⟨fun _ h=>bw_t h,?_⟩ | refine ⟨fun h=>⟨h,fun h2=>bw_and h h2⟩,?_⟩ | refine ⟨fun h=>⟨h,fun h2=>bw_andf h h2⟩,?_⟩
 refine ⟨_,fun hg=>(hnm hg).2,?_⟩
 repeat first | refine ⟨id,?_⟩ | refine ⟨fun _ h=>bw_f h,?_⟩ | refine ⟨fun _ h=>bw_t h,?_⟩ | refine ⟨fun h=>⟨h,fun h2=>bw_and h h2⟩,?_⟩ | refine ⟨fun h=>⟨h,fun h2=>bw_andf h h2⟩,?_⟩
 refine ⟨fun _=>?_,fun hc=>?_⟩
 ·exact ⟨_,_,⟨rfl,rfl⟩,by kernel_rfl,⟨rf,rf,tv⟩,⟨rfl,rfl⟩,tv⟩
 ·have:badC coin=false:=hc
  rw [h] at this; cases this
set_option maxHeartbeats 4000000 in
theorem rnewBO_spec (coin window budget:Int) (h:badC coin=false) (h2:badW window budget=true):CSpec Tryz.prog 12 [catA,.dv (I coin),.dv (I window),.dv (I budget)] 1 (itK nameIron) 0 [.dv .nilp,.dv (I 5)] (itK nameIron):=by
 refine cspec_of tab_ok mixed (calls_snd _) (range_snd _) Tryz.func12 rfl rfl (by kernel_rfl) ?_
 refine .inl (.inl ⟨_,fun _=>rvalid_spec.ok,rfl,?_⟩)
 refine ⟨fun h9=>by simp at h9,fun _=>?_⟩
 repeat first | refine ⟨id,?_⟩ | refine ⟨fun _ h=>bw_f h,?_⟩ | refine ⟨fun _ h=>bw_t h,?_⟩ | refine ⟨fun h=>⟨h,fun h2=>bw_and h h2⟩,?_⟩ | refine ⟨fun h=>⟨h,fun h2=>bw_andf h h2⟩,?_⟩
 obtain ⟨nm,hnm⟩:=item_o nameIron coin
 refine ⟨fun hg=>(hnm hg).1,?_⟩
 repeat first | refine ⟨id,?_⟩ | refine ⟨fun _ h=>bw_f h,?_⟩ | refine ⟨fun _ h=>bw_t h,?_⟩ | refine ⟨fun h=>⟨h,fun h2=>bw_and h h2⟩,?_⟩ | refine ⟨fun h=>⟨h,fun h2=>bw_andf h h2⟩,?_⟩
 refine ⟨_,fun hg=>(hnm hg).2,?_⟩
 repeat first | refine ⟨id,?_⟩ | refine ⟨fun _ h=>bw_f h,?_⟩ | refine ⟨fun _ h=>bw_t h,?_⟩ | refine ⟨fun h=>⟨h,fun h2=>bw_and h h2⟩,?_⟩ | refine ⟨fun h=>⟨h,fun h2=>bw_andf h h2⟩,?_⟩
 refine ⟨fun hc=>?_,fun _=>?_⟩
 ·have:badC coin=true:=hc
  rw [h] at this; cases this
 repeat first | refine ⟨id,?_⟩ | refine ⟨fun _ h=>bw_f h,?_⟩ | refine ⟨fun _ h=>bw_t h,?_⟩ | refine ⟨fun h=>⟨h,fun h2=>bw_and h h2⟩,?_⟩ | refine ⟨fun h=>⟨h,fun h2=>bw_andf h h2⟩,?_⟩
 refine ⟨fun _=>?_,fun hc=>?_⟩
 ·exact ⟨_,_,⟨rfl,rfl⟩,by kernel_rfl,⟨rf,rf,tv⟩,⟨rfl,rfl⟩,tv⟩
 ·have:badW window budget=false:=hc
  rw [h2] at this; cases this
set_option maxHeartbeats 4000000 in
theorem rnewCO_spec (coin window budget:Int) (h:badC coin=false) (h2:badW window budget=false):CSpec Tryz.prog 12 [catA,.dv (I coin),.dv (I window),.dv (I budget)] 1 (itK nameIron) 2 [.ptr 2 0,.dv (I 0)] (itK nameIron++[(2,.cells (rvC coin window budget))]):=by
 refine cspec_of tab_ok mixed (calls_snd _) (range_snd _) Tryz.func12 rfl rfl (by kernel_rfl) ?_
 refine .inl (.inl ⟨_,fun _=>rvalid_spec.ok,rfl,?_⟩)
 refine ⟨fun h9=>by simp at h9,fun _=>?_⟩
 repeat first | refine ⟨id,?_⟩ | refine ⟨fun _ h=>bw_f h,?_⟩ | refine ⟨fun _ h=>bw_t h,?_⟩ | refine ⟨fun h=>⟨h,fun h2=>bw_and h h2⟩,?_⟩ | refine ⟨fun h=>⟨h,fun h2=>bw_andf h h2⟩,?_⟩
 obtain ⟨nm,hnm⟩:=item_o nameIron coin
 refine ⟨fun hg=>(hnm hg).1,?_⟩
 repeat first | refine ⟨id,?_⟩ | refine ⟨fun _ h=>bw_f h,?_⟩ | refine ⟨fun _ h=>bw_t h,?_⟩ | refine ⟨fun h=>⟨h,fun h2=>bw_and h h2⟩,?_⟩ | refine ⟨fun h=>⟨h,fun h2=>bw_andf h h2⟩,?_⟩
 refine ⟨_,fun hg=>(hnm hg).2,?_⟩
 repeat first | refine ⟨id,?_⟩ | refine ⟨fun _ h=>bw_f h,?_⟩ | refine ⟨fun _ h=>bw_t h,?_⟩ | refine ⟨fun h=>⟨h,fun h2=>bw_and h h2⟩,?_⟩ | refine ⟨fun h=>⟨h,fun h2=>bw_andf h h2⟩,?_⟩
 refine ⟨fun hc=>?_,fun _=>?_⟩
 ·have:badC coin=true:=hc
  rw [h] at this; cases this
 repeat first | refine ⟨id,?_⟩ | refine ⟨fun _ h=>bw_f h,?_⟩ | refine ⟨fun _ h=>bw_t h,?_⟩ | refine ⟨fun h=>⟨h,fun h2=>bw_and h h2⟩,?_⟩ | refine ⟨fun h=>⟨h,fun h2=>bw_andf h h2⟩,?_⟩
 refine ⟨fun hc=>?_,fun _=>?_⟩
 ·have:badW window budget=true:=hc
  rw [h2] at this; cases this
 exact ⟨_,_,⟨rfl,rfl⟩,by kernel_rfl,⟨rfl,rf,tv⟩,⟨rfl,rfl⟩,⟨rf,rf,rf,rf,rf,rf,tv⟩,tv⟩
end Go.Proofs.YtpbdohkbiklflaaGreatDoor
namespace Go.Proofs.YtpbdohkbiklflaaGreatDoor
open Go.TM
variable [KObj]
set_option maxRecDepth 100000
theorem size_spec (s:Vs) (h:s.H.length+s.sold.length≤1000000):CSpec Tryz.prog 25 [.ptr 0 0] 6 (vK false s) 0 [.dv (I ((s.H.length:Int)+(s.sold.length:Int)))] (vK false s):=by
 refine cspec_of tab_ok mixed (calls_snd _) (range_snd _) Tryz.func25 rfl rfl (by kernel_rfl) ?_
 refine ⟨fun _=>⟨by rw [List.length_map,List.length_map]; omega,by rw [List.length_map,List.length_map]; omega⟩,by kernel_rfl,?_⟩
 exact ⟨_,_,⟨rfl,rfl⟩,by kernel_rfl,⟨le_int (by rw [List.length_map,List.length_map]),tv⟩,⟨rf,rf,rf,rf,rf,rf,rfl,rfl,rfl,rfl,rfl,tv⟩,⟨rfl,rfl⟩,⟨rfl,rfl⟩,⟨rfl,rfl⟩,⟨rfl,rfl⟩,⟨rfl,rfl⟩,tv⟩
def topM (s:Vs) (it n:Int):List Rk:=if it<0 ∨ 4≤it ∨ n≤0 then [] else (s.rk.getD it.toNat (true,[])).2.take n.toNat
theorem firstA_spec {L:List DV} {i:Nat} {f:Bool} {l:List Rk} (h:L[i]?=some (srtD f l)) (hf:f=true→l=[]) (n:Nat) (hn:1≤n) (hn63:n≤9223372036854775807) (hl:l.length≤1000) :
  CSpec Tryz.prog 55 [.own 0 0 0 [.el i 0],.dv (I n)] 1 [(0,.tree 0 0 (.osl 1 L))] 0 [.dv (.sl 2 ((l.take n).map eR))] [(0,.tree 0 0 (.osl 1 L))]:=by
 have hs:setP (.osl 1 L) [.el i 0] (srtD f l)=.osl 1 L:=by
  rw [setP_rk h rfl rfl]
  congr 1
  obtain ⟨hlt,he⟩:=List.getElem?_eq_some_iff.1 h
  rw [←he]; exact List.set_getElem_self hlt
 cases l with
 | nil =>
  have:=cspec_lendR (p:=[.el i 0]) (D:=.osl 1 L) (first0_spec f n) hs (get_rk h rfl) (by simp) rfl rfl rfl rfl
  simpa using this
 | cons r l' =>
  cases f with
  | true=>have:=hf rfl; cases this
  | false=>exact cspec_lendR (p:=[.el i 0]) (D:=.osl 1 L) (first1_spec n hn hn63 r l' hl) hs (get_rk h rfl) (by simp) rfl rfl rfl rfl
theorem top_spec (s:Vs) (hl:s.rk.length=4) (hr:∀x,x∈s.rk→x.2.length≤1000∧(x.1=true→x.2=[])) (it n:Int) (hn:n≤9223372036854775807) :
  CSpec Tryz.prog 29 [.ptr 0 0,.dv (I it),.dv (I n)] 6 (vK false s) 0 [.dv (.sl 2 ((topM s it n).map eR))] (vK false s):=by
 refine cspec_of tab_ok mixed (calls_snd _) (range_snd _) Tryz.func29 rfl rfl (by kernel_rfl) ?_
 repeat first | refine ⟨id,?_⟩ | refine ⟨fun _ h=>bw_f h,?_⟩ | refine ⟨fun _ h=>bw_t h,?_⟩ | refine ⟨fun h=>⟨h,fun h2=>bw_and h h2⟩,?_⟩ | refine ⟨fun h=>⟨h,fun h2=>bw_andf h h2⟩,?_⟩
 have e:(bif bif decide (it<0) then true else decide (4≤it) then true else decide (n≤0))=decide (it<0 ∨ 4≤it ∨ n≤0):=by by_cases h1:it<0 <;> by_cases h2:4≤it <;> simp [h1,h2]
 refine ⟨fun h=>?_,fun h=>?_⟩
 ·have h:=of_decide_eq_true (e.symm.trans h)
  rw [show topM s it n=[] from if_pos h]
  exact ⟨_,_,⟨rfl,rfl⟩,by kernel_rfl,⟨nils_le _,tv⟩,⟨rf,rf,rf,rf,rf,rf,rfl,rfl,rfl,rfl,rfl,tv⟩,⟨rfl,rfl⟩,⟨rfl,rfl⟩,⟨rfl,rfl⟩,⟨rfl,rfl⟩,⟨rfl,rfl⟩,tv⟩
 ·have h:=of_decide_eq_false (e.symm.trans h)
  obtain ⟨i,rfl⟩:=Int.eq_ofNat_of_zero_le (show 0≤it by omega)
  obtain ⟨m,rfl⟩:=Int.eq_ofNat_of_zero_le (show 0≤n by omega)
  have hi:i<s.rk.length:=by omega
  have hrk:s.rk[i]?=some (s.rk.getD i (true,[])):=by rw [List.getD_eq_getElem?_getD,List.getElem?_eq_getElem hi]; rfl
  rw [show topM s (i:Int) (m:Int)=(s.rk.getD i (true,[])).2.take m from if_neg h]
  obtain ⟨q1,q2⟩:=hr _ (List.mem_of_getElem? hrk)
  generalize s.rk.getD i (true,[])=q0 at *
  obtain ⟨f0,l0⟩:=q0
  have hre:(s.rk.map eRk)[i]?=some (srtD f0 l0):=by rw [List.getElem?_map,hrk]; rfl
  have hsp:=firstA_spec hre q2 m (by omega) (by omega) q1
  refine ⟨fun _=>⟨by omega,by rw [List.length_map]; omega⟩,srtD f0 l0,fun _=>hre,?_⟩
  refine .inr ⟨[3],[.own 0 0 0 [.el i 0],.dv (I m)],[(0,.tree 0 0 (.osl 1 (s.rk.map eRk)))],0,_,_,hsp,by kernel_rfl,by kernel_rfl,⟨rfl,rf,tv⟩,⟨⟨rfl,rfl⟩,tv⟩,?_⟩
  exact ⟨_,_,⟨rfl,rfl⟩,by kernel_rfl,⟨rf,tv⟩,⟨rf,rf,rf,rf,rf,rf,rfl,rfl,rfl,rfl,rfl,tv⟩,⟨rfl,rfl⟩,⟨rfl,rfl⟩,⟨rfl,rfl⟩,⟨rfl,rfl⟩,⟨rfl,rfl⟩,tv⟩
end Go.Proofs.YtpbdohkbiklflaaGreatDoor
namespace Go.Proofs.YtpbdohkbiklflaaGreatDoor
open Go.TM
def isAcc (n:Int):Bool:=decide (0≤n) && decide (n≤1073741824)
abbrev IM:=List (Int × Int)
def eIe (p:Int × Int):DV:=.ent (I p.1) (I p.2)
def iget:IM→Int→Option Int
 | [],_=>none
 | p::r,k=>if p.1=k then some p.2 else iget r k
def iput:IM→Int→Int→IM
 | [],k,x=>[(k,x)]
 | p::r,k,x=>if p.1=k then (k,x)::r else p::iput r k x
def iv (m:IM) (k:Int):Int:=(iget m k).getD 0
theorem keq_int (a b:Int):keq (I a) (I b)=decide (a=b):=by
 simp only [keq,keq1]
 try rw [Bool.eq_iff_iff]; simp
theorem mget_i (k:Int):∀m:IM,mget (m.map eIe) (I k)=(iget m k).map I
 | []=>rfl
 | p::r=>by
  simp only [List.map_cons,eIe,mget,keq_int,iget]
  by_cases h:p.1=k
  ·simp [h]
  ·simp only [h,decide_false,cond_false,if_false]
   exact mget_i k r
theorem mput_i (k x:Int):∀m:IM,mput (m.map eIe) (I k) (I x)=(iput m k x).map eIe
 | []=>rfl
 | p::r=>by
  simp only [List.map_cons,eIe,mput,keq_int,iput]
  by_cases h:p.1=k
  ·simp [h,eIe]
  ·simp only [h,decide_false,cond_false,if_false,List.map_cons]
   have:=mput_i k x r
   rw [this]
   rfl
theorem iv_iput (m:IM) (k x j:Int):iv (iput m k x) j=if k=j then x else iv m j:=by
 unfold iv
 induction m with
 | nil=>simp only [iput,iget]; split <;> rfl
 | cons p r ih =>
  simp only [iput]
  by_cases h:p.1=k
  ·simp only [h,if_true,iget]
   by_cases h2:k=j
   ·simp [h2]
   ·simp [h2]
  ·simp only [h,if_false,iget]
   by_cases h2:p.1=j
   ·have:k ≠ j:=fun h3=>h (h2.trans h3.symm)
    simp [h2,this]
   ·simp only [h2,if_false]
    exact ih
variable [KObj]
set_option maxRecDepth 100000
theorem isAcc_spec (n:Int):PSpec Tryz.prog 114 [I n] [B (isAcc n)]:=by
 refine pspec_of tab_ok mixed (calls_snd _) (range_snd _) Tryz.func114 rfl (by kernel_rfl) rfl ?_
 repeat first | refine ⟨id,?_⟩ | refine ⟨fun _ h=>bw_f h,?_⟩ | refine ⟨fun _ h=>bw_t h,?_⟩ | refine ⟨fun h=>⟨h,fun h2=>bw_and h h2⟩,?_⟩ | refine ⟨fun h=>⟨h,fun h2=>bw_andf h h2⟩,?_⟩
 refine ⟨DV.Le.of_eq ?_,tv⟩
 unfold isAcc
 cases decide (0≤n) <;> rfl
theorem keyT_i:KeyT Tryz.prog (nth tab 167).key intK:=keyT_int tab_ok (by kernel_rfl)
abbrev SS:=List (Nat × Sl)
def ofI (S:SS) (i:Nat):List Sl:=(S.filter (fun p=>p.1 == i)).map (·.2)
structure SalesOk (s:Vs) (S:SS):Prop where
 sold:s.sold=S.map fun p=>(p.1:Int)
 sll:s.sl.length=4
 it:∀p∈S,p.1<4
 sl:∀(i:Nat) (f:Bool) (l:List Sl),s.sl[i]?=some (f,l)→l=ofI S i
 sf:∀(i:Nat) (f:Bool) (l:List Sl),s.sl[i]?=some (f,l)→f=true→l=[]
 len:S.length≤1000
 tk:∀p∈S,0≤p.2.tick∧p.2.tick≤1099511627776
def leavN (S:SS) (lim:Int):Nat:=(S.takeWhile fun p=>decide (p.2.tick≤lim)).length
theorem filt_at {α:Type} (q:α→Bool):∀(S:List α) (j:Nat) (x:α),S[j]?=some x→q x=true→(S.filter q)[(S.take j).countP q]?=some x
 | [],j,x,h,_=>by simp at h
 | y::r,0,x,h,hq=>by
  simp only [List.getElem?_cons_zero,Option.some.injEq] at h
  subst h
  simp [hq]
 | y::r,j+1,x,h,hq=>by
  simp only [List.getElem?_cons_succ] at h
  have ih:=filt_at q r j x h hq
  by_cases hy:q y=true
  ·simp only [List.filter_cons_of_pos hy,List.take_succ_cons,List.countP_cons_of_pos hy,List.getElem?_cons_succ]
   exact ih
  ·simp only [List.filter_cons_of_neg hy,List.take_succ_cons,List.countP_cons_of_neg hy]
   exact ih
theorem take_snoc {α:Type} {S:List α} {j:Nat} {x:α} (h:S[j]?=some x):S.take (j+1)=S.take j++[x]:=by
 rw [List.take_add_one,h]; rfl
theorem tw_len {S:SS} {lim:Int} {j:Nat} (h1:∀p∈S.take j,p.2.tick≤lim) (h2:∀x,S[j]?=some x→¬ x.2.tick≤lim) (hj:j≤S.length):leavN S lim=j:=by
 induction S generalizing j with
 | nil=>simp at hj; subst hj; rfl
 | cons y r ih =>
  unfold leavN
  cases j with
  | zero =>
   have:=h2 y rfl
   rw [List.takeWhile_cons_of_neg (by simpa using this)]; rfl
  | succ j =>
   have hy:y.2.tick≤lim:=h1 y (by simp)
   rw [List.takeWhile_cons_of_pos (by simpa using hy),List.length_cons]
   have:=ih (j:=j) (fun p hp=>h1 p (by rw [List.take_succ_cons]; exact List.mem_cons_of_mem _ hp)) (fun x hx=>h2 x (by simpa using hx)) (by simpa using hj)
   unfold leavN at this
   rw [this]
structure LvI where
 m:IM
 j:Nat
def lvInv (s:Vs) (tick:Int) (x:LvI):AState:=⟨7,[(0,.ptr 0 0),(1,.dv (I tick)),(5,.own 6 0 0 []),(6,.dv (I x.j)),(13,.own 5 0 0 []),(14,.dv (I s.sold.length)),(15,.dv (I x.j))],vK false s++[(6,.tree 0 0 (.omap intK (x.m.map eIe)))]⟩
set_option maxHeartbeats 4000000 in
theorem leaving_spec (s:Vs) (S:SS) (h:SalesOk s S) (tick:Int) (hb:-4611686018427387904≤tick - s.window∧tick - s.window≤4611686018427387904):CSpec Tryz.prog 52 [.ptr 0 0,.dv (I tick)] 6 (vK false s) 0 [.dv (I (leavN S (tick - s.window)))] (vK false s):=by
 refine cspec_of tab_ok mixed (calls_snd _) (range_snd _) Tryz.func52 rfl rfl (by kernel_rfl) ?_
 refine ⟨intK,LvI,lvInv s tick,fun x=>x.j≤S.length∧(∀k:Nat,iv x.m k=((S.take x.j).countP fun p=>p.1 == k:Nat))∧∀p∈S.take x.j,p.2.tick≤tick - s.window,fun x=>S.length - x.j,⟨[],0⟩,fun _=>rfl,⟨⟨rfl,rf,rfl,rf,rfl,le_int (by rw [List.length_map]),rf,tv⟩,⟨⟨rf,rf,rf,rf,rf,rf,rfl,rfl,rfl,rfl,rfl,tv⟩,⟨rfl,rfl⟩,⟨rfl,rfl⟩,⟨rfl,rfl⟩,⟨rfl,rfl⟩,⟨rfl,rfl⟩,⟨rfl,rfl⟩,tv⟩,rfl,rfl⟩,⟨Nat.zero_le _,fun _=>by simp [iv,iget],by simp⟩,?_⟩
 rintro ⟨m,j⟩ ⟨p1,p2,p3⟩
 simp only at p1 p2 p3
 have hsl:s.sold.length=S.length:=by rw [h.sold,List.length_map]
 refine ⟨fun hlt=>?_,fun hge=>?_⟩
 ·have hlt:j<S.length:=by have:=of_decide_eq_true hlt; simp only [Int.ofNat_lt] at this; omega
  obtain ⟨⟨it,x⟩,hx⟩:∃q,S[j]?=some q:=⟨_,List.getElem?_eq_getElem hlt⟩
  have hso:(List.map I s.sold)[((j:Int)).toNat]?=some (I (it:Int)):=by rw [h.sold,List.map_map,List.getElem?_map,Int.toNat_natCast,hx]; rfl
  have h4:it<4:=h.it _ (List.mem_of_getElem? hx)
  have htk:=h.tk _ (List.mem_of_getElem? hx)
  simp only at htk
  have hfe:=filt_at (fun p=>p.1 == it) S j _ hx (by simp)
  obtain ⟨⟨f,l⟩,hl⟩:∃q,s.sl[it]?=some q:=⟨_,List.getElem?_eq_getElem (by rw [h.sll]; exact h4)⟩
  have hll:=h.sl _ _ _ hl
  have hle:l[(S.take j).countP fun p=>p.1 == it]?=some x:=by rw [hll,ofI,List.getElem?_map,hfe]; rfl
  obtain rfl:f=false:=by
   cases f with
   | false=>rfl
   | true=>rw [h.sf _ _ _ hl rfl] at hle; cases hle
  have hse:(s.sl.map eSs)[((it:Int)).toNat]?=some (.osl 5 (l.map eSl)):=by rw [List.getElem?_map,Int.toNat_natCast,hl]; rfl
  have hc:=p2 it
  generalize hcn:(S.take j).countP (fun p=>p.1 == it)=c at *
  have hcl:c<l.length:=(List.getElem?_eq_some_iff.1 hle).1
  have hll2:l.length≤S.length:=by rw [hll,ofI,List.length_map]; exact List.length_filter_le ..
  have hlen:=h.len
  refine ⟨fun _=>⟨by simp only; omega,by rw [List.length_map]; simp only; omega⟩,I (it:Int),fun _=>hso,?_⟩
  refine ⟨fun _=>⟨by omega,by rw [List.length_map,h.sll]; omega⟩,.osl 5 (l.map eSl),fun _=>hse,?_⟩
  have hg:mget (m.map eIe) (I (it:Int))=bif (iget m it).isSome then some (I (iv m it)) else none:=by
   rw [mget_i]; unfold iv; cases iget m it <;> rfl
  have hz:(iget m it).isSome=false→I (iv m it)=I 0:=by
   intro h9; unfold iv; cases hq:iget m it with
   | none=>rfl
   | some y=>rw [hq] at h9; cases h9
  refine ⟨keyT_i,I (it:Int),rfl,rfl,I (iv m it),(iget m it).isSome,fun _=>hg,hz,rfl,?_⟩
  have hc':iv m (it:Int)=(c:Int):=hc
  have hee:(l.map eSl)[((iv m (it:Int))).toNat]?=some (eSl x):=by rw [hc',List.getElem?_map,Int.toNat_natCast,hle]; rfl
  refine ⟨.osl 5 (l.map eSl),fun _=>hse,?_⟩
  refine ⟨fun _=>⟨by rw [hc']; omega,by rw [List.length_map,hc']; omega⟩,?_⟩
  refine ⟨.osl 5 (l.map eSl),fun _=>hse,?_⟩
  refine ⟨eSl x,fun _=>hee,?_⟩
  refine ⟨fun _=>⟨by omega,by omega⟩,?_⟩
  refine ⟨by kernel_rfl,fun hgt=>?_,fun hle=>?_⟩
  ·have hgt:tick - s.window<x.tick:=of_decide_eq_true hgt
   have hN:leavN S (tick - s.window)=j:=tw_len p3 (fun y hy=>by rw [hx] at hy; injection hy with hy; subst hy; simp only; omega) p1
   rw [hN]
   exact ⟨_,_,⟨rfl,rfl⟩,by kernel_rfl,⟨rf,tv⟩,⟨rf,rf,rf,rf,rf,rf,rfl,rfl,rfl,rfl,rfl,tv⟩,⟨rfl,rfl⟩,⟨rfl,rfl⟩,⟨rfl,rfl⟩,⟨rfl,rfl⟩,⟨rfl,rfl⟩,tv⟩
  ·have hle':x.tick≤tick - s.window:=by have:=of_decide_eq_false hle; omega
   refine ⟨keyT_i,I (it:Int),rfl,rfl,I (iv m it),(iget m it).isSome,fun _=>hg,hz,rfl,?_⟩
   refine ⟨fun _=>⟨by rw [hc']; omega,by rw [hc']; omega⟩,?_⟩
   refine ⟨keyT_i,I (it:Int),rfl,rfl,I (iv m it+1),⟨rf,tv⟩,rfl,false,fun _=>⟨?_,?_⟩,?_⟩
   ·intro z hz' d hd
    rw [hg] at hz'
    cases hk:(iget m (it:Int)).isSome with
    | false=>rw [hk] at hz'; cases hz'
    | true=>rw [hk] at hz'; injection hz' with hz'; subst hz'; simp [DV.cells] at hd; subst hd; rfl
   ·intro d hd
    simp [DV.cells] at hd; subst hd; rfl
   ·refine ⟨fun _=>⟨by simp only; omega,by simp only; omega⟩,fun _=>⟨by simp only; omega,by simp only; omega⟩,⟨iput m it (iv m it+1),j+1⟩,⟨⟨rfl,rf,rfl,le_int (by simp),rfl,rf,le_int (by simp),tv⟩,⟨⟨rf,rf,rf,rf,rf,rf,rfl,rfl,rfl,rfl,rfl,tv⟩,⟨rfl,rfl⟩,⟨rfl,rfl⟩,⟨rfl,rfl⟩,⟨rfl,rfl⟩,⟨rfl,rfl⟩,⟨rfl,by rw [mput_i]⟩,tv⟩,rfl,rfl⟩,⟨by simp only; omega,fun k=>?_,fun p hp=>?_⟩,by simp only; omega⟩
    ·simp only
     rw [iv_iput,take_snoc hx,List.countP_append]
     by_cases hk:(it:Int)=(k:Int)
     ·rw [if_pos hk]
      have hk':it=k:=by omega
      subst hk'
      have:=p2 it
      rw [this]
      simp
     ·rw [if_neg hk,p2 k]
      have hk':it ≠ k:=fun h=>hk (by rw [h])
      simp [hk']
    ·simp only [take_snoc hx] at hp
     rcases List.mem_append.1 hp with h1 | h1
     ·exact p3 p h1
     ·simp only [List.mem_singleton] at h1; subst h1; exact hle'
 ·have hj:j=S.length:=by have:=of_decide_eq_false hge; simp only at this; omega
  have hN:leavN S (tick - s.window)=j:=tw_len p3 (fun y hy=>by rw [hj,List.getElem?_eq_none (Nat.le_refl _)] at hy; cases hy) p1
  rw [hN]
  exact ⟨_,_,⟨rfl,rfl⟩,by kernel_rfl,⟨rf,tv⟩,⟨rf,rf,rf,rf,rf,rf,rfl,rfl,rfl,rfl,rfl,tv⟩,⟨rfl,rfl⟩,⟨rfl,rfl⟩,⟨rfl,rfl⟩,⟨rfl,rfl⟩,⟨rfl,rfl⟩,tv⟩
end Go.Proofs.YtpbdohkbiklflaaGreatDoor
namespace Go.Proofs.YtpbdohkbiklflaaGreatDoor
open Go.TM
variable [KObj]
set_option maxRecDepth 100000
structure Mv where
 f:Int
 t:Int
 it:Int
 n:Int
def eMv (m:Mv):DV:=.agg [I m.f,I m.t,I m.it,I m.n,.nils]
structure St where
 id:Int
 kind:Int
 actor:Int
 tick:Int
 rule:Int
 times:Int
 mv:List Mv
def eMvs (l:List Mv):DV:=.sl 5 (l.map eMv)
def aSt (s:St):AV:=.agg [.dv (I s.id),.dv (I s.kind),.dv (I s.actor),.dv (I s.tick),.dv (I s.rule),.dv (I s.times),.dv (eMvs s.mv)]
def sale2 (coin:Int) (a b:Mv):Int × Int × Int × Bool :=
 (a.it,a.n,b.n,bif bif bif bif bif !(decide (a.it=coin)) then decide (b.it=coin) else false then decide (a.f=b.t) else false then decide (a.t=b.f) else false then !(decide (a.f=0)) else false then !(decide (a.t=0)) else false)
def saleM (coin:Int) (s:St):Int × Int × Int × Bool :=
 if s.kind ≠ 2 then (0,0,0,false) else
 match s.mv with
 | [a,b]=>if a.it=coin then sale2 coin b a else sale2 coin a b
 | _=>(0,0,0,false)
set_option maxHeartbeats 4000000 in
theorem saleOf_spec (s:Vs) (st:St):CSpec Tryz.prog 51 [.ptr 0 0,aSt st] 6 (vK false s) 0 [.dv (I (saleM s.coin st).1),.dv (I (saleM s.coin st).2.1),.dv (I (saleM s.coin st).2.2.1),.dv (B (saleM s.coin st).2.2.2)] (vK false s):=by
 refine cspec_of tab_ok mixed (calls_snd _) (range_snd _) Tryz.func51 rfl rfl (by kernel_rfl) ?_
 repeat first | refine ⟨id,?_⟩ | refine ⟨fun _ h=>bw_f h,?_⟩ | refine ⟨fun _ h=>bw_t h,?_⟩ | refine ⟨fun h=>⟨h,fun h2=>bw_and h h2⟩,?_⟩ | refine ⟨fun h=>⟨h,fun h2=>bw_andf h h2⟩,?_⟩
 refine ⟨fun hc=>?_,fun hc=>?_⟩
 ·have hsm:saleM s.coin st=(0,0,0,false):=by
   unfold saleM
   by_cases hk:st.kind=2
   ·rw [if_neg (by simpa using hk)]
    have h2:¬ st.mv.length=2:=by
     intro h2; rw [List.length_map,h2,hk] at hc; simp at hc
    match hm:st.mv with
    | []=>rfl
    | [_]=>rfl
    | [_,_]=>rw [hm] at h2; exact absurd rfl h2
    | _::_::_::_=>rfl
   ·rw [if_pos hk]
  rw [hsm]
  exact ⟨_,_,⟨rfl,rfl⟩,by kernel_rfl,⟨rf,rf,rf,rf,tv⟩,⟨rf,rf,rf,rf,rf,rf,rfl,rfl,rfl,rfl,rfl,tv⟩,⟨rfl,rfl⟩,⟨rfl,rfl⟩,⟨rfl,rfl⟩,⟨rfl,rfl⟩,⟨rfl,rfl⟩,tv⟩
 have hk:st.kind=2:=by
  by_cases hk:st.kind=2
  ·exact hk
  ·exfalso; have:(st.kind != 2)=true:=by simpa using hk
   rw [this] at hc; cases hc
 have hl:st.mv.length=2:=by
  rw [hk,List.length_map] at hc
  have:((st.mv.length:Int) != 2)=false:=hc
  simp at this; omega
 obtain ⟨a,b,hm⟩:∃a b,st.mv=[a,b]:=by
  match hm:st.mv with
  | [a,b]=>exact ⟨a,b,rfl⟩
  | []=>rw [hm] at hl; cases hl
  | [_]=>rw [hm] at hl; cases hl
  | _::_::_::_=>rw [hm] at hl; simp at hl
 have e0:(st.mv.map eMv)[0]?=some (eMv a):=by rw [hm]; rfl
 have e1:(st.mv.map eMv)[1]?=some (eMv b):=by rw [hm]; rfl
 refine ⟨eMv a,fun _=>⟨by omega,e0⟩,?_⟩
 refine ⟨eMv b,fun _=>⟨by omega,e1⟩,?_⟩
 have hsm:saleM s.coin st=if a.it=s.coin then sale2 s.coin b a else sale2 s.coin a b:=by
  unfold saleM; rw [if_neg (by simpa using hk),hm]
 refine ⟨by kernel_rfl,by kernel_rfl,fun hq=>?_,fun hq=>?_⟩
 ·have hq:a.it=s.coin:=of_decide_eq_true hq
  rw [hsm,if_pos hq]
  repeat first | refine ⟨id,?_⟩ | refine ⟨fun _ h=>bw_f h,?_⟩ | refine ⟨fun _ h=>bw_t h,?_⟩ | refine ⟨fun h=>⟨h,fun h2=>bw_and h h2⟩,?_⟩ | refine ⟨fun h=>⟨h,fun h2=>bw_andf h h2⟩,?_⟩
  exact ⟨by kernel_rfl,by kernel_rfl,_,_,⟨rfl,rfl⟩,by kernel_rfl,⟨rf,rf,rf,rf,tv⟩,⟨rf,rf,rf,rf,rf,rf,rfl,rfl,rfl,rfl,rfl,tv⟩,⟨rfl,rfl⟩,⟨rfl,rfl⟩,⟨rfl,rfl⟩,⟨rfl,rfl⟩,⟨rfl,rfl⟩,tv⟩
 ·have hq:a.it ≠ s.coin:=of_decide_eq_false hq
  rw [hsm,if_neg hq]
  repeat first | refine ⟨id,?_⟩ | refine ⟨fun _ h=>bw_f h,?_⟩ | refine ⟨fun _ h=>bw_t h,?_⟩ | refine ⟨fun h=>⟨h,fun h2=>bw_and h h2⟩,?_⟩ | refine ⟨fun h=>⟨h,fun h2=>bw_andf h h2⟩,?_⟩
  exact ⟨by kernel_rfl,by kernel_rfl,_,_,⟨rfl,rfl⟩,by kernel_rfl,⟨rf,rf,rf,rf,tv⟩,⟨rf,rf,rf,rf,rf,rf,rfl,rfl,rfl,rfl,rfl,tv⟩,⟨rfl,rfl⟩,⟨rfl,rfl⟩,⟨rfl,rfl⟩,⟨rfl,rfl⟩,⟨rfl,rfl⟩,tv⟩
end Go.Proofs.YtpbdohkbiklflaaGreatDoor
namespace Go.Proofs.YtpbdohkbiklflaaGreatDoor
open Go.TM
variable [KObj]
set_option maxRecDepth 100000
def vCg (f h g:Bool) (s:Vs):List AV:=[.dv (I 4),.dv (I s.coin),.dv (I s.window),.dv (I s.budget),.dv (I s.last),.dv (I s.work),.own 1 0 0 [],.own 2 0 0 [],.own 3 0 (bif f then 1 else 0) [],.own 4 0 (bif h then 1 else 0) [],.own 5 (bif g then 1 else 0) 0 []]
def vKg (f h g:Bool) (s:Vs):Boxes:=[(0,.cells (vCg f h g s)),(1,.tree 0 0 (.omap pairK (s.H.map eHe))),(2,.tree 0 0 (vK.Ints2 s.tots)),(3,.tree 0 (bif f then 1 else 0) (.osl 1 (s.rk.map eRk))),(4,.tree 0 (bif h then 1 else 0) (.osl 1 (s.sl.map eSs))),(5,.tree (bif g then 1 else 0) 0 (vK.Ints2 s.sold))]
def sum1 (l:List Sl):Int:=(l.getD (l.length - 1) ⟨0,0,0,0,0⟩).units
def sum2 (l:List Sl):Int:=(l.getD (l.length - 1) ⟨0,0,0,0,0⟩).coins
def sellM (s:Vs) (it:Nat) (l:List Sl) (tick n c:Int):Vs :=
 {s with work:=s.work+1,sold:=s.sold++[(it:Int)],sl:=s.sl.set it (false,l++[⟨tick,n,c,n+sum1 l,c+sum2 l⟩]) }
theorem bySl:(nth tab (nth tab 88).elem).bytes=40:=rfl
theorem byIn:(nth tab (nth tab 30).elem).bytes=8:=rfl
set_option maxHeartbeats 4000000 in
theorem sell1_spec (s:Vs) (it:Nat) (hl:s.sl[it]?=some (true,[])) (tick n c:Int) (hw:0≤s.work∧s.work≤4611686018427387904) (hb:s.sold.length≤1000) :
  CSpec Tryz.prog 54 [.ptr 0 0,.dv (I it),.agg [.dv (I tick),.dv (I n),.dv (I c),.dv (I 0),.dv (I 0)]] 6 (vK false s) 0 [] (vKg false true true (sellM s it [] tick n c)):=by
 refine cspec_of tab_ok mixed (calls_snd _) (range_snd _) Tryz.func54 rfl rfl (by kernel_rfl) ?_
 have hlt:it<s.sl.length:=(List.getElem?_eq_some_iff.1 hl).1
 have hse:(s.sl.map eSs)[((it:Int)).toNat]?=some .nils:=by rw [List.getElem?_map,Int.toNat_natCast,hl]; rfl
 have hin:(0:Int)≤(it:Int)∧(it:Int)<((s.sl.map eSs).length:Int):=⟨by omega,by rw [List.length_map]; omega⟩
 refine ⟨fun _=>hin,.nils,fun _=>hse,?_⟩
 repeat first | refine ⟨id,?_⟩ | refine ⟨fun _ h=>bw_f h,?_⟩ | refine ⟨fun _ h=>bw_t h,?_⟩ | refine ⟨fun h=>⟨h,fun h2=>bw_and h h2⟩,?_⟩ | refine ⟨fun h=>⟨h,fun h2=>bw_andf h h2⟩,?_⟩
 refine ⟨fun h=>by simp at h,fun _=>?_⟩
 refine ⟨fun _=>hin,.nils,fun _=>hse,?_⟩
 refine .inl ⟨[eSl ⟨tick,n,c,n,c⟩],rfl,⟨rf,rf,rf,rf,rf,tv⟩,(by simp; rfl),?_⟩
 refine .inr ⟨[eSl ⟨tick,n,c,n,c⟩],ELes.refl _,(by rw [bySl]; simp),(by simp),?_⟩
 refine ⟨fun _=>hin,?_⟩
 refine ⟨[.osl 5 [eSl ⟨tick,n,c,n,c⟩]],⟨rfl,tv⟩,.nils,hse,?_⟩
 refine ⟨by kernel_rfl,.inl ⟨[I (it:Int)],rfl,⟨rf,tv⟩,(by simp; rfl),.inr ⟨[I (it:Int)],ELes.refl _,(by rw [byIn]; simp; omega),(by simp; omega),?_⟩⟩⟩
 refine ⟨fun _=>⟨by omega,by omega⟩,?_⟩
 have b4:DV.osl 1 ((s.sl.map eSs).set it (.osl 5 [eSl ⟨tick,n,c,n,c⟩]))=.osl 1 ((s.sl.set it (false,[]++[⟨tick,n,c,n+sum1 [],c+sum2 []⟩])).map eSs):=by
  rw [List.map_set]; simp [sum1,sum2,eSs,slD]
 have b5:DV.osl 1 (s.sold.map I++[I (it:Int)])=vK.Ints2 (s.sold++[(it:Int)]):=by simp [vK.Ints2]
 exact ⟨_,_,⟨rfl,rfl⟩,by kernel_rfl,tv,⟨rf,rf,rf,rf,rf,rf,rfl,rfl,rfl,rfl,rfl,tv⟩,⟨rfl,rfl⟩,⟨rfl,rfl⟩,⟨rfl,rfl⟩,⟨rfl,b4⟩,⟨rfl,b5⟩,tv⟩
set_option maxHeartbeats 4000000 in
theorem sell2_spec (s:Vs) (it:Nat) (l:List Sl) (hl:s.sl[it]?=some (false,l)) (tick n c:Int) (hw:0≤s.work∧s.work≤4611686018427387904) (hb:s.sold.length≤1000) (hll:l.length≤1000) (hu:0≤sum1 l∧sum1 l≤1152921504606846976) (hc:0≤sum2 l∧sum2 l≤1152921504606846976) (hnn:0≤n∧n≤1152921504606846976) (hcc:0≤c∧c≤1152921504606846976) :
  CSpec Tryz.prog 54 [.ptr 0 0,.dv (I it),.agg [.dv (I tick),.dv (I n),.dv (I c),.dv (I 0),.dv (I 0)]] 6 (vK false s) 0 [] (vKg false true true (sellM s it l tick n c)):=by
 refine cspec_of tab_ok mixed (calls_snd _) (range_snd _) Tryz.func54 rfl rfl (by kernel_rfl) ?_
 have hlt:it<s.sl.length:=(List.getElem?_eq_some_iff.1 hl).1
 have hse:(s.sl.map eSs)[((it:Int)).toNat]?=some (.osl 5 (l.map eSl)):=by rw [List.getElem?_map,Int.toNat_natCast,hl]; rfl
 have hin:(0:Int)≤(it:Int)∧(it:Int)<((s.sl.map eSs).length:Int):=⟨by omega,by rw [List.length_map]; omega⟩
 have b5:DV.osl 1 (s.sold.map I++[I (it:Int)])=vK.Ints2 (s.sold++[(it:Int)]):=by simp [vK.Ints2]
 refine ⟨fun _=>hin,.osl 5 (l.map eSl),fun _=>hse,?_⟩
 refine ⟨.osl 5 (l.map eSl),fun _=>hse,?_⟩
 repeat first | refine ⟨id,?_⟩ | refine ⟨fun _ h=>bw_f h,?_⟩ | refine ⟨fun _ h=>bw_t h,?_⟩ | refine ⟨fun h=>⟨h,fun h2=>bw_and h h2⟩,?_⟩ | refine ⟨fun h=>⟨h,fun h2=>bw_andf h h2⟩,?_⟩
 refine ⟨fun hp=>?_,fun hp=>?_⟩
 ·have hp:0<l.length:=by have:=of_decide_eq_true hp; rw [List.length_map] at this; omega
  obtain ⟨z,hz⟩:∃z,l[l.length - 1]?=some z:=⟨_,List.getElem?_eq_getElem (by omega)⟩
  have hs1:sum1 l=z.units:=by unfold sum1; rw [List.getD_eq_getElem?_getD,hz]; rfl
  have hs2:sum2 l=z.coins:=by unfold sum2; rw [List.getD_eq_getElem?_getD,hz]; rfl
  rw [hs1] at hu
  rw [hs2] at hc
  have hze:(l.map eSl)[(((l.map eSl).length:Int) - 1).toNat]?=some (eSl z):=by rw [List.length_map,show ((l.length:Int) - 1).toNat=l.length - 1 by omega,List.getElem?_map,hz]; rfl
  have hlm:(l.map eSl).length=l.length:=List.length_map ..
  repeat first | refine ⟨.osl 5 (l.map eSl),fun _=>hse,?_⟩ | refine ⟨eSl z,fun _=>hze,?_⟩ | refine ⟨by kernel_rfl,?_⟩ | refine ⟨fun _=>⟨by omega,by omega⟩,?_⟩
  refine .inl ⟨[eSl ⟨tick,n,c,n+z.units,c+z.coins⟩],rfl,⟨rf,rf,rf,rf,rf,tv⟩,(by simp; rfl),.inr ⟨.osl 5 (l.map eSl),fun _=>hse,?_⟩⟩
  refine ⟨[eSl ⟨tick,n,c,n+z.units,c+z.coins⟩],ELes.refl _,(by rw [bySl]; simp; omega),(by simp; omega),.osl 5 (l.map eSl),hse,?_⟩
  refine ⟨fun _=>by rw [List.length_set]; exact hin,[.osl 5 (l.map eSl++[eSl ⟨tick,n,c,n+z.units,c+z.coins⟩])],⟨rfl,tv⟩,.any,List.getElem?_set_self (by rw [List.length_map]; omega),?_⟩
  refine ⟨by kernel_rfl,.inl ⟨[I (it:Int)],rfl,⟨rf,tv⟩,(by simp; rfl),.inr ⟨[I (it:Int)],ELes.refl _,(by rw [byIn]; simp; omega),(by simp; omega),?_⟩⟩⟩
  refine ⟨fun _=>⟨by omega,by omega⟩,?_⟩
  have b4:DV.osl 1 (((s.sl.map eSs).set ((it:Int)).toNat .any).set ((it:Int)).toNat (.osl 5 (l.map eSl++[eSl ⟨tick,n,c,n+z.units,c+z.coins⟩])))=.osl 1 ((s.sl.set it (false,l++[⟨tick,n,c,n+sum1 l,c+sum2 l⟩])).map eSs):=by
   rw [List.set_set,List.map_set,Int.toNat_natCast]; simp [hs1,hs2,eSs,slD]
  exact ⟨_,_,⟨rfl,rfl⟩,by kernel_rfl,tv,⟨rf,rf,rf,rf,rf,rf,rfl,rfl,rfl,rfl,rfl,tv⟩,⟨rfl,rfl⟩,⟨rfl,rfl⟩,⟨rfl,rfl⟩,⟨rfl,b4⟩,⟨rfl,b5⟩,tv⟩
 ·have hp:l=[]:=by have:=of_decide_eq_false hp; rw [List.length_map] at this; cases l with
   | nil=>rfl
   | cons _ _=>simp only [List.length_cons] at this; omega
  subst hp
  refine ⟨fun _=>hin,.osl 5 [],fun _=>hse,?_⟩
  refine .inl ⟨[eSl ⟨tick,n,c,n,c⟩],rfl,⟨rf,rf,rf,rf,rf,tv⟩,(by simp; rfl),.inr ⟨.osl 5 [],fun _=>hse,?_⟩⟩
  refine ⟨[eSl ⟨tick,n,c,n,c⟩],ELes.refl _,(by rw [bySl]; simp),(by simp),.osl 5 [],hse,?_⟩
  refine ⟨fun _=>by rw [List.length_set]; exact hin,[.osl 5 ([]++[eSl ⟨tick,n,c,n,c⟩])],⟨rfl,tv⟩,.any,List.getElem?_set_self (by rw [List.length_map]; omega),?_⟩
  refine ⟨by kernel_rfl,.inl ⟨[I (it:Int)],rfl,⟨rf,tv⟩,(by simp; rfl),.inr ⟨[I (it:Int)],ELes.refl _,(by rw [byIn]; simp; omega),(by simp; omega),?_⟩⟩⟩
  refine ⟨fun _=>⟨by omega,by omega⟩,?_⟩
  have b4:DV.osl 1 (((s.sl.map eSs).set ((it:Int)).toNat .any).set ((it:Int)).toNat (.osl 5 ([]++[eSl ⟨tick,n,c,n,c⟩])))=.osl 1 ((s.sl.set it (false,[]++[⟨tick,n,c,n+sum1 [],c+sum2 []⟩])).map eSs):=by
   rw [List.set_set,List.map_set,Int.toNat_natCast]; simp [sum1,sum2,eSs,slD]
  exact ⟨_,_,⟨rfl,rfl⟩,by kernel_rfl,tv,⟨rf,rf,rf,rf,rf,rf,rfl,rfl,rfl,rfl,rfl,tv⟩,⟨rfl,rfl⟩,⟨rfl,rfl⟩,⟨rfl,rfl⟩,⟨rfl,b4⟩,⟨rfl,b5⟩,tv⟩
end Go.Proofs.YtpbdohkbiklflaaGreatDoor
