import Derived.Test.YtpbdohkbiklflaaGreatDoorNM27
import Derived.Test.YtpbdohkbiklflaaGreatDoorNM24
import Derived.Test.YtpbdohkbiklflaaGreatDoorNM21
import Derived.Test.YtpbdohkbiklflaaGreatDoorCards
import Derived.Test.YtpbdohkbiklflaaGreatDoorTie
import Derived.WalkKit
import Derived.ProofKit
import Derived.OpenShut
import Derived.JoinedCond
import Derived.Carry
import Derived.ChangeSlices
import Derived.Deep.DeepHandedRow
import Derived.Lib.LaidTab
set_option linter.unusedVariables false
set_option linter.unusedSimpArgs false
set_option linter.unusedSectionVars false
namespace Go.Proofs.YtpbdohkbiklflaaGreatDoor
open Go.TM
variable [KObj]
def sv0:Vs:=vs0 1 10 100
def st1:St:=⟨0,0,0,0,0,0,[⟨0,1,0,5⟩,⟨0,2,1,9⟩]⟩
def st2:St:=⟨0,2,0,4,0,0,[⟨1,2,0,3⟩,⟨2,1,1,7⟩]⟩
def A1:HM:=[((1,0),5),((2,1),9)]
def A2:HM:=[((1,0),2),((2,0),3),((2,1),2),((1,1),7)]
theorem vok0 (coin window budget:Int) (hw:1≤window∧window≤1099511627776):VOk (vs0 coin window budget) [] 0 0:=by
 refine ⟨⟨List.nodup_nil,fun p hp=>(by cases hp),Nat.le_refl _,rfl,rfl,fun i hi=>?_,fun i hi=>?_⟩,⟨⟨rfl,rfl,fun p hp=>(by cases hp),fun i f l h=>?_,fun i f l h hf=>?_,by simp,fun p hp=>(by cases hp)⟩,Nat.le_refl _,fun p hp=>(by cases hp),fun i j x y hx=>by simp [ofI] at hx,List.Pairwise.nil,fun p hp=>(by cases hp)⟩,hw,Int.le_refl _,⟨Int.le_refl _,Int.le_refl _⟩,fun p hp=>(by cases hp)⟩
 ·have:(vs0 coin window budget).rk.getD i (true,[])=(true,[]):=by
   obtain h | h | h | h:i=0 ∨ i=1 ∨ i=2 ∨ i=3:=by omega
   all_goals (subst h; rfl)
  rw [this]
  exact ⟨fun _=>rfl,List.Pairwise.nil,fun x=>by simp [vs0,hget]⟩
 ·obtain h | h | h | h:i=0 ∨ i=1 ∨ i=2 ∨ i=3:=by omega
  all_goals (subst h; rfl)
 all_goals
  have hi:i<4:=(List.getElem?_eq_some_iff.1 h).1
  obtain h0 | h0 | h0 | h0:i=0 ∨ i=1 ∨ i=2 ∨ i=3:=by omega
  all_goals (subst h0; simp [vs0] at h; simp [ofI,h])
theorem f1:feedC sv0 [] st1=.ok A1:=by kernel_rfl
def sv1:Vs:=feedF sv0 [] st1 (setsM sv0 A1)
def S1:SS:=feedS sv0 [] st1
theorem f2:feedC sv1 S1 st2=.ok A2:=by kernel_rfl
def sv2:Vs:=feedF sv1 S1 st2 (setsM sv1 A2)
def S2:SS:=feedS sv1 S1 st2
theorem v1:VOk sv1 S1 8 1:=(feed_ok (vok0 1 10 100 ⟨by omega,by omega⟩) (by omega) (by omega) st1 (by simp [st1]) f1).1
theorem v2:VOk sv2 S2 16 2:=(feed_ok v1 (by omega) (by omega) st2 (by simp [st2]) f2).1
set_option maxRecDepth 100000
set_option maxHeartbeats 4000000 in
theorem lives_spec:PSpec Tryz.prog 14 [] [B true]:=by
 have c0:=newC_spec 1 10 100 rfl rfl
 have c1:=feed_spec (vok0 1 10 100 ⟨by omega,by omega⟩) (by omega) (by omega) st1 (by simp [st1])
 have c2:=feed_spec v1 (by omega) (by omega) st2 (by simp [st2])
 rw [show feedC (vs0 1 10 100) [] st1=.ok A1 from f1] at c1
 rw [f2] at c2
 simp only at c1 c2
 have ew:sv2.window=10:=by kernel_rfl
 have p13:=priceB_spec sv2 0 13 (by omega) (by kernel_rfl) (by rw [show sv2.last=4 by kernel_rfl]; omega) [⟨4,3,7,3,7⟩] (by kernel_rfl) 0 (by omega) (by simp) (by rw [ew]; omega) (fun i y hi _=>by omega)
  (fun i y _ hy=>by have hy:=List.mem_of_getElem? hy; simp only [List.mem_singleton] at hy; subst hy; rw [ew]; simp only; omega) (fun y hy=>by simp only [List.mem_singleton] at hy; subst hy; simp only; omega)
 have p14:=priceB_spec sv2 0 14 (by omega) (by kernel_rfl) (by rw [show sv2.last=4 by kernel_rfl]; omega) [⟨4,3,7,3,7⟩] (by kernel_rfl) 1 (by simp) (by simp) (by rw [ew]; omega)
  (fun i y _ hy=>by have hy:=List.mem_of_getElem? hy; simp only [List.mem_singleton] at hy; subst hy; rw [ew]; simp only; omega) (fun i y hi hy=>by have:=(List.getElem?_eq_some_iff.1 hy).1; simp at this; omega) (fun y hy=>by simp only [List.mem_singleton] at hy; subst hy; simp only; omega)
 rw [show priceL sv2 0 [⟨4,3,7,3,7⟩] 0=([0,1,3,7,2],true) by kernel_rfl] at p13
 rw [show priceL sv2 0 [⟨4,3,7,3,7⟩] 1=([0,0,0,0,0],false) by kernel_rfl] at p14
 simp only at p13 p14
 have t0:=top_spec sv2 (by kernel_rfl) (fun x hx=>by
  obtain ⟨i,hi⟩:=List.getElem?_of_mem hx
  have hl:i<4:=by have:=(List.getElem?_eq_some_iff.1 hi).1; rw [show sv2.rk.length=4 by kernel_rfl] at this; exact this
  have:=v2.hok.rk i hl
  rw [List.getD_eq_getElem?_getD,hi] at this
  have h2:=rk_len this
  have h3:=v2.hok.len
  exact ⟨by simp only [Option.getD_some] at h2; omega,this.1⟩) 0 1 (by omega)
 rw [show topM sv2 0 1=[(2,3)] by kernel_rfl] at t0
 have z0:=size_spec sv2 (by rw [show sv2.H.length=4 by kernel_rfl,show sv2.sold.length=1 by kernel_rfl]; omega)
 rw [show ((sv2.H.length:Int)+(sv2.sold.length:Int))=5 by kernel_rfl] at z0
 refine pspec_of tab_ok mixed (calls_snd _) (range_snd _) Tryz.func14 rfl (by kernel_rfl) rfl ?_
 refine .inl ⟨_,fun _=>cat_spec.ok,?_⟩
 refine .inr ⟨[],[ofD (catV nameIron),.dv (I 1),.dv (I 10),.dv (I 100)],[],7,_,_,c0,by kernel_rfl,by kernel_rfl,⟨⟨rf,rf,rf,rf,tv⟩,rf,rf,rf,tv⟩,tv,?_⟩
 repeat first | refine ⟨id,?_⟩ | refine ⟨fun _ h=>bw_f h,?_⟩ | refine ⟨fun _ h=>bw_t h,?_⟩ | refine ⟨fun h=>⟨h,fun h2=>bw_and h h2⟩,?_⟩ | refine ⟨fun h=>⟨h,fun h2=>bw_andf h h2⟩,?_⟩
 refine ⟨fun h=>by simp at h,fun _=>?_⟩
 refine .inl ⟨[eMv ⟨0,1,0,5⟩,eMv ⟨0,2,1,9⟩],rfl,⟨rf,rf,rf,rf,rf,rf,rf,rf,rf,rf,tv⟩,(by simp; exact ⟨rfl,rfl⟩),.inr ⟨[4,1,2,5,3,6],[.ptr 0 0,aSt st1],vK false (vs0 1 10 100),9,_,_,c1,by kernel_rfl,by kernel_rfl,⟨rfl,⟨rf,rf,rf,rf,rf,rf,rf,tv⟩,tv⟩,⟨⟨rf,rf,rf,rf,rf,rf,rfl,rfl,rfl,rfl,rfl,tv⟩,⟨rfl,rfl⟩,⟨rfl,rfl⟩,⟨rfl,rfl⟩,⟨rfl,rfl⟩,⟨rfl,rfl⟩,tv⟩,?_⟩⟩
 refine .inl ⟨[eMv ⟨1,2,0,3⟩,eMv ⟨2,1,1,7⟩],rfl,⟨rf,rf,rf,rf,rf,rf,rf,rf,rf,rf,tv⟩,(by simp; exact ⟨rfl,rfl⟩),.inr ⟨[4,1,2,5,3,6],[.ptr 0 0,aSt st2],vK false sv1,9,_,_,c2,by kernel_rfl,by kernel_rfl,⟨rfl,⟨rf,rf,rf,rf,rf,rf,rf,tv⟩,tv⟩,⟨⟨rf,rf,rf,rf,rf,rf,rfl,rfl,rfl,rfl,rfl,tv⟩,⟨rfl,rfl⟩,⟨rfl,rfl⟩,⟨rfl,rfl⟩,⟨rfl,rfl⟩,⟨rfl,rfl⟩,tv⟩,?_⟩⟩
 refine .inr ⟨[4,1,2,5,3,6],[.ptr 0 0,.dv (I 0),.dv (I 13)],vK false sv2,0,_,_,p13,by kernel_rfl,by kernel_rfl,⟨rfl,rf,rf,tv⟩,⟨⟨rf,rf,rf,rf,rf,rf,rfl,rfl,rfl,rfl,rfl,tv⟩,⟨rfl,rfl⟩,⟨rfl,rfl⟩,⟨rfl,rfl⟩,⟨rfl,rfl⟩,⟨rfl,rfl⟩,tv⟩,?_⟩
 refine .inr ⟨[4,1,2,5,3,6],[.ptr 0 0,.dv (I 0),.dv (I 14)],vK false sv2,0,_,_,p14,by kernel_rfl,by kernel_rfl,⟨rfl,rf,rf,tv⟩,⟨⟨rf,rf,rf,rf,rf,rf,rfl,rfl,rfl,rfl,rfl,tv⟩,⟨rfl,rfl⟩,⟨rfl,rfl⟩,⟨rfl,rfl⟩,⟨rfl,rfl⟩,⟨rfl,rfl⟩,tv⟩,?_⟩
 refine .inr ⟨[4,1,2,5,3,6],[.ptr 0 0,.dv (I 0),.dv (I 1)],vK false sv2,0,_,_,t0,by kernel_rfl,by kernel_rfl,⟨rfl,rf,rf,tv⟩,⟨⟨rf,rf,rf,rf,rf,rf,rfl,rfl,rfl,rfl,rfl,tv⟩,⟨rfl,rfl⟩,⟨rfl,rfl⟩,⟨rfl,rfl⟩,⟨rfl,rfl⟩,⟨rfl,rfl⟩,tv⟩,?_⟩
 repeat first | refine ⟨id,?_⟩ | refine ⟨fun _ h=>bw_f h,?_⟩ | refine ⟨fun _ h=>bw_t h,?_⟩ | refine ⟨fun h=>⟨h,fun h2=>bw_and h h2⟩,?_⟩ | refine ⟨fun h=>⟨h,fun h2=>bw_andf h h2⟩,?_⟩
 refine ⟨eR (2,3),fun _=>⟨by omega,rfl⟩,?_⟩
 repeat first | refine ⟨id,?_⟩ | refine ⟨fun _ h=>bw_f h,?_⟩ | refine ⟨fun _ h=>bw_t h,?_⟩ | refine ⟨fun h=>⟨h,fun h2=>bw_and h h2⟩,?_⟩ | refine ⟨fun h=>⟨h,fun h2=>bw_andf h h2⟩,?_⟩
 refine ⟨eR (2,3),fun _=>⟨by omega,rfl⟩,?_⟩
 repeat first | refine ⟨id,?_⟩ | refine ⟨fun _ h=>bw_f h,?_⟩ | refine ⟨fun _ h=>bw_t h,?_⟩ | refine ⟨fun h=>⟨h,fun h2=>bw_and h h2⟩,?_⟩ | refine ⟨fun h=>⟨h,fun h2=>bw_andf h h2⟩,?_⟩
 refine .inr ⟨[4,1,2,5,3,6],[.ptr 0 0],vK false sv2,0,_,_,z0,by kernel_rfl,by kernel_rfl,⟨rfl,tv⟩,⟨⟨rf,rf,rf,rf,rf,rf,rfl,rfl,rfl,rfl,rfl,tv⟩,⟨rfl,rfl⟩,⟨rfl,rfl⟩,⟨rfl,rfl⟩,⟨rfl,rfl⟩,⟨rfl,rfl⟩,tv⟩,?_⟩
 exact ⟨by kernel_rfl,fun _=>rfl,fun _ _=>by kernel_rfl,DV.Le.of_eq (by kernel_rfl),tv⟩
end Go.Proofs.YtpbdohkbiklflaaGreatDoor
namespace Go.Proofs.YtpbdohkbiklflaaGreatDoor
open Go.TM
def around (n m:Int):Int:=(if n<0 then -(n+1) else n).tmod m
theorem around_bd (n m:Int) (hm:1≤m):0≤around n m∧around n m<m:=by
 unfold around
 refine ⟨Int.tmod_nonneg _ (by split <;> omega),Int.tmod_lt_of_pos _ (by omega)⟩
variable [KObj]
theorem around_spec (n m:Int) (hn:InI n) (hm:1≤m) (hm2:m≤1000000000000):PSpec Tryz.prog 10 [I n,I m] [I (around n m)]:=by
 refine pspec_of tab_ok mixed (calls_snd _) (range_snd _) Tryz.func10 rfl (by kernel_rfl) rfl ?_
 unfold InI at hn
 refine ⟨fun h=>?_,fun h=>?_⟩
 ·have h':n<0:=of_decide_eq_true h
  refine ⟨fun _=>⟨by omega,by omega⟩,fun _=>⟨by omega,by omega⟩,fun _=>by omega,?_⟩
  exact ⟨le_int (by rw [around,if_pos h',Int.zero_sub]),tv⟩
 ·have h':¬ n<0:=of_decide_eq_false h
  refine ⟨fun _=>by omega,?_⟩
  exact ⟨le_int (by rw [around,if_neg h']),tv⟩
end Go.Proofs.YtpbdohkbiklflaaGreatDoor
namespace Go.Proofs.YtpbdohkbiklflaaGreatDoor
open Go.TM
variable [KObj]
set_option maxRecDepth 100000
theorem sel3 (a b c:Int) {q:Int} (h:0≤q∧q<3):∃x,[I a,I b,I c][q.toNat]?=some (I x):=by
 obtain h | h | h:q=0 ∨ q=1 ∨ q=2:=by omega
 all_goals (subst h; exact ⟨_,rfl⟩)
def nlInv (coin window budget ak:Int) (j:Nat):AState:=⟨3,[(9,.ptr 2 0),(10,.dv (.sl 1 [I coin,I ak,I 1])),(11,.dv (.sl 1 [I window,I 5,I 1099511627776])),(12,.dv (.sl 1 [I budget,I 10,I 1048576])),(13,.dv (I j))],[(1,.tree 0 0 (.osl 7 (itemsV nameIron))),(2,.cells [.own 1 0 0 [],.dv .nils,.dv .nils,.dv .nils])]⟩
set_option maxHeartbeats 4000000 in
theorem vnew_spec (coin window budget k:Int) (hc:InI coin) (hw:InI window) (hb:InI budget) (hk:InI k):PSpec Tryz.prog 3 [I coin,I window,I budget,I k] [B true]:=by
 refine pspec_of tab_ok mixed (calls_snd _) (range_snd _) Tryz.func3 rfl (by kernel_rfl) rfl ?_
 refine .inr ⟨[],[],[],2,_,_,catO_spec,by kernel_rfl,by kernel_rfl,tv,tv,?_⟩
 refine .inl ⟨_,fun _=>(around_spec k 7 hk (by omega) (by omega)).ok,?_⟩
 have hbd:=around_bd k 7 (by omega)
 refine ⟨fun _=>⟨by omega,by omega⟩,?_⟩
 refine .inl ⟨[I coin,I (around k 7 - 1),I 1],rfl,⟨rf,rf,rf,tv⟩,(by simp; exact ⟨rfl,rfl,rfl⟩),.inl ⟨[I window,I 5,I 1099511627776],rfl,⟨rf,rf,rf,tv⟩,(by simp; exact ⟨rfl,rfl,rfl⟩),.inl ⟨[I budget,I 10,I 1048576],rfl,⟨rf,rf,rf,tv⟩,(by simp; exact ⟨rfl,rfl,rfl⟩),?_⟩⟩⟩
 refine ⟨Nat,nlInv coin window budget (around k 7 - 1),fun z=>z≤27,fun z=>27 - z,0,fun _=>rfl,?_⟩
 refine ⟨⟨⟨rfl,rf,rf,rf,rf,tv⟩,⟨⟨rfl,rfl⟩,⟨rfl,rf,rf,rf,tv⟩,tv⟩,rfl,rfl⟩,Nat.zero_le _,?_⟩
 rintro j hj
 refine ⟨fun hlt=>?_,fun hge=>?_⟩
 ·have hlt:j<27:=by have:=of_decide_eq_true hlt; omega
  have m1:0≤(j:Int).tmod 3∧(j:Int).tmod 3<3:=⟨Int.tmod_nonneg _ (by omega),Int.tmod_lt_of_pos _ (by omega)⟩
  have m2:0≤((j:Int).tdiv 3).tmod 3∧((j:Int).tdiv 3).tmod 3<3:=⟨Int.tmod_nonneg _ (Int.tdiv_nonneg (by omega) (by omega)),Int.tmod_lt_of_pos _ (by omega)⟩
  have m3:0≤(j:Int).tdiv 9∧(j:Int).tdiv 9<3:=⟨Int.tdiv_nonneg (by omega) (by omega),by rw [Int.tdiv_eq_ediv_of_nonneg (by omega)]; omega⟩
  have m4:0≤(j:Int).tdiv 3∧(j:Int).tdiv 3<27:=⟨Int.tdiv_nonneg (by omega) (by omega),by rw [Int.tdiv_eq_ediv_of_nonneg (by omega)]; omega⟩
  obtain ⟨co,hco⟩:=sel3 coin (around k 7 - 1) 1 m1
  obtain ⟨wi,hwi⟩:=sel3 window 5 1099511627776 m2
  obtain ⟨bu,hbu⟩:=sel3 budget 10 1048576 m3
  repeat first | refine ⟨I co,fun _=>⟨m1.1,hco⟩,?_⟩ | refine ⟨I wi,fun _=>⟨m2.1,hwi⟩,?_⟩ | refine ⟨I bu,fun _=>⟨m3.1,hbu⟩,?_⟩ | refine ⟨fun _ h=>by omega,?_⟩ | refine ⟨fun _=>⟨by omega,by omega⟩,?_⟩
  cases hbc:badC co with
  | true =>
    refine .inr ⟨[1],[catA,.dv (I co),.dv (I wi),.dv (I bu)],itK nameIron,0,_,_,newAO_spec co wi bu hbc,by kernel_rfl,by kernel_rfl,⟨⟨rfl,rf,rf,rf,tv⟩,rf,rf,rf,tv⟩,⟨⟨rfl,rfl⟩,tv⟩,?_⟩
    refine ⟨by kernel_rfl,?_⟩
    repeat first | refine ⟨I co,fun _=>⟨m1.1,hco⟩,?_⟩ | refine ⟨I wi,fun _=>⟨m2.1,hwi⟩,?_⟩ | refine ⟨I bu,fun _=>⟨m3.1,hbu⟩,?_⟩ | refine ⟨fun _ h=>by omega,?_⟩ | refine ⟨fun _=>⟨by omega,by omega⟩,?_⟩
    refine .inr ⟨[1],[catA,.dv (I co),.dv (I wi),.dv (I bu)],itK nameIron,0,_,_,rnewAO_spec co wi bu hbc,by kernel_rfl,by kernel_rfl,⟨⟨rfl,rf,rf,rf,tv⟩,rf,rf,rf,tv⟩,⟨⟨rfl,rfl⟩,tv⟩,?_⟩
    refine ⟨by kernel_rfl,?_⟩
    repeat first | refine ⟨id,?_⟩ | refine ⟨fun _ h=>bw_f h,?_⟩ | refine ⟨fun _ h=>bw_t h,?_⟩ | refine ⟨fun h=>⟨h,fun h2=>bw_and h h2⟩,?_⟩ | refine ⟨fun h=>⟨h,fun h2=>bw_andf h h2⟩,?_⟩
    refine ⟨fun hcc=>absurd hcc (by simp),fun _=>?_⟩
    exact ⟨fun _=>⟨by omega,by omega⟩,j+1,⟨⟨rfl,rf,rf,rf,le_int (by simp),tv⟩,⟨⟨rfl,rfl⟩,⟨rfl,rf,rf,rf,tv⟩,tv⟩,rfl,rfl⟩,by omega,by simp only; omega⟩
  | false =>
   cases hbw:badW wi bu with
   | true =>
    refine .inr ⟨[1],[catA,.dv (I co),.dv (I wi),.dv (I bu)],itK nameIron,0,_,_,newBO_spec co wi bu hbc hbw,by kernel_rfl,by kernel_rfl,⟨⟨rfl,rf,rf,rf,tv⟩,rf,rf,rf,tv⟩,⟨⟨rfl,rfl⟩,tv⟩,?_⟩
    refine ⟨by kernel_rfl,?_⟩
    repeat first | refine ⟨I co,fun _=>⟨m1.1,hco⟩,?_⟩ | refine ⟨I wi,fun _=>⟨m2.1,hwi⟩,?_⟩ | refine ⟨I bu,fun _=>⟨m3.1,hbu⟩,?_⟩ | refine ⟨fun _ h=>by omega,?_⟩ | refine ⟨fun _=>⟨by omega,by omega⟩,?_⟩
    refine .inr ⟨[1],[catA,.dv (I co),.dv (I wi),.dv (I bu)],itK nameIron,0,_,_,rnewBO_spec co wi bu hbc hbw,by kernel_rfl,by kernel_rfl,⟨⟨rfl,rf,rf,rf,tv⟩,rf,rf,rf,tv⟩,⟨⟨rfl,rfl⟩,tv⟩,?_⟩
    refine ⟨by kernel_rfl,?_⟩
    repeat first | refine ⟨id,?_⟩ | refine ⟨fun _ h=>bw_f h,?_⟩ | refine ⟨fun _ h=>bw_t h,?_⟩ | refine ⟨fun h=>⟨h,fun h2=>bw_and h h2⟩,?_⟩ | refine ⟨fun h=>⟨h,fun h2=>bw_andf h h2⟩,?_⟩
    refine ⟨fun hcc=>absurd hcc (by simp),fun _=>?_⟩
    exact ⟨fun _=>⟨by omega,by omega⟩,j+1,⟨⟨rfl,rf,rf,rf,le_int (by simp),tv⟩,⟨⟨rfl,rfl⟩,⟨rfl,rf,rf,rf,tv⟩,tv⟩,rfl,rfl⟩,by omega,by simp only; omega⟩
   | false =>
    refine .inr ⟨[1],[catA,.dv (I co),.dv (I wi),.dv (I bu)],itK nameIron,7,_,_,newCO_spec co wi bu hbc hbw,by kernel_rfl,by kernel_rfl,⟨⟨rfl,rf,rf,rf,tv⟩,rf,rf,rf,tv⟩,⟨⟨rfl,rfl⟩,tv⟩,?_⟩
    refine ⟨by kernel_rfl,?_⟩
    repeat first | refine ⟨I co,fun _=>⟨m1.1,hco⟩,?_⟩ | refine ⟨I wi,fun _=>⟨m2.1,hwi⟩,?_⟩ | refine ⟨I bu,fun _=>⟨m3.1,hbu⟩,?_⟩ | refine ⟨fun _ h=>by omega,?_⟩ | refine ⟨fun _=>⟨by omega,by omega⟩,?_⟩
    refine .inr ⟨[1],[catA,.dv (I co),.dv (I wi),.dv (I bu)],itK nameIron,2,_,_,rnewCO_spec co wi bu hbc hbw,by kernel_rfl,by kernel_rfl,⟨⟨rfl,rf,rf,rf,tv⟩,rf,rf,rf,tv⟩,⟨⟨rfl,rfl⟩,tv⟩,?_⟩
    refine ⟨by kernel_rfl,?_⟩
    repeat first | refine ⟨id,?_⟩ | refine ⟨fun _ h=>bw_f h,?_⟩ | refine ⟨fun _ h=>bw_t h,?_⟩ | refine ⟨fun h=>⟨h,fun h2=>bw_and h h2⟩,?_⟩ | refine ⟨fun h=>⟨h,fun h2=>bw_andf h h2⟩,?_⟩
    refine ⟨fun hcc=>absurd hcc (by simp),fun _=>?_⟩
    exact ⟨fun _=>⟨by omega,by omega⟩,j+1,⟨⟨rfl,rf,rf,rf,le_int (by simp),tv⟩,⟨⟨rfl,rfl⟩,⟨rfl,rf,rf,rf,tv⟩,tv⟩,rfl,rfl⟩,by omega,by simp only; omega⟩
 ·have hge:j=27:=by have:=of_decide_eq_false hge; omega
  subst hge
  refine ⟨fun _=>⟨by decide,by show (0:Int)<4; decide⟩,[.str nameGold],⟨rf,tv⟩,_,rfl,?_⟩
  refine .inr ⟨[1],[catA,.dv (I 9),.dv (I 0),.dv (I 0)],itK nameGold,0,_,_,newDO_spec 9 0 0,by kernel_rfl,by kernel_rfl,⟨⟨rfl,rf,rf,rf,tv⟩,rf,rf,rf,tv⟩,⟨⟨rfl,rfl⟩,tv⟩,?_⟩
  repeat first | refine ⟨id,?_⟩ | refine ⟨fun _ h=>bw_f h,?_⟩ | refine ⟨fun _ h=>bw_t h,?_⟩ | refine ⟨fun h=>⟨h,fun h2=>bw_and h h2⟩,?_⟩ | refine ⟨fun h=>⟨h,fun h2=>bw_andf h h2⟩,?_⟩
  refine .inl (.inl ⟨_,fun _=>valid2_spec.ok,rfl,?_⟩)
  repeat first | refine ⟨id,?_⟩ | refine ⟨fun _ h=>bw_f h,?_⟩ | refine ⟨fun _ h=>bw_t h,?_⟩ | refine ⟨fun h=>⟨h,fun h2=>bw_and h h2⟩,?_⟩ | refine ⟨fun h=>⟨h,fun h2=>bw_andf h h2⟩,?_⟩
  refine .inl ⟨_,fun _=>lives_spec.ok,?_⟩
  repeat first | refine ⟨id,?_⟩ | refine ⟨fun _ h=>bw_f h,?_⟩ | refine ⟨fun _ h=>bw_t h,?_⟩ | refine ⟨fun h=>⟨h,fun h2=>bw_and h h2⟩,?_⟩ | refine ⟨fun h=>⟨h,fun h2=>bw_andf h h2⟩,?_⟩
  exact ⟨DV.Le.of_eq (by kernel_rfl),tv⟩
end Go.Proofs.YtpbdohkbiklflaaGreatDoor
namespace Go.Proofs.YtpbdohkbiklflaaGreatDoor
open Go.TM Go.ChangeShapes Go.WideShapes Go.ChangeAt Go.RowKit
theorem own:ownKnob Tryz.prog.godebug=none:=by kernel_rfl
theorem in_i64 {n:Int} (h:(Lit.int .i64 n).wf=true):InI n:=by simpa [InI,Lit.wf,IntKind.min,IntKind.max,IntKind.signed,IntKind.bits] using h
theorem kinds_of {W:World} (h:laidMetH Tryz.prog [("worldmint/lexer.kinds",Rows.laid_worldmint_lexer_kinds)] W):∃(ty:TypeId) (fr:Nat × Nat),W.heap[0]?=some (.cells kArr ty fr):=by
 have ht:Lib.TabIs Tryz.prog W "worldmint/lexer.kinds" .u8 (kindL.map fun n=>((n:Nat):Int)) :=
  Lib.tabIs_of_head (rest:=[]) (g:=0) (t:=210) (e:=5) (n:=128) (by kernel_rfl) (by kernel_rfl) Tryz.underlying210 Tryz.underlying5 (by kernel_rfl) (by kernel_rfl) h
 have hg:Tryz.prog.globalNamed "worldmint/lexer.kinds"=some 0:=by kernel_rfl
 unfold Lib.TabIs World.var? at ht
 rw [hg] at ht
 simp only [Option.bind_some] at ht
 split at ht
 ·rename_i cs ty fr hh
  injection ht with ht
  refine ⟨ty,fr,?_⟩
  rw [hh,ht]
  simp only [kArr,List.map_map]
  rfl
 ·cases ht
def laidW (w:World):World:={ w with heap:=w.heap.modify 0 fun
  | .cells _ t frozen=>.cells kArr t frozen
  | o=>o }
end Go.Proofs.YtpbdohkbiklflaaGreatDoor
