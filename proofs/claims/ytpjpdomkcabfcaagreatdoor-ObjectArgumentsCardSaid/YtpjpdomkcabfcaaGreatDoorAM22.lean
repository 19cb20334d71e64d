import Derived.Test.YtpjpdomkcabfcaaGreatDoorAM21
import Derived.Test.YtpjpdomkcabfcaaGreatDoorAM19
import Derived.Test.YtpjpdomkcabfcaaGreatDoorCards
import Derived.Test.YtpjpdomkcabfcaaGreatDoorTie
import Derived.WalkKit
import Derived.ProofKit
import Derived.OpenShut
import Derived.JoinedCond
import Derived.Carry
import Derived.ChangeSlices
import Derived.Deep.DeepHandedRow
import Derived.Lib.LaidTab
import Derived.Lib.SmallJoins
set_option linter.unusedVariables false
set_option linter.unusedSimpArgs false
set_option linter.unusedSectionVars false
namespace Go.Proofs.YtpjpdomkcabfcaaGreatDoor
open Go.TM
variable [KObj]
set_option maxRecDepth 100000
set_option maxHeartbeats 4000000 in
theorem both2_spec (n k:Int):CSpec Tryz.prog 9 [.dv (I n),.dv (I k)] 0 [] 6 [.ptr 3 0,.ptr 4 0,.dv (B true)] (scK (itemsL (around n 3) (1+around k 40)) [] []):=by
 refine cspec_of tab_ok mixed (calls_snd _) (range_snd _) Tryz.func9 rfl rfl (by kernel_rfl) ?_
 refine .inl ⟨_,fun _=>cat_spec.ok,?_⟩
 refine .inl ⟨_,fun _=>(binding_spec 2 20 n k).ok,?_⟩
 have hn:=around_bd n 3 (by omega)
 have hk:=around_bd k 40 (by omega)
 refine .inr ⟨[],[ofD (catD (I (around n 3)) (I (1+around k 40)))],[],3,_,_,new_spec (by omega) (by omega),by kernel_rfl,by kernel_rfl,⟨⟨rf,rf,rf,rf,tv⟩,tv⟩,tv,?_⟩
 exact ⟨id,fun _=>bw_t,by kernel_rfl,_,_,⟨rfl,rfl⟩,by kernel_rfl,⟨rfl,rfl,rf,tv⟩,⟨rf,rf,rf,rf,rfl,tv⟩,⟨rfl,rfl⟩,⟨rf,rf,rf,rf,⟨rfl,rfl,rfl,rfl,6,rfl⟩,tv⟩,⟨rfl,rfl,6,rfl⟩,tv⟩
def argL (x:Ob) (item owner:Int):List Ob:=[x,⟨4,owner,x.wear,false⟩,⟨item,1,0,false⟩,⟨4,1,around x.wear 25,false⟩]
def argInv (k:Ky) (ys:List Ob) (i:Nat):AState:=⟨2,[(4,.ptr 0 0),(9,.dv (.sl 4 (ys.map eOb))),(10,.dv (I i))],[(0,.cells (dvs [I k.1,I k.2]))]⟩
structure GoesA (its:List Item) (m L:OM):Prop where
 ok:OkS its m
 same:Same m L
 ko:KO m
theorem goesA_nil (its:List Item):GoesA its [] []:=⟨fun k x h=>by simp [oget] at h,same_nil,fun k x h=>by simp [oget] at h⟩
theorem okS_putM {its:List Item} {m:OM} (h:OkS its m) (ht:TyOk its) (k:Ky) (x:Ob):OkS its (putM its m k x):=by
 unfold putM
 split
 ·rename_i e
  intro q y hy
  rw [oget_put] at hy
  split at hy
  ·injection hy with hy; subst hy; exact (putE_ok ht e).1
  ·exact h q y hy
 ·exact h
theorem GoesA.put {its:List Item} {m L:OM} (h:GoesA its m L) (ht:TyOk its) {k:Ky} (hk:InI k.1∧InI k.2) (x:Ob):GoesA its (putM its m k x) (rputM its L k x):=⟨okS_putM h.ok ht k x,h.same.putM ht k x,ko_putM h.ko hk⟩
theorem GoesA.make {its:List Item} {m L:OM} (h:GoesA its m L) (ht:TyOk its) {k:Ky} (hk:InI k.1∧InI k.2) (i ow:Int):GoesA its (putM its m k (makeX its i ow)) (rputM its L k (rmakeX its i ow)):=⟨okS_putM h.ok ht k _,h.same.make ht k i ow,ko_putM h.ko hk⟩
theorem oput_len {m:OM} {k:Ky} {x:Ob}:(oput m k x).length≤m.length+1:=by
 induction m with
 | nil=>simp [oput]
 | cons p r ih =>
  simp only [oput]
  split
  ·simp
  ·simp; omega
theorem putM_len {its:List Item} {m:OM} {k:Ky} {x:Ob}:(putM its m k x).length≤m.length+1:=by
 unfold putM
 split
 ·exact oput_len
 ·omega
def badD:DV:=.agg [.sl 7 ((itemsD (I 2) (I 20)).take 2),rulesD,tabsD,taxesD]
theorem validBad_spec:PSpec Tryz.prog 45 [badD] [I 1]:=pspec_run (pol:=pol1) (fuel:=1000) tab_ok mixed names_ok (by kernel_rfl)
theorem newBad_spec:PSpec Tryz.prog 22 [badD] [.nilp,I 1]:=by
 refine pspec_of tab_ok mixed (calls_snd _) (range_snd _) Tryz.func22 rfl (by kernel_rfl) rfl ?_
 refine .inl ⟨_,fun _=>validBad_spec.ok,?_⟩
 refine ⟨fun _=>?_,fun h=>by cases h⟩
 exact ⟨rf,rf,tv⟩
set_option maxHeartbeats 8000000 in
theorem args_spec (k:Ky) (hk:InI k.1∧InI k.2) (x:Ob) (item owner:Int):PSpec Tryz.prog 4 [eKy k,eOb x,I item,I owner] [B true]:=by
 refine pspec_of tab_ok mixed (calls_snd _) (range_snd _) Tryz.func4 rfl (by kernel_rfl) rfl ?_
 refine .inl ⟨_,fun _=>(around_spec x.wear 25 (by omega) (by omega)).ok,?_⟩
 refine .inl ⟨(argL x item owner).map eOb,rfl,⟨rf,rf,rf,rf,rf,rf,rf,rf,rf,rf,rf,rf,rf,rf,rf,rf,tv⟩,(fun y hy=>by obtain ⟨z,_,rfl⟩:=List.mem_map.1 hy; rfl),by kernel_rfl,?_⟩
 have hys:(argL x item owner).length=4:=rfl
 generalize argL x item owner=ys at hys
 refine ⟨Nat,argInv k ys,fun i=>i≤4,fun i=>4 - i,0,fun _=>rfl,⟨⟨rfl,rf,rf,tv⟩,⟨⟨rf,rf,tv⟩,tv⟩,rfl,rfl⟩,by omega,?_⟩
 intro i hi
 refine ⟨fun h=>?_,fun h=>?_⟩
 ·have hi2:(i:Int)<4:=of_decide_eq_true h
  have hlt:i<ys.length:=by omega
  have hbo:=both2_spec 2 19
  rw [show around 2 3=2 from rfl,show 1+around 19 40=20 from rfl] at hbo
  have hty:TyOk (itemsL 2 20):=itemsL_ok ⟨by omega,by omega⟩
  refine .inr ⟨[],[.dv (I 2),.dv (I 19)],[],6,_,_,hbo,by kernel_rfl,by kernel_rfl,⟨rf,rf,tv⟩,tv,?_⟩
  refine ⟨fun h=>(by cases h),fun _=>?_⟩
  have hel:(ys.map eOb)[(i:Int).toNat]?=some (eOb ys[i]):=by simp [hlt]
  generalize ys[i]=y at hel
  refine ⟨eOb y,fun _=>⟨by omega,hel⟩,?_⟩
  have g0:=goesA_nil (itemsL 2 20)
  have p1:=put_spec (itemsL 2 20) [] k y
  have r1:=rput_spec (itemsL 2 20) [] (by simp) k y
  rw [putE_same g0.same] at r1
  have l1:(putM (itemsL 2 20) [] k y).length≤1:=putM_len
  have g1:=g0.put hty hk y
  generalize hm1:putM (itemsL 2 20) [] k y=m1 at p1 g1 l1
  generalize hL1:rputM (itemsL 2 20) [] k y=L1 at r1 g1
  generalize he1:putE (itemsL 2 20) [] k y=e1 at p1 r1
  have p2:=put_spec (itemsL 2 20) m1 k y
  have r2:=rput_spec (itemsL 2 20) L1 (by have:=g1.same.len; omega) k y
  rw [putE_same g1.same] at r2
  have l2:(putM (itemsL 2 20) m1 k y).length≤2:=Nat.le_trans putM_len (by omega)
  have g2:=g1.put hty hk y
  generalize hm2:putM (itemsL 2 20) m1 k y=m2 at p2 g2 l2
  generalize hL2:rputM (itemsL 2 20) L1 k y=L2 at r2 g2
  generalize he2:putE (itemsL 2 20) m1 k y=e2 at p2 r2
  have p3:=make_spec (itemsL 2 20) m2 k y.item y.owner
  have r3:=rmake_spec (itemsL 2 20) L2 (by have:=g2.same.len; omega) k y.item y.owner
  rw [putE_same g2.same,make_same] at r3
  have l3:(putM (itemsL 2 20) m2 k (makeX (itemsL 2 20) y.item y.owner)).length≤3:=Nat.le_trans putM_len (by omega)
  have g3:=g2.make hty hk y.item y.owner
  generalize hm3:putM (itemsL 2 20) m2 k (makeX (itemsL 2 20) y.item y.owner)=m3 at p3 g3 l3
  generalize hL3:rputM (itemsL 2 20) L2 k (rmakeX (itemsL 2 20) y.item y.owner)=L3 at r3 g3
  generalize he3:putE (itemsL 2 20) m2 k (makeX (itemsL 2 20) y.item y.owner)=e3 at p3 r3
  have ag:=agree_spec (itemsL 2 20) m3 L3 g3.same (by omega) (numS g3.ok g3.ko (by show 5≤1000; omega))
  refine .inr ⟨[5,4],[.ptr 0 0,ofD (eKy k),ofD (eOb y)],stK (itemsL 2 20) [],0,_,_,p1,by kernel_rfl,by kernel_rfl,⟨rfl,⟨rf,rf,tv⟩,⟨rf,rf,rf,rf,tv⟩,tv⟩,⟨⟨rf,rf,rf,rf,rfl,tv⟩,⟨rfl,rfl⟩,tv⟩,?_⟩
  refine .inr ⟨[6,7],[.ptr 0 0,ofD (eRo (k,y))],rfK (itemsL 2 20) [] 0,20,_,_,r1,by kernel_rfl,by kernel_rfl,⟨rfl,⟨rf,rf,rf,rf,rf,rf,tv⟩,tv⟩,⟨⟨rf,rf,rf,rf,rfl,tv⟩,⟨rfl,rfl⟩,tv⟩,?_⟩
  repeat first | refine ⟨id,?_⟩ | refine ⟨fun _ h=>bw_f h,?_⟩ | refine ⟨fun _ h=>bw_t h,?_⟩ | refine ⟨fun h=>⟨h,fun h2=>bw_and h h2⟩,?_⟩ | refine ⟨fun h=>⟨h,fun h2=>bw_andf h h2⟩,?_⟩
  have hg1:bw (e1 != e1) false=true:=by simp [bw]
  refine Or.inr ⟨[5,4],[.ptr 0 0,ofD (eKy k),ofD (eOb y)],stK (itemsL 2 20) m1,0,_,_,p2,by kernel_rfl,by kernel_rfl,⟨rfl,⟨rf,rf,tv⟩,⟨rf,rf,rf,rf,tv⟩,tv⟩,⟨⟨rf,rf,rf,rf,rfl,tv⟩,⟨rfl,rfl⟩,tv⟩,hg1,?_⟩
  repeat first | refine ⟨id,?_⟩ | refine ⟨fun _ h=>bw_f h,?_⟩ | refine ⟨fun _ h=>bw_t h,?_⟩ | refine ⟨fun h=>⟨h,fun h2=>bw_and h h2⟩,?_⟩ | refine ⟨fun h=>⟨h,fun h2=>bw_andf h h2⟩,?_⟩
  refine Or.inr ⟨[6,7],[.ptr 0 0,ofD (eRo (k,y))],rfK (itemsL 2 20) L1 0,20,_,_,r2,by kernel_rfl,by kernel_rfl,⟨rfl,⟨rf,rf,rf,rf,rf,rf,tv⟩,tv⟩,⟨⟨rf,rf,rf,rf,rfl,tv⟩,⟨rfl,rfl⟩,tv⟩,hg1,?_⟩
  repeat first | refine ⟨id,?_⟩ | refine ⟨fun _=>rfl,?_⟩ | refine ⟨fun _ h=>bw_f h,?_⟩
  have hg2:bw (bif e1 != e1 then true else e2 != e2) false=true:=by simp [bw]
  refine Or.inr ⟨[5,4],[.ptr 0 0,ofD (eKy k),.dv (I y.item),.dv (I y.owner)],stK (itemsL 2 20) m2,0,_,_,p3,by kernel_rfl,by kernel_rfl,⟨rfl,⟨rf,rf,tv⟩,rf,rf,tv⟩,⟨⟨rf,rf,rf,rf,rfl,tv⟩,⟨rfl,rfl⟩,tv⟩,hg2,?_⟩
  repeat first | refine ⟨id,?_⟩ | refine ⟨fun _=>rfl,?_⟩ | refine ⟨fun _ h=>bw_f h,?_⟩
  refine Or.inr ⟨[6,7],[.ptr 0 0,.dv (I k.1),.dv (I k.2),.dv (I y.item),.dv (I y.owner)],rfK (itemsL 2 20) L2 0,30,_,_,r3,by kernel_rfl,by kernel_rfl,⟨rfl,rf,rf,rf,rf,tv⟩,⟨⟨rf,rf,rf,rf,rfl,tv⟩,⟨rfl,rfl⟩,tv⟩,hg2,?_⟩
  repeat first | refine ⟨id,?_⟩ | refine ⟨fun _=>rfl,?_⟩ | refine ⟨fun _ h=>bw_f h,?_⟩
  have hg3:bw (bif (bif e1 != e1 then true else e2 != e2) then true else e3 != e3) false=true:=by simp [bw]
  refine Or.inr ⟨[5,4,6,7],[.ptr 0 0,.ptr 2 0],agK (itemsL 2 20) m3 L3,0,_,_,ag,by kernel_rfl,by kernel_rfl,⟨rfl,rfl,tv⟩,⟨⟨rf,rf,rf,rf,rfl,tv⟩,⟨rfl,rfl⟩,⟨rf,rf,rf,rf,rfl,tv⟩,⟨rfl,rfl⟩,tv⟩,hg3,?_⟩
  repeat first | refine ⟨id,?_⟩ | refine ⟨fun _=>rfl,?_⟩ | refine ⟨fun _ h=>bw_f h,?_⟩
  refine ⟨by kernel_rfl,fun h=>?_,fun _=>?_⟩
  ·exfalso
   have h':(bif bif bif e1 != e1 then true else e2 != e2 then true else e3 != e3 then true else !true)=true:=h
   simp at h'
  exact ⟨fun _=>⟨by omega,by omega⟩,i+1,⟨⟨rfl,rf,le_int (by simp),tv⟩,⟨⟨rf,rf,tv⟩,tv⟩,rfl,rfl⟩,by show i+1≤4; omega,by show 4 - (i+1)<4 - i; omega⟩
 ·refine .inl ⟨_,fun _=>cat_spec.ok,?_⟩
  refine ⟨fun _=>⟨by decide,by decide,by decide⟩,.inl ⟨_,fun _=>newBad_spec.ok,?_⟩⟩
  repeat first | refine ⟨id,?_⟩ | refine ⟨fun _ h=>bw_f h,?_⟩ | refine ⟨fun _ h=>bw_t h,?_⟩ | refine ⟨fun h=>⟨h,fun h2=>bw_and h h2⟩,?_⟩ | refine ⟨fun h=>⟨h,fun h2=>bw_andf h h2⟩,?_⟩
  refine .inl ⟨_,fun _=>lives_spec.ok,?_⟩
  repeat first | refine ⟨id,?_⟩ | refine ⟨fun _ h=>bw_f h,?_⟩ | refine ⟨fun _ h=>bw_t h,?_⟩ | refine ⟨fun h=>⟨h,fun h2=>bw_and h h2⟩,?_⟩ | refine ⟨fun h=>⟨h,fun h2=>bw_andf h h2⟩,?_⟩
  exact ⟨DV.Le.of_eq rfl,tv⟩
end Go.Proofs.YtpjpdomkcabfcaaGreatDoor
namespace Go.Proofs.YtpjpdomkcabfcaaGreatDoor
open Go.TM Go.ChangeShapes Go.WideShapes Go.ChangeAt Go.RowKit
theorem own:ownKnob Tryz.prog.godebug=none:=by kernel_rfl
theorem in_i64 {n:Int} (h:(Lit.int .i64 n).wf=true):InI n:=by simpa [InI,Lit.wf,IntKind.min,IntKind.max,IntKind.signed,IntKind.bits] using h
theorem kinds_of {W:World} (h:laidMetH Tryz.prog [("worldmint/lexer.kinds",Rows.laid_worldmint_lexer_kinds)] W):∃(ty:TypeId) (fr:Nat × Nat),W.heap[2]?=some (.cells kArr ty fr):=by
 have ht:Lib.TabIs Tryz.prog W "worldmint/lexer.kinds" .u8 (kindL.map fun n=>((n:Nat):Int)) :=
  Lib.tabIs_of_head (rest:=[]) (g:=2) (t:=254) (e:=5) (n:=128) (by kernel_rfl) (by kernel_rfl) Tryz.underlying254 Tryz.underlying5 (by kernel_rfl) (by kernel_rfl) h
 have hg:Tryz.prog.globalNamed "worldmint/lexer.kinds"=some 2:=by kernel_rfl
 unfold Lib.TabIs World.var? at ht
 rw [hg] at ht
 simp only [Option.bind_some] at ht
 split at ht
 ·rename_i cs ty fr hh
  injection ht with ht
  refine ⟨ty,fr,?_⟩
  rw [hh,ht]
  simp only [kArr,List.map_map]
  rfl
 ·cases ht
def laidW (w:World):World:={ w with heap:=w.heap.modify 2 fun
  | .cells _ t frozen=>.cells kArr t frozen
  | o=>o }
end Go.Proofs.YtpjpdomkcabfcaaGreatDoor
namespace Go.Proofs.YtpjpdomkcabfcaaGreatDoor
open Go.TM
theorem rel_key (M:Mem) (a b:Int):DRel M (eKy (a,b)) (.agg #[.int .i64 a,.int .i64 b]) :=
 DRel.agg [I a,I b] [.int .i64 a,.int .i64 b] rfl (by simp [DV.isCell]) fun j d v hd hv=>by
  match j,hd,hv with
  | 0,hd,hv=>simp at hd hv; subst hd; subst hv; exact .int _ _
  | 1,hd,hv=>simp at hd hv; subst hd; subst hv; exact .int _ _
  | j+2,hd,hv=>simp at hd
theorem rel_ob (M:Mem) (x:Ob):DRel M (eOb x) (.agg #[.int .i64 x.item,.int .i64 x.owner,.int .i64 x.wear,.bool x.bound]) :=
 DRel.agg [I x.item,I x.owner,I x.wear,B x.bound] [.int .i64 x.item,.int .i64 x.owner,.int .i64 x.wear,.bool x.bound] rfl (by simp [DV.isCell]) fun j d v hd hv=>by
  match j,hd,hv with
  | 0,hd,hv=>simp at hd hv; subst hd; subst hv; exact .int _ _
  | 1,hd,hv=>simp at hd hv; subst hd; subst hv; exact .int _ _
  | 2,hd,hv=>simp at hd hv; subst hd; subst hv; exact .int _ _
  | 3,hd,hv=>simp at hd hv; subst hd; subst hv; exact .bool _
  | j+4,hd,hv=>simp at hd
end Go.Proofs.YtpjpdomkcabfcaaGreatDoor
