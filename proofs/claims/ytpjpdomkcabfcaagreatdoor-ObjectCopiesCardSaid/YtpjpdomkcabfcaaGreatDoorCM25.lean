import Derived.Test.YtpjpdomkcabfcaaGreatDoorCM19
import Derived.Test.YtpjpdomkcabfcaaGreatDoorCM20
import Derived.Test.YtpjpdomkcabfcaaGreatDoorCM24
import Derived.Shelf.SlMaps.Clone
import Derived.Test.YtpjpdomkcabfcaaGreatDoorCM23
import Derived.Test.YtpjpdomkcabfcaaGreatDoorCards
import Derived.Test.YtpjpdomkcabfcaaGreatDoorTie
import Derived.WalkKit
import Derived.ProofKit
import Derived.OpenShut
import Derived.JoinedCond
import Derived.Carry
import Derived.ChangeSlices
import Derived.Deep.DeepHandedRow
import Derived.Lib.LaidTab
set_option linter.unusedVariables false
set_option linter.unusedSimpArgs false
set_option linter.unusedSectionVars false
namespace Go.Proofs.YtpjpdomkcabfcaaGreatDoor
open Go.TM Go.RowKit
set_option maxRecDepth 100000
set_option maxHeartbeats 4000000 in
theorem mapClone_calls (b:Nat) (es:Array MapEntry) (clock:Nat) (w:World) (hb:w.heap[b]?=some (.map es clock)) :
  Calls Tryz.prog 51 #[.map (some b)] w fun e w'=>e=.returned (.map (some w.heap.size))∧w'=w.alloc (.map es clock):=by
 have hq:=fun w=>run_eql_map_nil_sl (P:=Tryz.prog) w 86 _ _ (some b) Tryz.underlying86
 go_enter Tryz.func51,Tryz.ntmps51
 go_wp2
 rw [run_callFunc_extern Tryz.func80 (by kernel_rfl) (by kernel_rfl) (by kernel_rfl) (e:=Extern.MapsClone.clone) (by kernel_rfl),run_maps_clone_sl w 86 hb]
 simp only [Result.andThen]
 rw [Oper.upon_value]
 go_wp2
 rw [run_typeAssert_map_sl _ 86 _ _ _ _ Tryz.underlying86]
 simp only [Result.andThen]
 rw [Oper.upon_value]
 go_wp2
 go_ret
 exact ⟨rfl,rfl⟩
variable [KObj]
theorem mapClone_spec (m:OM):CSpec Tryz.prog 51 [.own 0 0 0 []] 1 [(0,.tree 0 0 (.omap pairK (m.map eEnt)))] 1 [.own 1 0 0 []] [(0,.tree 0 0 (.omap pairK (m.map eEnt))),(1,.tree 0 0 (.omap pairK (m.map eEnt)))] :=
 cspec_clone ⟨_,Tryz.func51,by kernel_rfl,rfl⟩ mapClone_calls (fun k x h=>by
  obtain ⟨p,_,hp⟩:=List.mem_map.1 h
  injection hp with _ hp; subst hp; exact closed_eOb p.2)
set_option maxRecDepth 100000
set_option maxHeartbeats 4000000 in
theorem copyS_spec (its:List Item) (m:OM):CSpec Tryz.prog 26 [.ptr 0 0] 2 (stK its m) 2 [.ptr 3 0] (stK its m++[(2,.tree 0 0 (.omap pairK (m.map eEnt))),(3,.cells [.dv (.sl 7 (its.map eItem)),.dv rulesD,.dv tabsD,.dv taxesD,.own 2 0 0 []])]):=by
 refine cspec_of tab_ok mixed (calls_snd _) (range_snd _) Tryz.func26 rfl rfl (by kernel_rfl) ?_
 refine .inr ⟨[1],[.own 0 0 0 []],[(0,.tree 0 0 (.omap pairK (m.map eEnt)))],1,_,_,mapClone_spec m,by kernel_rfl,by kernel_rfl,⟨rfl,tv⟩,⟨⟨rfl,rfl⟩,tv⟩,?_⟩
 exact ⟨by kernel_rfl,_,_,⟨rfl,rfl⟩,by kernel_rfl,⟨rfl,tv⟩,⟨rf,rf,rf,rf,rfl,tv⟩,⟨rfl,rfl⟩,⟨rfl,rfl⟩,⟨rf,rf,rf,rf,rfl,tv⟩,tv⟩
end Go.Proofs.YtpjpdomkcabfcaaGreatDoor
namespace Go.Proofs.YtpjpdomkcabfcaaGreatDoor
open Go.TM
variable [KObj]
set_option maxRecDepth 100000
def runM (its:List Item) (l:List Int) (m:OM):Nat→OM
 | 0=>m
 | i+1=>doM its (runM its l m i) (opAt l i)
def runL (its:List Item) (l:List Int) (L:OM):Nat→OM
 | 0=>L
 | i+1=>rdoM its (runL its l L i) (opAt l i)
theorem run_goes {its:List Item} (ht:TyOk its) (l:List Int) {m L:OM} (h:Goes its m L):∀i,Goes its (runM its l m i) (runL its l L i)
 | 0=>h
 | i+1=>(run_goes ht l h i).op ht
def coInv (its:List Item) (l:List Int) (m L:OM) (i:Nat):AState :=
 ⟨8,[(9,.ptr 3 0),(10,.ptr 4 0),(12,.ptr 7 0),(13,.dv (.str (bytOf (encB m)))),(14,.dv (.sl 9 ((opsL l).map eOp))),(15,.dv (I i))],
  [(3,.cells (agC its 2)),(2,.tree 0 0 (.omap pairK (m.map eEnt))),(4,.cells (agC its 5)),(5,.tree 0 0 (.osl 6 ((runL its l L i).map eRo))),(7,.cells (agC its 6)),(6,.tree 0 0 (.omap pairK ((runM its l m i).map eEnt)))]⟩
set_option maxHeartbeats 4000000 in
theorem copies_spec (bind wear:Int) (l more:List Int):PSpec Tryz.prog 6 [I bind,I wear,Ints l,Ints more] [B true]:=by
 refine pspec_of tab_ok mixed (calls_snd _) (range_snd _) Tryz.func6 rfl (by kernel_rfl) rfl ?_
 obtain ⟨b,w,hb0,hb1,hw0,hw1,hfi⟩:=filled_spec bind wear l
 have hty:TyOk (itemsL b w):=itemsL_ok ⟨by omega,hw1⟩
 have hg:=fill_goes hty l (opsL l).length
 generalize fillM (itemsL b w) l (opsL l).length=m at hfi hg
 generalize fillL (itemsL b w) l (opsL l).length=L at hfi hg
 have hnum:=numS hg.fit.ok hg.ko (by show 5≤1000; omega)
 have hen:=encode_spec (itemsL b w) m hg.fit.nd hg.len.1 hnum
 have hag:=agree_spec (itemsL b w) m L hg.same hg.len.1 hnum
 refine .inr ⟨[],[.dv (I bind),.dv (I wear),.dv (Ints l)],[],6,_,_,hfi,by kernel_rfl,by kernel_rfl,⟨rf,rf,rf,tv⟩,tv,?_⟩
 refine ⟨fun h=>(by cases h),fun _=>?_⟩
 refine .inr ⟨[3,2],[.ptr 0 0],stK (itemsL b w) m,2,_,_,copyS_spec (itemsL b w) m,by kernel_rfl,by kernel_rfl,⟨rfl,tv⟩,⟨⟨rf,rf,rf,rf,rfl,tv⟩,⟨rfl,rfl⟩,tv⟩,?_⟩
 refine .inr ⟨[3,2],[.ptr 0 0],stK (itemsL b w) m,8,_,_,hen,by kernel_rfl,by kernel_rfl,⟨rfl,tv⟩,⟨⟨rf,rf,rf,rf,rfl,tv⟩,⟨rfl,rfl⟩,tv⟩,?_⟩
 refine .inl ⟨closed_Y _,encB m,rfl,?_⟩
 refine .inl ⟨_,fun _=>(ops_spec more).ok,?_⟩
 repeat first | refine ⟨id,?_⟩ | refine ⟨fun _=>rfl,?_⟩ | refine ⟨fun _ h=>bw_f h,?_⟩
 refine Or.inr ⟨[7,6,4,5],[.ptr 0 0,.ptr 2 0],agK (itemsL b w) m L,0,_,_,hag,by kernel_rfl,by kernel_rfl,⟨rfl,rfl,tv⟩,⟨⟨rf,rf,rf,rf,rfl,tv⟩,⟨rfl,rfl⟩,⟨rf,rf,rf,rf,rfl,tv⟩,⟨rfl,rfl⟩,tv⟩,rfl,?_⟩
 repeat first | refine ⟨id,?_⟩ | refine ⟨fun _=>rfl,?_⟩ | refine ⟨fun _ h=>bw_f h,?_⟩
 refine ⟨fun h=>(by cases h),fun _=>?_⟩
 have hK:(opsL more).length≤20:=by unfold opsL; rw [opsN_len]; unfold opsK; omega
 refine ⟨Nat,coInv (itemsL b w) more m L,fun i=>i≤(opsL more).length,fun i=>(opsL more).length - i,0,fun _=>rfl,⟨⟨rfl,rfl,rfl,rf,rf,rf,tv⟩,⟨⟨rf,rf,rf,rf,rfl,tv⟩,⟨rfl,rfl⟩,⟨rf,rf,rf,rf,rfl,tv⟩,⟨rfl,rfl⟩,⟨rf,rf,rf,rf,rfl,tv⟩,⟨rfl,rfl⟩,tv⟩,rfl,rfl⟩,Nat.zero_le _,?_⟩
 intro i hi
 have hm:=run_goes hty more hg i
 refine ⟨fun h=>?_,fun h=>?_⟩
 ·have hlt:i<(opsL more).length:=by simpa using h
  clear h
  have hin:(opsL more)[i]?=some (opsL more)[i]:=List.getElem?_eq_getElem hlt
  have hoa:=opsL_at hin
  have hel:((opsL more).map eOp)[(i:Int).toNat]?=some (eOp (opAt more i)):=by simp [hlt,←hoa]
  have hdo:=do_spec (itemsL b w) (runM (itemsL b w) more m i) (opAt more i) hm.fit.ok (opAt_a more i)
  have hrd:=rdo_spec (itemsL b w) (runL (itemsL b w) more L i) (by have:=hm.len; omega) (opAt more i) hm.okL (opAt_a more i)
  rw [sim_doE hm.same] at hrd
  refine ⟨eOp (opAt more i),fun _=>⟨by omega,hel⟩,?_⟩
  refine .inr ⟨[7,6],[.ptr 0 0,ofD (eOp (opAt more i))],stK (itemsL b w) (runM (itemsL b w) more m i),0,_,_,hdo,by kernel_rfl,by kernel_rfl,⟨rfl,⟨rf,rf,rf,rf,rf,rf,rf,rf,rf,tv⟩,tv⟩,⟨⟨rf,rf,rf,rf,rfl,tv⟩,⟨rfl,rfl⟩,tv⟩,?_⟩
  refine ⟨eOp (opAt more i),fun _=>⟨by omega,hel⟩,?_⟩
  refine .inr ⟨[4,5],[.ptr 0 0,ofD (eOp (opAt more i))],rfK (itemsL b w) (runL (itemsL b w) more L i) 0,0,_,_,hrd,by kernel_rfl,by kernel_rfl,⟨rfl,⟨rf,rf,rf,rf,rf,rf,rf,rf,rf,tv⟩,tv⟩,⟨⟨rf,rf,rf,rf,rfl,tv⟩,⟨rfl,rfl⟩,tv⟩,?_⟩
  refine ⟨by kernel_rfl,fun h=>?_,fun _=>?_⟩
  ·exfalso
   have h':(doE (itemsL b w) (runM (itemsL b w) more m i) (opAt more i) != doE (itemsL b w) (runM (itemsL b w) more m i) (opAt more i))=true:=h
   simp at h'
  exact ⟨fun _=>⟨by omega,by omega⟩,i+1,⟨⟨rfl,rfl,rfl,rf,rf,le_int (by simp),tv⟩,⟨⟨rf,rf,rf,rf,rfl,tv⟩,⟨rfl,rfl⟩,⟨rf,rf,rf,rf,rfl,tv⟩,⟨rfl,rfl⟩,⟨rf,rf,rf,rf,rfl,tv⟩,⟨rfl,rfl⟩,tv⟩,rfl,rfl⟩,by show i+1≤(opsL more).length; omega,by show (opsL more).length - (i+1)<(opsL more).length - i; omega⟩
 ·have hag2:=agree_spec (itemsL b w) _ _ hm.same hm.len.1 (numS hm.fit.ok hm.ko (by show 5≤1000; omega))
  refine .inr ⟨[7,6,4,5],[.ptr 0 0,.ptr 2 0],agK (itemsL b w) (runM (itemsL b w) more m i) (runL (itemsL b w) more L i),0,_,_,hag2,by kernel_rfl,by kernel_rfl,⟨rfl,rfl,tv⟩,⟨⟨rf,rf,rf,rf,rfl,tv⟩,⟨rfl,rfl⟩,⟨rf,rf,rf,rf,rfl,tv⟩,⟨rfl,rfl⟩,tv⟩,?_⟩
  repeat first | refine ⟨id,?_⟩ | refine ⟨fun _ h=>bw_f h,?_⟩ | refine ⟨fun _ h=>bw_t h,?_⟩ | refine ⟨fun h=>⟨h,fun h2=>bw_and h h2⟩,?_⟩ | refine ⟨fun h=>⟨h,fun h2=>bw_andf h h2⟩,?_⟩
  refine Or.inr ⟨[3,2],[.ptr 0 0],stK (itemsL b w) m,8,_,_,hen,by kernel_rfl,by kernel_rfl,⟨rfl,tv⟩,⟨⟨rf,rf,rf,rf,rfl,tv⟩,⟨rfl,rfl⟩,tv⟩,rfl,?_⟩
  refine ⟨fun _=>rfl,.inl ⟨closed_Y _,encB m,rfl,?_⟩⟩
  repeat first | refine ⟨id,?_⟩ | refine ⟨fun _ h=>bw_f h,?_⟩ | refine ⟨fun _ h=>bw_t h,?_⟩ | refine ⟨fun h=>⟨h,fun h2=>bw_and h h2⟩,?_⟩ | refine ⟨fun h=>⟨h,fun h2=>bw_andf h h2⟩,?_⟩
  refine .inl ⟨_,fun _=>lives_spec.ok,?_⟩
  refine ⟨fun _ h=>bw_t h,DV.Le.of_eq (congrArg B ?_),tv⟩
  simp
end Go.Proofs.YtpjpdomkcabfcaaGreatDoor
namespace Go.Proofs.YtpjpdomkcabfcaaGreatDoor
open Go.TM Go.ChangeShapes Go.WideShapes Go.ChangeAt Go.RowKit
theorem own:ownKnob Tryz.prog.godebug=none:=by kernel_rfl
theorem laidOut:laidOutB Tryz.prog=true:=by kernel_rfl
theorem in_i64 {n:Int} (h:(Lit.int .i64 n).wf=true):InI n:=by simpa [InI,Lit.wf,IntKind.min,IntKind.max,IntKind.signed,IntKind.bits] using h
theorem ints_of {H:Type} {enc:TypeId × Value→H} {W:World} {v:Value} {d:DataW H} {p:List MemPlace} (hv:∃a len cap,v=.slice a len cap) (h:DataW.Trod enc Tryz.prog W 0 (fun _=>true) true 22 v d p) :
  ∃zs:List Int,DRel (fun b=>W.heap[b]?) (Ints zs) v∧∀x,x∈zs→InI x:=by
 obtain ⟨fuel,h⟩:=h
 obtain ⟨a0,l0,c0,rfl⟩:=hv
 rcases open_ints Tryz.underlying22 Tryz.underlying3 (by kernel_rfl) h with ⟨h1,-⟩ | ⟨a,len,cap,zs,h1,h2,h3,h4,h5,h6,h7,h8⟩
 ·simp [Value.cells] at h1
  obtain ⟨rfl,rfl,rfl⟩:=h1
  exact ⟨[],.slnil 1,fun x hx=>by simp at hx⟩
 ·simp [Value.cells] at h1
  obtain ⟨rfl,rfl,rfl⟩:=h1
  simp only [if_true] at h5
  have hlen:((zs.take l0).map I).length=l0:=by simp; omega
  refine ⟨zs.take l0,?_,fun x hx=>in_i64 (h8 x (List.mem_of_mem_take hx))⟩
  ·have hd:=DRel.sl (M:=fun b=>W.heap[b]?) 1 ((zs.take l0).map I) a c0 (fun i _=>.int .i64 (zs.getD i 0)) (by rw [hlen]; exact h3) (fun x hx=>by
    obtain ⟨n,-,rfl⟩:=List.mem_map.1 hx
    exact ⟨rfl,fun d hd=>by simp only [DV.cells,List.mem_singleton] at hd; subst hd; rfl⟩) (fun i j hi hj=>by
    have hj0:j=0:=by omega
    subst hj0
    rw [hlen] at hi
    have:=h7 i (by omega)
    rw [Nat.mul_one,Nat.add_zero]
    exact this) (fun i x j d hx hd=>by
    have hi:i<l0:=by
     have:=(List.getElem?_eq_some_iff.1 hx).1
     rw [hlen] at this; exact this
    rw [List.getElem?_map,List.getElem?_take_of_lt hi,List.getElem?_eq_getElem (by omega)] at hx
    simp only [Option.map_some,Option.some.injEq] at hx
    subst hx
    match j,hd with
    | 0,hd =>
     simp only [DV.cells,List.getElem?_cons_zero,Option.some.injEq] at hd
     subst hd
     have e:zs.getD i 0=zs[i]'(by omega):=by simp [List.getD,List.getElem?_eq_getElem (show i<zs.length by omega)]
     rw [e]
     exact .int .i64 _
    | j+1,hd=>simp [DV.cells] at hd)
   rw [hlen] at hd
   exact hd
theorem kinds_of {W:World} (h:laidMetH Tryz.prog [("worldmint/lexer.kinds",Rows.laid_worldmint_lexer_kinds)] W):∃(ty:TypeId) (fr:Nat × Nat),W.heap[2]?=some (.cells kArr ty fr):=by
 have ht:Lib.TabIs Tryz.prog W "worldmint/lexer.kinds" .u8 (kindL.map fun n=>((n:Nat):Int)) :=
  Lib.tabIs_of_head (rest:=[]) (g:=2) (t:=254) (e:=5) (n:=128) (by kernel_rfl) (by kernel_rfl) Tryz.underlying254 Tryz.underlying5 (by kernel_rfl) (by kernel_rfl) h
 have hg:Tryz.prog.globalNamed "worldmint/lexer.kinds"=some 2:=by kernel_rfl
 unfold Lib.TabIs World.var? at ht
 rw [hg] at ht
 simp only [Option.bind_some] at ht
 split at ht
 ·rename_i cs ty fr hh
  injection ht with ht
  refine ⟨ty,fr,?_⟩
  rw [hh,ht]
  simp only [kArr,List.map_map]
  rfl
 ·cases ht
def laidW (w:World):World:={ w with heap:=w.heap.modify 2 fun
  | .cells _ t frozen=>.cells kArr t frozen
  | o=>o }
end Go.Proofs.YtpjpdomkcabfcaaGreatDoor
