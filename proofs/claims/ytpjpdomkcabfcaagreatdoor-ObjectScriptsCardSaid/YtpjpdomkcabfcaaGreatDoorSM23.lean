import Derived.Test.YtpjpdomkcabfcaaGreatDoorSM22
import Derived.Test.YtpjpdomkcabfcaaGreatDoorSM19
import Derived.Test.YtpjpdomkcabfcaaGreatDoorCards
import Derived.Test.YtpjpdomkcabfcaaGreatDoorTie
import Derived.WalkKit
import Derived.ProofKit
import Derived.OpenShut
import Derived.JoinedCond
import Derived.Carry
import Derived.ChangeSlices
import Derived.Deep.DeepHandedRow
import Derived.Lib.LaidTab
set_option linter.unusedVariables false
set_option linter.unusedSimpArgs false
set_option linter.unusedSectionVars false
namespace Go.Proofs.YtpjpdomkcabfcaaGreatDoor
open Go.TM
variable [KObj]
def agC (its:List Item) (i:Nat):List AV:=[.dv (.sl 7 (its.map eItem)),.dv rulesD,.dv tabsD,.dv taxesD,.own i 0 0 []]
def agK (its:List Item) (m L:OM):Boxes:=[(0,.cells (agC its 1)),(1,.tree 0 0 (.omap pairK (m.map eEnt))),(2,.cells (agC its 3)),(3,.tree 0 0 (.osl 6 (L.map eRo)))]
structure AgS where
 k:Nat
 i:Nat
def agInv1 (its:List Item) (m L:OM) (ow:Nat):AState:=⟨4,[(0,.ptr 0 0),(1,.ptr 2 0),(5,.dv (I ow))],agK its m L⟩
def agInv2 (its:List Item) (m L:OM) (ow:Nat) (ids:List Ky):AgS→AState
 | ⟨k,i⟩=>⟨6,[(0,.ptr 0 0),(1,.ptr 2 0),(5,.dv (I ow)),(6,.own 5 0 0 []),(7,.dv (I k)),(8,.dv (I i))],agK its m L++[(5,.tree 0 0 (.osl 2 (ids.map eKy)))]⟩
theorem bytOf_eq {a b:List Int} (h:a=b):((bytOf a).toList == (bytOf b).toList)=true:=by subst h; simp
set_option maxRecDepth 100000
set_option maxHeartbeats 4000000 in
theorem agree_spec (its:List Item) (m L:OM) (hs:Same m L) (hl:m.length≤12) (hn:NumS m):CSpec Tryz.prog 20 [.ptr 0 0,.ptr 2 0] 4 (agK its m L) 0 [.dv (B true)] (agK its m L):=by
 refine cspec_of tab_ok mixed (calls_snd _) (range_snd _) Tryz.func20 rfl rfl (by kernel_rfl) ?_
 have hL:L.length≤12:=by rw [hs.len]; exact hl
 refine .inr ⟨[0,1],[.ptr 0 0],stK its m,8,_,_,encode_spec its m hs.nd hl hn,by kernel_rfl,by kernel_rfl,⟨rfl,tv⟩,⟨⟨rf,rf,rf,rf,rfl,tv⟩,⟨rfl,rfl⟩,tv⟩,?_⟩
 refine .inl ⟨closed_Y _,encB m,rfl,?_⟩
 refine .inr ⟨[2,3],[.ptr 0 0],rfK its L 0,1,_,_,rencode_spec its L (by omega) (hs.num hn),by kernel_rfl,by kernel_rfl,⟨rfl,tv⟩,⟨⟨rf,rf,rf,rf,rfl,tv⟩,⟨rfl,rfl⟩,tv⟩,?_⟩
 refine .inl ⟨closed_Y _,encR L,rfl,?_⟩
 refine ⟨by kernel_rfl,fun h=>?_,fun _=>?_⟩
 ·exfalso
  have h':(!((bytOf (encB m)).toList == (bytOf (encR L)).toList))=true:=h
  rw [bytOf_eq hs.enc] at h'
  cases h'
 refine ⟨Nat,agInv1 its m L,fun ow=>ow≤6,fun ow=>6 - ow,0,fun _=>rfl,⟨⟨rfl,rfl,rf,tv⟩,⟨⟨rf,rf,rf,rf,rfl,tv⟩,⟨rfl,rfl⟩,⟨rf,rf,rf,rf,rfl,tv⟩,⟨rfl,rfl⟩,tv⟩,rfl,rfl⟩,Nat.zero_le _,?_⟩
 intro ow how
 refine ⟨fun h=>?_,fun h=>?_⟩
 ·have how2:(ow:Int)<6:=of_decide_eq_true h
  clear h
  refine .inr ⟨[0,1],[.ptr 0 0,.dv (I ow)],stK its m,2,_,_,of_spec its m ow hs.nd hl,by kernel_rfl,by kernel_rfl,⟨rfl,rf,tv⟩,⟨⟨rf,rf,rf,rf,rfl,tv⟩,⟨rfl,rfl⟩,tv⟩,?_⟩
  have hof:=hs.of ow
  generalize ofL m ow=ids at hof
  have hil:ids.length≤12:=by rw [hof,List.length_map]; exact Nat.le_trans (List.length_filter_le _ _) hL
  refine ⟨AgS,agInv2 its m L ow ids,fun z=>z.i≤L.length∧z.k=(ownL (L.take z.i) ow).length,fun z=>L.length - z.i,⟨0,0⟩,fun ⟨_,_⟩=>rfl,⟨⟨rfl,rfl,rf,rfl,rf,rf,tv⟩,⟨⟨rf,rf,rf,rf,rfl,tv⟩,⟨rfl,rfl⟩,⟨rf,rf,rf,rf,rfl,tv⟩,⟨rfl,rfl⟩,⟨rfl,rfl⟩,tv⟩,rfl,rfl⟩,⟨Nat.zero_le _,rfl⟩,?_⟩
  rintro ⟨k,i⟩ ⟨hi,hk⟩
  dsimp only at hi hk
  refine ⟨fun h=>?_,fun h=>?_⟩
  ·have hlt:i<L.length:=by simpa using h
   clear h
   have hel:(L.map eRo)[(i:Int).toNat]?=some (eRo L[i]):=by simp [hlt]
   have hmem:L[i]∈L:=List.getElem_mem hlt
   have htk:L.take (i+1)=L.take i++[L[i]]:=List.take_succ_eq_append_getElem hlt
   have hsp:L=L.take i++L[i]::L.drop (i+1):=by rw [←List.drop_eq_getElem_cons hlt,List.take_append_drop]
   generalize L[i]=q at hel hmem htk hsp
   refine ⟨fun _=>⟨by omega,by simp; omega⟩,eRo q,fun _=>hel,fun h=>?_,fun h=>?_⟩
   ·have ho:(q.2.owner == (ow:Int))=false:=by simpa [bne] using h
    refine ⟨fun _=>⟨by omega,by omega⟩,⟨k,i+1⟩,⟨⟨rfl,rfl,rf,rfl,rf,le_int (by simp),tv⟩,⟨⟨rf,rf,rf,rf,rfl,tv⟩,⟨rfl,rfl⟩,⟨rf,rf,rf,rf,rfl,tv⟩,⟨rfl,rfl⟩,⟨rfl,rfl⟩,tv⟩,rfl,rfl⟩,⟨by show i+1≤L.length; omega,?_⟩,by show L.length - (i+1)<L.length - i; omega⟩
    show k=(ownL (L.take (i+1)) ow).length
    rw [htk,ownL,List.filter_append,List.length_append,hk]
    simp [ho,ownL]
   ·have ho:(q.2.owner == (ow:Int))=true:=by simpa [bne] using h
    have hids:ids=(ownL (L.take i) ow).map Prod.fst++q.1::(ownL (L.drop (i+1)) ow).map Prod.fst:=by
     rw [hof]
     conv=>lhs; rw [hsp]
     unfold ownL
     rw [List.filter_append,List.filter_cons,if_pos ho,List.map_append,List.map_cons]
    have hkl:k<ids.length:=by rw [hids]; simp; omega
    have hik:ids[k]?=some q.1:=by
     rw [hids,List.getElem?_append_right (by rw [List.length_map,hk]; exact Nat.le_refl _),List.length_map,hk]
     simp
    have hel2:(ids.map eKy)[(k:Int).toNat]?=some (eKy q.1):=by simp [hik]
    repeat first | refine ⟨id,?_⟩ | refine ⟨fun _ h=>bw_f h,?_⟩ | refine ⟨fun _ h=>bw_t h,?_⟩ | refine ⟨fun h=>⟨h,fun h2=>bw_and h h2⟩,?_⟩ | refine ⟨fun h=>⟨h,fun h2=>bw_andf h h2⟩,?_⟩
    refine ⟨fun _=>⟨by omega,by simp; omega⟩,id,eKy q.1,fun _=>hel2,?_⟩
    repeat first | refine ⟨id,?_⟩ | refine ⟨fun _ h=>bw_f h,?_⟩ | refine ⟨fun _ h=>bw_t h,?_⟩ | refine ⟨fun h=>⟨h,fun h2=>bw_and h h2⟩,?_⟩ | refine ⟨fun h=>⟨h,fun h2=>bw_andf h h2⟩,?_⟩
    refine ⟨fun _=>⟨by omega,by simp; omega⟩,id,id,eRo q,fun _=>hel,?_⟩
    repeat first | refine ⟨id,?_⟩ | refine ⟨fun _ h=>bw_f h,?_⟩ | refine ⟨fun _ h=>bw_t h,?_⟩ | refine ⟨fun h=>⟨h,fun h2=>bw_and h h2⟩,?_⟩ | refine ⟨fun h=>⟨h,fun h2=>bw_andf h h2⟩,?_⟩
    refine ⟨fun _=>⟨by omega,by simp; omega⟩,id,id,eRo q,fun _=>hel,?_⟩
    repeat first | refine ⟨id,?_⟩ | refine ⟨fun _ h=>bw_f h,?_⟩ | refine ⟨fun _ h=>bw_t h,?_⟩ | refine ⟨fun h=>⟨h,fun h2=>bw_and h h2⟩,?_⟩ | refine ⟨fun h=>⟨h,fun h2=>bw_andf h h2⟩,?_⟩
    refine ⟨by kernel_rfl,fun h=>?_,fun _=>?_⟩
    ·exfalso
     have h':(bif decide (((ids.map eKy).length:Int)≤(k:Int)) then true else !(q.1.1 == q.1.1 && (q.1.2 == q.1.2 && true)))=true:=h
     have hd:decide (((ids.map eKy).length:Int)≤(k:Int))=false:=by simp; omega
     rw [hd] at h'
     simp at h'
    refine ⟨fun _=>⟨by omega,by simp; omega⟩,eKy q.1,fun _=>hel2,?_⟩
    have hg:=get_spec its m q.1
    rw [hs.at hmem] at hg
    refine .inr ⟨[0,1],[.ptr 0 0,ofD (eKy q.1)],stK its m,0,_,_,hg,by kernel_rfl,by kernel_rfl,⟨rfl,⟨rf,rf,tv⟩,tv⟩,⟨⟨rf,rf,rf,rf,rfl,tv⟩,⟨rfl,rfl⟩,tv⟩,?_⟩
    repeat first | refine ⟨id,?_⟩ | refine ⟨fun _ h=>bw_f h,?_⟩ | refine ⟨fun _ h=>bw_t h,?_⟩ | refine ⟨fun h=>⟨h,fun h2=>bw_and h h2⟩,?_⟩ | refine ⟨fun h=>⟨h,fun h2=>bw_andf h h2⟩,?_⟩
    refine ⟨fun _=>⟨by omega,by simp; omega⟩,id,eRo q,fun _=>hel,?_⟩
    repeat first | refine ⟨id,?_⟩ | refine ⟨fun _ h=>bw_f h,?_⟩ | refine ⟨fun _ h=>bw_t h,?_⟩ | refine ⟨fun h=>⟨h,fun h2=>bw_and h h2⟩,?_⟩ | refine ⟨fun h=>⟨h,fun h2=>bw_andf h h2⟩,?_⟩
    refine Or.inl ⟨_,fun _=>(state_spec q.1.1 q.1.2 q.2.item q.2.owner q.2.wear q.2.bound).ok,?_⟩
    repeat first | refine ⟨id,?_⟩ | refine ⟨fun _ h=>bw_f h,?_⟩ | refine ⟨fun _ h=>bw_t h,?_⟩ | refine ⟨fun h=>⟨h,fun h2=>bw_and h h2⟩,?_⟩ | refine ⟨fun h=>⟨h,fun h2=>bw_andf h h2⟩,?_⟩
    refine ⟨by kernel_rfl,fun h=>?_,fun _=>?_⟩
    ·exfalso
     have h':(!(q.2.item == q.2.item && (q.2.owner == q.2.owner && (q.2.wear == q.2.wear && (q.2.bound == q.2.bound && true)))))=true:=h
     simp at h'
    refine ⟨fun _=>⟨by omega,by omega⟩,fun _=>⟨by omega,by omega⟩,⟨k+1,i+1⟩,⟨⟨rfl,rfl,rf,rfl,le_int (by simp),le_int (by simp),tv⟩,⟨⟨rf,rf,rf,rf,rfl,tv⟩,⟨rfl,rfl⟩,⟨rf,rf,rf,rf,rfl,tv⟩,⟨rfl,rfl⟩,⟨rfl,rfl⟩,tv⟩,rfl,rfl⟩,⟨by show i+1≤L.length; omega,?_⟩,by show L.length - (i+1)<L.length - i; omega⟩
    show k+1=(ownL (L.take (i+1)) ow).length
    rw [htk,ownL,List.filter_append,List.length_append,hk]
    simp [ho,ownL]
  ·have he0:¬ i<L.length:=by simpa using h
   have he:i=L.length:=by omega
   subst he
   have hk2:k=ids.length:=by rw [hk,List.take_length,hof,List.length_map]
   refine ⟨fun h=>?_,fun _=>?_⟩
   ·exfalso
    have h':((k:Int) != ((ids.map eKy).length:Int))=true:=h
    rw [hk2] at h'
    simp at h'
   exact ⟨fun _=>⟨by omega,by omega⟩,ow+1,⟨⟨rfl,rfl,le_int (by simp),tv⟩,⟨⟨rf,rf,rf,rf,rfl,tv⟩,⟨rfl,rfl⟩,⟨rf,rf,rf,rf,rfl,tv⟩,⟨rfl,rfl⟩,tv⟩,rfl,rfl⟩,by show ow+1≤6; omega,by show 6 - (ow+1)<6 - ow; omega⟩
 ·exact ⟨_,_,⟨rfl,rfl⟩,by kernel_rfl,⟨rf,tv⟩,⟨rf,rf,rf,rf,rfl,tv⟩,⟨rfl,rfl⟩,⟨rf,rf,rf,rf,rfl,tv⟩,⟨rfl,rfl⟩,tv⟩
end Go.Proofs.YtpjpdomkcabfcaaGreatDoor
namespace Go.Proofs.YtpjpdomkcabfcaaGreatDoor
open Go.TM
variable [KObj]
set_option maxRecDepth 100000
structure SI where
 i:Nat
 m:OM
 L:OM
def scK (its:List Item) (m L:OM):Boxes:=[(3,.cells (agC its 2)),(2,.tree 0 0 (.omap pairK (m.map eEnt))),(4,.cells (agC its 5)),(5,.tree 0 0 (.osl 6 (L.map eRo)))]
def scInv (its:List Item) (l:List Op):SI→AState
 | ⟨i,m,L⟩=>⟨6,[(7,.ptr 3 0),(8,.ptr 4 0),(10,.dv (.sl 9 (l.map eOp))),(11,.dv (I i))],scK its m L⟩
theorem both_ok (n k:Int):∃b w,0≤b∧b≤2∧1≤w∧w≤40∧CSpec Tryz.prog 9 [.dv (I n),.dv (I k)] 0 [] 5 [.ptr 3 0,.ptr 4 0,.dv (B true)] (bothK b w):=by
 have h1:=around_bd n 3 (by omega)
 have h2:=around_bd k 40 (by omega)
 exact ⟨_,_,h1.1,by omega,by omega,by omega,both_spec n k⟩
structure Goes (its:List Item) (m L:OM):Prop where
 fit:Fit its m
 same:Same m L
 ko:KO m
theorem Goes.len {its:List Item} {m L:OM} (h:Goes its m L):m.length≤12∧L.length≤12:=by
 have:=h.fit.len
 have:=h.same.len
 omega
theorem Goes.okL {its:List Item} {m L:OM} (h:Goes its m L):OkS its L:=fun k x hx=>h.fit.ok k x ((h.same.get k).trans hx)
theorem goes_nil (its:List Item):Goes its [] []:=⟨fit_nil its,same_nil,fun k x h=>by simp [oget] at h⟩
theorem opAt_in (l:List Int) (i:Int):InI (opK (opAt l i)).1∧InI (opK (opAt l i)).2:=by
 have h1:=pick_bd l (6 * i+3) 3 (by omega)
 have h2:=pick_bd l (6 * i+3) 2 (by omega)
 refine ⟨⟨by simp only [opK,opAt]; omega,by simp only [opK,opAt]; omega⟩,?_⟩
 simp only [opK,opAt]
 split <;> exact ⟨by omega,by omega⟩
theorem Goes.op {its:List Item} {m L:OM} (h:Goes its m L) (ht:TyOk its) {l:List Int} {i:Int}:Goes its (doM its m (opAt l i)) (rdoM its L (opAt l i)) :=
 ⟨fit_doM h.fit ht (opAt_key l i),sim_doM h.same ht _,ko_doM h.ko h.fit.nd (opAt_in l i)⟩
set_option maxHeartbeats 4000000 in
theorem scripts_spec (bind wear:Int) (l:List Int):PSpec Tryz.prog 5 [I bind,I wear,Ints l] [B true]:=by
 refine pspec_of tab_ok mixed (calls_snd _) (range_snd _) Tryz.func5 rfl (by kernel_rfl) rfl ?_
 obtain ⟨b,w,hb0,hb1,hw0,hw1,hbo⟩:=both_ok bind wear
 have hty:TyOk (itemsL b w):=itemsL_ok ⟨by omega,hw1⟩
 refine .inr ⟨[],[.dv (I bind),.dv (I wear)],[],5,_,_,hbo,by kernel_rfl,by kernel_rfl,⟨rf,rf,tv⟩,tv,?_⟩
 refine ⟨fun h=>(by cases h),fun _=>?_⟩
 refine .inl ⟨_,fun _=>(ops_spec l).ok,?_⟩
 have hK:(opsL l).length≤20:=by unfold opsL; rw [opsN_len]; unfold opsK; omega
 refine ⟨SI,scInv (itemsL b w) (opsL l),fun x=>x.i≤(opsL l).length∧Goes (itemsL b w) x.m x.L,fun x=>(opsL l).length - x.i,⟨0,[],[]⟩,fun ⟨_,_,_⟩=>rfl,⟨⟨rfl,rfl,rf,rf,tv⟩,⟨⟨rf,rf,rf,rf,rfl,tv⟩,⟨rfl,rfl⟩,⟨rf,rf,rf,rf,⟨rfl,rfl,rfl,rfl,6,rfl⟩,tv⟩,⟨rfl,rfl,6,rfl⟩,tv⟩,rfl,rfl⟩,⟨by show 0≤(opsL l).length; omega,goes_nil _⟩,?_⟩
 rintro ⟨i,m,L⟩ ⟨hi,hm⟩
 simp only at hi hm
 refine ⟨fun h=>?_,fun h=>?_⟩
 ·have hlt:i<(opsL l).length:=by simpa using h
  clear h
  have hin:(opsL l)[i]?=some (opsL l)[i]:=List.getElem?_eq_getElem hlt
  have hoa:=opsL_at hin
  have hel:((opsL l).map eOp)[(i:Int).toNat]?=some (eOp (opAt l i)):=by simp [hlt,←hoa]
  have hdo:=do_spec (itemsL b w) m (opAt l i) hm.fit.ok (opAt_a l i)
  have hrd:=rdo_spec (itemsL b w) L (by have:=hm.len; omega) (opAt l i) hm.okL (opAt_a l i)
  rw [sim_doE hm.same] at hrd
  have hg:=hm.op hty (l:=l) (i:=i)
  have hag:=agree_spec (itemsL b w) _ _ hg.same hg.len.1 (numS hg.fit.ok hg.ko (by show 5≤1000; omega))
  refine ⟨eOp (opAt l i),fun _=>⟨by omega,hel⟩,?_⟩
  refine .inr ⟨[3,2],[.ptr 0 0,ofD (eOp (opAt l i))],stK (itemsL b w) m,0,_,_,hdo,by kernel_rfl,by kernel_rfl,⟨rfl,⟨rf,rf,rf,rf,rf,rf,rf,rf,rf,tv⟩,tv⟩,⟨⟨rf,rf,rf,rf,rfl,tv⟩,⟨rfl,rfl⟩,tv⟩,?_⟩
  refine ⟨eOp (opAt l i),fun _=>⟨by omega,hel⟩,?_⟩
  refine .inr ⟨[4,5],[.ptr 0 0,ofD (eOp (opAt l i))],rfK (itemsL b w) L 0,0,_,_,hrd,by kernel_rfl,by kernel_rfl,⟨rfl,⟨rf,rf,rf,rf,rf,rf,rf,rf,rf,tv⟩,tv⟩,⟨⟨rf,rf,rf,rf,rfl,tv⟩,⟨rfl,rfl⟩,tv⟩,?_⟩
  repeat first | refine ⟨id,?_⟩ | refine ⟨fun _ h=>bw_f h,?_⟩ | refine ⟨fun _ h=>bw_t h,?_⟩ | refine ⟨fun h=>⟨h,fun h2=>bw_and h h2⟩,?_⟩ | refine ⟨fun h=>⟨h,fun h2=>bw_andf h h2⟩,?_⟩
  have hgd:bw (doE (itemsL b w) m (opAt l i) != doE (itemsL b w) m (opAt l i)) false=true:=by simp [bw]
  refine .inr ⟨[3,2,4,5],[.ptr 0 0,.ptr 2 0],agK (itemsL b w) (doM (itemsL b w) m (opAt l i)) (rdoM (itemsL b w) L (opAt l i)),0,_,_,hag,by kernel_rfl,by kernel_rfl,⟨rfl,rfl,tv⟩,⟨⟨rf,rf,rf,rf,rfl,tv⟩,⟨rfl,rfl⟩,⟨rf,rf,rf,rf,rfl,tv⟩,⟨rfl,rfl⟩,tv⟩,hgd,?_⟩
  refine ⟨fun _=>rfl,fun _ h=>bw_f h,by kernel_rfl,fun h=>?_,fun _=>?_⟩
  ·exfalso
   have h':(bif doE (itemsL b w) m (opAt l i) != doE (itemsL b w) m (opAt l i) then true else !true)=true:=h
   simp at h'
  exact ⟨fun _=>⟨by omega,by omega⟩,⟨i+1,doM (itemsL b w) m (opAt l i),rdoM (itemsL b w) L (opAt l i)⟩,⟨⟨rfl,rfl,rf,le_int (by simp),tv⟩,⟨⟨rf,rf,rf,rf,rfl,tv⟩,⟨rfl,rfl⟩,⟨rf,rf,rf,rf,rfl,tv⟩,⟨rfl,rfl⟩,tv⟩,rfl,rfl⟩,⟨by show i+1≤(opsL l).length; omega,hg⟩,by show (opsL l).length - (i+1)<(opsL l).length - i; omega⟩
 ·have hge:=get_spec (itemsL b w) m (99,0)
  have hno:oget m (99,0)=none:=by
   cases hq:oget m (99,0) with
   | none=>rfl
   | some x =>
    have:=hm.fit.bd _ (mem_keys hq)
    simp at this
  rw [hno] at hge
  have hre:=remove_spec (itemsL b w) m (99,0)
  rw [hno] at hre
  refine .inr ⟨[3,2],[.ptr 0 0,ofD (eKy (99,0))],stK (itemsL b w) m,0,_,_,hge,by kernel_rfl,by kernel_rfl,⟨rfl,⟨rf,rf,tv⟩,tv⟩,⟨⟨rf,rf,rf,rf,rfl,tv⟩,⟨rfl,rfl⟩,tv⟩,?_⟩
  refine .inr ⟨[3,2],[.ptr 0 0,ofD (eKy (99,0))],stK (itemsL b w) m,0,_,_,hre,by kernel_rfl,by kernel_rfl,⟨rfl,⟨rf,rf,tv⟩,tv⟩,⟨⟨rf,rf,rf,rf,rfl,tv⟩,⟨rfl,rfl⟩,tv⟩,?_⟩
  repeat first | refine ⟨id,?_⟩ | refine ⟨fun _ h=>bw_f h,?_⟩ | refine ⟨fun _ h=>bw_t h,?_⟩ | refine ⟨fun h=>⟨h,fun h2=>bw_and h h2⟩,?_⟩ | refine ⟨fun h=>⟨h,fun h2=>bw_andf h h2⟩,?_⟩
  refine .inl ⟨_,fun _=>lives_spec.ok,?_⟩
  repeat first | refine ⟨id,?_⟩ | refine ⟨fun _ h=>bw_f h,?_⟩ | refine ⟨fun _ h=>bw_t h,?_⟩ | refine ⟨fun h=>⟨h,fun h2=>bw_and h h2⟩,?_⟩ | refine ⟨fun h=>⟨h,fun h2=>bw_andf h h2⟩,?_⟩
  exact ⟨DV.Le.of_eq rfl,tv⟩
end Go.Proofs.YtpjpdomkcabfcaaGreatDoor
namespace Go.Proofs.YtpjpdomkcabfcaaGreatDoor
open Go.TM Go.ChangeShapes Go.WideShapes Go.ChangeAt Go.RowKit
theorem own:ownKnob Tryz.prog.godebug=none:=by kernel_rfl
theorem laidOut:laidOutB Tryz.prog=true:=by kernel_rfl
theorem in_i64 {n:Int} (h:(Lit.int .i64 n).wf=true):InI n:=by simpa [InI,Lit.wf,IntKind.min,IntKind.max,IntKind.signed,IntKind.bits] using h
theorem ints_of {H:Type} {enc:TypeId × Value→H} {W:World} {v:Value} {d:DataW H} {p:List MemPlace} (hv:∃a len cap,v=.slice a len cap) (h:DataW.Trod enc Tryz.prog W 0 (fun _=>true) true 22 v d p) :
  ∃zs:List Int,DRel (fun b=>W.heap[b]?) (Ints zs) v∧∀x,x∈zs→InI x:=by
 obtain ⟨fuel,h⟩:=h
 obtain ⟨a0,l0,c0,rfl⟩:=hv
 rcases open_ints Tryz.underlying22 Tryz.underlying3 (by kernel_rfl) h with ⟨h1,-⟩ | ⟨a,len,cap,zs,h1,h2,h3,h4,h5,h6,h7,h8⟩
 ·simp [Value.cells] at h1
  obtain ⟨rfl,rfl,rfl⟩:=h1
  exact ⟨[],.slnil 1,fun x hx=>by simp at hx⟩
 ·simp [Value.cells] at h1
  obtain ⟨rfl,rfl,rfl⟩:=h1
  simp only [if_true] at h5
  have hlen:((zs.take l0).map I).length=l0:=by simp; omega
  refine ⟨zs.take l0,?_,fun x hx=>in_i64 (h8 x (List.mem_of_mem_take hx))⟩
  ·have hd:=DRel.sl (M:=fun b=>W.heap[b]?) 1 ((zs.take l0).map I) a c0 (fun i _=>.int .i64 (zs.getD i 0)) (by rw [hlen]; exact h3) (fun x hx=>by
    obtain ⟨n,-,rfl⟩:=List.mem_map.1 hx
    exact ⟨rfl,fun d hd=>by simp only [DV.cells,List.mem_singleton] at hd; subst hd; rfl⟩) (fun i j hi hj=>by
    have hj0:j=0:=by omega
    subst hj0
    rw [hlen] at hi
    have:=h7 i (by omega)
    rw [Nat.mul_one,Nat.add_zero]
    exact this) (fun i x j d hx hd=>by
    have hi:i<l0:=by
     have:=(List.getElem?_eq_some_iff.1 hx).1
     rw [hlen] at this; exact this
    rw [List.getElem?_map,List.getElem?_take_of_lt hi,List.getElem?_eq_getElem (by omega)] at hx
    simp only [Option.map_some,Option.some.injEq] at hx
    subst hx
    match j,hd with
    | 0,hd =>
     simp only [DV.cells,List.getElem?_cons_zero,Option.some.injEq] at hd
     subst hd
     have e:zs.getD i 0=zs[i]'(by omega):=by simp [List.getD,List.getElem?_eq_getElem (show i<zs.length by omega)]
     rw [e]
     exact .int .i64 _
    | j+1,hd=>simp [DV.cells] at hd)
   rw [hlen] at hd
   exact hd
theorem kinds_of {W:World} (h:laidMetH Tryz.prog [("worldmint/lexer.kinds",Rows.laid_worldmint_lexer_kinds)] W):∃(ty:TypeId) (fr:Nat × Nat),W.heap[2]?=some (.cells kArr ty fr):=by
 have ht:Lib.TabIs Tryz.prog W "worldmint/lexer.kinds" .u8 (kindL.map fun n=>((n:Nat):Int)) :=
  Lib.tabIs_of_head (rest:=[]) (g:=2) (t:=254) (e:=5) (n:=128) (by kernel_rfl) (by kernel_rfl) Tryz.underlying254 Tryz.underlying5 (by kernel_rfl) (by kernel_rfl) h
 have hg:Tryz.prog.globalNamed "worldmint/lexer.kinds"=some 2:=by kernel_rfl
 unfold Lib.TabIs World.var? at ht
 rw [hg] at ht
 simp only [Option.bind_some] at ht
 split at ht
 ·rename_i cs ty fr hh
  injection ht with ht
  refine ⟨ty,fr,?_⟩
  rw [hh,ht]
  simp only [kArr,List.map_map]
  rfl
 ·cases ht
def laidW (w:World):World:={ w with heap:=w.heap.modify 2 fun
  | .cells _ t frozen=>.cells kArr t frozen
  | o=>o }
end Go.Proofs.YtpjpdomkcabfcaaGreatDoor
