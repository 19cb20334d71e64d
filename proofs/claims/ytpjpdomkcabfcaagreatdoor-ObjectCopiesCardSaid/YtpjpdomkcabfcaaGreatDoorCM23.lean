import Derived.Test.YtpjpdomkcabfcaaGreatDoorCM22
set_option linter.unusedVariables false
set_option linter.unusedSimpArgs false
set_option linter.unusedSectionVars false
namespace Go.Proofs.YtpjpdomkcabfcaaGreatDoor
open Go.TM
variable [KObj]
def agC (its:List Item) (i:Nat):List AV:=[.dv (.sl 7 (its.map eItem)),.dv rulesD,.dv tabsD,.dv taxesD,.own i 0 0 []]
def agK (its:List Item) (m L:OM):Boxes:=[(0,.cells (agC its 1)),(1,.tree 0 0 (.omap pairK (m.map eEnt))),(2,.cells (agC its 3)),(3,.tree 0 0 (.osl 6 (L.map eRo)))]
structure AgS where
 k:Nat
 i:Nat
def agInv1 (its:List Item) (m L:OM) (ow:Nat):AState:=⟨4,[(0,.ptr 0 0),(1,.ptr 2 0),(5,.dv (I ow))],agK its m L⟩
def agInv2 (its:List Item) (m L:OM) (ow:Nat) (ids:List Ky):AgS→AState
 | ⟨k,i⟩=>⟨6,[(0,.ptr 0 0),(1,.ptr 2 0),(5,.dv (I ow)),(6,.own 5 0 0 []),(7,.dv (I k)),(8,.dv (I i))],agK its m L++[(5,.tree 0 0 (.osl 2 (ids.map eKy)))]⟩
theorem bytOf_eq {a b:List Int} (h:a=b):((bytOf a).toList == (bytOf b).toList)=true:=by subst h; simp
set_option maxRecDepth 100000
set_option maxHeartbeats 4000000 in
theorem agree_spec (its:List Item) (m L:OM) (hs:Same m L) (hl:m.length≤12) (hn:NumS m):CSpec Tryz.prog 20 [.ptr 0 0,.ptr 2 0] 4 (agK its m L) 0 [.dv (B true)] (agK its m L):=by
 refine cspec_of tab_ok mixed (calls_snd _) (range_snd _) Tryz.func20 rfl rfl (by kernel_rfl) ?_
 have hL:L.length≤12:=by rw [hs.len]; exact hl
 refine .inr ⟨[0,1],[.ptr 0 0],stK its m,8,_,_,encode_spec its m hs.nd hl hn,by kernel_rfl,by kernel_rfl,⟨rfl,tv⟩,⟨⟨rf,rf,rf,rf,rfl,tv⟩,⟨rfl,rfl⟩,tv⟩,?_⟩
 refine .inl ⟨closed_Y _,encB m,rfl,?_⟩
 refine .inr ⟨[2,3],[.ptr 0 0],rfK its L 0,1,_,_,rencode_spec its L (by omega) (hs.num hn),by kernel_rfl,by kernel_rfl,⟨rfl,tv⟩,⟨⟨rf,rf,rf,rf,rfl,tv⟩,⟨rfl,rfl⟩,tv⟩,?_⟩
 refine .inl ⟨closed_Y _,encR L,rfl,?_⟩
 refine ⟨by kernel_rfl,fun h=>?_,fun _=>?_⟩
 ·exfalso
  have h':(!((bytOf (encB m)).toList == (bytOf (encR L)).toList))=true:=h
  rw [bytOf_eq hs.enc] at h'
  cases h'
 refine ⟨Nat,agInv1 its m L,fun ow=>ow≤6,fun ow=>6 - ow,0,fun _=>rfl,⟨⟨rfl,rfl,rf,tv⟩,⟨⟨rf,rf,rf,rf,rfl,tv⟩,⟨rfl,rfl⟩,⟨rf,rf,rf,rf,rfl,tv⟩,⟨rfl,rfl⟩,tv⟩,rfl,rfl⟩,Nat.zero_le _,?_⟩
 intro ow how
 refine ⟨fun h=>?_,fun h=>?_⟩
 ·have how2:(ow:Int)<6:=of_decide_eq_true h
  clear h
  refine .inr ⟨[0,1],[.ptr 0 0,.dv (I ow)],stK its m,2,_,_,of_spec its m ow hs.nd hl,by kernel_rfl,by kernel_rfl,⟨rfl,rf,tv⟩,⟨⟨rf,rf,rf,rf,rfl,tv⟩,⟨rfl,rfl⟩,tv⟩,?_⟩
  have hof:=hs.of ow
  generalize ofL m ow=ids at hof
  have hil:ids.length≤12:=by rw [hof,List.length_map]; exact Nat.le_trans (List.length_filter_le _ _) hL
  refine ⟨AgS,agInv2 its m L ow ids,fun z=>z.i≤L.length∧z.k=(ownL (L.take z.i) ow).length,fun z=>L.length - z.i,⟨0,0⟩,fun ⟨_,_⟩=>rfl,⟨⟨rfl,rfl,rf,rfl,rf,rf,tv⟩,⟨⟨rf,rf,rf,rf,rfl,tv⟩,⟨rfl,rfl⟩,⟨rf,rf,rf,rf,rfl,tv⟩,⟨rfl,rfl⟩,⟨rfl,rfl⟩,tv⟩,rfl,rfl⟩,⟨Nat.zero_le _,rfl⟩,?_⟩
  rintro ⟨k,i⟩ ⟨hi,hk⟩
  dsimp only at hi hk
  refine ⟨fun h=>?_,fun h=>?_⟩
  ·have hlt:i<L.length:=by simpa using h
   clear h
   have hel:(L.map eRo)[(i:Int).toNat]?=some (eRo L[i]):=by simp [hlt]
   have hmem:L[i]∈L:=List.getElem_mem hlt
   have htk:L.take (i+1)=L.take i++[L[i]]:=List.take_succ_eq_append_getElem hlt
   have hsp:L=L.take i++L[i]::L.drop (i+1):=by rw [←List.drop_eq_getElem_cons hlt,List.take_append_drop]
   generalize L[i]=q at hel hmem htk hsp
   refine ⟨fun _=>⟨by omega,by simp; omega⟩,eRo q,fun _=>hel,fun h=>?_,fun h=>?_⟩
   ·have ho:(q.2.owner == (ow:Int))=false:=by simpa [bne] using h
    refine ⟨fun _=>⟨by omega,by omega⟩,⟨k,i+1⟩,⟨⟨rfl,rfl,rf,rfl,rf,le_int (by simp),tv⟩,⟨⟨rf,rf,rf,rf,rfl,tv⟩,⟨rfl,rfl⟩,⟨rf,rf,rf,rf,rfl,tv⟩,⟨rfl,rfl⟩,⟨rfl,rfl⟩,tv⟩,rfl,rfl⟩,⟨by show i+1≤L.length; omega,?_⟩,by show L.length - (i+1)<L.length - i; omega⟩
    show k=(ownL (L.take (i+1)) ow).length
    rw [htk,ownL,List.filter_append,List.length_append,hk]
    simp [ho,ownL]
   ·have ho:(q.2.owner == (ow:Int))=true:=by simpa [bne] using h
    have hids:ids=(ownL (L.take i) ow).map Prod.fst++q.1::(ownL (L.drop (i+1)) ow).map Prod.fst:=by
     rw [hof]
     conv=>lhs; rw [hsp]
     unfold ownL
     rw [List.filter_append,List.filter_cons,if_pos ho,List.map_append,List.map_cons]
    have hkl:k<ids.length:=by rw [hids]; simp; omega
    have hik:ids[k]?=some q.1:=by
     rw [hids,List.getElem?_append_right (by rw [List.length_map,hk]; exact Nat.le_refl _),List.length_map,hk]
     simp
    have hel2:(ids.map eKy)[(k:Int).toNat]?=some (eKy q.1):=by simp [hik]
    repeat first | refine ⟨id,?_⟩ | refine ⟨fun _ h=>bw_f h,?_⟩ | refine ⟨fun _ h=>bw_t h,?_⟩ | refine ⟨fun h=>⟨h,fun h2=>bw_and h h2⟩,?_⟩ | refine ⟨fun h=>⟨h,fun h2=>bw_andf h h2⟩,?_⟩
    refine ⟨fun _=>⟨by omega,by simp; omega⟩,id,eKy q.1,fun _=>hel2,?_⟩
    repeat first | refine ⟨id,?_⟩ | refine ⟨fun _ h=>bw_f h,?_⟩ | refine ⟨fun _ h=>bw_t h,?_⟩ | refine ⟨fun h=>⟨h,fun h2=>bw_and h h2⟩,?_⟩ | refine ⟨fun h=>⟨h,fun h2=>bw_andf h h2⟩,?_⟩
    refine ⟨fun _=>⟨by omega,by simp; omega⟩,id,id,eRo q,fun _=>hel,?_⟩
    repeat first | refine ⟨id,?_⟩ | refine ⟨fun _ h=>bw_f h,?_⟩ | refine ⟨fun _ h=>bw_t h,?_⟩ | refine ⟨fun h=>⟨h,fun h2=>bw_and h h2⟩,?_⟩ | refine ⟨fun h=>⟨h,fun h2=>bw_andf h h2⟩,?_⟩
    refine ⟨fun _=>⟨by omega,by simp; omega⟩,id,id,eRo q,fun _=>hel,?_⟩
    repeat first | refine ⟨id,?_⟩ | refine ⟨fun _ h=>bw_f h,?_⟩ | refine ⟨fun _ h=>bw_t h,?_⟩ | refine ⟨fun h=>⟨h,fun h2=>bw_and h h2⟩,?_⟩ | refine ⟨fun h=>⟨h,fun h2=>bw_andf h h2⟩,?_⟩
    refine ⟨by kernel_rfl,fun h=>?_,fun _=>?_⟩
    ·exfalso
     have h':(bif decide (((ids.map eKy).length:Int)≤(k:Int)) then true else !(q.1.1 == q.1.1 && (q.1.2 == q.1.2 && true)))=true:=h
     have hd:decide (((ids.map eKy).length:Int)≤(k:Int))=false:=by simp; omega
     rw [hd] at h'
     simp at h'
    refine ⟨fun _=>⟨by omega,by simp; omega⟩,eKy q.1,fun _=>hel2,?_⟩
    have hg:=get_spec its m q.1
    rw [hs.at hmem] at hg
    refine .inr ⟨[0,1],[.ptr 0 0,ofD (eKy q.1)],stK its m,0,_,_,hg,by kernel_rfl,by kernel_rfl,⟨rfl,⟨rf,rf,tv⟩,tv⟩,⟨⟨rf,rf,rf,rf,rfl,tv⟩,⟨rfl,rfl⟩,tv⟩,?_⟩
    repeat first | refine ⟨id,?_⟩ | refine ⟨fun _ h=>bw_f h,?_⟩ | refine ⟨fun _ h=>bw_t h,?_⟩ | refine ⟨fun h=>⟨h,fun h2=>bw_and h h2⟩,?_⟩ | refine ⟨fun h=>⟨h,fun h2=>bw_andf h h2⟩,?_⟩
    refine ⟨fun _=>⟨by omega,by simp; omega⟩,id,eRo q,fun _=>hel,?_⟩
    repeat first | refine ⟨id,?_⟩ | refine ⟨fun _ h=>bw_f h,?_⟩ | refine ⟨fun _ h=>bw_t h,?_⟩ | refine ⟨fun h=>⟨h,fun h2=>bw_and h h2⟩,?_⟩ | refine ⟨fun h=>⟨h,fun h2=>bw_andf h h2⟩,?_⟩
    refine Or.inl ⟨_,fun _=>(state_spec q.1.1 q.1.2 q.2.item q.2.owner q.2.wear q.2.bound).ok,?_⟩
    repeat first | refine ⟨id,?_⟩ | refine ⟨fun _ h=>bw_f h,?_⟩ | refine ⟨fun _ h=>bw_t h,?_⟩ | refine ⟨fun h=>⟨h,fun h2=>bw_and h h2⟩,?_⟩ | refine ⟨fun h=>⟨h,fun h2=>bw_andf h h2⟩,?_⟩
    refine ⟨by kernel_rfl,fun h=>?_,fun _=>?_⟩
    ·exfalso
     have h':(!(q.2.item == q.2.item && (q.2.owner == q.2.owner && (q.2.wear == q.2.wear && (q.2.bound == q.2.bound && true)))))=true:=h
     simp at h'
    refine ⟨fun _=>⟨by omega,by omega⟩,fun _=>⟨by omega,by omega⟩,⟨k+1,i+1⟩,⟨⟨rfl,rfl,rf,rfl,le_int (by simp),le_int (by simp),tv⟩,⟨⟨rf,rf,rf,rf,rfl,tv⟩,⟨rfl,rfl⟩,⟨rf,rf,rf,rf,rfl,tv⟩,⟨rfl,rfl⟩,⟨rfl,rfl⟩,tv⟩,rfl,rfl⟩,⟨by show i+1≤L.length; omega,?_⟩,by show L.length - (i+1)<L.length - i; omega⟩
    show k+1=(ownL (L.take (i+1)) ow).length
    rw [htk,ownL,List.filter_append,List.length_append,hk]
    simp [ho,ownL]
  ·have he0:¬ i<L.length:=by simpa using h
   have he:i=L.length:=by omega
   subst he
   have hk2:k=ids.length:=by rw [hk,List.take_length,hof,List.length_map]
   refine ⟨fun h=>?_,fun _=>?_⟩
   ·exfalso
    have h':((k:Int) != ((ids.map eKy).length:Int))=true:=h
    rw [hk2] at h'
    simp at h'
   exact ⟨fun _=>⟨by omega,by omega⟩,ow+1,⟨⟨rfl,rfl,le_int (by simp),tv⟩,⟨⟨rf,rf,rf,rf,rfl,tv⟩,⟨rfl,rfl⟩,⟨rf,rf,rf,rf,rfl,tv⟩,⟨rfl,rfl⟩,tv⟩,rfl,rfl⟩,by show ow+1≤6; omega,by show 6 - (ow+1)<6 - ow; omega⟩
 ·exact ⟨_,_,⟨rfl,rfl⟩,by kernel_rfl,⟨rf,tv⟩,⟨rf,rf,rf,rf,rfl,tv⟩,⟨rfl,rfl⟩,⟨rf,rf,rf,rf,rfl,tv⟩,⟨rfl,rfl⟩,tv⟩
end Go.Proofs.YtpjpdomkcabfcaaGreatDoor
namespace Go.Proofs.YtpjpdomkcabfcaaGreatDoor
open Go.TM
variable [KObj]
set_option maxRecDepth 100000
def scK (its:List Item) (m L:OM):Boxes:=[(3,.cells (agC its 2)),(2,.tree 0 0 (.omap pairK (m.map eEnt))),(4,.cells (agC its 5)),(5,.tree 0 0 (.osl 6 (L.map eRo)))]
theorem both_ok (n k:Int):∃b w,0≤b∧b≤2∧1≤w∧w≤40∧CSpec Tryz.prog 9 [.dv (I n),.dv (I k)] 0 [] 5 [.ptr 3 0,.ptr 4 0,.dv (B true)] (bothK b w):=by
 have h1:=around_bd n 3 (by omega)
 have h2:=around_bd k 40 (by omega)
 exact ⟨_,_,h1.1,by omega,by omega,by omega,both_spec n k⟩
structure Goes (its:List Item) (m L:OM):Prop where
 fit:Fit its m
 same:Same m L
 ko:KO m
theorem Goes.len {its:List Item} {m L:OM} (h:Goes its m L):m.length≤12∧L.length≤12:=by
 have:=h.fit.len
 have:=h.same.len
 omega
theorem Goes.okL {its:List Item} {m L:OM} (h:Goes its m L):OkS its L:=fun k x hx=>h.fit.ok k x ((h.same.get k).trans hx)
theorem goes_nil (its:List Item):Goes its [] []:=⟨fit_nil its,same_nil,fun k x h=>by simp [oget] at h⟩
theorem opAt_in (l:List Int) (i:Int):InI (opK (opAt l i)).1∧InI (opK (opAt l i)).2:=by
 have h1:=pick_bd l (6 * i+3) 3 (by omega)
 have h2:=pick_bd l (6 * i+3) 2 (by omega)
 refine ⟨⟨by simp only [opK,opAt]; omega,by simp only [opK,opAt]; omega⟩,?_⟩
 simp only [opK,opAt]
 split <;> exact ⟨by omega,by omega⟩
theorem Goes.op {its:List Item} {m L:OM} (h:Goes its m L) (ht:TyOk its) {l:List Int} {i:Int}:Goes its (doM its m (opAt l i)) (rdoM its L (opAt l i)) :=
 ⟨fit_doM h.fit ht (opAt_key l i),sim_doM h.same ht _,ko_doM h.ko h.fit.nd (opAt_in l i)⟩
end Go.Proofs.YtpjpdomkcabfcaaGreatDoor
namespace Go.Proofs.YtpjpdomkcabfcaaGreatDoor
open Go.TM
variable [KObj]
set_option maxRecDepth 100000
def fillM (its:List Item) (l:List Int):Nat→OM
 | 0=>[]
 | i+1=>doM its (fillM its l i) (opAt l i)
def fillL (its:List Item) (l:List Int):Nat→OM
 | 0=>[]
 | i+1=>rdoM its (fillL its l i) (opAt l i)
theorem fill_goes {its:List Item} (ht:TyOk its) (l:List Int):∀i,Goes its (fillM its l i) (fillL its l i)
 | 0=>goes_nil its
 | i+1=>(fill_goes ht l i).op ht
def fiInv (its:List Item) (l:List Int) (i:Nat):AState :=
 ⟨6,[(9,.ptr 3 0),(10,.ptr 4 0),(12,.dv (.sl 9 ((opsL l).map eOp))),(13,.dv (I i))],scK its (fillM its l i) (fillL its l i)⟩
set_option maxHeartbeats 4000000 in
theorem filled_spec (bind wear:Int) (l:List Int):∃b w,0≤b∧b≤2∧1≤w∧w≤40∧CSpec Tryz.prog 25 [.dv (I bind),.dv (I wear),.dv (Ints l)] 0 [] 6 [.ptr 3 0,.ptr 4 0,.dv (B true)] (scK (itemsL b w) (fillM (itemsL b w) l (opsL l).length) (fillL (itemsL b w) l (opsL l).length)):=by
 obtain ⟨b,w,hb0,hb1,hw0,hw1,hbo⟩:=both_ok bind wear
 refine ⟨b,w,hb0,hb1,hw0,hw1,?_⟩
 have hty:TyOk (itemsL b w):=itemsL_ok ⟨by omega,hw1⟩
 refine cspec_of tab_ok mixed (calls_snd _) (range_snd _) Tryz.func25 rfl rfl (by kernel_rfl) ?_
 refine .inr ⟨[],[.dv (I bind),.dv (I wear)],[],5,_,_,hbo,by kernel_rfl,by kernel_rfl,⟨rf,rf,tv⟩,tv,?_⟩
 refine ⟨fun h=>(by cases h),fun _=>?_⟩
 refine .inl ⟨_,fun _=>(ops_spec l).ok,?_⟩
 have hK:(opsL l).length≤20:=by unfold opsL; rw [opsN_len]; unfold opsK; omega
 refine ⟨Nat,fiInv (itemsL b w) l,fun i=>i≤(opsL l).length,fun i=>(opsL l).length - i,0,fun _=>rfl,⟨⟨rfl,rfl,rf,rf,tv⟩,⟨⟨rf,rf,rf,rf,rfl,tv⟩,⟨rfl,rfl⟩,⟨rf,rf,rf,rf,⟨rfl,rfl,rfl,rfl,6,rfl⟩,tv⟩,⟨rfl,rfl,6,rfl⟩,tv⟩,rfl,rfl⟩,Nat.zero_le _,?_⟩
 intro i hi
 have hm:=fill_goes hty l i
 refine ⟨fun h=>?_,fun h=>?_⟩
 ·have hlt:i<(opsL l).length:=by simpa using h
  clear h
  have hin:(opsL l)[i]?=some (opsL l)[i]:=List.getElem?_eq_getElem hlt
  have hoa:=opsL_at hin
  have hel:((opsL l).map eOp)[(i:Int).toNat]?=some (eOp (opAt l i)):=by simp [hlt,←hoa]
  have hdo:=do_spec (itemsL b w) (fillM (itemsL b w) l i) (opAt l i) hm.fit.ok (opAt_a l i)
  have hrd:=rdo_spec (itemsL b w) (fillL (itemsL b w) l i) (by have:=hm.len; omega) (opAt l i) hm.okL (opAt_a l i)
  rw [sim_doE hm.same] at hrd
  refine ⟨eOp (opAt l i),fun _=>⟨by omega,hel⟩,?_⟩
  refine .inr ⟨[3,2],[.ptr 0 0,ofD (eOp (opAt l i))],stK (itemsL b w) (fillM (itemsL b w) l i),0,_,_,hdo,by kernel_rfl,by kernel_rfl,⟨rfl,⟨rf,rf,rf,rf,rf,rf,rf,rf,rf,tv⟩,tv⟩,⟨⟨rf,rf,rf,rf,rfl,tv⟩,⟨rfl,rfl⟩,tv⟩,?_⟩
  refine ⟨eOp (opAt l i),fun _=>⟨by omega,hel⟩,?_⟩
  refine .inr ⟨[4,5],[.ptr 0 0,ofD (eOp (opAt l i))],rfK (itemsL b w) (fillL (itemsL b w) l i) 0,0,_,_,hrd,by kernel_rfl,by kernel_rfl,⟨rfl,⟨rf,rf,rf,rf,rf,rf,rf,rf,rf,tv⟩,tv⟩,⟨⟨rf,rf,rf,rf,rfl,tv⟩,⟨rfl,rfl⟩,tv⟩,?_⟩
  refine ⟨by kernel_rfl,fun h=>?_,fun _=>?_⟩
  ·exfalso
   have h':(doE (itemsL b w) (fillM (itemsL b w) l i) (opAt l i) != doE (itemsL b w) (fillM (itemsL b w) l i) (opAt l i))=true:=h
   simp at h'
  exact ⟨fun _=>⟨by omega,by omega⟩,i+1,⟨⟨rfl,rfl,rf,le_int (by simp),tv⟩,⟨⟨rf,rf,rf,rf,rfl,tv⟩,⟨rfl,rfl⟩,⟨rf,rf,rf,rf,rfl,tv⟩,⟨rfl,rfl⟩,tv⟩,rfl,rfl⟩,by show i+1≤(opsL l).length; omega,by show (opsL l).length - (i+1)<(opsL l).length - i; omega⟩
 ·have he0:¬ i<(opsL l).length:=by simpa using h
  have he:i=(opsL l).length:=by omega
  subst he
  exact ⟨_,_,⟨rfl,rfl⟩,by kernel_rfl,⟨rfl,rfl,rf,tv⟩,⟨rf,rf,rf,rf,rfl,tv⟩,⟨rfl,rfl⟩,⟨rf,rf,rf,rf,rfl,tv⟩,⟨rfl,rfl⟩,tv⟩
end Go.Proofs.YtpjpdomkcabfcaaGreatDoor
