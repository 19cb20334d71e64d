import Derived.Test.YtccialgeakmmpaaGreatDoorEM22
import Derived.Test.YtccialgeakmmpaaGreatDoorEM21
import Derived.Test.YtccialgeakmmpaaGreatDoorEM20
set_option linter.unusedVariables false
set_option linter.unusedSimpArgs false
set_option linter.unusedSectionVars false
namespace Go.Proofs.YtccialgeakmmpaaGreatDoor
open Go.TM
variable [KObj]
structure Same (m L:OM):Prop where
 nd:NdK m
 keys:L.map Prod.fst=keysOf m
 get:∀k,oget m k=oget L k
theorem keys_nd {m:OM} (h:NdK m):(keysOf m).Nodup:=(isortN_perm _ _).nodup_iff.2 h
theorem keys_pair {m:OM} (h:NdK m):(keysOf m).Pairwise klt:=isort_pair h
theorem Same.ndL {m L:OM} (h:Same m L):NdK L:=by unfold NdK; rw [h.keys]; exact keys_nd h.nd
theorem Same.len {m L:OM} (h:Same m L):L.length=m.length:=by
 have:=congrArg List.length h.keys
 rw [List.length_map] at this
 rw [this]; unfold keysOf; rw [isortN_len,List.length_map]
theorem Same.at {m L:OM} (h:Same m L) {p:Ky × Ob} (hp:p∈L):oget m p.1=some p.2:=by
 rw [h.get]; exact mem_oget h.ndL hp
theorem Same.enc {m L:OM} (h:Same m L):encB m=encR L:=by
 unfold encB encR
 rw [←h.keys,h.len,List.flatMap_map]
 congr 1
 have:∀l:OM,(∀p,p∈l→p∈L)→(l.flatMap fun p=>obB p.1 ((oget m p.1).getD Ob.zero))=l.flatMap fun p=>obB p.1 p.2:=by
  intro l hl
  induction l with
  | nil=>rfl
  | cons p l ih =>
   simp only [List.flatMap_cons]
   rw [ih (fun q hq=>hl q (by simp [hq])),h.at (hl p (by simp))]
   rfl
 exact this L fun p hp=>hp
theorem same_nil:Same [] []:=⟨by simp [NdK],rfl,fun _=>rfl⟩
def ownL (L:OM) (ow:Int):OM:=L.filter fun p=>p.2.owner == ow
theorem Same.of {m L:OM} (h:Same m L) (ow:Int):ofL m ow=(ownL L ow).map Prod.fst:=by
 refine sorted_ext (isort_pair (ownK_nd h.nd ow)) ?_ fun k=>?_
 ·have h1:(L.map Prod.fst).Pairwise klt:=by rw [h.keys]; exact keys_pair h.nd
  exact h1.sublist (List.filter_sublist.map _)
 ·rw [mem_ofL h.nd]
  simp only [ownL,List.mem_map,List.mem_filter]
  constructor
  ·rintro ⟨x,h1,h2⟩
   rw [h.get] at h1
   exact ⟨(k,x),⟨oget_mem h1,by simpa using h2⟩,rfl⟩
  ·rintro ⟨⟨k',x⟩,⟨h1,h2⟩,rfl⟩
   exact ⟨x,h.at h1,by simpa using h2⟩
theorem kltB_iff {a b:Ky}:kltB a b=true ↔ klt a b:=by
 unfold kltB klt
 by_cases h1:a.1<b.1
 ·simp [h1]
 ·by_cases h2:a.1=b.1
  ·simp [h1,h2]
  ·simp [h1,h2]
theorem insO_get {L:OM} {k q:Ky} {x:Ob} (hk:oget L k=none):oget (insO L k x) q=if k=q then some x else oget L q:=by
 have app:∀(a b:OM),oget (a++b) q=match oget a q with | some y=>some y | none=>oget b q:=by
  intro a b
  induction a with
  | nil=>rfl
  | cons p r ih =>
   simp only [List.cons_append,oget]
   split
   ·rfl
   ·exact ih
 unfold insO
 have e:oget L q=match oget (L.take (posO L k)) q with | some y=>some y | none=>oget (L.drop (posO L k)) q:=by
  rw [←app,List.take_append_drop]
 rw [app]
 by_cases hq:k=q
 ·subst hq
  rw [if_pos rfl]
  rw [hk] at e
  cases h1:oget (L.take (posO L k)) k with
  | some y=>rw [h1] at e; cases e
  | none=>simp [oget]
 ·rw [if_neg hq,e]
  cases h1:oget (L.take (posO L k)) q with
  | some y=>rfl
  | none=>simp only [oget,if_neg hq]
theorem pos_split {L:OM} {k:Ky}:(∀p,p∈L.take (posO L k)→kltB p.1 k=true):=by
 induction L with
 | nil=>simp
 | cons p r ih =>
  simp only [posO]
  split
  ·rename_i h
   intro q hq
   simp only [List.take_succ_cons,List.mem_cons] at hq
   rcases hq with rfl | hq
   ·exact h
   ·exact ih q hq
  ·simp
theorem pos_drop {L:OM} {k:Ky} (hs:(L.map Prod.fst).Pairwise klt) (hk:oget L k=none):∀p,p∈L.drop (posO L k)→klt k p.1:=by
 induction L with
 | nil=>simp
 | cons p r ih =>
  rw [List.map_cons,List.pairwise_cons] at hs
  have hk1:¬ p.1=k:=fun e=>by simp [oget,e] at hk
  have hk2:oget r k=none:=by simpa [oget,hk1] using hk
  simp only [posO]
  split
  ·exact ih hs.2 hk2
  ·rename_i h
   have h0:¬ klt p.1 k:=fun hh=>h (kltB_iff.2 hh)
   have h1:klt k p.1:=klt_of (by unfold kle klt at *; omega) (fun e=>hk1 e.symm)
   intro q hq
   rw [List.drop_zero] at hq
   rcases List.mem_cons.1 hq with rfl | hq
   ·exact h1
   ·exact klt_tr h1 (hs.1 q.1 (List.mem_map.2 ⟨q,hq,rfl⟩))
theorem keys_same {m L:OM} (hn:NdK m) (hs:(L.map Prod.fst).Pairwise klt) (hg:∀k,oget m k=oget L k):L.map Prod.fst=keysOf m:=by
 refine sorted_ext hs (keys_pair hn) fun k=>?_
 unfold keysOf
 rw [(isortN_perm _ _).mem_iff]
 constructor
 ·intro h
  obtain ⟨p,h1,rfl⟩:=List.mem_map.1 h
  have:∃x,oget L p.1=some x:=by
   cases hq:oget L p.1 with
   | some x=>exact ⟨x,rfl⟩
   | none =>
    have hnd:NdK L:=by
     unfold NdK List.Nodup
     exact hs.imp fun {a b} h=>fun e=>by subst e; exact klt_irr h
    rw [mem_oget hnd h1] at hq; cases hq
  obtain ⟨x,hx⟩:=this
  exact mem_keys ((hg _).trans hx)
 ·intro h
  obtain ⟨p,h1,rfl⟩:=List.mem_map.1 h
  exact mem_keys ((hg _).symm.trans (mem_oget hn h1))
theorem Same.srt {m L:OM} (h:Same m L):(L.map Prod.fst).Pairwise klt:=by rw [h.keys]; exact keys_pair h.nd
theorem Same.ins {m L:OM} (h:Same m L) {k:Ky} {x:Ob} (hk:oget m k=none):Same (oput m k x) (insO L k x):=by
 have hk2:oget L k=none:=(h.get k).symm.trans hk
 have hg:∀q,oget (oput m k x) q=oget (insO L k x) q:=fun q=>by rw [oget_put,insO_get hk2,h.get]
 have hn:=oput_nd (k:=k) (x:=x) h.nd
 refine ⟨hn,keys_same hn ?_ hg,hg⟩
 unfold insO
 rw [List.map_append,List.map_cons]
 have hs:=h.srt
 rw [show L.map Prod.fst=(L.take (posO L k)).map Prod.fst++(L.drop (posO L k)).map Prod.fst by rw [←List.map_append,List.take_append_drop]] at hs
 rw [List.pairwise_append] at hs ⊢
 have d1:=pos_drop h.srt hk2
 refine ⟨hs.1,List.pairwise_cons.2 ⟨fun q hq=>?_,hs.2.1⟩,fun a ha b hb=>?_⟩
 ·obtain ⟨p,hp,rfl⟩:=List.mem_map.1 hq
  exact d1 p hp
 ·rcases List.mem_cons.1 hb with rfl | hb
  ·obtain ⟨p,hp,rfl⟩:=List.mem_map.1 ha
   exact kltB_iff.1 (pos_split p hp)
  ·exact hs.2.2 a ha b hb
theorem put_keys {L:OM} {k:Ky} {x:Ob}:∀{y:Ob},oget L k=some y→(oput L k x).map Prod.fst=L.map Prod.fst:=by
 induction L with
 | nil=>intro y h; simp [oget] at h
 | cons p r ih =>
  intro y h
  simp only [oput]
  by_cases e:p.1=k
  ·rw [if_pos e]; simp [e]
  ·rw [if_neg e]
   simp only [oget,if_neg e] at h
   simp only [List.map_cons]
   rw [ih h]
theorem Same.upd {m L:OM} (h:Same m L) {k:Ky} {x y:Ob} (hk:oget m k=some y):Same (oput m k x) (oput L k x):=by
 have hg:∀q,oget (oput m k x) q=oget (oput L k x) q:=fun q=>by rw [oget_put,oget_put,h.get]
 have hn:=oput_nd (k:=k) (x:=x) h.nd
 refine ⟨hn,keys_same hn ?_ hg,hg⟩
 rw [put_keys ((h.get k).symm.trans hk)]
 exact h.srt
theorem Same.del {m L:OM} (h:Same m L) (k:Ky):Same (odel m k) (odel L k):=by
 have hg:∀q,oget (odel m k) q=oget (odel L k) q:=fun q=>by rw [oget_del h.nd,oget_del h.ndL,h.get]
 have hn:=odel_nd (k:=k) h.nd
 exact ⟨hn,keys_same hn (h.srt.sublist (odel_sub.map _)) hg,hg⟩
end Go.Proofs.YtccialgeakmmpaaGreatDoor
namespace Go.Proofs.YtccialgeakmmpaaGreatDoor
open Go.TM
variable [KObj]
def KO (m:OM):Prop:=∀k x,oget m k=some x→InI k.1∧InI k.2∧InI x.owner
theorem numS {its:List Item} {m:OM} (ho:OkS its m) (hk:KO m) (hl:its.length≤1000):NumS m:=by
 intro k x hx n hn
 have h1:=ho k x hx
 have h2:=hk k x hx
 have a0:=h1.lo
 have a1:=h1.hi
 have a2:=h1.w0
 have a3:=h1.w1
 have a4:=h1.w2
 simp only [nums,List.mem_cons,List.not_mem_nil,or_false] at hn
 rcases hn with rfl | rfl | rfl | rfl | rfl | rfl
 ·exact h2.1
 ·exact h2.2.1
 ·exact ⟨by omega,by omega⟩
 ·exact h2.2.2
 ·exact ⟨by omega,by omega⟩
 ·unfold bN; split <;> exact ⟨by omega,by omega⟩
theorem Same.num {m L:OM} (h:Same m L) (hn:NumS m):∀p,p∈L→∀n,n∈nums p.1 p.2→InI n:=fun p hp n hh=>hn p.1 p.2 (h.at hp) n hh
theorem KO.put {m:OM} (h:KO m) {k:Ky} {x:Ob} (hk:InI k.1∧InI k.2∧InI x.owner):KO (oput m k x):=by
 intro q y hy
 rw [oget_put] at hy
 split at hy
 ·rename_i e; injection hy with hy; subst hy; subst e; exact hk
 ·exact h q y hy
theorem owner_in {n:Int} (h:¬ isOwner n=false):InI n:=by
 unfold isOwner at h
 simp at h
 exact ⟨by omega,by omega⟩
theorem putE_ow {its:List Item} {m:OM} {k:Ky} {x:Ob} (h:putE its m k x=0):InI x.owner:=by
 unfold putE at h
 split at h
 ·simp at h
 ·rename_i hb
  exact owner_in fun e=>hb (.inr (.inr (.inr e)))
theorem ko_putM {its:List Item} {m:OM} (h:KO m) {k:Ky} {x:Ob} (hk:InI k.1∧InI k.2):KO (putM its m k x):=by
 unfold putM
 split
 ·rename_i e; exact h.put ⟨hk.1,hk.2,putE_ow e⟩
 ·exact h
theorem ko_doM {its:List Item} {m:OM} (h:KO m) (hn:NdK m) {o:Op} (hk:InI (opK o).1∧InI (opK o).2):KO (doM its m o):=by
 unfold doM
 split
 ·exact ko_putM h hk
 ·split
  ·unfold givM
   split
   ·rename_i e
    have he:=e
    unfold givE at he
    split at he
    ·rename_i h1; exact absurd he h1
    ·split at he
     ·simp at he
     ·rename_i h2
      exact h.put ⟨hk.1,hk.2,owner_in fun e=>h2 (.inl e)⟩
   ·exact h
  ·split
   ·unfold useM
    split
    ·rename_i e
     obtain ⟨x,hx,he,_⟩:=useE_ok e
     rw [he]
     exact h.put ⟨hk.1,hk.2,(h _ _ hx).2.2⟩
    ·exact h
   ·split
    ·unfold repM
     split
     ·rename_i e
      obtain ⟨x,hx,he,_⟩:=repE_ok e
      rw [he]
      exact h.put ⟨hk.1,hk.2,(h _ _ hx).2.2⟩
     ·exact h
    ·split
     ·intro q y hy
      rw [oget_del hn] at hy
      split at hy
      ·cases hy
      ·exact h q y hy
     ·exact ko_putM h hk
theorem putE_same {its:List Item} {m L:OM} (h:Same m L) (k:Ky) (x:Ob):putE its L k x=putE its m k x:=by unfold putE; rw [h.get]
theorem ownR_same {its:List Item} {m L:OM} (h:Same m L) (k:Ky) (ow:Int):ownR its L k ow=ownR its m k ow:=by unfold ownR; rw [h.get]
theorem kI_of {its:List Item} {i:Int} {t:Item} (h:typeOf its i=some t):kI its i=t:=by
 obtain ⟨g1,g2,g3⟩:=typeOf_some h
 unfold kI; rw [if_neg (by omega),g3]
theorem make_same {its:List Item} {m:OM} (k:Ky) (i ow:Int):putE its m k (rmakeX its i ow)=putE its m k (makeX its i ow):=by
 unfold putE
 cases ht:typeOf its i with
 | none=>simp only [rmakeX,makeX,ht]
 | some t=>simp only [rmakeX,makeX,ht,kI_of ht,tyI,Option.getD_some]
theorem make_ob {its:List Item} {m:OM} {k:Ky} {i ow:Int} (h:putE its m k (makeX its i ow)=0):rmakeX its i ow=makeX its i ow:=by
 unfold putE at h
 split at h
 ·simp at h
 ·cases ht:typeOf its i with
  | none=>simp only [makeX,ht] at h; simp at h
  | some t=>simp only [rmakeX,makeX,ht,kI_of ht,tyI,Option.getD_some]
theorem Same.putM {its:List Item} {m L:OM} (h:Same m L) (ht:TyOk its) (k:Ky) (x:Ob):Same (putM its m k x) (rputM its L k x):=by
 unfold Go.Proofs.YtccialgeakmmpaaGreatDoor.putM rputM
 rw [putE_same h]
 split
 ·rename_i e; exact h.ins (putE_ok ht e).2.1
 ·exact h
theorem Same.make {its:List Item} {m L:OM} (h:Same m L) (ht:TyOk its) (k:Ky) (i ow:Int):Same (Go.Proofs.YtccialgeakmmpaaGreatDoor.putM its m k (makeX its i ow)) (rputM its L k (rmakeX its i ow)):=by
 unfold Go.Proofs.YtccialgeakmmpaaGreatDoor.putM rputM
 rw [putE_same h,make_same]
 split
 ·rename_i e
  rw [make_ob e]
  exact h.ins (putE_ok ht e).2.1
 ·exact h
theorem sim_doE {its:List Item} {m L:OM} (h:Same m L) (o:Op):rdoE its L o=doE its m o:=by
 unfold rdoE doE
 split
 ·rw [putE_same h,make_same]
 ·simp only [givE,useE,repE,ownR_same h,putE_same h,h.get]
theorem sim_doM {its:List Item} {m L:OM} (h:Same m L) (ht:TyOk its) (o:Op):Same (doM its m o) (rdoM its L o):=by
 unfold rdoM doM
 split
 ·exact h.make ht _ _ _
 ·split
  ·have e:givE its L (opK o) o.owner o.a=givE its m (opK o) o.owner o.a:=by simp only [givE,ownR_same h]
   unfold givM
   rw [e,ownR_same h]
   split
   ·rename_i e2
    obtain ⟨x,hx,_⟩:=givE_ok e2
    exact h.upd hx
   ·exact h
  ·split
   ·have e:useE its L (opK o) o.owner (o.a+1) o.b=useE its m (opK o) o.owner (o.a+1) o.b:=by simp only [useE,ownR_same h]
    unfold useM
    rw [e,ownR_same h]
    split
    ·rename_i e2
     obtain ⟨x,hx,_⟩:=useE_ok e2
     exact h.upd hx
    ·exact h
   ·split
    ·have e:repE its L (opK o) o.owner o.b=repE its m (opK o) o.owner o.b:=by simp only [repE,ownR_same h]
     unfold repM
     rw [e,ownR_same h]
     split
     ·rename_i e2
      obtain ⟨x,hx,_⟩:=repE_ok e2
      exact h.upd hx
     ·exact h
    ·split
     ·exact h.del _
     ·exact h.putM ht _ _
end Go.Proofs.YtccialgeakmmpaaGreatDoor
namespace Go.Proofs.YtccialgeakmmpaaGreatDoor
open Go.TM
variable [KObj]
def agC (its:List Item) (i:Nat):List AV:=[.dv (.sl 7 (its.map eItem)),.dv rulesD,.dv tabsD,.dv taxesD,.own i 0 0 []]
def agK (its:List Item) (m L:OM):Boxes:=[(0,.cells (agC its 1)),(1,.tree 0 0 (.omap pairK (m.map eEnt))),(2,.cells (agC its 3)),(3,.tree 0 0 (.osl 6 (L.map eRo)))]
structure AgS where
 k:Nat
 i:Nat
def agInv1 (its:List Item) (m L:OM) (ow:Nat):AState:=⟨4,[(0,.ptr 0 0),(1,.ptr 2 0),(5,.dv (I ow))],agK its m L⟩
def agInv2 (its:List Item) (m L:OM) (ow:Nat) (ids:List Ky):AgS→AState
 | ⟨k,i⟩=>⟨6,[(0,.ptr 0 0),(1,.ptr 2 0),(5,.dv (I ow)),(6,.own 5 0 0 []),(7,.dv (I k)),(8,.dv (I i))],agK its m L++[(5,.tree 0 0 (.osl 2 (ids.map eKy)))]⟩
theorem bytOf_eq {a b:List Int} (h:a=b):((bytOf a).toList == (bytOf b).toList)=true:=by subst h; simp
set_option maxRecDepth 100000
set_option maxHeartbeats 4000000 in
theorem agree_spec (its:List Item) (m L:OM) (hs:Same m L) (hl:m.length≤12) (hn:NumS m):CSpec Tryz.prog 11 [.ptr 0 0,.ptr 2 0] 4 (agK its m L) 0 [.dv (B true)] (agK its m L):=by
 refine cspec_of tab_ok mixed (calls_snd _) (range_snd _) Tryz.func11 rfl rfl (by kernel_rfl) ?_
 have hL:L.length≤12:=by rw [hs.len]; exact hl
 refine .inr ⟨[0,1],[.ptr 0 0],stK its m,8,_,_,encode_spec its m hs.nd hl hn,by kernel_rfl,by kernel_rfl,⟨rfl,tv⟩,⟨⟨rf,rf,rf,rf,rfl,tv⟩,⟨rfl,rfl⟩,tv⟩,?_⟩
 refine .inl ⟨closed_Y _,encB m,rfl,?_⟩
 refine .inr ⟨[2,3],[.ptr 0 0],rfK its L 0,1,_,_,rencode_spec its L (by omega) (hs.num hn),by kernel_rfl,by kernel_rfl,⟨rfl,tv⟩,⟨⟨rf,rf,rf,rf,rfl,tv⟩,⟨rfl,rfl⟩,tv⟩,?_⟩
 refine .inl ⟨closed_Y _,encR L,rfl,?_⟩
 refine ⟨by kernel_rfl,fun h=>?_,fun _=>?_⟩
 ·exfalso
  have h':(!((bytOf (encB m)).toList == (bytOf (encR L)).toList))=true:=h
  rw [bytOf_eq hs.enc] at h'
  cases h'
 refine ⟨Nat,agInv1 its m L,fun ow=>ow≤6,fun ow=>6 - ow,0,fun _=>rfl,⟨⟨rfl,rfl,rf,tv⟩,⟨⟨rf,rf,rf,rf,rfl,tv⟩,⟨rfl,rfl⟩,⟨rf,rf,rf,rf,rfl,tv⟩,⟨rfl,rfl⟩,tv⟩,rfl,rfl⟩,Nat.zero_le _,?_⟩
 intro ow how
 refine ⟨fun h=>?_,fun h=>?_⟩
 ·have how2:(ow:Int)<6:=of_decide_eq_true h
  clear h
  refine .inr ⟨[0,1],[.ptr 0 0,.dv (I ow)],stK its m,2,_,_,of_spec its m ow hs.nd hl,by kernel_rfl,by kernel_rfl,⟨rfl,rf,tv⟩,⟨⟨rf,rf,rf,rf,rfl,tv⟩,⟨rfl,rfl⟩,tv⟩,?_⟩
  have hof:=hs.of ow
  generalize ofL m ow=ids at hof
  have hil:ids.length≤12:=by rw [hof,List.length_map]; exact Nat.le_trans (List.length_filter_le _ _) hL
  refine ⟨AgS,agInv2 its m L ow ids,fun z=>z.i≤L.length∧z.k=(ownL (L.take z.i) ow).length,fun z=>L.length - z.i,⟨0,0⟩,fun ⟨_,_⟩=>rfl,⟨⟨rfl,rfl,rf,rfl,rf,rf,tv⟩,⟨⟨rf,rf,rf,rf,rfl,tv⟩,⟨rfl,rfl⟩,⟨rf,rf,rf,rf,rfl,tv⟩,⟨rfl,rfl⟩,⟨rfl,rfl⟩,tv⟩,rfl,rfl⟩,⟨Nat.zero_le _,rfl⟩,?_⟩
  rintro ⟨k,i⟩ ⟨hi,hk⟩
  dsimp only at hi hk
  refine ⟨fun h=>?_,fun h=>?_⟩
  ·have hlt:i<L.length:=by simpa using h
   clear h
   have hel:(L.map eRo)[(i:Int).toNat]?=some (eRo L[i]):=by simp [hlt]
   have hmem:L[i]∈L:=List.getElem_mem hlt
   have htk:L.take (i+1)=L.take i++[L[i]]:=List.take_succ_eq_append_getElem hlt
   have hsp:L=L.take i++L[i]::L.drop (i+1):=by rw [←List.drop_eq_getElem_cons hlt,List.take_append_drop]
   generalize L[i]=q at hel hmem htk hsp
   refine ⟨fun _=>⟨by omega,by simp; omega⟩,eRo q,fun _=>hel,fun h=>?_,fun h=>?_⟩
   ·have ho:(q.2.owner == (ow:Int))=false:=by simpa [bne] using h
    refine ⟨fun _=>⟨by omega,by omega⟩,⟨k,i+1⟩,⟨⟨rfl,rfl,rf,rfl,rf,le_int (by simp),tv⟩,⟨⟨rf,rf,rf,rf,rfl,tv⟩,⟨rfl,rfl⟩,⟨rf,rf,rf,rf,rfl,tv⟩,⟨rfl,rfl⟩,⟨rfl,rfl⟩,tv⟩,rfl,rfl⟩,⟨by show i+1≤L.length; omega,?_⟩,by show L.length - (i+1)<L.length - i; omega⟩
    show k=(ownL (L.take (i+1)) ow).length
    rw [htk,ownL,List.filter_append,List.length_append,hk]
    simp [ho,ownL]
   ·have ho:(q.2.owner == (ow:Int))=true:=by simpa [bne] using h
    have hids:ids=(ownL (L.take i) ow).map Prod.fst++q.1::(ownL (L.drop (i+1)) ow).map Prod.fst:=by
     rw [hof]
     conv=>lhs; rw [hsp]
     unfold ownL
     rw [List.filter_append,List.filter_cons,if_pos ho,List.map_append,List.map_cons]
    have hkl:k<ids.length:=by rw [hids]; simp; omega
    have hik:ids[k]?=some q.1:=by
     rw [hids,List.getElem?_append_right (by rw [List.length_map,hk]; exact Nat.le_refl _),List.length_map,hk]
     simp
    have hel2:(ids.map eKy)[(k:Int).toNat]?=some (eKy q.1):=by simp [hik]
    repeat first | refine ⟨id,?_⟩ | refine ⟨fun _ h=>bw_f h,?_⟩ | refine ⟨fun _ h=>bw_t h,?_⟩ | refine ⟨fun h=>⟨h,fun h2=>bw_and h h2⟩,?_⟩ | refine ⟨fun h=>⟨h,fun h2=>bw_andf h h2⟩,?_⟩
    refine ⟨fun _=>⟨by omega,by simp; omega⟩,id,eKy q.1,fun _=>hel2,?_⟩
    repeat first | refine ⟨id,?_⟩ | refine ⟨fun _ h=>bw_f h,?_⟩ | refine ⟨fun _ h=>bw_t h,?_⟩ | refine ⟨fun h=>⟨h,fun h2=>bw_and h h2⟩,?_⟩ | refine ⟨fun h=>⟨h,fun h2=>bw_andf h h2⟩,?_⟩
    refine ⟨fun _=>⟨by omega,by simp; omega⟩,id,id,eRo q,fun _=>hel,?_⟩
    repeat first | refine ⟨id,?_⟩ | refine ⟨fun _ h=>bw_f h,?_⟩ | refine ⟨fun _ h=>bw_t h,?_⟩ | refine ⟨fun h=>⟨h,fun h2=>bw_and h h2⟩,?_⟩ | refine ⟨fun h=>⟨h,fun h2=>bw_andf h h2⟩,?_⟩
    refine ⟨fun _=>⟨by omega,by simp; omega⟩,id,id,eRo q,fun _=>hel,?_⟩
    repeat first | refine ⟨id,?_⟩ | refine ⟨fun _ h=>bw_f h,?_⟩ | refine ⟨fun _ h=>bw_t h,?_⟩ | refine ⟨fun h=>⟨h,fun h2=>bw_and h h2⟩,?_⟩ | refine ⟨fun h=>⟨h,fun h2=>bw_andf h h2⟩,?_⟩
    refine ⟨by kernel_rfl,fun h=>?_,fun _=>?_⟩
    ·exfalso
     have h':(bif decide (((ids.map eKy).length:Int)≤(k:Int)) then true else !(q.1.1 == q.1.1 && (q.1.2 == q.1.2 && true)))=true:=h
     have hd:decide (((ids.map eKy).length:Int)≤(k:Int))=false:=by simp; omega
     rw [hd] at h'
     simp at h'
    refine ⟨fun _=>⟨by omega,by simp; omega⟩,eKy q.1,fun _=>hel2,?_⟩
    have hg:=get_spec its m q.1
    rw [hs.at hmem] at hg
    refine .inr ⟨[0,1],[.ptr 0 0,ofD (eKy q.1)],stK its m,0,_,_,hg,by kernel_rfl,by kernel_rfl,⟨rfl,⟨rf,rf,tv⟩,tv⟩,⟨⟨rf,rf,rf,rf,rfl,tv⟩,⟨rfl,rfl⟩,tv⟩,?_⟩
    repeat first | refine ⟨id,?_⟩ | refine ⟨fun _ h=>bw_f h,?_⟩ | refine ⟨fun _ h=>bw_t h,?_⟩ | refine ⟨fun h=>⟨h,fun h2=>bw_and h h2⟩,?_⟩ | refine ⟨fun h=>⟨h,fun h2=>bw_andf h h2⟩,?_⟩
    refine ⟨fun _=>⟨by omega,by simp; omega⟩,id,eRo q,fun _=>hel,?_⟩
    repeat first | refine ⟨id,?_⟩ | refine ⟨fun _ h=>bw_f h,?_⟩ | refine ⟨fun _ h=>bw_t h,?_⟩ | refine ⟨fun h=>⟨h,fun h2=>bw_and h h2⟩,?_⟩ | refine ⟨fun h=>⟨h,fun h2=>bw_andf h h2⟩,?_⟩
    refine Or.inl ⟨_,fun _=>(state_spec q.1.1 q.1.2 q.2.item q.2.owner q.2.wear q.2.bound).ok,?_⟩
    repeat first | refine ⟨id,?_⟩ | refine ⟨fun _ h=>bw_f h,?_⟩ | refine ⟨fun _ h=>bw_t h,?_⟩ | refine ⟨fun h=>⟨h,fun h2=>bw_and h h2⟩,?_⟩ | refine ⟨fun h=>⟨h,fun h2=>bw_andf h h2⟩,?_⟩
    refine ⟨by kernel_rfl,fun h=>?_,fun _=>?_⟩
    ·exfalso
     have h':(!(q.2.item == q.2.item && (q.2.owner == q.2.owner && (q.2.wear == q.2.wear && (q.2.bound == q.2.bound && true)))))=true:=h
     simp at h'
    refine ⟨fun _=>⟨by omega,by omega⟩,fun _=>⟨by omega,by omega⟩,⟨k+1,i+1⟩,⟨⟨rfl,rfl,rf,rfl,le_int (by simp),le_int (by simp),tv⟩,⟨⟨rf,rf,rf,rf,rfl,tv⟩,⟨rfl,rfl⟩,⟨rf,rf,rf,rf,rfl,tv⟩,⟨rfl,rfl⟩,⟨rfl,rfl⟩,tv⟩,rfl,rfl⟩,⟨by show i+1≤L.length; omega,?_⟩,by show L.length - (i+1)<L.length - i; omega⟩
    show k+1=(ownL (L.take (i+1)) ow).length
    rw [htk,ownL,List.filter_append,List.length_append,hk]
    simp [ho,ownL]
  ·have he0:¬ i<L.length:=by simpa using h
   have he:i=L.length:=by omega
   subst he
   have hk2:k=ids.length:=by rw [hk,List.take_length,hof,List.length_map]
   refine ⟨fun h=>?_,fun _=>?_⟩
   ·exfalso
    have h':((k:Int) != ((ids.map eKy).length:Int))=true:=h
    rw [hk2] at h'
    simp at h'
   exact ⟨fun _=>⟨by omega,by omega⟩,ow+1,⟨⟨rfl,rfl,le_int (by simp),tv⟩,⟨⟨rf,rf,rf,rf,rfl,tv⟩,⟨rfl,rfl⟩,⟨rf,rf,rf,rf,rfl,tv⟩,⟨rfl,rfl⟩,tv⟩,rfl,rfl⟩,by show ow+1≤6; omega,by show 6 - (ow+1)<6 - ow; omega⟩
 ·exact ⟨_,_,⟨rfl,rfl⟩,by kernel_rfl,⟨rf,tv⟩,⟨rf,rf,rf,rf,rfl,tv⟩,⟨rfl,rfl⟩,⟨rf,rf,rf,rf,rfl,tv⟩,⟨rfl,rfl⟩,tv⟩
end Go.Proofs.YtccialgeakmmpaaGreatDoor
namespace Go.Proofs.YtccialgeakmmpaaGreatDoor
open Go.TM
variable [KObj]
set_option maxRecDepth 100000
def scK (its:List Item) (m L:OM):Boxes:=[(3,.cells (agC its 2)),(2,.tree 0 0 (.omap pairK (m.map eEnt))),(4,.cells (agC its 5)),(5,.tree 0 0 (.osl 6 (L.map eRo)))]
theorem both_ok (n k:Int):∃b w,0≤b∧b≤2∧1≤w∧w≤40∧CSpec Tryz.prog 13 [.dv (I n),.dv (I k)] 0 [] 5 [.ptr 3 0,.ptr 4 0,.dv (B true)] (bothK b w):=by
 have h1:=around_bd n 3 (by omega)
 have h2:=around_bd k 40 (by omega)
 exact ⟨_,_,h1.1,by omega,by omega,by omega,both_spec n k⟩
structure Goes (its:List Item) (m L:OM):Prop where
 fit:Fit its m
 same:Same m L
 ko:KO m
theorem Goes.len {its:List Item} {m L:OM} (h:Goes its m L):m.length≤12∧L.length≤12:=by
 have:=h.fit.len
 have:=h.same.len
 omega
theorem Goes.okL {its:List Item} {m L:OM} (h:Goes its m L):OkS its L:=fun k x hx=>h.fit.ok k x ((h.same.get k).trans hx)
theorem goes_nil (its:List Item):Goes its [] []:=⟨fit_nil its,same_nil,fun k x h=>by simp [oget] at h⟩
theorem opAt_in (l:List Int) (i:Int):InI (opK (opAt l i)).1∧InI (opK (opAt l i)).2:=by
 have h1:=pick_bd l (6 * i+3) 3 (by omega)
 have h2:=pick_bd l (6 * i+3) 2 (by omega)
 refine ⟨⟨by simp only [opK,opAt]; omega,by simp only [opK,opAt]; omega⟩,?_⟩
 simp only [opK,opAt]
 split <;> exact ⟨by omega,by omega⟩
theorem Goes.op {its:List Item} {m L:OM} (h:Goes its m L) (ht:TyOk its) {l:List Int} {i:Int}:Goes its (doM its m (opAt l i)) (rdoM its L (opAt l i)) :=
 ⟨fit_doM h.fit ht (opAt_key l i),sim_doM h.same ht _,ko_doM h.ko h.fit.nd (opAt_in l i)⟩
end Go.Proofs.YtccialgeakmmpaaGreatDoor
namespace Go.Proofs.YtccialgeakmmpaaGreatDoor
open Go.TM
variable [KObj]
set_option maxRecDepth 100000
def fillM (its:List Item) (l:List Int):Nat→OM
 | 0=>[]
 | i+1=>doM its (fillM its l i) (opAt l i)
def fillL (its:List Item) (l:List Int):Nat→OM
 | 0=>[]
 | i+1=>rdoM its (fillL its l i) (opAt l i)
theorem fill_goes {its:List Item} (ht:TyOk its) (l:List Int):∀i,Goes its (fillM its l i) (fillL its l i)
 | 0=>goes_nil its
 | i+1=>(fill_goes ht l i).op ht
def fiInv (its:List Item) (l:List Int) (i:Nat):AState :=
 ⟨6,[(9,.ptr 3 0),(10,.ptr 4 0),(12,.dv (.sl 9 ((opsL l).map eOp))),(13,.dv (I i))],scK its (fillM its l i) (fillL its l i)⟩
set_option maxHeartbeats 4000000 in
theorem filled_spec (bind wear:Int) (l:List Int):∃b w,0≤b∧b≤2∧1≤w∧w≤40∧CSpec Tryz.prog 4 [.dv (I bind),.dv (I wear),.dv (Ints l)] 0 [] 6 [.ptr 3 0,.ptr 4 0,.dv (B true)] (scK (itemsL b w) (fillM (itemsL b w) l (opsL l).length) (fillL (itemsL b w) l (opsL l).length)):=by
 obtain ⟨b,w,hb0,hb1,hw0,hw1,hbo⟩:=both_ok bind wear
 refine ⟨b,w,hb0,hb1,hw0,hw1,?_⟩
 have hty:TyOk (itemsL b w):=itemsL_ok ⟨by omega,hw1⟩
 refine cspec_of tab_ok mixed (calls_snd _) (range_snd _) Tryz.func4 rfl rfl (by kernel_rfl) ?_
 refine .inr ⟨[],[.dv (I bind),.dv (I wear)],[],5,_,_,hbo,by kernel_rfl,by kernel_rfl,⟨rf,rf,tv⟩,tv,?_⟩
 refine ⟨fun h=>(by cases h),fun _=>?_⟩
 refine .inl ⟨_,fun _=>(ops_spec l).ok,?_⟩
 have hK:(opsL l).length≤20:=by unfold opsL; rw [opsN_len]; unfold opsK; omega
 refine ⟨Nat,fiInv (itemsL b w) l,fun i=>i≤(opsL l).length,fun i=>(opsL l).length - i,0,fun _=>rfl,⟨⟨rfl,rfl,rf,rf,tv⟩,⟨⟨rf,rf,rf,rf,rfl,tv⟩,⟨rfl,rfl⟩,⟨rf,rf,rf,rf,⟨rfl,rfl,rfl,rfl,6,rfl⟩,tv⟩,⟨rfl,rfl,6,rfl⟩,tv⟩,rfl,rfl⟩,Nat.zero_le _,?_⟩
 intro i hi
 have hm:=fill_goes hty l i
 refine ⟨fun h=>?_,fun h=>?_⟩
 ·have hlt:i<(opsL l).length:=by simpa using h
  clear h
  have hin:(opsL l)[i]?=some (opsL l)[i]:=List.getElem?_eq_getElem hlt
  have hoa:=opsL_at hin
  have hel:((opsL l).map eOp)[(i:Int).toNat]?=some (eOp (opAt l i)):=by simp [hlt,←hoa]
  have hdo:=do_spec (itemsL b w) (fillM (itemsL b w) l i) (opAt l i) hm.fit.ok (opAt_a l i)
  have hrd:=rdo_spec (itemsL b w) (fillL (itemsL b w) l i) (by have:=hm.len; omega) (opAt l i) hm.okL (opAt_a l i)
  rw [sim_doE hm.same] at hrd
  refine ⟨eOp (opAt l i),fun _=>⟨by omega,hel⟩,?_⟩
  refine .inr ⟨[3,2],[.ptr 0 0,ofD (eOp (opAt l i))],stK (itemsL b w) (fillM (itemsL b w) l i),0,_,_,hdo,by kernel_rfl,by kernel_rfl,⟨rfl,⟨rf,rf,rf,rf,rf,rf,rf,rf,rf,tv⟩,tv⟩,⟨⟨rf,rf,rf,rf,rfl,tv⟩,⟨rfl,rfl⟩,tv⟩,?_⟩
  refine ⟨eOp (opAt l i),fun _=>⟨by omega,hel⟩,?_⟩
  refine .inr ⟨[4,5],[.ptr 0 0,ofD (eOp (opAt l i))],rfK (itemsL b w) (fillL (itemsL b w) l i) 0,0,_,_,hrd,by kernel_rfl,by kernel_rfl,⟨rfl,⟨rf,rf,rf,rf,rf,rf,rf,rf,rf,tv⟩,tv⟩,⟨⟨rf,rf,rf,rf,rfl,tv⟩,⟨rfl,rfl⟩,tv⟩,?_⟩
  refine ⟨by kernel_rfl,fun h=>?_,fun _=>?_⟩
  ·exfalso
   have h':(doE (itemsL b w) (fillM (itemsL b w) l i) (opAt l i) != doE (itemsL b w) (fillM (itemsL b w) l i) (opAt l i))=true:=h
   simp at h'
  exact ⟨fun _=>⟨by omega,by omega⟩,i+1,⟨⟨rfl,rfl,rf,le_int (by simp),tv⟩,⟨⟨rf,rf,rf,rf,rfl,tv⟩,⟨rfl,rfl⟩,⟨rf,rf,rf,rf,rfl,tv⟩,⟨rfl,rfl⟩,tv⟩,rfl,rfl⟩,by show i+1≤(opsL l).length; omega,by show (opsL l).length - (i+1)<(opsL l).length - i; omega⟩
 ·have he0:¬ i<(opsL l).length:=by simpa using h
  have he:i=(opsL l).length:=by omega
  subst he
  exact ⟨_,_,⟨rfl,rfl⟩,by kernel_rfl,⟨rfl,rfl,rf,tv⟩,⟨rf,rf,rf,rf,rfl,tv⟩,⟨rfl,rfl⟩,⟨rf,rf,rf,rf,rfl,tv⟩,⟨rfl,rfl⟩,tv⟩
end Go.Proofs.YtccialgeakmmpaaGreatDoor
namespace Go.Proofs.YtccialgeakmmpaaGreatDoor
open Go.TM
def IsT (its:List Item) (m:OM):Prop:=∀k x,oget m k=some x→(typeOf its x.item).isSome=true
theorem IsT.put {its:List Item} {m:OM} {k:Ky} {x:Ob} (h:IsT its m) (hx:(typeOf its x.item).isSome=true):IsT its (oput m k x):=by
 intro q y hy
 rw [oget_put] at hy
 split at hy
 ·injection hy with hy; subst hy; exact hx
 ·exact h q y hy
theorem IsT.del {its:List Item} {m:OM} {k:Ky} (h:IsT its m) (hn:NdK m):IsT its (odel m k):=by
 intro q y hy
 rw [oget_del hn] at hy
 split at hy
 ·cases hy
 ·exact h q y hy
theorem IsT.putM {its:List Item} {m:OM} {k:Ky} {x:Ob} (h:IsT its m):IsT its (putM its m k x):=by
 unfold Go.Proofs.YtccialgeakmmpaaGreatDoor.putM
 split
 ·rename_i e
  refine h.put ?_
  unfold putE at e
  split at e
  ·simp at e
  ·split at e
   ·simp at e
   ·rename_i t ht; rw [ht]; rfl
 ·exact h
theorem cvW_le {w w2:Nat} (hw:0<w) {x:Nat} (hx:x≤w):x * w2 / w≤w2:=by
 refine Nat.le_trans (Nat.div_le_div_right (Nat.mul_le_mul_right w2 hx)) ?_
 rw [Nat.mul_div_cancel_left _ hw]
 exact Nat.le_refl _
def cvW (w w2:Nat) (x:Int):Int:=((x.toNat * w2 / w:Nat):Int)
def cvO (w w2:Nat) (x:Ob):Ob:=⟨4,x.owner,cvW w w2 x.wear,x.bound⟩
def cvM (w w2:Nat) (m:OM) (i:Nat):OM:=((keysOf m).take i).map fun k=>(k,cvO w w2 ((oget m k).getD Ob.zero))
def cvL (w w2:Nat) (L:OM) (i:Nat):OM:=(L.take i).map fun p=>(p.1,cvO w w2 p.2)
theorem oput_new:∀{m:OM} {k:Ky} {x:Ob},k ∉ m.map Prod.fst→oput m k x=m++[(k,x)]
 | [],_,_,_=>rfl
 | p::r,k,x,h=>by
  simp only [List.map_cons,List.mem_cons,not_or] at h
  have h1:¬ p.1=k:=fun e=>h.1 e.symm
  simp only [oput,if_neg h1,List.cons_append]
  rw [oput_new h.2]
theorem cvM_keys (w w2:Nat) (m:OM) (i:Nat):(cvM w w2 m i).map Prod.fst=(keysOf m).take i:=by
 unfold cvM
 rw [List.map_map]
 exact List.map_id' _
theorem take_get_nd {α:Type} {l:List α} (hn:l.Nodup) {i:Nat} (h:i<l.length):l[i] ∉ l.take i:=by
 intro hm
 obtain ⟨j,hj⟩:=List.getElem?_of_mem hm
 rw [List.getElem?_take] at hj
 split at hj
 ·rename_i hlt
  have:=(List.getElem?_inj (i:=j) (j:=i) (by omega) hn).1 (by rw [hj,List.getElem?_eq_getElem h])
  omega
 ·cases hj
section
variable [KObj]
theorem IsT.giv {its:List Item} {m:OM} {k:Ky} {fr to:Int} (h:IsT its m):IsT its (givM its m k fr to):=by
 unfold givM
 split
 ·rename_i e
  obtain ⟨x,hx,he,_⟩:=givE_ok e
  rw [he]
  exact h.put (show (typeOf its x.item).isSome=true from h _ _ hx)
 ·exact h
theorem IsT.use {its:List Item} {m:OM} {k:Ky} {ac lv w:Int} (h:IsT its m):IsT its (useM its m k ac lv w):=by
 unfold useM
 split
 ·rename_i e
  unfold useE at e
  split at e
  ·rename_i h1; exact absurd e h1
  ·rename_i h1
   obtain ⟨x,hx,_,he⟩:=ownR_ok (its:=its) (m:=m) (k:=k) (ow:=ac) (by simpa using h1)
   rw [he]
   exact h.put (show (typeOf its x.item).isSome=true from h _ _ hx)
 ·exact h
theorem IsT.rep {its:List Item} {m:OM} {k:Ky} {ac w:Int} (h:IsT its m):IsT its (repM its m k ac w):=by
 unfold repM
 split
 ·rename_i e
  unfold repE at e
  split at e
  ·rename_i h1; exact absurd e h1
  ·rename_i h1
   obtain ⟨x,hx,_,he⟩:=ownR_ok (its:=its) (m:=m) (k:=k) (ow:=ac) (by simpa using h1)
   rw [he]
   exact h.put (show (typeOf its x.item).isSome=true from h _ _ hx)
 ·exact h
theorem IsT.doM {its:List Item} {m:OM} {o:Op} (h:IsT its m) (hn:NdK m):IsT its (doM its m o):=by
 unfold Go.Proofs.YtccialgeakmmpaaGreatDoor.doM
 split
 ·exact h.putM
 ·split
  ·exact h.giv
  ·split
   ·exact h.use
   ·split
    ·exact h.rep
    ·split
     ·exact h.del hn
     ·exact h.putM
theorem fill_isT {its:List Item} (ht:TyOk its) (l:List Int):∀i,IsT its (fillM its l i)
 | 0=>fun k x h=>by simp [fillM,oget] at h
 | i+1=>(fill_isT ht l i).doM (fill_goes ht l i).fit.nd
end
theorem ty_four {b w i:Int} (h:(typeOf (itemsL b w) i).isSome=true):i=4:=by
 unfold typeOf at h
 split at h
 ·cases h
 ·rename_i h0
  have hn:i=(i.toNat:Int):=by omega
  generalize i.toNat=n at hn h
  subst hn
  match n,h with
  | 0,h=>simp [itemsL] at h
  | 1,h=>simp [itemsL] at h
  | 2,h=>simp [itemsL] at h
  | 3,h=>simp [itemsL] at h
  | 4,_=>rfl
  | n+5,h=>simp [itemsL] at h
theorem cvM_step {w w2:Nat} {m:OM} (hn:(keysOf m).Nodup) {i:Nat} (hi:i<(keysOf m).length) {x:Ob} (hx:oget m (keysOf m)[i]=some x):oput (cvM w w2 m i) (keysOf m)[i] (cvO w w2 x)=cvM w w2 m (i+1):=by
 rw [oput_new (by rw [cvM_keys]; exact take_get_nd hn hi)]
 unfold cvM
 rw [List.take_succ_eq_append_getElem hi,List.map_append]
 simp [hx]
theorem cvL_step {w w2:Nat} {L:OM} {i:Nat} (hi:i<L.length):cvL w w2 L i++[(L[i].1,cvO w w2 L[i].2)]=cvL w w2 L (i+1):=by
 unfold cvL
 rw [List.take_succ_eq_append_getElem hi,List.map_append]
 rfl
section
variable [KObj]
theorem cv_eq {w w2:Nat} {m L:OM} (h:Same m L):cvM w w2 m (keysOf m).length=cvL w w2 L L.length:=by
 unfold cvM cvL
 rw [List.take_length,List.take_length,←h.keys,List.map_map]
 refine List.map_congr_left fun p hp=>?_
 have:=mem_oget h.ndL (k:=p.1) (x:=p.2) hp
 show (p.1,cvO w w2 ((oget m p.1).getD Ob.zero))=(p.1,cvO w w2 p.2)
 rw [h.get,this]; rfl
theorem cvL_same {w w2:Nat} {m L:OM} (h:Same m L):Same (cvL w w2 L L.length) (cvL w w2 L L.length):=by
 have hk:(cvL w w2 L L.length).map Prod.fst=L.map Prod.fst:=by
  unfold cvL; rw [List.take_length,List.map_map]; rfl
 have hn:NdK (cvL w w2 L L.length):=by
  unfold NdK; rw [hk]; exact h.ndL
 exact ⟨hn,keys_same hn (by rw [hk]; exact h.srt) (fun _=>rfl),fun _=>rfl⟩
theorem cvL_get {w w2:Nat} {L:OM} {k:Ky} {y:Ob} (h:oget (cvL w w2 L L.length) k=some y):∃x,oget L k=some x∧y=cvO w w2 x:=by
 unfold cvL at h
 rw [List.take_length] at h
 induction L with
 | nil=>simp [oget] at h
 | cons p r ih =>
  simp only [List.map_cons,oget] at h ⊢
  split at h
  ·rename_i e
   injection h with h
   rw [if_pos e]
   exact ⟨_,rfl,h.symm⟩
  ·rename_i e
   rw [if_neg e]
   exact ih h
theorem cvL_num {b w2 w:Nat} {its:List Item} {b0:Int} {m L:OM} (h:Same m L) (hko:KO m) (hok:OkS (itemsL b0 w) m) (hit:IsT (itemsL b0 w) m) (hw:0<w) (hw2:w2≤40):NumS (cvL w w2 L L.length):=by
 refine numS (its:=itemsL 0 w2) (fun k y hy=>?_) (fun k y hy=>?_) (by show 5≤1000; omega)
 ·obtain ⟨x,hx,rfl⟩:=cvL_get hy
  have hx':=(h.get k).trans hx
  have h1:=hok k x hx'
  have h4:=ty_four (hit k x hx')
  have hwr:x.wear≤w:=by
   have:=h1.w1
   rw [h4] at this
   exact this
  have h0:=h1.w0
  have h2:=cvW_le (w2:=w2) hw (x:=x.wear.toNat) (by omega)
  refine ⟨by show (0:Int)≤4; decide,by show (4:Int)<5; decide,?_,?_,?_⟩
  ·show 0≤cvW w w2 x.wear
   exact Int.natCast_nonneg _
  ·show cvW w w2 x.wear≤(w2:Int)
   exact Int.ofNat_le.2 h2
  ·show (w2:Int)≤1048576
   omega
 ·obtain ⟨x,hx,rfl⟩:=cvL_get hy
  exact hko k x ((h.get k).trans hx)
end
end Go.Proofs.YtccialgeakmmpaaGreatDoor
namespace Go.Proofs.YtccialgeakmmpaaGreatDoor
open Go.TM
def cpAt (l:List Int) (i:Nat):Int:=if pick l i 6=3 then pick l (i+1) 8 - 2 else i
def cpL (l:List Int):Nat→List Int
 | 0=>[]
 | i+1=>cpL l i++[cpAt l i]
theorem cpL_len (l:List Int):∀n,(cpL l n).length=n
 | 0=>rfl
 | n+1=>by simp [cpL,cpL_len l n]
def rulesL:List DV:=match rulesD with
 | .sl _ l=>l
 | _=>[]
def zruleD:DV:=.agg [.str ⟨#[]⟩,B false,I 0,I 0,I 0,I 0,.nils,.nils,.nils]
def cat6D (b w:DV):DV:=.agg [.sl 7 (itemsD b w),.sl 9 (rulesL++[zruleD]),tabsD,taxesD]
variable [KObj]
set_option maxRecDepth 100000
theorem byI:(nth tab (nth tab 22).elem).bytes=8:=rfl
set_option maxHeartbeats 4000000 in
theorem cps_spec (l:List Int) (n:Nat) (hn:n≤100):PSpec Tryz.prog 8 [I n,Ints l] [Ints (cpL l n)]:=by
 refine pspec_of tab_ok mixed (calls_snd _) (range_snd _) Tryz.func8 rfl (by kernel_rfl) rfl ?_
 refine ⟨Nat,fun i=>⟨1,[(0,.dv (I n)),(1,.dv (Ints l)),(5,.own 0 0 0 []),(6,.dv (I i))],[(0,.tree 0 0 (.osl 1 ((cpL l i).map I)))]⟩,fun i=>i≤n,fun i=>n - i,0,fun _=>rfl,⟨⟨rf,rf,⟨rfl,rfl,rfl,rfl,1,rfl⟩,rf,tv⟩,⟨⟨rfl,rfl,1,rfl⟩,tv⟩,rfl,rfl⟩,Nat.zero_le _,?_⟩
 intro i hi
 refine ⟨fun h=>?_,fun h=>?_⟩
 ·have h1:(i:Int)<n:=of_decide_eq_true h
  clear h
  have b1:=pick_bd l (i+1) 8 (by omega)
  have hl:=cpL_len l i
  refine .inl ⟨_,fun _=>(pick_spec l i 6 (by omega) (by omega)).ok,?_⟩
  refine ⟨fun h=>?_,fun h=>?_⟩
  ·have hA:pick l i 6=3:=by simpa using h
   refine ⟨fun _=>⟨by omega,by omega⟩,.inl ⟨_,fun _=>(pick_spec l (i+1) 8 (by omega) (by omega)).ok,?_⟩⟩
   refine ⟨fun _=>⟨by omega,by omega⟩,?_⟩
   refine .inl ⟨[I (cpAt l i)],rfl,⟨le_int (by simp [cpAt,hA]),tv⟩,(fun x hx=>by rcases List.mem_singleton.1 hx with rfl; rfl),?_⟩
   refine .inr ⟨[I (cpAt l i)],ELes.refl _,(by rw [byI]; simp [hl]; omega),(by simp [hl]; omega),?_⟩
   exact ⟨fun _=>⟨by omega,by omega⟩,i+1,⟨⟨rf,rf,rfl,le_int (by simp),tv⟩,⟨⟨rfl,by simp [cpL]⟩,tv⟩,rfl,rfl⟩,by show i+1≤n; omega,by show n - (i+1)<n - i; omega⟩
  ·have hA:¬ pick l i 6=3:=by simpa using h
   refine .inl ⟨[I (cpAt l i)],rfl,⟨le_int (by simp [cpAt,hA]),tv⟩,(fun x hx=>by rcases List.mem_singleton.1 hx with rfl; rfl),?_⟩
   refine .inr ⟨[I (cpAt l i)],ELes.refl _,(by rw [byI]; simp [hl]; omega),(by simp [hl]; omega),?_⟩
   exact ⟨fun _=>⟨by omega,by omega⟩,i+1,⟨⟨rf,rf,rfl,le_int (by simp),tv⟩,⟨⟨rfl,by simp [cpL]⟩,tv⟩,rfl,rfl⟩,by show i+1≤n; omega,by show n - (i+1)<n - i; omega⟩
 ·have h1:¬ (i:Int)<n:=of_decide_eq_false h
  have e:i=n:=by omega
  subst e
  exact ⟨DV.Le.of_eq (by show DV.sl 1 (fzL ((cpL l i).map I))=_; rw [fzL_map (fun _=>rfl)]),tv⟩
theorem cat6_le {b w:Int} (hb:0≤b∧b≤2) (hw:1≤w∧w≤40):(cat6D (I b) (I w)).Le (cat6D (.ivl .i64 0 2) (.ivl .i64 1 40)):=by
 refine DV.agg_le ⟨?_,rf,rf,rf,tv⟩ (fun d hd=>by
  rcases List.mem_cons.1 hd with rfl | hd
  ·rfl
  rcases List.mem_cons.1 hd with rfl | hd
  ·rfl
  rcases List.mem_cons.1 hd with rfl | hd
  ·rfl
  rcases List.mem_cons.1 hd with rfl | hd
  ·rfl
  cases hd)
 refine DV.sl_le rfl fun i x y hx hy=>?_
 match i,hx,hy with
 | 0,hx,hy=>simp [itemsD] at hx hy; subst hx; subst hy; exact ⟨DLes.refl _,fun d hd=>by simp [DV.cells] at hd; rcases hd with rfl | rfl | rfl | rfl | rfl | rfl | rfl <;> rfl⟩
 | 1,hx,hy=>simp [itemsD] at hx hy; subst hx; subst hy; exact ⟨DLes.refl _,fun d hd=>by simp [DV.cells] at hd; rcases hd with rfl | rfl | rfl | rfl | rfl | rfl | rfl <;> rfl⟩
 | 2,hx,hy=>simp [itemsD] at hx hy; subst hx; subst hy; exact ⟨DLes.refl _,fun d hd=>by simp [DV.cells] at hd; rcases hd with rfl | rfl | rfl | rfl | rfl | rfl | rfl <;> rfl⟩
 | 3,hx,hy=>simp [itemsD] at hx hy; subst hx; subst hy; exact ⟨DLes.refl _,fun d hd=>by simp [DV.cells] at hd; rcases hd with rfl | rfl | rfl | rfl | rfl | rfl | rfl <;> rfl⟩
 | 4,hx,hy=>simp [itemsD] at hx hy; subst hx; subst hy; exact ⟨⟨rf,rf,rf,rf,le_ivl hw.1 hw.2,le_ivl hb.1 hb.2,rf,tv⟩,fun d hd=>by simp [DV.cells] at hd; rcases hd with rfl | rfl | rfl | rfl | rfl | rfl | rfl <;> rfl⟩
 | i+5,hx,hy=>simp [itemsD] at hx
theorem rvalid_spec:PSpec Tryz.prog 22 [catD (.ivl .i64 0 2) (.ivl .i64 1 40)] [I 0]:=pspec_run (pol:=pol1) (fuel:=1000) tab_ok mixed names_ok (by kernel_rfl)
theorem valid6_spec:PSpec Tryz.prog 41 [cat6D (.ivl .i64 0 2) (.ivl .i64 1 40)] [I 6]:=pspec_run (pol:=pol1) (fuel:=1000) tab_ok mixed names_ok (by kernel_rfl)
theorem rvalid6_spec:PSpec Tryz.prog 22 [cat6D (.ivl .i64 0 2) (.ivl .i64 1 40)] [I 6]:=pspec_run (pol:=pol1) (fuel:=1000) tab_ok mixed names_ok (by kernel_rfl)
end Go.Proofs.YtccialgeakmmpaaGreatDoor
namespace Go.Proofs.YtccialgeakmmpaaGreatDoor
open Go.TM
variable [KObj]
set_option maxRecDepth 100000
theorem new6_spec {b w:Int} (hb:0≤b∧b≤2) (hw:1≤w∧w≤40):PSpec Tryz.prog 18 [cat6D (I b) (I w)] [.nilp,I 6]:=by
 refine pspec_of tab_ok mixed (calls_snd _) (range_snd _) Tryz.func18 rfl (by kernel_rfl) rfl ?_
 have hv:CallOk Tryz.prog 41 [cat6D (I b) (I w)] [I 6]:=⟨[cat6D (.ivl .i64 0 2) (.ivl .i64 1 40)],⟨cat6_le hb hw,tv⟩,valid6_spec⟩
 refine .inl ⟨_,fun _=>hv,?_⟩
 refine ⟨fun _=>?_,fun h=>by cases h⟩
 exact ⟨rf,rf,tv⟩
set_option maxHeartbeats 4000000 in
theorem conv_bad (its:List Item) (m:OM) {b w:Int} (hb:0≤b∧b≤2) (hw:1≤w∧w≤40) (cs:List Int):CSpec Tryz.prog 9 [.ptr 0 0,ofD (cat6D (I b) (I w)),.dv (Ints cs)] 2 (stK its m) 13 [.dv .nilp,.dv (I 6)] (stK its m):=by
 refine cspec_of tab_ok mixed (calls_snd _) (range_snd _) Tryz.func9 rfl rfl (by kernel_rfl) ?_
 refine .inl ⟨_,fun _=>(new6_spec hb hw).ok,?_⟩
 refine ⟨fun _=>?_,fun h=>by cases h⟩
 exact ⟨_,_,⟨rfl,rfl⟩,by kernel_rfl,⟨rf,rf,tv⟩,⟨rf,rf,rf,rf,rfl,tv⟩,⟨rfl,rfl⟩,tv⟩
set_option maxHeartbeats 4000000 in
theorem conv_len (its:List Item) (m:OM) (hits:its.length=5) {b w:Int} (hb:0≤b∧b≤2) (hw:1≤w∧w≤40) (cs:List Int) (hc:cs.length ≠ 5):CSpec Tryz.prog 9 [.ptr 0 0,ofD (catD (I b) (I w)),.dv (Ints cs)] 2 (stK its m) 13 [.dv .nilp,.dv (I 1)] (stK its m):=by
 refine cspec_of tab_ok mixed (calls_snd _) (range_snd _) Tryz.func9 rfl rfl (by kernel_rfl) ?_
 refine .inr ⟨[],[ofD (catD (I b) (I w))],[],3,_,_,new_spec hb hw,by kernel_rfl,by kernel_rfl,⟨⟨rf,rf,rf,rf,tv⟩,tv⟩,tv,?_⟩
 refine ⟨fun h=>(by cases h),fun _=>?_⟩
 refine ⟨fun _=>?_,fun h=>?_⟩
 ·exact ⟨_,_,⟨rfl,rfl⟩,by kernel_rfl,⟨rf,rf,tv⟩,⟨rf,rf,rf,rf,rfl,tv⟩,⟨rfl,rfl⟩,tv⟩
 ·exfalso
  have h':(((cs.map I).length:Int) != ((its.map eItem).length:Int))=false:=h
  simp [hits] at h'
  omega
def cvInv (its:List Item) (m:OM) (b2:Int) (w w2:Nat) (cs:List Int) (i:Nat):AState:=⟨11,[(0,.ptr 0 0),(2,.dv (Ints cs)),(8,.ptr 5 0),(34,.own 10 0 0 []),(35,.dv (I (keysOf m).length)),(36,.dv (I i))],
 stK its m++[(5,.cells (agC (itemsL b2 w2) 4)),(4,.tree 0 0 (.omap pairK ((cvM w w2 m i).map eEnt))),(10,.tree 0 0 (.osl 2 ((keysOf m).map eKy)))]⟩
def it4 (b w:Int):Item:=⟨⟨⟨[115,119,111,114,100]⟩⟩,true,false,false,w,b,3⟩
theorem typeOf4 (b w:Int) (m:OM):CSpec Tryz.prog 20 [.ptr 0 0,.dv (I 4)] 2 (stK (itemsL b w) m) 0 [ofD (eItem (it4 b w)),.dv (B true)] (stK (itemsL b w) m):=typeOf_spec (itemsL b w) m 4
set_option maxHeartbeats 4000000 in
theorem conv_ok (m:OM) (b0 b2:Int) (w w2:Nat) (hn:NdK m) (hl:m.length≤12) (hok:OkS (itemsL b0 w) m) (hit:IsT (itemsL b0 w) m) (hw0:1≤w∧w≤40) (hb:0≤b2∧b2≤2) (hw:1≤w2∧w2≤40) (cs:List Int) (hcl:cs.length=5) (hc:m ≠ []→cs[4]?=some 4) :
  CSpec Tryz.prog 9 [.ptr 0 0,ofD (catD (I b2) (I w2)),.dv (Ints cs)] 2 (stK (itemsL b0 w) m) 13 [.ptr 5 0,.dv (I 0)] (stK (itemsL b0 w) m++[(5,.cells (agC (itemsL b2 w2) 4)),(4,.tree 0 0 (.omap pairK ((cvM w w2 m (keysOf m).length).map eEnt)))]):=by
 refine cspec_of tab_ok mixed (calls_snd _) (range_snd _) Tryz.func9 rfl rfl (by kernel_rfl) ?_
 refine .inr ⟨[],[ofD (catD (I b2) (I w2))],[],3,_,_,new_spec hb (by omega),by kernel_rfl,by kernel_rfl,⟨⟨rf,rf,rf,rf,tv⟩,tv⟩,tv,?_⟩
 refine ⟨fun h=>(by cases h),fun _=>?_⟩
 refine ⟨fun h=>?_,fun _=>?_⟩
 ·exfalso
  have h':(((cs.map I).length:Int) != (((itemsL b0 w).map eItem).length:Int))=true:=h
  simp [hcl,itemsL] at h'
 refine .inr ⟨[0,1],[.ptr 0 0],stK (itemsL b0 w) m,5,_,_,sorted_spec (itemsL b0 w) m hn hl,by kernel_rfl,by kernel_rfl,⟨rfl,tv⟩,⟨⟨rf,rf,rf,rf,rfl,tv⟩,⟨rfl,rfl⟩,tv⟩,?_⟩
 have hkl:(keysOf m).length=m.length:=by unfold keysOf; rw [isortN_len,List.length_map]
 have hkn:(keysOf m).Nodup:=(isortN_perm _ _).nodup_iff.2 hn
 refine ⟨Nat,cvInv (itemsL b0 w) m b2 w w2 cs,fun i=>i≤(keysOf m).length,fun i=>(keysOf m).length - i,0,fun _=>rfl,⟨⟨rfl,rf,rfl,rfl,le_int (by simp),rf,tv⟩,⟨⟨rf,rf,rf,rf,rfl,tv⟩,⟨rfl,rfl⟩,⟨rf,rf,rf,rf,rfl,tv⟩,⟨rfl,rfl⟩,⟨rfl,rfl⟩,tv⟩,rfl,rfl⟩,Nat.zero_le _,?_⟩
 intro i hi0
 refine ⟨fun h=>?_,fun h=>?_⟩
 ·have h':(i:Int)<((keysOf m).length:Int):=of_decide_eq_true h
  have hlt:i<(keysOf m).length:=by omega
  clear h
  have hkm:(keysOf m)[i]∈m.map Prod.fst:=(isortN_perm _ _).mem_iff.1 (List.getElem_mem hlt)
  obtain ⟨x,hx⟩:∃x,oget m (keysOf m)[i]=some x:=by
   obtain ⟨⟨k',x⟩,h1,h2⟩:=List.mem_map.1 hkm
   exact ⟨x,mem_oget hn (by rw [←h2]; exact h1)⟩
  have hstep:=cvM_step (w:=w) (w2:=w2) hkn hlt hx
  have hne:m ≠ []:=by rintro rfl; simp [oget] at hx
  have hc4:=hc hne
  refine ⟨fun _=>⟨by omega,by simp; omega⟩,eKy (keysOf m)[i],fun _=>by simp [hlt],?_⟩
  have h1:=hok _ x hx
  have h4:=ty_four (hit _ x hx)
  generalize hk:(keysOf m)[i]=k at hkm hx hstep
  obtain ⟨xi,xo,xw,xb⟩:=x
  dsimp only at h4
  subst h4
  have hwr:xw≤w:=h1.w1
  have hw1:0≤xw:=h1.w0
  obtain ⟨n,rfl⟩:=Int.eq_ofNat_of_zero_le hw1
  have hnw:n≤w:=by omega
  refine ⟨keyTI,eKy k,rfl,rfl,eOb ⟨4,xo,n,xb⟩,true,fun _=>by rw [mget_ky,hx]; rfl,(fun h=>by cases h),rfl,?_⟩
  refine ⟨by kernel_rfl,?_⟩
  refine ⟨eItem (it4 b0 w),fun _=>⟨by show (0:Int)≤4; decide,rfl⟩,by kernel_rfl,?_⟩
  refine ⟨I 4,fun _=>⟨by show (0:Int)≤4; decide,by show (cs.map I)[4]?=_; rw [List.getElem?_map,hc4]; rfl⟩,?_⟩
  refine ⟨fun h=>(by cases h),fun _=>?_⟩
  refine .inr ⟨[5,4],[.ptr 0 0,.dv (I 4)],stK (itemsL b2 w2) (cvM w w2 m i),0,_,_,typeOf4 b2 w2 _,by kernel_rfl,by kernel_rfl,⟨rfl,rf,tv⟩,⟨⟨rf,rf,rf,rf,rfl,tv⟩,⟨rfl,rfl⟩,tv⟩,?_⟩
  refine ⟨fun h=>(by cases h),fun _=>?_⟩
  have hq:n * w2 / w≤w2:=cvW_le (by omega) hnw
  have hm:n * w2≤40 * 40:=Nat.mul_le_mul (by omega) (by omega)
  refine .inl ⟨_,fun _=>(part_spec n w2 w (by omega) (by omega) (by omega) (by omega) (by omega) (by omega)).ok,?_⟩
  refine ⟨keyTI,eKy k,rfl,rfl,eOb (cvO w w2 ⟨4,xo,n,xb⟩),⟨rf,rf,rf,rf,tv⟩,rfl,false,fun _=>⟨old_closed _ k,closed_eOb _⟩,?_⟩
  refine ⟨by kernel_rfl,?_⟩
  refine ⟨fun _=>⟨by omega,by omega⟩,i+1,⟨⟨rfl,rf,rfl,rfl,rf,le_int (by simp),tv⟩,⟨⟨rf,rf,rf,rf,rfl,tv⟩,⟨rfl,rfl⟩,⟨rf,rf,rf,rf,rfl,tv⟩,⟨rfl,?_⟩,⟨rfl,rfl⟩,tv⟩,rfl,rfl⟩,by show i+1≤(keysOf m).length; omega,by show (keysOf m).length - (i+1)<(keysOf m).length - i; omega⟩
  show DV.omap _ _=DV.omap _ _
  rw [mput_ky,hstep]
 ·have h':¬ (i:Int)<((keysOf m).length:Int):=of_decide_eq_false h
  have he:i=(keysOf m).length:=by omega
  subst he
  exact ⟨_,_,⟨rfl,rfl⟩,by kernel_rfl,⟨rfl,rf,tv⟩,⟨rf,rf,rf,rf,rfl,tv⟩,⟨rfl,rfl⟩,⟨rf,rf,rf,rf,rfl,tv⟩,⟨rfl,rfl⟩,tv⟩
def cvE (c:Int):Int:=if c<0 then 7 else 9
set_option maxHeartbeats 4000000 in
theorem conv_no (m:OM) (b0 b2:Int) (w w2:Nat) (hn:NdK m) (hl:m.length≤12) (hok:OkS (itemsL b0 w) m) (hit:IsT (itemsL b0 w) m) (hb:0≤b2∧b2≤2) (hw:1≤w2∧w2≤40) (cs:List Int) (hcl:cs.length=5) (hne:m ≠ []) (c:Int) (hc:cs[4]?=some c) (hc4:c ≠ 4) :
  CSpec Tryz.prog 9 [.ptr 0 0,ofD (catD (I b2) (I w2)),.dv (Ints cs)] 2 (stK (itemsL b0 w) m) 13 [.dv .nilp,.dv (I (cvE c))] (stK (itemsL b0 w) m):=by
 refine cspec_of tab_ok mixed (calls_snd _) (range_snd _) Tryz.func9 rfl rfl (by kernel_rfl) ?_
 refine .inr ⟨[],[ofD (catD (I b2) (I w2))],[],3,_,_,new_spec hb (by omega),by kernel_rfl,by kernel_rfl,⟨⟨rf,rf,rf,rf,tv⟩,tv⟩,tv,?_⟩
 refine ⟨fun h=>(by cases h),fun _=>?_⟩
 refine ⟨fun h=>?_,fun _=>?_⟩
 ·exfalso
  have h':(((cs.map I).length:Int) != (((itemsL b0 w).map eItem).length:Int))=true:=h
  simp [hcl,itemsL] at h'
 refine .inr ⟨[0,1],[.ptr 0 0],stK (itemsL b0 w) m,5,_,_,sorted_spec (itemsL b0 w) m hn hl,by kernel_rfl,by kernel_rfl,⟨rfl,tv⟩,⟨⟨rf,rf,rf,rf,rfl,tv⟩,⟨rfl,rfl⟩,tv⟩,?_⟩
 have hkl:(keysOf m).length=m.length:=by unfold keysOf; rw [isortN_len,List.length_map]
 have hlt:0<(keysOf m).length:=by rw [hkl]; exact List.length_pos_iff.2 hne
 refine ⟨Unit,fun _=>cvInv (itemsL b0 w) m b2 w w2 cs 0,fun _=>True,fun _=>0,(),fun _=>rfl,⟨⟨rfl,rf,rfl,rfl,le_int (by simp),rf,tv⟩,⟨⟨rf,rf,rf,rf,rfl,tv⟩,⟨rfl,rfl⟩,⟨rf,rf,rf,rf,rfl,tv⟩,⟨rfl,rfl⟩,⟨rfl,rfl⟩,tv⟩,rfl,rfl⟩,tv,?_⟩
 intro _ _
 refine ⟨fun _=>?_,fun h=>?_⟩
 ·have hkm:(keysOf m)[0]∈m.map Prod.fst:=(isortN_perm _ _).mem_iff.1 (List.getElem_mem hlt)
  obtain ⟨x,hx⟩:∃x,oget m (keysOf m)[0]=some x:=by
   obtain ⟨⟨k',x⟩,h1,h2⟩:=List.mem_map.1 hkm
   exact ⟨x,mem_oget hn (by rw [←h2]; exact h1)⟩
  refine ⟨fun _=>⟨by decide,by simp; omega⟩,eKy (keysOf m)[0],fun _=>by simp [hlt],?_⟩
  have h4:=ty_four (hit _ x hx)
  generalize hk:(keysOf m)[0]=k at hkm hx
  obtain ⟨xi,xo,xw,xb⟩:=x
  dsimp only at h4
  subst h4
  refine ⟨keyTI,eKy k,rfl,rfl,eOb ⟨4,xo,xw,xb⟩,true,fun _=>by rw [mget_ky,hx]; rfl,(fun h=>by cases h),rfl,?_⟩
  refine ⟨by kernel_rfl,?_⟩
  refine ⟨eItem (it4 b0 w),fun _=>⟨by show (0:Int)≤4; decide,rfl⟩,by kernel_rfl,?_⟩
  refine ⟨I c,fun _=>⟨by show (0:Int)≤4; decide,by show (cs.map I)[4]?=_; rw [List.getElem?_map,hc]; rfl⟩,?_⟩
  refine ⟨fun h=>?_,fun h=>?_⟩
  ·have hlt:c<0:=of_decide_eq_true h
   have e:cvE c=7:=by unfold cvE; rw [if_pos hlt]
   rw [e]
   exact ⟨_,_,⟨rfl,rfl⟩,by kernel_rfl,⟨rf,rf,tv⟩,⟨rf,rf,rf,rf,rfl,tv⟩,⟨rfl,rfl⟩,tv⟩
  ·have hge:¬ c<0:=of_decide_eq_false h
   have e:cvE c=9:=by unfold cvE; rw [if_neg hge]
   rw [e]
   have ht:(typeOf (itemsL b2 w2) c).isSome=false:=by
    cases hq:(typeOf (itemsL b2 w2) c).isSome with
    | false=>rfl
    | true=>exact absurd (ty_four hq) hc4
   have hto:=typeOf_spec (itemsL b2 w2) (cvM w w2 m 0) c
   rw [ht] at hto
   refine .inr ⟨[5,4],[.ptr 0 0,.dv (I c)],stK (itemsL b2 w2) (cvM w w2 m 0),0,_,_,hto,by kernel_rfl,by kernel_rfl,⟨rfl,rf,tv⟩,⟨⟨rf,rf,rf,rf,rfl,tv⟩,⟨rfl,rfl⟩,tv⟩,?_⟩
   refine ⟨fun _=>?_,fun h=>by cases h⟩
   exact ⟨_,_,⟨rfl,rfl⟩,by kernel_rfl,⟨rf,rf,tv⟩,⟨rf,rf,rf,rf,rfl,tv⟩,⟨rfl,rfl⟩,tv⟩
 ·exfalso
  have h':¬ (0:Int)<((keysOf m).length:Int):=of_decide_eq_false h
  omega
end Go.Proofs.YtccialgeakmmpaaGreatDoor
namespace Go.Proofs.YtccialgeakmmpaaGreatDoor
open Go.TM
variable [KObj]
set_option maxRecDepth 100000
set_option maxHeartbeats 4000000 in
theorem rconv_bad (its:List Item) (L:OM) {b w:Int} (hb:0≤b∧b≤2) (hw:1≤w∧w≤40) (cs:List Int):CSpec Tryz.prog 10 [.ptr 0 0,ofD (cat6D (I b) (I w)),.dv (Ints cs)] 2 (rfK its L 0) 8 [.dv .nilp,.dv (I 6)] (rfK its L 0):=by
 refine cspec_of tab_ok mixed (calls_snd _) (range_snd _) Tryz.func10 rfl rfl (by kernel_rfl) ?_
 have hv:CallOk Tryz.prog 22 [cat6D (I b) (I w)] [I 6]:=⟨[cat6D (.ivl .i64 0 2) (.ivl .i64 1 40)],⟨cat6_le hb hw,tv⟩,rvalid6_spec⟩
 refine .inl ⟨_,fun _=>hv,?_⟩
 refine ⟨fun _=>?_,fun h=>by cases h⟩
 exact ⟨_,_,⟨rfl,rfl⟩,by kernel_rfl,⟨rf,rf,tv⟩,⟨rf,rf,rf,rf,rfl,tv⟩,⟨rfl,rfl⟩,tv⟩
theorem rvalid_ok {b w:Int} (hb:0≤b∧b≤2) (hw:1≤w∧w≤40):CallOk Tryz.prog 22 [catD (I b) (I w)] [I 0]:=⟨[catD (.ivl .i64 0 2) (.ivl .i64 1 40)],⟨cat_le hb hw,tv⟩,rvalid_spec⟩
set_option maxHeartbeats 4000000 in
theorem rconv_len (its:List Item) (L:OM) (hits:its.length=5) {b w:Int} (hb:0≤b∧b≤2) (hw:1≤w∧w≤40) (cs:List Int) (hc:cs.length ≠ 5):CSpec Tryz.prog 10 [.ptr 0 0,ofD (catD (I b) (I w)),.dv (Ints cs)] 2 (rfK its L 0) 8 [.dv .nilp,.dv (I 1)] (rfK its L 0):=by
 refine cspec_of tab_ok mixed (calls_snd _) (range_snd _) Tryz.func10 rfl rfl (by kernel_rfl) ?_
 refine .inl ⟨_,fun _=>rvalid_ok hb hw,?_⟩
 refine ⟨fun h=>(by cases h),fun _=>?_⟩
 refine ⟨fun _=>?_,fun h=>?_⟩
 ·exact ⟨_,_,⟨rfl,rfl⟩,by kernel_rfl,⟨rf,rf,tv⟩,⟨rf,rf,rf,rf,rfl,tv⟩,⟨rfl,rfl⟩,tv⟩
 ·exfalso
  have h':(((cs.map I).length:Int) != ((its.map eItem).length:Int))=false:=h
  simp [hits] at h'
  omega
def rcvInv (its:List Item) (L:OM) (b2:Int) (w w2:Nat) (cs:List Int) (i:Nat):AState:=⟨5,[(0,.ptr 0 0),(2,.dv (Ints cs)),(9,.ptr 3 0),(10,.dv (I i))],
 rfK its L 0++[(3,.cells (agC (itemsL b2 w2) 4)),(4,.tree 0 0 (.osl 6 ((cvL w w2 L i).map eRo)))]⟩
theorem kind4 (b w:Int) (L:OM):CSpec Tryz.prog 23 [.ptr 0 0,.dv (I 4)] 2 (rfK (itemsL b w) L 0) 0 [ofD (eItem (it4 b w)),.dv (B true)] (rfK (itemsL b w) L 0):=by
 have h:=kind_spec (itemsL b w) L 4
 rw [show kI (itemsL b w) 4=it4 b w by unfold kI; rw [if_neg (by simp [itemsL])]; rfl] at h
 exact h
set_option maxHeartbeats 4000000 in
theorem rconv_ok (L:OM) (b0 b2:Int) (w w2:Nat) (hl:L.length≤12) (hn:NdK L) (hok:OkS (itemsL b0 w) L) (hit:IsT (itemsL b0 w) L) (hw0:1≤w∧w≤40) (hb:0≤b2∧b2≤2) (hw:1≤w2∧w2≤40) (cs:List Int) (hcl:cs.length=5) (hc:L ≠ []→cs[4]?=some 4) :
  CSpec Tryz.prog 10 [.ptr 0 0,ofD (catD (I b2) (I w2)),.dv (Ints cs)] 2 (rfK (itemsL b0 w) L 0) 8 [.ptr 3 0,.dv (I 0)] (rfK (itemsL b0 w) L 0++[(3,.cells (agC (itemsL b2 w2) 4)),(4,.tree 0 0 (.osl 6 ((cvL w w2 L L.length).map eRo)))]):=by
 refine cspec_of tab_ok mixed (calls_snd _) (range_snd _) Tryz.func10 rfl rfl (by kernel_rfl) ?_
 refine .inl ⟨_,fun _=>rvalid_ok hb (by omega),?_⟩
 refine ⟨fun h=>(by cases h),fun _=>?_⟩
 refine ⟨fun h=>?_,fun _=>?_⟩
 ·exfalso
  have h':(((cs.map I).length:Int) != (((itemsL b0 w).map eItem).length:Int))=true:=h
  simp [hcl,itemsL] at h'
 refine ⟨Nat,rcvInv (itemsL b0 w) L b2 w w2 cs,fun i=>i≤L.length,fun i=>L.length - i,0,fun _=>rfl,⟨⟨rfl,rf,rfl,rf,tv⟩,⟨⟨rf,rf,rf,rf,rfl,tv⟩,⟨rfl,rfl⟩,⟨rf,rf,rf,rf,⟨rfl,rfl,rfl,rfl,6,rfl⟩,tv⟩,⟨rfl,rfl,6,rfl⟩,tv⟩,rfl,rfl⟩,Nat.zero_le _,?_⟩
 intro i hi0
 refine ⟨fun h=>?_,fun h=>?_⟩
 ·have hlt:i<L.length:=by simpa using h
  clear h
  have hel:(L.map eRo)[(i:Int).toNat]?=some (eRo L[i]):=by simp [hlt]
  have hstep:=cvL_step (w:=w) (w2:=w2) hlt
  have hne:L ≠ []:=by rintro rfl; simp at hlt
  have hc4:=hc hne
  have hx:oget L L[i].1=some L[i].2:=mem_oget hn (List.getElem_mem hlt)
  have hcll:(cvL w w2 L i).length≤L.length:=by unfold cvL; rw [List.length_map,List.length_take]; omega
  have h1:=hok _ _ hx
  have h4:=ty_four (hit _ _ hx)
  refine ⟨fun _=>⟨by omega,by simp; omega⟩,eRo L[i],fun _=>hel,?_⟩
  generalize L[i]=p at hel hstep hx h1 h4
  obtain ⟨⟨k1,k2⟩,⟨xi,xo,xw,xb⟩⟩:=p
  dsimp only at h4
  subst h4
  have hwr:xw≤w:=h1.w1
  have hw1:0≤xw:=h1.w0
  obtain ⟨n,rfl⟩:=Int.eq_ofNat_of_zero_le hw1
  have hnw:n≤w:=by omega
  refine ⟨I 4,fun _=>⟨by show (0:Int)≤4; decide,by show (cs.map I)[4]?=_; rw [List.getElem?_map,hc4]; rfl⟩,?_⟩
  refine ⟨fun h=>(by cases h),fun _=>?_⟩
  refine .inr ⟨[3,4],[.ptr 0 0,.dv (I 4)],rfK (itemsL b2 w2) (cvL w w2 L i) 0,0,_,_,kind4 b2 w2 _,by kernel_rfl,by kernel_rfl,⟨rfl,rf,tv⟩,⟨⟨rf,rf,rf,rf,rfl,tv⟩,⟨rfl,rfl⟩,tv⟩,?_⟩
  refine ⟨fun h=>(by cases h),fun _=>?_⟩
  have hm:n * w2≤40 * 40:=Nat.mul_le_mul (by omega) (by omega)
  have hmi:(n:Int) * (w2:Int)=((n * w2:Nat):Int):=by simp
  have hdv:((n:Int) * (w2:Int)).tdiv (w:Int)=((n * w2 / w:Nat):Int):=by rw [hmi,←Int.ofNat_tdiv]
  have hq:n * w2 / w≤w2:=cvW_le (by omega) hnw
  refine ⟨fun _=>⟨by show _≤(n:Int) * (w2:Int); rw [hmi]; omega,by show (n:Int) * (w2:Int)≤_; rw [hmi]; omega⟩,?_⟩
  refine ⟨eItem (it4 b0 w),fun _=>⟨by show (0:Int)≤4; decide,rfl⟩,?_⟩
  refine ⟨fun _=>(by show ¬ (w:Int)=0; omega),fun _=>⟨by show _≤((n:Int) * (w2:Int)).tdiv (w:Int); rw [hdv]; exact Int.le_trans (by decide) (Int.natCast_nonneg _),by show ((n:Int) * (w2:Int)).tdiv (w:Int)≤_; rw [hdv]; exact Int.le_trans (Int.ofNat_le.2 hq) (by omega)⟩,by kernel_rfl,?_⟩
  refine .inl ⟨[eRo ((k1,k2),cvO w w2 ⟨4,xo,n,xb⟩)],rfl,⟨rf,rf,rf,rf,le_int hdv,rf,tv⟩,(fun x hx=>by rcases List.mem_singleton.1 hx with rfl; rfl),?_⟩
  refine .inr ⟨[eRo ((k1,k2),cvO w w2 ⟨4,xo,n,xb⟩)],ELes.refl _,(by rw [by48]; simp; omega),(by simp; omega),?_⟩
  refine ⟨by kernel_rfl,?_⟩
  refine ⟨fun _=>⟨by omega,by omega⟩,i+1,⟨⟨rfl,rf,rfl,le_int (by simp),tv⟩,⟨⟨rf,rf,rf,rf,rfl,tv⟩,⟨rfl,rfl⟩,⟨rf,rf,rf,rf,rfl,tv⟩,⟨rfl,?_⟩,tv⟩,rfl,rfl⟩,by show i+1≤L.length; omega,by show L.length - (i+1)<L.length - i; omega⟩
  show DV.osl _ _=DV.osl _ _
  rw [←hstep,List.map_append]
  rfl
 ·have h':¬ i<L.length:=by simpa using h
  have he:i=L.length:=by omega
  subst he
  exact ⟨_,_,⟨rfl,rfl⟩,by kernel_rfl,⟨rfl,rf,tv⟩,⟨rf,rf,rf,rf,rfl,tv⟩,⟨rfl,rfl⟩,⟨rf,rf,rf,rf,rfl,tv⟩,⟨rfl,rfl⟩,tv⟩
set_option maxHeartbeats 4000000 in
theorem rconv_no (L:OM) (b0 b2:Int) (w w2:Nat) (hl:L.length≤12) (hn:NdK L) (hit:IsT (itemsL b0 w) L) (hb:0≤b2∧b2≤2) (hw:1≤w2∧w2≤40) (cs:List Int) (hcl:cs.length=5) (hne:L ≠ []) (c:Int) (hc:cs[4]?=some c) (hc4:c ≠ 4) :
  CSpec Tryz.prog 10 [.ptr 0 0,ofD (catD (I b2) (I w2)),.dv (Ints cs)] 2 (rfK (itemsL b0 w) L 0) 8 [.dv .nilp,.dv (I (cvE c))] (rfK (itemsL b0 w) L 0):=by
 refine cspec_of tab_ok mixed (calls_snd _) (range_snd _) Tryz.func10 rfl rfl (by kernel_rfl) ?_
 refine .inl ⟨_,fun _=>rvalid_ok hb (by omega),?_⟩
 refine ⟨fun h=>(by cases h),fun _=>?_⟩
 refine ⟨fun h=>?_,fun _=>?_⟩
 ·exfalso
  have h':(((cs.map I).length:Int) != (((itemsL b0 w).map eItem).length:Int))=true:=h
  simp [hcl,itemsL] at h'
 refine ⟨Unit,fun _=>rcvInv (itemsL b0 w) L b2 w w2 cs 0,fun _=>True,fun _=>0,(),fun _=>rfl,⟨⟨rfl,rf,rfl,rf,tv⟩,⟨⟨rf,rf,rf,rf,rfl,tv⟩,⟨rfl,rfl⟩,⟨rf,rf,rf,rf,⟨rfl,rfl,rfl,rfl,6,rfl⟩,tv⟩,⟨rfl,rfl,6,rfl⟩,tv⟩,rfl,rfl⟩,tv,?_⟩
 intro _ _
 have hlt:0<L.length:=List.length_pos_iff.2 hne
 refine ⟨fun _=>?_,fun h=>?_⟩
 ·have hel:(L.map eRo)[(0:Int).toNat]?=some (eRo L[0]):=by simp [hlt]
  have hx:oget L L[0].1=some L[0].2:=mem_oget hn (List.getElem_mem hlt)
  have h4:=ty_four (hit _ _ hx)
  refine ⟨fun _=>⟨by decide,by simp; omega⟩,eRo L[0],fun _=>hel,?_⟩
  generalize L[0]=p at hel hx h4
  obtain ⟨⟨k1,k2⟩,⟨xi,xo,xw,xb⟩⟩:=p
  dsimp only at h4
  subst h4
  refine ⟨I c,fun _=>⟨by show (0:Int)≤4; decide,by show (cs.map I)[4]?=_; rw [List.getElem?_map,hc]; rfl⟩,?_⟩
  refine ⟨fun h=>?_,fun h=>?_⟩
  ·have hlt:c<0:=of_decide_eq_true h
   have e:cvE c=7:=by unfold cvE; rw [if_pos hlt]
   rw [e]
   exact ⟨_,_,⟨rfl,rfl⟩,by kernel_rfl,⟨rf,rf,tv⟩,⟨rf,rf,rf,rf,rfl,tv⟩,⟨rfl,rfl⟩,tv⟩
  ·have hge:¬ c<0:=of_decide_eq_false h
   have e:cvE c=9:=by unfold cvE; rw [if_neg hge]
   rw [e]
   have ht:(typeOf (itemsL b2 w2) c).isSome=false:=by
    cases hq:(typeOf (itemsL b2 w2) c).isSome with
    | false=>rfl
    | true=>exact absurd (ty_four hq) hc4
   have hto:=kind_spec (itemsL b2 w2) (cvL w w2 L 0) c
   rw [ht] at hto
   refine .inr ⟨[3,4],[.ptr 0 0,.dv (I c)],rfK (itemsL b2 w2) (cvL w w2 L 0) 0,0,_,_,hto,by kernel_rfl,by kernel_rfl,⟨rfl,rf,tv⟩,⟨⟨rf,rf,rf,rf,rfl,tv⟩,⟨rfl,rfl⟩,tv⟩,?_⟩
   refine ⟨fun _=>?_,fun h=>by cases h⟩
   exact ⟨_,_,⟨rfl,rfl⟩,by kernel_rfl,⟨rf,rf,tv⟩,⟨rf,rf,rf,rf,rfl,tv⟩,⟨rfl,rfl⟩,tv⟩
 ·exfalso
  have h':¬ 0<L.length:=by simpa using h
  omega
end Go.Proofs.YtccialgeakmmpaaGreatDoor
