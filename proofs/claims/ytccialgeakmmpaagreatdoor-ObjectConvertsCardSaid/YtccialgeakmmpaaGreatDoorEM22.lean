import Derived.Test.YtccialgeakmmpaaGreatDoorEM21
set_option linter.unusedVariables false
set_option linter.unusedSimpArgs false
set_option linter.unusedSectionVars false
namespace Go.Proofs.YtccialgeakmmpaaGreatDoor
open Go.TM
theorem oget_put {k q:Ky} {x:Ob}:∀{m:OM},oget (oput m k x) q=if k=q then some x else oget m q
 | []=>by simp only [oput,oget]
 | p::r=>by
  simp only [oput]
  by_cases e:p.1=k
  ·rw [if_pos e]
   simp only [oget]
   by_cases e2:k=q
   ·rw [if_pos e2,if_pos e2]
   ·rw [if_neg e2,if_neg e2,if_neg (fun h=>e2 (e.symm.trans h))]
  ·rw [if_neg e]
   simp only [oget]
   by_cases e2:p.1=q
   ·rw [if_pos e2,if_pos e2,if_neg (fun h=>e (e2.trans h.symm))]
   ·rw [if_neg e2,if_neg e2,oget_put (m:=r)]
theorem oget_none {k:Ky} {m:OM} (h:k ∉ m.map Prod.fst):oget m k=none:=by
 cases hq:oget m k with
 | none=>rfl
 | some x=>exact absurd (List.mem_map.2 ⟨_,oget_mem hq,rfl⟩) h
theorem oget_del {k q:Ky}:∀{m:OM},NdK m→oget (odel m k) q=if k=q then none else oget m q
 | [],_=>by simp [odel,oget]
 | p::r,hn=>by
  have hn2:=List.nodup_cons.1 hn
  simp only [odel]
  by_cases e:p.1=k
  ·rw [if_pos e]
   by_cases e2:k=q
   ·rw [if_pos e2]
    exact oget_none (by rw [←e2,←e]; exact hn2.1)
   ·rw [if_neg e2]
    simp only [oget]
    rw [if_neg (fun h=>e2 (e.symm.trans h))]
  ·rw [if_neg e]
   simp only [oget]
   by_cases e2:p.1=q
   ·rw [if_pos e2,if_pos e2,if_neg (fun h=>e (e2.trans h.symm))]
   ·rw [if_neg e2,if_neg e2,oget_del (m:=r) hn2.2]
structure Fit (its:List Item) (m:OM):Prop where
 ok:OkS its m
 nd:NdK m
 bd:∀q,q∈m.map Prod.fst→0≤q.1∧q.1<3∧0≤q.2∧q.2<2
def keysL:List Ky:=[(0,0),(0,1),(1,0),(1,1),(2,0),(2,1)]
theorem keysL_mem {q:Ky} (h:0≤q.1∧q.1<3∧0≤q.2∧q.2<2):q∈keysL:=by
 obtain ⟨a,b⟩:=q
 simp only at h
 have ha:a=0 ∨ a=1 ∨ a=2:=by omega
 have hb:b=0 ∨ b=1:=by omega
 rcases ha with rfl | rfl | rfl <;> rcases hb with rfl | rfl <;> simp [keysL]
theorem nodup_len:∀{l r:List Ky},l.Nodup→(∀x,x∈l→x∈r)→l.length≤r.length
 | [],_,_,_=>by simp
 | x::l,r,hn,hs=>by
  have hn2:=List.nodup_cons.1 hn
  have hx:=hs x (by simp)
  have ih:=nodup_len (l:=l) (r:=r.erase x) hn2.2 fun y hy=>(List.mem_erase_of_ne (fun e=>hn2.1 (by rw [←e]; exact hy))).2 (hs y (by simp [hy]))
  rw [List.length_erase_of_mem hx] at ih
  have:0<r.length:=List.length_pos_of_mem hx
  simp only [List.length_cons]
  omega
theorem Fit.len {its:List Item} {m:OM} (h:Fit its m):m.length≤6:=by
 have:=nodup_len (r:=keysL) h.nd (fun q hq=>keysL_mem (h.bd q hq))
 simpa [keysL] using this
theorem fit_nil (its:List Item):Fit its []:=⟨fun k x h=>by simp [oget] at h,by simp [NdK],fun q h=>by simp at h⟩
def TyOk (its:List Item):Prop:=∀i,i<its.length→0≤(its.getD i Item.zero).wear∧(its.getD i Item.zero).wear≤1048576
theorem Fit.put {its:List Item} {m:OM} (h:Fit its m) {k:Ky} {x:Ob} (hx:OkO its x) (hk:k∈m.map Prod.fst ∨ 0≤k.1∧k.1<3∧0≤k.2∧k.2<2):Fit its (oput m k x) where
 ok q y hy:=by
  rw [oget_put] at hy
  split at hy
  ·injection hy with hy; subst hy; exact hx
  ·exact h.ok q y hy
 nd:=oput_nd h.nd
 bd q hq:=by
  rcases (oput_keys q).1 hq with e | e
  ·subst e; exact hk.elim (h.bd q) id
  ·exact h.bd q e
theorem Fit.del {its:List Item} {m:OM} (h:Fit its m) (k:Ky):Fit its (odel m k) where
 ok q y hy:=by
  rw [oget_del h.nd] at hy
  split at hy
  ·cases hy
  ·exact h.ok q y hy
 nd:=odel_nd h.nd
 bd q hq:=h.bd q ((odel_sub.map _).subset hq)
theorem typeOf_some {its:List Item} {i:Int} {t:Item} (h:typeOf its i=some t):0≤i∧i<its.length∧its.getD i.toNat Item.zero=t:=by
 unfold typeOf at h
 split at h
 ·cases h
 ·rename_i h0
  split at h
  ·rename_i x hx
   split at h
   ·injection h with h; subst h
    have:=(List.getElem?_eq_some_iff.1 hx).1
    exact ⟨by omega,by omega,by rw [List.getD_eq_getElem?_getD,hx]; rfl⟩
   ·cases h
  ·cases h
theorem putE_ok {its:List Item} {m:OM} {k:Ky} {x:Ob} (ht:TyOk its) (h:putE its m k x=0):OkO its x∧oget m k=none∧0≤k.1∧0≤k.2:=by
 unfold putE at h
 split at h
 ·simp at h
 ·rename_i hb
  split at h
  ·simp at h
  ·rename_i t hty
   split at h
   ·simp at h
   ·rename_i hw
    split at h
    ·simp at h
    ·rename_i ho
     obtain ⟨h1,h2,h3⟩:=typeOf_some hty
     have h4:=ht x.item.toNat (by omega)
     refine ⟨⟨h1,h2,by omega,by rw [h3]; omega,h4.2⟩,?_,by omega,by omega⟩
     cases hq:oget m k with
     | none=>rfl
     | some y=>rw [hq] at ho; simp at ho
theorem fit_putM {its:List Item} {m:OM} (h:Fit its m) (ht:TyOk its) {k:Ky} {x:Ob} (hk:k.1<3∧k.2<2):Fit its (putM its m k x):=by
 unfold putM
 split
 ·rename_i e
  obtain ⟨h1,_,h2,h3⟩:=putE_ok ht e
  exact h.put h1 (.inr ⟨h2,hk.1,h3,hk.2⟩)
 ·exact h
theorem mem_keys {m:OM} {k:Ky} {x:Ob} (h:oget m k=some x):k∈m.map Prod.fst:=List.mem_map.2 ⟨_,oget_mem h,rfl⟩
variable [KObj]
theorem ownR_cases (its:List Item) (m:OM) (k:Ky) (ow:Int):((ownR its m k ow).2.2=0∧∃x,oget m k=some x∧x.owner=ow∧ownR its m k ow=(x,its.getD x.item.toNat Item.zero,0)) ∨ (ownR its m k ow).2.2 ≠ 0:=by
 by_cases h:(ownR its m k ow).2.2=0
 ·exact .inl ⟨h,ownR_ok h⟩
 ·exact .inr h
theorem useE_ok {its:List Item} {m:OM} {k:Ky} {ac lv w:Int} (h:useE its m k ac lv w=0):∃x,oget m k=some x∧ownR its m k ac=(x,its.getD x.item.toNat Item.zero,0)∧0≤w∧w≤x.wear:=by
 unfold useE at h
 split at h
 ·rename_i h1; exact absurd h h1
 ·rename_i h1
  obtain ⟨x,hx,_,he⟩:=ownR_ok (its:=its) (m:=m) (k:=k) (ow:=ac) (by simpa using h1)
  rw [he] at h
  simp only at h
  split at h
  ·simp at h
  ·split at h
   ·simp at h
   ·split at h
    ·simp at h
    ·exact ⟨x,hx,he,by omega,by omega⟩
theorem repE_ok {its:List Item} {m:OM} {k:Ky} {ac w:Int} (h:repE its m k ac w=0):∃x,oget m k=some x∧ownR its m k ac=(x,its.getD x.item.toNat Item.zero,0)∧0≤w:=by
 unfold repE at h
 split at h
 ·rename_i h1; exact absurd h h1
 ·rename_i h1
  obtain ⟨x,hx,_,he⟩:=ownR_ok (its:=its) (m:=m) (k:=k) (ow:=ac) (by simpa using h1)
  split at h
  ·simp at h
  ·exact ⟨x,hx,he,by omega⟩
theorem givE_ok {its:List Item} {m:OM} {k:Ky} {fr to:Int} (h:givE its m k fr to=0):∃x,oget m k=some x∧ownR its m k fr=(x,its.getD x.item.toNat Item.zero,0)∧x.bound=false:=by
 unfold givE at h
 split at h
 ·rename_i h1; exact absurd h h1
 ·rename_i h1
  obtain ⟨x,hx,_,he⟩:=ownR_ok (its:=its) (m:=m) (k:=k) (ow:=fr) (by simpa using h1)
  rw [he] at h
  simp only at h
  split at h
  ·simp at h
  ·split at h
   ·simp at h
   ·rename_i h2
    exact ⟨x,hx,he,by simpa using h2⟩
theorem fit_useM {its:List Item} {m:OM} (h:Fit its m) (k:Ky) (ac lv w:Int):Fit its (useM its m k ac lv w):=by
 unfold useM
 split
 ·rename_i e
  obtain ⟨x,hx,he,h0,h1⟩:=useE_ok e
  have hk:=h.ok k x hx
  rw [he]
  exact h.put ⟨hk.lo,hk.hi,by show 0≤x.wear - w; omega,by have:=hk.w1; show x.wear - w≤(its.getD x.item.toNat Item.zero).wear; omega,hk.w2⟩ (.inl (mem_keys hx))
 ·exact h
theorem fit_repM {its:List Item} {m:OM} (h:Fit its m) (k:Ky) (ac w:Int):Fit its (repM its m k ac w):=by
 unfold repM
 split
 ·rename_i e
  obtain ⟨x,hx,he,h0⟩:=repE_ok e
  have hk:=h.ok k x hx
  have h1:=hk.w0
  have h2:=hk.w1
  rw [he]
  refine h.put ⟨hk.lo,hk.hi,?_,?_,hk.w2⟩ (.inl (mem_keys hx))
  ·simp only [repX]; split <;> omega
  ·show (repX x (its.getD x.item.toNat Item.zero) w).wear≤(its.getD x.item.toNat Item.zero).wear; simp only [repX]; split <;> omega
 ·exact h
theorem fit_givM {its:List Item} {m:OM} (h:Fit its m) (k:Ky) (fr to:Int):Fit its (givM its m k fr to):=by
 unfold givM
 split
 ·rename_i e
  obtain ⟨x,hx,he,_⟩:=givE_ok e
  have hk:=h.ok k x hx
  rw [he]
  exact h.put ⟨hk.lo,hk.hi,hk.w0,hk.w1,hk.w2⟩ (.inl (mem_keys hx))
 ·exact h
theorem fit_doM {its:List Item} {m:OM} (h:Fit its m) (ht:TyOk its) {o:Op} (ho:(opK o).1<3∧(opK o).2<2):Fit its (doM its m o):=by
 unfold doM
 split
 ·exact fit_putM h ht ho
 ·split
  ·exact fit_givM h _ _ _
  ·split
   ·exact fit_useM h _ _ _ _
   ·split
    ·exact fit_repM h _ _ _
    ·split
     ·exact h.del _
     ·exact fit_putM h ht ho
theorem opAt_key (l:List Int) (i:Int):(opK (opAt l i)).1<3∧(opK (opAt l i)).2<2:=by
 have h1:=pick_bd l (6 * i+3) 3 (by omega)
 have h2:=pick_bd l (6 * i+3) 2 (by omega)
 refine ⟨h1.2,?_⟩
 simp only [opK,opAt]
 split <;> omega
theorem opAt_a (l:List Int) (i:Int):0≤(opAt l i).a∧(opAt l i).a≤1073741825:=by
 have h1:=pick_bd l (6 * i+1) 5 (by omega)
 simp only [opAt]
 split <;> omega
theorem opsL_at {l:List Int} {i:Nat} {o:Op} (h:(opsL l)[i]?=some o):o=opAt l i:=by
 have key:∀(k i:Nat) (o:Op),(opsN l k)[i]?=some o→o=opAt l i:=by
  intro k
  induction k with
  | zero=>intro i o h; simp [opsN] at h
  | succ k ih =>
   intro i o h
   simp only [opsN] at h
   rcases Nat.lt_or_ge i k with hlt | hge
   ·rw [List.getElem?_append_left (by rw [opsN_len]; exact hlt)] at h
    exact ih i o h
   ·rw [List.getElem?_append_right (by rw [opsN_len]; exact hge),opsN_len] at h
    have:i=k:=by
     have:=(List.getElem?_eq_some_iff.1 h).1
     simp at this; omega
    subst this
    simpa using h.symm
 exact key _ _ _ h
theorem itemsL_ok {b w:Int} (hw:0≤w∧w≤40):TyOk (itemsL b w):=by
 intro i hi
 have hi:i<5:=hi
 match i,hi with
 | 0,_=>exact ⟨Int.le_refl 0,by show (0:Int)≤1048576; decide⟩
 | 1,_=>exact ⟨Int.le_refl 0,by show (0:Int)≤1048576; decide⟩
 | 2,_=>exact ⟨Int.le_refl 0,by show (0:Int)≤1048576; decide⟩
 | 3,_=>exact ⟨Int.le_refl 0,by show (0:Int)≤1048576; decide⟩
 | 4,_=>exact ⟨by show 0≤w; omega,by show w≤1048576; omega⟩
end Go.Proofs.YtccialgeakmmpaaGreatDoor
namespace Go.Proofs.YtccialgeakmmpaaGreatDoor
open Go.TM
variable [KObj]
set_option maxRecDepth 100000
theorem set_map {L:OM} {i:Nat} {p:Ky × Ob}:(L.map eRo).set i (eRo p)=(L.set i p).map eRo:=(List.map_set ..).symm
set_option maxHeartbeats 4000000 in
theorem rgiv_spec (its:List Item) (L:OM) (hl:L.length≤1000000) (k:Ky) (fr to:Int) (hm:OkM its L):CSpec Tryz.prog 36 [.ptr 0 0,.dv (I k.1),.dv (I k.2),.dv (I fr),.dv (I to)] 2 (rfK its L 0) 0 [.dv (I (givE its L k fr to))] (rfK its (givM its L k fr to) 0):=by
 refine cspec_of tab_ok mixed (calls_snd _) (range_snd _) Tryz.func36 rfl rfl (by kernel_rfl) ?_
 have ho:=own_spec its L hl k fr
 rcases ownR_cases its L k fr with ⟨h0,x,hx,how,hr⟩ | h0
 ·obtain ⟨hlt,hat⟩:=fidx_some hx
  have e1:findI L k=(fidx L k:Nat):=by unfold findI; rw [if_pos hlt]
  have hps:=oput_set L k (givX x (its.getD x.item.toNat Item.zero) to) hlt
  rw [e1,hr] at ho
  generalize hi:fidx L k=i at ho hlt hat hps
  refine .inr ⟨[0,1],[.ptr 0 0,.dv (I k.1),.dv (I k.2),.dv (I fr)],rfK its L 0,0,_,_,ho,by kernel_rfl,by kernel_rfl,⟨rfl,rf,rf,rf,tv⟩,⟨⟨rf,rf,rf,rf,rfl,tv⟩,⟨rfl,rfl⟩,tv⟩,?_⟩
  have hel:(L.map eRo)[(i:Int).toNat]?=some (eRo (k,x)):=by simp [hat]
  refine ⟨fun h=>(by cases h),fun _=>?_⟩
  repeat first | refine ⟨id,?_⟩ | refine ⟨fun _ h=>bw_f h,?_⟩ | refine ⟨fun _ h=>bw_t h,?_⟩ | refine ⟨fun h=>⟨h,fun h2=>bw_and h h2⟩,?_⟩ | refine ⟨fun h=>⟨h,fun h2=>bw_andf h h2⟩,?_⟩
  refine ⟨fun h=>?_,fun h=>?_⟩
  ·have e:givE its L k fr to=1:=by
    unfold givE
    rw [hr,if_neg (by simp),if_pos]
    have h':(bif (bif decide (to<1) then true else decide (1073741824<to)) then true else to == fr)=true:=h
    unfold isOwner
    by_cases h1:to<1
    ·left; simp; omega
    ·by_cases h2:1073741824<to
     ·left; simp; omega
     ·right; simp [h1,h2] at h'; exact h'
   rw [givM,e]
   exact ⟨_,_,⟨rfl,rfl⟩,by kernel_rfl,⟨rf,tv⟩,⟨rf,rf,rf,rf,rfl,tv⟩,⟨rfl,rfl⟩,tv⟩
  ·have hok:¬ (isOwner to=false ∨ to=fr):=by
    have h':(bif (bif decide (to<1) then true else decide (1073741824<to)) then true else to == fr)=false:=h
    unfold isOwner
    by_cases h1:to<1
    ·simp [h1] at h'
    ·by_cases h2:1073741824<to
     ·simp [h1,h2] at h'
     ·simp [h1,h2] at h'
      rintro (h3 | h3)
      ·simp at h3; omega
      ·exact h' h3
   refine ⟨fun _=>⟨by omega,by simp; omega⟩,eRo (k,x),fun _=>hel,?_⟩
   refine ⟨fun h=>?_,fun h=>?_⟩
   ·have hb:x.bound=true:=h
    have e:givE its L k fr to=11:=by
     unfold givE
     rw [hr,if_neg (by simp),if_neg hok,if_pos hb]
    rw [givM,e]
    exact ⟨_,_,⟨rfl,rfl⟩,by kernel_rfl,⟨rf,tv⟩,⟨rf,rf,rf,rf,rfl,tv⟩,⟨rfl,rfl⟩,tv⟩
   ·have hb:x.bound=false:=h
    have e:givE its L k fr to=0:=by
     unfold givE
     rw [hr,if_neg (by simp),if_neg hok,if_neg (by simp [hb])]
    have hit:=hm k x hx
    refine ⟨fun _=>⟨by omega,by simp; omega⟩,[I to],⟨rf,tv⟩,eRo (k,x),hel,?_⟩
    have hel2:((L.map eRo).set (i:Int).toNat (eRo (k,{ x with owner:=to })))[(i:Int).toNat]?=some (eRo (k,{ x with owner:=to })):=by
     rw [List.getElem?_set_self]; simp; omega
    refine ⟨fun _=>⟨by omega,by simp; omega⟩,eRo (k,{ x with owner:=to }),fun _=>hel2,?_⟩
    refine ⟨eItem (its.getD x.item.toNat Item.zero),fun _=>⟨hit.1,item_at (i:=x.item) (by omega) (by omega)⟩,?_⟩
    refine ⟨fun _=>⟨by omega,by simp; omega⟩,[B (decide ((its.getD x.item.toNat Item.zero).bind=1))],⟨DV.Le.of_eq (congrArg B (by cases hq:decide ((its.getD x.item.toNat Item.zero).bind=1) <;> simp_all)),tv⟩,eRo (k,{ x with owner:=to }),hel2,?_⟩
    refine ⟨by kernel_rfl,?_⟩
    rw [givM,e,if_pos rfl,hr]
    refine ⟨_,_,⟨rfl,rfl⟩,by kernel_rfl,⟨rf,tv⟩,⟨rf,rf,rf,rf,rfl,tv⟩,⟨rfl,?_⟩,tv⟩
    rw [hps,←set_map]
    show DV.osl 6 _=DV.osl 6 _
    congr 1
    rw [List.set_set]
    rfl
 ·have e:givE its L k fr to=(ownR its L k fr).2.2:=by unfold givE; rw [if_pos h0]
  rw [givM,e,if_neg h0]
  refine .inr ⟨[0,1],[.ptr 0 0,.dv (I k.1),.dv (I k.2),.dv (I fr)],rfK its L 0,0,_,_,ho,by kernel_rfl,by kernel_rfl,⟨rfl,rf,rf,rf,tv⟩,⟨⟨rf,rf,rf,rf,rfl,tv⟩,⟨rfl,rfl⟩,tv⟩,?_⟩
  refine ⟨fun _=>?_,fun h=>?_⟩
  ·exact ⟨_,_,⟨rfl,rfl⟩,by kernel_rfl,⟨rf,tv⟩,⟨rf,rf,rf,rf,rfl,tv⟩,⟨rfl,rfl⟩,tv⟩
  ·exact absurd (by simpa using h) h0
theorem rep_ok {its:List Item} {L:OM} {k:Ky} {ac w:Int} {x:Ob} (hr:ownR its L k ac=(x,its.getD x.item.toNat Item.zero,0)):repE its L k ac w=if w<0 ∨ 1048576<w then 1 else 0:=by
 unfold repE; rw [hr,if_neg (by simp)]
theorem use_ok {its:List Item} {L:OM} {k:Ky} {ac lv w:Int} {x:Ob} (hr:ownR its L k ac=(x,its.getD x.item.toNat Item.zero,0)):useE its L k ac lv w=if w<0 ∨ 1048576<w then 1 else if lv<(its.getD x.item.toNat Item.zero).lev then 12 else if x.wear<w then 10 else 0:=by
 unfold useE; rw [hr,if_neg (by simp)]
set_option maxHeartbeats 4000000 in
theorem rrep_spec (its:List Item) (L:OM) (hl:L.length≤1000000) (k:Ky) (ac w:Int) (hm:OkS its L):CSpec Tryz.prog 38 [.ptr 0 0,.dv (I k.1),.dv (I k.2),.dv (I ac),.dv (I w)] 2 (rfK its L 0) 0 [.dv (I (repE its L k ac w))] (rfK its (repM its L k ac w) 0):=by
 refine cspec_of tab_ok mixed (calls_snd _) (range_snd _) Tryz.func38 rfl rfl (by kernel_rfl) ?_
 have ho:=own_spec its L hl k ac
 rcases ownR_cases its L k ac with ⟨h0,x,hx,how,hr⟩ | h0
 ·obtain ⟨hlt,hat⟩:=fidx_some hx
  have e1:findI L k=(fidx L k:Nat):=by unfold findI; rw [if_pos hlt]
  have hps:=oput_set L k (repX x (its.getD x.item.toNat Item.zero) w) hlt
  have hE:=rep_ok (w:=w) hr
  have hok:=hm k x hx
  rw [e1,hr] at ho
  generalize hi:fidx L k=i at ho hlt hat hps
  refine .inr ⟨[0,1],[.ptr 0 0,.dv (I k.1),.dv (I k.2),.dv (I ac)],rfK its L 0,0,_,_,ho,by kernel_rfl,by kernel_rfl,⟨rfl,rf,rf,rf,tv⟩,⟨⟨rf,rf,rf,rf,rfl,tv⟩,⟨rfl,rfl⟩,tv⟩,?_⟩
  have hel:(L.map eRo)[(i:Int).toNat]?=some (eRo (k,x)):=by simp [hat]
  refine ⟨fun h=>(by cases h),fun _=>?_⟩
  repeat first | refine ⟨id,?_⟩ | refine ⟨fun _ h=>bw_f h,?_⟩ | refine ⟨fun _ h=>bw_t h,?_⟩ | refine ⟨fun h=>⟨h,fun h2=>bw_and h h2⟩,?_⟩ | refine ⟨fun h=>⟨h,fun h2=>bw_andf h h2⟩,?_⟩
  refine ⟨fun h=>?_,fun h=>?_⟩
  ·have hw:w<0 ∨ 1048576<w:=by
    by_cases h1:w<0
    ·exact .inl h1
    ·simp [h1] at h; exact .inr h
   have e:repE its L k ac w=1:=by rw [hE,if_pos hw]
   rw [repM,e]
   exact ⟨_,_,⟨rfl,rfl⟩,by kernel_rfl,⟨rf,tv⟩,⟨rf,rf,rf,rf,rfl,tv⟩,⟨rfl,rfl⟩,tv⟩
  ·have hw:¬ (w<0 ∨ 1048576<w):=by
    rintro (h1 | h1) <;> simp [h1] at h
   have e:repE its L k ac w=0:=by rw [hE,if_neg hw]
   have a1:=hok.w0
   have a2:=hok.w1
   have a3:=hok.w2
   refine ⟨fun _=>⟨by omega,by simp; omega⟩,eRo (k,x),fun _=>hel,fun _=>⟨by show _≤x.wear+w; omega,by show x.wear+w≤_; omega⟩,?_⟩
   refine ⟨fun _=>⟨by omega,by simp; omega⟩,eRo (k,x),fun _=>hel,eItem (its.getD x.item.toNat Item.zero),fun _=>⟨hok.lo,item_at (i:=x.item) (by have:=hok.lo; omega) (by have:=hok.hi; omega)⟩,?_⟩
   refine ⟨fun _=>⟨by omega,by simp; omega⟩,[I (repX x (its.getD x.item.toNat Item.zero) w).wear],⟨rf,tv⟩,eRo (k,x),hel,?_⟩
   refine ⟨by kernel_rfl,?_⟩
   rw [repM,e,if_pos rfl,hr]
   refine ⟨_,_,⟨rfl,rfl⟩,by kernel_rfl,⟨rf,tv⟩,⟨rf,rf,rf,rf,rfl,tv⟩,⟨rfl,?_⟩,tv⟩
   rw [hps,←set_map]
   rfl
 ·have e:repE its L k ac w=(ownR its L k ac).2.2:=by unfold repE; rw [if_pos h0]
  rw [repM,e,if_neg h0]
  refine .inr ⟨[0,1],[.ptr 0 0,.dv (I k.1),.dv (I k.2),.dv (I ac)],rfK its L 0,0,_,_,ho,by kernel_rfl,by kernel_rfl,⟨rfl,rf,rf,rf,tv⟩,⟨⟨rf,rf,rf,rf,rfl,tv⟩,⟨rfl,rfl⟩,tv⟩,?_⟩
  refine ⟨fun _=>?_,fun h=>?_⟩
  ·exact ⟨_,_,⟨rfl,rfl⟩,by kernel_rfl,⟨rf,tv⟩,⟨rf,rf,rf,rf,rfl,tv⟩,⟨rfl,rfl⟩,tv⟩
  ·exact absurd (by simpa using h) h0
set_option maxHeartbeats 4000000 in
theorem ruse_spec (its:List Item) (L:OM) (hl:L.length≤1000000) (k:Ky) (ac lv w:Int) (hm:OkS its L):CSpec Tryz.prog 37 [.ptr 0 0,.dv (I k.1),.dv (I k.2),.dv (I ac),.dv (I lv),.dv (I w)] 2 (rfK its L 0) 0 [.dv (I (useE its L k ac lv w))] (rfK its (useM its L k ac lv w) 0):=by
 refine cspec_of tab_ok mixed (calls_snd _) (range_snd _) Tryz.func37 rfl rfl (by kernel_rfl) ?_
 have ho:=own_spec its L hl k ac
 rcases ownR_cases its L k ac with ⟨h0,x,hx,how,hr⟩ | h0
 ·obtain ⟨hlt,hat⟩:=fidx_some hx
  have e1:findI L k=(fidx L k:Nat):=by unfold findI; rw [if_pos hlt]
  have hps:=oput_set L k (useX x (its.getD x.item.toNat Item.zero) w) hlt
  have hE:=use_ok (lv:=lv) (w:=w) hr
  have hok:=hm k x hx
  rw [e1,hr] at ho
  generalize hi:fidx L k=i at ho hlt hat hps
  refine .inr ⟨[0,1],[.ptr 0 0,.dv (I k.1),.dv (I k.2),.dv (I ac)],rfK its L 0,0,_,_,ho,by kernel_rfl,by kernel_rfl,⟨rfl,rf,rf,rf,tv⟩,⟨⟨rf,rf,rf,rf,rfl,tv⟩,⟨rfl,rfl⟩,tv⟩,?_⟩
  have hel:(L.map eRo)[(i:Int).toNat]?=some (eRo (k,x)):=by simp [hat]
  refine ⟨fun h=>(by cases h),fun _=>?_⟩
  repeat first | refine ⟨id,?_⟩ | refine ⟨fun _ h=>bw_f h,?_⟩ | refine ⟨fun _ h=>bw_t h,?_⟩ | refine ⟨fun h=>⟨h,fun h2=>bw_and h h2⟩,?_⟩ | refine ⟨fun h=>⟨h,fun h2=>bw_andf h h2⟩,?_⟩
  refine ⟨fun h=>?_,fun h=>?_⟩
  ·have hw:w<0 ∨ 1048576<w:=by
    by_cases h1:w<0
    ·exact .inl h1
    ·simp [h1] at h; exact .inr h
   have e:useE its L k ac lv w=1:=by rw [hE,if_pos hw]
   rw [useM,e]
   exact ⟨_,_,⟨rfl,rfl⟩,by kernel_rfl,⟨rf,tv⟩,⟨rf,rf,rf,rf,rfl,tv⟩,⟨rfl,rfl⟩,tv⟩
  ·have hw:¬ (w<0 ∨ 1048576<w):=by
    rintro (h1 | h1) <;> simp [h1] at h
   have a1:=hok.w0
   have a2:=hok.w1
   have a3:=hok.w2
   rw [if_neg hw] at hE
   refine ⟨fun _=>⟨by omega,by simp; omega⟩,eRo (k,x),fun _=>hel,eItem (its.getD x.item.toNat Item.zero),fun _=>⟨hok.lo,item_at (i:=x.item) (by have:=hok.lo; omega) (by have:=hok.hi; omega)⟩,?_⟩
   refine ⟨by kernel_rfl,fun h1=>?_,fun h1=>?_⟩
   ·have h1:lv<(its.getD x.item.toNat Item.zero).lev:=of_decide_eq_true h1
    have e:useE its L k ac lv w=12:=by rw [hE,if_pos h1]
    rw [useM,e]
    exact ⟨_,_,⟨rfl,rfl⟩,by kernel_rfl,⟨rf,tv⟩,⟨rf,rf,rf,rf,rfl,tv⟩,⟨rfl,rfl⟩,tv⟩
   have h1:¬ lv<(its.getD x.item.toNat Item.zero).lev:=of_decide_eq_false h1
   rw [if_neg h1] at hE
   refine ⟨fun _=>⟨by omega,by simp; omega⟩,eRo (k,x),fun _=>hel,fun h2=>?_,fun h2=>?_⟩
   ·have h2:x.wear<w:=of_decide_eq_true h2
    have e:useE its L k ac lv w=10:=by rw [hE,if_pos h2]
    rw [useM,e]
    exact ⟨_,_,⟨rfl,rfl⟩,by kernel_rfl,⟨rf,tv⟩,⟨rf,rf,rf,rf,rfl,tv⟩,⟨rfl,rfl⟩,tv⟩
   have h2:¬ x.wear<w:=of_decide_eq_false h2
   have e:useE its L k ac lv w=0:=by rw [hE,if_neg h2]
   refine ⟨fun _=>⟨by omega,by simp; omega⟩,eRo (k,x),fun _=>hel,fun _=>⟨by show _≤x.wear - w; omega,by show x.wear - w≤_; omega⟩,?_⟩
   refine ⟨fun _=>⟨by omega,by simp; omega⟩,[I (x.wear - w)],⟨rf,tv⟩,eRo (k,x),hel,?_⟩
   refine ⟨by kernel_rfl,fun h3=>?_,fun h3=>?_⟩
   ·have h3:(its.getD x.item.toNat Item.zero).bind=2:=by
     have h':((its.getD x.item.toNat Item.zero).bind == 2)=true:=h3
     simpa using h'
    have hel2:((L.map eRo).set (i:Int).toNat (eRo (k,{ x with wear:=x.wear - w })))[(i:Int).toNat]?=some (eRo (k,{ x with wear:=x.wear - w })):=by
     rw [List.getElem?_set_self]; simp; omega
    refine ⟨fun _=>⟨by omega,by simp; omega⟩,[B true],⟨rf,tv⟩,eRo (k,{ x with wear:=x.wear - w }),hel2,?_⟩
    rw [useM,e,if_pos rfl,hr]
    refine ⟨_,_,⟨rfl,rfl⟩,by kernel_rfl,⟨rf,tv⟩,⟨rf,rf,rf,rf,rfl,tv⟩,⟨rfl,?_⟩,tv⟩
    rw [hps,←set_map]
    show DV.osl 6 _=DV.osl 6 _
    congr 1
    rw [List.set_set]
    have hx2:useX x (its.getD x.item.toNat Item.zero) w={ x with wear:=x.wear - w,bound:=true }:=by
     have hd:decide ((its.getD x.item.toNat Item.zero).bind=2)=true:=decide_eq_true h3
     simp only [useX,hd]
     cases x.bound <;> rfl
    rw [hx2]
    rfl
   ·have h3:¬ (its.getD x.item.toNat Item.zero).bind=2:=by
     have h':((its.getD x.item.toNat Item.zero).bind == 2)=false:=h3
     simpa using h'
    rw [useM,e,if_pos rfl,hr]
    refine ⟨_,_,⟨rfl,rfl⟩,by kernel_rfl,⟨rf,tv⟩,⟨rf,rf,rf,rf,rfl,tv⟩,⟨rfl,?_⟩,tv⟩
    have hx2:useX x (its.getD x.item.toNat Item.zero) w={ x with wear:=x.wear - w }:=by
     have hd:decide ((its.getD x.item.toNat Item.zero).bind=2)=false:=decide_eq_false h3
     simp only [useX,hd]
     cases hb:x.bound <;> simp [hb]
    rw [hps,←set_map,hx2]
    rfl
 ·have e:useE its L k ac lv w=(ownR its L k ac).2.2:=by unfold useE; rw [if_pos h0]
  rw [useM,e,if_neg h0]
  refine .inr ⟨[0,1],[.ptr 0 0,.dv (I k.1),.dv (I k.2),.dv (I ac)],rfK its L 0,0,_,_,ho,by kernel_rfl,by kernel_rfl,⟨rfl,rf,rf,rf,tv⟩,⟨⟨rf,rf,rf,rf,rfl,tv⟩,⟨rfl,rfl⟩,tv⟩,?_⟩
  refine ⟨fun _=>?_,fun h=>?_⟩
  ·exact ⟨_,_,⟨rfl,rfl⟩,by kernel_rfl,⟨rf,tv⟩,⟨rf,rf,rf,rf,rfl,tv⟩,⟨rfl,rfl⟩,tv⟩
  ·exact absurd (by simpa using h) h0
end Go.Proofs.YtccialgeakmmpaaGreatDoor
namespace Go.Proofs.YtccialgeakmmpaaGreatDoor
open Go.TM
def kltB (a b:Ky):Bool:=bif decide (a.1<b.1) then true else bif a.1 == b.1 then decide (a.2<b.2) else false
def posO:OM→Ky→Nat
 | [],_=>0
 | p::r,k=>if kltB p.1 k then posO r k+1 else 0
def insO (L:OM) (k:Ky) (x:Ob):OM:=L.take (posO L k)++(k,x)::L.drop (posO L k)
theorem posO_at:∀(L:OM) (k:Ky) (j:Nat),j≤L.length→(∀(i:Nat) (q:Ky × Ob),i<j→L[i]?=some q→kltB q.1 k=true)→(∀q,L[j]?=some q→kltB q.1 k=false)→posO L k=j
 | [],_,j,hj,_,_=>by simp at hj; subst hj; rfl
 | p::r,k,0,_,_,h=>by
  have:=h p rfl
  simp [posO,this]
 | p::r,k,j+1,hj,hn,h=>by
  have h0:=hn 0 p (by omega) rfl
  have ih:=posO_at r k j (by simpa using hj) (fun i q hi hq=>hn (i+1) q (by omega) (by simpa using hq)) (fun q hq=>h q (by simpa using hq))
  simp [posO,h0,ih]
variable [KObj]
def rputM (its:List Item) (L:OM) (k:Ky) (x:Ob):OM:=if putE its L k x=0 then insO L k x else L
theorem by48:(nth tab (nth tab 87).elem).bytes=48:=rfl
set_option maxRecDepth 100000
theorem fz_list (L:OM):(fzD (.osl 6 (L.map eRo))).Le (.sl 6 (L.map eRo)):=DV.Le.of_eq (by
 show DV.sl 6 (fzL (L.map eRo))=_
 rw [fzL_map (fun _=>rfl)])
def pInv (its:List Item) (L:OM) (k:Ky) (x:Ob) (j:Nat):AState:=⟨4,[(0,.ptr 0 0),(3,.ptr 2 0),(7,.dv (I j))],[(0,.cells [.dv (.sl 7 (its.map eItem)),.dv rulesD,.dv tabsD,.dv taxesD,.dv (.sl 6 (L.map eRo))]),(1,.dead),(2,.cells (dvs [I k.1,I k.2,I x.item,I x.owner,I x.wear,B x.bound]))]⟩
set_option maxHeartbeats 4000000 in
theorem rput_spec (its:List Item) (L:OM) (hl:L.length≤100000) (k:Ky) (x:Ob):CSpec Tryz.prog 40 [.ptr 0 0,ofD (eRo (k,x))] 2 (rfK its L 0) 20 [.dv (I (putE its L k x))] (rfK its (rputM its L k x) 1):=by
 refine cspecM_of tab_ok mixed (calls_snd _) (range_snd _) Tryz.func40 rfl rfl (by kernel_rfl) ?_
 repeat first | refine ⟨id,?_⟩ | refine ⟨fun _ h=>bw_f h,?_⟩ | refine ⟨fun _ h=>bw_t h,?_⟩ | refine ⟨fun h=>⟨h,fun h2=>bw_and h h2⟩,?_⟩ | refine ⟨fun h=>⟨h,fun h2=>bw_andf h h2⟩,?_⟩
 refine ⟨fun h=>?_,fun h=>?_⟩
 ·have e:putE its L k x=1:=by
   unfold putE
   rw [if_pos]
   by_cases h1:k.1<0
   ·exact .inl h1
   by_cases h2:k.2<0
   ·exact .inr (.inl h2)
   by_cases h3:1099511627776≤k.2
   ·exact .inr (.inr (.inl h3))
   refine .inr (.inr (.inr ?_))
   unfold isOwner
   by_cases h4:x.owner<1
   ·simp; omega
   ·simp [h1,h2,h3,h4] at h
    simp; omega
  rw [rputM,e]
  exact ⟨1,1,0,_,rfK its L 0,[.dv (I 1)],by kernel_rfl,rfl,⟨rf,tv⟩,⟨⟨rf,rf,rf,rf,rfl,tv⟩,⟨rfl,rfl⟩,tv⟩,_,_,⟨rfl,rfl⟩,by kernel_rfl,⟨rf,tv⟩,⟨rf,rf,rf,rf,rfl,tv⟩,⟨rfl,rfl⟩,tv⟩
 ·have hbad:¬ (k.1<0 ∨ k.2<0 ∨ 1099511627776≤k.2 ∨ isOwner x.owner=false):=by
   have h1:¬ k.1<0:=fun h1=>by simp [h1] at h
   have h2:¬ k.2<0:=fun h2=>by simp [h1,h2] at h
   have h3:¬ 1099511627776≤k.2:=fun h3=>by simp [h1,h2,h3] at h
   have h4:¬ x.owner<1:=fun h4=>by simp [h1,h2,h3,h4] at h
   have h5:¬ 1073741824<x.owner:=fun h5=>by simp [h1,h2,h3,h4,h5] at h
   rintro (h6 | h6 | h6 | h6)
   ·exact h1 h6
   ·exact h2 h6
   ·exact h3 h6
   ·unfold isOwner at h6; simp at h6; omega
  clear h
  have hkd:=kind_spec its L x.item
  have hE:putE its L k x=match typeOf its x.item with
   | none=>9
   | some t=>if x.wear<0 ∨ t.wear<x.wear then 5 else if (oget L k).isSome then 8 else 0:=by unfold putE; rw [if_neg hbad]; cases typeOf its x.item <;> rfl
  refine .inl (.inr ⟨[0,1],[.ptr 0 0,.dv (I x.item)],rfK its L 0,0,_,_,hkd,by kernel_rfl,by kernel_rfl,⟨rfl,rf,tv⟩,⟨⟨rf,rf,rf,rf,rfl,tv⟩,⟨rfl,rfl⟩,tv⟩,?_⟩)
  refine ⟨fun h=>?_,fun h=>?_⟩
  ·have ht:typeOf its x.item=none:=by
    cases hq:typeOf its x.item with
    | none=>rfl
    | some t=>rw [hq] at h; cases h
   have e:putE its L k x=9:=by rw [hE,ht]
   rw [rputM,e]
   exact ⟨1,1,0,_,rfK its L 0,[.dv (I 9)],by kernel_rfl,rfl,⟨rf,tv⟩,⟨⟨rf,rf,rf,rf,rfl,tv⟩,⟨rfl,rfl⟩,tv⟩,_,_,⟨rfl,rfl⟩,by kernel_rfl,⟨rf,tv⟩,⟨rf,rf,rf,rf,rfl,tv⟩,⟨rfl,rfl⟩,tv⟩
  ·obtain ⟨t,ht⟩:∃t,typeOf its x.item=some t:=by
    cases hq:typeOf its x.item with
    | none=>rw [hq] at h; cases h
    | some t=>exact ⟨t,rfl⟩
   obtain ⟨g1,g2,g3⟩:=typeOf_some ht
   have hkI:kI its x.item=t:=by unfold kI; rw [if_neg (by omega),g3]
   rw [ht] at hE
   simp only at hE
   rw [hkI]
   clear h
   repeat first | refine ⟨id,?_⟩ | refine ⟨fun _ h=>bw_f h,?_⟩ | refine ⟨fun _ h=>bw_t h,?_⟩ | refine ⟨fun h=>⟨h,fun h2=>bw_and h h2⟩,?_⟩ | refine ⟨fun h=>⟨h,fun h2=>bw_andf h h2⟩,?_⟩
   refine ⟨fun h=>?_,fun h=>?_⟩
   ·have hw:x.wear<0 ∨ t.wear<x.wear:=by
     by_cases h1:x.wear<0
     ·exact .inl h1
     ·simp [h1] at h; exact .inr h
    have e:putE its L k x=5:=by rw [hE,if_pos hw]
    rw [rputM,e]
    exact ⟨1,1,0,_,rfK its L 0,[.dv (I 5)],by kernel_rfl,rfl,⟨rf,tv⟩,⟨⟨rf,rf,rf,rf,rfl,tv⟩,⟨rfl,rfl⟩,tv⟩,_,_,⟨rfl,rfl⟩,by kernel_rfl,⟨rf,tv⟩,⟨rf,rf,rf,rf,rfl,tv⟩,⟨rfl,rfl⟩,tv⟩
   ·have hw:¬ (x.wear<0 ∨ t.wear<x.wear):=by
     rintro (h1 | h1) <;> simp [h1] at h
    rw [if_neg hw] at hE
    clear h
    have hf:=find_spec its L (by omega) k.1 k.2
    rw [show (k.1,k.2)=k from rfl] at hf
    refine .inl (.inr ⟨[0,1],[.ptr 0 0,.dv (I k.1),.dv (I k.2)],rfK its L 0,0,_,_,hf,by kernel_rfl,by kernel_rfl,⟨rfl,rf,rf,tv⟩,⟨⟨rf,rf,rf,rf,rfl,tv⟩,⟨rfl,rfl⟩,tv⟩,?_⟩)
    refine ⟨fun h=>?_,fun h=>?_⟩
    ·have h':0≤findI L k:=of_decide_eq_true h
     have hs:(oget L k).isSome=true:=by
      cases hq:oget L k with
      | none=>unfold findI at h'; rw [if_neg (fidx_none hq)] at h'; omega
      | some y=>rfl
     have e:putE its L k x=8:=by rw [hE,if_pos hs]
     rw [rputM,e]
     exact ⟨1,1,0,_,rfK its L 0,[.dv (I 8)],by kernel_rfl,rfl,⟨rf,tv⟩,⟨⟨rf,rf,rf,rf,rfl,tv⟩,⟨rfl,rfl⟩,tv⟩,_,_,⟨rfl,rfl⟩,by kernel_rfl,⟨rf,tv⟩,⟨rf,rf,rf,rf,rfl,tv⟩,⟨rfl,rfl⟩,tv⟩
    ·have h':¬ 0≤findI L k:=of_decide_eq_false h
     have hs:(oget L k).isSome=false:=by
      cases hq:oget L k with
      | none=>rfl
      | some y =>
       have:=(fidx_some hq).1
       unfold findI at h'; rw [if_pos this] at h'; omega
     have e:putE its L k x=0:=by rw [hE,if_neg (by rw [hs]; simp)]
     rw [rputM,e,if_pos rfl]
     clear h
     refine ⟨Nat,pInv its L k x,fun j=>j≤L.length∧∀(i:Nat) (q:Ky × Ob),i<j→L[i]?=some q→kltB q.1 k=true,fun j=>L.length - j,0,fun _=>rfl,⟨⟨rfl,rfl,rf,tv⟩,⟨⟨rf,rf,rf,rf,fz_list L,tv⟩,tv,⟨rf,rf,rf,rf,rf,rf,tv⟩,tv⟩,rfl,rfl⟩,⟨Nat.zero_le _,fun i q h=>by omega⟩,?_⟩
     rintro j ⟨hj,hn⟩
     have hel:decide ((j:Int)<((L.map eRo).length:Int))=true→0≤(j:Int)∧(L.map eRo)[(j:Int).toNat]?=some (eRo (L.getD j ((0,0),Ob.zero))):=fun h=>by
      have h2:j<L.length:=by have:=of_decide_eq_true h; simp at this; omega
      exact ⟨by omega,by simp [h2]⟩
     have hlt:j<L.length→L[j]?=some (L.getD j ((0,0),Ob.zero)):=fun h=>by simp [h]
     generalize L.getD j ((0,0),Ob.zero)=p at hel hlt
     have h1:∀{b:Bool},bw b true=true→b=true:=fun {b} h=>h
     have h2:∀{b c:Bool},(bw b true && c)=true→b=true:=fun {b c} h=>by cases b <;> simp_all [bw]
     repeat first | refine ⟨id,?_⟩ | refine ⟨fun _ h=>bw_f h,?_⟩ | refine ⟨fun _ h=>bw_t h,?_⟩ | refine ⟨fun h=>⟨h,fun h2=>bw_and h h2⟩,?_⟩ | refine ⟨fun h=>⟨h,fun h2=>bw_andf h h2⟩,?_⟩
     refine ⟨eRo p,fun h=>hel (h1 h),?_⟩
     repeat first | refine ⟨id,?_⟩ | refine ⟨fun _ h=>bw_f h,?_⟩ | refine ⟨fun _ h=>bw_t h,?_⟩ | refine ⟨fun h=>⟨h,fun h2=>bw_and h h2⟩,?_⟩ | refine ⟨fun h=>⟨h,fun h2=>bw_andf h h2⟩,?_⟩
     refine ⟨eRo p,fun h=>hel (h2 h),?_⟩
     repeat first | refine ⟨id,?_⟩ | refine ⟨fun _ h=>bw_f h,?_⟩ | refine ⟨fun _ h=>bw_t h,?_⟩ | refine ⟨fun h=>⟨h,fun h2=>bw_and h h2⟩,?_⟩ | refine ⟨fun h=>⟨h,fun h2=>bw_andf h h2⟩,?_⟩
     refine ⟨eRo p,fun h=>hel (by cases hq:decide ((j:Int)<((L.map eRo).length:Int)) with | true=>rfl | false=>rw [hq] at h; simp [bw] at h),?_⟩
     repeat first | refine ⟨id,?_⟩ | refine ⟨fun _ h=>bw_f h,?_⟩ | refine ⟨fun _ h=>bw_t h,?_⟩ | refine ⟨fun h=>⟨h,fun h2=>bw_and h h2⟩,?_⟩ | refine ⟨fun h=>⟨h,fun h2=>bw_andf h h2⟩,?_⟩
     refine ⟨by kernel_rfl,fun h=>?_,fun h=>?_⟩
     ·have h3:(bif decide ((j:Int)<((L.map eRo).length:Int)) then kltB p.1 k else false)=true:=h
      have hj1:j<L.length:=by
       by_cases hq:(j:Int)<((L.map eRo).length:Int)
       ·simp at hq; omega
       ·simp only [hq,decide_false,cond_false] at h3; cases h3
      have hq:decide ((j:Int)<((L.map eRo).length:Int))=true:=by simp; omega
      rw [hq] at h3
      have h3:kltB p.1 k=true:=h3
      refine ⟨fun _=>⟨by omega,by omega⟩,j+1,⟨⟨rfl,rfl,le_int (by simp),tv⟩,⟨⟨rf,rf,rf,rf,rf,tv⟩,tv,⟨rf,rf,rf,rf,rf,rf,tv⟩,tv⟩,rfl,rfl⟩,⟨by omega,fun i q hi hq'=>?_⟩,by show L.length - (j+1)<L.length - j; omega⟩
      by_cases e:i=j
      ·subst e
       rw [hlt hj1] at hq'; injection hq' with hq'; subst hq'; exact h3
      ·exact hn i q (by omega) hq'
     ·have h3:(bif decide ((j:Int)<((L.map eRo).length:Int)) then kltB p.1 k else false)=false:=h
      have hpo:posO L k=j:=posO_at L k j hj hn (fun q hq=>by
       have hj1:=(List.getElem?_eq_some_iff.1 hq).1
       have hq2:decide ((j:Int)<((L.map eRo).length:Int))=true:=by simp; omega
       rw [hq2] at h3
       rw [hlt hj1] at hq; injection hq with hq; subst hq; exact h3)
      refine ⟨fun _=>⟨by simp,by simp,by simp; omega⟩,.inr ⟨_,ELes.refl _,(by rw [by48]; simp; omega),(by simp; omega),?_⟩⟩
      refine .inl ⟨[eRo (k,x)],rfl,⟨rf,rf,rf,rf,rf,rf,tv⟩,(by simp; rfl),?_⟩
      refine .inr ⟨[eRo (k,x)],ELes.refl _,(by rw [by48]; simp; omega),(by simp; omega),?_⟩
      refine ⟨fun _=>⟨by simp,by simp; omega,by simp⟩,.inr ⟨_,ELes.refl _,(by rw [by48]; simp; omega),(by simp; omega),?_⟩⟩
      refine ⟨by kernel_rfl,?_⟩
      refine ⟨1,4,0,_,[(0,.cells [.dv (.sl 7 (its.map eItem)),.dv rulesD,.dv tabsD,.dv taxesD,.own 4 0 0 []]),(1,.dead),(4,.tree 0 0 (.osl 6 ((insO L k x).map eRo)))],[.dv (I 0)],by kernel_rfl,rfl,⟨rf,tv⟩,⟨⟨rf,rf,rf,rf,rfl,tv⟩,tv,⟨rfl,?_⟩,tv⟩,?_⟩
      ·show DV.osl 6 _=DV.osl 6 _
       congr 1
       unfold insO
       rw [hpo]
       rw [List.map_append,List.map_cons,List.map_take,List.map_drop]
       simp
       rw [List.take_of_length_le (by simp)]
      ·exact ⟨_,_,⟨rfl,rfl⟩,by kernel_rfl,⟨rf,tv⟩,⟨rf,rf,rf,rf,rfl,tv⟩,⟨rfl,rfl⟩,tv⟩
def rmakeX (its:List Item) (i ow:Int):Ob:=⟨i,ow,(kI its i).wear,decide ((kI its i).bind=1)⟩
set_option maxHeartbeats 4000000 in
theorem rmake_spec (its:List Item) (L:OM) (hl:L.length≤100000) (k:Ky) (i ow:Int):CSpec Tryz.prog 35 [.ptr 0 0,.dv (I k.1),.dv (I k.2),.dv (I i),.dv (I ow)] 2 (rfK its L 0) 30 [.dv (I (putE its L k (rmakeX its i ow)))] (rfK its (rputM its L k (rmakeX its i ow)) 1):=by
 refine cspec_of tab_ok mixed (calls_snd _) (range_snd _) Tryz.func35 rfl rfl (by kernel_rfl) ?_
 refine .inr ⟨[0,1],[.ptr 0 0,.dv (I i)],rfK its L 0,0,_,_,kind_spec its L i,by kernel_rfl,by kernel_rfl,⟨rfl,rf,tv⟩,⟨⟨rf,rf,rf,rf,rfl,tv⟩,⟨rfl,rfl⟩,tv⟩,?_⟩
 refine .inr ⟨[0,1],[.ptr 0 0,ofD (eRo (k,rmakeX its i ow))],rfK its L 0,20,_,_,rput_spec its L hl k (rmakeX its i ow),by kernel_rfl,by kernel_rfl,⟨rfl,⟨rf,rf,rf,rf,rf,DV.Le.of_eq (congrArg B (by simp [rmakeX]; cases hq:decide ((kI its i).bind=1) <;> simp_all)),tv⟩,tv⟩,⟨⟨rf,rf,rf,rf,rfl,tv⟩,⟨rfl,rfl⟩,tv⟩,?_⟩
 exact ⟨_,_,⟨rfl,rfl⟩,by kernel_rfl,⟨rf,tv⟩,⟨rf,rf,rf,rf,rfl,tv⟩,⟨rfl,rfl⟩,tv⟩
end Go.Proofs.YtccialgeakmmpaaGreatDoor
namespace Go.Proofs.YtccialgeakmmpaaGreatDoor
open Go.TM
variable [KObj]
set_option maxRecDepth 100000
def rfF (its:List Item) (L:OM):Boxes:=[(0,.cells [.dv (.sl 7 (its.map eItem)),.dv rulesD,.dv tabsD,.dv taxesD,.dv (.sl 6 (L.map eRo))])]
set_option maxHeartbeats 4000000 in
theorem findF_spec (its:List Item) (L:OM) (hl:L.length≤1000000) (a b:Int):CSpec Tryz.prog 63 [.ptr 0 0,.dv (I a),.dv (I b)] 1 (rfF its L) 0 [.dv (I (findI L (a,b)))] (rfF its L):=by
 refine cspec_of tab_ok mixed (calls_snd _) (range_snd _) Tryz.func63 rfl rfl (by kernel_rfl) ?_
 refine ⟨Nat,fun j=>⟨1,[(0,.ptr 0 0),(1,.dv (I a)),(2,.dv (I b)),(7,.dv (I j))],rfF its L⟩,fun j=>j≤L.length∧∀i q,i<j→L[i]?=some q→q.1 ≠ (a,b),fun j=>L.length - j,0,fun _=>rfl,⟨⟨rfl,rf,rf,rf,tv⟩,⟨⟨rf,rf,rf,rf,rf,tv⟩,tv⟩,rfl,rfl⟩,⟨Nat.zero_le _,fun i q h=>by omega⟩,?_⟩
 rintro j ⟨hj,hn⟩
 refine ⟨fun h=>?_,fun h=>?_⟩
 ·have hlt:j<L.length:=by simpa using h
  clear h
  have hel:(L.map eRo)[(j:Int).toNat]?=some (eRo L[j]):=by simp [hlt]
  refine ⟨eRo L[j],fun _=>⟨by omega,hel⟩,?_⟩
  repeat first | refine ⟨id,?_⟩ | refine ⟨fun _ h=>bw_f h,?_⟩ | refine ⟨fun _ h=>bw_t h,?_⟩ | refine ⟨fun h=>⟨h,fun h2=>bw_and h h2⟩,?_⟩ | refine ⟨fun h=>⟨h,fun h2=>bw_andf h h2⟩,?_⟩
  refine ⟨eRo L[j],fun _=>⟨by omega,hel⟩,?_⟩
  repeat first | refine ⟨id,?_⟩ | refine ⟨fun _ h=>bw_f h,?_⟩ | refine ⟨fun _ h=>bw_t h,?_⟩ | refine ⟨fun h=>⟨h,fun h2=>bw_and h h2⟩,?_⟩ | refine ⟨fun h=>⟨h,fun h2=>bw_andf h h2⟩,?_⟩
  refine ⟨fun h=>?_,fun h=>?_⟩
  ·have hk:L[j].1=(a,b):=by
    have h':(bif L[j].1.1 == a then L[j].1.2 == b else false)=true:=h
    have h1:L[j].1.1=a:=by cases hq:(L[j].1.1 == a) <;> simp_all
    have h2:L[j].1.2=b:=by simp [h1] at h'; exact h'
    exact Prod.ext h1 h2
   have e:findI L (a,b)=j:=by
    unfold findI
    rw [fidx_at L (a,b) j L[j] hn (List.getElem?_eq_getElem hlt) hk,if_pos hlt]
   rw [e]
   exact ⟨_,_,⟨rfl,rfl⟩,by kernel_rfl,⟨rf,tv⟩,⟨rf,rf,rf,rf,rf,tv⟩,tv⟩
  ·have hk:¬ L[j].1=(a,b):=by
    intro e
    have h':(bif L[j].1.1 == a then L[j].1.2 == b else false)=false:=h
    rw [e] at h'
    simp at h'
   refine ⟨fun _=>⟨by omega,by omega⟩,j+1,⟨⟨rfl,rf,rf,le_int (by simp),tv⟩,⟨⟨rf,rf,rf,rf,rf,tv⟩,tv⟩,rfl,rfl⟩,⟨by omega,fun i q hi hq=>?_⟩,by show L.length - (j+1)<L.length - j; omega⟩
   by_cases e:i=j
   ·subst e
    rw [List.getElem?_eq_getElem hlt] at hq; injection hq with hq; subst hq; exact hk
   ·exact hn i q (by omega) hq
 ·have he:¬ j<L.length:=by simpa using h
  have e:findI L (a,b)=-1:=by
   unfold findI
   rw [fidx_no L (a,b) (fun i q hq=>hn i q (by have:=(List.getElem?_eq_some_iff.1 hq).1; omega) hq)]
   simp
  rw [e]
  exact ⟨_,_,⟨rfl,rfl⟩,by kernel_rfl,⟨rf,tv⟩,⟨rf,rf,rf,rf,rf,tv⟩,tv⟩
set_option maxHeartbeats 4000000 in
theorem rremove_spec (its:List Item) (L:OM) (hl:L.length≤100000) (k:Ky):CSpec Tryz.prog 39 [.ptr 0 0,.dv (I k.1),.dv (I k.2)] 2 (rfK its L 0) 20 [ofD (eRo ((if (oget L k).isSome then k else (0,0)),(oget L k).getD Ob.zero)),.dv (I (if (oget L k).isSome then 0 else 7))] (rfK its (odel L k) 1):=by
 refine cspecM_of tab_ok mixed (calls_snd _) (range_snd _) Tryz.func39 rfl rfl (by kernel_rfl) ?_
 cases hq:oget L k with
 | none =>
  have e1:findI L k=-1:=by unfold findI; rw [if_neg (fidx_none hq)]
  have hf:=find_spec its L (by omega) k.1 k.2
  rw [show (k.1,k.2)=k from rfl,e1] at hf
  refine .inl (.inr ⟨[0,1],[.ptr 0 0,.dv (I k.1),.dv (I k.2)],rfK its L 0,0,_,_,hf,by kernel_rfl,by kernel_rfl,⟨rfl,rf,rf,tv⟩,⟨⟨rf,rf,rf,rf,rfl,tv⟩,⟨rfl,rfl⟩,tv⟩,?_⟩)
  refine ⟨fun _=>?_,fun h=>by cases h⟩
  rw [odel_none hq]
  exact ⟨1,1,0,_,rfK its L 0,[.agg (dvs [I 0,I 0,I 0,I 0,I 0,B false]),.dv (I 7)],by kernel_rfl,rfl,⟨⟨rf,rf,rf,rf,rf,rf,tv⟩,rf,tv⟩,⟨⟨rf,rf,rf,rf,rfl,tv⟩,⟨rfl,rfl⟩,tv⟩,_,_,⟨rfl,rfl⟩,by kernel_rfl,⟨⟨rf,rf,rf,rf,rf,rf,tv⟩,rf,tv⟩,⟨rf,rf,rf,rf,rfl,tv⟩,⟨rfl,rfl⟩,tv⟩
 | some x =>
  obtain ⟨hlt,hat⟩:=fidx_some hq
  have e1:findI L k=(fidx L k:Nat):=by unfold findI; rw [if_pos hlt]
  have hf:=findF_spec its L (by omega) k.1 k.2
  rw [show (k.1,k.2)=k from rfl,e1] at hf
  rw [odel_take]
  have hel:(L.map eRo)[((fidx L k:Nat):Int).toNat]?=some (eRo (k,x)):=by simp [hat]
  generalize fidx L k=i at hf hlt hat hel
  refine .inl (.inr ⟨[0],[.ptr 0 0,.dv (I k.1),.dv (I k.2)],rfF its L,0,_,_,hf,by kernel_rfl,by kernel_rfl,⟨rfl,rf,rf,tv⟩,⟨⟨rf,rf,rf,rf,fz_list L,tv⟩,tv⟩,?_⟩)
  refine ⟨fun h=>?_,fun _=>?_⟩
  ·have h':(i:Int)<0:=of_decide_eq_true h
   omega
  refine ⟨eRo (k,x),fun _=>⟨by omega,hel⟩,?_⟩
  refine ⟨fun _=>⟨by simp,by simp,by simp; omega⟩,.inr ⟨_,ELes.refl _,(by rw [by48]; simp; omega),(by simp; omega),?_⟩⟩
  refine ⟨fun _=>⟨by omega,by omega⟩,fun _=>⟨by simp; omega,by simp; omega,by simp⟩,.inr ⟨_,ELes.refl _,(by rw [by48]; simp; omega),(by simp; omega),?_⟩⟩
  refine ⟨by kernel_rfl,?_⟩
  refine ⟨1,4,0,_,[(0,.cells [.dv (.sl 7 (its.map eItem)),.dv rulesD,.dv tabsD,.dv taxesD,.own 4 0 0 []]),(1,.dead),(4,.tree 0 0 (.osl 6 ((L.take i++L.drop (i+1)).map eRo)))],[.agg (dvs [I k.1,I k.2,I x.item,I x.owner,I x.wear,B x.bound]),.dv (I 0)],by kernel_rfl,rfl,⟨⟨rf,rf,rf,rf,rf,rf,tv⟩,rf,tv⟩,⟨⟨rf,rf,rf,rf,rfl,tv⟩,tv,⟨rfl,?_⟩,tv⟩,?_⟩
  ·show DV.osl 6 _=DV.osl 6 _
   congr 1
   rw [List.map_append,List.map_take,List.map_drop]
   simp
   rw [List.take_of_length_le (by simp)]
  ·exact ⟨_,_,⟨rfl,rfl⟩,by kernel_rfl,⟨⟨rf,rf,rf,rf,rf,rf,tv⟩,rf,tv⟩,⟨rf,rf,rf,rf,rfl,tv⟩,⟨rfl,rfl⟩,tv⟩
end Go.Proofs.YtccialgeakmmpaaGreatDoor
namespace Go.Proofs.YtccialgeakmmpaaGreatDoor
open Go.TM
variable [KObj]
def rdoE (its:List Item) (L:OM) (o:Op):Int :=
 if o.kind=0 then putE its L (opK o) (rmakeX its o.item o.owner) else doE its L o
def rdoM (its:List Item) (L:OM) (o:Op):OM :=
 if o.kind=0 then rputM its L (opK o) (rmakeX its o.item o.owner)
 else if o.kind=1 then givM its L (opK o) o.owner o.a
 else if o.kind=2 then useM its L (opK o) o.owner (o.a+1) o.b
 else if o.kind=3 then repM its L (opK o) o.owner o.b
 else if o.kind=4 then odel L (opK o)
 else rputM its L (opK o) (opX o)
set_option maxRecDepth 100000
set_option maxHeartbeats 4000000 in
theorem rdo_spec (its:List Item) (L:OM) (hl:L.length≤100000) (o:Op) (hm:OkS its L) (ha:0≤o.a∧o.a≤1073741825):CSpec Tryz.prog 16 [.ptr 0 0,ofD (eOp o)] 2 (rfK its L 0) 0 [.dv (I (rdoE its L o))] (rfK its (rdoM its L o) 1):=by
 refine cspecM_of tab_ok mixed (calls_snd _) (range_snd _) Tryz.func16 rfl rfl (by kernel_rfl) ?_
 refine And.intro ?_ ?_
 ·intro h
  have h0:o.kind=0:=by have h':(o.kind == 0)=true:=h; simpa using h'
  clear h
  have e1:rdoE its L o=putE its L (opK o) (rmakeX its o.item o.owner):=by simp [rdoE,doE,h0]
  have e2:rdoM its L o=rputM its L (opK o) (rmakeX its o.item o.owner):=by simp [rdoM,h0]
  rw [e1,e2]
  refine .inl (.inr ⟨[0,1],[.ptr 0 0,.dv (I (opK o).1),.dv (I (opK o).2),.dv (I o.item),.dv (I o.owner)],rfK its L 0,30,_,_,rmake_spec its L hl (opK o) o.item o.owner,by kernel_rfl,by kernel_rfl,⟨rfl,rf,rf,rf,rf,tv⟩,⟨⟨rf,rf,rf,rf,rfl,tv⟩,⟨rfl,rfl⟩,tv⟩,?_⟩)
  exact ⟨1,1,1,_,rfK its (rputM its L (opK o) (rmakeX its o.item o.owner)) 1,[.dv (I (putE its L (opK o) (rmakeX its o.item o.owner)))],by kernel_rfl,rfl,⟨rf,tv⟩,⟨⟨rf,rf,rf,rf,rfl,tv⟩,⟨rfl,rfl⟩,tv⟩,_,_,⟨rfl,rfl⟩,by kernel_rfl,⟨rf,tv⟩,⟨rf,rf,rf,rf,rfl,tv⟩,⟨rfl,rfl⟩,tv⟩
 intro h
 have h0:¬ o.kind=0:=by have h':(o.kind == 0)=false:=h; simpa using h'
 clear h
 refine And.intro ?_ ?_
 ·intro h
  have h1:o.kind=1:=by have h':(o.kind == 1)=true:=h; simpa using h'
  clear h
  have e1:rdoE its L o=givE its L (opK o) o.owner o.a:=by simp [rdoE,doE,h1]
  have e2:rdoM its L o=givM its L (opK o) o.owner o.a:=by simp [rdoM,h1]
  rw [e1,e2]
  refine .inl (.inr ⟨[0,1],[.ptr 0 0,.dv (I (opK o).1),.dv (I (opK o).2),.dv (I o.owner),.dv (I o.a)],rfK its L 0,0,_,_,rgiv_spec its L (by omega) (opK o) o.owner o.a hm.okM,by kernel_rfl,by kernel_rfl,⟨rfl,rf,rf,rf,rf,tv⟩,⟨⟨rf,rf,rf,rf,rfl,tv⟩,⟨rfl,rfl⟩,tv⟩,?_⟩)
  exact ⟨1,1,0,_,rfK its (givM its L (opK o) o.owner o.a) 0,[.dv (I (givE its L (opK o) o.owner o.a))],by kernel_rfl,rfl,⟨rf,tv⟩,⟨⟨rf,rf,rf,rf,rfl,tv⟩,⟨rfl,rfl⟩,tv⟩,_,_,⟨rfl,rfl⟩,by kernel_rfl,⟨rf,tv⟩,⟨rf,rf,rf,rf,rfl,tv⟩,⟨rfl,rfl⟩,tv⟩
 intro h
 have h1:¬ o.kind=1:=by have h':(o.kind == 1)=false:=h; simpa using h'
 clear h
 refine And.intro ?_ ?_
 ·intro h
  have h2:o.kind=2:=by have h':(o.kind == 2)=true:=h; simpa using h'
  clear h
  have e1:rdoE its L o=useE its L (opK o) o.owner (o.a+1) o.b:=by simp [rdoE,doE,h2]
  have e2:rdoM its L o=useM its L (opK o) o.owner (o.a+1) o.b:=by simp [rdoM,h2]
  rw [e1,e2]
  refine ⟨fun _=>⟨by omega,by omega⟩,?_⟩
  refine .inl (.inr ⟨[0,1],[.ptr 0 0,.dv (I (opK o).1),.dv (I (opK o).2),.dv (I o.owner),.dv (I (o.a+1)),.dv (I o.b)],rfK its L 0,0,_,_,ruse_spec its L (by omega) (opK o) o.owner (o.a+1) o.b hm,by kernel_rfl,by kernel_rfl,⟨rfl,rf,rf,rf,rf,rf,tv⟩,⟨⟨rf,rf,rf,rf,rfl,tv⟩,⟨rfl,rfl⟩,tv⟩,?_⟩)
  exact ⟨1,1,0,_,rfK its (useM its L (opK o) o.owner (o.a+1) o.b) 0,[.dv (I (useE its L (opK o) o.owner (o.a+1) o.b))],by kernel_rfl,rfl,⟨rf,tv⟩,⟨⟨rf,rf,rf,rf,rfl,tv⟩,⟨rfl,rfl⟩,tv⟩,_,_,⟨rfl,rfl⟩,by kernel_rfl,⟨rf,tv⟩,⟨rf,rf,rf,rf,rfl,tv⟩,⟨rfl,rfl⟩,tv⟩
 intro h
 have h2:¬ o.kind=2:=by have h':(o.kind == 2)=false:=h; simpa using h'
 clear h
 refine And.intro ?_ ?_
 ·intro h
  have h3:o.kind=3:=by have h':(o.kind == 3)=true:=h; simpa using h'
  clear h
  have e1:rdoE its L o=repE its L (opK o) o.owner o.b:=by simp [rdoE,doE,h3]
  have e2:rdoM its L o=repM its L (opK o) o.owner o.b:=by simp [rdoM,h3]
  rw [e1,e2]
  refine .inl (.inr ⟨[0,1],[.ptr 0 0,.dv (I (opK o).1),.dv (I (opK o).2),.dv (I o.owner),.dv (I o.b)],rfK its L 0,0,_,_,rrep_spec its L (by omega) (opK o) o.owner o.b hm,by kernel_rfl,by kernel_rfl,⟨rfl,rf,rf,rf,rf,tv⟩,⟨⟨rf,rf,rf,rf,rfl,tv⟩,⟨rfl,rfl⟩,tv⟩,?_⟩)
  exact ⟨1,1,0,_,rfK its (repM its L (opK o) o.owner o.b) 0,[.dv (I (repE its L (opK o) o.owner o.b))],by kernel_rfl,rfl,⟨rf,tv⟩,⟨⟨rf,rf,rf,rf,rfl,tv⟩,⟨rfl,rfl⟩,tv⟩,_,_,⟨rfl,rfl⟩,by kernel_rfl,⟨rf,tv⟩,⟨rf,rf,rf,rf,rfl,tv⟩,⟨rfl,rfl⟩,tv⟩
 intro h
 have h3:¬ o.kind=3:=by have h':(o.kind == 3)=false:=h; simpa using h'
 clear h
 refine And.intro ?_ ?_
 ·intro h
  have h4:o.kind=4:=by have h':(o.kind == 4)=true:=h; simpa using h'
  clear h
  have e1:rdoE its L o=(if (oget L (opK o)).isSome then 0 else 7):=by simp [rdoE,doE,h4]
  have e2:rdoM its L o=odel L (opK o):=by simp [rdoM,h4]
  rw [e1,e2]
  refine .inl (.inr ⟨[0,1],[.ptr 0 0,.dv (I (opK o).1),.dv (I (opK o).2)],rfK its L 0,20,_,_,rremove_spec its L hl (opK o),by kernel_rfl,by kernel_rfl,⟨rfl,rf,rf,tv⟩,⟨⟨rf,rf,rf,rf,rfl,tv⟩,⟨rfl,rfl⟩,tv⟩,?_⟩)
  exact ⟨1,1,1,_,rfK its (odel L (opK o)) 1,[.dv (I (if (oget L (opK o)).isSome then 0 else 7))],by kernel_rfl,rfl,⟨rf,tv⟩,⟨⟨rf,rf,rf,rf,rfl,tv⟩,⟨rfl,rfl⟩,tv⟩,_,_,⟨rfl,rfl⟩,by kernel_rfl,⟨rf,tv⟩,⟨rf,rf,rf,rf,rfl,tv⟩,⟨rfl,rfl⟩,tv⟩
 intro h
 have h4:¬ o.kind=4:=by have h':(o.kind == 4)=false:=h; simpa using h'
 clear h
 have e1:rdoE its L o=putE its L (opK o) (opX o):=by simp [rdoE,doE,h0,h1,h2,h3,h4]
 have e2:rdoM its L o=rputM its L (opK o) (opX o):=by simp [rdoM,h0,h1,h2,h3,h4]
 rw [e1,e2]
 refine .inl (.inr ⟨[0,1],[.ptr 0 0,ofD (eRo (opK o,opX o))],rfK its L 0,20,_,_,rput_spec its L hl (opK o) (opX o),by kernel_rfl,by kernel_rfl,⟨rfl,⟨rf,rf,rf,rf,rf,rf,tv⟩,tv⟩,⟨⟨rf,rf,rf,rf,rfl,tv⟩,⟨rfl,rfl⟩,tv⟩,?_⟩)
 exact ⟨1,1,1,_,rfK its (rputM its L (opK o) (opX o)) 1,[.dv (I (putE its L (opK o) (opX o)))],by kernel_rfl,rfl,⟨rf,tv⟩,⟨⟨rf,rf,rf,rf,rfl,tv⟩,⟨rfl,rfl⟩,tv⟩,_,_,⟨rfl,rfl⟩,by kernel_rfl,⟨rf,tv⟩,⟨rf,rf,rf,rf,rfl,tv⟩,⟨rfl,rfl⟩,tv⟩
end Go.Proofs.YtccialgeakmmpaaGreatDoor
namespace Go.Proofs.YtccialgeakmmpaaGreatDoor
open Go.TM
variable [KObj]
def encR (L:OM):List Int:=ibytes L.length++L.flatMap fun p=>obB p.1 p.2
def encS (L:OM) (i:Nat):List Int:=ibytes L.length++(L.take i).flatMap fun p=>obB p.1 p.2
theorem encS_len (L:OM) (i:Nat) (hl:L.length≤100):(encS L i).length≤7000:=by
 have h1:=ibytes_len L.length
 have h2:∀l:OM,(l.flatMap fun p=>obB p.1 p.2).length≤66 * l.length:=by
  intro l
  induction l with
  | nil=>simp
  | cons p l ih =>
   have h:(obB p.1 p.2).length≤11 * 6:=flat_len (nums p.1 p.2)
   simp only [List.flatMap_cons,List.length_append,List.length_cons]
   omega
 have h3:=h2 (L.take i)
 have h4:(L.take i).length≤L.length:=by rw [List.length_take]; exact Nat.min_le_right _ _
 unfold encS
 simp only [List.length_append]
 omega
def reInv1 (its:List Item) (L:OM) (i:Nat):AState:=⟨3,[(0,.ptr 0 0),(3,.own 2 0 0 []),(4,.dv (I i))],rfK its L 0++[(2,.tree 0 0 (.osl 1 ((encS L i).map Y)))]⟩
def reInv2 (its:List Item) (L:OM) (i:Nat) (p:Ky × Ob) (j:Nat):AState:=⟨3,[(0,.ptr 0 0),(3,.own 2 0 0 []),(4,.dv (I i)),(7,.dv (Ints (nums p.1 p.2))),(8,.dv (I j))],rfK its L 0++[(2,.tree 0 0 (.osl 1 ((encS L i++((nums p.1 p.2).take j).flatMap ibytes).map Y)))]⟩
set_option maxRecDepth 100000
set_option maxHeartbeats 4000000 in
theorem rencode_spec (its:List Item) (L:OM) (hl:L.length≤100) (hi:∀p,p∈L→∀n,n∈nums p.1 p.2→InI n):CSpec Tryz.prog 25 [.ptr 0 0] 2 (rfK its L 0) 1 [.own 2 0 0 []] (rfK its L 0++[(2,.tree 0 0 (.osl 1 ((encR L).map Y)))]):=by
 refine cspec_of tab_ok mixed (calls_snd _) (range_snd _) Tryz.func25 rfl rfl (by kernel_rfl) ?_
 refine .inr ⟨[],[.dv (I (L.length:Nat))],[],1,_,_,rint_spec _ ⟨by omega,by omega⟩,by kernel_rfl,by kernel_rfl,⟨le_int (by simp),tv⟩,tv,?_⟩
 refine ⟨Nat,reInv1 its L,fun i=>i≤L.length,fun i=>L.length - i,0,fun _=>rfl,⟨⟨rfl,rfl,rf,tv⟩,⟨⟨rf,rf,rf,rf,rfl,tv⟩,⟨rfl,rfl⟩,⟨rfl,by simp [encS]⟩,tv⟩,rfl,rfl⟩,Nat.zero_le _,?_⟩
 intro i hi0
 refine ⟨fun h=>?_,fun h=>?_⟩
 ·have hlt:i<L.length:=by simpa using h
  clear h
  have hel:(L.map eRo)[(i:Int).toNat]?=some (eRo L[i]):=by simp [hlt]
  have hmem:L[i]∈L:=List.getElem_mem hlt
  refine ⟨fun _=>⟨by omega,by simp; omega⟩,eRo L[i],fun _=>hel,?_⟩
  have htk:(L.take (i+1))=L.take i++[L[i]]:=List.take_succ_eq_append_getElem hlt
  generalize L[i]=p at hel hmem htk
  have hp0:∀n,n∈nums p.1 p.2→InI n:=hi p hmem
  obtain ⟨⟨k1,k2⟩,⟨xi,xo,xw,xb⟩⟩:=p
  cases xb with
  | false =>
   refine ⟨fun h=>Bool.noConfusion h,fun _=>?_⟩
   refine .inl ⟨(nums (k1,k2) ⟨xi,xo,xw,false⟩).map I,rfl,⟨rf,rf,rf,rf,rf,rf,tv⟩,(fun x hx=>by obtain ⟨n,_,rfl⟩:=List.mem_map.1 hx; rfl),?_⟩
   refine ⟨Nat,reInv2 its L i ((k1,k2),⟨xi,xo,xw,false⟩),fun j=>j≤6,fun j=>6 - j,0,fun _=>rfl,⟨⟨rfl,rfl,rf,rf,rf,tv⟩,⟨⟨rf,rf,rf,rf,rfl,tv⟩,⟨rfl,rfl⟩,⟨rfl,by simp⟩,tv⟩,rfl,rfl⟩,by omega,?_⟩
   intro j hj
   refine ⟨fun h=>?_,fun h=>?_⟩
   ·have h2:(j:Int)<6:=of_decide_eq_true h
    have hj2:j<6:=by omega
    have hnt:=numsT (k1,k2) ⟨xi,xo,xw,false⟩ hj2
    have hlt6:j<(nums (k1,k2) ⟨xi,xo,xw,false⟩).length:=hj2
    have hin:InI ((nums (k1,k2) ⟨xi,xo,xw,false⟩).getD j 0):=by
     rw [List.getD_eq_getElem?_getD,List.getElem?_eq_getElem hlt6]
     exact hp0 _ (List.getElem_mem hlt6)
    have h3:=ibytes_len ((nums (k1,k2) ⟨xi,xo,xw,false⟩).getD j 0)
    have h4:=flat_len ((nums (k1,k2) ⟨xi,xo,xw,false⟩).take j)
    have h5:((nums (k1,k2) ⟨xi,xo,xw,false⟩).take j).length≤6:=by rw [List.length_take]; exact Nat.min_le_right _ _
    have h6:=encS_len L i hl
    refine ⟨I ((nums (k1,k2) ⟨xi,xo,xw,false⟩).getD j 0),fun _=>⟨by omega,by simp only [List.getElem?_map,Int.toNat_natCast,List.getElem?_eq_getElem hlt6,List.getD_eq_getElem?_getD]; rfl⟩,?_⟩
    refine .inr ⟨[],[.dv (I ((nums (k1,k2) ⟨xi,xo,xw,false⟩).getD j 0))],[],1,_,_,rint_spec _ hin,by kernel_rfl,by kernel_rfl,⟨rf,tv⟩,tv,?_⟩
    refine .inr (.inl ⟨closed_Y _,(ibytes ((nums (k1,k2) ⟨xi,xo,xw,false⟩).getD j 0)).map Y,ELes.refl _,(by rw [byWB]; simp only [List.length_map,List.length_append]; omega),(by simp only [List.length_map,List.length_append]; omega),?_⟩)
    refine ⟨fun _=>⟨by omega,by omega⟩,j+1,⟨⟨rfl,rfl,rf,rf,le_int (by simp),tv⟩,⟨⟨rf,rf,rf,rf,rfl,tv⟩,⟨rfl,rfl⟩,⟨rfl,?_⟩,tv⟩,rfl,rfl⟩,by show j+1≤6; omega,by show 6 - (j+1)<6 - j; omega⟩
    show DV.osl 1 _=DV.osl 1 _
    congr 1
    rw [←List.map_append,List.append_assoc,hnt]
   ·have h2:¬ (j:Int)<6:=of_decide_eq_false h
    have hj6:j=6:=by omega
    subst hj6
    refine ⟨fun _=>⟨by omega,by omega⟩,i+1,⟨⟨rfl,rfl,le_int (by simp),tv⟩,⟨⟨rf,rf,rf,rf,rfl,tv⟩,⟨rfl,rfl⟩,⟨rfl,?_⟩,tv⟩,rfl,rfl⟩,by show i+1≤L.length; omega,by show L.length - (i+1)<L.length - i; omega⟩
    show DV.osl 1 _=DV.osl 1 _
    congr 2
    unfold encS
    rw [htk,List.append_assoc,List.flatMap_append]
    congr 1
    simp only [List.flatMap_cons,List.flatMap_nil,List.append_nil]
    rfl
  | true =>
   refine ⟨fun _=>?_,fun h=>Bool.noConfusion h⟩
   refine .inl ⟨(nums (k1,k2) ⟨xi,xo,xw,true⟩).map I,rfl,⟨rf,rf,rf,rf,rf,rf,tv⟩,(fun x hx=>by obtain ⟨n,_,rfl⟩:=List.mem_map.1 hx; rfl),?_⟩
   refine ⟨Nat,reInv2 its L i ((k1,k2),⟨xi,xo,xw,true⟩),fun j=>j≤6,fun j=>6 - j,0,fun _=>rfl,⟨⟨rfl,rfl,rf,rf,rf,tv⟩,⟨⟨rf,rf,rf,rf,rfl,tv⟩,⟨rfl,rfl⟩,⟨rfl,by simp⟩,tv⟩,rfl,rfl⟩,by omega,?_⟩
   intro j hj
   refine ⟨fun h=>?_,fun h=>?_⟩
   ·have h2:(j:Int)<6:=of_decide_eq_true h
    have hj2:j<6:=by omega
    have hnt:=numsT (k1,k2) ⟨xi,xo,xw,true⟩ hj2
    have hlt6:j<(nums (k1,k2) ⟨xi,xo,xw,true⟩).length:=hj2
    have hin:InI ((nums (k1,k2) ⟨xi,xo,xw,true⟩).getD j 0):=by
     rw [List.getD_eq_getElem?_getD,List.getElem?_eq_getElem hlt6]
     exact hp0 _ (List.getElem_mem hlt6)
    have h3:=ibytes_len ((nums (k1,k2) ⟨xi,xo,xw,true⟩).getD j 0)
    have h4:=flat_len ((nums (k1,k2) ⟨xi,xo,xw,true⟩).take j)
    have h5:((nums (k1,k2) ⟨xi,xo,xw,true⟩).take j).length≤6:=by rw [List.length_take]; exact Nat.min_le_right _ _
    have h6:=encS_len L i hl
    refine ⟨I ((nums (k1,k2) ⟨xi,xo,xw,true⟩).getD j 0),fun _=>⟨by omega,by simp only [List.getElem?_map,Int.toNat_natCast,List.getElem?_eq_getElem hlt6,List.getD_eq_getElem?_getD]; rfl⟩,?_⟩
    refine .inr ⟨[],[.dv (I ((nums (k1,k2) ⟨xi,xo,xw,true⟩).getD j 0))],[],1,_,_,rint_spec _ hin,by kernel_rfl,by kernel_rfl,⟨rf,tv⟩,tv,?_⟩
    refine .inr (.inl ⟨closed_Y _,(ibytes ((nums (k1,k2) ⟨xi,xo,xw,true⟩).getD j 0)).map Y,ELes.refl _,(by rw [byWB]; simp only [List.length_map,List.length_append]; omega),(by simp only [List.length_map,List.length_append]; omega),?_⟩)
    refine ⟨fun _=>⟨by omega,by omega⟩,j+1,⟨⟨rfl,rfl,rf,rf,le_int (by simp),tv⟩,⟨⟨rf,rf,rf,rf,rfl,tv⟩,⟨rfl,rfl⟩,⟨rfl,?_⟩,tv⟩,rfl,rfl⟩,by show j+1≤6; omega,by show 6 - (j+1)<6 - j; omega⟩
    show DV.osl 1 _=DV.osl 1 _
    congr 1
    rw [←List.map_append,List.append_assoc,hnt]
   ·have h2:¬ (j:Int)<6:=of_decide_eq_false h
    have hj6:j=6:=by omega
    subst hj6
    refine ⟨fun _=>⟨by omega,by omega⟩,i+1,⟨⟨rfl,rfl,le_int (by simp),tv⟩,⟨⟨rf,rf,rf,rf,rfl,tv⟩,⟨rfl,rfl⟩,⟨rfl,?_⟩,tv⟩,rfl,rfl⟩,by show i+1≤L.length; omega,by show L.length - (i+1)<L.length - i; omega⟩
    show DV.osl 1 _=DV.osl 1 _
    congr 2
    unfold encS
    rw [htk,List.append_assoc,List.flatMap_append]
    congr 1
    simp only [List.flatMap_cons,List.flatMap_nil,List.append_nil]
    rfl
 ·have he0:¬ i<L.length:=by simpa using h
  have he:i=L.length:=by omega
  subst he
  have hb:encS L L.length=encR L:=by unfold encS encR; rw [List.take_length]
  rw [←hb]
  exact ⟨_,_,⟨rfl,rfl⟩,by kernel_rfl,⟨rfl,tv⟩,⟨rf,rf,rf,rf,rfl,tv⟩,⟨rfl,rfl⟩,⟨rfl,rfl⟩,tv⟩
end Go.Proofs.YtccialgeakmmpaaGreatDoor
