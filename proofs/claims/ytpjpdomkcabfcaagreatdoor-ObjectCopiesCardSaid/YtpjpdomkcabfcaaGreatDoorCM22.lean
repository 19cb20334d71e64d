import Derived.Test.YtpjpdomkcabfcaaGreatDoorCM21
set_option linter.unusedVariables false
set_option linter.unusedSimpArgs false
set_option linter.unusedSectionVars false
namespace Go.Proofs.YtpjpdomkcabfcaaGreatDoor
open Go.TM
variable [KObj]
set_option maxRecDepth 100000
theorem set_map {L:OM} {i:Nat} {p:Ky × Ob}:(L.map eRo).set i (eRo p)=(L.set i p).map eRo:=(List.map_set ..).symm
set_option maxHeartbeats 4000000 in
theorem rgiv_spec (its:List Item) (L:OM) (hl:L.length≤1000000) (k:Ky) (fr to:Int) (hm:OkM its L):CSpec Tryz.prog 47 [.ptr 0 0,.dv (I k.1),.dv (I k.2),.dv (I fr),.dv (I to)] 2 (rfK its L 0) 0 [.dv (I (givE its L k fr to))] (rfK its (givM its L k fr to) 0):=by
 refine cspec_of tab_ok mixed (calls_snd _) (range_snd _) Tryz.func47 rfl rfl (by kernel_rfl) ?_
 have ho:=own_spec its L hl k fr
 rcases ownR_cases its L k fr with ⟨h0,x,hx,how,hr⟩ | h0
 ·obtain ⟨hlt,hat⟩:=fidx_some hx
  have e1:findI L k=(fidx L k:Nat):=by unfold findI; rw [if_pos hlt]
  have hps:=oput_set L k (givX x (its.getD x.item.toNat Item.zero) to) hlt
  rw [e1,hr] at ho
  generalize hi:fidx L k=i at ho hlt hat hps
  refine .inr ⟨[0,1],[.ptr 0 0,.dv (I k.1),.dv (I k.2),.dv (I fr)],rfK its L 0,0,_,_,ho,by kernel_rfl,by kernel_rfl,⟨rfl,rf,rf,rf,tv⟩,⟨⟨rf,rf,rf,rf,rfl,tv⟩,⟨rfl,rfl⟩,tv⟩,?_⟩
  have hel:(L.map eRo)[(i:Int).toNat]?=some (eRo (k,x)):=by simp [hat]
  refine ⟨fun h=>(by cases h),fun _=>?_⟩
  repeat first | refine ⟨id,?_⟩ | refine ⟨fun _ h=>bw_f h,?_⟩ | refine ⟨fun _ h=>bw_t h,?_⟩ | refine ⟨fun h=>⟨h,fun h2=>bw_and h h2⟩,?_⟩ | refine ⟨fun h=>⟨h,fun h2=>bw_andf h h2⟩,?_⟩
  refine ⟨fun h=>?_,fun h=>?_⟩
  ·have e:givE its L k fr to=1:=by
    unfold givE
    rw [hr,if_neg (by simp),if_pos]
    have h':(bif (bif decide (to<1) then true else decide (1073741824<to)) then true else to == fr)=true:=h
    unfold isOwner
    by_cases h1:to<1
    ·left; simp; omega
    ·by_cases h2:1073741824<to
     ·left; simp; omega
     ·right; simp [h1,h2] at h'; exact h'
   rw [givM,e]
   exact ⟨_,_,⟨rfl,rfl⟩,by kernel_rfl,⟨rf,tv⟩,⟨rf,rf,rf,rf,rfl,tv⟩,⟨rfl,rfl⟩,tv⟩
  ·have hok:¬ (isOwner to=false ∨ to=fr):=by
    have h':(bif (bif decide (to<1) then true else decide (1073741824<to)) then true else to == fr)=false:=h
    unfold isOwner
    by_cases h1:to<1
    ·simp [h1] at h'
    ·by_cases h2:1073741824<to
     ·simp [h1,h2] at h'
     ·simp [h1,h2] at h'
      rintro (h3 | h3)
      ·simp at h3; omega
      ·exact h' h3
   refine ⟨fun _=>⟨by omega,by simp; omega⟩,eRo (k,x),fun _=>hel,?_⟩
   refine ⟨fun h=>?_,fun h=>?_⟩
   ·have hb:x.bound=true:=h
    have e:givE its L k fr to=11:=by
     unfold givE
     rw [hr,if_neg (by simp),if_neg hok,if_pos hb]
    rw [givM,e]
    exact ⟨_,_,⟨rfl,rfl⟩,by kernel_rfl,⟨rf,tv⟩,⟨rf,rf,rf,rf,rfl,tv⟩,⟨rfl,rfl⟩,tv⟩
   ·have hb:x.bound=false:=h
    have e:givE its L k fr to=0:=by
     unfold givE
     rw [hr,if_neg (by simp),if_neg hok,if_neg (by simp [hb])]
    have hit:=hm k x hx
    refine ⟨fun _=>⟨by omega,by simp; omega⟩,[I to],⟨rf,tv⟩,eRo (k,x),hel,?_⟩
    have hel2:((L.map eRo).set (i:Int).toNat (eRo (k,{ x with owner:=to })))[(i:Int).toNat]?=some (eRo (k,{ x with owner:=to })):=by
     rw [List.getElem?_set_self]; simp; omega
    refine ⟨fun _=>⟨by omega,by simp; omega⟩,eRo (k,{ x with owner:=to }),fun _=>hel2,?_⟩
    refine ⟨eItem (its.getD x.item.toNat Item.zero),fun _=>⟨hit.1,item_at (i:=x.item) (by omega) (by omega)⟩,?_⟩
    refine ⟨fun _=>⟨by omega,by simp; omega⟩,[B (decide ((its.getD x.item.toNat Item.zero).bind=1))],⟨DV.Le.of_eq (congrArg B (by cases hq:decide ((its.getD x.item.toNat Item.zero).bind=1) <;> simp_all)),tv⟩,eRo (k,{ x with owner:=to }),hel2,?_⟩
    refine ⟨by kernel_rfl,?_⟩
    rw [givM,e,if_pos rfl,hr]
    refine ⟨_,_,⟨rfl,rfl⟩,by kernel_rfl,⟨rf,tv⟩,⟨rf,rf,rf,rf,rfl,tv⟩,⟨rfl,?_⟩,tv⟩
    rw [hps,←set_map]
    show DV.osl 6 _=DV.osl 6 _
    congr 1
    rw [List.set_set]
    rfl
 ·have e:givE its L k fr to=(ownR its L k fr).2.2:=by unfold givE; rw [if_pos h0]
  rw [givM,e,if_neg h0]
  refine .inr ⟨[0,1],[.ptr 0 0,.dv (I k.1),.dv (I k.2),.dv (I fr)],rfK its L 0,0,_,_,ho,by kernel_rfl,by kernel_rfl,⟨rfl,rf,rf,rf,tv⟩,⟨⟨rf,rf,rf,rf,rfl,tv⟩,⟨rfl,rfl⟩,tv⟩,?_⟩
  refine ⟨fun _=>?_,fun h=>?_⟩
  ·exact ⟨_,_,⟨rfl,rfl⟩,by kernel_rfl,⟨rf,tv⟩,⟨rf,rf,rf,rf,rfl,tv⟩,⟨rfl,rfl⟩,tv⟩
  ·exact absurd (by simpa using h) h0
theorem rep_ok {its:List Item} {L:OM} {k:Ky} {ac w:Int} {x:Ob} (hr:ownR its L k ac=(x,its.getD x.item.toNat Item.zero,0)):repE its L k ac w=if w<0 ∨ 1048576<w then 1 else 0:=by
 unfold repE; rw [hr,if_neg (by simp)]
theorem use_ok {its:List Item} {L:OM} {k:Ky} {ac lv w:Int} {x:Ob} (hr:ownR its L k ac=(x,its.getD x.item.toNat Item.zero,0)):useE its L k ac lv w=if w<0 ∨ 1048576<w then 1 else if lv<(its.getD x.item.toNat Item.zero).lev then 12 else if x.wear<w then 10 else 0:=by
 unfold useE; rw [hr,if_neg (by simp)]
set_option maxHeartbeats 4000000 in
theorem rrep_spec (its:List Item) (L:OM) (hl:L.length≤1000000) (k:Ky) (ac w:Int) (hm:OkS its L):CSpec Tryz.prog 49 [.ptr 0 0,.dv (I k.1),.dv (I k.2),.dv (I ac),.dv (I w)] 2 (rfK its L 0) 0 [.dv (I (repE its L k ac w))] (rfK its (repM its L k ac w) 0):=by
 refine cspec_of tab_ok mixed (calls_snd _) (range_snd _) Tryz.func49 rfl rfl (by kernel_rfl) ?_
 have ho:=own_spec its L hl k ac
 rcases ownR_cases its L k ac with ⟨h0,x,hx,how,hr⟩ | h0
 ·obtain ⟨hlt,hat⟩:=fidx_some hx
  have e1:findI L k=(fidx L k:Nat):=by unfold findI; rw [if_pos hlt]
  have hps:=oput_set L k (repX x (its.getD x.item.toNat Item.zero) w) hlt
  have hE:=rep_ok (w:=w) hr
  have hok:=hm k x hx
  rw [e1,hr] at ho
  generalize hi:fidx L k=i at ho hlt hat hps
  refine .inr ⟨[0,1],[.ptr 0 0,.dv (I k.1),.dv (I k.2),.dv (I ac)],rfK its L 0,0,_,_,ho,by kernel_rfl,by kernel_rfl,⟨rfl,rf,rf,rf,tv⟩,⟨⟨rf,rf,rf,rf,rfl,tv⟩,⟨rfl,rfl⟩,tv⟩,?_⟩
  have hel:(L.map eRo)[(i:Int).toNat]?=some (eRo (k,x)):=by simp [hat]
  refine ⟨fun h=>(by cases h),fun _=>?_⟩
  repeat first | refine ⟨id,?_⟩ | refine ⟨fun _ h=>bw_f h,?_⟩ | refine ⟨fun _ h=>bw_t h,?_⟩ | refine ⟨fun h=>⟨h,fun h2=>bw_and h h2⟩,?_⟩ | refine ⟨fun h=>⟨h,fun h2=>bw_andf h h2⟩,?_⟩
  refine ⟨fun h=>?_,fun h=>?_⟩
  ·have hw:w<0 ∨ 1048576<w:=by
    by_cases h1:w<0
    ·exact .inl h1
    ·simp [h1] at h; exact .inr h
   have e:repE its L k ac w=1:=by rw [hE,if_pos hw]
   rw [repM,e]
   exact ⟨_,_,⟨rfl,rfl⟩,by kernel_rfl,⟨rf,tv⟩,⟨rf,rf,rf,rf,rfl,tv⟩,⟨rfl,rfl⟩,tv⟩
  ·have hw:¬ (w<0 ∨ 1048576<w):=by
    rintro (h1 | h1) <;> simp [h1] at h
   have e:repE its L k ac w=0:=by rw [hE,if_neg hw]
   have a1:=hok.w0
   have a2:=hok.w1
   have a3:=hok.w2
   refine ⟨fun _=>⟨by omega,by simp; omega⟩,eRo (k,x),fun _=>hel,fun _=>⟨by show _≤x.wear+w; omega,by show x.wear+w≤_; omega⟩,?_⟩
   refine ⟨fun _=>⟨by omega,by simp; omega⟩,eRo (k,x),fun _=>hel,eItem (its.getD x.item.toNat Item.zero),fun _=>⟨hok.lo,item_at (i:=x.item) (by have:=hok.lo; omega) (by have:=hok.hi; omega)⟩,?_⟩
   refine ⟨fun _=>⟨by omega,by simp; omega⟩,[I (repX x (its.getD x.item.toNat Item.zero) w).wear],⟨rf,tv⟩,eRo (k,x),hel,?_⟩
   refine ⟨by kernel_rfl,?_⟩
   rw [repM,e,if_pos rfl,hr]
   refine ⟨_,_,⟨rfl,rfl⟩,by kernel_rfl,⟨rf,tv⟩,⟨rf,rf,rf,rf,rfl,tv⟩,⟨rfl,?_⟩,tv⟩
   rw [hps,←set_map]
   rfl
 ·have e:repE its L k ac w=(ownR its L k ac).2.2:=by unfold repE; rw [if_pos h0]
  rw [repM,e,if_neg h0]
  refine .inr ⟨[0,1],[.ptr 0 0,.dv (I k.1),.dv (I k.2),.dv (I ac)],rfK its L 0,0,_,_,ho,by kernel_rfl,by kernel_rfl,⟨rfl,rf,rf,rf,tv⟩,⟨⟨rf,rf,rf,rf,rfl,tv⟩,⟨rfl,rfl⟩,tv⟩,?_⟩
  refine ⟨fun _=>?_,fun h=>?_⟩
  ·exact ⟨_,_,⟨rfl,rfl⟩,by kernel_rfl,⟨rf,tv⟩,⟨rf,rf,rf,rf,rfl,tv⟩,⟨rfl,rfl⟩,tv⟩
  ·exact absurd (by simpa using h) h0
set_option maxHeartbeats 4000000 in
theorem ruse_spec (its:List Item) (L:OM) (hl:L.length≤1000000) (k:Ky) (ac lv w:Int) (hm:OkS its L):CSpec Tryz.prog 48 [.ptr 0 0,.dv (I k.1),.dv (I k.2),.dv (I ac),.dv (I lv),.dv (I w)] 2 (rfK its L 0) 0 [.dv (I (useE its L k ac lv w))] (rfK its (useM its L k ac lv w) 0):=by
 refine cspec_of tab_ok mixed (calls_snd _) (range_snd _) Tryz.func48 rfl rfl (by kernel_rfl) ?_
 have ho:=own_spec its L hl k ac
 rcases ownR_cases its L k ac with ⟨h0,x,hx,how,hr⟩ | h0
 ·obtain ⟨hlt,hat⟩:=fidx_some hx
  have e1:findI L k=(fidx L k:Nat):=by unfold findI; rw [if_pos hlt]
  have hps:=oput_set L k (useX x (its.getD x.item.toNat Item.zero) w) hlt
  have hE:=use_ok (lv:=lv) (w:=w) hr
  have hok:=hm k x hx
  rw [e1,hr] at ho
  generalize hi:fidx L k=i at ho hlt hat hps
  refine .inr ⟨[0,1],[.ptr 0 0,.dv (I k.1),.dv (I k.2),.dv (I ac)],rfK its L 0,0,_,_,ho,by kernel_rfl,by kernel_rfl,⟨rfl,rf,rf,rf,tv⟩,⟨⟨rf,rf,rf,rf,rfl,tv⟩,⟨rfl,rfl⟩,tv⟩,?_⟩
  have hel:(L.map eRo)[(i:Int).toNat]?=some (eRo (k,x)):=by simp [hat]
  refine ⟨fun h=>(by cases h),fun _=>?_⟩
  repeat first | refine ⟨id,?_⟩ | refine ⟨fun _ h=>bw_f h,?_⟩ | refine ⟨fun _ h=>bw_t h,?_⟩ | refine ⟨fun h=>⟨h,fun h2=>bw_and h h2⟩,?_⟩ | refine ⟨fun h=>⟨h,fun h2=>bw_andf h h2⟩,?_⟩
  refine ⟨fun h=>?_,fun h=>?_⟩
  ·have hw:w<0 ∨ 1048576<w:=by
    by_cases h1:w<0
    ·exact .inl h1
    ·simp [h1] at h; exact .inr h
   have e:useE its L k ac lv w=1:=by rw [hE,if_pos hw]
   rw [useM,e]
   exact ⟨_,_,⟨rfl,rfl⟩,by kernel_rfl,⟨rf,tv⟩,⟨rf,rf,rf,rf,rfl,tv⟩,⟨rfl,rfl⟩,tv⟩
  ·have hw:¬ (w<0 ∨ 1048576<w):=by
    rintro (h1 | h1) <;> simp [h1] at h
   have a1:=hok.w0
   have a2:=hok.w1
   have a3:=hok.w2
   rw [if_neg hw] at hE
   refine ⟨fun _=>⟨by omega,by simp; omega⟩,eRo (k,x),fun _=>hel,eItem (its.getD x.item.toNat Item.zero),fun _=>⟨hok.lo,item_at (i:=x.item) (by have:=hok.lo; omega) (by have:=hok.hi; omega)⟩,?_⟩
   refine ⟨by kernel_rfl,fun h1=>?_,fun h1=>?_⟩
   ·have h1:lv<(its.getD x.item.toNat Item.zero).lev:=of_decide_eq_true h1
    have e:useE its L k ac lv w=12:=by rw [hE,if_pos h1]
    rw [useM,e]
    exact ⟨_,_,⟨rfl,rfl⟩,by kernel_rfl,⟨rf,tv⟩,⟨rf,rf,rf,rf,rfl,tv⟩,⟨rfl,rfl⟩,tv⟩
   have h1:¬ lv<(its.getD x.item.toNat Item.zero).lev:=of_decide_eq_false h1
   rw [if_neg h1] at hE
   refine ⟨fun _=>⟨by omega,by simp; omega⟩,eRo (k,x),fun _=>hel,fun h2=>?_,fun h2=>?_⟩
   ·have h2:x.wear<w:=of_decide_eq_true h2
    have e:useE its L k ac lv w=10:=by rw [hE,if_pos h2]
    rw [useM,e]
    exact ⟨_,_,⟨rfl,rfl⟩,by kernel_rfl,⟨rf,tv⟩,⟨rf,rf,rf,rf,rfl,tv⟩,⟨rfl,rfl⟩,tv⟩
   have h2:¬ x.wear<w:=of_decide_eq_false h2
   have e:useE its L k ac lv w=0:=by rw [hE,if_neg h2]
   refine ⟨fun _=>⟨by omega,by simp; omega⟩,eRo (k,x),fun _=>hel,fun _=>⟨by show _≤x.wear - w; omega,by show x.wear - w≤_; omega⟩,?_⟩
   refine ⟨fun _=>⟨by omega,by simp; omega⟩,[I (x.wear - w)],⟨rf,tv⟩,eRo (k,x),hel,?_⟩
   refine ⟨by kernel_rfl,fun h3=>?_,fun h3=>?_⟩
   ·have h3:(its.getD x.item.toNat Item.zero).bind=2:=by
     have h':((its.getD x.item.toNat Item.zero).bind == 2)=true:=h3
     simpa using h'
    have hel2:((L.map eRo).set (i:Int).toNat (eRo (k,{ x with wear:=x.wear - w })))[(i:Int).toNat]?=some (eRo (k,{ x with wear:=x.wear - w })):=by
     rw [List.getElem?_set_self]; simp; omega
    refine ⟨fun _=>⟨by omega,by simp; omega⟩,[B true],⟨rf,tv⟩,eRo (k,{ x with wear:=x.wear - w }),hel2,?_⟩
    rw [useM,e,if_pos rfl,hr]
    refine ⟨_,_,⟨rfl,rfl⟩,by kernel_rfl,⟨rf,tv⟩,⟨rf,rf,rf,rf,rfl,tv⟩,⟨rfl,?_⟩,tv⟩
    rw [hps,←set_map]
    show DV.osl 6 _=DV.osl 6 _
    congr 1
    rw [List.set_set]
    have hx2:useX x (its.getD x.item.toNat Item.zero) w={ x with wear:=x.wear - w,bound:=true }:=by
     have hd:decide ((its.getD x.item.toNat Item.zero).bind=2)=true:=decide_eq_true h3
     simp only [useX,hd]
     cases x.bound <;> rfl
    rw [hx2]
    rfl
   ·have h3:¬ (its.getD x.item.toNat Item.zero).bind=2:=by
     have h':((its.getD x.item.toNat Item.zero).bind == 2)=false:=h3
     simpa using h'
    rw [useM,e,if_pos rfl,hr]
    refine ⟨_,_,⟨rfl,rfl⟩,by kernel_rfl,⟨rf,tv⟩,⟨rf,rf,rf,rf,rfl,tv⟩,⟨rfl,?_⟩,tv⟩
    have hx2:useX x (its.getD x.item.toNat Item.zero) w={ x with wear:=x.wear - w }:=by
     have hd:decide ((its.getD x.item.toNat Item.zero).bind=2)=false:=decide_eq_false h3
     simp only [useX,hd]
     cases hb:x.bound <;> simp [hb]
    rw [hps,←set_map,hx2]
    rfl
 ·have e:useE its L k ac lv w=(ownR its L k ac).2.2:=by unfold useE; rw [if_pos h0]
  rw [useM,e,if_neg h0]
  refine .inr ⟨[0,1],[.ptr 0 0,.dv (I k.1),.dv (I k.2),.dv (I ac)],rfK its L 0,0,_,_,ho,by kernel_rfl,by kernel_rfl,⟨rfl,rf,rf,rf,tv⟩,⟨⟨rf,rf,rf,rf,rfl,tv⟩,⟨rfl,rfl⟩,tv⟩,?_⟩
  refine ⟨fun _=>?_,fun h=>?_⟩
  ·exact ⟨_,_,⟨rfl,rfl⟩,by kernel_rfl,⟨rf,tv⟩,⟨rf,rf,rf,rf,rfl,tv⟩,⟨rfl,rfl⟩,tv⟩
  ·exact absurd (by simpa using h) h0
end Go.Proofs.YtpjpdomkcabfcaaGreatDoor
namespace Go.Proofs.YtpjpdomkcabfcaaGreatDoor
open Go.TM
def kltB (a b:Ky):Bool:=bif decide (a.1<b.1) then true else bif a.1 == b.1 then decide (a.2<b.2) else false
def posO:OM→Ky→Nat
 | [],_=>0
 | p::r,k=>if kltB p.1 k then posO r k+1 else 0
def insO (L:OM) (k:Ky) (x:Ob):OM:=L.take (posO L k)++(k,x)::L.drop (posO L k)
theorem posO_at:∀(L:OM) (k:Ky) (j:Nat),j≤L.length→(∀(i:Nat) (q:Ky × Ob),i<j→L[i]?=some q→kltB q.1 k=true)→(∀q,L[j]?=some q→kltB q.1 k=false)→posO L k=j
 | [],_,j,hj,_,_=>by simp at hj; subst hj; rfl
 | p::r,k,0,_,_,h=>by
  have:=h p rfl
  simp [posO,this]
 | p::r,k,j+1,hj,hn,h=>by
  have h0:=hn 0 p (by omega) rfl
  have ih:=posO_at r k j (by simpa using hj) (fun i q hi hq=>hn (i+1) q (by omega) (by simpa using hq)) (fun q hq=>h q (by simpa using hq))
  simp [posO,h0,ih]
variable [KObj]
def rputM (its:List Item) (L:OM) (k:Ky) (x:Ob):OM:=if putE its L k x=0 then insO L k x else L
theorem by48:(nth tab (nth tab 71).elem).bytes=48:=rfl
set_option maxRecDepth 100000
theorem fz_list (L:OM):(fzD (.osl 6 (L.map eRo))).Le (.sl 6 (L.map eRo)):=DV.Le.of_eq (by
 show DV.sl 6 (fzL (L.map eRo))=_
 rw [fzL_map (fun _=>rfl)])
def pInv (its:List Item) (L:OM) (k:Ky) (x:Ob) (j:Nat):AState:=⟨4,[(0,.ptr 0 0),(3,.ptr 2 0),(7,.dv (I j))],[(0,.cells [.dv (.sl 7 (its.map eItem)),.dv rulesD,.dv tabsD,.dv taxesD,.dv (.sl 6 (L.map eRo))]),(1,.dead),(2,.cells (dvs [I k.1,I k.2,I x.item,I x.owner,I x.wear,B x.bound]))]⟩
set_option maxHeartbeats 4000000 in
theorem rput_spec (its:List Item) (L:OM) (hl:L.length≤100000) (k:Ky) (x:Ob):CSpec Tryz.prog 17 [.ptr 0 0,ofD (eRo (k,x))] 2 (rfK its L 0) 20 [.dv (I (putE its L k x))] (rfK its (rputM its L k x) 1):=by
 refine cspecM_of tab_ok mixed (calls_snd _) (range_snd _) Tryz.func17 rfl rfl (by kernel_rfl) ?_
 repeat first | refine ⟨id,?_⟩ | refine ⟨fun _ h=>bw_f h,?_⟩ | refine ⟨fun _ h=>bw_t h,?_⟩ | refine ⟨fun h=>⟨h,fun h2=>bw_and h h2⟩,?_⟩ | refine ⟨fun h=>⟨h,fun h2=>bw_andf h h2⟩,?_⟩
 refine ⟨fun h=>?_,fun h=>?_⟩
 ·have e:putE its L k x=1:=by
   unfold putE
   rw [if_pos]
   by_cases h1:k.1<0
   ·exact .inl h1
   by_cases h2:k.2<0
   ·exact .inr (.inl h2)
   by_cases h3:1099511627776≤k.2
   ·exact .inr (.inr (.inl h3))
   refine .inr (.inr (.inr ?_))
   unfold isOwner
   by_cases h4:x.owner<1
   ·simp; omega
   ·simp [h1,h2,h3,h4] at h
    simp; omega
  rw [rputM,e]
  exact ⟨1,1,0,_,rfK its L 0,[.dv (I 1)],by kernel_rfl,rfl,⟨rf,tv⟩,⟨⟨rf,rf,rf,rf,rfl,tv⟩,⟨rfl,rfl⟩,tv⟩,_,_,⟨rfl,rfl⟩,by kernel_rfl,⟨rf,tv⟩,⟨rf,rf,rf,rf,rfl,tv⟩,⟨rfl,rfl⟩,tv⟩
 ·have hbad:¬ (k.1<0 ∨ k.2<0 ∨ 1099511627776≤k.2 ∨ isOwner x.owner=false):=by
   have h1:¬ k.1<0:=fun h1=>by simp [h1] at h
   have h2:¬ k.2<0:=fun h2=>by simp [h1,h2] at h
   have h3:¬ 1099511627776≤k.2:=fun h3=>by simp [h1,h2,h3] at h
   have h4:¬ x.owner<1:=fun h4=>by simp [h1,h2,h3,h4] at h
   have h5:¬ 1073741824<x.owner:=fun h5=>by simp [h1,h2,h3,h4,h5] at h
   rintro (h6 | h6 | h6 | h6)
   ·exact h1 h6
   ·exact h2 h6
   ·exact h3 h6
   ·unfold isOwner at h6; simp at h6; omega
  clear h
  have hkd:=kind_spec its L x.item
  have hE:putE its L k x=match typeOf its x.item with
   | none=>9
   | some t=>if x.wear<0 ∨ t.wear<x.wear then 5 else if (oget L k).isSome then 8 else 0:=by unfold putE; rw [if_neg hbad]; cases typeOf its x.item <;> rfl
  refine .inl (.inr ⟨[0,1],[.ptr 0 0,.dv (I x.item)],rfK its L 0,0,_,_,hkd,by kernel_rfl,by kernel_rfl,⟨rfl,rf,tv⟩,⟨⟨rf,rf,rf,rf,rfl,tv⟩,⟨rfl,rfl⟩,tv⟩,?_⟩)
  refine ⟨fun h=>?_,fun h=>?_⟩
  ·have ht:typeOf its x.item=none:=by
    cases hq:typeOf its x.item with
    | none=>rfl
    | some t=>rw [hq] at h; cases h
   have e:putE its L k x=9:=by rw [hE,ht]
   rw [rputM,e]
   exact ⟨1,1,0,_,rfK its L 0,[.dv (I 9)],by kernel_rfl,rfl,⟨rf,tv⟩,⟨⟨rf,rf,rf,rf,rfl,tv⟩,⟨rfl,rfl⟩,tv⟩,_,_,⟨rfl,rfl⟩,by kernel_rfl,⟨rf,tv⟩,⟨rf,rf,rf,rf,rfl,tv⟩,⟨rfl,rfl⟩,tv⟩
  ·obtain ⟨t,ht⟩:∃t,typeOf its x.item=some t:=by
    cases hq:typeOf its x.item with
    | none=>rw [hq] at h; cases h
    | some t=>exact ⟨t,rfl⟩
   obtain ⟨g1,g2,g3⟩:=typeOf_some ht
   have hkI:kI its x.item=t:=by unfold kI; rw [if_neg (by omega),g3]
   rw [ht] at hE
   simp only at hE
   rw [hkI]
   clear h
   repeat first | refine ⟨id,?_⟩ | refine ⟨fun _ h=>bw_f h,?_⟩ | refine ⟨fun _ h=>bw_t h,?_⟩ | refine ⟨fun h=>⟨h,fun h2=>bw_and h h2⟩,?_⟩ | refine ⟨fun h=>⟨h,fun h2=>bw_andf h h2⟩,?_⟩
   refine ⟨fun h=>?_,fun h=>?_⟩
   ·have hw:x.wear<0 ∨ t.wear<x.wear:=by
     by_cases h1:x.wear<0
     ·exact .inl h1
     ·simp [h1] at h; exact .inr h
    have e:putE its L k x=5:=by rw [hE,if_pos hw]
    rw [rputM,e]
    exact ⟨1,1,0,_,rfK its L 0,[.dv (I 5)],by kernel_rfl,rfl,⟨rf,tv⟩,⟨⟨rf,rf,rf,rf,rfl,tv⟩,⟨rfl,rfl⟩,tv⟩,_,_,⟨rfl,rfl⟩,by kernel_rfl,⟨rf,tv⟩,⟨rf,rf,rf,rf,rfl,tv⟩,⟨rfl,rfl⟩,tv⟩
   ·have hw:¬ (x.wear<0 ∨ t.wear<x.wear):=by
     rintro (h1 | h1) <;> simp [h1] at h
    rw [if_neg hw] at hE
    clear h
    have hf:=find_spec its L (by omega) k.1 k.2
    rw [show (k.1,k.2)=k from rfl] at hf
    refine .inl (.inr ⟨[0,1],[.ptr 0 0,.dv (I k.1),.dv (I k.2)],rfK its L 0,0,_,_,hf,by kernel_rfl,by kernel_rfl,⟨rfl,rf,rf,tv⟩,⟨⟨rf,rf,rf,rf,rfl,tv⟩,⟨rfl,rfl⟩,tv⟩,?_⟩)
    refine ⟨fun h=>?_,fun h=>?_⟩
    ·have h':0≤findI L k:=of_decide_eq_true h
     have hs:(oget L k).isSome=true:=by
      cases hq:oget L k with
      | none=>unfold findI at h'; rw [if_neg (fidx_none hq)] at h'; omega
      | some y=>rfl
     have e:putE its L k x=8:=by rw [hE,if_pos hs]
     rw [rputM,e]
     exact ⟨1,1,0,_,rfK its L 0,[.dv (I 8)],by kernel_rfl,rfl,⟨rf,tv⟩,⟨⟨rf,rf,rf,rf,rfl,tv⟩,⟨rfl,rfl⟩,tv⟩,_,_,⟨rfl,rfl⟩,by kernel_rfl,⟨rf,tv⟩,⟨rf,rf,rf,rf,rfl,tv⟩,⟨rfl,rfl⟩,tv⟩
    ·have h':¬ 0≤findI L k:=of_decide_eq_false h
     have hs:(oget L k).isSome=false:=by
      cases hq:oget L k with
      | none=>rfl
      | some y =>
       have:=(fidx_some hq).1
       unfold findI at h'; rw [if_pos this] at h'; omega
     have e:putE its L k x=0:=by rw [hE,if_neg (by rw [hs]; simp)]
     rw [rputM,e,if_pos rfl]
     clear h
     refine ⟨Nat,pInv its L k x,fun j=>j≤L.length∧∀(i:Nat) (q:Ky × Ob),i<j→L[i]?=some q→kltB q.1 k=true,fun j=>L.length - j,0,fun _=>rfl,⟨⟨rfl,rfl,rf,tv⟩,⟨⟨rf,rf,rf,rf,fz_list L,tv⟩,tv,⟨rf,rf,rf,rf,rf,rf,tv⟩,tv⟩,rfl,rfl⟩,⟨Nat.zero_le _,fun i q h=>by omega⟩,?_⟩
     rintro j ⟨hj,hn⟩
     have hel:decide ((j:Int)<((L.map eRo).length:Int))=true→0≤(j:Int)∧(L.map eRo)[(j:Int).toNat]?=some (eRo (L.getD j ((0,0),Ob.zero))):=fun h=>by
      have h2:j<L.length:=by have:=of_decide_eq_true h; simp at this; omega
      exact ⟨by omega,by simp [h2]⟩
     have hlt:j<L.length→L[j]?=some (L.getD j ((0,0),Ob.zero)):=fun h=>by simp [h]
     generalize L.getD j ((0,0),Ob.zero)=p at hel hlt
     have h1:∀{b:Bool},bw b true=true→b=true:=fun {b} h=>h
     have h2:∀{b c:Bool},(bw b true && c)=true→b=true:=fun {b c} h=>by cases b <;> simp_all [bw]
     repeat first | refine ⟨id,?_⟩ | refine ⟨fun _ h=>bw_f h,?_⟩ | refine ⟨fun _ h=>bw_t h,?_⟩ | refine ⟨fun h=>⟨h,fun h2=>bw_and h h2⟩,?_⟩ | refine ⟨fun h=>⟨h,fun h2=>bw_andf h h2⟩,?_⟩
     refine ⟨eRo p,fun h=>hel (h1 h),?_⟩
     repeat first | refine ⟨id,?_⟩ | refine ⟨fun _ h=>bw_f h,?_⟩ | refine ⟨fun _ h=>bw_t h,?_⟩ | refine ⟨fun h=>⟨h,fun h2=>bw_and h h2⟩,?_⟩ | refine ⟨fun h=>⟨h,fun h2=>bw_andf h h2⟩,?_⟩
     refine ⟨eRo p,fun h=>hel (h2 h),?_⟩
     repeat first | refine ⟨id,?_⟩ | refine ⟨fun _ h=>bw_f h,?_⟩ | refine ⟨fun _ h=>bw_t h,?_⟩ | refine ⟨fun h=>⟨h,fun h2=>bw_and h h2⟩,?_⟩ | refine ⟨fun h=>⟨h,fun h2=>bw_andf h h2⟩,?_⟩
     refine ⟨eRo p,fun h=>hel (by cases hq:decide ((j:Int)<((L.map eRo).length:Int)) with | true=>rfl | false=>rw [hq] at h; simp [bw] at h),?_⟩
     repeat first | refine ⟨id,?_⟩ | refine ⟨fun _ h=>bw_f h,?_⟩ | refine ⟨fun _ h=>bw_t h,?_⟩ | refine ⟨fun h=>⟨h,fun h2=>bw_and h h2⟩,?_⟩ | refine ⟨fun h=>⟨h,fun h2=>bw_andf h h2⟩,?_⟩
     refine ⟨by kernel_rfl,fun h=>?_,fun h=>?_⟩
     ·have h3:(bif decide ((j:Int)<((L.map eRo).length:Int)) then kltB p.1 k else false)=true:=h
      have hj1:j<L.length:=by
       by_cases hq:(j:Int)<((L.map eRo).length:Int)
       ·simp at hq; omega
       ·simp only [hq,decide_false,cond_false] at h3; cases h3
      have hq:decide ((j:Int)<((L.map eRo).length:Int))=true:=by simp; omega
      rw [hq] at h3
      have h3:kltB p.1 k=true:=h3
      refine ⟨fun _=>⟨by omega,by omega⟩,j+1,⟨⟨rfl,rfl,le_int (by simp),tv⟩,⟨⟨rf,rf,rf,rf,rf,tv⟩,tv,⟨rf,rf,rf,rf,rf,rf,tv⟩,tv⟩,rfl,rfl⟩,⟨by omega,fun i q hi hq'=>?_⟩,by show L.length - (j+1)<L.length - j; omega⟩
      by_cases e:i=j
      ·subst e
       rw [hlt hj1] at hq'; injection hq' with hq'; subst hq'; exact h3
      ·exact hn i q (by omega) hq'
     ·have h3:(bif decide ((j:Int)<((L.map eRo).length:Int)) then kltB p.1 k else false)=false:=h
      have hpo:posO L k=j:=posO_at L k j hj hn (fun q hq=>by
       have hj1:=(List.getElem?_eq_some_iff.1 hq).1
       have hq2:decide ((j:Int)<((L.map eRo).length:Int))=true:=by simp; omega
       rw [hq2] at h3
       rw [hlt hj1] at hq; injection hq with hq; subst hq; exact h3)
      refine ⟨fun _=>⟨by simp,by simp,by simp; omega⟩,.inr ⟨_,ELes.refl _,(by rw [by48]; simp; omega),(by simp; omega),?_⟩⟩
      refine .inl ⟨[eRo (k,x)],rfl,⟨rf,rf,rf,rf,rf,rf,tv⟩,(by simp; rfl),?_⟩
      refine .inr ⟨[eRo (k,x)],ELes.refl _,(by rw [by48]; simp; omega),(by simp; omega),?_⟩
      refine ⟨fun _=>⟨by simp,by simp; omega,by simp⟩,.inr ⟨_,ELes.refl _,(by rw [by48]; simp; omega),(by simp; omega),?_⟩⟩
      refine ⟨by kernel_rfl,?_⟩
      refine ⟨1,4,0,_,[(0,.cells [.dv (.sl 7 (its.map eItem)),.dv rulesD,.dv tabsD,.dv taxesD,.own 4 0 0 []]),(1,.dead),(4,.tree 0 0 (.osl 6 ((insO L k x).map eRo)))],[.dv (I 0)],by kernel_rfl,rfl,⟨rf,tv⟩,⟨⟨rf,rf,rf,rf,rfl,tv⟩,tv,⟨rfl,?_⟩,tv⟩,?_⟩
      ·show DV.osl 6 _=DV.osl 6 _
       congr 1
       unfold insO
       rw [hpo]
       rw [List.map_append,List.map_cons,List.map_take,List.map_drop]
       simp
       rw [List.take_of_length_le (by simp)]
      ·exact ⟨_,_,⟨rfl,rfl⟩,by kernel_rfl,⟨rf,tv⟩,⟨rf,rf,rf,rf,rfl,tv⟩,⟨rfl,rfl⟩,tv⟩
def rmakeX (its:List Item) (i ow:Int):Ob:=⟨i,ow,(kI its i).wear,decide ((kI its i).bind=1)⟩
set_option maxHeartbeats 4000000 in
theorem rmake_spec (its:List Item) (L:OM) (hl:L.length≤100000) (k:Ky) (i ow:Int):CSpec Tryz.prog 19 [.ptr 0 0,.dv (I k.1),.dv (I k.2),.dv (I i),.dv (I ow)] 2 (rfK its L 0) 30 [.dv (I (putE its L k (rmakeX its i ow)))] (rfK its (rputM its L k (rmakeX its i ow)) 1):=by
 refine cspec_of tab_ok mixed (calls_snd _) (range_snd _) Tryz.func19 rfl rfl (by kernel_rfl) ?_
 refine .inr ⟨[0,1],[.ptr 0 0,.dv (I i)],rfK its L 0,0,_,_,kind_spec its L i,by kernel_rfl,by kernel_rfl,⟨rfl,rf,tv⟩,⟨⟨rf,rf,rf,rf,rfl,tv⟩,⟨rfl,rfl⟩,tv⟩,?_⟩
 refine .inr ⟨[0,1],[.ptr 0 0,ofD (eRo (k,rmakeX its i ow))],rfK its L 0,20,_,_,rput_spec its L hl k (rmakeX its i ow),by kernel_rfl,by kernel_rfl,⟨rfl,⟨rf,rf,rf,rf,rf,DV.Le.of_eq (congrArg B (by simp [rmakeX]; cases hq:decide ((kI its i).bind=1) <;> simp_all)),tv⟩,tv⟩,⟨⟨rf,rf,rf,rf,rfl,tv⟩,⟨rfl,rfl⟩,tv⟩,?_⟩
 exact ⟨_,_,⟨rfl,rfl⟩,by kernel_rfl,⟨rf,tv⟩,⟨rf,rf,rf,rf,rfl,tv⟩,⟨rfl,rfl⟩,tv⟩
end Go.Proofs.YtpjpdomkcabfcaaGreatDoor
namespace Go.Proofs.YtpjpdomkcabfcaaGreatDoor
open Go.TM
variable [KObj]
set_option maxRecDepth 100000
def rfF (its:List Item) (L:OM):Boxes:=[(0,.cells [.dv (.sl 7 (its.map eItem)),.dv rulesD,.dv tabsD,.dv taxesD,.dv (.sl 6 (L.map eRo))])]
set_option maxHeartbeats 4000000 in
theorem findF_spec (its:List Item) (L:OM) (hl:L.length≤1000000) (a b:Int):CSpec Tryz.prog 43 [.ptr 0 0,.dv (I a),.dv (I b)] 1 (rfF its L) 0 [.dv (I (findI L (a,b)))] (rfF its L):=by
 refine cspec_of tab_ok mixed (calls_snd _) (range_snd _) Tryz.func43 rfl rfl (by kernel_rfl) ?_
 refine ⟨Nat,fun j=>⟨1,[(0,.ptr 0 0),(1,.dv (I a)),(2,.dv (I b)),(7,.dv (I j))],rfF its L⟩,fun j=>j≤L.length∧∀i q,i<j→L[i]?=some q→q.1 ≠ (a,b),fun j=>L.length - j,0,fun _=>rfl,⟨⟨rfl,rf,rf,rf,tv⟩,⟨⟨rf,rf,rf,rf,rf,tv⟩,tv⟩,rfl,rfl⟩,⟨Nat.zero_le _,fun i q h=>by omega⟩,?_⟩
 rintro j ⟨hj,hn⟩
 refine ⟨fun h=>?_,fun h=>?_⟩
 ·have hlt:j<L.length:=by simpa using h
  clear h
  have hel:(L.map eRo)[(j:Int).toNat]?=some (eRo L[j]):=by simp [hlt]
  refine ⟨eRo L[j],fun _=>⟨by omega,hel⟩,?_⟩
  repeat first | refine ⟨id,?_⟩ | refine ⟨fun _ h=>bw_f h,?_⟩ | refine ⟨fun _ h=>bw_t h,?_⟩ | refine ⟨fun h=>⟨h,fun h2=>bw_and h h2⟩,?_⟩ | refine ⟨fun h=>⟨h,fun h2=>bw_andf h h2⟩,?_⟩
  refine ⟨eRo L[j],fun _=>⟨by omega,hel⟩,?_⟩
  repeat first | refine ⟨id,?_⟩ | refine ⟨fun _ h=>bw_f h,?_⟩ | refine ⟨fun _ h=>bw_t h,?_⟩ | refine ⟨fun h=>⟨h,fun h2=>bw_and h h2⟩,?_⟩ | refine ⟨fun h=>⟨h,fun h2=>bw_andf h h2⟩,?_⟩
  refine ⟨fun h=>?_,fun h=>?_⟩
  ·have hk:L[j].1=(a,b):=by
    have h':(bif L[j].1.1 == a then L[j].1.2 == b else false)=true:=h
    have h1:L[j].1.1=a:=by cases hq:(L[j].1.1 == a) <;> simp_all
    have h2:L[j].1.2=b:=by simp [h1] at h'; exact h'
    exact Prod.ext h1 h2
   have e:findI L (a,b)=j:=by
    unfold findI
    rw [fidx_at L (a,b) j L[j] hn (List.getElem?_eq_getElem hlt) hk,if_pos hlt]
   rw [e]
   exact ⟨_,_,⟨rfl,rfl⟩,by kernel_rfl,⟨rf,tv⟩,⟨rf,rf,rf,rf,rf,tv⟩,tv⟩
  ·have hk:¬ L[j].1=(a,b):=by
    intro e
    have h':(bif L[j].1.1 == a then L[j].1.2 == b else false)=false:=h
    rw [e] at h'
    simp at h'
   refine ⟨fun _=>⟨by omega,by omega⟩,j+1,⟨⟨rfl,rf,rf,le_int (by simp),tv⟩,⟨⟨rf,rf,rf,rf,rf,tv⟩,tv⟩,rfl,rfl⟩,⟨by omega,fun i q hi hq=>?_⟩,by show L.length - (j+1)<L.length - j; omega⟩
   by_cases e:i=j
   ·subst e
    rw [List.getElem?_eq_getElem hlt] at hq; injection hq with hq; subst hq; exact hk
   ·exact hn i q (by omega) hq
 ·have he:¬ j<L.length:=by simpa using h
  have e:findI L (a,b)=-1:=by
   unfold findI
   rw [fidx_no L (a,b) (fun i q hq=>hn i q (by have:=(List.getElem?_eq_some_iff.1 hq).1; omega) hq)]
   simp
  rw [e]
  exact ⟨_,_,⟨rfl,rfl⟩,by kernel_rfl,⟨rf,tv⟩,⟨rf,rf,rf,rf,rf,tv⟩,tv⟩
set_option maxHeartbeats 4000000 in
theorem rremove_spec (its:List Item) (L:OM) (hl:L.length≤100000) (k:Ky):CSpec Tryz.prog 50 [.ptr 0 0,.dv (I k.1),.dv (I k.2)] 2 (rfK its L 0) 20 [ofD (eRo ((if (oget L k).isSome then k else (0,0)),(oget L k).getD Ob.zero)),.dv (I (if (oget L k).isSome then 0 else 7))] (rfK its (odel L k) 1):=by
 refine cspecM_of tab_ok mixed (calls_snd _) (range_snd _) Tryz.func50 rfl rfl (by kernel_rfl) ?_
 cases hq:oget L k with
 | none =>
  have e1:findI L k=-1:=by unfold findI; rw [if_neg (fidx_none hq)]
  have hf:=find_spec its L (by omega) k.1 k.2
  rw [show (k.1,k.2)=k from rfl,e1] at hf
  refine .inl (.inr ⟨[0,1],[.ptr 0 0,.dv (I k.1),.dv (I k.2)],rfK its L 0,0,_,_,hf,by kernel_rfl,by kernel_rfl,⟨rfl,rf,rf,tv⟩,⟨⟨rf,rf,rf,rf,rfl,tv⟩,⟨rfl,rfl⟩,tv⟩,?_⟩)
  refine ⟨fun _=>?_,fun h=>by cases h⟩
  rw [odel_none hq]
  exact ⟨1,1,0,_,rfK its L 0,[.agg (dvs [I 0,I 0,I 0,I 0,I 0,B false]),.dv (I 7)],by kernel_rfl,rfl,⟨⟨rf,rf,rf,rf,rf,rf,tv⟩,rf,tv⟩,⟨⟨rf,rf,rf,rf,rfl,tv⟩,⟨rfl,rfl⟩,tv⟩,_,_,⟨rfl,rfl⟩,by kernel_rfl,⟨⟨rf,rf,rf,rf,rf,rf,tv⟩,rf,tv⟩,⟨rf,rf,rf,rf,rfl,tv⟩,⟨rfl,rfl⟩,tv⟩
 | some x =>
  obtain ⟨hlt,hat⟩:=fidx_some hq
  have e1:findI L k=(fidx L k:Nat):=by unfold findI; rw [if_pos hlt]
  have hf:=findF_spec its L (by omega) k.1 k.2
  rw [show (k.1,k.2)=k from rfl,e1] at hf
  rw [odel_take]
  have hel:(L.map eRo)[((fidx L k:Nat):Int).toNat]?=some (eRo (k,x)):=by simp [hat]
  generalize fidx L k=i at hf hlt hat hel
  refine .inl (.inr ⟨[0],[.ptr 0 0,.dv (I k.1),.dv (I k.2)],rfF its L,0,_,_,hf,by kernel_rfl,by kernel_rfl,⟨rfl,rf,rf,tv⟩,⟨⟨rf,rf,rf,rf,fz_list L,tv⟩,tv⟩,?_⟩)
  refine ⟨fun h=>?_,fun _=>?_⟩
  ·have h':(i:Int)<0:=of_decide_eq_true h
   omega
  refine ⟨eRo (k,x),fun _=>⟨by omega,hel⟩,?_⟩
  refine ⟨fun _=>⟨by simp,by simp,by simp; omega⟩,.inr ⟨_,ELes.refl _,(by rw [by48]; simp; omega),(by simp; omega),?_⟩⟩
  refine ⟨fun _=>⟨by omega,by omega⟩,fun _=>⟨by simp; omega,by simp; omega,by simp⟩,.inr ⟨_,ELes.refl _,(by rw [by48]; simp; omega),(by simp; omega),?_⟩⟩
  refine ⟨by kernel_rfl,?_⟩
  refine ⟨1,4,0,_,[(0,.cells [.dv (.sl 7 (its.map eItem)),.dv rulesD,.dv tabsD,.dv taxesD,.own 4 0 0 []]),(1,.dead),(4,.tree 0 0 (.osl 6 ((L.take i++L.drop (i+1)).map eRo)))],[.agg (dvs [I k.1,I k.2,I x.item,I x.owner,I x.wear,B x.bound]),.dv (I 0)],by kernel_rfl,rfl,⟨⟨rf,rf,rf,rf,rf,rf,tv⟩,rf,tv⟩,⟨⟨rf,rf,rf,rf,rfl,tv⟩,tv,⟨rfl,?_⟩,tv⟩,?_⟩
  ·show DV.osl 6 _=DV.osl 6 _
   congr 1
   rw [List.map_append,List.map_take,List.map_drop]
   simp
   rw [List.take_of_length_le (by simp)]
  ·exact ⟨_,_,⟨rfl,rfl⟩,by kernel_rfl,⟨⟨rf,rf,rf,rf,rf,rf,tv⟩,rf,tv⟩,⟨rf,rf,rf,rf,rfl,tv⟩,⟨rfl,rfl⟩,tv⟩
end Go.Proofs.YtpjpdomkcabfcaaGreatDoor
namespace Go.Proofs.YtpjpdomkcabfcaaGreatDoor
open Go.TM
variable [KObj]
def rdoE (its:List Item) (L:OM) (o:Op):Int :=
 if o.kind=0 then putE its L (opK o) (rmakeX its o.item o.owner) else doE its L o
def rdoM (its:List Item) (L:OM) (o:Op):OM :=
 if o.kind=0 then rputM its L (opK o) (rmakeX its o.item o.owner)
 else if o.kind=1 then givM its L (opK o) o.owner o.a
 else if o.kind=2 then useM its L (opK o) o.owner (o.a+1) o.b
 else if o.kind=3 then repM its L (opK o) o.owner o.b
 else if o.kind=4 then odel L (opK o)
 else rputM its L (opK o) (opX o)
set_option maxRecDepth 100000
set_option maxHeartbeats 4000000 in
theorem rdo_spec (its:List Item) (L:OM) (hl:L.length≤100000) (o:Op) (hm:OkS its L) (ha:0≤o.a∧o.a≤1073741825):CSpec Tryz.prog 23 [.ptr 0 0,ofD (eOp o)] 2 (rfK its L 0) 0 [.dv (I (rdoE its L o))] (rfK its (rdoM its L o) 1):=by
 refine cspecM_of tab_ok mixed (calls_snd _) (range_snd _) Tryz.func23 rfl rfl (by kernel_rfl) ?_
 refine And.intro ?_ ?_
 ·intro h
  have h0:o.kind=0:=by have h':(o.kind == 0)=true:=h; simpa using h'
  clear h
  have e1:rdoE its L o=putE its L (opK o) (rmakeX its o.item o.owner):=by simp [rdoE,doE,h0]
  have e2:rdoM its L o=rputM its L (opK o) (rmakeX its o.item o.owner):=by simp [rdoM,h0]
  rw [e1,e2]
  refine .inl (.inr ⟨[0,1],[.ptr 0 0,.dv (I (opK o).1),.dv (I (opK o).2),.dv (I o.item),.dv (I o.owner)],rfK its L 0,30,_,_,rmake_spec its L hl (opK o) o.item o.owner,by kernel_rfl,by kernel_rfl,⟨rfl,rf,rf,rf,rf,tv⟩,⟨⟨rf,rf,rf,rf,rfl,tv⟩,⟨rfl,rfl⟩,tv⟩,?_⟩)
  exact ⟨1,1,1,_,rfK its (rputM its L (opK o) (rmakeX its o.item o.owner)) 1,[.dv (I (putE its L (opK o) (rmakeX its o.item o.owner)))],by kernel_rfl,rfl,⟨rf,tv⟩,⟨⟨rf,rf,rf,rf,rfl,tv⟩,⟨rfl,rfl⟩,tv⟩,_,_,⟨rfl,rfl⟩,by kernel_rfl,⟨rf,tv⟩,⟨rf,rf,rf,rf,rfl,tv⟩,⟨rfl,rfl⟩,tv⟩
 intro h
 have h0:¬ o.kind=0:=by have h':(o.kind == 0)=false:=h; simpa using h'
 clear h
 refine And.intro ?_ ?_
 ·intro h
  have h1:o.kind=1:=by have h':(o.kind == 1)=true:=h; simpa using h'
  clear h
  have e1:rdoE its L o=givE its L (opK o) o.owner o.a:=by simp [rdoE,doE,h1]
  have e2:rdoM its L o=givM its L (opK o) o.owner o.a:=by simp [rdoM,h1]
  rw [e1,e2]
  refine .inl (.inr ⟨[0,1],[.ptr 0 0,.dv (I (opK o).1),.dv (I (opK o).2),.dv (I o.owner),.dv (I o.a)],rfK its L 0,0,_,_,rgiv_spec its L (by omega) (opK o) o.owner o.a hm.okM,by kernel_rfl,by kernel_rfl,⟨rfl,rf,rf,rf,rf,tv⟩,⟨⟨rf,rf,rf,rf,rfl,tv⟩,⟨rfl,rfl⟩,tv⟩,?_⟩)
  exact ⟨1,1,0,_,rfK its (givM its L (opK o) o.owner o.a) 0,[.dv (I (givE its L (opK o) o.owner o.a))],by kernel_rfl,rfl,⟨rf,tv⟩,⟨⟨rf,rf,rf,rf,rfl,tv⟩,⟨rfl,rfl⟩,tv⟩,_,_,⟨rfl,rfl⟩,by kernel_rfl,⟨rf,tv⟩,⟨rf,rf,rf,rf,rfl,tv⟩,⟨rfl,rfl⟩,tv⟩
 intro h
 have h1:¬ o.kind=1:=by have h':(o.kind == 1)=false:=h; simpa using h'
 clear h
 refine And.intro ?_ ?_
 ·intro h
  have h2:o.kind=2:=by have h':(o.kind == 2)=true:=h; simpa using h'
  clear h
  have e1:rdoE its L o=useE its L (opK o) o.owner (o.a+1) o.b:=by simp [rdoE,doE,h2]
  have e2:rdoM its L o=useM its L (opK o) o.owner (o.a+1) o.b:=by simp [rdoM,h2]
  rw [e1,e2]
  refine ⟨fun _=>⟨by omega,by omega⟩,?_⟩
  refine .inl (.inr ⟨[0,1],[.ptr 0 0,.dv (I (opK o).1),.dv (I (opK o).2),.dv (I o.owner),.dv (I (o.a+1)),.dv (I o.b)],rfK its L 0,0,_,_,ruse_spec its L (by omega) (opK o) o.owner (o.a+1) o.b hm,by kernel_rfl,by kernel_rfl,⟨rfl,rf,rf,rf,rf,rf,tv⟩,⟨⟨rf,rf,rf,rf,rfl,tv⟩,⟨rfl,rfl⟩,tv⟩,?_⟩)
  exact ⟨1,1,0,_,rfK its (useM its L (opK o) o.owner (o.a+1) o.b) 0,[.dv (I (useE its L (opK o) o.owner (o.a+1) o.b))],by kernel_rfl,rfl,⟨rf,tv⟩,⟨⟨rf,rf,rf,rf,rfl,tv⟩,⟨rfl,rfl⟩,tv⟩,_,_,⟨rfl,rfl⟩,by kernel_rfl,⟨rf,tv⟩,⟨rf,rf,rf,rf,rfl,tv⟩,⟨rfl,rfl⟩,tv⟩
 intro h
 have h2:¬ o.kind=2:=by have h':(o.kind == 2)=false:=h; simpa using h'
 clear h
 refine And.intro ?_ ?_
 ·intro h
  have h3:o.kind=3:=by have h':(o.kind == 3)=true:=h; simpa using h'
  clear h
  have e1:rdoE its L o=repE its L (opK o) o.owner o.b:=by simp [rdoE,doE,h3]
  have e2:rdoM its L o=repM its L (opK o) o.owner o.b:=by simp [rdoM,h3]
  rw [e1,e2]
  refine .inl (.inr ⟨[0,1],[.ptr 0 0,.dv (I (opK o).1),.dv (I (opK o).2),.dv (I o.owner),.dv (I o.b)],rfK its L 0,0,_,_,rrep_spec its L (by omega) (opK o) o.owner o.b hm,by kernel_rfl,by kernel_rfl,⟨rfl,rf,rf,rf,rf,tv⟩,⟨⟨rf,rf,rf,rf,rfl,tv⟩,⟨rfl,rfl⟩,tv⟩,?_⟩)
  exact ⟨1,1,0,_,rfK its (repM its L (opK o) o.owner o.b) 0,[.dv (I (repE its L (opK o) o.owner o.b))],by kernel_rfl,rfl,⟨rf,tv⟩,⟨⟨rf,rf,rf,rf,rfl,tv⟩,⟨rfl,rfl⟩,tv⟩,_,_,⟨rfl,rfl⟩,by kernel_rfl,⟨rf,tv⟩,⟨rf,rf,rf,rf,rfl,tv⟩,⟨rfl,rfl⟩,tv⟩
 intro h
 have h3:¬ o.kind=3:=by have h':(o.kind == 3)=false:=h; simpa using h'
 clear h
 refine And.intro ?_ ?_
 ·intro h
  have h4:o.kind=4:=by have h':(o.kind == 4)=true:=h; simpa using h'
  clear h
  have e1:rdoE its L o=(if (oget L (opK o)).isSome then 0 else 7):=by simp [rdoE,doE,h4]
  have e2:rdoM its L o=odel L (opK o):=by simp [rdoM,h4]
  rw [e1,e2]
  refine .inl (.inr ⟨[0,1],[.ptr 0 0,.dv (I (opK o).1),.dv (I (opK o).2)],rfK its L 0,20,_,_,rremove_spec its L hl (opK o),by kernel_rfl,by kernel_rfl,⟨rfl,rf,rf,tv⟩,⟨⟨rf,rf,rf,rf,rfl,tv⟩,⟨rfl,rfl⟩,tv⟩,?_⟩)
  exact ⟨1,1,1,_,rfK its (odel L (opK o)) 1,[.dv (I (if (oget L (opK o)).isSome then 0 else 7))],by kernel_rfl,rfl,⟨rf,tv⟩,⟨⟨rf,rf,rf,rf,rfl,tv⟩,⟨rfl,rfl⟩,tv⟩,_,_,⟨rfl,rfl⟩,by kernel_rfl,⟨rf,tv⟩,⟨rf,rf,rf,rf,rfl,tv⟩,⟨rfl,rfl⟩,tv⟩
 intro h
 have h4:¬ o.kind=4:=by have h':(o.kind == 4)=false:=h; simpa using h'
 clear h
 have e1:rdoE its L o=putE its L (opK o) (opX o):=by simp [rdoE,doE,h0,h1,h2,h3,h4]
 have e2:rdoM its L o=rputM its L (opK o) (opX o):=by simp [rdoM,h0,h1,h2,h3,h4]
 rw [e1,e2]
 refine .inl (.inr ⟨[0,1],[.ptr 0 0,ofD (eRo (opK o,opX o))],rfK its L 0,20,_,_,rput_spec its L hl (opK o) (opX o),by kernel_rfl,by kernel_rfl,⟨rfl,⟨rf,rf,rf,rf,rf,rf,tv⟩,tv⟩,⟨⟨rf,rf,rf,rf,rfl,tv⟩,⟨rfl,rfl⟩,tv⟩,?_⟩)
 exact ⟨1,1,1,_,rfK its (rputM its L (opK o) (opX o)) 1,[.dv (I (putE its L (opK o) (opX o)))],by kernel_rfl,rfl,⟨rf,tv⟩,⟨⟨rf,rf,rf,rf,rfl,tv⟩,⟨rfl,rfl⟩,tv⟩,_,_,⟨rfl,rfl⟩,by kernel_rfl,⟨rf,tv⟩,⟨rf,rf,rf,rf,rfl,tv⟩,⟨rfl,rfl⟩,tv⟩
end Go.Proofs.YtpjpdomkcabfcaaGreatDoor
namespace Go.Proofs.YtpjpdomkcabfcaaGreatDoor
open Go.TM
variable [KObj]
def encR (L:OM):List Int:=ibytes L.length++L.flatMap fun p=>obB p.1 p.2
def encS (L:OM) (i:Nat):List Int:=ibytes L.length++(L.take i).flatMap fun p=>obB p.1 p.2
theorem encS_len (L:OM) (i:Nat) (hl:L.length≤100):(encS L i).length≤7000:=by
 have h1:=ibytes_len L.length
 have h2:∀l:OM,(l.flatMap fun p=>obB p.1 p.2).length≤66 * l.length:=by
  intro l
  induction l with
  | nil=>simp
  | cons p l ih =>
   have h:(obB p.1 p.2).length≤11 * 6:=flat_len (nums p.1 p.2)
   simp only [List.flatMap_cons,List.length_append,List.length_cons]
   omega
 have h3:=h2 (L.take i)
 have h4:(L.take i).length≤L.length:=by rw [List.length_take]; exact Nat.min_le_right _ _
 unfold encS
 simp only [List.length_append]
 omega
def reInv1 (its:List Item) (L:OM) (i:Nat):AState:=⟨3,[(0,.ptr 0 0),(3,.own 2 0 0 []),(4,.dv (I i))],rfK its L 0++[(2,.tree 0 0 (.osl 1 ((encS L i).map Y)))]⟩
def reInv2 (its:List Item) (L:OM) (i:Nat) (p:Ky × Ob) (j:Nat):AState:=⟨3,[(0,.ptr 0 0),(3,.own 2 0 0 []),(4,.dv (I i)),(7,.dv (Ints (nums p.1 p.2))),(8,.dv (I j))],rfK its L 0++[(2,.tree 0 0 (.osl 1 ((encS L i++((nums p.1 p.2).take j).flatMap ibytes).map Y)))]⟩
set_option maxRecDepth 100000
set_option maxHeartbeats 4000000 in
theorem rencode_spec (its:List Item) (L:OM) (hl:L.length≤100) (hi:∀p,p∈L→∀n,n∈nums p.1 p.2→InI n):CSpec Tryz.prog 44 [.ptr 0 0] 2 (rfK its L 0) 1 [.own 2 0 0 []] (rfK its L 0++[(2,.tree 0 0 (.osl 1 ((encR L).map Y)))]):=by
 refine cspec_of tab_ok mixed (calls_snd _) (range_snd _) Tryz.func44 rfl rfl (by kernel_rfl) ?_
 refine .inr ⟨[],[.dv (I (L.length:Nat))],[],1,_,_,rint_spec _ ⟨by omega,by omega⟩,by kernel_rfl,by kernel_rfl,⟨le_int (by simp),tv⟩,tv,?_⟩
 refine ⟨Nat,reInv1 its L,fun i=>i≤L.length,fun i=>L.length - i,0,fun _=>rfl,⟨⟨rfl,rfl,rf,tv⟩,⟨⟨rf,rf,rf,rf,rfl,tv⟩,⟨rfl,rfl⟩,⟨rfl,by simp [encS]⟩,tv⟩,rfl,rfl⟩,Nat.zero_le _,?_⟩
 intro i hi0
 refine ⟨fun h=>?_,fun h=>?_⟩
 ·have hlt:i<L.length:=by simpa using h
  clear h
  have hel:(L.map eRo)[(i:Int).toNat]?=some (eRo L[i]):=by simp [hlt]
  have hmem:L[i]∈L:=List.getElem_mem hlt
  refine ⟨fun _=>⟨by omega,by simp; omega⟩,eRo L[i],fun _=>hel,?_⟩
  have htk:(L.take (i+1))=L.take i++[L[i]]:=List.take_succ_eq_append_getElem hlt
  generalize L[i]=p at hel hmem htk
  have hp0:∀n,n∈nums p.1 p.2→InI n:=hi p hmem
  obtain ⟨⟨k1,k2⟩,⟨xi,xo,xw,xb⟩⟩:=p
  cases xb with
  | false =>
   refine ⟨fun h=>Bool.noConfusion h,fun _=>?_⟩
   refine .inl ⟨(nums (k1,k2) ⟨xi,xo,xw,false⟩).map I,rfl,⟨rf,rf,rf,rf,rf,rf,tv⟩,(fun x hx=>by obtain ⟨n,_,rfl⟩:=List.mem_map.1 hx; rfl),?_⟩
   refine ⟨Nat,reInv2 its L i ((k1,k2),⟨xi,xo,xw,false⟩),fun j=>j≤6,fun j=>6 - j,0,fun _=>rfl,⟨⟨rfl,rfl,rf,rf,rf,tv⟩,⟨⟨rf,rf,rf,rf,rfl,tv⟩,⟨rfl,rfl⟩,⟨rfl,by simp⟩,tv⟩,rfl,rfl⟩,by omega,?_⟩
   intro j hj
   refine ⟨fun h=>?_,fun h=>?_⟩
   ·have h2:(j:Int)<6:=of_decide_eq_true h
    have hj2:j<6:=by omega
    have hnt:=numsT (k1,k2) ⟨xi,xo,xw,false⟩ hj2
    have hlt6:j<(nums (k1,k2) ⟨xi,xo,xw,false⟩).length:=hj2
    have hin:InI ((nums (k1,k2) ⟨xi,xo,xw,false⟩).getD j 0):=by
     rw [List.getD_eq_getElem?_getD,List.getElem?_eq_getElem hlt6]
     exact hp0 _ (List.getElem_mem hlt6)
    have h3:=ibytes_len ((nums (k1,k2) ⟨xi,xo,xw,false⟩).getD j 0)
    have h4:=flat_len ((nums (k1,k2) ⟨xi,xo,xw,false⟩).take j)
    have h5:((nums (k1,k2) ⟨xi,xo,xw,false⟩).take j).length≤6:=by rw [List.length_take]; exact Nat.min_le_right _ _
    have h6:=encS_len L i hl
    refine ⟨I ((nums (k1,k2) ⟨xi,xo,xw,false⟩).getD j 0),fun _=>⟨by omega,by simp only [List.getElem?_map,Int.toNat_natCast,List.getElem?_eq_getElem hlt6,List.getD_eq_getElem?_getD]; rfl⟩,?_⟩
    refine .inr ⟨[],[.dv (I ((nums (k1,k2) ⟨xi,xo,xw,false⟩).getD j 0))],[],1,_,_,rint_spec _ hin,by kernel_rfl,by kernel_rfl,⟨rf,tv⟩,tv,?_⟩
    refine .inr (.inl ⟨closed_Y _,(ibytes ((nums (k1,k2) ⟨xi,xo,xw,false⟩).getD j 0)).map Y,ELes.refl _,(by rw [byWB]; simp only [List.length_map,List.length_append]; omega),(by simp only [List.length_map,List.length_append]; omega),?_⟩)
    refine ⟨fun _=>⟨by omega,by omega⟩,j+1,⟨⟨rfl,rfl,rf,rf,le_int (by simp),tv⟩,⟨⟨rf,rf,rf,rf,rfl,tv⟩,⟨rfl,rfl⟩,⟨rfl,?_⟩,tv⟩,rfl,rfl⟩,by show j+1≤6; omega,by show 6 - (j+1)<6 - j; omega⟩
    show DV.osl 1 _=DV.osl 1 _
    congr 1
    rw [←List.map_append,List.append_assoc,hnt]
   ·have h2:¬ (j:Int)<6:=of_decide_eq_false h
    have hj6:j=6:=by omega
    subst hj6
    refine ⟨fun _=>⟨by omega,by omega⟩,i+1,⟨⟨rfl,rfl,le_int (by simp),tv⟩,⟨⟨rf,rf,rf,rf,rfl,tv⟩,⟨rfl,rfl⟩,⟨rfl,?_⟩,tv⟩,rfl,rfl⟩,by show i+1≤L.length; omega,by show L.length - (i+1)<L.length - i; omega⟩
    show DV.osl 1 _=DV.osl 1 _
    congr 2
    unfold encS
    rw [htk,List.append_assoc,List.flatMap_append]
    congr 1
    simp only [List.flatMap_cons,List.flatMap_nil,List.append_nil]
    rfl
  | true =>
   refine ⟨fun _=>?_,fun h=>Bool.noConfusion h⟩
   refine .inl ⟨(nums (k1,k2) ⟨xi,xo,xw,true⟩).map I,rfl,⟨rf,rf,rf,rf,rf,rf,tv⟩,(fun x hx=>by obtain ⟨n,_,rfl⟩:=List.mem_map.1 hx; rfl),?_⟩
   refine ⟨Nat,reInv2 its L i ((k1,k2),⟨xi,xo,xw,true⟩),fun j=>j≤6,fun j=>6 - j,0,fun _=>rfl,⟨⟨rfl,rfl,rf,rf,rf,tv⟩,⟨⟨rf,rf,rf,rf,rfl,tv⟩,⟨rfl,rfl⟩,⟨rfl,by simp⟩,tv⟩,rfl,rfl⟩,by omega,?_⟩
   intro j hj
   refine ⟨fun h=>?_,fun h=>?_⟩
   ·have h2:(j:Int)<6:=of_decide_eq_true h
    have hj2:j<6:=by omega
    have hnt:=numsT (k1,k2) ⟨xi,xo,xw,true⟩ hj2
    have hlt6:j<(nums (k1,k2) ⟨xi,xo,xw,true⟩).length:=hj2
    have hin:InI ((nums (k1,k2) ⟨xi,xo,xw,true⟩).getD j 0):=by
     rw [List.getD_eq_getElem?_getD,List.getElem?_eq_getElem hlt6]
     exact hp0 _ (List.getElem_mem hlt6)
    have h3:=ibytes_len ((nums (k1,k2) ⟨xi,xo,xw,true⟩).getD j 0)
    have h4:=flat_len ((nums (k1,k2) ⟨xi,xo,xw,true⟩).take j)
    have h5:((nums (k1,k2) ⟨xi,xo,xw,true⟩).take j).length≤6:=by rw [List.length_take]; exact Nat.min_le_right _ _
    have h6:=encS_len L i hl
    refine ⟨I ((nums (k1,k2) ⟨xi,xo,xw,true⟩).getD j 0),fun _=>⟨by omega,by simp only [List.getElem?_map,Int.toNat_natCast,List.getElem?_eq_getElem hlt6,List.getD_eq_getElem?_getD]; rfl⟩,?_⟩
    refine .inr ⟨[],[.dv (I ((nums (k1,k2) ⟨xi,xo,xw,true⟩).getD j 0))],[],1,_,_,rint_spec _ hin,by kernel_rfl,by kernel_rfl,⟨rf,tv⟩,tv,?_⟩
    refine .inr (.inl ⟨closed_Y _,(ibytes ((nums (k1,k2) ⟨xi,xo,xw,true⟩).getD j 0)).map Y,ELes.refl _,(by rw [byWB]; simp only [List.length_map,List.length_append]; omega),(by simp only [List.length_map,List.length_append]; omega),?_⟩)
    refine ⟨fun _=>⟨by omega,by omega⟩,j+1,⟨⟨rfl,rfl,rf,rf,le_int (by simp),tv⟩,⟨⟨rf,rf,rf,rf,rfl,tv⟩,⟨rfl,rfl⟩,⟨rfl,?_⟩,tv⟩,rfl,rfl⟩,by show j+1≤6; omega,by show 6 - (j+1)<6 - j; omega⟩
    show DV.osl 1 _=DV.osl 1 _
    congr 1
    rw [←List.map_append,List.append_assoc,hnt]
   ·have h2:¬ (j:Int)<6:=of_decide_eq_false h
    have hj6:j=6:=by omega
    subst hj6
    refine ⟨fun _=>⟨by omega,by omega⟩,i+1,⟨⟨rfl,rfl,le_int (by simp),tv⟩,⟨⟨rf,rf,rf,rf,rfl,tv⟩,⟨rfl,rfl⟩,⟨rfl,?_⟩,tv⟩,rfl,rfl⟩,by show i+1≤L.length; omega,by show L.length - (i+1)<L.length - i; omega⟩
    show DV.osl 1 _=DV.osl 1 _
    congr 2
    unfold encS
    rw [htk,List.append_assoc,List.flatMap_append]
    congr 1
    simp only [List.flatMap_cons,List.flatMap_nil,List.append_nil]
    rfl
 ·have he0:¬ i<L.length:=by simpa using h
  have he:i=L.length:=by omega
  subst he
  have hb:encS L L.length=encR L:=by unfold encS encR; rw [List.take_length]
  rw [←hb]
  exact ⟨_,_,⟨rfl,rfl⟩,by kernel_rfl,⟨rfl,tv⟩,⟨rf,rf,rf,rf,rfl,tv⟩,⟨rfl,rfl⟩,⟨rfl,rfl⟩,tv⟩
end Go.Proofs.YtpjpdomkcabfcaaGreatDoor
namespace Go.Proofs.YtpjpdomkcabfcaaGreatDoor
open Go.TM
variable [KObj]
structure Same (m L:OM):Prop where
 nd:NdK m
 keys:L.map Prod.fst=keysOf m
 get:∀k,oget m k=oget L k
theorem keys_nd {m:OM} (h:NdK m):(keysOf m).Nodup:=(isortN_perm _ _).nodup_iff.2 h
theorem keys_pair {m:OM} (h:NdK m):(keysOf m).Pairwise klt:=isort_pair h
theorem Same.ndL {m L:OM} (h:Same m L):NdK L:=by unfold NdK; rw [h.keys]; exact keys_nd h.nd
theorem Same.len {m L:OM} (h:Same m L):L.length=m.length:=by
 have:=congrArg List.length h.keys
 rw [List.length_map] at this
 rw [this]; unfold keysOf; rw [isortN_len,List.length_map]
theorem Same.at {m L:OM} (h:Same m L) {p:Ky × Ob} (hp:p∈L):oget m p.1=some p.2:=by
 rw [h.get]; exact mem_oget h.ndL hp
theorem Same.enc {m L:OM} (h:Same m L):encB m=encR L:=by
 unfold encB encR
 rw [←h.keys,h.len,List.flatMap_map]
 congr 1
 have:∀l:OM,(∀p,p∈l→p∈L)→(l.flatMap fun p=>obB p.1 ((oget m p.1).getD Ob.zero))=l.flatMap fun p=>obB p.1 p.2:=by
  intro l hl
  induction l with
  | nil=>rfl
  | cons p l ih =>
   simp only [List.flatMap_cons]
   rw [ih (fun q hq=>hl q (by simp [hq])),h.at (hl p (by simp))]
   rfl
 exact this L fun p hp=>hp
theorem same_nil:Same [] []:=⟨by simp [NdK],rfl,fun _=>rfl⟩
def ownL (L:OM) (ow:Int):OM:=L.filter fun p=>p.2.owner == ow
theorem Same.of {m L:OM} (h:Same m L) (ow:Int):ofL m ow=(ownL L ow).map Prod.fst:=by
 refine sorted_ext (isort_pair (ownK_nd h.nd ow)) ?_ fun k=>?_
 ·have h1:(L.map Prod.fst).Pairwise klt:=by rw [h.keys]; exact keys_pair h.nd
  exact h1.sublist (List.filter_sublist.map _)
 ·rw [mem_ofL h.nd]
  simp only [ownL,List.mem_map,List.mem_filter]
  constructor
  ·rintro ⟨x,h1,h2⟩
   rw [h.get] at h1
   exact ⟨(k,x),⟨oget_mem h1,by simpa using h2⟩,rfl⟩
  ·rintro ⟨⟨k',x⟩,⟨h1,h2⟩,rfl⟩
   exact ⟨x,h.at h1,by simpa using h2⟩
theorem kltB_iff {a b:Ky}:kltB a b=true ↔ klt a b:=by
 unfold kltB klt
 by_cases h1:a.1<b.1
 ·simp [h1]
 ·by_cases h2:a.1=b.1
  ·simp [h1,h2]
  ·simp [h1,h2]
theorem insO_get {L:OM} {k q:Ky} {x:Ob} (hk:oget L k=none):oget (insO L k x) q=if k=q then some x else oget L q:=by
 have app:∀(a b:OM),oget (a++b) q=match oget a q with | some y=>some y | none=>oget b q:=by
  intro a b
  induction a with
  | nil=>rfl
  | cons p r ih =>
   simp only [List.cons_append,oget]
   split
   ·rfl
   ·exact ih
 unfold insO
 have e:oget L q=match oget (L.take (posO L k)) q with | some y=>some y | none=>oget (L.drop (posO L k)) q:=by
  rw [←app,List.take_append_drop]
 rw [app]
 by_cases hq:k=q
 ·subst hq
  rw [if_pos rfl]
  rw [hk] at e
  cases h1:oget (L.take (posO L k)) k with
  | some y=>rw [h1] at e; cases e
  | none=>simp [oget]
 ·rw [if_neg hq,e]
  cases h1:oget (L.take (posO L k)) q with
  | some y=>rfl
  | none=>simp only [oget,if_neg hq]
theorem pos_split {L:OM} {k:Ky}:(∀p,p∈L.take (posO L k)→kltB p.1 k=true):=by
 induction L with
 | nil=>simp
 | cons p r ih =>
  simp only [posO]
  split
  ·rename_i h
   intro q hq
   simp only [List.take_succ_cons,List.mem_cons] at hq
   rcases hq with rfl | hq
   ·exact h
   ·exact ih q hq
  ·simp
theorem pos_drop {L:OM} {k:Ky} (hs:(L.map Prod.fst).Pairwise klt) (hk:oget L k=none):∀p,p∈L.drop (posO L k)→klt k p.1:=by
 induction L with
 | nil=>simp
 | cons p r ih =>
  rw [List.map_cons,List.pairwise_cons] at hs
  have hk1:¬ p.1=k:=fun e=>by simp [oget,e] at hk
  have hk2:oget r k=none:=by simpa [oget,hk1] using hk
  simp only [posO]
  split
  ·exact ih hs.2 hk2
  ·rename_i h
   have h0:¬ klt p.1 k:=fun hh=>h (kltB_iff.2 hh)
   have h1:klt k p.1:=klt_of (by unfold kle klt at *; omega) (fun e=>hk1 e.symm)
   intro q hq
   rw [List.drop_zero] at hq
   rcases List.mem_cons.1 hq with rfl | hq
   ·exact h1
   ·exact klt_tr h1 (hs.1 q.1 (List.mem_map.2 ⟨q,hq,rfl⟩))
theorem keys_same {m L:OM} (hn:NdK m) (hs:(L.map Prod.fst).Pairwise klt) (hg:∀k,oget m k=oget L k):L.map Prod.fst=keysOf m:=by
 refine sorted_ext hs (keys_pair hn) fun k=>?_
 unfold keysOf
 rw [(isortN_perm _ _).mem_iff]
 constructor
 ·intro h
  obtain ⟨p,h1,rfl⟩:=List.mem_map.1 h
  have:∃x,oget L p.1=some x:=by
   cases hq:oget L p.1 with
   | some x=>exact ⟨x,rfl⟩
   | none =>
    have hnd:NdK L:=by
     unfold NdK List.Nodup
     exact hs.imp fun {a b} h=>fun e=>by subst e; exact klt_irr h
    rw [mem_oget hnd h1] at hq; cases hq
  obtain ⟨x,hx⟩:=this
  exact mem_keys ((hg _).trans hx)
 ·intro h
  obtain ⟨p,h1,rfl⟩:=List.mem_map.1 h
  exact mem_keys ((hg _).symm.trans (mem_oget hn h1))
theorem Same.srt {m L:OM} (h:Same m L):(L.map Prod.fst).Pairwise klt:=by rw [h.keys]; exact keys_pair h.nd
theorem Same.ins {m L:OM} (h:Same m L) {k:Ky} {x:Ob} (hk:oget m k=none):Same (oput m k x) (insO L k x):=by
 have hk2:oget L k=none:=(h.get k).symm.trans hk
 have hg:∀q,oget (oput m k x) q=oget (insO L k x) q:=fun q=>by rw [oget_put,insO_get hk2,h.get]
 have hn:=oput_nd (k:=k) (x:=x) h.nd
 refine ⟨hn,keys_same hn ?_ hg,hg⟩
 unfold insO
 rw [List.map_append,List.map_cons]
 have hs:=h.srt
 rw [show L.map Prod.fst=(L.take (posO L k)).map Prod.fst++(L.drop (posO L k)).map Prod.fst by rw [←List.map_append,List.take_append_drop]] at hs
 rw [List.pairwise_append] at hs ⊢
 have d1:=pos_drop h.srt hk2
 refine ⟨hs.1,List.pairwise_cons.2 ⟨fun q hq=>?_,hs.2.1⟩,fun a ha b hb=>?_⟩
 ·obtain ⟨p,hp,rfl⟩:=List.mem_map.1 hq
  exact d1 p hp
 ·rcases List.mem_cons.1 hb with rfl | hb
  ·obtain ⟨p,hp,rfl⟩:=List.mem_map.1 ha
   exact kltB_iff.1 (pos_split p hp)
  ·exact hs.2.2 a ha b hb
theorem put_keys {L:OM} {k:Ky} {x:Ob}:∀{y:Ob},oget L k=some y→(oput L k x).map Prod.fst=L.map Prod.fst:=by
 induction L with
 | nil=>intro y h; simp [oget] at h
 | cons p r ih =>
  intro y h
  simp only [oput]
  by_cases e:p.1=k
  ·rw [if_pos e]; simp [e]
  ·rw [if_neg e]
   simp only [oget,if_neg e] at h
   simp only [List.map_cons]
   rw [ih h]
theorem Same.upd {m L:OM} (h:Same m L) {k:Ky} {x y:Ob} (hk:oget m k=some y):Same (oput m k x) (oput L k x):=by
 have hg:∀q,oget (oput m k x) q=oget (oput L k x) q:=fun q=>by rw [oget_put,oget_put,h.get]
 have hn:=oput_nd (k:=k) (x:=x) h.nd
 refine ⟨hn,keys_same hn ?_ hg,hg⟩
 rw [put_keys ((h.get k).symm.trans hk)]
 exact h.srt
theorem Same.del {m L:OM} (h:Same m L) (k:Ky):Same (odel m k) (odel L k):=by
 have hg:∀q,oget (odel m k) q=oget (odel L k) q:=fun q=>by rw [oget_del h.nd,oget_del h.ndL,h.get]
 have hn:=odel_nd (k:=k) h.nd
 exact ⟨hn,keys_same hn (h.srt.sublist (odel_sub.map _)) hg,hg⟩
end Go.Proofs.YtpjpdomkcabfcaaGreatDoor
namespace Go.Proofs.YtpjpdomkcabfcaaGreatDoor
open Go.TM
variable [KObj]
def KO (m:OM):Prop:=∀k x,oget m k=some x→InI k.1∧InI k.2∧InI x.owner
theorem numS {its:List Item} {m:OM} (ho:OkS its m) (hk:KO m) (hl:its.length≤1000):NumS m:=by
 intro k x hx n hn
 have h1:=ho k x hx
 have h2:=hk k x hx
 have a0:=h1.lo
 have a1:=h1.hi
 have a2:=h1.w0
 have a3:=h1.w1
 have a4:=h1.w2
 simp only [nums,List.mem_cons,List.not_mem_nil,or_false] at hn
 rcases hn with rfl | rfl | rfl | rfl | rfl | rfl
 ·exact h2.1
 ·exact h2.2.1
 ·exact ⟨by omega,by omega⟩
 ·exact h2.2.2
 ·exact ⟨by omega,by omega⟩
 ·unfold bN; split <;> exact ⟨by omega,by omega⟩
theorem Same.num {m L:OM} (h:Same m L) (hn:NumS m):∀p,p∈L→∀n,n∈nums p.1 p.2→InI n:=fun p hp n hh=>hn p.1 p.2 (h.at hp) n hh
theorem KO.put {m:OM} (h:KO m) {k:Ky} {x:Ob} (hk:InI k.1∧InI k.2∧InI x.owner):KO (oput m k x):=by
 intro q y hy
 rw [oget_put] at hy
 split at hy
 ·rename_i e; injection hy with hy; subst hy; subst e; exact hk
 ·exact h q y hy
theorem owner_in {n:Int} (h:¬ isOwner n=false):InI n:=by
 unfold isOwner at h
 simp at h
 exact ⟨by omega,by omega⟩
theorem putE_ow {its:List Item} {m:OM} {k:Ky} {x:Ob} (h:putE its m k x=0):InI x.owner:=by
 unfold putE at h
 split at h
 ·simp at h
 ·rename_i hb
  exact owner_in fun e=>hb (.inr (.inr (.inr e)))
theorem ko_putM {its:List Item} {m:OM} (h:KO m) {k:Ky} {x:Ob} (hk:InI k.1∧InI k.2):KO (putM its m k x):=by
 unfold putM
 split
 ·rename_i e; exact h.put ⟨hk.1,hk.2,putE_ow e⟩
 ·exact h
theorem ko_doM {its:List Item} {m:OM} (h:KO m) (hn:NdK m) {o:Op} (hk:InI (opK o).1∧InI (opK o).2):KO (doM its m o):=by
 unfold doM
 split
 ·exact ko_putM h hk
 ·split
  ·unfold givM
   split
   ·rename_i e
    have he:=e
    unfold givE at he
    split at he
    ·rename_i h1; exact absurd he h1
    ·split at he
     ·simp at he
     ·rename_i h2
      exact h.put ⟨hk.1,hk.2,owner_in fun e=>h2 (.inl e)⟩
   ·exact h
  ·split
   ·unfold useM
    split
    ·rename_i e
     obtain ⟨x,hx,he,_⟩:=useE_ok e
     rw [he]
     exact h.put ⟨hk.1,hk.2,(h _ _ hx).2.2⟩
    ·exact h
   ·split
    ·unfold repM
     split
     ·rename_i e
      obtain ⟨x,hx,he,_⟩:=repE_ok e
      rw [he]
      exact h.put ⟨hk.1,hk.2,(h _ _ hx).2.2⟩
     ·exact h
    ·split
     ·intro q y hy
      rw [oget_del hn] at hy
      split at hy
      ·cases hy
      ·exact h q y hy
     ·exact ko_putM h hk
theorem putE_same {its:List Item} {m L:OM} (h:Same m L) (k:Ky) (x:Ob):putE its L k x=putE its m k x:=by unfold putE; rw [h.get]
theorem ownR_same {its:List Item} {m L:OM} (h:Same m L) (k:Ky) (ow:Int):ownR its L k ow=ownR its m k ow:=by unfold ownR; rw [h.get]
theorem kI_of {its:List Item} {i:Int} {t:Item} (h:typeOf its i=some t):kI its i=t:=by
 obtain ⟨g1,g2,g3⟩:=typeOf_some h
 unfold kI; rw [if_neg (by omega),g3]
theorem make_same {its:List Item} {m:OM} (k:Ky) (i ow:Int):putE its m k (rmakeX its i ow)=putE its m k (makeX its i ow):=by
 unfold putE
 cases ht:typeOf its i with
 | none=>simp only [rmakeX,makeX,ht]
 | some t=>simp only [rmakeX,makeX,ht,kI_of ht,tyI,Option.getD_some]
theorem make_ob {its:List Item} {m:OM} {k:Ky} {i ow:Int} (h:putE its m k (makeX its i ow)=0):rmakeX its i ow=makeX its i ow:=by
 unfold putE at h
 split at h
 ·simp at h
 ·cases ht:typeOf its i with
  | none=>simp only [makeX,ht] at h; simp at h
  | some t=>simp only [rmakeX,makeX,ht,kI_of ht,tyI,Option.getD_some]
theorem Same.putM {its:List Item} {m L:OM} (h:Same m L) (ht:TyOk its) (k:Ky) (x:Ob):Same (putM its m k x) (rputM its L k x):=by
 unfold Go.Proofs.YtpjpdomkcabfcaaGreatDoor.putM rputM
 rw [putE_same h]
 split
 ·rename_i e; exact h.ins (putE_ok ht e).2.1
 ·exact h
theorem Same.make {its:List Item} {m L:OM} (h:Same m L) (ht:TyOk its) (k:Ky) (i ow:Int):Same (Go.Proofs.YtpjpdomkcabfcaaGreatDoor.putM its m k (makeX its i ow)) (rputM its L k (rmakeX its i ow)):=by
 unfold Go.Proofs.YtpjpdomkcabfcaaGreatDoor.putM rputM
 rw [putE_same h,make_same]
 split
 ·rename_i e
  rw [make_ob e]
  exact h.ins (putE_ok ht e).2.1
 ·exact h
theorem sim_doE {its:List Item} {m L:OM} (h:Same m L) (o:Op):rdoE its L o=doE its m o:=by
 unfold rdoE doE
 split
 ·rw [putE_same h,make_same]
 ·simp only [givE,useE,repE,ownR_same h,putE_same h,h.get]
theorem sim_doM {its:List Item} {m L:OM} (h:Same m L) (ht:TyOk its) (o:Op):Same (doM its m o) (rdoM its L o):=by
 unfold rdoM doM
 split
 ·exact h.make ht _ _ _
 ·split
  ·have e:givE its L (opK o) o.owner o.a=givE its m (opK o) o.owner o.a:=by simp only [givE,ownR_same h]
   unfold givM
   rw [e,ownR_same h]
   split
   ·rename_i e2
    obtain ⟨x,hx,_⟩:=givE_ok e2
    exact h.upd hx
   ·exact h
  ·split
   ·have e:useE its L (opK o) o.owner (o.a+1) o.b=useE its m (opK o) o.owner (o.a+1) o.b:=by simp only [useE,ownR_same h]
    unfold useM
    rw [e,ownR_same h]
    split
    ·rename_i e2
     obtain ⟨x,hx,_⟩:=useE_ok e2
     exact h.upd hx
    ·exact h
   ·split
    ·have e:repE its L (opK o) o.owner o.b=repE its m (opK o) o.owner o.b:=by simp only [repE,ownR_same h]
     unfold repM
     rw [e,ownR_same h]
     split
     ·rename_i e2
      obtain ⟨x,hx,_⟩:=repE_ok e2
      exact h.upd hx
     ·exact h
    ·split
     ·exact h.del _
     ·exact h.putM ht _ _
end Go.Proofs.YtpjpdomkcabfcaaGreatDoor
