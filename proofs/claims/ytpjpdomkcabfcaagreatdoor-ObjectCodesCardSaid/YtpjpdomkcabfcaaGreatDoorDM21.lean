import Derived.Test.YtpjpdomkcabfcaaGreatDoorDM20
import Derived.Test.YtpjpdomkcabfcaaGreatDoorDM19
import Derived.WalkKit
import Derived.Lib.Mul64
import Derived.Laws.Bits64b
set_option linter.unusedVariables false
set_option linter.unusedSimpArgs false
set_option linter.unusedSectionVars false
namespace Go.Proofs.YtpjpdomkcabfcaaGreatDoor
open Go.TM
def rcOf:Code→Option RC
 | .seq a b=>match rcOf a with
  | some r=>some r
  | none=>rcOf b
 | .cond _ a b=>match rcOf a with
  | some r=>some r
  | none=>rcOf b
 | .block _ c=>rcOf c
 | .scope c=>rcOf c
 | .loop c=>rcOf c
 | .rangeFunc _ ps a b=>some ⟨ps,a,b⟩
 | _=>none
def rcF (f:Func):RC:=match f.body with
 | some c=>(match rcOf c with
  | some r=>r
  | none=>⟨#[],.skip,.skip⟩)
 | none=>⟨#[],.skip,.skip⟩
def okS:List AV→Bool
 | []=>true
 | .any::r=>okS r
 | .ptr _ _::r=>okS r
 | .dv _::r=>okS r
 | _=>false
variable [KObj]
theorem subWs_ok {m:Nat} {κ κ':Nat→Box}:∀{l:List AV},okS l=true→subWs m κ κ' l l
 | [],_=>trivial
 | .any::r,h=>⟨tv,subWs_ok (l:=r) h⟩
 | .ptr _ _::r,h=>⟨rfl,subWs_ok (l:=r) h⟩
 | .dv d::r,h=>⟨DV.Le.refl d,subWs_ok (l:=r) h⟩
def apS (i:Nat):List AV:=(List.replicate 13 AV.any).set 2 (.ptr i 0)
def apK (rc:RC) (ks:List Ky) (v:Nat):Boxes:=[(0,.rcd rc .ready (apS 1)),(1,.cells [.own 2 v 0 []]),(2,.tree v 0 (.osl 2 (ks.map eKy)))]
set_option maxRecDepth 100000
theorem apBody_spec (ks:List Ky) (hk:ks.length≤1000000) (x:Ky):YSpecR Tryz.prog [ofD (eKy x)] 3 (apK (rcF Tryz.f171) ks 0) 0 fun r k=>r=[.dv (.bool true)]∧k=apK (rcF Tryz.f171) (ks++[x]) 1:=by
 refine yspecR_of tab_ok mixed rfl (by kernel_rfl) ?_
 refine .inl ⟨[eKy x],rfl,⟨rf,rf,tv⟩,(by simp; rfl),.inr ⟨[eKy x],ELes.refl _,(by rw [by29]; simp; omega),(by simp; omega),?_⟩⟩
 exact ⟨_,_,⟨rfl,rfl⟩,by kernel_rfl,⟨rf,tv⟩,⟨rfl,rfl,subWs_ok rfl⟩,⟨rfl,tv⟩,⟨rfl,by simp⟩,tv⟩
def kyK (rc:RC) (m:OM):Boxes:=[(0,.rcd rc .ready (apS 3)),(1,.cells [.own 2 0 0 []]),(2,.tree 0 0 (.omap pairK (m.map eEnt))),(3,.cells [.dv .nils])]
def kyE (rc:RC) (m:OM) (ks:List Ky):Boxes:=[(0,.rcd rc .ready (apS 3)),(1,.cells [.own 2 0 0 []]),(2,.tree 0 0 (.omap pairK (m.map eEnt))),(3,.cells [.own 5 0 0 []]),(5,.tree 0 0 (.osl 2 (ks.map eKy)))]
def kyI (rc:RC) (m:OM):OfSt→AState
 | ⟨left,ids⟩=>⟨6,[(0,.yld 0),(5,.ptr 4 0)],[(0,.rcd rc .ready (apS 3)),(1,.cells [.own 2 0 0 []]),(2,.held),(3,.cells [.own 5 0 0 []]),(4,.itr 2 [] (.omap pairK (m.map eEnt)) (left.map eEnt) none),(5,.tree 0 0 (.osl 2 (ids.map eKy)))]⟩
set_option maxHeartbeats 4000000 in
theorem keys1_spec (rc:RC) (m:OM) (hl:m.length≤1000)
  (hb:∀(ks:List Ky) (_:ks.length≤1000000) (x:Ky),YSpecR Tryz.prog [ofD (eKy x)] 3 (apK rc ks 0) 0 fun r k=>r=[.dv (.bool true)]∧k=apK rc (ks++[x]) 1) :
  CSpecR Tryz.prog 154 [.yld 0,.ptr 1 0] 4 (kyK rc m) 2 fun r k=>∃ks:List Ky,ks.Perm (m.map Prod.fst)∧r=[]∧k=kyE rc m ks:=by
 refine cspecR_of tab_ok mixed (calls_snd _) (range_snd _) Tryz.func154 rfl rfl (by kernel_rfl) ?_
 refine ⟨OfSt,kyI rc m,fun z=>(z.left.map Prod.fst++z.ids).Perm (m.map Prod.fst)∧z.left.length+z.ids.length≤m.length,fun z=>z.left.length,⟨m,[]⟩,fun ⟨_,_⟩=>rfl,?_,⟨by simp,by simp⟩,?_⟩
 ·exact ⟨⟨rfl,rfl,tv⟩,⟨⟨rfl,rfl,subWs_ok rfl⟩,⟨rfl,tv⟩,tv,⟨⟨rfl,rfl,rfl,rfl,2,rfl⟩,tv⟩,⟨rfl,rfl,rfl,rfl,.inl rfl,tv⟩,⟨rfl,rfl,2,rfl⟩,tv⟩,rfl,rfl⟩
 ·rintro ⟨left,ids⟩ ⟨h1,h2⟩
  dsimp only at h1 h2
  refine ⟨tv,fun h=>⟨(fun h=>by cases h),fun _=>?_⟩,fun pos c hc=>⟨fun _=>?_,fun h=>by cases h⟩⟩
  ·have hz:left=[]:=by simpa using h
   subst hz
   refine ⟨_,_,⟨ids,by simpa using h1,rfl,rfl⟩,by kernel_rfl,?_⟩
   exact ⟨tv,⟨rfl,rfl,subWs_ok rfl⟩,⟨rfl,tv⟩,⟨rfl,rfl⟩,⟨rfl,tv⟩,⟨rfl,rfl⟩,tv⟩
  ·rw [List.getElem?_map] at hc
   obtain ⟨⟨k,x⟩,hk,rfl⟩:∃p,left[pos]?=some p∧c=eEnt p:=by
    cases hq:left[pos]? with
    | none=>rw [hq] at hc; cases hc
    | some p=>rw [hq] at hc; exact ⟨p,rfl,by simpa using hc.symm⟩
   refine ⟨closed_eOb x,?_⟩
   have hlt:=(List.getElem?_eq_some_iff.1 hk).1
   refine .inl ⟨[0,3,5],[ofD (eKy k)],apK rc ids 0,0,_,_,hb ids (by omega) k,by kernel_rfl,by kernel_rfl,⟨⟨rf,rf,tv⟩,tv⟩,⟨⟨rfl,rfl,subWs_ok rfl⟩,⟨rfl,tv⟩,⟨rfl,rfl⟩,tv⟩,?_⟩
   refine ⟨fun h=>(by cases h),fun _=>⟨⟨left.eraseIdx pos,ids++[k]⟩,?_,⟨?_,?_⟩,?_⟩⟩
   ·exact ⟨⟨rfl,rfl,tv⟩,⟨⟨rfl,rfl,subWs_ok rfl⟩,⟨rfl,tv⟩,tv,⟨rfl,tv⟩,⟨rfl,rfl,rfl,erase_map _ _,.inl rfl,tv⟩,⟨rfl,rfl⟩,tv⟩,rfl,rfl⟩
   ·refine List.Perm.trans ?_ h1
    have h3:=(erase_perm hk).map Prod.fst
    refine List.Perm.trans ?_ (h3.symm.append_right ids)
    simp only [List.map_cons,List.cons_append]
    rw [←List.append_assoc]
    exact List.perm_append_singleton _ _
   ·simp only [List.length_append,List.length_singleton,List.length_eraseIdx]
    split <;> omega
   ·simp only [List.length_eraseIdx]
    split <;> omega
def mpK (m:OM):Boxes:=[(0,.cells [.own 1 0 0 []]),(1,.tree 0 0 (.omap pairK (m.map eEnt)))]
set_option maxHeartbeats 4000000 in
theorem appendSeq_spec (m:OM) (hl:m.length≤1000) :
  CSpecR Tryz.prog 171 [.dv .nils,.fn 154 [.ptr 0 0]] 2 (mpK m) 4 fun r k=>∃ks:List Ky,ks.Perm (m.map Prod.fst)∧r=[.own 5 0 0 []]∧k=mpK m++[(5,.tree 0 0 (.osl 2 (ks.map eKy)))]:=by
 refine cspecR_of tab_ok mixed (calls_snd _) (range_snd _) Tryz.func171 rfl rfl (by kernel_rfl) ?_
 refine ⟨rcF Tryz.f171,rfl,?_⟩
 refine ⟨[3,0,1,2],[.yld 0,.ptr 1 0],kyK (rcF Tryz.f171) m,2,_,keys1_spec (rcF Tryz.f171) m hl (fun ks hk x=>apBody_spec ks hk x),by kernel_rfl,?_,?_,?_⟩
 ·exact ⟨rfl,rfl,tv⟩
 ·exact ⟨⟨rfl,rfl,tv,tv,rfl,tv,tv,tv,tv,tv,tv,tv,tv,tv,tv,tv⟩,⟨rfl,tv⟩,⟨rfl,rfl⟩,⟨rf,tv⟩,tv⟩
 ·rintro rs K2 ⟨ks,hp,rfl,rfl⟩
  refine ⟨by kernel_rfl,?_⟩
  exact ⟨_,_,⟨ks,hp,rfl,rfl⟩,by kernel_rfl,⟨rfl,tv⟩,⟨rfl,tv⟩,⟨rfl,rfl⟩,⟨rfl,rfl⟩,tv⟩
set_option maxHeartbeats 4000000 in
theorem collect_spec (m:OM) (hl:m.length≤1000) :
  CSpecR Tryz.prog 153 [.fn 154 [.ptr 0 0]] 2 (mpK m) 4 fun r k=>∃ks:List Ky,ks.Perm (m.map Prod.fst)∧r=[.own 5 0 0 []]∧k=mpK m++[(5,.tree 0 0 (.osl 2 (ks.map eKy)))]:=by
 refine cspecRX_of tab_ok mixed (calls_snd _) (range_snd _) Tryz.func153 rfl rfl (by kernel_rfl) ?_
 refine .inr ⟨[0,1],[.dv .nils,.fn 154 [.ptr 0 0]],mpK m,4,_,appendSeq_spec m hl,by kernel_rfl,?_,?_,?_⟩
 ·exact ⟨rf,⟨rfl,rfl,tv⟩,tv⟩
 ·exact ⟨⟨rfl,tv⟩,⟨rfl,rfl⟩,tv⟩
 rintro rs K2 ⟨ks,hp,rfl,rfl⟩
 refine ⟨by kernel_rfl,?_⟩
 exact ⟨_,_,⟨ks,hp,rfl,rfl⟩,by kernel_rfl,⟨rfl,tv⟩,⟨rfl,tv⟩,⟨rfl,rfl⟩,⟨rfl,rfl⟩,tv⟩
def keysOf (m:OM):List Ky:=isortN (m.map Prod.fst) ((m.map Prod.fst).length - 1)
set_option maxHeartbeats 4000000 in
theorem sortedFunc_spec (m:OM) (hn:NdK m) (hl:m.length≤12) :
  CSpec Tryz.prog 83 [.fn 154 [.ptr 0 0],.dv (.fn 35 [])] 2 (mpK m) 4 [.own 5 0 0 []] (mpK m++[(5,.tree 0 0 (.osl 2 ((keysOf m).map eKy)))]):=by
 refine cspecXX_of tab_ok mixed (calls_snd _) (range_snd _) Tryz.func83 rfl rfl (by kernel_rfl) ?_
 refine .inr ⟨[0,1],[.fn 154 [.ptr 0 0]],mpK m,4,_,collect_spec m (by omega),by kernel_rfl,?_,?_,?_⟩
 ·exact ⟨⟨rfl,rfl,tv⟩,tv⟩
 ·exact ⟨⟨rfl,tv⟩,⟨rfl,rfl⟩,tv⟩
 rintro rs K2 ⟨ks,hp,rfl,rfl⟩
 refine ⟨by kernel_rfl,?_⟩
 have hlen:ks.length≤12:=by rw [hp.length_eq,List.length_map]; exact hl
 have hs:=sort_spec ks hlen
 have he:isortN ks (ks.length - 1)=keysOf m:=isort_perm hp hn
 rw [he] at hs
 refine .inl (.inr ⟨[5],[.own 0 0 0 [],.dv (.fn 35 [])],[(0,.tree 0 0 (.osl 2 (ks.map eKy)))],0,_,_,hs,by kernel_rfl,by kernel_rfl,⟨rfl,rf,tv⟩,⟨⟨rfl,rfl⟩,tv⟩,?_⟩)
 exact ⟨_,_,⟨rfl,rfl⟩,by kernel_rfl,⟨rfl,tv⟩,⟨rfl,tv⟩,⟨rfl,rfl⟩,⟨rfl,rfl⟩,tv⟩
set_option maxHeartbeats 4000000 in
theorem mapKeys_spec (m:OM):CSpec Tryz.prog 84 [.own 0 0 0 []] 1 [(0,.tree 0 0 (.omap pairK (m.map eEnt)))] 1 [.fn 154 [.ptr 1 0]] [(0,.tree 0 0 (.omap pairK (m.map eEnt))),(1,.cells [.own 0 0 0 []])]:=by
 refine cspec_of tab_ok mixed (calls_snd _) (range_snd _) Tryz.func84 rfl rfl (by kernel_rfl) ?_
 exact ⟨_,_,⟨rfl,rfl⟩,by kernel_rfl,⟨⟨rfl,rfl,tv⟩,tv⟩,⟨rfl,rfl⟩,⟨rfl,tv⟩,tv⟩
set_option maxHeartbeats 4000000 in
theorem sorted_spec (its:List Item) (m:OM) (hn:NdK m) (hl:m.length≤12):CSpec Tryz.prog 53 [.ptr 0 0] 2 (stK its m) 5 [.own 6 0 0 []] (stK its m++[(6,.tree 0 0 (.osl 2 ((keysOf m).map eKy)))]):=by
 refine cspec_of tab_ok mixed (calls_snd _) (range_snd _) Tryz.func53 rfl rfl (by kernel_rfl) ?_
 refine .inr ⟨[1],[.own 0 0 0 []],[(0,.tree 0 0 (.omap pairK (m.map eEnt)))],1,_,_,mapKeys_spec m,by kernel_rfl,by kernel_rfl,⟨rfl,tv⟩,⟨⟨rfl,rfl⟩,tv⟩,?_⟩
 refine .inr ⟨[2,1],[.fn 154 [.ptr 0 0],.dv (.fn 35 [])],mpK m,4,_,_,sortedFunc_spec m hn hl,by kernel_rfl,by kernel_rfl,⟨⟨rfl,rfl,tv⟩,rf,tv⟩,⟨⟨rfl,tv⟩,⟨rfl,rfl⟩,tv⟩,?_⟩
 exact ⟨_,_,⟨rfl,rfl⟩,by kernel_rfl,⟨rfl,tv⟩,⟨rf,rf,rf,rf,rfl,tv⟩,⟨rfl,rfl⟩,⟨rfl,rfl⟩,tv⟩
end Go.Proofs.YtpjpdomkcabfcaaGreatDoor
namespace Go.Proofs.YtpjpdomkcabfcaaGreatDoor
open Go.TM
variable [KObj]
set_option maxRecDepth 100000
def makeX (its:List Item) (i ow:Int):Ob:=⟨i,ow,(tyI (typeOf its i)).wear,decide ((tyI (typeOf its i)).bind=1)⟩
set_option maxHeartbeats 4000000 in
theorem make_spec (its:List Item) (m:OM) (k:Ky) (i ow:Int):CSpec Tryz.prog 18 [.ptr 0 0,ofD (eKy k),.dv (I i),.dv (I ow)] 2 (stK its m) 0 [.dv (I (putE its m k (makeX its i ow)))] (stK its (putM its m k (makeX its i ow))):=by
 refine cspec_of tab_ok mixed (calls_snd _) (range_snd _) Tryz.func18 rfl rfl (by kernel_rfl) ?_
 refine .inr ⟨[0,1],[.ptr 0 0,.dv (I i)],stK its m,0,_,_,typeOf_spec its m i,by kernel_rfl,by kernel_rfl,⟨rfl,rf,tv⟩,⟨⟨rf,rf,rf,rf,rfl,tv⟩,⟨rfl,rfl⟩,tv⟩,?_⟩
 refine .inr ⟨[0,1],[.ptr 0 0,ofD (eKy k),ofD (eOb (makeX its i ow))],stK its m,0,_,_,put_spec its m k (makeX its i ow),by kernel_rfl,by kernel_rfl,⟨rfl,⟨rf,rf,tv⟩,⟨rf,rf,rf,rf,tv⟩,tv⟩,⟨⟨rf,rf,rf,rf,rfl,tv⟩,⟨rfl,rfl⟩,tv⟩,?_⟩
 exact ⟨_,_,⟨rfl,rfl⟩,by kernel_rfl,⟨rf,tv⟩,⟨rf,rf,rf,rf,rfl,tv⟩,⟨rfl,rfl⟩,tv⟩
structure OkO (its:List Item) (x:Ob):Prop where
 lo:0≤x.item
 hi:x.item<its.length
 w0:0≤x.wear
 w1:x.wear≤(its.getD x.item.toNat Item.zero).wear
 w2:(its.getD x.item.toNat Item.zero).wear≤1048576
def OkS (its:List Item) (m:OM):Prop:=∀k x,oget m k=some x→OkO its x
theorem OkS.okM {its:List Item} {m:OM} (h:OkS its m):OkM its m:=fun k x hx=>⟨(h k x hx).lo,(h k x hx).hi⟩
theorem ownR_ok {its:List Item} {m:OM} {k:Ky} {ow:Int} (h:(ownR its m k ow).2.2=0):∃x,oget m k=some x∧x.owner=ow∧ownR its m k ow=(x,its.getD x.item.toNat Item.zero,0):=by
 unfold ownR at h ⊢
 cases hq:oget m k with
 | none=>rw [hq] at h; simp at h
 | some x =>
  rw [hq] at h
  by_cases he:x.owner=ow
  ·exact ⟨x,rfl,he,by simp [he]⟩
  ·simp [he] at h
theorem get_spec (its:List Item) (m:OM) (k:Ky):CSpec Tryz.prog 12 [.ptr 0 0,ofD (eKy k)] 2 (stK its m) 0 [ofD (eOb ((oget m k).getD Ob.zero)),.dv (B (oget m k).isSome)] (stK its m):=by
 refine cspec_of tab_ok mixed (calls_snd _) (range_snd _) Tryz.func12 rfl rfl (by kernel_rfl) ?_
 refine ⟨keyTI,eKy k,rfl,rfl,eOb ((oget m k).getD Ob.zero),(oget m k).isSome,fun _=>mget_b m k,mget_z,rfl,?_⟩
 exact ⟨by kernel_rfl,_,_,⟨rfl,rfl⟩,by kernel_rfl,⟨⟨rf,rf,rf,rf,tv⟩,rf,tv⟩,⟨rf,rf,rf,rf,rfl,tv⟩,⟨rfl,rfl⟩,tv⟩
def useE (its:List Item) (m:OM) (k:Ky) (ac lv w:Int):Int :=
 if (ownR its m k ac).2.2 ≠ 0 then (ownR its m k ac).2.2
 else if w<0 ∨ 1048576<w then 1
 else if lv<(ownR its m k ac).2.1.lev then 12
 else if (ownR its m k ac).1.wear<w then 10
 else 0
def useX (x:Ob) (t:Item) (w:Int):Ob:={ x with wear:=x.wear - w,bound:=bif x.bound then true else decide (t.bind=2) }
def useM (its:List Item) (m:OM) (k:Ky) (ac lv w:Int):OM:=if useE its m k ac lv w=0 then oput m k (useX (ownR its m k ac).1 (ownR its m k ac).2.1 w) else m
set_option maxHeartbeats 4000000 in
theorem use_spec (its:List Item) (m:OM) (k:Ky) (ac lv w:Int) (hm:OkS its m):CSpec Tryz.prog 37 [.ptr 0 0,ofD (eKy k),.dv (I ac),.dv (I lv),.dv (I w)] 2 (stK its m) 0 [.dv (I (useE its m k ac lv w))] (stK its (useM its m k ac lv w)):=by
 refine cspec_of tab_ok mixed (calls_snd _) (range_snd _) Tryz.func37 rfl rfl (by kernel_rfl) ?_
 refine .inr ⟨[0,1],[.ptr 0 0,ofD (eKy k),.dv (I ac)],stK its m,0,_,_,owned_spec its m k ac hm.okM,by kernel_rfl,by kernel_rfl,⟨rfl,⟨rf,rf,tv⟩,rf,tv⟩,⟨⟨rf,rf,rf,rf,rfl,tv⟩,⟨rfl,rfl⟩,tv⟩,?_⟩
 refine ⟨fun h=>?_,fun h=>?_⟩
 ·have e:useE its m k ac lv w=(ownR its m k ac).2.2:=by
   unfold useE; rw [if_pos (by simpa using h)]
  refine ⟨_,_,⟨rfl,rfl⟩,by kernel_rfl,⟨?_,tv⟩,⟨rf,rf,rf,rf,rfl,tv⟩,⟨rfl,?_⟩,tv⟩
  ·rw [e]; exact rf
  ·have h0:¬ (ownR its m k ac).2.2=0:=by simpa using h
   rw [useM,e,if_neg h0]
 ·have h0:(ownR its m k ac).2.2=0:=by simpa using h
  obtain ⟨x,hx,how,he⟩:=ownR_ok h0
  have hok:=hm k x hx
  rw [he]
  unfold useM useE
  rw [he]
  simp only [ne_eq,not_true_eq_false,if_false]
  repeat first | refine ⟨id,?_⟩ | refine ⟨fun _ h=>bw_f h,?_⟩ | refine ⟨fun _ h=>bw_t h,?_⟩ | refine ⟨fun h=>⟨h,fun h2=>bw_and h h2⟩,?_⟩ | refine ⟨fun h=>⟨h,fun h2=>bw_andf h h2⟩,?_⟩
  refine ⟨fun h=>?_,fun h=>?_⟩
  ·have hw:w<0 ∨ 1048576<w:=by
    by_cases h1:w<0
    ·exact .inl h1
    ·simp [h1] at h; exact .inr h
   refine ⟨_,_,⟨rfl,rfl⟩,by kernel_rfl,⟨?_,tv⟩,⟨rf,rf,rf,rf,rfl,tv⟩,⟨rfl,?_⟩,tv⟩
   ·rw [if_pos hw]; exact rf
   ·rw [if_pos hw]; rfl
  ·have hw:¬ (w<0 ∨ 1048576<w):=by
    rintro (h1 | h1) <;> simp [h1] at h
   rw [if_neg hw]
   refine ⟨fun h=>?_,fun h=>?_⟩
   ·have h1:lv<(its.getD x.item.toNat Item.zero).lev:=of_decide_eq_true h
    refine ⟨_,_,⟨rfl,rfl⟩,by kernel_rfl,⟨?_,tv⟩,⟨rf,rf,rf,rf,rfl,tv⟩,⟨rfl,?_⟩,tv⟩
    ·rw [if_pos h1]; exact rf
    ·rw [if_pos h1]; rfl
   ·have h1:¬ lv<(its.getD x.item.toNat Item.zero).lev:=of_decide_eq_false h
    rw [if_neg h1]
    refine ⟨fun h=>?_,fun h=>?_⟩
    ·have h2:x.wear<w:=of_decide_eq_true h
     refine ⟨_,_,⟨rfl,rfl⟩,by kernel_rfl,⟨?_,tv⟩,⟨rf,rf,rf,rf,rfl,tv⟩,⟨rfl,?_⟩,tv⟩
     ·rw [if_pos h2]; exact rf
     ·rw [if_pos h2]; rfl
    ·have h2:¬ x.wear<w:=of_decide_eq_false h
     rw [if_neg h2,if_pos rfl]
     refine ⟨fun _=>⟨by omega,by have:=hok.w1; have:=hok.w2; omega⟩,?_⟩
     repeat first | refine ⟨id,?_⟩ | refine ⟨fun _ h=>bw_f h,?_⟩ | refine ⟨fun _ h=>bw_t h,?_⟩ | refine ⟨fun h=>⟨h,fun h2=>bw_and h h2⟩,?_⟩ | refine ⟨fun h=>⟨h,fun h2=>bw_andf h h2⟩,?_⟩
     refine ⟨keyTI,eKy k,rfl,rfl,eOb (useX x (its.getD x.item.toNat Item.zero) w),⟨rf,rf,rf,rf,tv⟩,rfl,false,fun _=>⟨old_closed m k,closed_eOb _⟩,?_⟩
     refine ⟨by kernel_rfl,?_⟩
     refine ⟨_,_,⟨rfl,rfl⟩,by kernel_rfl,⟨?_,tv⟩,⟨rf,rf,rf,rf,rfl,tv⟩,⟨rfl,?_⟩,tv⟩
     ·exact rf
     ·rw [mput_ky]
def repE (its:List Item) (m:OM) (k:Ky) (ac w:Int):Int :=
 if (ownR its m k ac).2.2 ≠ 0 then (ownR its m k ac).2.2
 else if w<0 ∨ 1048576<w then 1
 else 0
def repX (x:Ob) (t:Item) (w:Int):Ob:={ x with wear:=if t.wear<x.wear+w then t.wear else x.wear+w }
def repM (its:List Item) (m:OM) (k:Ky) (ac w:Int):OM:=if repE its m k ac w=0 then oput m k (repX (ownR its m k ac).1 (ownR its m k ac).2.1 w) else m
set_option maxHeartbeats 4000000 in
theorem rep_spec (its:List Item) (m:OM) (k:Ky) (ac w:Int) (hm:OkS its m):CSpec Tryz.prog 38 [.ptr 0 0,ofD (eKy k),.dv (I ac),.dv (I w)] 2 (stK its m) 0 [.dv (I (repE its m k ac w))] (stK its (repM its m k ac w)):=by
 refine cspec_of tab_ok mixed (calls_snd _) (range_snd _) Tryz.func38 rfl rfl (by kernel_rfl) ?_
 refine .inr ⟨[0,1],[.ptr 0 0,ofD (eKy k),.dv (I ac)],stK its m,0,_,_,owned_spec its m k ac hm.okM,by kernel_rfl,by kernel_rfl,⟨rfl,⟨rf,rf,tv⟩,rf,tv⟩,⟨⟨rf,rf,rf,rf,rfl,tv⟩,⟨rfl,rfl⟩,tv⟩,?_⟩
 refine ⟨fun h=>?_,fun h=>?_⟩
 ·have e:repE its m k ac w=(ownR its m k ac).2.2:=by
   unfold repE; rw [if_pos (by simpa using h)]
  refine ⟨_,_,⟨rfl,rfl⟩,by kernel_rfl,⟨?_,tv⟩,⟨rf,rf,rf,rf,rfl,tv⟩,⟨rfl,?_⟩,tv⟩
  ·rw [e]; exact rf
  ·have h0:¬ (ownR its m k ac).2.2=0:=by simpa using h
   rw [repM,e,if_neg h0]
 ·have h0:(ownR its m k ac).2.2=0:=by simpa using h
  obtain ⟨x,hx,how,he⟩:=ownR_ok h0
  have hok:=hm k x hx
  rw [he]
  unfold repM repE
  rw [he]
  simp only [ne_eq,not_true_eq_false,if_false]
  repeat first | refine ⟨id,?_⟩ | refine ⟨fun _ h=>bw_f h,?_⟩ | refine ⟨fun _ h=>bw_t h,?_⟩ | refine ⟨fun h=>⟨h,fun h2=>bw_and h h2⟩,?_⟩ | refine ⟨fun h=>⟨h,fun h2=>bw_andf h h2⟩,?_⟩
  refine ⟨fun h=>?_,fun h=>?_⟩
  ·have hw:w<0 ∨ 1048576<w:=by
    by_cases h1:w<0
    ·exact .inl h1
    ·simp [h1] at h; exact .inr h
   refine ⟨_,_,⟨rfl,rfl⟩,by kernel_rfl,⟨?_,tv⟩,⟨rf,rf,rf,rf,rfl,tv⟩,⟨rfl,?_⟩,tv⟩
   ·rw [if_pos hw]; exact rf
   ·rw [if_pos hw]; rfl
  ·have hw:¬ (w<0 ∨ 1048576<w):=by
    rintro (h1 | h1) <;> simp [h1] at h
   rw [if_neg hw,if_pos rfl]
   refine ⟨fun _=>⟨by have:=hok.w0; omega,by have:=hok.w1; have:=hok.w2; omega⟩,keyTI,eKy k,rfl,rfl,eOb (repX x (its.getD x.item.toNat Item.zero) w),⟨rf,rf,rf,rf,tv⟩,rfl,false,fun _=>⟨old_closed m k,closed_eOb _⟩,?_⟩
   refine ⟨by kernel_rfl,?_⟩
   refine ⟨_,_,⟨rfl,rfl⟩,by kernel_rfl,⟨?_,tv⟩,⟨rf,rf,rf,rf,rfl,tv⟩,⟨rfl,?_⟩,tv⟩
   ·exact rf
   ·rw [mput_ky]
def givE (its:List Item) (m:OM) (k:Ky) (fr to:Int):Int :=
 if (ownR its m k fr).2.2 ≠ 0 then (ownR its m k fr).2.2
 else if isOwner to=false ∨ to=fr then 1
 else if (ownR its m k fr).1.bound=true then 11
 else 0
def givX (x:Ob) (t:Item) (to:Int):Ob:={ x with owner:=to,bound:=decide (t.bind=1) }
def givM (its:List Item) (m:OM) (k:Ky) (fr to:Int):OM:=if givE its m k fr to=0 then oput m k (givX (ownR its m k fr).1 (ownR its m k fr).2.1 to) else m
set_option maxHeartbeats 4000000 in
theorem giv_spec (its:List Item) (m:OM) (k:Ky) (fr to:Int) (hm:OkS its m):CSpec Tryz.prog 36 [.ptr 0 0,ofD (eKy k),.dv (I fr),.dv (I to)] 2 (stK its m) 0 [.dv (I (givE its m k fr to))] (stK its (givM its m k fr to)):=by
 refine cspec_of tab_ok mixed (calls_snd _) (range_snd _) Tryz.func36 rfl rfl (by kernel_rfl) ?_
 refine .inr ⟨[0,1],[.ptr 0 0,ofD (eKy k),.dv (I fr)],stK its m,0,_,_,owned_spec its m k fr hm.okM,by kernel_rfl,by kernel_rfl,⟨rfl,⟨rf,rf,tv⟩,rf,tv⟩,⟨⟨rf,rf,rf,rf,rfl,tv⟩,⟨rfl,rfl⟩,tv⟩,?_⟩
 refine ⟨fun h=>?_,fun h=>?_⟩
 ·have e:givE its m k fr to=(ownR its m k fr).2.2:=by
   unfold givE; rw [if_pos (by simpa using h)]
  refine ⟨_,_,⟨rfl,rfl⟩,by kernel_rfl,⟨?_,tv⟩,⟨rf,rf,rf,rf,rfl,tv⟩,⟨rfl,?_⟩,tv⟩
  ·rw [e]; exact rf
  ·have h0:¬ (ownR its m k fr).2.2=0:=by simpa using h
   rw [givM,e,if_neg h0]
 ·have h0:(ownR its m k fr).2.2=0:=by simpa using h
  obtain ⟨x,hx,how,he⟩:=ownR_ok h0
  have hok:=hm k x hx
  rw [he]
  unfold givM givE
  rw [he]
  simp only [ne_eq,not_true_eq_false,if_false]
  refine .inl ⟨_,fun _=>(isOwner_spec to).ok,?_⟩
  repeat first | refine ⟨id,?_⟩ | refine ⟨fun _ h=>bw_f h,?_⟩ | refine ⟨fun _ h=>bw_t h,?_⟩ | refine ⟨fun h=>⟨h,fun h2=>bw_and h h2⟩,?_⟩ | refine ⟨fun h=>⟨h,fun h2=>bw_andf h h2⟩,?_⟩
  refine ⟨fun h=>?_,fun h=>?_⟩
  ·have hw:isOwner to=false ∨ to=fr:=by
    cases h1:isOwner to with
    | false=>exact .inl rfl
    | true=>simp [h1] at h; exact .inr h
   refine ⟨_,_,⟨rfl,rfl⟩,by kernel_rfl,⟨?_,tv⟩,⟨rf,rf,rf,rf,rfl,tv⟩,⟨rfl,?_⟩,tv⟩
   ·rw [if_pos hw]; exact rf
   ·rw [if_pos hw]; rfl
  ·have hw:¬ (isOwner to=false ∨ to=fr):=by
    rintro (h1 | h1) <;> simp [h1] at h
   rw [if_neg hw]
   refine ⟨fun h=>?_,fun h=>?_⟩
   ·refine ⟨_,_,⟨rfl,rfl⟩,by kernel_rfl,⟨?_,tv⟩,⟨rf,rf,rf,rf,rfl,tv⟩,⟨rfl,?_⟩,tv⟩
    ·rw [if_pos h]; exact rf
    ·rw [if_pos h]; rfl
   ·have hb:¬ x.bound=true:=by rw [h]; simp
    rw [if_neg hb,if_pos rfl]
    refine ⟨keyTI,eKy k,rfl,rfl,eOb (givX x (its.getD x.item.toNat Item.zero) to),⟨rf,rf,rf,rf,tv⟩,rfl,false,fun _=>⟨old_closed m k,closed_eOb _⟩,?_⟩
    refine ⟨by kernel_rfl,?_⟩
    refine ⟨_,_,⟨rfl,rfl⟩,by kernel_rfl,⟨?_,tv⟩,⟨rf,rf,rf,rf,rfl,tv⟩,⟨rfl,?_⟩,tv⟩
    ·exact rf
    ·rw [mput_ky]
end Go.Proofs.YtpjpdomkcabfcaaGreatDoor
namespace Go.Proofs.YtpjpdomkcabfcaaGreatDoor
open Go.TM
def bN (b:Bool):Int:=if b then 1 else 0
def nums (k:Ky) (x:Ob):List Int:=[k.1,k.2,x.item,x.owner,x.wear,bN x.bound]
def obB (k:Ky) (x:Ob):List Int:=(nums k x).flatMap ibytes
def encB (m:OM):List Int:=ibytes m.length++(keysOf m).flatMap fun k=>obB k ((oget m k).getD Ob.zero)
theorem ibytes_len (n:Int):(ibytes n).length≤11:=by
 have h:∀f n,(vbyteN f n).length≤f+1:=by
  intro f
  induction f with
  | zero=>intro n; simp [vbyteN]
  | succ f ih =>
   intro n
   simp only [vbyteN]
   split
   ·simp
   ·have:=ih (n / 128); simp; omega
 exact h 10 _
theorem flat_len:∀l:List Int,(l.flatMap ibytes).length≤11 * l.length
 | []=>by simp
 | x::l=>by
  have:=ibytes_len x
  have:=flat_len l
  simp only [List.flatMap_cons,List.length_append,List.length_cons]
  omega
variable [KObj]
def NumS (m:OM):Prop:=∀k x,oget m k=some x→∀n,n∈nums k x→InI n
set_option maxRecDepth 100000
def obD (k:Ky) (x:Ob):DV:=.agg [I k.1,I k.2,I x.item,I x.owner,I x.wear,B x.bound]
theorem number_spec (k:Ky) (x:Ob) (j:Nat) (hj:j<6):PSpec Tryz.prog 54 [obD k x,I j] [I ((nums k x).getD j 0)]:=by
 have hj':j=0 ∨ j=1 ∨ j=2 ∨ j=3 ∨ j=4 ∨ j=5:=by omega
 refine pspec_of tab_ok mixed (calls_snd _) (range_snd _) Tryz.func54 rfl (by kernel_rfl) rfl ?_
 rcases hj' with rfl | rfl | rfl | rfl | rfl | rfl
 ·exact ⟨fun _=>⟨rf,tv⟩,fun h=>by cases h⟩
 ·exact ⟨fun h=>(by cases h),fun _=>⟨fun _=>⟨rf,tv⟩,fun h=>by cases h⟩⟩
 ·exact ⟨fun h=>(by cases h),fun _=>⟨fun h=>(by cases h),fun _=>⟨fun _=>⟨rf,tv⟩,fun h=>by cases h⟩⟩⟩
 ·exact ⟨fun h=>(by cases h),fun _=>⟨fun h=>(by cases h),fun _=>⟨fun h=>(by cases h),fun _=>⟨fun _=>⟨rf,tv⟩,fun h=>by cases h⟩⟩⟩⟩
 ·exact ⟨fun h=>(by cases h),fun _=>⟨fun h=>(by cases h),fun _=>⟨fun h=>(by cases h),fun _=>⟨fun h=>(by cases h),fun _=>⟨fun _=>⟨rf,tv⟩,fun h=>by cases h⟩⟩⟩⟩⟩
 ·refine ⟨fun h=>(by cases h),fun _=>⟨fun h=>(by cases h),fun _=>⟨fun h=>(by cases h),fun _=>⟨fun h=>(by cases h),fun _=>⟨fun h=>(by cases h),fun _=>?_⟩⟩⟩⟩⟩
  exact ⟨fun h=>⟨le_int (by show (1:Int)=bN x.bound; rw [show x.bound=true from h]; rfl),tv⟩,fun h=>⟨le_int (by show (0:Int)=bN x.bound; rw [show x.bound=false from h]; rfl),tv⟩⟩
def eKk (its:List Item) (m:OM) (bs:List Int):Boxes:=stK its m++[(2,.cells [.own 3 0 0 []]),(3,.tree 0 0 (.osl 1 (bs.map Y))),(8,.tree 0 0 (.osl 2 ((keysOf m).map eKy)))]
def encT (m:OM) (i:Nat):List Int:=ibytes m.length++((keysOf m).take i).flatMap fun k=>obB k ((oget m k).getD Ob.zero)
def eInv1 (its:List Item) (m:OM) (i:Nat):AState:=⟨9,[(0,.ptr 0 0),(3,.ptr 2 0),(18,.own 8 0 0 []),(19,.dv (I (keysOf m).length)),(20,.dv (I i))],eKk its m (encT m i)⟩
def eInv2 (its:List Item) (m:OM) (i:Nat) (k:Ky) (x:Ob) (j:Nat):AState:=⟨9,[(0,.ptr 0 0),(3,.ptr 2 0),(6,.bfn 54 [.agg (dvs [I k.1,I k.2,I x.item,I x.owner,I x.wear,B x.bound])]),(18,.own 8 0 0 []),(19,.dv (I (keysOf m).length)),(20,.dv (I i)),(33,.dv (I j))],eKk its m (encT m i++((nums k x).take j).flatMap ibytes)⟩
theorem encB_len (m:OM) (hkl:(keysOf m).length=m.length) (hl:m.length≤12):(encB m).length≤900:=by
 have h1:=ibytes_len m.length
 have h2:∀l:List Ky,(l.flatMap fun k=>obB k ((oget m k).getD Ob.zero)).length≤66 * l.length:=by
  intro l
  induction l with
  | nil=>simp
  | cons k l ih =>
   have h:(obB k ((oget m k).getD Ob.zero)).length≤11 * 6:=flat_len (nums k ((oget m k).getD Ob.zero))
   simp only [List.flatMap_cons,List.length_append,List.length_cons]
   omega
 have h3:=h2 (keysOf m)
 unfold encB
 simp only [List.length_append]
 omega
theorem encT_len (m:OM) (i:Nat) (hkl:(keysOf m).length=m.length) (hl:m.length≤12):(encT m i).length≤900:=by
 have h1:=ibytes_len m.length
 have h2:∀l:List Ky,(l.flatMap fun k=>obB k ((oget m k).getD Ob.zero)).length≤66 * l.length:=by
  intro l
  induction l with
  | nil=>simp
  | cons k l ih =>
   have h:(obB k ((oget m k).getD Ob.zero)).length≤11 * 6:=flat_len (nums k ((oget m k).getD Ob.zero))
   simp only [List.flatMap_cons,List.length_append,List.length_cons]
   omega
 have h3:=h2 ((keysOf m).take i)
 have h4:((keysOf m).take i).length≤(keysOf m).length:=by rw [List.length_take]; exact Nat.min_le_right _ _
 unfold encT
 simp only [List.length_append]
 omega
theorem numsT (k:Ky) (x:Ob) {j:Nat} (hj:j<6):((nums k x).take j).flatMap ibytes++ibytes ((nums k x).getD j 0)=((nums k x).take (j+1)).flatMap ibytes:=by
 have hj':j<(nums k x).length:=hj
 rw [List.take_succ_eq_append_getElem hj',List.flatMap_append,List.getD_eq_getElem?_getD,List.getElem?_eq_getElem hj']
 simp
set_option maxHeartbeats 4000000 in
theorem encode_spec (its:List Item) (m:OM) (hn:NdK m) (hl:m.length≤12) (hi:NumS m):CSpec Tryz.prog 27 [.ptr 0 0] 2 (stK its m) 8 [.own 9 0 0 []] (stK its m++[(9,.tree 0 0 (.osl 1 ((encB m).map Y)))]):=by
 refine cspec_of tab_ok mixed (calls_snd _) (range_snd _) Tryz.func27 rfl rfl (by kernel_rfl) ?_
 refine .inr ⟨[2],[.ptr 0 0,.dv (I (m.length:Nat))],[(0,.cells [.dv .nils])],1,_,_,wint0_spec _ ⟨by omega,by omega⟩,by kernel_rfl,by kernel_rfl,⟨rfl,le_int (by simp),tv⟩,⟨⟨rf,tv⟩,tv⟩,?_⟩
 refine .inr ⟨[0,1],[.ptr 0 0],stK its m,5,_,_,sorted_spec its m hn hl,by kernel_rfl,by kernel_rfl,⟨rfl,tv⟩,⟨⟨rf,rf,rf,rf,rfl,tv⟩,⟨rfl,rfl⟩,tv⟩,?_⟩
 have hkl:(keysOf m).length=m.length:=by unfold keysOf; rw [isortN_len,List.length_map]
 refine ⟨Nat,eInv1 its m,fun i=>i≤(keysOf m).length,fun i=>(keysOf m).length - i,0,fun _=>rfl,⟨⟨rfl,rfl,rfl,le_int (by simp),rf,tv⟩,⟨⟨rf,rf,rf,rf,rfl,tv⟩,⟨rfl,rfl⟩,⟨rfl,tv⟩,⟨rfl,by simp [encT]⟩,⟨rfl,rfl⟩,tv⟩,rfl,rfl⟩,Nat.zero_le _,?_⟩
 intro i hi0
 refine ⟨fun h=>?_,fun h=>?_⟩
 ·have h':(i:Int)<((keysOf m).length:Int):=of_decide_eq_true h
  have hlt:i<(keysOf m).length:=by omega
  clear h
  have hkm:(keysOf m)[i]∈m.map Prod.fst:=(isortN_perm _ _).mem_iff.1 (List.getElem_mem hlt)
  obtain ⟨x,hx⟩:∃x,oget m (keysOf m)[i]=some x:=by
   obtain ⟨⟨k',x⟩,h1,h2⟩:=List.mem_map.1 hkm
   exact ⟨x,mem_oget hn (by rw [←h2]; exact h1)⟩
  refine ⟨fun _=>⟨by omega,by simp; omega⟩,eKy (keysOf m)[i],fun _=>by simp [hlt],?_⟩
  generalize hk:(keysOf m)[i]=k at hkm hx
  refine ⟨keyTI,eKy k,rfl,rfl,eOb x,true,fun _=>by rw [mget_ky,hx]; rfl,(fun h=>by cases h),rfl,?_⟩
  refine ⟨by kernel_rfl,Nat,eInv2 its m i k x,fun j=>j≤6,fun j=>6 - j,0,fun _=>rfl,⟨⟨rfl,rfl,⟨rfl,⟨rf,rf,rf,rf,rf,rf,tv⟩,tv⟩,rfl,rf,rf,rf,tv⟩,⟨⟨rf,rf,rf,rf,rfl,tv⟩,⟨rfl,rfl⟩,⟨rfl,tv⟩,⟨rfl,by simp⟩,⟨rfl,rfl⟩,tv⟩,rfl,rfl⟩,by omega,?_⟩
  intro j hj
  refine ⟨fun h=>?_,fun h=>?_⟩
  ·have h2:(j:Int)<6:=of_decide_eq_true h
   have hj2:j<6:=by omega
   refine .inl ⟨_,fun _=>(number_spec k x j hj2).ok,?_⟩
   have hin:InI ((nums k x).getD j 0):=hi k x hx _ (by
    rw [List.getD_eq_getElem?_getD,List.getElem?_eq_getElem (show j<(nums k x).length from hj2)]
    exact List.getElem_mem _)
   have hw:=wint_spec (encT m i++((nums k x).take j).flatMap ibytes) (by
    have h1:=encT_len m i hkl hl
    have h2:=flat_len ((nums k x).take j)
    have h3:((nums k x).take j).length≤6:=by rw [List.length_take]; exact Nat.min_le_right _ _
    simp only [List.length_append]; omega) _ hin
   refine .inr ⟨[2,3],[.ptr 0 0,.dv (I ((nums k x).getD j 0))],wK (encT m i++((nums k x).take j).flatMap ibytes) 0,0,_,_,hw,by kernel_rfl,by kernel_rfl,⟨rfl,rf,tv⟩,⟨⟨rfl,tv⟩,⟨rfl,rfl⟩,tv⟩,?_⟩
   refine ⟨fun _=>⟨by omega,by omega⟩,j+1,⟨⟨rfl,rfl,⟨rfl,⟨rf,rf,rf,rf,rf,rf,tv⟩,tv⟩,rfl,rf,rf,le_int (by simp),tv⟩,⟨⟨rf,rf,rf,rf,rfl,tv⟩,⟨rfl,rfl⟩,⟨rfl,tv⟩,⟨rfl,?_⟩,⟨rfl,rfl⟩,tv⟩,rfl,rfl⟩,by show j+1≤6; omega,by show 6 - (j+1)<6 - j; omega⟩
   show DV.osl 1 _=DV.osl 1 _
   congr 2
   rw [List.append_assoc]
   congr 1
   exact numsT k x hj2
  ·have h2:¬ (j:Int)<6:=of_decide_eq_false h
   have hj6:j=6:=by omega
   subst hj6
   refine ⟨fun _=>⟨by omega,by omega⟩,i+1,⟨⟨rfl,rfl,rfl,rf,le_int (by simp),tv⟩,⟨⟨rf,rf,rf,rf,rfl,tv⟩,⟨rfl,rfl⟩,⟨rfl,tv⟩,⟨rfl,?_⟩,⟨rfl,rfl⟩,tv⟩,rfl,rfl⟩,by show i+1≤(keysOf m).length; omega,by show (keysOf m).length - (i+1)<(keysOf m).length - i; omega⟩
   show DV.osl 1 _=DV.osl 1 _
   congr 2
   unfold encT
   rw [List.append_assoc]
   congr 1
   rw [List.take_succ_eq_append_getElem hlt,hk,List.flatMap_append]
   congr 1
   simp only [List.flatMap_cons,List.flatMap_nil,List.append_nil,hx]
   rfl
 ·have h':¬ (i:Int)<((keysOf m).length:Int):=of_decide_eq_false h
  have he:i=(keysOf m).length:=by omega
  subst he
  have hb:encT m (keysOf m).length=encB m:=by unfold encT encB; rw [List.take_length]
  have hne:encB m ≠ []:=by
   unfold encB
   have:=vbytes_ne (zz (m.length:Nat)).toNat
   simp only [ibytes]
   cases hq:vbytes (zz ((m.length:Nat):Int)).toNat with
   | nil=>exact absurd hq this
   | cons a b=>simp
  have hdn:=done_spec (encB m) hne (by have:=encB_len m hkl hl; omega)
  rw [←hb] at hdn
  refine .inr ⟨[2,3],[.ptr 0 0],wK (encT m (keysOf m).length) 0,1,_,_,hdn,by kernel_rfl,by kernel_rfl,⟨rfl,tv⟩,⟨⟨rfl,tv⟩,⟨rfl,rfl⟩,tv⟩,?_⟩
  rw [hb]
  exact ⟨_,_,⟨rfl,rfl⟩,by kernel_rfl,⟨rfl,tv⟩,⟨rf,rf,rf,rf,rfl,tv⟩,⟨rfl,rfl⟩,⟨rfl,rfl⟩,tv⟩
end Go.Proofs.YtpjpdomkcabfcaaGreatDoor
namespace Go.Proofs.YtpjpdomkcabfcaaGreatDoor
open Go.TM
set_option maxRecDepth 100000
def around (n m:Int):Int:=if n.tmod m<0 then n.tmod m+m else n.tmod m
theorem around_bd (n m:Int) (hm:1≤m):0≤around n m∧around n m<m:=by
 unfold around
 have h1:=Int.tmod_lt_of_pos n (show 0<m by omega)
 have h2:=Int.lt_tmod_of_pos n (show 0<m by omega)
 split <;> omega
variable [KObj]
theorem around_spec (n m:Int) (hm:1≤m) (hm2:m≤1000000000000):PSpec Tryz.prog 15 [I n,I m] [I (around n m)]:=by
 refine pspec_of tab_ok mixed (calls_snd _) (range_snd _) Tryz.func15 rfl (by kernel_rfl) rfl ?_
 have h1:=Int.tmod_lt_of_pos n (show 0<m by omega)
 have h2:=Int.lt_tmod_of_pos n (show 0<m by omega)
 refine ⟨fun _=>by omega,fun h=>?_,fun h=>?_⟩
 ·have h':n.tmod m<0:=of_decide_eq_true h
  exact ⟨fun _=>⟨by omega,by omega⟩,le_int (by rw [around,if_pos h']),tv⟩
 ·have h':¬ n.tmod m<0:=of_decide_eq_false h
  exact ⟨le_int (by rw [around,if_neg h']),tv⟩
theorem cat_le {b w:Int} (hb:0≤b∧b≤2) (hw:1≤w∧w≤40):(catD (I b) (I w)).Le (catD (.ivl .i64 0 2) (.ivl .i64 1 40)):=by
 refine DV.agg_le ⟨?_,rf,rf,rf,tv⟩ (fun d hd=>by simp [catD] at hd; rcases hd with rfl | rfl | rfl | rfl <;> rfl)
 refine DV.sl_le rfl fun i x y hx hy=>?_
 match i,hx,hy with
 | 0,hx,hy=>simp [itemsD] at hx hy; subst hx; subst hy; exact ⟨DLes.refl _,fun d hd=>by simp [DV.cells] at hd; rcases hd with rfl | rfl | rfl | rfl | rfl | rfl | rfl <;> rfl⟩
 | 1,hx,hy=>simp [itemsD] at hx hy; subst hx; subst hy; exact ⟨DLes.refl _,fun d hd=>by simp [DV.cells] at hd; rcases hd with rfl | rfl | rfl | rfl | rfl | rfl | rfl <;> rfl⟩
 | 2,hx,hy=>simp [itemsD] at hx hy; subst hx; subst hy; exact ⟨DLes.refl _,fun d hd=>by simp [DV.cells] at hd; rcases hd with rfl | rfl | rfl | rfl | rfl | rfl | rfl <;> rfl⟩
 | 3,hx,hy=>simp [itemsD] at hx hy; subst hx; subst hy; exact ⟨DLes.refl _,fun d hd=>by simp [DV.cells] at hd; rcases hd with rfl | rfl | rfl | rfl | rfl | rfl | rfl <;> rfl⟩
 | 4,hx,hy=>simp [itemsD] at hx hy; subst hx; subst hy; exact ⟨⟨rf,rf,rf,rf,le_ivl hw.1 hw.2,le_ivl hb.1 hb.2,rf,tv⟩,fun d hd=>by simp [DV.cells] at hd; rcases hd with rfl | rfl | rfl | rfl | rfl | rfl | rfl <;> rfl⟩
 | i+5,hx,hy=>simp [itemsD] at hx
theorem binding_spec (b w n k:Int):PSpec Tryz.prog 29 [catD (I b) (I w),I n,I k] [catD (I (around n 3)) (I (1+around k 40))]:=by
 refine pspec_of tab_ok mixed (calls_snd _) (range_snd _) Tryz.func29 rfl (by kernel_rfl) rfl ?_
 refine .inr ⟨itemsD (I b) (I w),ELes.refl _,Nat.le_of_ble_eq_true rfl,Nat.le_of_ble_eq_true rfl,.inl ⟨_,fun _=>(around_spec n 3 (by omega) (by omega)).ok,?_⟩⟩
 refine ⟨fun _=>⟨by decide,by show (4:Int)<5; decide⟩,[I (around n 3)],⟨rf,tv⟩,_,rfl,?_⟩
 refine .inl ⟨_,fun _=>(around_spec k 40 (by omega) (by omega)).ok,?_⟩
 have hk:=around_bd k 40 (by omega)
 refine ⟨fun _=>⟨by omega,by omega⟩,fun _=>⟨by decide,by show (4:Int)<5; decide⟩,[I (1+around k 40)],⟨rf,tv⟩,_,rfl,?_⟩
 exact ⟨rf,tv⟩
def itemsL (b w:Int):List Item:=[⟨⟨⟨[103,111,108,100]⟩⟩,false,true,true,0,0,0⟩,
 ⟨⟨⟨[111,114,101]⟩⟩,false,false,false,0,0,0⟩,
 ⟨⟨⟨[99,111,97,108]⟩⟩,false,true,false,0,0,0⟩,
 ⟨⟨⟨[98,97,114]⟩⟩,false,false,false,0,0,0⟩,
 ⟨⟨⟨[115,119,111,114,100]⟩⟩,true,false,false,w,b,3⟩]
def nwK (b w:Int):Boxes:=[(2,.cells (stC (itemsL b w))),(1,.tree 0 0 (.omap pairK []))]
theorem new_spec {b w:Int} (hb:0≤b∧b≤2) (hw:1≤w∧w≤40):CSpec Tryz.prog 22 [ofD (catD (I b) (I w))] 0 [] 3 [.ptr 2 0,.dv (I 0)] (nwK b w):=by
 refine cspec_of tab_ok mixed (calls_snd _) (range_snd _) Tryz.func22 rfl rfl (by kernel_rfl) ?_
 have hv:CallOk Tryz.prog 45 [catD (I b) (I w)] [I 0]:=⟨[catD (.ivl .i64 0 2) (.ivl .i64 1 40)],⟨cat_le hb hw,tv⟩,valid_spec⟩
 refine .inl ⟨_,fun _=>hv,?_⟩
 refine ⟨fun h=>(by cases h),fun _=>?_⟩
 refine .inl ⟨_,fun _=>(copy_spec b w).ok,?_⟩
 exact ⟨pairK,_,_,⟨rfl,rfl⟩,by kernel_rfl,⟨rfl,rf,tv⟩,⟨rf,rf,rf,rf,rfl,tv⟩,⟨rfl,rfl⟩,tv⟩
end Go.Proofs.YtpjpdomkcabfcaaGreatDoor
namespace Go.Proofs.YtpjpdomkcabfcaaGreatDoor
open Go.TM Go.RowKit
variable [KObj]
end Go.Proofs.YtpjpdomkcabfcaaGreatDoor
namespace Go.Proofs.YtpjpdomkcabfcaaGreatDoor
open Go.TM
variable [KObj]
set_option maxRecDepth 100000
def stCn (i:Nat) (its:List Item):List AV:=[.dv (.sl 7 (its.map eItem)),.dv rulesD,.dv tabsD,.dv taxesD,.own i 0 0 []]
def bothK (b w:Int):Boxes:=[(3,.cells (stCn 2 (itemsL b w))),(2,.tree 0 0 (.omap pairK [])),(4,.cells (dvs [.sl 7 (itemsD (I b) (I w)),rulesD,tabsD,taxesD,.nils]))]
set_option maxHeartbeats 4000000 in
theorem both_spec (n k:Int):CSpec Tryz.prog 9 [.dv (I n),.dv (I k)] 0 [] 5 [.ptr 3 0,.ptr 4 0,.dv (B true)] (bothK (around n 3) (1+around k 40)):=by
 refine cspec_of tab_ok mixed (calls_snd _) (range_snd _) Tryz.func9 rfl rfl (by kernel_rfl) ?_
 refine .inl ⟨_,fun _=>cat_spec.ok,?_⟩
 refine .inl ⟨_,fun _=>(binding_spec 2 20 n k).ok,?_⟩
 have hn:=around_bd n 3 (by omega)
 have hk:=around_bd k 40 (by omega)
 refine .inr ⟨[],[ofD (catD (I (around n 3)) (I (1+around k 40)))],[],3,_,_,new_spec (by omega) (by omega),by kernel_rfl,by kernel_rfl,⟨⟨rf,rf,rf,rf,tv⟩,tv⟩,tv,?_⟩
 exact ⟨id,fun _=>bw_t,by kernel_rfl,_,_,⟨rfl,rfl⟩,by kernel_rfl,⟨rfl,rfl,rf,tv⟩,⟨rf,rf,rf,rf,rfl,tv⟩,⟨rfl,rfl⟩,⟨rf,rf,rf,rf,rf,tv⟩,tv⟩
theorem okS_one {its:List Item} {k:Ky} {x:Ob} (h:OkO its x):OkS its [(k,x)]:=by
 intro k' y hy
 simp only [oget] at hy
 split at hy
 ·injection hy with hy; subst hy; exact h
 ·cases hy
def lits:List Item:=itemsL 2 20
theorem lk:OkS lits [((7,0),⟨4,1,20,false⟩)]:=okS_one ⟨by decide,by decide,by decide,by decide,by decide⟩
theorem lk2:OkS lits [((7,0),⟨4,2,20,false⟩)]:=okS_one ⟨by decide,by decide,by decide,by decide,by decide⟩
theorem lk3:OkS lits [((7,0),⟨4,2,15,true⟩)]:=okS_one ⟨by decide,by decide,by decide,by decide,by decide⟩
theorem live_make:CSpec Tryz.prog 18 [.ptr 0 0,ofD (eKy (7,0)),.dv (I 4),.dv (I 1)] 2 (stK lits []) 0 [.dv (I 0)] (stK lits [((7,0),⟨4,1,20,false⟩)]):=make_spec lits [] (7,0) 4 1
theorem live_give:CSpec Tryz.prog 36 [.ptr 0 0,ofD (eKy (7,0)),.dv (I 1),.dv (I 2)] 2 (stK lits [((7,0),⟨4,1,20,false⟩)]) 0 [.dv (I 0)] (stK lits [((7,0),⟨4,2,20,false⟩)]):=giv_spec lits _ (7,0) 1 2 lk
theorem live_use1:CSpec Tryz.prog 37 [.ptr 0 0,ofD (eKy (7,0)),.dv (I 2),.dv (I 2),.dv (I 5)] 2 (stK lits [((7,0),⟨4,2,20,false⟩)]) 0 [.dv (I 12)] (stK lits [((7,0),⟨4,2,20,false⟩)]):=use_spec lits _ (7,0) 2 2 5 lk2
theorem live_use2:CSpec Tryz.prog 37 [.ptr 0 0,ofD (eKy (7,0)),.dv (I 2),.dv (I 3),.dv (I 5)] 2 (stK lits [((7,0),⟨4,2,20,false⟩)]) 0 [.dv (I 0)] (stK lits [((7,0),⟨4,2,15,true⟩)]):=use_spec lits _ (7,0) 2 3 5 lk2
theorem live_give2:CSpec Tryz.prog 36 [.ptr 0 0,ofD (eKy (7,0)),.dv (I 2),.dv (I 1)] 2 (stK lits [((7,0),⟨4,2,15,true⟩)]) 0 [.dv (I 11)] (stK lits [((7,0),⟨4,2,15,true⟩)]):=giv_spec lits _ (7,0) 2 1 lk3
theorem live_get:CSpec Tryz.prog 12 [.ptr 0 0,ofD (eKy (7,0))] 2 (stK lits [((7,0),⟨4,2,15,true⟩)]) 0 [ofD (eOb ⟨4,2,15,true⟩),.dv (B true)] (stK lits [((7,0),⟨4,2,15,true⟩)]):=get_spec lits _ (7,0)
set_option maxHeartbeats 4000000 in
theorem lives_spec:PSpec Tryz.prog 14 [] [B true]:=by
 refine pspec_of tab_ok mixed (calls_snd _) (range_snd _) Tryz.func14 rfl (by kernel_rfl) rfl ?_
 refine .inl ⟨_,fun _=>cat_spec.ok,?_⟩
 refine .inr ⟨[],[ofD (catD (I 2) (I 20))],[],3,_,_,new_spec (by omega) (by omega),by kernel_rfl,by kernel_rfl,⟨⟨rf,rf,rf,rf,tv⟩,tv⟩,tv,?_⟩
 repeat first | refine ⟨id,?_⟩ | refine ⟨fun _ h=>bw_f h,?_⟩ | refine ⟨fun _ h=>bw_t h,?_⟩ | refine ⟨fun h=>⟨h,fun h2=>bw_and h h2⟩,?_⟩ | refine ⟨fun h=>⟨h,fun h2=>bw_andf h h2⟩,?_⟩
 refine ⟨fun h=>(by cases h),fun _=>?_⟩
 refine .inr ⟨[2,1],[.ptr 0 0,ofD (eKy (7,0)),.dv (I 4),.dv (I 1)],stK lits [],0,_,_,live_make,by kernel_rfl,by kernel_rfl,⟨rfl,⟨rf,rf,tv⟩,rf,rf,tv⟩,⟨⟨rf,rf,rf,rf,rfl,tv⟩,⟨rfl,rfl⟩,tv⟩,?_⟩
 refine .inr ⟨[2,1],[.ptr 0 0,ofD (eKy (7,0)),.dv (I 1),.dv (I 2)],stK lits [((7,0),⟨4,1,20,false⟩)],0,_,_,live_give,by kernel_rfl,by kernel_rfl,⟨rfl,⟨rf,rf,tv⟩,rf,rf,tv⟩,⟨⟨rf,rf,rf,rf,rfl,tv⟩,⟨rfl,rfl⟩,tv⟩,?_⟩
 refine .inr ⟨[2,1],[.ptr 0 0,ofD (eKy (7,0)),.dv (I 2),.dv (I 2),.dv (I 5)],stK lits [((7,0),⟨4,2,20,false⟩)],0,_,_,live_use1,by kernel_rfl,by kernel_rfl,⟨rfl,⟨rf,rf,tv⟩,rf,rf,rf,tv⟩,⟨⟨rf,rf,rf,rf,rfl,tv⟩,⟨rfl,rfl⟩,tv⟩,?_⟩
 refine .inr ⟨[2,1],[.ptr 0 0,ofD (eKy (7,0)),.dv (I 2),.dv (I 3),.dv (I 5)],stK lits [((7,0),⟨4,2,20,false⟩)],0,_,_,live_use2,by kernel_rfl,by kernel_rfl,⟨rfl,⟨rf,rf,tv⟩,rf,rf,rf,tv⟩,⟨⟨rf,rf,rf,rf,rfl,tv⟩,⟨rfl,rfl⟩,tv⟩,?_⟩
 refine .inr ⟨[2,1],[.ptr 0 0,ofD (eKy (7,0)),.dv (I 2),.dv (I 1)],stK lits [((7,0),⟨4,2,15,true⟩)],0,_,_,live_give2,by kernel_rfl,by kernel_rfl,⟨rfl,⟨rf,rf,tv⟩,rf,rf,tv⟩,⟨⟨rf,rf,rf,rf,rfl,tv⟩,⟨rfl,rfl⟩,tv⟩,?_⟩
 refine .inr ⟨[2,1],[.ptr 0 0,ofD (eKy (7,0))],stK lits [((7,0),⟨4,2,15,true⟩)],0,_,_,live_get,by kernel_rfl,by kernel_rfl,⟨rfl,⟨rf,rf,tv⟩,tv⟩,⟨⟨rf,rf,rf,rf,rfl,tv⟩,⟨rfl,rfl⟩,tv⟩,?_⟩
 repeat first | refine ⟨id,?_⟩ | refine ⟨fun _ h=>bw_f h,?_⟩ | refine ⟨fun _ h=>bw_t h,?_⟩ | refine ⟨fun h=>⟨h,fun h2=>bw_and h h2⟩,?_⟩ | refine ⟨fun h=>⟨h,fun h2=>bw_andf h h2⟩,?_⟩
 exact ⟨rf,tv⟩
end Go.Proofs.YtpjpdomkcabfcaaGreatDoor
namespace Go.Proofs.YtpjpdomkcabfcaaGreatDoor
open Go.TM
def eRo (p:Ky × Ob):DV:=.agg [I p.1.1,I p.1.2,I p.2.item,I p.2.owner,I p.2.wear,B p.2.bound]
def rfC (its:List Item) (v:Nat):List AV:=[.dv (.sl 7 (its.map eItem)),.dv rulesD,.dv tabsD,.dv taxesD,.own 1 v 0 []]
def rfK (its:List Item) (L:OM) (v:Nat):Boxes:=[(0,.cells (rfC its v)),(1,.tree v 0 (.osl 6 (L.map eRo)))]
def kI (its:List Item) (i:Int):Item:=if i<0 ∨ (its.length:Int)≤i then Item.zero else its.getD i.toNat Item.zero
def fidx:OM→Ky→Nat
 | [],_=>0
 | p::r,k=>if p.1=k then 0 else fidx r k+1
def findI (L:OM) (k:Ky):Int:=if fidx L k<L.length then fidx L k else -1
theorem fidx_le:∀(L:OM) (k:Ky),fidx L k≤L.length
 | [],_=>by simp [fidx]
 | p::r,k=>by
  simp only [fidx]
  split
  ·simp
  ·have:=fidx_le r k; simp; omega
theorem fidx_at:∀(L:OM) (k:Ky) (j:Nat) (p:Ky × Ob),(∀(i:Nat) (q:Ky × Ob),i<j→L[i]?=some q→q.1 ≠ k)→L[j]?=some p→p.1=k→fidx L k=j
 | [],_,j,p,_,h,_=>by simp at h
 | q::r,k,0,p,_,h,e=>by
  simp at h; subst h
  simp [fidx,e]
 | q::r,k,j+1,p,hn,h,e=>by
  have h0:=hn 0 q (by omega) rfl
  have ih:=fidx_at r k j p (fun i q' hi hq=>hn (i+1) q' (by omega) (by simpa using hq)) (by simpa using h) e
  simp only [fidx,if_neg h0,ih]
theorem fidx_no:∀(L:OM) (k:Ky),(∀(i:Nat) (q:Ky × Ob),L[i]?=some q→q.1 ≠ k)→fidx L k=L.length
 | [],_,_=>rfl
 | q::r,k,hn=>by
  have h0:=hn 0 q rfl
  have ih:=fidx_no r k fun i q' hq=>hn (i+1) q' (by simpa using hq)
  simp only [fidx,if_neg h0,ih,List.length_cons]
theorem fidx_get:∀(L:OM) (k:Ky),oget L k=(L[fidx L k]?).map Prod.snd
 | [],_=>rfl
 | q::r,k=>by
  simp only [oget,fidx]
  by_cases e:q.1=k
  ·simp [e]
  ·rw [if_neg e,if_neg e,List.getElem?_cons_succ]; exact fidx_get r k
theorem fidx_key:∀(L:OM) (k:Ky) (p:Ky × Ob),L[fidx L k]?=some p→p.1=k
 | [],_,p,h=>by simp [fidx] at h
 | q::r,k,p,h=>by
  simp only [fidx] at h
  by_cases e:q.1=k
  ·rw [if_pos e] at h; simp at h; subst h; exact e
  ·rw [if_neg e,List.getElem?_cons_succ] at h; exact fidx_key r k p h
variable [KObj]
set_option maxRecDepth 100000
set_option maxHeartbeats 4000000 in
theorem kind_spec (its:List Item) (L:OM) (i:Int):CSpec Tryz.prog 42 [.ptr 0 0,.dv (I i)] 2 (rfK its L 0) 0 [ofD (eItem (kI its i)),.dv (B (typeOf its i).isSome)] (rfK its L 0):=by
 refine cspec_of tab_ok mixed (calls_snd _) (range_snd _) Tryz.func42 rfl rfl (by kernel_rfl) ?_
 repeat first | refine ⟨id,?_⟩ | refine ⟨fun _ h=>bw_f h,?_⟩ | refine ⟨fun _ h=>bw_t h,?_⟩ | refine ⟨fun h=>⟨h,fun h2=>bw_and h h2⟩,?_⟩ | refine ⟨fun h=>⟨h,fun h2=>bw_andf h h2⟩,?_⟩
 refine ⟨fun h=>?_,fun h=>?_⟩
 ·have hc:i<0 ∨ (its.length:Int)≤i:=by
   by_cases h0:i<0
   ·exact .inl h0
   ·simp [h0] at h; exact .inr h
  have e1:kI its i=Item.zero:=by unfold kI; rw [if_pos hc]
  have e2:(typeOf its i).isSome=false:=by
   unfold typeOf
   split
   ·rfl
   ·rw [List.getElem?_eq_none (by omega)]; rfl
  rw [e1,e2]
  exact ⟨_,_,⟨rfl,rfl⟩,by kernel_rfl,⟨⟨rf,rf,rf,rf,rf,rf,rf,tv⟩,rf,tv⟩,⟨rf,rf,rf,rf,rfl,tv⟩,⟨rfl,rfl⟩,tv⟩
 ·have h0:¬ i<0:=fun h0=>by simp [h0] at h
  have h1:¬ (its.length:Int)≤i:=fun h1=>by simp [h1] at h
  have e1:kI its i=its.getD i.toNat Item.zero:=by unfold kI; rw [if_neg (by omega)]
  have e2:(typeOf its i).isSome=(its.getD i.toNat Item.zero).obj:=by
   unfold typeOf
   rw [if_neg h0]
   have hlt:i.toNat<its.length:=by omega
   rw [List.getElem?_eq_getElem hlt,List.getD_eq_getElem?_getD,List.getElem?_eq_getElem hlt]
   simp only [Option.getD_some]
   cases its[i.toNat].obj <;> rfl
  rw [e1,e2]
  refine ⟨eItem (its.getD i.toNat Item.zero),fun _=>⟨by omega,item_at h0 h1⟩,?_⟩
  refine ⟨eItem (its.getD i.toNat Item.zero),fun _=>⟨by omega,item_at h0 h1⟩,?_⟩
  exact ⟨by kernel_rfl,_,_,⟨rfl,rfl⟩,by kernel_rfl,⟨⟨rf,rf,rf,rf,rf,rf,rf,tv⟩,rf,tv⟩,⟨rf,rf,rf,rf,rfl,tv⟩,⟨rfl,rfl⟩,tv⟩
set_option maxHeartbeats 4000000 in
theorem find_spec (its:List Item) (L:OM) (hl:L.length≤1000000) (a b:Int):CSpec Tryz.prog 43 [.ptr 0 0,.dv (I a),.dv (I b)] 2 (rfK its L 0) 0 [.dv (I (findI L (a,b)))] (rfK its L 0):=by
 refine cspec_of tab_ok mixed (calls_snd _) (range_snd _) Tryz.func43 rfl rfl (by kernel_rfl) ?_
 refine ⟨Nat,fun j=>⟨2,[(0,.ptr 0 0),(1,.dv (I a)),(2,.dv (I b)),(7,.dv (I j))],rfK its L 0⟩,fun j=>j≤L.length∧∀i q,i<j→L[i]?=some q→q.1 ≠ (a,b),fun j=>L.length - j,0,fun _=>rfl,⟨⟨rfl,rf,rf,rf,tv⟩,⟨⟨rf,rf,rf,rf,rfl,tv⟩,⟨rfl,rfl⟩,tv⟩,rfl,rfl⟩,⟨Nat.zero_le _,fun i q h=>by omega⟩,?_⟩
 rintro j ⟨hj,hn⟩
 refine ⟨fun h=>?_,fun h=>?_⟩
 ·have hlt:j<L.length:=by simpa using h
  clear h
  have hel:(L.map eRo)[(j:Int).toNat]?=some (eRo L[j]):=by simp [hlt]
  refine ⟨fun _=>⟨by omega,by simp; omega⟩,eRo L[j],fun _=>hel,?_⟩
  repeat first | refine ⟨id,?_⟩ | refine ⟨fun _ h=>bw_f h,?_⟩ | refine ⟨fun _ h=>bw_t h,?_⟩ | refine ⟨fun h=>⟨h,fun h2=>bw_and h h2⟩,?_⟩ | refine ⟨fun h=>⟨h,fun h2=>bw_andf h h2⟩,?_⟩
  refine ⟨fun _=>⟨by omega,by simp; omega⟩,id,id,eRo L[j],fun _=>hel,?_⟩
  repeat first | refine ⟨id,?_⟩ | refine ⟨fun _ h=>bw_f h,?_⟩ | refine ⟨fun _ h=>bw_t h,?_⟩ | refine ⟨fun h=>⟨h,fun h2=>bw_and h h2⟩,?_⟩ | refine ⟨fun h=>⟨h,fun h2=>bw_andf h h2⟩,?_⟩
  refine ⟨fun h=>?_,fun h=>?_⟩
  ·have hk:L[j].1=(a,b):=by
    have h':(bif L[j].1.1 == a then L[j].1.2 == b else false)=true:=h
    have h1:L[j].1.1=a:=by cases hq:(L[j].1.1 == a) <;> simp_all
    have h2:L[j].1.2=b:=by simp [h1] at h'; exact h'
    exact Prod.ext h1 h2
   have e:findI L (a,b)=j:=by
    unfold findI
    rw [fidx_at L (a,b) j L[j] hn (List.getElem?_eq_getElem hlt) hk,if_pos hlt]
   rw [e]
   exact ⟨_,_,⟨rfl,rfl⟩,by kernel_rfl,⟨rf,tv⟩,⟨rf,rf,rf,rf,rfl,tv⟩,⟨rfl,rfl⟩,tv⟩
  ·have hk:¬ L[j].1=(a,b):=by
    intro e
    have h':(bif L[j].1.1 == a then L[j].1.2 == b else false)=false:=h
    rw [e] at h'
    simp at h'
   refine ⟨fun _=>⟨by omega,by omega⟩,j+1,⟨⟨rfl,rf,rf,le_int (by simp),tv⟩,⟨⟨rf,rf,rf,rf,rfl,tv⟩,⟨rfl,rfl⟩,tv⟩,rfl,rfl⟩,⟨by omega,fun i q hi hq=>?_⟩,by show L.length - (j+1)<L.length - j; omega⟩
   by_cases e:i=j
   ·subst e
    rw [List.getElem?_eq_getElem hlt] at hq; injection hq with hq; subst hq; exact hk
   ·exact hn i q (by omega) hq
 ·have he:¬ j<L.length:=by simpa using h
  have e:findI L (a,b)=-1:=by
   unfold findI
   rw [fidx_no L (a,b) (fun i q hq=>hn i q (by have:=(List.getElem?_eq_some_iff.1 hq).1; omega) hq)]
   simp
  rw [e]
  exact ⟨_,_,⟨rfl,rfl⟩,by kernel_rfl,⟨rf,tv⟩,⟨rf,rf,rf,rf,rfl,tv⟩,⟨rfl,rfl⟩,tv⟩
theorem oput_set:∀(L:OM) (k:Ky) (x:Ob),fidx L k<L.length→oput L k x=L.set (fidx L k) (k,x)
 | [],_,_,h=>by simp [fidx] at h
 | p::r,k,x,h=>by
  simp only [fidx] at h
  simp only [oput,fidx]
  by_cases e:p.1=k
  ·rw [if_pos e,if_pos e]; rfl
  ·rw [if_neg e] at h
   rw [if_neg e,if_neg e,List.set_cons_succ,oput_set r k x (by simpa using h)]
theorem odel_take:∀(L:OM) (k:Ky),odel L k=L.take (fidx L k)++L.drop (fidx L k+1)
 | [],_=>rfl
 | p::r,k=>by
  simp only [odel,fidx]
  by_cases e:p.1=k
  ·rw [if_pos e,if_pos e]; rfl
  ·rw [if_neg e,if_neg e]
   simp only [List.take_succ_cons,List.drop_succ_cons,List.cons_append]
   rw [←odel_take r k]
theorem fidx_some {L:OM} {k:Ky} {x:Ob} (h:oget L k=some x):fidx L k<L.length∧L[fidx L k]?=some (k,x):=by
 rw [fidx_get] at h
 cases hq:L[fidx L k]? with
 | none=>rw [hq] at h; cases h
 | some p =>
  rw [hq] at h
  have h1:=fidx_key L k p hq
  obtain ⟨k',x'⟩:=p
  simp at h h1
  subst h; subst h1
  exact ⟨(List.getElem?_eq_some_iff.1 hq).1,rfl⟩
theorem fidx_none {L:OM} {k:Ky} (h:oget L k=none):¬ fidx L k<L.length:=by
 intro hlt
 rw [fidx_get,List.getElem?_eq_getElem hlt] at h
 cases h
set_option maxHeartbeats 4000000 in
theorem own_spec (its:List Item) (L:OM) (hl:L.length≤1000000) (k:Ky) (ow:Int):CSpec Tryz.prog 79 [.ptr 0 0,.dv (I k.1),.dv (I k.2),.dv (I ow)] 2 (rfK its L 0) 0 [.dv (I (findI L k)),.dv (I (ownR its L k ow).2.2)] (rfK its L 0):=by
 refine cspec_of tab_ok mixed (calls_snd _) (range_snd _) Tryz.func79 rfl rfl (by kernel_rfl) ?_
 have hf:=find_spec its L hl k.1 k.2
 rw [show (k.1,k.2)=k from rfl] at hf
 cases hq:oget L k with
 | none =>
  have e1:findI L k=-1:=by unfold findI; rw [if_neg (fidx_none hq)]
  have e2:(ownR its L k ow).2.2=7:=by simp [ownR,hq]
  rw [e1] at hf
  rw [e1,e2]
  refine .inr ⟨[0,1],[.ptr 0 0,.dv (I k.1),.dv (I k.2)],rfK its L 0,0,_,_,hf,by kernel_rfl,by kernel_rfl,⟨rfl,rf,rf,tv⟩,⟨⟨rf,rf,rf,rf,rfl,tv⟩,⟨rfl,rfl⟩,tv⟩,?_⟩
  refine ⟨fun _=>?_,fun h=>by cases h⟩
  exact ⟨_,_,⟨rfl,rfl⟩,by kernel_rfl,⟨rf,rf,tv⟩,⟨rf,rf,rf,rf,rfl,tv⟩,⟨rfl,rfl⟩,tv⟩
 | some x =>
  obtain ⟨hlt,hat⟩:=fidx_some hq
  have e1:findI L k=(fidx L k:Nat):=by unfold findI; rw [if_pos hlt]
  rw [e1] at hf
  rw [e1]
  have hel:(L.map eRo)[((fidx L k:Nat):Int).toNat]?=some (eRo (k,x)):=by simp [hat]
  generalize fidx L k=i at hf hlt hat hel
  refine .inr ⟨[0,1],[.ptr 0 0,.dv (I k.1),.dv (I k.2)],rfK its L 0,0,_,_,hf,by kernel_rfl,by kernel_rfl,⟨rfl,rf,rf,tv⟩,⟨⟨rf,rf,rf,rf,rfl,tv⟩,⟨rfl,rfl⟩,tv⟩,?_⟩
  refine ⟨fun h=>?_,fun _=>?_⟩
  ·have h':(i:Int)<0:=of_decide_eq_true h
   omega
  refine ⟨fun _=>⟨by omega,by simp; omega⟩,eRo (k,x),fun _=>hel,?_⟩
  refine ⟨fun h=>?_,fun h=>?_⟩
  ·have hne:¬ x.owner=ow:=by simpa using h
   have e2:(ownR its L k ow).2.2=15:=by simp [ownR,hq,hne]
   rw [e2]
   exact ⟨_,_,⟨rfl,rfl⟩,by kernel_rfl,⟨rf,rf,tv⟩,⟨rf,rf,rf,rf,rfl,tv⟩,⟨rfl,rfl⟩,tv⟩
  ·have hne:x.owner=ow:=by simpa using h
   have e2:(ownR its L k ow).2.2=0:=by simp [ownR,hq,hne]
   rw [e2]
   exact ⟨_,_,⟨rfl,rfl⟩,by kernel_rfl,⟨rf,rf,tv⟩,⟨rf,rf,rf,rf,rfl,tv⟩,⟨rfl,rfl⟩,tv⟩
end Go.Proofs.YtpjpdomkcabfcaaGreatDoor
