import Derived.Test.YtpjpdomkcabfcaaGreatDoorAM20
import Derived.WalkKit
import Derived.Lib.Mul64
import Derived.Laws.Bits64b
set_option linter.unusedVariables false
set_option linter.unusedSimpArgs false
set_option linter.unusedSectionVars false
namespace Go.Proofs.YtpjpdomkcabfcaaGreatDoor
open Go.TM
set_option maxRecDepth 100000
def around (n m:Int):Int:=if n.tmod m<0 then n.tmod m+m else n.tmod m
theorem around_bd (n m:Int) (hm:1≤m):0≤around n m∧around n m<m:=by
 unfold around
 have h1:=Int.tmod_lt_of_pos n (show 0<m by omega)
 have h2:=Int.lt_tmod_of_pos n (show 0<m by omega)
 split <;> omega
variable [KObj]
theorem around_spec (n m:Int) (hm:1≤m) (hm2:m≤1000000000000):PSpec Tryz.prog 15 [I n,I m] [I (around n m)]:=by
 refine pspec_of tab_ok mixed (calls_snd _) (range_snd _) Tryz.func15 rfl (by kernel_rfl) rfl ?_
 have h1:=Int.tmod_lt_of_pos n (show 0<m by omega)
 have h2:=Int.lt_tmod_of_pos n (show 0<m by omega)
 refine ⟨fun _=>by omega,fun h=>?_,fun h=>?_⟩
 ·have h':n.tmod m<0:=of_decide_eq_true h
  exact ⟨fun _=>⟨by omega,by omega⟩,le_int (by rw [around,if_pos h']),tv⟩
 ·have h':¬ n.tmod m<0:=of_decide_eq_false h
  exact ⟨le_int (by rw [around,if_neg h']),tv⟩
theorem cat_le {b w:Int} (hb:0≤b∧b≤2) (hw:1≤w∧w≤40):(catD (I b) (I w)).Le (catD (.ivl .i64 0 2) (.ivl .i64 1 40)):=by
 refine DV.agg_le ⟨?_,rf,rf,rf,tv⟩ (fun d hd=>by simp [catD] at hd; rcases hd with rfl | rfl | rfl | rfl <;> rfl)
 refine DV.sl_le rfl fun i x y hx hy=>?_
 match i,hx,hy with
 | 0,hx,hy=>simp [itemsD] at hx hy; subst hx; subst hy; exact ⟨DLes.refl _,fun d hd=>by simp [DV.cells] at hd; rcases hd with rfl | rfl | rfl | rfl | rfl | rfl | rfl <;> rfl⟩
 | 1,hx,hy=>simp [itemsD] at hx hy; subst hx; subst hy; exact ⟨DLes.refl _,fun d hd=>by simp [DV.cells] at hd; rcases hd with rfl | rfl | rfl | rfl | rfl | rfl | rfl <;> rfl⟩
 | 2,hx,hy=>simp [itemsD] at hx hy; subst hx; subst hy; exact ⟨DLes.refl _,fun d hd=>by simp [DV.cells] at hd; rcases hd with rfl | rfl | rfl | rfl | rfl | rfl | rfl <;> rfl⟩
 | 3,hx,hy=>simp [itemsD] at hx hy; subst hx; subst hy; exact ⟨DLes.refl _,fun d hd=>by simp [DV.cells] at hd; rcases hd with rfl | rfl | rfl | rfl | rfl | rfl | rfl <;> rfl⟩
 | 4,hx,hy=>simp [itemsD] at hx hy; subst hx; subst hy; exact ⟨⟨rf,rf,rf,rf,le_ivl hw.1 hw.2,le_ivl hb.1 hb.2,rf,tv⟩,fun d hd=>by simp [DV.cells] at hd; rcases hd with rfl | rfl | rfl | rfl | rfl | rfl | rfl <;> rfl⟩
 | i+5,hx,hy=>simp [itemsD] at hx
theorem binding_spec (b w n k:Int):PSpec Tryz.prog 29 [catD (I b) (I w),I n,I k] [catD (I (around n 3)) (I (1+around k 40))]:=by
 refine pspec_of tab_ok mixed (calls_snd _) (range_snd _) Tryz.func29 rfl (by kernel_rfl) rfl ?_
 refine .inr ⟨itemsD (I b) (I w),ELes.refl _,Nat.le_of_ble_eq_true rfl,Nat.le_of_ble_eq_true rfl,.inl ⟨_,fun _=>(around_spec n 3 (by omega) (by omega)).ok,?_⟩⟩
 refine ⟨fun _=>⟨by decide,by show (4:Int)<5; decide⟩,[I (around n 3)],⟨rf,tv⟩,_,rfl,?_⟩
 refine .inl ⟨_,fun _=>(around_spec k 40 (by omega) (by omega)).ok,?_⟩
 have hk:=around_bd k 40 (by omega)
 refine ⟨fun _=>⟨by omega,by omega⟩,fun _=>⟨by decide,by show (4:Int)<5; decide⟩,[I (1+around k 40)],⟨rf,tv⟩,_,rfl,?_⟩
 exact ⟨rf,tv⟩
def itemsL (b w:Int):List Item:=[⟨⟨⟨[103,111,108,100]⟩⟩,false,true,true,0,0,0⟩,
 ⟨⟨⟨[111,114,101]⟩⟩,false,false,false,0,0,0⟩,
 ⟨⟨⟨[99,111,97,108]⟩⟩,false,true,false,0,0,0⟩,
 ⟨⟨⟨[98,97,114]⟩⟩,false,false,false,0,0,0⟩,
 ⟨⟨⟨[115,119,111,114,100]⟩⟩,true,false,false,w,b,3⟩]
def nwK (b w:Int):Boxes:=[(2,.cells (stC (itemsL b w))),(1,.tree 0 0 (.omap pairK []))]
theorem new_spec {b w:Int} (hb:0≤b∧b≤2) (hw:1≤w∧w≤40):CSpec Tryz.prog 22 [ofD (catD (I b) (I w))] 0 [] 3 [.ptr 2 0,.dv (I 0)] (nwK b w):=by
 refine cspec_of tab_ok mixed (calls_snd _) (range_snd _) Tryz.func22 rfl rfl (by kernel_rfl) ?_
 have hv:CallOk Tryz.prog 45 [catD (I b) (I w)] [I 0]:=⟨[catD (.ivl .i64 0 2) (.ivl .i64 1 40)],⟨cat_le hb hw,tv⟩,valid_spec⟩
 refine .inl ⟨_,fun _=>hv,?_⟩
 refine ⟨fun h=>(by cases h),fun _=>?_⟩
 refine .inl ⟨_,fun _=>(copy_spec b w).ok,?_⟩
 exact ⟨pairK,_,_,⟨rfl,rfl⟩,by kernel_rfl,⟨rfl,rf,tv⟩,⟨rf,rf,rf,rf,rfl,tv⟩,⟨rfl,rfl⟩,tv⟩
end Go.Proofs.YtpjpdomkcabfcaaGreatDoor
namespace Go.Proofs.YtpjpdomkcabfcaaGreatDoor
open Go.TM Go.RowKit
variable [KObj]
end Go.Proofs.YtpjpdomkcabfcaaGreatDoor
namespace Go.Proofs.YtpjpdomkcabfcaaGreatDoor
open Go.TM
variable [KObj]
set_option maxRecDepth 100000
theorem okS_one {its:List Item} {k:Ky} {x:Ob} (h:OkO its x):OkS its [(k,x)]:=by
 intro k' y hy
 simp only [oget] at hy
 split at hy
 ·injection hy with hy; subst hy; exact h
 ·cases hy
def lits:List Item:=itemsL 2 20
theorem lk:OkS lits [((7,0),⟨4,1,20,false⟩)]:=okS_one ⟨by decide,by decide,by decide,by decide,by decide⟩
theorem lk2:OkS lits [((7,0),⟨4,2,20,false⟩)]:=okS_one ⟨by decide,by decide,by decide,by decide,by decide⟩
theorem lk3:OkS lits [((7,0),⟨4,2,15,true⟩)]:=okS_one ⟨by decide,by decide,by decide,by decide,by decide⟩
theorem live_make:CSpec Tryz.prog 18 [.ptr 0 0,ofD (eKy (7,0)),.dv (I 4),.dv (I 1)] 2 (stK lits []) 0 [.dv (I 0)] (stK lits [((7,0),⟨4,1,20,false⟩)]):=make_spec lits [] (7,0) 4 1
theorem live_give:CSpec Tryz.prog 36 [.ptr 0 0,ofD (eKy (7,0)),.dv (I 1),.dv (I 2)] 2 (stK lits [((7,0),⟨4,1,20,false⟩)]) 0 [.dv (I 0)] (stK lits [((7,0),⟨4,2,20,false⟩)]):=giv_spec lits _ (7,0) 1 2 lk
theorem live_use1:CSpec Tryz.prog 37 [.ptr 0 0,ofD (eKy (7,0)),.dv (I 2),.dv (I 2),.dv (I 5)] 2 (stK lits [((7,0),⟨4,2,20,false⟩)]) 0 [.dv (I 12)] (stK lits [((7,0),⟨4,2,20,false⟩)]):=use_spec lits _ (7,0) 2 2 5 lk2
theorem live_use2:CSpec Tryz.prog 37 [.ptr 0 0,ofD (eKy (7,0)),.dv (I 2),.dv (I 3),.dv (I 5)] 2 (stK lits [((7,0),⟨4,2,20,false⟩)]) 0 [.dv (I 0)] (stK lits [((7,0),⟨4,2,15,true⟩)]):=use_spec lits _ (7,0) 2 3 5 lk2
theorem live_give2:CSpec Tryz.prog 36 [.ptr 0 0,ofD (eKy (7,0)),.dv (I 2),.dv (I 1)] 2 (stK lits [((7,0),⟨4,2,15,true⟩)]) 0 [.dv (I 11)] (stK lits [((7,0),⟨4,2,15,true⟩)]):=giv_spec lits _ (7,0) 2 1 lk3
theorem live_get:CSpec Tryz.prog 12 [.ptr 0 0,ofD (eKy (7,0))] 2 (stK lits [((7,0),⟨4,2,15,true⟩)]) 0 [ofD (eOb ⟨4,2,15,true⟩),.dv (B true)] (stK lits [((7,0),⟨4,2,15,true⟩)]):=get_spec lits _ (7,0)
set_option maxHeartbeats 4000000 in
theorem lives_spec:PSpec Tryz.prog 14 [] [B true]:=by
 refine pspec_of tab_ok mixed (calls_snd _) (range_snd _) Tryz.func14 rfl (by kernel_rfl) rfl ?_
 refine .inl ⟨_,fun _=>cat_spec.ok,?_⟩
 refine .inr ⟨[],[ofD (catD (I 2) (I 20))],[],3,_,_,new_spec (by omega) (by omega),by kernel_rfl,by kernel_rfl,⟨⟨rf,rf,rf,rf,tv⟩,tv⟩,tv,?_⟩
 repeat first | refine ⟨id,?_⟩ | refine ⟨fun _ h=>bw_f h,?_⟩ | refine ⟨fun _ h=>bw_t h,?_⟩ | refine ⟨fun h=>⟨h,fun h2=>bw_and h h2⟩,?_⟩ | refine ⟨fun h=>⟨h,fun h2=>bw_andf h h2⟩,?_⟩
 refine ⟨fun h=>(by cases h),fun _=>?_⟩
 refine .inr ⟨[2,1],[.ptr 0 0,ofD (eKy (7,0)),.dv (I 4),.dv (I 1)],stK lits [],0,_,_,live_make,by kernel_rfl,by kernel_rfl,⟨rfl,⟨rf,rf,tv⟩,rf,rf,tv⟩,⟨⟨rf,rf,rf,rf,rfl,tv⟩,⟨rfl,rfl⟩,tv⟩,?_⟩
 refine .inr ⟨[2,1],[.ptr 0 0,ofD (eKy (7,0)),.dv (I 1),.dv (I 2)],stK lits [((7,0),⟨4,1,20,false⟩)],0,_,_,live_give,by kernel_rfl,by kernel_rfl,⟨rfl,⟨rf,rf,tv⟩,rf,rf,tv⟩,⟨⟨rf,rf,rf,rf,rfl,tv⟩,⟨rfl,rfl⟩,tv⟩,?_⟩
 refine .inr ⟨[2,1],[.ptr 0 0,ofD (eKy (7,0)),.dv (I 2),.dv (I 2),.dv (I 5)],stK lits [((7,0),⟨4,2,20,false⟩)],0,_,_,live_use1,by kernel_rfl,by kernel_rfl,⟨rfl,⟨rf,rf,tv⟩,rf,rf,rf,tv⟩,⟨⟨rf,rf,rf,rf,rfl,tv⟩,⟨rfl,rfl⟩,tv⟩,?_⟩
 refine .inr ⟨[2,1],[.ptr 0 0,ofD (eKy (7,0)),.dv (I 2),.dv (I 3),.dv (I 5)],stK lits [((7,0),⟨4,2,20,false⟩)],0,_,_,live_use2,by kernel_rfl,by kernel_rfl,⟨rfl,⟨rf,rf,tv⟩,rf,rf,rf,tv⟩,⟨⟨rf,rf,rf,rf,rfl,tv⟩,⟨rfl,rfl⟩,tv⟩,?_⟩
 refine .inr ⟨[2,1],[.ptr 0 0,ofD (eKy (7,0)),.dv (I 2),.dv (I 1)],stK lits [((7,0),⟨4,2,15,true⟩)],0,_,_,live_give2,by kernel_rfl,by kernel_rfl,⟨rfl,⟨rf,rf,tv⟩,rf,rf,tv⟩,⟨⟨rf,rf,rf,rf,rfl,tv⟩,⟨rfl,rfl⟩,tv⟩,?_⟩
 refine .inr ⟨[2,1],[.ptr 0 0,ofD (eKy (7,0))],stK lits [((7,0),⟨4,2,15,true⟩)],0,_,_,live_get,by kernel_rfl,by kernel_rfl,⟨rfl,⟨rf,rf,tv⟩,tv⟩,⟨⟨rf,rf,rf,rf,rfl,tv⟩,⟨rfl,rfl⟩,tv⟩,?_⟩
 repeat first | refine ⟨id,?_⟩ | refine ⟨fun _ h=>bw_f h,?_⟩ | refine ⟨fun _ h=>bw_t h,?_⟩ | refine ⟨fun h=>⟨h,fun h2=>bw_and h h2⟩,?_⟩ | refine ⟨fun h=>⟨h,fun h2=>bw_andf h h2⟩,?_⟩
 exact ⟨rf,tv⟩
end Go.Proofs.YtpjpdomkcabfcaaGreatDoor
namespace Go.Proofs.YtpjpdomkcabfcaaGreatDoor
open Go.TM
def eRo (p:Ky × Ob):DV:=.agg [I p.1.1,I p.1.2,I p.2.item,I p.2.owner,I p.2.wear,B p.2.bound]
def rfC (its:List Item) (v:Nat):List AV:=[.dv (.sl 7 (its.map eItem)),.dv rulesD,.dv tabsD,.dv taxesD,.own 1 v 0 []]
def rfK (its:List Item) (L:OM) (v:Nat):Boxes:=[(0,.cells (rfC its v)),(1,.tree v 0 (.osl 6 (L.map eRo)))]
def kI (its:List Item) (i:Int):Item:=if i<0 ∨ (its.length:Int)≤i then Item.zero else its.getD i.toNat Item.zero
def fidx:OM→Ky→Nat
 | [],_=>0
 | p::r,k=>if p.1=k then 0 else fidx r k+1
def findI (L:OM) (k:Ky):Int:=if fidx L k<L.length then fidx L k else -1
theorem fidx_le:∀(L:OM) (k:Ky),fidx L k≤L.length
 | [],_=>by simp [fidx]
 | p::r,k=>by
  simp only [fidx]
  split
  ·simp
  ·have:=fidx_le r k; simp; omega
theorem fidx_at:∀(L:OM) (k:Ky) (j:Nat) (p:Ky × Ob),(∀(i:Nat) (q:Ky × Ob),i<j→L[i]?=some q→q.1 ≠ k)→L[j]?=some p→p.1=k→fidx L k=j
 | [],_,j,p,_,h,_=>by simp at h
 | q::r,k,0,p,_,h,e=>by
  simp at h; subst h
  simp [fidx,e]
 | q::r,k,j+1,p,hn,h,e=>by
  have h0:=hn 0 q (by omega) rfl
  have ih:=fidx_at r k j p (fun i q' hi hq=>hn (i+1) q' (by omega) (by simpa using hq)) (by simpa using h) e
  simp only [fidx,if_neg h0,ih]
theorem fidx_no:∀(L:OM) (k:Ky),(∀(i:Nat) (q:Ky × Ob),L[i]?=some q→q.1 ≠ k)→fidx L k=L.length
 | [],_,_=>rfl
 | q::r,k,hn=>by
  have h0:=hn 0 q rfl
  have ih:=fidx_no r k fun i q' hq=>hn (i+1) q' (by simpa using hq)
  simp only [fidx,if_neg h0,ih,List.length_cons]
theorem fidx_get:∀(L:OM) (k:Ky),oget L k=(L[fidx L k]?).map Prod.snd
 | [],_=>rfl
 | q::r,k=>by
  simp only [oget,fidx]
  by_cases e:q.1=k
  ·simp [e]
  ·rw [if_neg e,if_neg e,List.getElem?_cons_succ]; exact fidx_get r k
theorem fidx_key:∀(L:OM) (k:Ky) (p:Ky × Ob),L[fidx L k]?=some p→p.1=k
 | [],_,p,h=>by simp [fidx] at h
 | q::r,k,p,h=>by
  simp only [fidx] at h
  by_cases e:q.1=k
  ·rw [if_pos e] at h; simp at h; subst h; exact e
  ·rw [if_neg e,List.getElem?_cons_succ] at h; exact fidx_key r k p h
variable [KObj]
set_option maxRecDepth 100000
set_option maxHeartbeats 4000000 in
theorem kind_spec (its:List Item) (L:OM) (i:Int):CSpec Tryz.prog 42 [.ptr 0 0,.dv (I i)] 2 (rfK its L 0) 0 [ofD (eItem (kI its i)),.dv (B (typeOf its i).isSome)] (rfK its L 0):=by
 refine cspec_of tab_ok mixed (calls_snd _) (range_snd _) Tryz.func42 rfl rfl (by kernel_rfl) ?_
 repeat first | refine ⟨id,?_⟩ | refine ⟨fun _ h=>bw_f h,?_⟩ | refine ⟨fun _ h=>bw_t h,?_⟩ | refine ⟨fun h=>⟨h,fun h2=>bw_and h h2⟩,?_⟩ | refine ⟨fun h=>⟨h,fun h2=>bw_andf h h2⟩,?_⟩
 refine ⟨fun h=>?_,fun h=>?_⟩
 ·have hc:i<0 ∨ (its.length:Int)≤i:=by
   by_cases h0:i<0
   ·exact .inl h0
   ·simp [h0] at h; exact .inr h
  have e1:kI its i=Item.zero:=by unfold kI; rw [if_pos hc]
  have e2:(typeOf its i).isSome=false:=by
   unfold typeOf
   split
   ·rfl
   ·rw [List.getElem?_eq_none (by omega)]; rfl
  rw [e1,e2]
  exact ⟨_,_,⟨rfl,rfl⟩,by kernel_rfl,⟨⟨rf,rf,rf,rf,rf,rf,rf,tv⟩,rf,tv⟩,⟨rf,rf,rf,rf,rfl,tv⟩,⟨rfl,rfl⟩,tv⟩
 ·have h0:¬ i<0:=fun h0=>by simp [h0] at h
  have h1:¬ (its.length:Int)≤i:=fun h1=>by simp [h1] at h
  have e1:kI its i=its.getD i.toNat Item.zero:=by unfold kI; rw [if_neg (by omega)]
  have e2:(typeOf its i).isSome=(its.getD i.toNat Item.zero).obj:=by
   unfold typeOf
   rw [if_neg h0]
   have hlt:i.toNat<its.length:=by omega
   rw [List.getElem?_eq_getElem hlt,List.getD_eq_getElem?_getD,List.getElem?_eq_getElem hlt]
   simp only [Option.getD_some]
   cases its[i.toNat].obj <;> rfl
  rw [e1,e2]
  refine ⟨eItem (its.getD i.toNat Item.zero),fun _=>⟨by omega,item_at h0 h1⟩,?_⟩
  refine ⟨eItem (its.getD i.toNat Item.zero),fun _=>⟨by omega,item_at h0 h1⟩,?_⟩
  exact ⟨by kernel_rfl,_,_,⟨rfl,rfl⟩,by kernel_rfl,⟨⟨rf,rf,rf,rf,rf,rf,rf,tv⟩,rf,tv⟩,⟨rf,rf,rf,rf,rfl,tv⟩,⟨rfl,rfl⟩,tv⟩
set_option maxHeartbeats 4000000 in
theorem find_spec (its:List Item) (L:OM) (hl:L.length≤1000000) (a b:Int):CSpec Tryz.prog 43 [.ptr 0 0,.dv (I a),.dv (I b)] 2 (rfK its L 0) 0 [.dv (I (findI L (a,b)))] (rfK its L 0):=by
 refine cspec_of tab_ok mixed (calls_snd _) (range_snd _) Tryz.func43 rfl rfl (by kernel_rfl) ?_
 refine ⟨Nat,fun j=>⟨2,[(0,.ptr 0 0),(1,.dv (I a)),(2,.dv (I b)),(7,.dv (I j))],rfK its L 0⟩,fun j=>j≤L.length∧∀i q,i<j→L[i]?=some q→q.1 ≠ (a,b),fun j=>L.length - j,0,fun _=>rfl,⟨⟨rfl,rf,rf,rf,tv⟩,⟨⟨rf,rf,rf,rf,rfl,tv⟩,⟨rfl,rfl⟩,tv⟩,rfl,rfl⟩,⟨Nat.zero_le _,fun i q h=>by omega⟩,?_⟩
 rintro j ⟨hj,hn⟩
 refine ⟨fun h=>?_,fun h=>?_⟩
 ·have hlt:j<L.length:=by simpa using h
  clear h
  have hel:(L.map eRo)[(j:Int).toNat]?=some (eRo L[j]):=by simp [hlt]
  refine ⟨fun _=>⟨by omega,by simp; omega⟩,eRo L[j],fun _=>hel,?_⟩
  repeat first | refine ⟨id,?_⟩ | refine ⟨fun _ h=>bw_f h,?_⟩ | refine ⟨fun _ h=>bw_t h,?_⟩ | refine ⟨fun h=>⟨h,fun h2=>bw_and h h2⟩,?_⟩ | refine ⟨fun h=>⟨h,fun h2=>bw_andf h h2⟩,?_⟩
  refine ⟨fun _=>⟨by omega,by simp; omega⟩,id,id,eRo L[j],fun _=>hel,?_⟩
  repeat first | refine ⟨id,?_⟩ | refine ⟨fun _ h=>bw_f h,?_⟩ | refine ⟨fun _ h=>bw_t h,?_⟩ | refine ⟨fun h=>⟨h,fun h2=>bw_and h h2⟩,?_⟩ | refine ⟨fun h=>⟨h,fun h2=>bw_andf h h2⟩,?_⟩
  refine ⟨fun h=>?_,fun h=>?_⟩
  ·have hk:L[j].1=(a,b):=by
    have h':(bif L[j].1.1 == a then L[j].1.2 == b else false)=true:=h
    have h1:L[j].1.1=a:=by cases hq:(L[j].1.1 == a) <;> simp_all
    have h2:L[j].1.2=b:=by simp [h1] at h'; exact h'
    exact Prod.ext h1 h2
   have e:findI L (a,b)=j:=by
    unfold findI
    rw [fidx_at L (a,b) j L[j] hn (List.getElem?_eq_getElem hlt) hk,if_pos hlt]
   rw [e]
   exact ⟨_,_,⟨rfl,rfl⟩,by kernel_rfl,⟨rf,tv⟩,⟨rf,rf,rf,rf,rfl,tv⟩,⟨rfl,rfl⟩,tv⟩
  ·have hk:¬ L[j].1=(a,b):=by
    intro e
    have h':(bif L[j].1.1 == a then L[j].1.2 == b else false)=false:=h
    rw [e] at h'
    simp at h'
   refine ⟨fun _=>⟨by omega,by omega⟩,j+1,⟨⟨rfl,rf,rf,le_int (by simp),tv⟩,⟨⟨rf,rf,rf,rf,rfl,tv⟩,⟨rfl,rfl⟩,tv⟩,rfl,rfl⟩,⟨by omega,fun i q hi hq=>?_⟩,by show L.length - (j+1)<L.length - j; omega⟩
   by_cases e:i=j
   ·subst e
    rw [List.getElem?_eq_getElem hlt] at hq; injection hq with hq; subst hq; exact hk
   ·exact hn i q (by omega) hq
 ·have he:¬ j<L.length:=by simpa using h
  have e:findI L (a,b)=-1:=by
   unfold findI
   rw [fidx_no L (a,b) (fun i q hq=>hn i q (by have:=(List.getElem?_eq_some_iff.1 hq).1; omega) hq)]
   simp
  rw [e]
  exact ⟨_,_,⟨rfl,rfl⟩,by kernel_rfl,⟨rf,tv⟩,⟨rf,rf,rf,rf,rfl,tv⟩,⟨rfl,rfl⟩,tv⟩
theorem fidx_some {L:OM} {k:Ky} {x:Ob} (h:oget L k=some x):fidx L k<L.length∧L[fidx L k]?=some (k,x):=by
 rw [fidx_get] at h
 cases hq:L[fidx L k]? with
 | none=>rw [hq] at h; cases h
 | some p =>
  rw [hq] at h
  have h1:=fidx_key L k p hq
  obtain ⟨k',x'⟩:=p
  simp at h h1
  subst h; subst h1
  exact ⟨(List.getElem?_eq_some_iff.1 hq).1,rfl⟩
theorem fidx_none {L:OM} {k:Ky} (h:oget L k=none):¬ fidx L k<L.length:=by
 intro hlt
 rw [fidx_get,List.getElem?_eq_getElem hlt] at h
 cases h
end Go.Proofs.YtpjpdomkcabfcaaGreatDoor
namespace Go.Proofs.YtpjpdomkcabfcaaGreatDoor
open Go.TM
variable [KObj]
set_option maxRecDepth 100000
end Go.Proofs.YtpjpdomkcabfcaaGreatDoor
namespace Go.Proofs.YtpjpdomkcabfcaaGreatDoor
open Go.TM
variable [KObj]
set_option maxRecDepth 100000
theorem state_spec (f p i o w:Int) (b:Bool):PSpec Tryz.prog 39 [.agg [I f,I p,I i,I o,I w,B b]] [.agg [I i,I o,I w,B b]]:=by
 refine pspec_of tab_ok mixed (calls_snd _) (range_snd _) Tryz.func39 rfl (by kernel_rfl) rfl ?_
 exact ⟨rf,tv⟩
end Go.Proofs.YtpjpdomkcabfcaaGreatDoor
namespace Go.Proofs.YtpjpdomkcabfcaaGreatDoor
open Go.TM
theorem oget_put {k q:Ky} {x:Ob}:∀{m:OM},oget (oput m k x) q=if k=q then some x else oget m q
 | []=>by simp only [oput,oget]
 | p::r=>by
  simp only [oput]
  by_cases e:p.1=k
  ·rw [if_pos e]
   simp only [oget]
   by_cases e2:k=q
   ·rw [if_pos e2,if_pos e2]
   ·rw [if_neg e2,if_neg e2,if_neg (fun h=>e2 (e.symm.trans h))]
  ·rw [if_neg e]
   simp only [oget]
   by_cases e2:p.1=q
   ·rw [if_pos e2,if_pos e2,if_neg (fun h=>e (e2.trans h.symm))]
   ·rw [if_neg e2,if_neg e2,oget_put (m:=r)]
def TyOk (its:List Item):Prop:=∀i,i<its.length→0≤(its.getD i Item.zero).wear∧(its.getD i Item.zero).wear≤1048576
theorem typeOf_some {its:List Item} {i:Int} {t:Item} (h:typeOf its i=some t):0≤i∧i<its.length∧its.getD i.toNat Item.zero=t:=by
 unfold typeOf at h
 split at h
 ·cases h
 ·rename_i h0
  split at h
  ·rename_i x hx
   split at h
   ·injection h with h; subst h
    have:=(List.getElem?_eq_some_iff.1 hx).1
    exact ⟨by omega,by omega,by rw [List.getD_eq_getElem?_getD,hx]; rfl⟩
   ·cases h
  ·cases h
theorem putE_ok {its:List Item} {m:OM} {k:Ky} {x:Ob} (ht:TyOk its) (h:putE its m k x=0):OkO its x∧oget m k=none∧0≤k.1∧0≤k.2:=by
 unfold putE at h
 split at h
 ·simp at h
 ·rename_i hb
  split at h
  ·simp at h
  ·rename_i t hty
   split at h
   ·simp at h
   ·rename_i hw
    split at h
    ·simp at h
    ·rename_i ho
     obtain ⟨h1,h2,h3⟩:=typeOf_some hty
     have h4:=ht x.item.toNat (by omega)
     refine ⟨⟨h1,h2,by omega,by rw [h3]; omega,h4.2⟩,?_,by omega,by omega⟩
     cases hq:oget m k with
     | none=>rfl
     | some y=>rw [hq] at ho; simp at ho
theorem mem_keys {m:OM} {k:Ky} {x:Ob} (h:oget m k=some x):k∈m.map Prod.fst:=List.mem_map.2 ⟨_,oget_mem h,rfl⟩
variable [KObj]
theorem itemsL_ok {b w:Int} (hw:0≤w∧w≤40):TyOk (itemsL b w):=by
 intro i hi
 have hi:i<5:=hi
 match i,hi with
 | 0,_=>exact ⟨Int.le_refl 0,by show (0:Int)≤1048576; decide⟩
 | 1,_=>exact ⟨Int.le_refl 0,by show (0:Int)≤1048576; decide⟩
 | 2,_=>exact ⟨Int.le_refl 0,by show (0:Int)≤1048576; decide⟩
 | 3,_=>exact ⟨Int.le_refl 0,by show (0:Int)≤1048576; decide⟩
 | 4,_=>exact ⟨by show 0≤w; omega,by show w≤1048576; omega⟩
end Go.Proofs.YtpjpdomkcabfcaaGreatDoor
namespace Go.Proofs.YtpjpdomkcabfcaaGreatDoor
open Go.TM
variable [KObj]
set_option maxRecDepth 100000
end Go.Proofs.YtpjpdomkcabfcaaGreatDoor
namespace Go.Proofs.YtpjpdomkcabfcaaGreatDoor
open Go.TM
def kltB (a b:Ky):Bool:=bif decide (a.1<b.1) then true else bif a.1 == b.1 then decide (a.2<b.2) else false
def posO:OM→Ky→Nat
 | [],_=>0
 | p::r,k=>if kltB p.1 k then posO r k+1 else 0
def insO (L:OM) (k:Ky) (x:Ob):OM:=L.take (posO L k)++(k,x)::L.drop (posO L k)
theorem posO_at:∀(L:OM) (k:Ky) (j:Nat),j≤L.length→(∀(i:Nat) (q:Ky × Ob),i<j→L[i]?=some q→kltB q.1 k=true)→(∀q,L[j]?=some q→kltB q.1 k=false)→posO L k=j
 | [],_,j,hj,_,_=>by simp at hj; subst hj; rfl
 | p::r,k,0,_,_,h=>by
  have:=h p rfl
  simp [posO,this]
 | p::r,k,j+1,hj,hn,h=>by
  have h0:=hn 0 p (by omega) rfl
  have ih:=posO_at r k j (by simpa using hj) (fun i q hi hq=>hn (i+1) q (by omega) (by simpa using hq)) (fun q hq=>h q (by simpa using hq))
  simp [posO,h0,ih]
variable [KObj]
def rputM (its:List Item) (L:OM) (k:Ky) (x:Ob):OM:=if putE its L k x=0 then insO L k x else L
theorem by48:(nth tab (nth tab 71).elem).bytes=48:=rfl
set_option maxRecDepth 100000
theorem fz_list (L:OM):(fzD (.osl 6 (L.map eRo))).Le (.sl 6 (L.map eRo)):=DV.Le.of_eq (by
 show DV.sl 6 (fzL (L.map eRo))=_
 rw [fzL_map (fun _=>rfl)])
def pInv (its:List Item) (L:OM) (k:Ky) (x:Ob) (j:Nat):AState:=⟨4,[(0,.ptr 0 0),(3,.ptr 2 0),(7,.dv (I j))],[(0,.cells [.dv (.sl 7 (its.map eItem)),.dv rulesD,.dv tabsD,.dv taxesD,.dv (.sl 6 (L.map eRo))]),(1,.dead),(2,.cells (dvs [I k.1,I k.2,I x.item,I x.owner,I x.wear,B x.bound]))]⟩
set_option maxHeartbeats 4000000 in
theorem rput_spec (its:List Item) (L:OM) (hl:L.length≤100000) (k:Ky) (x:Ob):CSpec Tryz.prog 17 [.ptr 0 0,ofD (eRo (k,x))] 2 (rfK its L 0) 20 [.dv (I (putE its L k x))] (rfK its (rputM its L k x) 1):=by
 refine cspecM_of tab_ok mixed (calls_snd _) (range_snd _) Tryz.func17 rfl rfl (by kernel_rfl) ?_
 repeat first | refine ⟨id,?_⟩ | refine ⟨fun _ h=>bw_f h,?_⟩ | refine ⟨fun _ h=>bw_t h,?_⟩ | refine ⟨fun h=>⟨h,fun h2=>bw_and h h2⟩,?_⟩ | refine ⟨fun h=>⟨h,fun h2=>bw_andf h h2⟩,?_⟩
 refine ⟨fun h=>?_,fun h=>?_⟩
 ·have e:putE its L k x=1:=by
   unfold putE
   rw [if_pos]
   by_cases h1:k.1<0
   ·exact .inl h1
   by_cases h2:k.2<0
   ·exact .inr (.inl h2)
   by_cases h3:1099511627776≤k.2
   ·exact .inr (.inr (.inl h3))
   refine .inr (.inr (.inr ?_))
   unfold isOwner
   by_cases h4:x.owner<1
   ·simp; omega
   ·simp [h1,h2,h3,h4] at h
    simp; omega
  rw [rputM,e]
  exact ⟨1,1,0,_,rfK its L 0,[.dv (I 1)],by kernel_rfl,rfl,⟨rf,tv⟩,⟨⟨rf,rf,rf,rf,rfl,tv⟩,⟨rfl,rfl⟩,tv⟩,_,_,⟨rfl,rfl⟩,by kernel_rfl,⟨rf,tv⟩,⟨rf,rf,rf,rf,rfl,tv⟩,⟨rfl,rfl⟩,tv⟩
 ·have hbad:¬ (k.1<0 ∨ k.2<0 ∨ 1099511627776≤k.2 ∨ isOwner x.owner=false):=by
   have h1:¬ k.1<0:=fun h1=>by simp [h1] at h
   have h2:¬ k.2<0:=fun h2=>by simp [h1,h2] at h
   have h3:¬ 1099511627776≤k.2:=fun h3=>by simp [h1,h2,h3] at h
   have h4:¬ x.owner<1:=fun h4=>by simp [h1,h2,h3,h4] at h
   have h5:¬ 1073741824<x.owner:=fun h5=>by simp [h1,h2,h3,h4,h5] at h
   rintro (h6 | h6 | h6 | h6)
   ·exact h1 h6
   ·exact h2 h6
   ·exact h3 h6
   ·unfold isOwner at h6; simp at h6; omega
  clear h
  have hkd:=kind_spec its L x.item
  have hE:putE its L k x=match typeOf its x.item with
   | none=>9
   | some t=>if x.wear<0 ∨ t.wear<x.wear then 5 else if (oget L k).isSome then 8 else 0:=by unfold putE; rw [if_neg hbad]; cases typeOf its x.item <;> rfl
  refine .inl (.inr ⟨[0,1],[.ptr 0 0,.dv (I x.item)],rfK its L 0,0,_,_,hkd,by kernel_rfl,by kernel_rfl,⟨rfl,rf,tv⟩,⟨⟨rf,rf,rf,rf,rfl,tv⟩,⟨rfl,rfl⟩,tv⟩,?_⟩)
  refine ⟨fun h=>?_,fun h=>?_⟩
  ·have ht:typeOf its x.item=none:=by
    cases hq:typeOf its x.item with
    | none=>rfl
    | some t=>rw [hq] at h; cases h
   have e:putE its L k x=9:=by rw [hE,ht]
   rw [rputM,e]
   exact ⟨1,1,0,_,rfK its L 0,[.dv (I 9)],by kernel_rfl,rfl,⟨rf,tv⟩,⟨⟨rf,rf,rf,rf,rfl,tv⟩,⟨rfl,rfl⟩,tv⟩,_,_,⟨rfl,rfl⟩,by kernel_rfl,⟨rf,tv⟩,⟨rf,rf,rf,rf,rfl,tv⟩,⟨rfl,rfl⟩,tv⟩
  ·obtain ⟨t,ht⟩:∃t,typeOf its x.item=some t:=by
    cases hq:typeOf its x.item with
    | none=>rw [hq] at h; cases h
    | some t=>exact ⟨t,rfl⟩
   obtain ⟨g1,g2,g3⟩:=typeOf_some ht
   have hkI:kI its x.item=t:=by unfold kI; rw [if_neg (by omega),g3]
   rw [ht] at hE
   simp only at hE
   rw [hkI]
   clear h
   repeat first | refine ⟨id,?_⟩ | refine ⟨fun _ h=>bw_f h,?_⟩ | refine ⟨fun _ h=>bw_t h,?_⟩ | refine ⟨fun h=>⟨h,fun h2=>bw_and h h2⟩,?_⟩ | refine ⟨fun h=>⟨h,fun h2=>bw_andf h h2⟩,?_⟩
   refine ⟨fun h=>?_,fun h=>?_⟩
   ·have hw:x.wear<0 ∨ t.wear<x.wear:=by
     by_cases h1:x.wear<0
     ·exact .inl h1
     ·simp [h1] at h; exact .inr h
    have e:putE its L k x=5:=by rw [hE,if_pos hw]
    rw [rputM,e]
    exact ⟨1,1,0,_,rfK its L 0,[.dv (I 5)],by kernel_rfl,rfl,⟨rf,tv⟩,⟨⟨rf,rf,rf,rf,rfl,tv⟩,⟨rfl,rfl⟩,tv⟩,_,_,⟨rfl,rfl⟩,by kernel_rfl,⟨rf,tv⟩,⟨rf,rf,rf,rf,rfl,tv⟩,⟨rfl,rfl⟩,tv⟩
   ·have hw:¬ (x.wear<0 ∨ t.wear<x.wear):=by
     rintro (h1 | h1) <;> simp [h1] at h
    rw [if_neg hw] at hE
    clear h
    have hf:=find_spec its L (by omega) k.1 k.2
    rw [show (k.1,k.2)=k from rfl] at hf
    refine .inl (.inr ⟨[0,1],[.ptr 0 0,.dv (I k.1),.dv (I k.2)],rfK its L 0,0,_,_,hf,by kernel_rfl,by kernel_rfl,⟨rfl,rf,rf,tv⟩,⟨⟨rf,rf,rf,rf,rfl,tv⟩,⟨rfl,rfl⟩,tv⟩,?_⟩)
    refine ⟨fun h=>?_,fun h=>?_⟩
    ·have h':0≤findI L k:=of_decide_eq_true h
     have hs:(oget L k).isSome=true:=by
      cases hq:oget L k with
      | none=>unfold findI at h'; rw [if_neg (fidx_none hq)] at h'; omega
      | some y=>rfl
     have e:putE its L k x=8:=by rw [hE,if_pos hs]
     rw [rputM,e]
     exact ⟨1,1,0,_,rfK its L 0,[.dv (I 8)],by kernel_rfl,rfl,⟨rf,tv⟩,⟨⟨rf,rf,rf,rf,rfl,tv⟩,⟨rfl,rfl⟩,tv⟩,_,_,⟨rfl,rfl⟩,by kernel_rfl,⟨rf,tv⟩,⟨rf,rf,rf,rf,rfl,tv⟩,⟨rfl,rfl⟩,tv⟩
    ·have h':¬ 0≤findI L k:=of_decide_eq_false h
     have hs:(oget L k).isSome=false:=by
      cases hq:oget L k with
      | none=>rfl
      | some y =>
       have:=(fidx_some hq).1
       unfold findI at h'; rw [if_pos this] at h'; omega
     have e:putE its L k x=0:=by rw [hE,if_neg (by rw [hs]; simp)]
     rw [rputM,e,if_pos rfl]
     clear h
     refine ⟨Nat,pInv its L k x,fun j=>j≤L.length∧∀(i:Nat) (q:Ky × Ob),i<j→L[i]?=some q→kltB q.1 k=true,fun j=>L.length - j,0,fun _=>rfl,⟨⟨rfl,rfl,rf,tv⟩,⟨⟨rf,rf,rf,rf,fz_list L,tv⟩,tv,⟨rf,rf,rf,rf,rf,rf,tv⟩,tv⟩,rfl,rfl⟩,⟨Nat.zero_le _,fun i q h=>by omega⟩,?_⟩
     rintro j ⟨hj,hn⟩
     have hel:decide ((j:Int)<((L.map eRo).length:Int))=true→0≤(j:Int)∧(L.map eRo)[(j:Int).toNat]?=some (eRo (L.getD j ((0,0),Ob.zero))):=fun h=>by
      have h2:j<L.length:=by have:=of_decide_eq_true h; simp at this; omega
      exact ⟨by omega,by simp [h2]⟩
     have hlt:j<L.length→L[j]?=some (L.getD j ((0,0),Ob.zero)):=fun h=>by simp [h]
     generalize L.getD j ((0,0),Ob.zero)=p at hel hlt
     have h1:∀{b:Bool},bw b true=true→b=true:=fun {b} h=>h
     have h2:∀{b c:Bool},(bw b true && c)=true→b=true:=fun {b c} h=>by cases b <;> simp_all [bw]
     repeat first | refine ⟨id,?_⟩ | refine ⟨fun _ h=>bw_f h,?_⟩ | refine ⟨fun _ h=>bw_t h,?_⟩ | refine ⟨fun h=>⟨h,fun h2=>bw_and h h2⟩,?_⟩ | refine ⟨fun h=>⟨h,fun h2=>bw_andf h h2⟩,?_⟩
     refine ⟨eRo p,fun h=>hel (h1 h),?_⟩
     repeat first | refine ⟨id,?_⟩ | refine ⟨fun _ h=>bw_f h,?_⟩ | refine ⟨fun _ h=>bw_t h,?_⟩ | refine ⟨fun h=>⟨h,fun h2=>bw_and h h2⟩,?_⟩ | refine ⟨fun h=>⟨h,fun h2=>bw_andf h h2⟩,?_⟩
     refine ⟨eRo p,fun h=>hel (h2 h),?_⟩
     repeat first | refine ⟨id,?_⟩ | refine ⟨fun _ h=>bw_f h,?_⟩ | refine ⟨fun _ h=>bw_t h,?_⟩ | refine ⟨fun h=>⟨h,fun h2=>bw_and h h2⟩,?_⟩ | refine ⟨fun h=>⟨h,fun h2=>bw_andf h h2⟩,?_⟩
     refine ⟨eRo p,fun h=>hel (by cases hq:decide ((j:Int)<((L.map eRo).length:Int)) with | true=>rfl | false=>rw [hq] at h; simp [bw] at h),?_⟩
     repeat first | refine ⟨id,?_⟩ | refine ⟨fun _ h=>bw_f h,?_⟩ | refine ⟨fun _ h=>bw_t h,?_⟩ | refine ⟨fun h=>⟨h,fun h2=>bw_and h h2⟩,?_⟩ | refine ⟨fun h=>⟨h,fun h2=>bw_andf h h2⟩,?_⟩
     refine ⟨by kernel_rfl,fun h=>?_,fun h=>?_⟩
     ·have h3:(bif decide ((j:Int)<((L.map eRo).length:Int)) then kltB p.1 k else false)=true:=h
      have hj1:j<L.length:=by
       by_cases hq:(j:Int)<((L.map eRo).length:Int)
       ·simp at hq; omega
       ·simp only [hq,decide_false,cond_false] at h3; cases h3
      have hq:decide ((j:Int)<((L.map eRo).length:Int))=true:=by simp; omega
      rw [hq] at h3
      have h3:kltB p.1 k=true:=h3
      refine ⟨fun _=>⟨by omega,by omega⟩,j+1,⟨⟨rfl,rfl,le_int (by simp),tv⟩,⟨⟨rf,rf,rf,rf,rf,tv⟩,tv,⟨rf,rf,rf,rf,rf,rf,tv⟩,tv⟩,rfl,rfl⟩,⟨by omega,fun i q hi hq'=>?_⟩,by show L.length - (j+1)<L.length - j; omega⟩
      by_cases e:i=j
      ·subst e
       rw [hlt hj1] at hq'; injection hq' with hq'; subst hq'; exact h3
      ·exact hn i q (by omega) hq'
     ·have h3:(bif decide ((j:Int)<((L.map eRo).length:Int)) then kltB p.1 k else false)=false:=h
      have hpo:posO L k=j:=posO_at L k j hj hn (fun q hq=>by
       have hj1:=(List.getElem?_eq_some_iff.1 hq).1
       have hq2:decide ((j:Int)<((L.map eRo).length:Int))=true:=by simp; omega
       rw [hq2] at h3
       rw [hlt hj1] at hq; injection hq with hq; subst hq; exact h3)
      refine ⟨fun _=>⟨by simp,by simp,by simp; omega⟩,.inr ⟨_,ELes.refl _,(by rw [by48]; simp; omega),(by simp; omega),?_⟩⟩
      refine .inl ⟨[eRo (k,x)],rfl,⟨rf,rf,rf,rf,rf,rf,tv⟩,(by simp; rfl),?_⟩
      refine .inr ⟨[eRo (k,x)],ELes.refl _,(by rw [by48]; simp; omega),(by simp; omega),?_⟩
      refine ⟨fun _=>⟨by simp,by simp; omega,by simp⟩,.inr ⟨_,ELes.refl _,(by rw [by48]; simp; omega),(by simp; omega),?_⟩⟩
      refine ⟨by kernel_rfl,?_⟩
      refine ⟨1,4,0,_,[(0,.cells [.dv (.sl 7 (its.map eItem)),.dv rulesD,.dv tabsD,.dv taxesD,.own 4 0 0 []]),(1,.dead),(4,.tree 0 0 (.osl 6 ((insO L k x).map eRo)))],[.dv (I 0)],by kernel_rfl,rfl,⟨rf,tv⟩,⟨⟨rf,rf,rf,rf,rfl,tv⟩,tv,⟨rfl,?_⟩,tv⟩,?_⟩
      ·show DV.osl 6 _=DV.osl 6 _
       congr 1
       unfold insO
       rw [hpo]
       rw [List.map_append,List.map_cons,List.map_take,List.map_drop]
       simp
       rw [List.take_of_length_le (by simp)]
      ·exact ⟨_,_,⟨rfl,rfl⟩,by kernel_rfl,⟨rf,tv⟩,⟨rf,rf,rf,rf,rfl,tv⟩,⟨rfl,rfl⟩,tv⟩
def rmakeX (its:List Item) (i ow:Int):Ob:=⟨i,ow,(kI its i).wear,decide ((kI its i).bind=1)⟩
set_option maxHeartbeats 4000000 in
theorem rmake_spec (its:List Item) (L:OM) (hl:L.length≤100000) (k:Ky) (i ow:Int):CSpec Tryz.prog 19 [.ptr 0 0,.dv (I k.1),.dv (I k.2),.dv (I i),.dv (I ow)] 2 (rfK its L 0) 30 [.dv (I (putE its L k (rmakeX its i ow)))] (rfK its (rputM its L k (rmakeX its i ow)) 1):=by
 refine cspec_of tab_ok mixed (calls_snd _) (range_snd _) Tryz.func19 rfl rfl (by kernel_rfl) ?_
 refine .inr ⟨[0,1],[.ptr 0 0,.dv (I i)],rfK its L 0,0,_,_,kind_spec its L i,by kernel_rfl,by kernel_rfl,⟨rfl,rf,tv⟩,⟨⟨rf,rf,rf,rf,rfl,tv⟩,⟨rfl,rfl⟩,tv⟩,?_⟩
 refine .inr ⟨[0,1],[.ptr 0 0,ofD (eRo (k,rmakeX its i ow))],rfK its L 0,20,_,_,rput_spec its L hl k (rmakeX its i ow),by kernel_rfl,by kernel_rfl,⟨rfl,⟨rf,rf,rf,rf,rf,DV.Le.of_eq (congrArg B (by simp [rmakeX]; cases hq:decide ((kI its i).bind=1) <;> simp_all)),tv⟩,tv⟩,⟨⟨rf,rf,rf,rf,rfl,tv⟩,⟨rfl,rfl⟩,tv⟩,?_⟩
 exact ⟨_,_,⟨rfl,rfl⟩,by kernel_rfl,⟨rf,tv⟩,⟨rf,rf,rf,rf,rfl,tv⟩,⟨rfl,rfl⟩,tv⟩
end Go.Proofs.YtpjpdomkcabfcaaGreatDoor
namespace Go.Proofs.YtpjpdomkcabfcaaGreatDoor
open Go.TM
variable [KObj]
set_option maxRecDepth 100000
end Go.Proofs.YtpjpdomkcabfcaaGreatDoor
namespace Go.Proofs.YtpjpdomkcabfcaaGreatDoor
open Go.TM
variable [KObj]
set_option maxRecDepth 100000
end Go.Proofs.YtpjpdomkcabfcaaGreatDoor
namespace Go.Proofs.YtpjpdomkcabfcaaGreatDoor
open Go.TM
variable [KObj]
def encR (L:OM):List Int:=ibytes L.length++L.flatMap fun p=>obB p.1 p.2
def encS (L:OM) (i:Nat):List Int:=ibytes L.length++(L.take i).flatMap fun p=>obB p.1 p.2
theorem encS_len (L:OM) (i:Nat) (hl:L.length≤100):(encS L i).length≤7000:=by
 have h1:=ibytes_len L.length
 have h2:∀l:OM,(l.flatMap fun p=>obB p.1 p.2).length≤66 * l.length:=by
  intro l
  induction l with
  | nil=>simp
  | cons p l ih =>
   have h:(obB p.1 p.2).length≤11 * 6:=flat_len (nums p.1 p.2)
   simp only [List.flatMap_cons,List.length_append,List.length_cons]
   omega
 have h3:=h2 (L.take i)
 have h4:(L.take i).length≤L.length:=by rw [List.length_take]; exact Nat.min_le_right _ _
 unfold encS
 simp only [List.length_append]
 omega
def reInv1 (its:List Item) (L:OM) (i:Nat):AState:=⟨3,[(0,.ptr 0 0),(3,.own 2 0 0 []),(4,.dv (I i))],rfK its L 0++[(2,.tree 0 0 (.osl 1 ((encS L i).map Y)))]⟩
def reInv2 (its:List Item) (L:OM) (i:Nat) (p:Ky × Ob) (j:Nat):AState:=⟨3,[(0,.ptr 0 0),(3,.own 2 0 0 []),(4,.dv (I i)),(7,.dv (Ints (nums p.1 p.2))),(8,.dv (I j))],rfK its L 0++[(2,.tree 0 0 (.osl 1 ((encS L i++((nums p.1 p.2).take j).flatMap ibytes).map Y)))]⟩
set_option maxRecDepth 100000
set_option maxHeartbeats 4000000 in
theorem rencode_spec (its:List Item) (L:OM) (hl:L.length≤100) (hi:∀p,p∈L→∀n,n∈nums p.1 p.2→InI n):CSpec Tryz.prog 44 [.ptr 0 0] 2 (rfK its L 0) 1 [.own 2 0 0 []] (rfK its L 0++[(2,.tree 0 0 (.osl 1 ((encR L).map Y)))]):=by
 refine cspec_of tab_ok mixed (calls_snd _) (range_snd _) Tryz.func44 rfl rfl (by kernel_rfl) ?_
 refine .inr ⟨[],[.dv (I (L.length:Nat))],[],1,_,_,rint_spec _ ⟨by omega,by omega⟩,by kernel_rfl,by kernel_rfl,⟨le_int (by simp),tv⟩,tv,?_⟩
 refine ⟨Nat,reInv1 its L,fun i=>i≤L.length,fun i=>L.length - i,0,fun _=>rfl,⟨⟨rfl,rfl,rf,tv⟩,⟨⟨rf,rf,rf,rf,rfl,tv⟩,⟨rfl,rfl⟩,⟨rfl,by simp [encS]⟩,tv⟩,rfl,rfl⟩,Nat.zero_le _,?_⟩
 intro i hi0
 refine ⟨fun h=>?_,fun h=>?_⟩
 ·have hlt:i<L.length:=by simpa using h
  clear h
  have hel:(L.map eRo)[(i:Int).toNat]?=some (eRo L[i]):=by simp [hlt]
  have hmem:L[i]∈L:=List.getElem_mem hlt
  refine ⟨fun _=>⟨by omega,by simp; omega⟩,eRo L[i],fun _=>hel,?_⟩
  have htk:(L.take (i+1))=L.take i++[L[i]]:=List.take_succ_eq_append_getElem hlt
  generalize L[i]=p at hel hmem htk
  have hp0:∀n,n∈nums p.1 p.2→InI n:=hi p hmem
  obtain ⟨⟨k1,k2⟩,⟨xi,xo,xw,xb⟩⟩:=p
  cases xb with
  | false =>
   refine ⟨fun h=>Bool.noConfusion h,fun _=>?_⟩
   refine .inl ⟨(nums (k1,k2) ⟨xi,xo,xw,false⟩).map I,rfl,⟨rf,rf,rf,rf,rf,rf,tv⟩,(fun x hx=>by obtain ⟨n,_,rfl⟩:=List.mem_map.1 hx; rfl),?_⟩
   refine ⟨Nat,reInv2 its L i ((k1,k2),⟨xi,xo,xw,false⟩),fun j=>j≤6,fun j=>6 - j,0,fun _=>rfl,⟨⟨rfl,rfl,rf,rf,rf,tv⟩,⟨⟨rf,rf,rf,rf,rfl,tv⟩,⟨rfl,rfl⟩,⟨rfl,by simp⟩,tv⟩,rfl,rfl⟩,by omega,?_⟩
   intro j hj
   refine ⟨fun h=>?_,fun h=>?_⟩
   ·have h2:(j:Int)<6:=of_decide_eq_true h
    have hj2:j<6:=by omega
    have hnt:=numsT (k1,k2) ⟨xi,xo,xw,false⟩ hj2
    have hlt6:j<(nums (k1,k2) ⟨xi,xo,xw,false⟩).length:=hj2
    have hin:InI ((nums (k1,k2) ⟨xi,xo,xw,false⟩).getD j 0):=by
     rw [List.getD_eq_getElem?_getD,List.getElem?_eq_getElem hlt6]
     exact hp0 _ (List.getElem_mem hlt6)
    have h3:=ibytes_len ((nums (k1,k2) ⟨xi,xo,xw,false⟩).getD j 0)
    have h4:=flat_len ((nums (k1,k2) ⟨xi,xo,xw,false⟩).take j)
    have h5:((nums (k1,k2) ⟨xi,xo,xw,false⟩).take j).length≤6:=by rw [List.length_take]; exact Nat.min_le_right _ _
    have h6:=encS_len L i hl
    refine ⟨I ((nums (k1,k2) ⟨xi,xo,xw,false⟩).getD j 0),fun _=>⟨by omega,by simp only [List.getElem?_map,Int.toNat_natCast,List.getElem?_eq_getElem hlt6,List.getD_eq_getElem?_getD]; rfl⟩,?_⟩
    refine .inr ⟨[],[.dv (I ((nums (k1,k2) ⟨xi,xo,xw,false⟩).getD j 0))],[],1,_,_,rint_spec _ hin,by kernel_rfl,by kernel_rfl,⟨rf,tv⟩,tv,?_⟩
    refine .inr (.inl ⟨closed_Y _,(ibytes ((nums (k1,k2) ⟨xi,xo,xw,false⟩).getD j 0)).map Y,ELes.refl _,(by rw [byWB]; simp only [List.length_map,List.length_append]; omega),(by simp only [List.length_map,List.length_append]; omega),?_⟩)
    refine ⟨fun _=>⟨by omega,by omega⟩,j+1,⟨⟨rfl,rfl,rf,rf,le_int (by simp),tv⟩,⟨⟨rf,rf,rf,rf,rfl,tv⟩,⟨rfl,rfl⟩,⟨rfl,?_⟩,tv⟩,rfl,rfl⟩,by show j+1≤6; omega,by show 6 - (j+1)<6 - j; omega⟩
    show DV.osl 1 _=DV.osl 1 _
    congr 1
    rw [←List.map_append,List.append_assoc,hnt]
   ·have h2:¬ (j:Int)<6:=of_decide_eq_false h
    have hj6:j=6:=by omega
    subst hj6
    refine ⟨fun _=>⟨by omega,by omega⟩,i+1,⟨⟨rfl,rfl,le_int (by simp),tv⟩,⟨⟨rf,rf,rf,rf,rfl,tv⟩,⟨rfl,rfl⟩,⟨rfl,?_⟩,tv⟩,rfl,rfl⟩,by show i+1≤L.length; omega,by show L.length - (i+1)<L.length - i; omega⟩
    show DV.osl 1 _=DV.osl 1 _
    congr 2
    unfold encS
    rw [htk,List.append_assoc,List.flatMap_append]
    congr 1
    simp only [List.flatMap_cons,List.flatMap_nil,List.append_nil]
    rfl
  | true =>
   refine ⟨fun _=>?_,fun h=>Bool.noConfusion h⟩
   refine .inl ⟨(nums (k1,k2) ⟨xi,xo,xw,true⟩).map I,rfl,⟨rf,rf,rf,rf,rf,rf,tv⟩,(fun x hx=>by obtain ⟨n,_,rfl⟩:=List.mem_map.1 hx; rfl),?_⟩
   refine ⟨Nat,reInv2 its L i ((k1,k2),⟨xi,xo,xw,true⟩),fun j=>j≤6,fun j=>6 - j,0,fun _=>rfl,⟨⟨rfl,rfl,rf,rf,rf,tv⟩,⟨⟨rf,rf,rf,rf,rfl,tv⟩,⟨rfl,rfl⟩,⟨rfl,by simp⟩,tv⟩,rfl,rfl⟩,by omega,?_⟩
   intro j hj
   refine ⟨fun h=>?_,fun h=>?_⟩
   ·have h2:(j:Int)<6:=of_decide_eq_true h
    have hj2:j<6:=by omega
    have hnt:=numsT (k1,k2) ⟨xi,xo,xw,true⟩ hj2
    have hlt6:j<(nums (k1,k2) ⟨xi,xo,xw,true⟩).length:=hj2
    have hin:InI ((nums (k1,k2) ⟨xi,xo,xw,true⟩).getD j 0):=by
     rw [List.getD_eq_getElem?_getD,List.getElem?_eq_getElem hlt6]
     exact hp0 _ (List.getElem_mem hlt6)
    have h3:=ibytes_len ((nums (k1,k2) ⟨xi,xo,xw,true⟩).getD j 0)
    have h4:=flat_len ((nums (k1,k2) ⟨xi,xo,xw,true⟩).take j)
    have h5:((nums (k1,k2) ⟨xi,xo,xw,true⟩).take j).length≤6:=by rw [List.length_take]; exact Nat.min_le_right _ _
    have h6:=encS_len L i hl
    refine ⟨I ((nums (k1,k2) ⟨xi,xo,xw,true⟩).getD j 0),fun _=>⟨by omega,by simp only [List.getElem?_map,Int.toNat_natCast,List.getElem?_eq_getElem hlt6,List.getD_eq_getElem?_getD]; rfl⟩,?_⟩
    refine .inr ⟨[],[.dv (I ((nums (k1,k2) ⟨xi,xo,xw,true⟩).getD j 0))],[],1,_,_,rint_spec _ hin,by kernel_rfl,by kernel_rfl,⟨rf,tv⟩,tv,?_⟩
    refine .inr (.inl ⟨closed_Y _,(ibytes ((nums (k1,k2) ⟨xi,xo,xw,true⟩).getD j 0)).map Y,ELes.refl _,(by rw [byWB]; simp only [List.length_map,List.length_append]; omega),(by simp only [List.length_map,List.length_append]; omega),?_⟩)
    refine ⟨fun _=>⟨by omega,by omega⟩,j+1,⟨⟨rfl,rfl,rf,rf,le_int (by simp),tv⟩,⟨⟨rf,rf,rf,rf,rfl,tv⟩,⟨rfl,rfl⟩,⟨rfl,?_⟩,tv⟩,rfl,rfl⟩,by show j+1≤6; omega,by show 6 - (j+1)<6 - j; omega⟩
    show DV.osl 1 _=DV.osl 1 _
    congr 1
    rw [←List.map_append,List.append_assoc,hnt]
   ·have h2:¬ (j:Int)<6:=of_decide_eq_false h
    have hj6:j=6:=by omega
    subst hj6
    refine ⟨fun _=>⟨by omega,by omega⟩,i+1,⟨⟨rfl,rfl,le_int (by simp),tv⟩,⟨⟨rf,rf,rf,rf,rfl,tv⟩,⟨rfl,rfl⟩,⟨rfl,?_⟩,tv⟩,rfl,rfl⟩,by show i+1≤L.length; omega,by show L.length - (i+1)<L.length - i; omega⟩
    show DV.osl 1 _=DV.osl 1 _
    congr 2
    unfold encS
    rw [htk,List.append_assoc,List.flatMap_append]
    congr 1
    simp only [List.flatMap_cons,List.flatMap_nil,List.append_nil]
    rfl
 ·have he0:¬ i<L.length:=by simpa using h
  have he:i=L.length:=by omega
  subst he
  have hb:encS L L.length=encR L:=by unfold encS encR; rw [List.take_length]
  rw [←hb]
  exact ⟨_,_,⟨rfl,rfl⟩,by kernel_rfl,⟨rfl,tv⟩,⟨rf,rf,rf,rf,rfl,tv⟩,⟨rfl,rfl⟩,⟨rfl,rfl⟩,tv⟩
end Go.Proofs.YtpjpdomkcabfcaaGreatDoor
namespace Go.Proofs.YtpjpdomkcabfcaaGreatDoor
open Go.TM
variable [KObj]
structure Same (m L:OM):Prop where
 nd:NdK m
 keys:L.map Prod.fst=keysOf m
 get:∀k,oget m k=oget L k
theorem keys_nd {m:OM} (h:NdK m):(keysOf m).Nodup:=(isortN_perm _ _).nodup_iff.2 h
theorem keys_pair {m:OM} (h:NdK m):(keysOf m).Pairwise klt:=isort_pair h
theorem Same.ndL {m L:OM} (h:Same m L):NdK L:=by unfold NdK; rw [h.keys]; exact keys_nd h.nd
theorem Same.len {m L:OM} (h:Same m L):L.length=m.length:=by
 have:=congrArg List.length h.keys
 rw [List.length_map] at this
 rw [this]; unfold keysOf; rw [isortN_len,List.length_map]
theorem Same.at {m L:OM} (h:Same m L) {p:Ky × Ob} (hp:p∈L):oget m p.1=some p.2:=by
 rw [h.get]; exact mem_oget h.ndL hp
theorem Same.enc {m L:OM} (h:Same m L):encB m=encR L:=by
 unfold encB encR
 rw [←h.keys,h.len,List.flatMap_map]
 congr 1
 have:∀l:OM,(∀p,p∈l→p∈L)→(l.flatMap fun p=>obB p.1 ((oget m p.1).getD Ob.zero))=l.flatMap fun p=>obB p.1 p.2:=by
  intro l hl
  induction l with
  | nil=>rfl
  | cons p l ih =>
   simp only [List.flatMap_cons]
   rw [ih (fun q hq=>hl q (by simp [hq])),h.at (hl p (by simp))]
   rfl
 exact this L fun p hp=>hp
theorem same_nil:Same [] []:=⟨by simp [NdK],rfl,fun _=>rfl⟩
def ownL (L:OM) (ow:Int):OM:=L.filter fun p=>p.2.owner == ow
theorem Same.of {m L:OM} (h:Same m L) (ow:Int):ofL m ow=(ownL L ow).map Prod.fst:=by
 refine sorted_ext (isort_pair (ownK_nd h.nd ow)) ?_ fun k=>?_
 ·have h1:(L.map Prod.fst).Pairwise klt:=by rw [h.keys]; exact keys_pair h.nd
  exact h1.sublist (List.filter_sublist.map _)
 ·rw [mem_ofL h.nd]
  simp only [ownL,List.mem_map,List.mem_filter]
  constructor
  ·rintro ⟨x,h1,h2⟩
   rw [h.get] at h1
   exact ⟨(k,x),⟨oget_mem h1,by simpa using h2⟩,rfl⟩
  ·rintro ⟨⟨k',x⟩,⟨h1,h2⟩,rfl⟩
   exact ⟨x,h.at h1,by simpa using h2⟩
theorem kltB_iff {a b:Ky}:kltB a b=true ↔ klt a b:=by
 unfold kltB klt
 by_cases h1:a.1<b.1
 ·simp [h1]
 ·by_cases h2:a.1=b.1
  ·simp [h1,h2]
  ·simp [h1,h2]
theorem insO_get {L:OM} {k q:Ky} {x:Ob} (hk:oget L k=none):oget (insO L k x) q=if k=q then some x else oget L q:=by
 have app:∀(a b:OM),oget (a++b) q=match oget a q with | some y=>some y | none=>oget b q:=by
  intro a b
  induction a with
  | nil=>rfl
  | cons p r ih =>
   simp only [List.cons_append,oget]
   split
   ·rfl
   ·exact ih
 unfold insO
 have e:oget L q=match oget (L.take (posO L k)) q with | some y=>some y | none=>oget (L.drop (posO L k)) q:=by
  rw [←app,List.take_append_drop]
 rw [app]
 by_cases hq:k=q
 ·subst hq
  rw [if_pos rfl]
  rw [hk] at e
  cases h1:oget (L.take (posO L k)) k with
  | some y=>rw [h1] at e; cases e
  | none=>simp [oget]
 ·rw [if_neg hq,e]
  cases h1:oget (L.take (posO L k)) q with
  | some y=>rfl
  | none=>simp only [oget,if_neg hq]
theorem pos_split {L:OM} {k:Ky}:(∀p,p∈L.take (posO L k)→kltB p.1 k=true):=by
 induction L with
 | nil=>simp
 | cons p r ih =>
  simp only [posO]
  split
  ·rename_i h
   intro q hq
   simp only [List.take_succ_cons,List.mem_cons] at hq
   rcases hq with rfl | hq
   ·exact h
   ·exact ih q hq
  ·simp
theorem pos_drop {L:OM} {k:Ky} (hs:(L.map Prod.fst).Pairwise klt) (hk:oget L k=none):∀p,p∈L.drop (posO L k)→klt k p.1:=by
 induction L with
 | nil=>simp
 | cons p r ih =>
  rw [List.map_cons,List.pairwise_cons] at hs
  have hk1:¬ p.1=k:=fun e=>by simp [oget,e] at hk
  have hk2:oget r k=none:=by simpa [oget,hk1] using hk
  simp only [posO]
  split
  ·exact ih hs.2 hk2
  ·rename_i h
   have h0:¬ klt p.1 k:=fun hh=>h (kltB_iff.2 hh)
   have h1:klt k p.1:=klt_of (by unfold kle klt at *; omega) (fun e=>hk1 e.symm)
   intro q hq
   rw [List.drop_zero] at hq
   rcases List.mem_cons.1 hq with rfl | hq
   ·exact h1
   ·exact klt_tr h1 (hs.1 q.1 (List.mem_map.2 ⟨q,hq,rfl⟩))
theorem keys_same {m L:OM} (hn:NdK m) (hs:(L.map Prod.fst).Pairwise klt) (hg:∀k,oget m k=oget L k):L.map Prod.fst=keysOf m:=by
 refine sorted_ext hs (keys_pair hn) fun k=>?_
 unfold keysOf
 rw [(isortN_perm _ _).mem_iff]
 constructor
 ·intro h
  obtain ⟨p,h1,rfl⟩:=List.mem_map.1 h
  have:∃x,oget L p.1=some x:=by
   cases hq:oget L p.1 with
   | some x=>exact ⟨x,rfl⟩
   | none =>
    have hnd:NdK L:=by
     unfold NdK List.Nodup
     exact hs.imp fun {a b} h=>fun e=>by subst e; exact klt_irr h
    rw [mem_oget hnd h1] at hq; cases hq
  obtain ⟨x,hx⟩:=this
  exact mem_keys ((hg _).trans hx)
 ·intro h
  obtain ⟨p,h1,rfl⟩:=List.mem_map.1 h
  exact mem_keys ((hg _).symm.trans (mem_oget hn h1))
theorem Same.srt {m L:OM} (h:Same m L):(L.map Prod.fst).Pairwise klt:=by rw [h.keys]; exact keys_pair h.nd
theorem Same.ins {m L:OM} (h:Same m L) {k:Ky} {x:Ob} (hk:oget m k=none):Same (oput m k x) (insO L k x):=by
 have hk2:oget L k=none:=(h.get k).symm.trans hk
 have hg:∀q,oget (oput m k x) q=oget (insO L k x) q:=fun q=>by rw [oget_put,insO_get hk2,h.get]
 have hn:=oput_nd (k:=k) (x:=x) h.nd
 refine ⟨hn,keys_same hn ?_ hg,hg⟩
 unfold insO
 rw [List.map_append,List.map_cons]
 have hs:=h.srt
 rw [show L.map Prod.fst=(L.take (posO L k)).map Prod.fst++(L.drop (posO L k)).map Prod.fst by rw [←List.map_append,List.take_append_drop]] at hs
 rw [List.pairwise_append] at hs ⊢
 have d1:=pos_drop h.srt hk2
 refine ⟨hs.1,List.pairwise_cons.2 ⟨fun q hq=>?_,hs.2.1⟩,fun a ha b hb=>?_⟩
 ·obtain ⟨p,hp,rfl⟩:=List.mem_map.1 hq
  exact d1 p hp
 ·rcases List.mem_cons.1 hb with rfl | hb
  ·obtain ⟨p,hp,rfl⟩:=List.mem_map.1 ha
   exact kltB_iff.1 (pos_split p hp)
  ·exact hs.2.2 a ha b hb
end Go.Proofs.YtpjpdomkcabfcaaGreatDoor
namespace Go.Proofs.YtpjpdomkcabfcaaGreatDoor
open Go.TM
variable [KObj]
def KO (m:OM):Prop:=∀k x,oget m k=some x→InI k.1∧InI k.2∧InI x.owner
theorem numS {its:List Item} {m:OM} (ho:OkS its m) (hk:KO m) (hl:its.length≤1000):NumS m:=by
 intro k x hx n hn
 have h1:=ho k x hx
 have h2:=hk k x hx
 have a0:=h1.lo
 have a1:=h1.hi
 have a2:=h1.w0
 have a3:=h1.w1
 have a4:=h1.w2
 simp only [nums,List.mem_cons,List.not_mem_nil,or_false] at hn
 rcases hn with rfl | rfl | rfl | rfl | rfl | rfl
 ·exact h2.1
 ·exact h2.2.1
 ·exact ⟨by omega,by omega⟩
 ·exact h2.2.2
 ·exact ⟨by omega,by omega⟩
 ·unfold bN; split <;> exact ⟨by omega,by omega⟩
theorem Same.num {m L:OM} (h:Same m L) (hn:NumS m):∀p,p∈L→∀n,n∈nums p.1 p.2→InI n:=fun p hp n hh=>hn p.1 p.2 (h.at hp) n hh
theorem KO.put {m:OM} (h:KO m) {k:Ky} {x:Ob} (hk:InI k.1∧InI k.2∧InI x.owner):KO (oput m k x):=by
 intro q y hy
 rw [oget_put] at hy
 split at hy
 ·rename_i e; injection hy with hy; subst hy; subst e; exact hk
 ·exact h q y hy
theorem owner_in {n:Int} (h:¬ isOwner n=false):InI n:=by
 unfold isOwner at h
 simp at h
 exact ⟨by omega,by omega⟩
theorem putE_ow {its:List Item} {m:OM} {k:Ky} {x:Ob} (h:putE its m k x=0):InI x.owner:=by
 unfold putE at h
 split at h
 ·simp at h
 ·rename_i hb
  exact owner_in fun e=>hb (.inr (.inr (.inr e)))
theorem ko_putM {its:List Item} {m:OM} (h:KO m) {k:Ky} {x:Ob} (hk:InI k.1∧InI k.2):KO (putM its m k x):=by
 unfold putM
 split
 ·rename_i e; exact h.put ⟨hk.1,hk.2,putE_ow e⟩
 ·exact h
theorem putE_same {its:List Item} {m L:OM} (h:Same m L) (k:Ky) (x:Ob):putE its L k x=putE its m k x:=by unfold putE; rw [h.get]
theorem kI_of {its:List Item} {i:Int} {t:Item} (h:typeOf its i=some t):kI its i=t:=by
 obtain ⟨g1,g2,g3⟩:=typeOf_some h
 unfold kI; rw [if_neg (by omega),g3]
theorem make_same {its:List Item} {m:OM} (k:Ky) (i ow:Int):putE its m k (rmakeX its i ow)=putE its m k (makeX its i ow):=by
 unfold putE
 cases ht:typeOf its i with
 | none=>simp only [rmakeX,makeX,ht]
 | some t=>simp only [rmakeX,makeX,ht,kI_of ht,tyI,Option.getD_some]
theorem make_ob {its:List Item} {m:OM} {k:Ky} {i ow:Int} (h:putE its m k (makeX its i ow)=0):rmakeX its i ow=makeX its i ow:=by
 unfold putE at h
 split at h
 ·simp at h
 ·cases ht:typeOf its i with
  | none=>simp only [makeX,ht] at h; simp at h
  | some t=>simp only [rmakeX,makeX,ht,kI_of ht,tyI,Option.getD_some]
theorem Same.putM {its:List Item} {m L:OM} (h:Same m L) (ht:TyOk its) (k:Ky) (x:Ob):Same (putM its m k x) (rputM its L k x):=by
 unfold Go.Proofs.YtpjpdomkcabfcaaGreatDoor.putM rputM
 rw [putE_same h]
 split
 ·rename_i e; exact h.ins (putE_ok ht e).2.1
 ·exact h
theorem Same.make {its:List Item} {m L:OM} (h:Same m L) (ht:TyOk its) (k:Ky) (i ow:Int):Same (Go.Proofs.YtpjpdomkcabfcaaGreatDoor.putM its m k (makeX its i ow)) (rputM its L k (rmakeX its i ow)):=by
 unfold Go.Proofs.YtpjpdomkcabfcaaGreatDoor.putM rputM
 rw [putE_same h,make_same]
 split
 ·rename_i e
  rw [make_ob e]
  exact h.ins (putE_ok ht e).2.1
 ·exact h
end Go.Proofs.YtpjpdomkcabfcaaGreatDoor
namespace Go.Proofs.YtpjpdomkcabfcaaGreatDoor
open Go.TM
variable [KObj]
def agC (its:List Item) (i:Nat):List AV:=[.dv (.sl 7 (its.map eItem)),.dv rulesD,.dv tabsD,.dv taxesD,.own i 0 0 []]
def agK (its:List Item) (m L:OM):Boxes:=[(0,.cells (agC its 1)),(1,.tree 0 0 (.omap pairK (m.map eEnt))),(2,.cells (agC its 3)),(3,.tree 0 0 (.osl 6 (L.map eRo)))]
structure AgS where
 k:Nat
 i:Nat
def agInv1 (its:List Item) (m L:OM) (ow:Nat):AState:=⟨4,[(0,.ptr 0 0),(1,.ptr 2 0),(5,.dv (I ow))],agK its m L⟩
def agInv2 (its:List Item) (m L:OM) (ow:Nat) (ids:List Ky):AgS→AState
 | ⟨k,i⟩=>⟨6,[(0,.ptr 0 0),(1,.ptr 2 0),(5,.dv (I ow)),(6,.own 5 0 0 []),(7,.dv (I k)),(8,.dv (I i))],agK its m L++[(5,.tree 0 0 (.osl 2 (ids.map eKy)))]⟩
theorem bytOf_eq {a b:List Int} (h:a=b):((bytOf a).toList == (bytOf b).toList)=true:=by subst h; simp
set_option maxRecDepth 100000
set_option maxHeartbeats 4000000 in
theorem agree_spec (its:List Item) (m L:OM) (hs:Same m L) (hl:m.length≤12) (hn:NumS m):CSpec Tryz.prog 20 [.ptr 0 0,.ptr 2 0] 4 (agK its m L) 0 [.dv (B true)] (agK its m L):=by
 refine cspec_of tab_ok mixed (calls_snd _) (range_snd _) Tryz.func20 rfl rfl (by kernel_rfl) ?_
 have hL:L.length≤12:=by rw [hs.len]; exact hl
 refine .inr ⟨[0,1],[.ptr 0 0],stK its m,8,_,_,encode_spec its m hs.nd hl hn,by kernel_rfl,by kernel_rfl,⟨rfl,tv⟩,⟨⟨rf,rf,rf,rf,rfl,tv⟩,⟨rfl,rfl⟩,tv⟩,?_⟩
 refine .inl ⟨closed_Y _,encB m,rfl,?_⟩
 refine .inr ⟨[2,3],[.ptr 0 0],rfK its L 0,1,_,_,rencode_spec its L (by omega) (hs.num hn),by kernel_rfl,by kernel_rfl,⟨rfl,tv⟩,⟨⟨rf,rf,rf,rf,rfl,tv⟩,⟨rfl,rfl⟩,tv⟩,?_⟩
 refine .inl ⟨closed_Y _,encR L,rfl,?_⟩
 refine ⟨by kernel_rfl,fun h=>?_,fun _=>?_⟩
 ·exfalso
  have h':(!((bytOf (encB m)).toList == (bytOf (encR L)).toList))=true:=h
  rw [bytOf_eq hs.enc] at h'
  cases h'
 refine ⟨Nat,agInv1 its m L,fun ow=>ow≤6,fun ow=>6 - ow,0,fun _=>rfl,⟨⟨rfl,rfl,rf,tv⟩,⟨⟨rf,rf,rf,rf,rfl,tv⟩,⟨rfl,rfl⟩,⟨rf,rf,rf,rf,rfl,tv⟩,⟨rfl,rfl⟩,tv⟩,rfl,rfl⟩,Nat.zero_le _,?_⟩
 intro ow how
 refine ⟨fun h=>?_,fun h=>?_⟩
 ·have how2:(ow:Int)<6:=of_decide_eq_true h
  clear h
  refine .inr ⟨[0,1],[.ptr 0 0,.dv (I ow)],stK its m,2,_,_,of_spec its m ow hs.nd hl,by kernel_rfl,by kernel_rfl,⟨rfl,rf,tv⟩,⟨⟨rf,rf,rf,rf,rfl,tv⟩,⟨rfl,rfl⟩,tv⟩,?_⟩
  have hof:=hs.of ow
  generalize ofL m ow=ids at hof
  have hil:ids.length≤12:=by rw [hof,List.length_map]; exact Nat.le_trans (List.length_filter_le _ _) hL
  refine ⟨AgS,agInv2 its m L ow ids,fun z=>z.i≤L.length∧z.k=(ownL (L.take z.i) ow).length,fun z=>L.length - z.i,⟨0,0⟩,fun ⟨_,_⟩=>rfl,⟨⟨rfl,rfl,rf,rfl,rf,rf,tv⟩,⟨⟨rf,rf,rf,rf,rfl,tv⟩,⟨rfl,rfl⟩,⟨rf,rf,rf,rf,rfl,tv⟩,⟨rfl,rfl⟩,⟨rfl,rfl⟩,tv⟩,rfl,rfl⟩,⟨Nat.zero_le _,rfl⟩,?_⟩
  rintro ⟨k,i⟩ ⟨hi,hk⟩
  dsimp only at hi hk
  refine ⟨fun h=>?_,fun h=>?_⟩
  ·have hlt:i<L.length:=by simpa using h
   clear h
   have hel:(L.map eRo)[(i:Int).toNat]?=some (eRo L[i]):=by simp [hlt]
   have hmem:L[i]∈L:=List.getElem_mem hlt
   have htk:L.take (i+1)=L.take i++[L[i]]:=List.take_succ_eq_append_getElem hlt
   have hsp:L=L.take i++L[i]::L.drop (i+1):=by rw [←List.drop_eq_getElem_cons hlt,List.take_append_drop]
   generalize L[i]=q at hel hmem htk hsp
   refine ⟨fun _=>⟨by omega,by simp; omega⟩,eRo q,fun _=>hel,fun h=>?_,fun h=>?_⟩
   ·have ho:(q.2.owner == (ow:Int))=false:=by simpa [bne] using h
    refine ⟨fun _=>⟨by omega,by omega⟩,⟨k,i+1⟩,⟨⟨rfl,rfl,rf,rfl,rf,le_int (by simp),tv⟩,⟨⟨rf,rf,rf,rf,rfl,tv⟩,⟨rfl,rfl⟩,⟨rf,rf,rf,rf,rfl,tv⟩,⟨rfl,rfl⟩,⟨rfl,rfl⟩,tv⟩,rfl,rfl⟩,⟨by show i+1≤L.length; omega,?_⟩,by show L.length - (i+1)<L.length - i; omega⟩
    show k=(ownL (L.take (i+1)) ow).length
    rw [htk,ownL,List.filter_append,List.length_append,hk]
    simp [ho,ownL]
   ·have ho:(q.2.owner == (ow:Int))=true:=by simpa [bne] using h
    have hids:ids=(ownL (L.take i) ow).map Prod.fst++q.1::(ownL (L.drop (i+1)) ow).map Prod.fst:=by
     rw [hof]
     conv=>lhs; rw [hsp]
     unfold ownL
     rw [List.filter_append,List.filter_cons,if_pos ho,List.map_append,List.map_cons]
    have hkl:k<ids.length:=by rw [hids]; simp; omega
    have hik:ids[k]?=some q.1:=by
     rw [hids,List.getElem?_append_right (by rw [List.length_map,hk]; exact Nat.le_refl _),List.length_map,hk]
     simp
    have hel2:(ids.map eKy)[(k:Int).toNat]?=some (eKy q.1):=by simp [hik]
    repeat first | refine ⟨id,?_⟩ | refine ⟨fun _ h=>bw_f h,?_⟩ | refine ⟨fun _ h=>bw_t h,?_⟩ | refine ⟨fun h=>⟨h,fun h2=>bw_and h h2⟩,?_⟩ | refine ⟨fun h=>⟨h,fun h2=>bw_andf h h2⟩,?_⟩
    refine ⟨fun _=>⟨by omega,by simp; omega⟩,id,eKy q.1,fun _=>hel2,?_⟩
    repeat first | refine ⟨id,?_⟩ | refine ⟨fun _ h=>bw_f h,?_⟩ | refine ⟨fun _ h=>bw_t h,?_⟩ | refine ⟨fun h=>⟨h,fun h2=>bw_and h h2⟩,?_⟩ | refine ⟨fun h=>⟨h,fun h2=>bw_andf h h2⟩,?_⟩
    refine ⟨fun _=>⟨by omega,by simp; omega⟩,id,id,eRo q,fun _=>hel,?_⟩
    repeat first | refine ⟨id,?_⟩ | refine ⟨fun _ h=>bw_f h,?_⟩ | refine ⟨fun _ h=>bw_t h,?_⟩ | refine ⟨fun h=>⟨h,fun h2=>bw_and h h2⟩,?_⟩ | refine ⟨fun h=>⟨h,fun h2=>bw_andf h h2⟩,?_⟩
    refine ⟨fun _=>⟨by omega,by simp; omega⟩,id,id,eRo q,fun _=>hel,?_⟩
    repeat first | refine ⟨id,?_⟩ | refine ⟨fun _ h=>bw_f h,?_⟩ | refine ⟨fun _ h=>bw_t h,?_⟩ | refine ⟨fun h=>⟨h,fun h2=>bw_and h h2⟩,?_⟩ | refine ⟨fun h=>⟨h,fun h2=>bw_andf h h2⟩,?_⟩
    refine ⟨by kernel_rfl,fun h=>?_,fun _=>?_⟩
    ·exfalso
     have h':(bif decide (((ids.map eKy).length:Int)≤(k:Int)) then true else !(q.1.1 == q.1.1 && (q.1.2 == q.1.2 && true)))=true:=h
     have hd:decide (((ids.map eKy).length:Int)≤(k:Int))=false:=by simp; omega
     rw [hd] at h'
     simp at h'
    refine ⟨fun _=>⟨by omega,by simp; omega⟩,eKy q.1,fun _=>hel2,?_⟩
    have hg:=get_spec its m q.1
    rw [hs.at hmem] at hg
    refine .inr ⟨[0,1],[.ptr 0 0,ofD (eKy q.1)],stK its m,0,_,_,hg,by kernel_rfl,by kernel_rfl,⟨rfl,⟨rf,rf,tv⟩,tv⟩,⟨⟨rf,rf,rf,rf,rfl,tv⟩,⟨rfl,rfl⟩,tv⟩,?_⟩
    repeat first | refine ⟨id,?_⟩ | refine ⟨fun _ h=>bw_f h,?_⟩ | refine ⟨fun _ h=>bw_t h,?_⟩ | refine ⟨fun h=>⟨h,fun h2=>bw_and h h2⟩,?_⟩ | refine ⟨fun h=>⟨h,fun h2=>bw_andf h h2⟩,?_⟩
    refine ⟨fun _=>⟨by omega,by simp; omega⟩,id,eRo q,fun _=>hel,?_⟩
    repeat first | refine ⟨id,?_⟩ | refine ⟨fun _ h=>bw_f h,?_⟩ | refine ⟨fun _ h=>bw_t h,?_⟩ | refine ⟨fun h=>⟨h,fun h2=>bw_and h h2⟩,?_⟩ | refine ⟨fun h=>⟨h,fun h2=>bw_andf h h2⟩,?_⟩
    refine Or.inl ⟨_,fun _=>(state_spec q.1.1 q.1.2 q.2.item q.2.owner q.2.wear q.2.bound).ok,?_⟩
    repeat first | refine ⟨id,?_⟩ | refine ⟨fun _ h=>bw_f h,?_⟩ | refine ⟨fun _ h=>bw_t h,?_⟩ | refine ⟨fun h=>⟨h,fun h2=>bw_and h h2⟩,?_⟩ | refine ⟨fun h=>⟨h,fun h2=>bw_andf h h2⟩,?_⟩
    refine ⟨by kernel_rfl,fun h=>?_,fun _=>?_⟩
    ·exfalso
     have h':(!(q.2.item == q.2.item && (q.2.owner == q.2.owner && (q.2.wear == q.2.wear && (q.2.bound == q.2.bound && true)))))=true:=h
     simp at h'
    refine ⟨fun _=>⟨by omega,by omega⟩,fun _=>⟨by omega,by omega⟩,⟨k+1,i+1⟩,⟨⟨rfl,rfl,rf,rfl,le_int (by simp),le_int (by simp),tv⟩,⟨⟨rf,rf,rf,rf,rfl,tv⟩,⟨rfl,rfl⟩,⟨rf,rf,rf,rf,rfl,tv⟩,⟨rfl,rfl⟩,⟨rfl,rfl⟩,tv⟩,rfl,rfl⟩,⟨by show i+1≤L.length; omega,?_⟩,by show L.length - (i+1)<L.length - i; omega⟩
    show k+1=(ownL (L.take (i+1)) ow).length
    rw [htk,ownL,List.filter_append,List.length_append,hk]
    simp [ho,ownL]
  ·have he0:¬ i<L.length:=by simpa using h
   have he:i=L.length:=by omega
   subst he
   have hk2:k=ids.length:=by rw [hk,List.take_length,hof,List.length_map]
   refine ⟨fun h=>?_,fun _=>?_⟩
   ·exfalso
    have h':((k:Int) != ((ids.map eKy).length:Int))=true:=h
    rw [hk2] at h'
    simp at h'
   exact ⟨fun _=>⟨by omega,by omega⟩,ow+1,⟨⟨rfl,rfl,le_int (by simp),tv⟩,⟨⟨rf,rf,rf,rf,rfl,tv⟩,⟨rfl,rfl⟩,⟨rf,rf,rf,rf,rfl,tv⟩,⟨rfl,rfl⟩,tv⟩,rfl,rfl⟩,by show ow+1≤6; omega,by show 6 - (ow+1)<6 - ow; omega⟩
 ·exact ⟨_,_,⟨rfl,rfl⟩,by kernel_rfl,⟨rf,tv⟩,⟨rf,rf,rf,rf,rfl,tv⟩,⟨rfl,rfl⟩,⟨rf,rf,rf,rf,rfl,tv⟩,⟨rfl,rfl⟩,tv⟩
end Go.Proofs.YtpjpdomkcabfcaaGreatDoor
namespace Go.Proofs.YtpjpdomkcabfcaaGreatDoor
open Go.TM
variable [KObj]
set_option maxRecDepth 100000
def scK (its:List Item) (m L:OM):Boxes:=[(3,.cells (agC its 2)),(2,.tree 0 0 (.omap pairK (m.map eEnt))),(4,.cells (agC its 5)),(5,.tree 0 0 (.osl 6 (L.map eRo)))]
end Go.Proofs.YtpjpdomkcabfcaaGreatDoor
