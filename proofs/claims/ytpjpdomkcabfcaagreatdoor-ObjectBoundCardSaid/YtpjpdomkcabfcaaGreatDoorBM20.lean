import Derived.Test.YtpjpdomkcabfcaaGreatDoorBM19
import Derived.Test.YtpjpdomkcabfcaaGreatDoorBM18
import Derived.Test.YtpjpdomkcabfcaaGreatDoorCards
import Derived.Test.YtpjpdomkcabfcaaGreatDoorTie
import Derived.WalkKit
import Derived.ProofKit
import Derived.OpenShut
import Derived.JoinedCond
import Derived.Carry
import Derived.ChangeSlices
import Derived.Deep.DeepHandedRow
import Derived.Lib.LaidTab
set_option linter.unusedVariables false
set_option linter.unusedSimpArgs false
set_option linter.unusedSectionVars false
namespace Go.Proofs.YtpjpdomkcabfcaaGreatDoor
open Go.TM
theorem oget_put {k q:Ky} {x:Ob}:∀{m:OM},oget (oput m k x) q=if k=q then some x else oget m q
 | []=>by simp only [oput,oget]
 | p::r=>by
  simp only [oput]
  by_cases e:p.1=k
  ·rw [if_pos e]
   simp only [oget]
   by_cases e2:k=q
   ·rw [if_pos e2,if_pos e2]
   ·rw [if_neg e2,if_neg e2,if_neg (fun h=>e2 (e.symm.trans h))]
  ·rw [if_neg e]
   simp only [oget]
   by_cases e2:p.1=q
   ·rw [if_pos e2,if_pos e2,if_neg (fun h=>e (e2.trans h.symm))]
   ·rw [if_neg e2,if_neg e2,oget_put (m:=r)]
theorem oget_none {k:Ky} {m:OM} (h:k ∉ m.map Prod.fst):oget m k=none:=by
 cases hq:oget m k with
 | none=>rfl
 | some x=>exact absurd (List.mem_map.2 ⟨_,oget_mem hq,rfl⟩) h
theorem oget_del {k q:Ky}:∀{m:OM},NdK m→oget (odel m k) q=if k=q then none else oget m q
 | [],_=>by simp [odel,oget]
 | p::r,hn=>by
  have hn2:=List.nodup_cons.1 hn
  simp only [odel]
  by_cases e:p.1=k
  ·rw [if_pos e]
   by_cases e2:k=q
   ·rw [if_pos e2]
    exact oget_none (by rw [←e2,←e]; exact hn2.1)
   ·rw [if_neg e2]
    simp only [oget]
    rw [if_neg (fun h=>e2 (e.symm.trans h))]
  ·rw [if_neg e]
   simp only [oget]
   by_cases e2:p.1=q
   ·rw [if_pos e2,if_pos e2,if_neg (fun h=>e (e2.trans h.symm))]
   ·rw [if_neg e2,if_neg e2,oget_del (m:=r) hn2.2]
structure Fit (its:List Item) (m:OM):Prop where
 ok:OkS its m
 nd:NdK m
 bd:∀q,q∈m.map Prod.fst→0≤q.1∧q.1<3∧0≤q.2∧q.2<2
def keysL:List Ky:=[(0,0),(0,1),(1,0),(1,1),(2,0),(2,1)]
theorem keysL_mem {q:Ky} (h:0≤q.1∧q.1<3∧0≤q.2∧q.2<2):q∈keysL:=by
 obtain ⟨a,b⟩:=q
 simp only at h
 have ha:a=0 ∨ a=1 ∨ a=2:=by omega
 have hb:b=0 ∨ b=1:=by omega
 rcases ha with rfl | rfl | rfl <;> rcases hb with rfl | rfl <;> simp [keysL]
theorem nodup_len:∀{l r:List Ky},l.Nodup→(∀x,x∈l→x∈r)→l.length≤r.length
 | [],_,_,_=>by simp
 | x::l,r,hn,hs=>by
  have hn2:=List.nodup_cons.1 hn
  have hx:=hs x (by simp)
  have ih:=nodup_len (l:=l) (r:=r.erase x) hn2.2 fun y hy=>(List.mem_erase_of_ne (fun e=>hn2.1 (by rw [←e]; exact hy))).2 (hs y (by simp [hy]))
  rw [List.length_erase_of_mem hx] at ih
  have:0<r.length:=List.length_pos_of_mem hx
  simp only [List.length_cons]
  omega
theorem Fit.len {its:List Item} {m:OM} (h:Fit its m):m.length≤6:=by
 have:=nodup_len (r:=keysL) h.nd (fun q hq=>keysL_mem (h.bd q hq))
 simpa [keysL] using this
theorem fit_nil (its:List Item):Fit its []:=⟨fun k x h=>by simp [oget] at h,by simp [NdK],fun q h=>by simp at h⟩
def TyOk (its:List Item):Prop:=∀i,i<its.length→0≤(its.getD i Item.zero).wear∧(its.getD i Item.zero).wear≤1048576
theorem Fit.put {its:List Item} {m:OM} (h:Fit its m) {k:Ky} {x:Ob} (hx:OkO its x) (hk:k∈m.map Prod.fst ∨ 0≤k.1∧k.1<3∧0≤k.2∧k.2<2):Fit its (oput m k x) where
 ok q y hy:=by
  rw [oget_put] at hy
  split at hy
  ·injection hy with hy; subst hy; exact hx
  ·exact h.ok q y hy
 nd:=oput_nd h.nd
 bd q hq:=by
  rcases (oput_keys q).1 hq with e | e
  ·subst e; exact hk.elim (h.bd q) id
  ·exact h.bd q e
theorem Fit.del {its:List Item} {m:OM} (h:Fit its m) (k:Ky):Fit its (odel m k) where
 ok q y hy:=by
  rw [oget_del h.nd] at hy
  split at hy
  ·cases hy
  ·exact h.ok q y hy
 nd:=odel_nd h.nd
 bd q hq:=h.bd q ((odel_sub.map _).subset hq)
theorem typeOf_some {its:List Item} {i:Int} {t:Item} (h:typeOf its i=some t):0≤i∧i<its.length∧its.getD i.toNat Item.zero=t:=by
 unfold typeOf at h
 split at h
 ·cases h
 ·rename_i h0
  split at h
  ·rename_i x hx
   split at h
   ·injection h with h; subst h
    have:=(List.getElem?_eq_some_iff.1 hx).1
    exact ⟨by omega,by omega,by rw [List.getD_eq_getElem?_getD,hx]; rfl⟩
   ·cases h
  ·cases h
theorem putE_ok {its:List Item} {m:OM} {k:Ky} {x:Ob} (ht:TyOk its) (h:putE its m k x=0):OkO its x∧oget m k=none∧0≤k.1∧0≤k.2:=by
 unfold putE at h
 split at h
 ·simp at h
 ·rename_i hb
  split at h
  ·simp at h
  ·rename_i t hty
   split at h
   ·simp at h
   ·rename_i hw
    split at h
    ·simp at h
    ·rename_i ho
     obtain ⟨h1,h2,h3⟩:=typeOf_some hty
     have h4:=ht x.item.toNat (by omega)
     refine ⟨⟨h1,h2,by omega,by rw [h3]; omega,h4.2⟩,?_,by omega,by omega⟩
     cases hq:oget m k with
     | none=>rfl
     | some y=>rw [hq] at ho; simp at ho
theorem fit_putM {its:List Item} {m:OM} (h:Fit its m) (ht:TyOk its) {k:Ky} {x:Ob} (hk:k.1<3∧k.2<2):Fit its (putM its m k x):=by
 unfold putM
 split
 ·rename_i e
  obtain ⟨h1,_,h2,h3⟩:=putE_ok ht e
  exact h.put h1 (.inr ⟨h2,hk.1,h3,hk.2⟩)
 ·exact h
theorem mem_keys {m:OM} {k:Ky} {x:Ob} (h:oget m k=some x):k∈m.map Prod.fst:=List.mem_map.2 ⟨_,oget_mem h,rfl⟩
variable [KObj]
theorem useE_ok {its:List Item} {m:OM} {k:Ky} {ac lv w:Int} (h:useE its m k ac lv w=0):∃x,oget m k=some x∧ownR its m k ac=(x,its.getD x.item.toNat Item.zero,0)∧0≤w∧w≤x.wear:=by
 unfold useE at h
 split at h
 ·rename_i h1; exact absurd h h1
 ·rename_i h1
  obtain ⟨x,hx,_,he⟩:=ownR_ok (its:=its) (m:=m) (k:=k) (ow:=ac) (by simpa using h1)
  rw [he] at h
  simp only at h
  split at h
  ·simp at h
  ·split at h
   ·simp at h
   ·split at h
    ·simp at h
    ·exact ⟨x,hx,he,by omega,by omega⟩
theorem repE_ok {its:List Item} {m:OM} {k:Ky} {ac w:Int} (h:repE its m k ac w=0):∃x,oget m k=some x∧ownR its m k ac=(x,its.getD x.item.toNat Item.zero,0)∧0≤w:=by
 unfold repE at h
 split at h
 ·rename_i h1; exact absurd h h1
 ·rename_i h1
  obtain ⟨x,hx,_,he⟩:=ownR_ok (its:=its) (m:=m) (k:=k) (ow:=ac) (by simpa using h1)
  split at h
  ·simp at h
  ·exact ⟨x,hx,he,by omega⟩
theorem givE_ok {its:List Item} {m:OM} {k:Ky} {fr to:Int} (h:givE its m k fr to=0):∃x,oget m k=some x∧ownR its m k fr=(x,its.getD x.item.toNat Item.zero,0)∧x.bound=false:=by
 unfold givE at h
 split at h
 ·rename_i h1; exact absurd h h1
 ·rename_i h1
  obtain ⟨x,hx,_,he⟩:=ownR_ok (its:=its) (m:=m) (k:=k) (ow:=fr) (by simpa using h1)
  rw [he] at h
  simp only at h
  split at h
  ·simp at h
  ·split at h
   ·simp at h
   ·rename_i h2
    exact ⟨x,hx,he,by simpa using h2⟩
theorem fit_useM {its:List Item} {m:OM} (h:Fit its m) (k:Ky) (ac lv w:Int):Fit its (useM its m k ac lv w):=by
 unfold useM
 split
 ·rename_i e
  obtain ⟨x,hx,he,h0,h1⟩:=useE_ok e
  have hk:=h.ok k x hx
  rw [he]
  exact h.put ⟨hk.lo,hk.hi,by show 0≤x.wear - w; omega,by have:=hk.w1; show x.wear - w≤(its.getD x.item.toNat Item.zero).wear; omega,hk.w2⟩ (.inl (mem_keys hx))
 ·exact h
theorem fit_repM {its:List Item} {m:OM} (h:Fit its m) (k:Ky) (ac w:Int):Fit its (repM its m k ac w):=by
 unfold repM
 split
 ·rename_i e
  obtain ⟨x,hx,he,h0⟩:=repE_ok e
  have hk:=h.ok k x hx
  have h1:=hk.w0
  have h2:=hk.w1
  rw [he]
  refine h.put ⟨hk.lo,hk.hi,?_,?_,hk.w2⟩ (.inl (mem_keys hx))
  ·simp only [repX]; split <;> omega
  ·show (repX x (its.getD x.item.toNat Item.zero) w).wear≤(its.getD x.item.toNat Item.zero).wear; simp only [repX]; split <;> omega
 ·exact h
theorem fit_givM {its:List Item} {m:OM} (h:Fit its m) (k:Ky) (fr to:Int):Fit its (givM its m k fr to):=by
 unfold givM
 split
 ·rename_i e
  obtain ⟨x,hx,he,_⟩:=givE_ok e
  have hk:=h.ok k x hx
  rw [he]
  exact h.put ⟨hk.lo,hk.hi,hk.w0,hk.w1,hk.w2⟩ (.inl (mem_keys hx))
 ·exact h
theorem fit_doM {its:List Item} {m:OM} (h:Fit its m) (ht:TyOk its) {o:Op} (ho:(opK o).1<3∧(opK o).2<2):Fit its (doM its m o):=by
 unfold doM
 split
 ·exact fit_putM h ht ho
 ·split
  ·exact fit_givM h _ _ _
  ·split
   ·exact fit_useM h _ _ _ _
   ·split
    ·exact fit_repM h _ _ _
    ·split
     ·exact h.del _
     ·exact fit_putM h ht ho
structure Kept (its:List Item) (m m':OM) (rem:Bool):Prop where
 atk:∀k x,oget m k=some x→match oget m' k with
  | some y=>x.bound=true→y.bound=true∧y.owner=x.owner
  | none=>rem=true
theorem Kept.refl (its:List Item) (m:OM) (r:Bool):Kept its m m r:=⟨fun k x h=>by rw [h]; exact fun hb=>⟨hb,rfl⟩⟩
theorem Kept.put {its:List Item} {m:OM} {k:Ky} {y:Ob} {r:Bool} (h:∀x,oget m k=some x→x.bound=true→y.bound=true∧y.owner=x.owner):Kept its m (oput m k y) r:=⟨fun q x hx=>by
 rw [oget_put]
 by_cases e:k=q
 ·subst e; rw [if_pos rfl]; exact h x hx
 ·rw [if_neg e,hx]; exact fun hb=>⟨hb,rfl⟩⟩
theorem kept_putM {its:List Item} {m:OM} (ht:TyOk its) (k:Ky) (x:Ob) (r:Bool):Kept its m (putM its m k x) r:=by
 unfold putM
 split
 ·rename_i e
  obtain ⟨_,h1,_⟩:=putE_ok ht e
  exact .put fun y hy=>by rw [h1] at hy; cases hy
 ·exact .refl ..
theorem kept_doM {its:List Item} {m:OM} (ht:TyOk its) (hn:NdK m) (o:Op):Kept its m (doM its m o) (o.kind == 4):=by
 unfold doM
 split
 ·exact kept_putM ht _ _ _
 ·split
  ·unfold givM
   split
   ·rename_i e
    obtain ⟨x,hx,he,hb⟩:=givE_ok e
    exact .put fun y hy hyb=>by rw [hx] at hy; injection hy with hy; subst hy; rw [hb] at hyb; cases hyb
   ·exact .refl ..
  ·split
   ·unfold useM
    split
    ·rename_i e
     obtain ⟨x,hx,he,_⟩:=useE_ok e
     rw [he]
     exact .put fun y hy hyb=>by rw [hx] at hy; injection hy with hy; subst hy; exact ⟨by simp [useX,hyb],rfl⟩
    ·exact .refl ..
   ·split
    ·unfold repM
     split
     ·rename_i e
      obtain ⟨x,hx,he,_⟩:=repE_ok e
      rw [he]
      exact .put fun y hy hyb=>by rw [hx] at hy; injection hy with hy; subst hy; exact ⟨hyb,rfl⟩
     ·exact .refl ..
    ·split
     ·rename_i h4
      refine ⟨fun k x hx=>?_⟩
      rw [oget_del hn]
      by_cases e:opK o=k
      ·rw [if_pos e]; simp [h4]
      ·rw [if_neg e,hx]; exact fun hb=>⟨hb,rfl⟩
     ·exact kept_putM ht _ _ _
theorem opAt_key (l:List Int) (i:Int):(opK (opAt l i)).1<3∧(opK (opAt l i)).2<2:=by
 have h1:=pick_bd l (6 * i+3) 3 (by omega)
 have h2:=pick_bd l (6 * i+3) 2 (by omega)
 refine ⟨h1.2,?_⟩
 simp only [opK,opAt]
 split <;> omega
theorem opAt_a (l:List Int) (i:Int):0≤(opAt l i).a∧(opAt l i).a≤1073741825:=by
 have h1:=pick_bd l (6 * i+1) 5 (by omega)
 simp only [opAt]
 split <;> omega
theorem opsL_at {l:List Int} {i:Nat} {o:Op} (h:(opsL l)[i]?=some o):o=opAt l i:=by
 have key:∀(k i:Nat) (o:Op),(opsN l k)[i]?=some o→o=opAt l i:=by
  intro k
  induction k with
  | zero=>intro i o h; simp [opsN] at h
  | succ k ih =>
   intro i o h
   simp only [opsN] at h
   rcases Nat.lt_or_ge i k with hlt | hge
   ·rw [List.getElem?_append_left (by rw [opsN_len]; exact hlt)] at h
    exact ih i o h
   ·rw [List.getElem?_append_right (by rw [opsN_len]; exact hge),opsN_len] at h
    have:i=k:=by
     have:=(List.getElem?_eq_some_iff.1 h).1
     simp at this; omega
    subst this
    simpa using h.symm
 exact key _ _ _ h
theorem itemsL_ok {b w:Int} (hw:0≤w∧w≤40):TyOk (itemsL b w):=by
 intro i hi
 have hi:i<5:=hi
 match i,hi with
 | 0,_=>exact ⟨Int.le_refl 0,by show (0:Int)≤1048576; decide⟩
 | 1,_=>exact ⟨Int.le_refl 0,by show (0:Int)≤1048576; decide⟩
 | 2,_=>exact ⟨Int.le_refl 0,by show (0:Int)≤1048576; decide⟩
 | 3,_=>exact ⟨Int.le_refl 0,by show (0:Int)≤1048576; decide⟩
 | 4,_=>exact ⟨by show 0≤w; omega,by show w≤1048576; omega⟩
end Go.Proofs.YtpjpdomkcabfcaaGreatDoor
namespace Go.Proofs.YtpjpdomkcabfcaaGreatDoor
open Go.TM
variable [KObj]
set_option maxRecDepth 100000
theorem both_ok (n k:Int):∃b w,0≤b∧b≤2∧1≤w∧w≤40∧CSpec Tryz.prog 9 [.dv (I n),.dv (I k)] 0 [] 5 [.ptr 3 0,.ptr 4 0,.dv (B true)] (bothK b w):=by
 have h1:=around_bd n 3 (by omega)
 have h2:=around_bd k 40 (by omega)
 exact ⟨_,_,h1.1,by omega,by omega,by omega,both_spec n k⟩
def stB (its:List Item) (m:OM):Boxes:=[(3,.cells (stCn 2 its)),(2,.tree 0 0 (.omap pairK (m.map eEnt)))]
structure BI1 where
 i:Nat
 m:OM
def bInv1 (its:List Item) (l:List Op):BI1→AState
 | ⟨i,m⟩=>⟨5,[(7,.ptr 3 0),(10,.dv (.sl 9 (l.map eOp))),(11,.dv (I i))],stB its m⟩
structure BI2 where
 ow:Nat
 ids:List Ky
 bef:List Ob
def bInv2 (its:List Item) (l:List Op) (i:Nat) (m:OM):BI2→AState
 | ⟨ow,ids,bef⟩=>⟨7,[(7,.ptr 3 0),(10,.dv (.sl 9 (l.map eOp))),(11,.dv (I i)),(12,.own 5 0 0 []),(13,.own 6 0 0 []),(14,.dv (I ow))],
   [(3,.cells (stCn 2 its)),(2,.tree 0 0 (.omap pairK (m.map eEnt))),(5,.tree 0 0 (.osl 2 (ids.map eKy))),(6,.tree 0 0 (.osl 4 (bef.map eOb)))]⟩
structure BI3 where
 k:Nat
 ids:List Ky
 bef:List Ob
def bInv3 (its:List Item) (l:List Op) (i:Nat) (m:OM) (ow:Nat) (own:List Ky):BI3→AState
 | ⟨k,ids,bef⟩=>⟨9,[(7,.ptr 3 0),(10,.dv (.sl 9 (l.map eOp))),(11,.dv (I i)),(12,.own 5 0 0 []),(13,.own 6 0 0 []),(14,.dv (I ow)),(15,.own 8 0 0 []),(16,.dv (I k))],
   [(3,.cells (stCn 2 its)),(2,.tree 0 0 (.omap pairK (m.map eEnt))),(5,.tree 0 0 (.osl 2 (ids.map eKy))),(6,.tree 0 0 (.osl 4 (bef.map eOb))),(8,.tree 0 0 (.osl 2 (own.map eKy)))]⟩
def bInv4 (its:List Item) (l:List Op) (i:Nat) (m:OM) (ids:List Ky) (bef:List Ob) (k:Nat):AState :=
 ⟨7,[(7,.ptr 3 0),(10,.dv (.sl 9 (l.map eOp))),(11,.dv (I i)),(12,.own 5 0 0 []),(13,.own 6 0 0 []),(19,.dv (I k))],
   [(3,.cells (stCn 2 its)),(2,.tree 0 0 (.omap pairK (m.map eEnt))),(5,.tree 0 0 (.osl 2 (ids.map eKy))),(6,.tree 0 0 (.osl 4 (bef.map eOb)))]⟩
structure Seen (m:OM) (ids:List Ky) (bef:List Ob):Prop where
 len:bef.length=ids.length
 get:∀(j:Nat) k,ids[j]?=some k→∃x,oget m k=some x∧bef[j]?=some x
theorem Seen.snoc {m:OM} {ids:List Ky} {bef:List Ob} (h:Seen m ids bef) {k:Ky} {x:Ob} (hx:oget m k=some x):Seen m (ids++[k]) (bef++[x]) where
 len:=by simp [h.len]
 get j q hq:=by
  rcases Nat.lt_or_ge j ids.length with hlt | hge
  ·rw [List.getElem?_append_left hlt] at hq
   rw [List.getElem?_append_left (by rw [h.len]; exact hlt)]
   exact h.get j q hq
  ·rw [List.getElem?_append_right hge] at hq
   rw [List.getElem?_append_right (by rw [h.len]; exact hge),h.len]
   have:j - ids.length=0:=by
    have:=(List.getElem?_eq_some_iff.1 hq).1
    simp at this; omega
   rw [this] at hq ⊢
   simp at hq; subst hq
   exact ⟨x,hx,rfl⟩
theorem by30:(nth tab (nth tab 30).elem).bytes=32:=rfl
set_option maxHeartbeats 4000000 in
theorem bound_spec (bind wear:Int) (l:List Int):PSpec Tryz.prog 3 [I bind,I wear,Ints l] [B true]:=by
 refine pspec_of tab_ok mixed (calls_snd _) (range_snd _) Tryz.func3 rfl (by kernel_rfl) rfl ?_
 obtain ⟨b,w,hb0,hb1,hw0,hw1,hbo⟩:=both_ok bind wear
 have hty:TyOk (itemsL b w):=itemsL_ok ⟨by omega,hw1⟩
 refine .inr ⟨[],[.dv (I bind),.dv (I wear)],[],5,_,_,hbo,by kernel_rfl,by kernel_rfl,⟨rf,rf,tv⟩,tv,?_⟩
 refine ⟨fun h=>(by cases h),fun _=>?_⟩
 refine .inl ⟨_,fun _=>(ops_spec l).ok,?_⟩
 refine ⟨BI1,bInv1 (itemsL b w) (opsL l),fun x=>x.i≤(opsL l).length∧Fit (itemsL b w) x.m,fun x=>(opsL l).length - x.i,⟨0,[]⟩,fun ⟨_,_⟩=>rfl,⟨⟨rfl,rf,rf,tv⟩,⟨⟨rf,rf,rf,rf,rfl,tv⟩,⟨rfl,rfl⟩,tv⟩,rfl,rfl⟩,⟨by show 0≤(opsL l).length; omega,fit_nil _⟩,?_⟩
 have hK:(opsL l).length≤20:=by unfold opsL; rw [opsN_len]; unfold opsK; omega
 rintro ⟨i,m⟩ ⟨hi,hm⟩
 simp only at hi hm
 refine ⟨fun h=>?_,fun h=>?_⟩
 ·have hlt:i<(opsL l).length:=by simpa using h
  clear h
  refine ⟨BI2,bInv2 (itemsL b w) (opsL l) i m,fun x=>x.ow≤6∧Seen m x.ids x.bef∧x.ids.length≤6 * x.ow,fun x=>6 - x.ow,⟨1,[],[]⟩,fun ⟨_,_,_⟩=>rfl,⟨⟨rfl,rf,rf,⟨rfl,rfl,rfl,rfl,2,rfl⟩,⟨rfl,rfl,rfl,rfl,4,rfl⟩,rf,tv⟩,⟨⟨rf,rf,rf,rf,rfl,tv⟩,⟨rfl,rfl⟩,⟨rfl,rfl,2,rfl⟩,⟨rfl,rfl,4,rfl⟩,tv⟩,rfl,rfl⟩,⟨by decide,⟨rfl,fun j k h=>by simp at h⟩,by simp⟩,?_⟩
  rintro ⟨ow,ids,bef⟩ ⟨ho,hs,hl⟩
  simp only at ho hs hl
  refine ⟨fun h=>?_,fun h=>?_⟩
  ·have ho2:ow<6:=by have h':(ow:Int)<6:=by simpa using h
                     omega
   clear h
   refine .inr ⟨[3,2],[.ptr 0 0,.dv (I ow)],stK (itemsL b w) m,2,_,_,of_spec (itemsL b w) m ow hm.nd (by have:=hm.len; omega),by kernel_rfl,by kernel_rfl,⟨rfl,rf,tv⟩,⟨⟨rf,rf,rf,rf,rfl,tv⟩,⟨rfl,rfl⟩,tv⟩,?_⟩
   have hol:(ofL m ow).length≤6:=by
    have h1:(ofL m ow).length=(ownK m ow).length:=isortN_len _ _
    have:=ownK_len m ow
    have:=hm.len
    omega
   have hmem:∀k,k∈ofL m ow→∃x,oget m k=some x∧x.owner=ow:=fun k hk=>(mem_ofL hm.nd).1 hk
   generalize ofL m ow=own at hol hmem
   refine ⟨BI3,bInv3 (itemsL b w) (opsL l) i m ow own,fun x=>x.k≤own.length∧Seen m x.ids x.bef∧x.ids.length≤6 * ow+x.k,fun x=>own.length - x.k,⟨0,ids,bef⟩,fun ⟨_,_,_⟩=>rfl,⟨⟨rfl,rf,rf,rfl,rfl,rf,rfl,rf,tv⟩,⟨⟨rf,rf,rf,rf,rfl,tv⟩,⟨rfl,rfl⟩,⟨rfl,rfl⟩,⟨rfl,rfl⟩,⟨rfl,rfl⟩,tv⟩,rfl,rfl⟩,⟨by show 0≤own.length; omega,hs,hl⟩,?_⟩
   rintro ⟨k,ids,bef⟩ ⟨hk,hs,hl⟩
   simp only at hk hs hl
   refine ⟨fun h=>?_,fun h=>?_⟩
   ·have hk2:k<own.length:=by simpa using h
    clear h
    obtain ⟨x,hx,hxo⟩:=hmem own[k] (List.getElem_mem hk2)
    refine ⟨fun _=>⟨by omega,by simp; omega⟩,eKy own[k],fun _=>by simp [hk2],?_⟩
    have hg:=get_spec (itemsL b w) m own[k]
    rw [hx] at hg
    refine .inr ⟨[3,2],[.ptr 0 0,ofD (eKy own[k])],stK (itemsL b w) m,0,_,_,hg,by kernel_rfl,by kernel_rfl,⟨rfl,⟨rf,rf,tv⟩,tv⟩,⟨⟨rf,rf,rf,rf,rfl,tv⟩,⟨rfl,rfl⟩,tv⟩,?_⟩
    refine ⟨id,id,id,fun _ h=>bw_f h,fun h=>?_,fun _=>?_⟩
    ·exfalso; simp [hxo] at h
    refine ⟨fun _=>⟨by omega,by simp; omega⟩,eKy own[k],fun _=>by simp [hk2],?_⟩
    refine .inl ⟨[eKy own[k]],rfl,⟨rf,rf,tv⟩,(by simp; rfl),?_⟩
    refine .inr ⟨[eKy own[k]],ELes.refl _,(by rw [by29]; simp; omega),(by simp; omega),?_⟩
    refine .inl ⟨[eOb x],rfl,⟨rf,rf,rf,rf,tv⟩,(by simp; rfl),?_⟩
    refine .inr ⟨[eOb x],ELes.refl _,(by rw [by30]; simp [hs.len]; omega),(by simp [hs.len]; omega),?_⟩
    refine ⟨fun _=>⟨by omega,by omega⟩,⟨k+1,ids++[own[k]],bef++[x]⟩,⟨⟨rfl,rf,rf,rfl,rfl,rf,rfl,le_int (by simp),tv⟩,⟨⟨rf,rf,rf,rf,rfl,tv⟩,⟨rfl,rfl⟩,⟨rfl,by simp⟩,⟨rfl,by simp⟩,⟨rfl,rfl⟩,tv⟩,rfl,rfl⟩,⟨by show k+1≤own.length; omega,hs.snoc hx,?_⟩,by show own.length - (k+1)<own.length - k; omega⟩
    show (ids++[own[k]]).length≤6 * ow+(k+1)
    simp only [List.length_append,List.length_singleton]
    omega
   ·refine ⟨fun _=>⟨by omega,by omega⟩,⟨ow+1,ids,bef⟩,⟨⟨rfl,rf,rf,rfl,rfl,le_int (by simp),tv⟩,⟨⟨rf,rf,rf,rf,rfl,tv⟩,⟨rfl,rfl⟩,⟨rfl,rfl⟩,⟨rfl,rfl⟩,tv⟩,rfl,rfl⟩,⟨by show ow+1≤6; omega,hs,?_⟩,by show 6 - (ow+1)<6 - ow; omega⟩
    show ids.length≤6 * (ow+1)
    omega
  ·have hin:(opsL l)[i]?=some (opsL l)[i]:=List.getElem?_eq_getElem hlt
   refine ⟨eOp (opsL l)[i],fun _=>⟨by omega,by simp [hlt]⟩,?_⟩
   have hoa:=opsL_at hin
   have hdo:=do_spec (itemsL b w) m (opsL l)[i] hm.ok (by rw [hoa]; exact opAt_a l i)
   have hm2:Fit (itemsL b w) (doM (itemsL b w) m (opsL l)[i]):=fit_doM hm hty (by rw [hoa]; exact opAt_key l i)
   have hkp:=kept_doM hty hm.nd (opsL l)[i]
   refine .inr ⟨[3,2],[.ptr 0 0,ofD (eOp (opsL l)[i])],stK (itemsL b w) m,0,_,_,hdo,by kernel_rfl,by kernel_rfl,⟨rfl,⟨rf,rf,rf,rf,rf,rf,rf,rf,rf,tv⟩,tv⟩,⟨⟨rf,rf,rf,rf,rfl,tv⟩,⟨rfl,rfl⟩,tv⟩,?_⟩
   refine ⟨Nat,bInv4 (itemsL b w) (opsL l) i (doM (itemsL b w) m (opsL l)[i]) ids bef,fun k=>k≤ids.length,fun k=>ids.length - k,0,fun _=>rfl,⟨⟨rfl,rf,rf,rfl,rfl,rf,tv⟩,⟨⟨rf,rf,rf,rf,rfl,tv⟩,⟨rfl,rfl⟩,⟨rfl,rfl⟩,⟨rfl,rfl⟩,tv⟩,rfl,rfl⟩,Nat.zero_le _,?_⟩
   intro k hk
   refine ⟨fun h=>?_,fun h=>?_⟩
   ·have hk2:k<ids.length:=by simpa using h
    clear h
    obtain ⟨x,hx,hbx⟩:=hs.get k ids[k] (List.getElem?_eq_getElem hk2)
    have hkx:=hkp.atk _ _ hx
    refine ⟨fun _=>⟨by omega,by simp; omega⟩,eKy ids[k],fun _=>by simp [hk2],?_⟩
    have hg:=get_spec (itemsL b w) (doM (itemsL b w) m (opsL l)[i]) ids[k]
    obtain ⟨z,s,hg,hc1,hc2⟩:∃(z:Ob) (s:Bool),CSpec Tryz.prog 12 [.ptr 0 0,ofD (eKy ids[k])] 2 (stK (itemsL b w) (doM (itemsL b w) m (opsL l)[i])) 0 [ofD (eOb z),.dv (B s)] (stK (itemsL b w) (doM (itemsL b w) m (opsL l)[i])) ∧
      (x.bound=true→s=true→z.bound=true∧z.owner=x.owner)∧(s=false→((opsL l)[i].kind == 4)=true):=by
     refine ⟨_,_,hg,?_,?_⟩
     ·intro h1 h2
      cases hq:oget (doM (itemsL b w) m (opsL l)[i]) ids[k] with
      | none=>rw [hq] at h2; cases h2
      | some y=>rw [hq] at hkx; exact hkx h1
     ·intro h2
      cases hq:oget (doM (itemsL b w) m (opsL l)[i]) ids[k] with
      | none=>rw [hq] at hkx; exact hkx
      | some y=>rw [hq] at h2; cases h2
    refine .inr ⟨[3,2],[.ptr 0 0,ofD (eKy ids[k])],stK (itemsL b w) (doM (itemsL b w) m (opsL l)[i]),0,_,_,hg,by kernel_rfl,by kernel_rfl,⟨rfl,⟨rf,rf,tv⟩,tv⟩,⟨⟨rf,rf,rf,rf,rfl,tv⟩,⟨rfl,rfl⟩,tv⟩,?_⟩
    have hbl:k<bef.length:=by rw [hs.len]; exact hk2
    have hbx':(bef.map eOb)[(k:Int).toNat]?=some (eOb x):=by rw [List.getElem?_map,Int.toNat_natCast,hbx]; rfl
    refine ⟨fun _=>⟨by omega,by simp; omega⟩,eOb x,fun _=>hbx',?_⟩
    refine ⟨fun _ h=>bw_t h,?_⟩
    repeat refine ⟨id,?_⟩
    refine ⟨fun _=>⟨by omega,by simp; omega⟩,id,id,eOb x,fun _=>hbx',?_⟩
    refine ⟨id,id,fun h=>⟨h,fun h2=>bw_andf h h2⟩,fun _ h=>bw_t h,id,id,id,id,eOp (opsL l)[i],fun _=>⟨by omega,by simp [hlt]⟩,?_⟩
    repeat first | refine ⟨id,?_⟩ | refine ⟨fun _ h=>bw_f h,?_⟩ | refine ⟨fun _ h=>bw_t h,?_⟩ | refine ⟨fun h=>⟨h,fun h2=>bw_and h h2⟩,?_⟩ | refine ⟨fun h=>⟨h,fun h2=>bw_andf h h2⟩,?_⟩
    refine ⟨by kernel_rfl,fun h=>?_,fun _=>?_⟩
    ·exfalso
     have hA:(bif bif bif x.bound then s else false then bif !z.bound then true else z.owner != x.owner else false then true else bif !s then (opsL l)[i].kind != 4 else false)=true:=h
     clear h
     cases hxb:x.bound with
     | false=>
      cases hs2:s with
      | false=>have:=hc2 hs2; simp [hxb,hs2,bne] at hA this; exact hA this
      | true=>simp [hxb,hs2] at hA
     | true =>
      cases hs2:s with
      | false=>have:=hc2 hs2; simp [hxb,hs2,bne] at hA this; exact hA this
      | true=>obtain ⟨h1,h2⟩:=hc1 hxb hs2; simp [hxb,hs2,h1,h2] at hA
    ·exact ⟨fun _=>⟨by omega,by omega⟩,k+1,⟨⟨rfl,rf,rf,rfl,rfl,le_int (by simp),tv⟩,⟨⟨rf,rf,rf,rf,rfl,tv⟩,⟨rfl,rfl⟩,⟨rfl,rfl⟩,⟨rfl,rfl⟩,tv⟩,rfl,rfl⟩,by show k+1≤ids.length; omega,by show ids.length - (k+1)<ids.length - k; omega⟩
   ·refine ⟨fun _=>⟨by omega,by omega⟩,⟨i+1,doM (itemsL b w) m (opsL l)[i]⟩,⟨⟨rfl,rf,le_int (by simp),tv⟩,⟨⟨rf,rf,rf,rf,rfl,tv⟩,⟨rfl,rfl⟩,tv⟩,rfl,rfl⟩,⟨by show i+1≤(opsL l).length; omega,hm2⟩,by show (opsL l).length - (i+1)<(opsL l).length - i; omega⟩
 ·refine .inl ⟨_,fun _=>lives_spec.ok,?_⟩
  exact ⟨rf,tv⟩
end Go.Proofs.YtpjpdomkcabfcaaGreatDoor
namespace Go.Proofs.YtpjpdomkcabfcaaGreatDoor
open Go.TM Go.ChangeShapes Go.WideShapes Go.ChangeAt Go.RowKit
theorem own:ownKnob Tryz.prog.godebug=none:=by kernel_rfl
theorem laidOut:laidOutB Tryz.prog=true:=by kernel_rfl
theorem in_i64 {n:Int} (h:(Lit.int .i64 n).wf=true):InI n:=by simpa [InI,Lit.wf,IntKind.min,IntKind.max,IntKind.signed,IntKind.bits] using h
theorem ints_of {H:Type} {enc:TypeId × Value→H} {W:World} {v:Value} {d:DataW H} {p:List MemPlace} (hv:∃a len cap,v=.slice a len cap) (h:DataW.Trod enc Tryz.prog W 0 (fun _=>true) true 22 v d p) :
  ∃zs:List Int,DRel (fun b=>W.heap[b]?) (Ints zs) v∧∀x,x∈zs→InI x:=by
 obtain ⟨fuel,h⟩:=h
 obtain ⟨a0,l0,c0,rfl⟩:=hv
 rcases open_ints Tryz.underlying22 Tryz.underlying3 (by kernel_rfl) h with ⟨h1,-⟩ | ⟨a,len,cap,zs,h1,h2,h3,h4,h5,h6,h7,h8⟩
 ·simp [Value.cells] at h1
  obtain ⟨rfl,rfl,rfl⟩:=h1
  exact ⟨[],.slnil 1,fun x hx=>by simp at hx⟩
 ·simp [Value.cells] at h1
  obtain ⟨rfl,rfl,rfl⟩:=h1
  simp only [if_true] at h5
  have hlen:((zs.take l0).map I).length=l0:=by simp; omega
  refine ⟨zs.take l0,?_,fun x hx=>in_i64 (h8 x (List.mem_of_mem_take hx))⟩
  ·have hd:=DRel.sl (M:=fun b=>W.heap[b]?) 1 ((zs.take l0).map I) a c0 (fun i _=>.int .i64 (zs.getD i 0)) (by rw [hlen]; exact h3) (fun x hx=>by
    obtain ⟨n,-,rfl⟩:=List.mem_map.1 hx
    exact ⟨rfl,fun d hd=>by simp only [DV.cells,List.mem_singleton] at hd; subst hd; rfl⟩) (fun i j hi hj=>by
    have hj0:j=0:=by omega
    subst hj0
    rw [hlen] at hi
    have:=h7 i (by omega)
    rw [Nat.mul_one,Nat.add_zero]
    exact this) (fun i x j d hx hd=>by
    have hi:i<l0:=by
     have:=(List.getElem?_eq_some_iff.1 hx).1
     rw [hlen] at this; exact this
    rw [List.getElem?_map,List.getElem?_take_of_lt hi,List.getElem?_eq_getElem (by omega)] at hx
    simp only [Option.map_some,Option.some.injEq] at hx
    subst hx
    match j,hd with
    | 0,hd =>
     simp only [DV.cells,List.getElem?_cons_zero,Option.some.injEq] at hd
     subst hd
     have e:zs.getD i 0=zs[i]'(by omega):=by simp [List.getD,List.getElem?_eq_getElem (show i<zs.length by omega)]
     rw [e]
     exact .int .i64 _
    | j+1,hd=>simp [DV.cells] at hd)
   rw [hlen] at hd
   exact hd
theorem kinds_of {W:World} (h:laidMetH Tryz.prog [("worldmint/lexer.kinds",Rows.laid_worldmint_lexer_kinds)] W):∃(ty:TypeId) (fr:Nat × Nat),W.heap[2]?=some (.cells kArr ty fr):=by
 have ht:Lib.TabIs Tryz.prog W "worldmint/lexer.kinds" .u8 (kindL.map fun n=>((n:Nat):Int)) :=
  Lib.tabIs_of_head (rest:=[]) (g:=2) (t:=254) (e:=5) (n:=128) (by kernel_rfl) (by kernel_rfl) Tryz.underlying254 Tryz.underlying5 (by kernel_rfl) (by kernel_rfl) h
 have hg:Tryz.prog.globalNamed "worldmint/lexer.kinds"=some 2:=by kernel_rfl
 unfold Lib.TabIs World.var? at ht
 rw [hg] at ht
 simp only [Option.bind_some] at ht
 split at ht
 ·rename_i cs ty fr hh
  injection ht with ht
  refine ⟨ty,fr,?_⟩
  rw [hh,ht]
  simp only [kArr,List.map_map]
  rfl
 ·cases ht
def laidW (w:World):World:={ w with heap:=w.heap.modify 2 fun
  | .cells _ t frozen=>.cells kArr t frozen
  | o=>o }
end Go.Proofs.YtpjpdomkcabfcaaGreatDoor
