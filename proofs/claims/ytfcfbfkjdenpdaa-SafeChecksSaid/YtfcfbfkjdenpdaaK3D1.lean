import Derived.Test.YtfcfbfkjdenpdaaK3A3
set_option linter.unusedVariables false
set_option linter.unusedSimpArgs false
set_option linter.unusedSectionVars false
namespace Go.Proofs.Ytfcfbfkjdenpdaa
open Go.TM
def rcOf:Code→Option RC
 | .seq a b=>match rcOf a with
  | some r=>some r
  | none=>rcOf b
 | .cond _ a b=>match rcOf a with
  | some r=>some r
  | none=>rcOf b
 | .block _ c=>rcOf c
 | .scope c=>rcOf c
 | .loop c=>rcOf c
 | .rangeFunc _ ps a b=>some ⟨ps,a,b⟩
 | _=>none
def rcF (f:Func):RC:=match f.body with
 | some c=>(match rcOf c with
  | some r=>r
  | none=>⟨#[],.skip,.skip⟩)
 | none=>⟨#[],.skip,.skip⟩
def okS:List AV→Bool
 | []=>true
 | .any::r=>okS r
 | .ptr _ _::r=>okS r
 | .dv _::r=>okS r
 | _=>false
theorem subWs_ok {m:Nat} {κ κ':Nat→Box}:∀{l:List AV},okS l=true→subWs m κ κ' l l
 | [],_=>trivial
 | .any::r,h=>⟨tv,subWs_ok (l:=r) h⟩
 | .ptr _ _::r,h=>⟨rfl,subWs_ok (l:=r) h⟩
 | .dv d::r,h=>⟨DV.Le.refl d,subWs_ok (l:=r) h⟩
theorem exists_spec (d:Dea) (i:Int):CSpec Try.prog 83 [.dv (I i),.ptr 0 0] 1 [(0,.cells (dvs (dcells d)))] 0 [.dv (B (okNext d i))] [(0,.cells (dvs (dcells d)))]:=by
 refine cspec_of tab_ok mixed (calls_snd _) (range_snd _) Try.func83 rfl rfl (by kernel_rfl) ?_
 refine ⟨id,id,id,id,fun _ h=>bw_t h,_,_,⟨rfl,rfl⟩,rfl,⟨DV.Le.of_eq ?_,tv⟩,subWs_dvs _ _ _ (dcells d),tv⟩
 simp only [okNext,List.length_map]
 cases decide (0≤i) <;> rfl
theorem sfSteps_spec (d:Dea) (s:Int):CSpec Try.prog 59 [.agg (dvs (dcells d)),.dv (I s)] 0 [] 2 [.fn 82 [.ptr 0 0,.ptr 1 0]] [(0,.cells (dvs (dcells d))),(1,.cells [.dv (I s)])]:=by
 refine cspec_of tab_ok mixed (calls_snd _) (range_snd _) Try.func59 rfl rfl (by kernel_rfl) ?_
 exact ⟨_,_,⟨rfl,rfl⟩,rfl,⟨⟨rfl,rfl,rfl,tv⟩,tv⟩,subWs_dvs _ _ _ (dcells d),⟨rf,tv⟩,tv⟩
def wC (d:Dea) (f s o:AV):List AV:=[.dv (.str d.name),.dv (.sl 1 (d.parties.map .str)),.dv (.sl 6 (d.states.map eSta)),f,s,o]
def eFrom (m:List (Int × Int)):DV:=.omap intK (m.map fun x=>.ent (I x.1) (I x.2))
def eSs (s:Stp):DV:=.agg [I s.label,I s.next,I s.party,ePut s.put]
def eStps (m:List (Int × Stp)):DV:=.omap intK (m.map fun x=>.ent (I x.1) (eSs x.2))
theorem disc0_spec (d:Dea) (f:List (Int × Int)) (s:List (Int × Stp)):CSpec Try.prog 75 [.ptr 0 0] 3 [(0,.cells (wC d (.own 1 0 0 []) (.own 2 0 0 []) (.dv .nils))),(1,.tree 0 0 (eFrom f)),(2,.tree 0 0 (eStps s))] 1 [.fn 91 [.ptr 3 0]] [(0,.cells (wC d (.own 1 0 0 []) (.own 2 0 0 []) (.dv .nils))),(1,.tree 0 0 (eFrom f)),(2,.tree 0 0 (eStps s)),(3,.cells [.ptr 0 0])]:=by
 refine cspec_of tab_ok mixed (calls_snd _) (range_snd _) Try.func75 rfl rfl (by kernel_rfl) ?_
 exact ⟨_,_,⟨rfl,rfl⟩,rfl,⟨⟨rfl,rfl,tv⟩,tv⟩,⟨rf,rf,rf,rfl,rfl,rf,tv⟩,⟨rfl,rfl⟩,⟨rfl,rfl⟩,⟨rfl,tv⟩,tv⟩
def xK (rc:RC) (d:Dea) (f:List (Int × Int)) (s:List (Int × Stp)) (o:List Int) (v:Nat):Boxes:=[(0,.rcd rc .ready ((List.replicate 24 .any).set 3 (.ptr 5 0))),(1,.cells (wC d (.own 2 0 0 []) (.own 3 0 0 []) (.own 4 v 0 []))),(2,.tree 0 0 (eFrom f)),(3,.tree 0 0 (eStps s)),(4,.tree v 0 (.osl 1 (o.map I))),(5,.cells [.ptr 1 0])]
theorem xbody_spec (d:Dea) (f:List (Int × Int)) (s:List (Int × Stp)) (o:List Int) (ho:o.length≤1000000) (x:Int):YSpecR Try.prog [.dv (I x)] 6 (xK (rcF Try.f41) d f s o 0) 0 fun r k=>r=[.dv (.bool true)]∧k=xK (rcF Try.f41) d f s (o++[x]) 1:=by
 refine yspecR_of tab_ok mixed rfl (by kernel_rfl) ?_
 refine .inl ⟨[I x],rfl,⟨rf,tv⟩,fun y hy=>(by rcases List.mem_singleton.1 hy with rfl; rfl),.inr ⟨[I x],ELes.refl _,(by rw [by22]; simp; omega),(by simp; omega),by kernel_rfl,?_⟩⟩
 exact ⟨_,_,⟨rfl,rfl⟩,by kernel_rfl,⟨rf,tv⟩,⟨rfl,rfl,subWs_ok rfl⟩,⟨rf,rf,rf,rfl,rfl,rfl,tv⟩,⟨rfl,rfl⟩,⟨rfl,rfl⟩,⟨rfl,by simp⟩,⟨rfl,tv⟩,tv⟩
end Go.Proofs.Ytfcfbfkjdenpdaa
namespace Go.Proofs.Ytfcfbfkjdenpdaa
open Go.TM
structure PB where
 from_:List (Int × Int)
 steps:List (Int × Stp)
def keysF (b:PB):List Int:=b.from_.map (·.1)
def addP (cur:Int) (b:PB) (s:Stp):PB:=if s.next∈keysF b then b else ⟨b.from_++[(s.next,cur)],b.steps++[(s.next,s)]⟩
theorem keq_int (a b:Int):keq (I a) (I b)=decide (a=b):=by
 simp [keq,keq1]
def lookI {α:Type} (m:List (Int × α)) (k:Int):Option α:=match m.find? (fun x=>x.1 == k) with
 | some x=>some x.2
 | none=>none
theorem mget_int {α:Type} (e:α→DV) (k:Int):∀m:List (Int × α),mget (m.map fun x=>.ent (I x.1) (e x.2)) (I k)=(lookI m k).map e
 | []=>rfl
 | x::m=>by
  simp only [List.map_cons,mget,keq_int,lookI,List.find?_cons]
  by_cases h:x.1=k
  ·simp [h]
  ·have hb:(x.1 == k)=false:=by simpa using h
   simp only [h,decide_false,hb,cond_false]
   exact mget_int e k m
theorem mput_int {α:Type} (e:α→DV) (k:Int) (v:DV):∀m:List (Int × α),k ∉ m.map (·.1)→mput (m.map fun x=>.ent (I x.1) (e x.2)) (I k) v=(m.map fun x=>.ent (I x.1) (e x.2))++[.ent (I k) v]
 | [],_=>rfl
 | x::m,h=>by
  simp only [List.map_cons,List.mem_cons,not_or] at h
  have h1:¬ x.1=k:=fun e=>h.1 e.symm
  simp only [List.map_cons,mput,keq_int,decide_eq_false h1,cond_false,List.cons_append]
  rw [mput_int e k v m h.2]
theorem lookI_none {α:Type} {m:List (Int × α)} {k:Int} (h:k ∉ m.map (·.1)):lookI m k=none:=by
 unfold lookI
 have:m.find? (fun x=>x.1 == k)=none:=by
  rw [List.find?_eq_none]
  intro x hx hk
  exact h (List.mem_map.2 ⟨x,hx,by simpa using hk⟩)
 rw [this]
theorem lookI_some {α:Type} {m:List (Int × α)} {k:Int} (h:k∈m.map (·.1)):∃v,lookI m k=some v:=by
 obtain ⟨x,hx,rfl⟩:=List.mem_map.1 h
 have:(m.find? (fun y=>y.1 == x.1)).isSome:=by rw [List.find?_isSome]; exact ⟨x,hx,by simp⟩
 obtain ⟨y,hy⟩:=Option.isSome_iff_exists.1 this
 exact ⟨y.2,by unfold lookI; rw [hy]⟩
def yK (rc:RC) (d:Dea) (b:PB) (o qu:List Int) (cur:Int) (v:Nat):Boxes:=[(0,.rcd rc .ready ((((List.replicate 70 .any).set 1 (.ptr 1 0)).set 3 (.ptr 6 0)).set 4 (.ptr 8 0))),(1,.cells [.ptr 2 0]),(2,.cells (wC d (.own 3 0 0 []) (.own 4 0 0 []) (.own 5 0 0 []))),(3,.tree 0 0 (eFrom b.from_)),(4,.tree 0 0 (eStps b.steps)),(5,.tree 0 0 (.osl 1 (o.map I))),(6,.cells [.own 7 v 0 []]),(7,.tree v 0 (.osl 1 (qu.map I))),(8,.cells [.dv (I cur)])]
def sA (s:Stp):AV:=.agg (dvs [I s.label,I s.next,I s.party,ePut s.put])
def qAdd (b:PB) (qu:List Int) (s:Stp):List Int:=if s.next∈keysF b then qu else qu++[s.next]
def vAdd (b:PB) (s:Stp):Nat:=if s.next∈keysF b then 0 else 1
theorem closed_int (n:Int):(I n).closedCells:=fun d hd=>by
 simp only [DV.cells,List.mem_singleton] at hd
 subst hd; rfl
theorem closed_eSs (s:Stp):(eSs s).closedCells:=fun d hd=>by
 simp only [eSs,DV.cells,List.mem_cons,List.not_mem_nil,or_false] at hd
 rcases hd with rfl | rfl | rfl | rfl <;> rfl
theorem keyT3:KeyT Try.prog 3 intK:=keyT_int tab_ok rfl
set_option maxHeartbeats 4000000 in
theorem ybody_spec (d:Dea) (b:PB) (o qu:List Int) (cur:Int) (s:Stp) (hq:qu.length≤1000000) (hst:b.steps.map (·.1)=(keysF b).tail):YSpecR Try.prog [sA s] 9 (yK (rcF Try.f91) d b o qu cur 0) 0 fun r k=>r=[.dv (.bool true)]∧k=yK (rcF Try.f91) d (addP cur b s) o (qAdd b qu s) cur (vAdd b s):=by
 refine yspecR_of tab_ok mixed rfl (by kernel_rfl) ?_
 refine ⟨keyT3,I s.next,rfl,rfl,?_⟩
 by_cases hin:s.next∈keysF b
 ·obtain ⟨v,hv⟩:=lookI_some hin
  refine ⟨I v,true,fun _=>?_,(fun h=>by cases h),rfl,by kernel_rfl,(fun h=>by cases h),fun _=>?_⟩
  ·rw [mget_int (fun x=>I x),hv]; rfl
  refine ⟨_,_,⟨rfl,rfl⟩,?_⟩
  simp only [addP,qAdd,vAdd,hin,if_true]
  exact ⟨by kernel_rfl,⟨rf,tv⟩,⟨rfl,rfl,subWs_ok rfl⟩,⟨rfl,tv⟩,⟨rf,rf,rf,rfl,rfl,rfl,tv⟩,⟨rfl,rfl⟩,⟨rfl,rfl⟩,⟨rfl,rfl⟩,⟨rfl,tv⟩,⟨rfl,rfl⟩,⟨rf,tv⟩,tv⟩
 ·refine ⟨I 0,false,fun _=>?_,fun _=>rfl,rfl,by kernel_rfl,fun _=>?_,fun h=>by cases h⟩
  ·rw [mget_int (fun x=>I x),lookI_none hin]; rfl
  have hns:s.next ∉ b.steps.map (·.1):=by rw [hst]; exact fun h=>hin (List.mem_of_mem_tail h)
  have hg1:mget (b.from_.map fun x=>.ent (I x.1) (I x.2)) (I s.next)=none:=by rw [mget_int (fun x=>I x),lookI_none hin]; rfl
  have hg2:mget (b.steps.map fun x=>.ent (I x.1) (eSs x.2)) (I s.next)=none:=by rw [mget_int eSs,lookI_none hns]; rfl
  refine ⟨keyT3,I s.next,rfl,rfl,I cur,⟨rf,tv⟩,rfl,false,fun _=>⟨fun x hx=>(by rw [hg1] at hx; cases hx),closed_int cur⟩,by kernel_rfl,?_⟩
  refine ⟨keyT3,I s.next,rfl,rfl,eSs s,⟨rf,rf,rf,rf,tv⟩,rfl,false,fun _=>⟨fun x hx=>(by rw [hg2] at hx; cases hx),closed_eSs s⟩,by kernel_rfl,?_⟩
  refine .inl ⟨[I s.next],rfl,⟨rf,tv⟩,fun y hy=>(by rcases List.mem_singleton.1 hy with rfl; rfl),.inr ⟨[I s.next],ELes.refl _,(by rw [by22]; simp; omega),(by simp; omega),?_⟩⟩
  refine ⟨_,_,⟨rfl,rfl⟩,?_⟩
  simp only [addP,qAdd,vAdd,hin,if_false]
  refine ⟨by kernel_rfl,⟨rf,tv⟩,⟨rfl,rfl,subWs_ok rfl⟩,⟨rfl,tv⟩,⟨rf,rf,rf,rfl,rfl,rfl,tv⟩,⟨rfl,?_⟩,⟨rfl,?_⟩,⟨rfl,rfl⟩,⟨rfl,tv⟩,⟨rfl,by simp⟩,⟨rf,tv⟩,tv⟩
  ·rw [mput_int (fun x=>I x) _ _ _ hin]; simp [eFrom]
  ·rw [mput_int eSs _ _ _ hns]; simp [eStps]
end Go.Proofs.Ytfcfbfkjdenpdaa
