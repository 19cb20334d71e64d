import Derived.Test.YtfcfbfkjdenpdaaK3Q7
import Derived.Test.YtfcfbfkjdenpdaaK3D1
import Derived.Test.YtfcfbfkjdenpdaaK3Q5
set_option linter.unusedVariables false
set_option linter.unusedSimpArgs false
set_option linter.unusedSectionVars false
namespace Go.Proofs.Ytfcfbfkjdenpdaa
open Go.TM
def eEnd (E:List Int):DV:=.omap intK (E.map fun s=>.ent (I s) (B true))
theorem mget_end (k:Int):∀E:List Int,mget (E.map fun s=>.ent (I s) (B true)) (I k)=if k∈E then some (B true) else none
 | []=>rfl
 | x::E=>by
  simp only [List.map_cons,mget,keq_int]
  by_cases h:x=k
  ·subst h; simp
  ·have h2:¬ k=x:=fun e=>h e.symm
   simp only [h,decide_false,cond_false,List.mem_cons,h2,false_or]
   exact mget_end k E
theorem mput_end (k:Int):∀E:List Int,k ∉ E→mput (E.map fun s=>.ent (I s) (B true)) (I k) (B true)=(E++[k]).map fun s=>.ent (I s) (B true)
 | [],_=>rfl
 | x::E,h=>by
  simp only [List.mem_cons,not_or] at h
  have h1:¬ x=k:=fun e=>h.1 e.symm
  simp only [List.map_cons,mput,keq_int,decide_eq_false h1,cond_false,List.cons_append]
  rw [mput_end k E h.2]
theorem closed_bool (b:Bool):(B b).closedCells:=fun d hd=>by
 simp only [DV.cells,List.mem_singleton] at hd
 subst hd; rfl
def gSl:List AV:=((List.replicate 60 .any).set 3 (.ptr 1 0)).set 7 (.ptr 2 0)
def gK1 (rc:RC) (st:RSt) (r:Bool) (E:List Int):Boxes:=[(0,.rcd rc st gSl),(1,.cells [.own 3 0 0 []]),(2,.cells [.dv (B r)]),(3,.tree 0 0 (eEnd E))]
def orN (E:List Int) (r:Bool) (t:Stp):Bool:=r || decide (t.next∈E)
structure LoI2 where
 k:Nat
 s:Bool
set_option maxRecDepth 100000 in
set_option maxHeartbeats 4000000 in
theorem gbody_spec (E:List Int) (t:Stp) (r:Bool):YSpecR Try.prog [sA t] 4 (gK1 (rcF Try.f63) .ready r E) 0 fun rr k=>rr=[.dv (.bool true)]∧k=gK1 (rcF Try.f63) .ready (orN E r t) E:=by
 refine yspecR_of tab_ok mixed rfl (by kernel_rfl) ?_
 have hg:mget (E.map fun s=>.ent (I s) (B true)) (I t.next)=bif decide (t.next∈E) then some (B (decide (t.next∈E))) else none:=by
  rw [mget_end]
  by_cases h:t.next∈E <;> simp [h]
 refine ⟨id,id,id,keyT3,I t.next,rfl,rfl,B (decide (t.next∈E)),decide (t.next∈E),fun _=>hg,(fun h=>by rw [h]; rfl),rfl,?_⟩
 refine ⟨fun _ h=>bw_f h,?_⟩
 refine ⟨_,_,⟨rfl,rfl⟩,by kernel_rfl,⟨rf,tv⟩,⟨rfl,rfl,subWs_ok (by kernel_rfl)⟩,⟨rfl,tv⟩,⟨DV.Le.of_eq ?_,tv⟩,⟨rfl,rfl⟩,tv⟩
 cases r <;> rfl
set_option maxRecDepth 100000 in
set_option maxHeartbeats 4000000 in
theorem sfSteps3_spec (rc:RC) (d:Dea) (E:List Int) (s:Int) (x:Sta) (h0:0≤s) (hx:d.states[s.toNat]?=some x) (hol:x.opts.length≤1000)
  (hY:∀t r,YSpecR Try.prog [sA t] 4 (gK1 rc .ready r E) 0 fun rr k=>rr=[.dv (.bool true)]∧k=gK1 rc .ready (orN E r t) E) (r0:Bool) :
  CSpec Try.prog 82 [.yld 0,.ptr 4 0,.ptr 5 0] 6 (gK1 rc .ready r0 E++[(4,Box.cells (dvs (dcells d))),(5,Box.cells [AV.dv (I s)])]) 0 [] (gK1 rc .ready ((stepsOf d x).foldl (orN E) r0) E++[(4,Box.cells (dvs (dcells d))),(5,Box.cells [AV.dv (I s)])]):=by
 refine cspec_of tab_ok mixed (calls_snd _) (range_snd _) Try.func82 rfl rfl (by kernel_rfl) ?_
 refine ⟨eSta x,fun _=>⟨h0,by simp [hx]⟩,fun h=>?_,fun h=>?_⟩
 ·have hf:x.final=true:=h
  have hs:stepsOf d x=[]:=by simp [stepsOf,hf]
  rw [hs]
  exact ⟨_,_,⟨rfl,rfl⟩,by kernel_rfl,tv,⟨rfl,rfl,subWs_ok (by kernel_rfl)⟩,⟨rfl,tv⟩,⟨rf,tv⟩,⟨rfl,rfl⟩,subWs_dvs _ _ _ (dcells d),⟨rf,tv⟩,tv⟩
 ·have hf:x.final=false:=h
  clear h
  have hso:stepsOf d x=optSteps d x x.opts.length++(if decide (0<x.wait) && okNext d x.late then [⟨-1,-1,x.late,[]⟩] else []):=by simp [stepsOf,hf]
  refine ⟨LoI2,fun z=>⟨7,[(0,.yld 0),(1,.ptr 4 0),(2,.ptr 5 0),(4,.ptr 6 0),(5,.fn 83 [.ptr 4 0]),(17,.dv (.sl 3 (x.opts.map eOpt))),(18,.dv (I x.opts.length)),(19,.dv (I z.k))],gK1 rc .ready z.s E++[(4,Box.cells (dvs (dcells d))),(5,Box.cells [AV.dv (I s)])]++[(6,Box.cells (dvs (eSta x).cells))]⟩,fun z=>z.k≤x.opts.length∧z.s=(optSteps d x z.k).foldl (orN E) r0,fun z=>x.opts.length - z.k,⟨0,r0⟩,(fun _=>by kernel_rfl),?_,⟨by simp,rfl⟩,?_⟩
  ·exact ⟨⟨rfl,rfl,rfl,rfl,⟨rfl,rfl,tv⟩,rf,le_int (by simp),rf,tv⟩,⟨⟨rfl,rfl,subWs_ok (by kernel_rfl)⟩,⟨rfl,tv⟩,⟨rf,tv⟩,⟨rfl,rfl⟩,subWs_dvs _ _ _ (dcells d),⟨rf,tv⟩,subWs_dvs _ _ _ (eSta x).cells,tv⟩,by kernel_rfl,by kernel_rfl⟩
  ·rintro ⟨k,r⟩ ⟨hk,hk2⟩
   dsimp only at hk hk2
   refine ⟨fun h=>?_,fun h=>?_⟩
   ·have hlt:k<x.opts.length:=by
     have:(k:Int)<x.opts.length:=of_decide_eq_true h
     omega
    clear h
    generalize ho':x.opts[k]=op at *
    have hop:x.opts[k]?=some op:=by rw [List.getElem?_eq_getElem hlt,ho']
    refine ⟨eOpt op,fun _=>⟨by dsimp only; omega,by simp [hop]⟩,?_⟩
    refine .inr ⟨[4],[.dv (I op.next),.ptr 0 0],[(0,.cells (dvs (dcells d)))],0,_,_,exists_spec d op.next,by kernel_rfl,by kernel_rfl,⟨rf,rfl,tv⟩,⟨subWs_dvs _ _ _ (dcells d),tv⟩,?_⟩
    have hos:optSteps d x (k+1)=if okNext d op.next then optSteps d x k++[⟨k,op.party,op.next,op.put⟩] else optSteps d x k:=by simp only [optSteps,hop]
    generalize hok:okNext d op.next=e at hos ⊢
    refine ⟨id,id,id,id,id,id,id,id,id,?_⟩
    cases e
    ·refine .inr ⟨rfl,.dv (B false),?_⟩
     refine ⟨id,(fun _ h=>by cases h),(fun h=>by cases h),fun _=>⟨fun _=>⟨by dsimp only; omega,by dsimp only; omega⟩,⟨k+1,r⟩,⟨⟨rfl,rfl,rfl,rfl,⟨rfl,rfl,tv⟩,rf,rf,le_int (by simp),tv⟩,⟨⟨rfl,rfl,subWs_ok (by kernel_rfl)⟩,⟨rfl,tv⟩,⟨rf,tv⟩,⟨rfl,rfl⟩,subWs_dvs _ _ _ (dcells d),⟨rf,tv⟩,subWs_dvs _ _ _ (eSta x).cells,tv⟩,by kernel_rfl,by kernel_rfl⟩,⟨by dsimp only; omega,?_⟩,by dsimp only; omega⟩⟩
     simp only [hos,Bool.false_eq_true,if_false]
     exact hk2
    ·simp only [if_true] at hos
     have hy:=hY ⟨k,op.party,op.next,op.put⟩ r
     refine .inl ⟨[0,1,2,3],[sA ⟨k,op.party,op.next,op.put⟩],gK1 rc .ready r E,0,_,_,hy,by kernel_rfl,by kernel_rfl,⟨⟨rf,rf,rf,rf,tv⟩,tv⟩,⟨⟨rfl,rfl,subWs_ok (by kernel_rfl)⟩,⟨rfl,tv⟩,⟨rf,tv⟩,⟨rfl,rfl⟩,tv⟩,rfl,fun _=>rfl,fun _ _=>rfl,(fun h=>by cases h),fun _=>?_⟩
     refine ⟨fun _=>⟨by dsimp only; omega,by dsimp only; omega⟩,⟨k+1,orN E r ⟨k,op.party,op.next,op.put⟩⟩,⟨⟨rfl,rfl,rfl,rfl,⟨rfl,rfl,tv⟩,rf,rf,le_int (by simp),tv⟩,⟨⟨rfl,rfl,subWs_ok (by kernel_rfl)⟩,⟨rfl,tv⟩,⟨rf,tv⟩,⟨rfl,rfl⟩,subWs_dvs _ _ _ (dcells d),⟨rf,tv⟩,subWs_dvs _ _ _ (eSta x).cells,tv⟩,by kernel_rfl,by kernel_rfl⟩,⟨by dsimp only; omega,?_⟩,by dsimp only; omega⟩
     simp only [hos,List.foldl_append,←hk2]
     rfl
   ·have hke:k=x.opts.length:=by
     have:¬ (k:Int)<x.opts.length:=of_decide_eq_false h
     omega
    clear h
    subst hke
    refine ⟨id,id,id,?_⟩
    by_cases hw:0<x.wait
    ·have hwd:decide (0<x.wait)=true:=decide_eq_true hw
     have hso:stepsOf d x=optSteps d x x.opts.length++(if okNext d x.late then [⟨-1,-1,x.late,[]⟩] else []):=by rw [hso,hwd]; rfl
     refine .inr ⟨[4],[.dv (I x.late),.ptr 0 0],[(0,.cells (dvs (dcells d)))],0,_,_,exists_spec d x.late,by kernel_rfl,by kernel_rfl,⟨rf,rfl,tv⟩,⟨subWs_dvs _ _ _ (dcells d),tv⟩,bw_t hwd,?_⟩
     generalize hok:okNext d x.late=e at hso ⊢
     refine ⟨fun _ _=>rfl,fun h=>?_,fun h=>?_⟩
     ·have he:e=true:=by
       have h:(bif decide (0<x.wait) then e else false)=true:=h
       rw [hwd] at h; exact h
      subst he
      simp only [if_true] at hso
      have hfo:(stepsOf d x).foldl (orN E) r0=orN E r ⟨-1,-1,x.late,[]⟩:=by
       rw [hso,List.foldl_append,←hk2]; rfl
      rw [hfo]
      have hy:=hY ⟨-1,-1,x.late,[]⟩ r
      refine .inl ⟨[0,1,2,3],[sA ⟨-1,-1,x.late,[]⟩],gK1 rc .ready r E,0,_,_,hy,by kernel_rfl,by kernel_rfl,⟨⟨rf,rf,rf,DV.nils_le 2,tv⟩,tv⟩,⟨⟨rfl,rfl,subWs_ok (by kernel_rfl)⟩,⟨rfl,tv⟩,⟨rf,tv⟩,⟨rfl,rfl⟩,tv⟩,?_⟩
      exact ⟨_,_,⟨rfl,rfl⟩,by kernel_rfl,tv,⟨rfl,rfl,subWs_ok (by kernel_rfl)⟩,⟨rfl,tv⟩,⟨rf,tv⟩,⟨rfl,rfl⟩,subWs_dvs _ _ _ (dcells d),⟨rf,tv⟩,tv⟩
     ·have he:e=false:=by
       have h:(bif decide (0<x.wait) then e else false)=false:=h
       rw [hwd] at h; exact h
      subst he
      simp only [Bool.false_eq_true,if_false,List.append_nil] at hso
      rw [hso,←hk2]
      exact ⟨_,_,⟨rfl,rfl⟩,by kernel_rfl,tv,⟨rfl,rfl,subWs_ok (by kernel_rfl)⟩,⟨rfl,tv⟩,⟨rf,tv⟩,⟨rfl,rfl⟩,subWs_dvs _ _ _ (dcells d),⟨rf,tv⟩,tv⟩
    ·have hwd:decide (0<x.wait)=false:=decide_eq_false hw
     have hso:stepsOf d x=optSteps d x x.opts.length:=by rw [hso,hwd]; simp
     have hbw:bw (decide (0<x.wait)) true=false:=by rw [hwd]; rfl
     refine .inl ⟨hbw,[B false],(fun h=>absurd (hbw.symm.trans h) (by decide)),rfl,?_⟩
     refine ⟨fun _ h=>absurd (hwd.symm.trans h) (by decide),(fun h=>?_),fun _=>?_⟩
     ·exfalso
      have h:(bif decide (0<x.wait) then false else false)=true:=h
      rw [hwd] at h; cases h
     ·rw [hso,←hk2]
      exact ⟨_,_,⟨rfl,rfl⟩,by kernel_rfl,tv,⟨rfl,rfl,subWs_ok (by kernel_rfl)⟩,⟨rfl,tv⟩,⟨rf,tv⟩,⟨rfl,rfl⟩,subWs_dvs _ _ _ (dcells d),⟨rf,tv⟩,tv⟩
end Go.Proofs.Ytfcfbfkjdenpdaa
namespace Go.Proofs.Ytfcfbfkjdenpdaa
open Go.TM
structure EnO where
 k:Nat
 c:Bool
structure EnJ where
 i:Nat
 E:List Int
theorem orN_fold (E:List Int):∀(l:List Stp) (r:Bool),l.foldl (orN E) r=(r || l.any fun t=>decide (t.next∈E))
 | [],r=>by simp
 | t::l,r=>by rw [List.foldl_cons,orN_fold E l]; simp [orN,Bool.or_assoc]
def hK (n:Nat) (d:Dea) (M:List DV) (E:List Int):Boxes:=qK n d M++[(6,Box.tree 0 0 (eEnd E)),(7,Box.cells [AV.own 6 0 0 []])]
set_option maxRecDepth 100000 in
set_option maxHeartbeats 4000000 in
theorem sends_spec (n:Nat) (d:Dea) (hd:d.states ≠ []) (hs:Small d) (M:List DV):CSpec Try.prog 63 [.ptr 5 0] 6 (qK n d M) 1 [.own 6 0 0 []] (qK n d M++[(6,.tree 0 0 (eEnd (endsE d)))]):=by
 refine cspec_of tab_ok mixed (calls_snd _) (range_snd _) Try.func63 rfl rfl (by kernel_rfl) ?_
 have hb:=disc_ok d
 have hol:=hb.le
 have hst:=hs.states
 have hw:=wok_disc d hd
 have hkl:(keysF (pD d)).length=(disc d).order.length:=by rw [hw.keys]
 refine ⟨intK,?_⟩
 refine ⟨EnO,fun z=>⟨8,[(0,.ptr 5 0),(3,.ptr 7 0),(4,.dv (B z.c))],hK n d M (endN d z.k)⟩,fun z=>z.k≤(disc d).order.length+1∧(z.c=true→z.k≤(endN d z.k).length)∧(z.c=false→endPass d (endN d z.k)=endN d z.k),fun z=>if z.c then (disc d).order.length+3 - z.k else 0,⟨0,true⟩,(fun _=>by kernel_rfl),?_,⟨by simp,by simp,by simp⟩,?_⟩
 ·exact ⟨⟨rfl,rfl,rf,tv⟩,⟨⟨rfl,rfl⟩,⟨rfl,rfl⟩,⟨rf,rf,rf,rfl,rfl,rfl,tv⟩,⟨rfl,rfl⟩,⟨rfl,rfl⟩,⟨rfl,rf,rfl,tv⟩,⟨rfl,rfl⟩,⟨rfl,tv⟩,tv⟩,by kernel_rfl,by kernel_rfl⟩
 rintro ⟨k,c⟩ ⟨hk1,hk2,hk3⟩
 dsimp only at hk1 hk2 hk3
 have hEok:=endN_ok d k
 have hEle:=hEok.le
 refine ⟨fun h=>?_,fun h=>?_⟩
 ·have hc:c=true:=h
  subst hc
  clear h
  have hk2:=hk2 rfl
  refine ⟨EnJ,fun z=>⟨8,[(0,.ptr 5 0),(3,.ptr 7 0),(4,.dv (B (decide ((endN d k).length<z.E.length)))),(17,.own 3 0 0 []),(18,.dv (I (disc d).order.length)),(19,.dv (I z.i))],hK n d M z.E⟩,fun z=>z.i≤(disc d).order.length∧z.E=((disc d).order.take z.i).foldl (eS d) (endN d k),fun z=>(disc d).order.length - z.i,⟨0,endN d k⟩,(fun _=>by kernel_rfl),?_,⟨by simp,by simp⟩,?_⟩
  ·exact ⟨⟨rfl,rfl,DV.Le.of_eq (by simp),rfl,le_int (by simp [hkl]),rf,tv⟩,⟨⟨rfl,rfl⟩,⟨rfl,rfl⟩,⟨rf,rf,rf,rfl,rfl,rfl,tv⟩,⟨rfl,rfl⟩,⟨rfl,rfl⟩,⟨rfl,rf,rfl,tv⟩,⟨rfl,rfl⟩,⟨rfl,tv⟩,tv⟩,by kernel_rfl,by kernel_rfl⟩
  rintro ⟨i,E⟩ ⟨hi1,hi2⟩
  dsimp only at hi1 hi2
  have hElen:(endN d k).length≤E.length:=by
   obtain ⟨e,he⟩:=eSs_pre d ((disc d).order.take i) (endN d k)
   rw [hi2,he]; simp
  refine ⟨fun h=>?_,fun h=>?_⟩
  ·have hi:i<(disc d).order.length:=by
    have:(i:Int)<(disc d).order.length:=of_decide_eq_true h
    omega
   clear h
   generalize hs':(disc d).order[i]=s at *
   have hso:(disc d).order[i]?=some s:=by rw [List.getElem?_eq_getElem hi,hs']
   have hko:(keysF (pD d))[i]?=some s:=by rw [hw.keys]; exact hso
   have hrg:=hb.rng _ (List.mem_of_getElem? hso)
   have hcl:s.toNat<d.states.length:=by omega
   obtain ⟨x,hx⟩:∃x,d.states[s.toNat]?=some x:=⟨_,List.getElem?_eq_getElem hcl⟩
   have hopl:=hs.opts x (List.mem_of_getElem? hx)
   have hnx:((disc d).order.take (i+1)).foldl (eS d) (endN d k)=eS d E s:=by
    rw [List.take_add_one,hso,List.foldl_append,hi2]; rfl
   have hg:mget (E.map fun s=>.ent (I s) (B true)) (I s)=bif decide (s∈E) then some (B (decide (s∈E))) else none:=by
    rw [mget_end]
    by_cases h:s∈E <;> simp [h]
   refine ⟨fun _=>⟨by dsimp only; omega,by simp; omega⟩,I s,fun _=>by simp [hko],?_⟩
   refine ⟨keyT3,I s,rfl,rfl,B (decide (s∈E)),decide (s∈E),fun _=>hg,(fun h=>by rw [h]; rfl),rfl,fun h=>?_,fun h=>?_⟩
   ·have hin:s∈E:=of_decide_eq_true h
    clear h
    have he:eS d E s=E:=by rw [eS,if_pos hin]
    exact ⟨fun _=>⟨by dsimp only; omega,by dsimp only; omega⟩,⟨i+1,E⟩,⟨⟨rfl,rfl,rf,rfl,rf,le_int (by simp),tv⟩,⟨⟨rfl,rfl⟩,⟨rfl,rfl⟩,⟨rf,rf,rf,rfl,rfl,rfl,tv⟩,⟨rfl,rfl⟩,⟨rfl,rfl⟩,⟨rfl,rf,rfl,tv⟩,⟨rfl,rfl⟩,⟨rfl,tv⟩,tv⟩,by kernel_rfl,by kernel_rfl⟩,⟨by dsimp only; omega,by dsimp only; rw [hnx,he]⟩,by dsimp only; omega⟩
   have hin:s ∉ E:=of_decide_eq_false h
   clear h
   have hre:reachB d E s=(stepsOf d x).foldl (orN E) x.final:=by rw [orN_fold]; simp [reachB,hx,finS]
   have h82:=sfSteps3_spec (rcF Try.f63) d E s x hrg.1 hx hopl (fun t r=>gbody_spec E t r) x.final
   rw [←hre] at h82
   have hes:eS d E s=if reachB d E s then E++[s] else E:=by rw [eS,if_neg hin]
   generalize reachB d E s=rb at h82 hes
   refine ⟨eSta x,fun _=>⟨hrg.1,by simp [hx]⟩,?_⟩
   refine .inr ⟨[],[.agg (dvs (dcells d)),.dv (I s)],[],2,_,_,sfSteps_spec d s,rfl,rfl,⟨⟨rf,rf,rf,tv⟩,rf,tv⟩,tv,?_⟩
   refine ⟨rcF Try.f63,by kernel_rfl,?_⟩
   refine ⟨[11,7,8,6,9,10],[.yld 0,.ptr 4 0,.ptr 5 0],gK1 (rcF Try.f63) .ready x.final E++[(4,Box.cells (dvs (dcells d))),(5,Box.cells [AV.dv (I s)])],0,_,h82,by kernel_rfl,⟨rfl,rfl,rfl,tv⟩,?_,?_⟩
   ·exact ⟨⟨rfl,rfl,subWs_sOk (by kernel_rfl)⟩,⟨rfl,tv⟩,⟨rf,tv⟩,⟨rfl,rfl⟩,subWs_dvs _ _ _ (dcells d),⟨rf,tv⟩,tv⟩
   rintro rs K2 ⟨rfl,rfl⟩
   refine ⟨by kernel_rfl,?_⟩
   conv=>whnf
   refine ⟨fun h=>?_,fun h=>?_⟩
   ·have hr:rb=true:=h
    subst hr
    simp only [if_true] at hes
    have hgn:mget (E.map fun s=>.ent (I s) (B true)) (I s)=none:=by rw [mget_end,if_neg hin]
    have hlt:(endN d k).length<(E++[s]).length:=by simp; omega
    exact ⟨keyT3,I s,rfl,rfl,B true,⟨rf,tv⟩,rfl,false,fun _=>⟨fun x hx=>(by rw [hgn] at hx; cases hx),closed_bool true⟩,fun _=>⟨by dsimp only; omega,by dsimp only; omega⟩,⟨i+1,E++[s]⟩,⟨⟨rfl,rfl,DV.Le.of_eq (by dsimp only; rw [decide_eq_true hlt]),rfl,rf,le_int (by simp),tv⟩,⟨⟨rfl,rfl⟩,⟨rfl,rfl⟩,⟨rf,rf,rf,rfl,rfl,rfl,tv⟩,⟨rfl,rfl⟩,⟨rfl,rfl⟩,⟨rfl,rf,rfl,tv⟩,⟨rfl,congrArg (DV.omap intK) (mput_end s E hin)⟩,⟨rfl,tv⟩,tv⟩,by kernel_rfl,by kernel_rfl⟩,⟨by dsimp only; omega,by dsimp only; rw [hnx,hes]⟩,by dsimp only; omega⟩
   ·have hr:rb=false:=h
    subst hr
    simp only [Bool.false_eq_true,if_false] at hes
    exact ⟨fun _=>⟨by dsimp only; omega,by dsimp only; omega⟩,⟨i+1,E⟩,⟨⟨rfl,rfl,rf,rfl,rf,le_int (by simp),tv⟩,⟨⟨rfl,rfl⟩,⟨rfl,rfl⟩,⟨rf,rf,rf,rfl,rfl,rfl,tv⟩,⟨rfl,rfl⟩,⟨rfl,rfl⟩,⟨rfl,rf,rfl,tv⟩,⟨rfl,rfl⟩,⟨rfl,tv⟩,tv⟩,by kernel_rfl,by kernel_rfl⟩,⟨by dsimp only; omega,by dsimp only; rw [hnx,hes]⟩,by dsimp only; omega⟩
  ·have hi:i=(disc d).order.length:=by
    have:¬ (i:Int)<(disc d).order.length:=of_decide_eq_false h
    omega
   clear h
   subst hi
   rw [List.take_length] at hi2
   have hE2:endN d (k+1)=E:=hi2.symm
   refine ⟨⟨k+1,decide ((endN d k).length<E.length)⟩,⟨⟨rfl,rfl,rf,tv⟩,⟨⟨rfl,rfl⟩,⟨rfl,rfl⟩,⟨rf,rf,rf,rfl,rfl,rfl,tv⟩,⟨rfl,rfl⟩,⟨rfl,rfl⟩,⟨rfl,rf,rfl,tv⟩,⟨rfl,by rw [hE2]⟩,⟨rfl,tv⟩,tv⟩,by kernel_rfl,by kernel_rfl⟩,⟨by dsimp only; omega,fun h=>?_,fun h=>?_⟩,?_⟩
   ·dsimp only at h ⊢
    have:=of_decide_eq_true h
    rw [hE2]; omega
   ·dsimp only at h ⊢
    have h:=of_decide_eq_false h
    obtain ⟨e,he⟩:=eSs_pre d (disc d).order (endN d k)
    have hee:e=[]:=by
     have:E.length=(endN d k).length+e.length:=by rw [hi2,he]; simp
     exact List.eq_nil_of_length_eq_zero (by omega)
    have hfix:endN d (k+1)=endN d k:=by rw [hE2,hi2,he,hee]; simp
    rw [hfix]; exact hE2.trans (hE2.symm.trans hfix)
   ·dsimp only
    cases hcc:decide ((endN d k).length<E.length) with
    | true=>simp only [if_true]; omega
    | false=>simp only [Bool.false_eq_true,if_false,if_true]; omega
 ·have hc:c=false:=h
  subst hc
  clear h
  have hfix:=hk3 rfl
  have hE:endsE d=endN d k:=by
   have:=endN_stop d hfix ((disc d).order.length+1 - k)
   rw [show k+((disc d).order.length+1 - k)=(disc d).order.length+1 by omega] at this
   exact this
  exact ⟨_,_,⟨rfl,rfl⟩,by kernel_rfl,⟨rfl,tv⟩,⟨rfl,rfl⟩,⟨rfl,rfl⟩,⟨rf,rf,rf,rfl,rfl,rfl,tv⟩,⟨rfl,rfl⟩,⟨rfl,rfl⟩,⟨rfl,rf,rfl,tv⟩,⟨rfl,by rw [hE]⟩,tv⟩
end Go.Proofs.Ytfcfbfkjdenpdaa
namespace Go.Proofs.Ytfcfbfkjdenpdaa
open Go.TM
theorem pos_spec (n:Int):PSpec Try.prog 88 [I n] [B (decide (0<n))]:=by
 refine pspec_of tab_ok mixed (calls_snd _) (range_snd _) Try.func88 rfl (by kernel_rfl) rfl ?_
 exact ⟨rf,tv⟩
def idxB {α:Type} (l:List α) (f:α→Bool):Int:=match l.findIdx? f with
 | some i=>i
 | none=>-1
theorem idxB_any {α:Type} (l:List α) (f:α→Bool):decide (0≤idxB l f)=l.any f:=by
 unfold idxB
 cases h:l.findIdx? f with
 | some i =>
  obtain ⟨hi,hf,-⟩:=List.findIdx?_eq_some_iff_getElem.1 h
  rw [List.any_eq_true.2 ⟨l[i],List.getElem_mem hi,hf⟩]
  simp
 | none =>
  rw [List.findIdx?_eq_none_iff] at h
  rw [List.any_eq_false.2 fun x hx=>by simp [h x hx]]
  rfl
set_option maxHeartbeats 4000000 in
theorem idx100_spec (l:List Int) (hl:l.length≤1000000):PSpec Try.prog 100 [Ints l,.fn 88 []] [I (idxB l fun n=>decide (0<n))]:=by
 refine pspec_of tab_ok mixed (calls_snd _) (range_snd _) Try.func100 rfl (by kernel_rfl) rfl ?_
 refine ⟨Nat,fun k=>⟨0,[(0,.dv (Ints l)),(1,.dv (.fn 88 [])),(7,.dv (I l.length)),(8,.dv (I k))],[]⟩,fun k=>k≤l.length∧(l.take k).all (fun n=>!decide (0<n))=true,fun k=>l.length - k,0,fun _=>rfl,⟨⟨rf,rf,le_int (by simp),rf,tv⟩,tv,rfl,rfl⟩,⟨by omega,by simp⟩,?_⟩
 rintro k ⟨hk1,hk2⟩
 refine ⟨fun h=>?_,fun h=>?_⟩
 ·have hk:k<l.length:=by
   have:(k:Int)<l.length:=of_decide_eq_true h
   omega
  clear h
  generalize he':l[k]=e at *
  have he:l[k]?=some e:=by rw [List.getElem?_eq_getElem hk,he']
  refine ⟨I e,fun _=>⟨by omega,by simp [he]⟩,?_⟩
  refine .inl ⟨_,fun _=>(pos_spec e).ok,fun h=>?_,fun h=>?_⟩
  ·have hp:decide (0<e)=true:=h
   exact ⟨le_int (by rw [idxB,findIdx_at he hk2 hp]),tv⟩
  ·have hp:decide (0<e)=false:=h
   exact ⟨fun _=>⟨by omega,by omega⟩,k+1,⟨⟨rf,rf,rf,le_int (by omega),tv⟩,tv,rfl,rfl⟩,⟨by omega,all_take he hk2 hp⟩,by dsimp only; omega⟩
 ·have hk:k=l.length:=by
   have:¬ (k:Int)<l.length:=of_decide_eq_false h
   omega
  subst hk
  rw [List.take_length] at hk2
  exact ⟨le_int (by rw [idxB,findIdx_no hk2]),tv⟩
def prtB (p:Int) (o:Opt):Bool:=o.party == p
theorem prt_spec (o:Opt) (p:Int):CSpec Try.prog 86 [.agg (dvs (eOpt o).cells),.ptr 0 0] 1 [(0,.cells [.dv (I p)])] 0 [.dv (B (prtB p o))] [(0,.cells [.dv (I p)])]:=by
 refine cspec_of tab_ok mixed (calls_snd _) (range_snd _) Try.func86 rfl rfl (by kernel_rfl) ?_
 exact ⟨_,_,⟨rfl,rfl⟩,rfl,⟨rf,tv⟩,⟨rf,tv⟩,tv⟩
set_option maxHeartbeats 4000000 in
theorem idx99_spec (l:List Opt) (hl:l.length≤1000000) (p:Int):CSpec Try.prog 99 [.dv (.sl 3 (l.map eOpt)),.fn 86 [.ptr 0 0]] 1 [(0,.cells [.dv (I p)])] 0 [.dv (I (idxB l (prtB p)))] [(0,.cells [.dv (I p)])]:=by
 refine cspec_of tab_ok mixed (calls_snd _) (range_snd _) Try.func99 rfl rfl (by kernel_rfl) ?_
 refine ⟨Nat,fun k=>⟨1,[(0,.dv (.sl 3 (l.map eOpt))),(1,.fn 86 [.ptr 0 0]),(7,.dv (I l.length)),(8,.dv (I k))],[(0,.cells [.dv (I p)])]⟩,fun k=>k≤l.length∧(l.take k).all (fun o=>!prtB p o)=true,fun k=>l.length - k,0,fun _=>rfl,⟨⟨rf,⟨rfl,rfl,tv⟩,le_int (by simp),rf,tv⟩,⟨⟨rf,tv⟩,tv⟩,rfl,rfl⟩,⟨by omega,by simp⟩,?_⟩
 rintro k ⟨hk1,hk2⟩
 refine ⟨fun h=>?_,fun h=>?_⟩
 ·have hk:k<l.length:=by
   have:(k:Int)<l.length:=of_decide_eq_true h
   omega
  clear h
  generalize he':l[k]=e at *
  have he:l[k]?=some e:=by rw [List.getElem?_eq_getElem hk,he']
  refine ⟨eOpt e,fun _=>⟨by omega,by simp [he]⟩,?_⟩
  refine .inr ⟨[0],[.agg (dvs (eOpt e).cells),.ptr 0 0],[(0,.cells [.dv (I p)])],0,_,_,prt_spec e p,rfl,rfl,⟨⟨rf,rf,rf,tv⟩,rfl,tv⟩,⟨⟨rf,tv⟩,tv⟩,fun h=>?_,fun h=>?_⟩
  ·have hp:prtB p e=true:=h
   exact ⟨_,_,⟨rfl,rfl⟩,rfl,⟨le_int (by rw [idxB,findIdx_at he hk2 hp]),tv⟩,⟨rf,tv⟩,tv⟩
  ·have hp:prtB p e=false:=h
   exact ⟨fun _=>⟨by omega,by omega⟩,k+1,⟨⟨rf,⟨rfl,rfl,tv⟩,rf,le_int (by omega),tv⟩,⟨⟨rf,tv⟩,tv⟩,rfl,rfl⟩,⟨by omega,all_take he hk2 hp⟩,by dsimp only; omega⟩
 ·have hk:k=l.length:=by
   have:¬ (k:Int)<l.length:=of_decide_eq_false h
   omega
  subst hk
  rw [List.take_length] at hk2
  exact ⟨_,_,⟨rfl,rfl⟩,rfl,⟨le_int (by rw [idxB,findIdx_no hk2]),tv⟩,⟨rf,tv⟩,tv⟩
theorem con85_spec (l:List Opt) (hl:l.length≤1000000) (p:Int):CSpec Try.prog 85 [.dv (.sl 3 (l.map eOpt)),.fn 86 [.ptr 0 0]] 1 [(0,.cells [.dv (I p)])] 0 [.dv (B (l.any (prtB p)))] [(0,.cells [.dv (I p)])]:=by
 refine cspec_of tab_ok mixed (calls_snd _) (range_snd _) Try.func85 rfl rfl (by kernel_rfl) ?_
 refine .inr ⟨[0],[.dv (.sl 3 (l.map eOpt)),.fn 86 [.ptr 0 0]],[(0,.cells [.dv (I p)])],0,_,_,idx99_spec l hl p,rfl,rfl,⟨rf,⟨rfl,rfl,tv⟩,tv⟩,⟨⟨rf,tv⟩,tv⟩,?_⟩
 exact ⟨_,_,⟨rfl,rfl⟩,rfl,⟨DV.Le.of_eq (by rw [←idxB_any]),tv⟩,⟨rf,tv⟩,tv⟩
theorem con87_spec (l:List Int) (hl:l.length≤1000000):PSpec Try.prog 87 [Ints l,.fn 88 []] [B (l.any fun n=>decide (0<n))]:=by
 refine pspec_of tab_ok mixed (calls_snd _) (range_snd _) Try.func87 rfl (by kernel_rfl) rfl ?_
 exact .inl ⟨_,fun _=>(idx100_spec l hl).ok,DV.Le.of_eq (by rw [←idxB_any]),tv⟩
def max2 (a b:Int):Int:=if a<b then b else a
structure MmaxI where
 k:Nat
 m:Int
set_option maxHeartbeats 4000000 in
theorem max_spec (x:Int) (l:List Int) (hl:l.length≤1000000):PSpec Try.prog 89 [Ints (x::l)] [I (l.foldl max2 x)]:=by
 refine pspec_of tab_ok mixed (calls_snd _) (range_snd _) Try.func89 rfl (by kernel_rfl) rfl ?_
 refine ⟨fun h=>?_,fun _=>?_⟩
 ·exfalso
  have h:(((x::l).map I).length:Int)<1:=of_decide_eq_true h
  simp at h
  omega
 refine ⟨I x,fun _=>⟨by decide,by simp⟩,?_⟩
 refine ⟨MmaxI,fun z=>⟨0,[(0,.dv (Ints (x::l))),(3,.dv (I z.m)),(4,.dv (I (1+z.k)))],[]⟩,fun z=>z.k≤l.length∧z.m=(l.take z.k).foldl max2 x,fun z=>l.length - z.k,⟨0,x⟩,fun _=>rfl,⟨⟨rf,rf,rf,tv⟩,tv,rfl,rfl⟩,⟨by simp,by simp⟩,?_⟩
 rintro ⟨k,m⟩ ⟨hk1,hk2⟩
 dsimp only at hk1 hk2
 refine ⟨fun h=>?_,fun h=>?_⟩
 ·have hk:k<l.length:=by
   have h:(1+(k:Int))<(((x::l).map I).length:Int):=of_decide_eq_true h
   simp at h; omega
  clear h
  generalize he':l[k]=e at *
  have he:l[k]?=some e:=by rw [List.getElem?_eq_getElem hk,he']
  have hxe:((x::l).map I)[(1+(k:Int)).toNat]?=some (I e):=by
   rw [show (1+(k:Int)).toNat=k+1 by omega]; simp [he]
  refine ⟨I e,fun _=>⟨by dsimp only; omega,hxe⟩,?_⟩
  refine ⟨fun _=>⟨by dsimp only; omega,by dsimp only; omega⟩,⟨k+1,max2 m e⟩,⟨⟨rf,?_,le_int (by simp; omega),tv⟩,tv,rfl,rfl⟩,⟨by dsimp only; omega,?_⟩,by dsimp only; omega⟩
  ·exact le_int rfl
  ·dsimp only
   rw [List.take_add_one,he,List.foldl_append,←hk2]; rfl
 ·have hk:k=l.length:=by
   have h:¬ (1+(k:Int))<(((x::l).map I).length:Int):=of_decide_eq_false h
   simp at h; omega
  subst hk
  rw [List.take_length] at hk2
  exact ⟨le_int hk2,tv⟩
def min2 (a b:Int):Int:=if b<a then b else a
structure MminI where
 k:Nat
 m:Int
set_option maxHeartbeats 4000000 in
theorem min_spec (x:Int) (l:List Int) (hl:l.length≤1000000):PSpec Try.prog 90 [Ints (x::l)] [I (l.foldl min2 x)]:=by
 refine pspec_of tab_ok mixed (calls_snd _) (range_snd _) Try.func90 rfl (by kernel_rfl) rfl ?_
 refine ⟨fun h=>?_,fun _=>?_⟩
 ·exfalso
  have h:(((x::l).map I).length:Int)<1:=of_decide_eq_true h
  simp at h
  omega
 refine ⟨I x,fun _=>⟨by decide,by simp⟩,?_⟩
 refine ⟨MminI,fun z=>⟨0,[(0,.dv (Ints (x::l))),(3,.dv (I z.m)),(4,.dv (I (1+z.k)))],[]⟩,fun z=>z.k≤l.length∧z.m=(l.take z.k).foldl min2 x,fun z=>l.length - z.k,⟨0,x⟩,fun _=>rfl,⟨⟨rf,rf,rf,tv⟩,tv,rfl,rfl⟩,⟨by simp,by simp⟩,?_⟩
 rintro ⟨k,m⟩ ⟨hk1,hk2⟩
 dsimp only at hk1 hk2
 refine ⟨fun h=>?_,fun h=>?_⟩
 ·have hk:k<l.length:=by
   have h:(1+(k:Int))<(((x::l).map I).length:Int):=of_decide_eq_true h
   simp at h; omega
  clear h
  generalize he':l[k]=e at *
  have he:l[k]?=some e:=by rw [List.getElem?_eq_getElem hk,he']
  have hxe:((x::l).map I)[(1+(k:Int)).toNat]?=some (I e):=by
   rw [show (1+(k:Int)).toNat=k+1 by omega]; simp [he]
  refine ⟨I e,fun _=>⟨by dsimp only; omega,hxe⟩,?_⟩
  refine ⟨fun _=>⟨by dsimp only; omega,by dsimp only; omega⟩,⟨k+1,min2 m e⟩,⟨⟨rf,?_,le_int (by simp; omega),tv⟩,tv,rfl,rfl⟩,⟨by dsimp only; omega,?_⟩,by dsimp only; omega⟩
  ·exact le_int rfl
  ·dsimp only
   rw [List.take_add_one,he,List.foldl_append,←hk2]; rfl
 ·have hk:k=l.length:=by
   have h:¬ (1+(k:Int))<(((x::l).map I).length:Int):=of_decide_eq_false h
   simp at h; omega
  subst hk
  rw [List.take_length] at hk2
  exact ⟨le_int hk2,tv⟩
end Go.Proofs.Ytfcfbfkjdenpdaa
