import Derived.Test.YtfcfbfkjdenpdaaK4Q3
set_option linter.unusedVariables false
set_option linter.unusedSimpArgs false
set_option linter.unusedSectionVars false
namespace Go.Proofs.Ytfcfbfkjdenpdaa
open Go.TM
theorem optSteps_mono {d:Dea} {x:Sta} {k:Nat}:∀{m:Nat},k≤m→∀t,t∈optSteps d x k→t∈optSteps d x m:=by
 intro m hm
 induction hm with
 | refl=>intro t h; exact h
 | step _ ih =>
  intro t h
  simp only [optSteps]
  split
  ·split
   ·exact List.mem_append_left _ (ih t h)
   ·exact ih t h
  ·exact ih t h
theorem optSteps_pre {d:Dea} {x:Sta} {k:Nat}:∀{m:Nat},k≤m→∃e,optSteps d x m=optSteps d x k++e:=by
 intro m hm
 induction hm with
 | refl=>exact ⟨[],by simp⟩
 | step _ ih =>
  obtain ⟨e,he⟩:=ih
  simp only [optSteps]
  split
  ·split
   ·exact ⟨e++[_],by rw [he,List.append_assoc]⟩
   ·exact ⟨e,he⟩
  ·exact ⟨e,he⟩
theorem findSome_pre {d:Dea} {x:Sta} {k m:Nat} {F:Stp→Option Fau} {f:Fau} (hk:k<m) (h:(optSteps d x (k+1)).findSome? F=some f):(optSteps d x m).findSome? F=some f:=by
 obtain ⟨e,he⟩:=optSteps_pre (d:=d) (x:=x) (show k+1≤m from hk)
 rw [he,List.findSome?_append,h]; rfl
set_option maxRecDepth 100000 in
set_option maxHeartbeats 4000000 in
theorem sfSteps2_spec (rc:RC) (n:Nat) (d:Dea) (s:Int) (v:List Int) (x:Sta) (h0:0≤s) (hx:d.states[s.toNat]?=some x) (hol:x.opts.length≤1000)
  (hY:∀t,t∈stepsOf d x→∀o,stepF n d v t=o→YSpecR Try.prog [sA t] 11 (aK rc .ready n d s zF) 0 fun r k=>r=[.dv (.bool (abR o))]∧k=aK rc (abS o) n d s (abC o)) (o:Option Fau) (ho:(stepsOf d x).findSome? (stepF n d v)=o) :
  CSpec Try.prog 82 [.yld 0,.ptr 11 0,.ptr 12 0] 13 (aK rc .ready n d s zF++[(11,.cells (dvs (dcells d))),(12,.cells [.dv (I s)])]) 0 [] (aK rc (abS o) n d s (abC o)++[(11,.cells (dvs (dcells d))),(12,.cells [.dv (I s)])]):=by
 refine cspec_of tab_ok mixed (calls_snd _) (range_snd _) Try.func82 rfl rfl (by kernel_rfl) ?_
 refine ⟨eSta x,fun _=>⟨h0,by simp [hx]⟩,fun h=>?_,fun h=>?_⟩
 ·have hf:x.final=true:=h
  have hs:stepsOf d x=[]:=by simp [stepsOf,hf]
  rw [hs] at ho
  have hon:o=none:=by rw [←ho]; rfl
  subst hon
  exact ⟨_,_,⟨rfl,rfl⟩,by kernel_rfl,tv,⟨rfl,rfl,subWs_ok (by kernel_rfl)⟩,⟨rf,tv⟩,⟨rf,rf,rf,rf,tv⟩,⟨rfl,tv⟩,⟨rf,tv⟩,⟨rfl,rf,rfl,tv⟩,⟨rf,rf,rf,rfl,rfl,rfl,tv⟩,⟨rfl,rfl⟩,⟨rfl,rfl⟩,⟨rfl,rfl⟩,⟨rfl,rfl⟩,subWs_dvs _ _ _ (dcells d),⟨rf,tv⟩,tv⟩
 ·have hf:x.final=false:=h
  clear h
  have hso:stepsOf d x=optSteps d x x.opts.length++(if decide (0<x.wait) && okNext d x.late then [⟨-1,-1,x.late,[]⟩] else []):=by simp [stepsOf,hf]
  have hmono:∀k t,t∈optSteps d x k→k≤x.opts.length→t∈stepsOf d x:=fun k t ht hk=>by
   rw [hso]; exact List.mem_append_left _ (optSteps_mono hk t ht)
  refine ⟨Nat,fun k=>⟨14,[(0,.yld 0),(1,.ptr 11 0),(2,.ptr 12 0),(4,.ptr 13 0),(5,.fn 83 [.ptr 11 0]),(17,.dv (.sl 3 (x.opts.map eOpt))),(18,.dv (I x.opts.length)),(19,.dv (I k))],aK rc .ready n d s zF++[(11,.cells (dvs (dcells d))),(12,.cells [.dv (I s)])]++[(13,.cells (dvs (eSta x).cells))]⟩,fun k=>k≤x.opts.length∧(optSteps d x k).findSome? (stepF n d v)=none,fun k=>x.opts.length - k,0,(fun _=>by kernel_rfl),?_,⟨by omega,rfl⟩,?_⟩
  ·exact ⟨⟨rfl,rfl,rfl,rfl,⟨rfl,rfl,tv⟩,rf,le_int (by simp),rf,tv⟩,⟨⟨rfl,rfl,subWs_ok (by kernel_rfl)⟩,⟨rf,tv⟩,⟨rf,rf,rf,rf,tv⟩,⟨rfl,tv⟩,⟨rf,tv⟩,⟨rfl,rf,rfl,tv⟩,⟨rf,rf,rf,rfl,rfl,rfl,tv⟩,⟨rfl,rfl⟩,⟨rfl,rfl⟩,⟨rfl,rfl⟩,⟨rfl,rfl⟩,subWs_dvs _ _ _ (dcells d),⟨rf,tv⟩,subWs_dvs _ _ _ (eSta x).cells,tv⟩,by kernel_rfl,by kernel_rfl⟩
  ·rintro k ⟨hk,hk2⟩
   refine ⟨fun h=>?_,fun h=>?_⟩
   ·have hlt:k<x.opts.length:=by
     have:(k:Int)<x.opts.length:=of_decide_eq_true h
     omega
    clear h
    generalize ho':x.opts[k]=op at *
    have hop:x.opts[k]?=some op:=by rw [List.getElem?_eq_getElem hlt,ho']
    refine ⟨eOpt op,fun _=>⟨by omega,by simp [hop]⟩,?_⟩
    refine .inr ⟨[11],[.dv (I op.next),.ptr 0 0],[(0,.cells (dvs (dcells d)))],0,_,_,exists_spec d op.next,by kernel_rfl,by kernel_rfl,⟨rf,rfl,tv⟩,⟨subWs_dvs _ _ _ (dcells d),tv⟩,?_⟩
    have hos:optSteps d x (k+1)=if okNext d op.next then optSteps d x k++[⟨k,op.party,op.next,op.put⟩] else optSteps d x k:=by simp only [optSteps,hop]
    generalize hok:okNext d op.next=e at hos ⊢
    refine ⟨id,id,id,id,id,id,id,id,id,?_⟩
    cases e
    ·refine .inr ⟨rfl,.dv (B false),?_⟩
     refine ⟨id,(fun _ h=>by cases h),(fun h=>by cases h),fun _=>⟨fun _=>⟨by omega,by omega⟩,k+1,⟨⟨rfl,rfl,rfl,rfl,⟨rfl,rfl,tv⟩,rf,rf,le_int (by simp),tv⟩,⟨⟨rfl,rfl,subWs_ok (by kernel_rfl)⟩,⟨rf,tv⟩,⟨rf,rf,rf,rf,tv⟩,⟨rfl,tv⟩,⟨rf,tv⟩,⟨rfl,rf,rfl,tv⟩,⟨rf,rf,rf,rfl,rfl,rfl,tv⟩,⟨rfl,rfl⟩,⟨rfl,rfl⟩,⟨rfl,rfl⟩,⟨rfl,rfl⟩,subWs_dvs _ _ _ (dcells d),⟨rf,tv⟩,subWs_dvs _ _ _ (eSta x).cells,tv⟩,by kernel_rfl,by kernel_rfl⟩,⟨by omega,?_⟩,by dsimp only; omega⟩⟩
     simp only [hos,Bool.false_eq_true,if_false]
     exact hk2
    ·simp only [if_true] at hos
     have hin:(⟨k,op.party,op.next,op.put⟩:Stp)∈stepsOf d x:=hmono (k+1) _ (by rw [hos]; simp) hlt
     cases hst:stepF n d v ⟨k,op.party,op.next,op.put⟩ with
     | none =>
      have hy:=hY _ hin _ hst
      refine .inl ⟨[0,1,2,3,4,5,6,7,8,9,10],[sA ⟨k,op.party,op.next,op.put⟩],aK rc .ready n d s zF,0,_,_,hy,by kernel_rfl,by kernel_rfl,⟨⟨rf,rf,rf,rf,tv⟩,tv⟩,⟨⟨rfl,rfl,subWs_ok (by kernel_rfl)⟩,⟨rf,tv⟩,⟨rf,rf,rf,rf,tv⟩,⟨rfl,tv⟩,⟨rf,tv⟩,⟨rfl,rf,rfl,tv⟩,⟨rf,rf,rf,rfl,rfl,rfl,tv⟩,⟨rfl,rfl⟩,⟨rfl,rfl⟩,⟨rfl,rfl⟩,⟨rfl,rfl⟩,tv⟩,rfl,fun _=>rfl,fun _ _=>rfl,(fun h=>by cases h),fun _=>?_⟩
      refine ⟨fun _=>⟨by omega,by omega⟩,k+1,⟨⟨rfl,rfl,rfl,rfl,⟨rfl,rfl,tv⟩,rf,rf,le_int (by simp),tv⟩,⟨⟨rfl,rfl,subWs_ok (by kernel_rfl)⟩,⟨rf,tv⟩,⟨rf,rf,rf,rf,tv⟩,⟨rfl,tv⟩,⟨rf,tv⟩,⟨rfl,rf,rfl,tv⟩,⟨rf,rf,rf,rfl,rfl,rfl,tv⟩,⟨rfl,rfl⟩,⟨rfl,rfl⟩,⟨rfl,rfl⟩,⟨rfl,rfl⟩,subWs_dvs _ _ _ (dcells d),⟨rf,tv⟩,subWs_dvs _ _ _ (eSta x).cells,tv⟩,by kernel_rfl,by kernel_rfl⟩,⟨by omega,?_⟩,by dsimp only; omega⟩
      rw [hos,List.findSome?_append,hk2]
      simp [hst]
     | some f =>
      have hy:=hY _ hin _ hst
      have hon:o=some f:=by
       rw [←ho,hso,List.findSome?_append,findSome_pre hlt (show (optSteps d x (k+1)).findSome? (stepF n d v)=some f by rw [hos,List.findSome?_append,hk2]; simp [hst])]; rfl
      subst hon
      refine .inl ⟨[0,1,2,3,4,5,6,7,8,9,10],[sA ⟨k,op.party,op.next,op.put⟩],aK rc .ready n d s zF,0,_,_,hy,by kernel_rfl,by kernel_rfl,⟨⟨rf,rf,rf,rf,tv⟩,tv⟩,⟨⟨rfl,rfl,subWs_ok (by kernel_rfl)⟩,⟨rf,tv⟩,⟨rf,rf,rf,rf,tv⟩,⟨rfl,tv⟩,⟨rf,tv⟩,⟨rfl,rf,rfl,tv⟩,⟨rf,rf,rf,rfl,rfl,rfl,tv⟩,⟨rfl,rfl⟩,⟨rfl,rfl⟩,⟨rfl,rfl⟩,⟨rfl,rfl⟩,tv⟩,rfl,fun _=>rfl,fun _ _=>rfl,fun _=>?_,(fun h=>by cases h)⟩
      exact ⟨_,_,⟨rfl,rfl⟩,by kernel_rfl,tv,⟨rfl,rfl,subWs_ok (by kernel_rfl)⟩,⟨rf,tv⟩,⟨rf,rf,rf,rf,tv⟩,⟨rfl,tv⟩,⟨rf,tv⟩,⟨rfl,rf,rfl,tv⟩,⟨rf,rf,rf,rfl,rfl,rfl,tv⟩,⟨rfl,rfl⟩,⟨rfl,rfl⟩,⟨rfl,rfl⟩,⟨rfl,rfl⟩,subWs_dvs _ _ _ (dcells d),⟨rf,tv⟩,tv⟩
   ·have hke:k=x.opts.length:=by
     have:¬ (k:Int)<x.opts.length:=of_decide_eq_false h
     omega
    clear h
    subst hke
    refine ⟨id,id,id,?_⟩
    by_cases hw:0<x.wait
    ·have hwd:decide (0<x.wait)=true:=decide_eq_true hw
     have hso:stepsOf d x=optSteps d x x.opts.length++(if okNext d x.late then [⟨-1,-1,x.late,[]⟩] else []):=by rw [hso,hwd]; rfl
     refine .inr ⟨[11],[.dv (I x.late),.ptr 0 0],[(0,.cells (dvs (dcells d)))],0,_,_,exists_spec d x.late,by kernel_rfl,by kernel_rfl,⟨rf,rfl,tv⟩,⟨subWs_dvs _ _ _ (dcells d),tv⟩,bw_t hwd,?_⟩
     generalize hok:okNext d x.late=e at hso ⊢
     refine ⟨fun _ _=>rfl,fun h=>?_,fun h=>?_⟩
     ·have he:e=true:=by
       have h:(bif decide (0<x.wait) then e else false)=true:=h
       rw [hwd] at h; exact h
      subst he
      simp only [if_true] at hso
      have hon:stepF n d v ⟨-1,-1,x.late,[]⟩=o:=by
       rw [←ho,hso,List.findSome?_append,hk2]
       simp
      have hy:=hY ⟨-1,-1,x.late,[]⟩ (by rw [hso]; simp) o hon
      cases o with
      | none =>
       refine .inl ⟨[0,1,2,3,4,5,6,7,8,9,10],[sA ⟨-1,-1,x.late,[]⟩],aK rc .ready n d s zF,0,_,_,hy,by kernel_rfl,by kernel_rfl,⟨⟨rf,rf,rf,DV.nils_le 2,tv⟩,tv⟩,⟨⟨rfl,rfl,subWs_ok (by kernel_rfl)⟩,⟨rf,tv⟩,⟨rf,rf,rf,rf,tv⟩,⟨rfl,tv⟩,⟨rf,tv⟩,⟨rfl,rf,rfl,tv⟩,⟨rf,rf,rf,rfl,rfl,rfl,tv⟩,⟨rfl,rfl⟩,⟨rfl,rfl⟩,⟨rfl,rfl⟩,⟨rfl,rfl⟩,tv⟩,?_⟩
       exact ⟨_,_,⟨rfl,rfl⟩,by kernel_rfl,tv,⟨rfl,rfl,subWs_ok (by kernel_rfl)⟩,⟨rf,tv⟩,⟨rf,rf,rf,rf,tv⟩,⟨rfl,tv⟩,⟨rf,tv⟩,⟨rfl,rf,rfl,tv⟩,⟨rf,rf,rf,rfl,rfl,rfl,tv⟩,⟨rfl,rfl⟩,⟨rfl,rfl⟩,⟨rfl,rfl⟩,⟨rfl,rfl⟩,subWs_dvs _ _ _ (dcells d),⟨rf,tv⟩,tv⟩
      | some f =>
       refine .inl ⟨[0,1,2,3,4,5,6,7,8,9,10],[sA ⟨-1,-1,x.late,[]⟩],aK rc .ready n d s zF,0,_,_,hy,by kernel_rfl,by kernel_rfl,⟨⟨rf,rf,rf,DV.nils_le 2,tv⟩,tv⟩,⟨⟨rfl,rfl,subWs_ok (by kernel_rfl)⟩,⟨rf,tv⟩,⟨rf,rf,rf,rf,tv⟩,⟨rfl,tv⟩,⟨rf,tv⟩,⟨rfl,rf,rfl,tv⟩,⟨rf,rf,rf,rfl,rfl,rfl,tv⟩,⟨rfl,rfl⟩,⟨rfl,rfl⟩,⟨rfl,rfl⟩,⟨rfl,rfl⟩,tv⟩,?_⟩
       exact ⟨_,_,⟨rfl,rfl⟩,by kernel_rfl,tv,⟨rfl,rfl,subWs_ok (by kernel_rfl)⟩,⟨rf,tv⟩,⟨rf,rf,rf,rf,tv⟩,⟨rfl,tv⟩,⟨rf,tv⟩,⟨rfl,rf,rfl,tv⟩,⟨rf,rf,rf,rfl,rfl,rfl,tv⟩,⟨rfl,rfl⟩,⟨rfl,rfl⟩,⟨rfl,rfl⟩,⟨rfl,rfl⟩,subWs_dvs _ _ _ (dcells d),⟨rf,tv⟩,tv⟩
     ·have he:e=false:=by
       have h:(bif decide (0<x.wait) then e else false)=false:=h
       rw [hwd] at h; exact h
      subst he
      simp only [Bool.false_eq_true,if_false,List.append_nil] at hso
      have hon:o=none:=by rw [←ho,hso]; exact hk2
      subst hon
      exact ⟨_,_,⟨rfl,rfl⟩,by kernel_rfl,tv,⟨rfl,rfl,subWs_ok (by kernel_rfl)⟩,⟨rf,tv⟩,⟨rf,rf,rf,rf,tv⟩,⟨rfl,tv⟩,⟨rf,tv⟩,⟨rfl,rf,rfl,tv⟩,⟨rf,rf,rf,rfl,rfl,rfl,tv⟩,⟨rfl,rfl⟩,⟨rfl,rfl⟩,⟨rfl,rfl⟩,⟨rfl,rfl⟩,subWs_dvs _ _ _ (dcells d),⟨rf,tv⟩,tv⟩
    ·have hwd:decide (0<x.wait)=false:=decide_eq_false hw
     have hso:stepsOf d x=optSteps d x x.opts.length:=by rw [hso,hwd]; simp
     have hbw:bw (decide (0<x.wait)) true=false:=by rw [hwd]; rfl
     have hon:o=none:=by rw [←ho,hso]; exact hk2
     subst hon
     refine .inl ⟨hbw,[B false],(fun h=>absurd (hbw.symm.trans h) (by decide)),rfl,?_⟩
     refine ⟨fun _ h=>absurd (hwd.symm.trans h) (by decide),(fun h=>?_),fun _=>?_⟩
     ·exfalso
      have h:(bif decide (0<x.wait) then false else false)=true:=h
      rw [hwd] at h; cases h
     ·exact ⟨_,_,⟨rfl,rfl⟩,by kernel_rfl,tv,⟨rfl,rfl,subWs_ok (by kernel_rfl)⟩,⟨rf,tv⟩,⟨rf,rf,rf,rf,tv⟩,⟨rfl,tv⟩,⟨rf,tv⟩,⟨rfl,rf,rfl,tv⟩,⟨rf,rf,rf,rfl,rfl,rfl,tv⟩,⟨rfl,rfl⟩,⟨rfl,rfl⟩,⟨rfl,rfl⟩,⟨rfl,rfl⟩,subWs_dvs _ _ _ (dcells d),⟨rf,tv⟩,tv⟩
end Go.Proofs.Ytfcfbfkjdenpdaa
