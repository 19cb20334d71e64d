import Derived.Test.YtfcfbfkjdenpdaaK3Q9
import Derived.Test.YtfcfbfkjdenpdaaK3Q8
import Derived.Test.YtfcfbfkjdenpdaaK3Q10
import Derived.Test.YtfcfbfkjdenpdaaK3Q4
set_option linter.unusedVariables false
set_option linter.unusedSimpArgs false
set_option linter.unusedSectionVars false
namespace Go.Proofs.Ytfcfbfkjdenpdaa
open Go.TM
def lSl:List AV:=(((((List.replicate 89 .any).set 3 (.ptr 1 0)).set 4 (.ptr 2 0)).set 5 (.ptr 3 0)).set 6 (.ptr 4 0)).set 9 (.ptr 5 0)
def lK (rc:RC) (st:RSt) (n:Nat) (d:Dea) (f p s:Int) (c:List AV):Boxes:=[(0,.rcd rc st lSl),(1,.cells [.ptr 6 0]),(2,.cells [.dv (I f)]),(3,.cells [.dv (I p)]),(4,.cells c),(5,.cells [.dv (I s)]),(6,.cells [.ptr 7 0,.dv (I n),.own 8 0 0 []]),(7,.cells (wC d (.own 9 0 0 []) (.own 10 0 0 []) (.own 11 0 0 []))),(8,.tree 0 0 (.omap intK (conM n d))),(9,.tree 0 0 (eFrom (pD d).from_)),(10,.tree 0 0 (eStps (pD d).steps)),(11,.tree 0 0 (.osl 1 ((keysF (pD d)).map I)))]
set_option maxRecDepth 100000 in
set_option maxHeartbeats 4000000 in
theorem lbody_spec (n:Nat) (d:Dea) (f p s:Int) (v:List Int) (htw:TW (pD d) s v) (hvl:v.length≤32) (t:Stp) (o:Option Fau) (ho:lossF f p v t=o) :
  YSpecR Try.prog [sA t] 12 (lK (rcF Try.f71) .ready n d f p s zF) 0 fun r k=>r=[.dv (.bool (abR o))]∧k=lK (rcF Try.f71) (abS o) n d f p s (abC o):=by
 refine yspecR_of tab_ok mixed rfl (by kernel_rfl) ?_
 repeat first | refine ⟨id,?_⟩ | refine ⟨fun _ h=>bw_f h,?_⟩ | refine ⟨fun _ h=>bw_t h,?_⟩ | refine ⟨fun h=>⟨h,fun h2=>bw_and h h2⟩,?_⟩ | refine ⟨fun h=>⟨h,fun h2=>bw_andf h h2⟩,?_⟩
 refine ⟨fun h=>?_,fun h=>?_⟩
 ·obtain ⟨h1,h2⟩:=bif_t h
  have hc:t.next=f∧t.party ≠ p:=⟨by simpa using h1,by simpa using h2⟩
  have hon:o=some ⟨17,f,p,v++[t.label]⟩:=by rw [←ho,lossF,if_pos hc]
  subst hon
  refine .inr ⟨[9,10,7,11],[.ptr 2 0,.dv (I s)],tK d (pD d) (keysF (pD d)),1,_,_,to2_spec d (pD d) (keysF (pD d)) s v htw (by omega),by kernel_rfl,by kernel_rfl,⟨rfl,rf,tv⟩,⟨⟨rfl,rfl⟩,⟨rfl,rfl⟩,⟨rf,rf,rf,rfl,rfl,rfl,tv⟩,⟨rfl,rfl⟩,tv⟩,?_⟩
  refine .inl ⟨[I t.label],rfl,⟨rf,tv⟩,fun y hy=>(by rcases List.mem_singleton.1 hy with rfl; rfl),.inr ⟨[I t.label],ELes.refl _,(by rw [by22]; simp; omega),(by simp; omega),?_⟩⟩
  refine ⟨by kernel_rfl,?_⟩
  refine ⟨_,_,⟨rfl,rfl⟩,by kernel_rfl,⟨rf,tv⟩,⟨rfl,rfl,subWs_ok (by kernel_rfl)⟩,⟨rfl,tv⟩,⟨rf,tv⟩,⟨rf,tv⟩,⟨rf,rf,rf,DV.Le.of_eq ?_,tv⟩,⟨rf,tv⟩,⟨rfl,rf,rfl,tv⟩,⟨rf,rf,rf,rfl,rfl,rfl,tv⟩,⟨rfl,rfl⟩,⟨rfl,rfl⟩,⟨rfl,rfl⟩,⟨rfl,rfl⟩,tv⟩
  show DV.sl 1 (fzL (v.map I++[I t.label]))=.sl 1 ((v++[t.label]).map I)
  have e:v.map I++[I t.label]=(v++[t.label]).map I:=by simp
  rw [e,fzL_map fun _=>rfl]
 ·have hc:¬ (t.next=f∧t.party ≠ p):=fun hc=>by
   have:=bif_f h
   exact this ⟨by simpa using hc.1,by simpa using hc.2⟩
  have hon:o=none:=by rw [←ho,lossF,if_neg hc]
  subst hon
  exact ⟨_,_,⟨rfl,rfl⟩,by kernel_rfl,⟨rf,tv⟩,⟨rfl,rfl,subWs_ok (by kernel_rfl)⟩,⟨rfl,tv⟩,⟨rf,tv⟩,⟨rf,tv⟩,⟨rf,rf,rf,rf,tv⟩,⟨rf,tv⟩,⟨rfl,rf,rfl,tv⟩,⟨rf,rf,rf,rfl,rfl,rfl,tv⟩,⟨rfl,rfl⟩,⟨rfl,rfl⟩,⟨rfl,rfl⟩,⟨rfl,rfl⟩,tv⟩
set_option maxRecDepth 100000 in
set_option maxHeartbeats 4000000 in
theorem sfSteps4_spec (rc:RC) (n:Nat) (d:Dea) (f p s:Int) (v:List Int) (x:Sta) (h0:0≤s) (hx:d.states[s.toNat]?=some x) (hol:x.opts.length≤1000)
  (hY:∀t,t∈stepsOf d x→∀o,lossF f p v t=o→YSpecR Try.prog [sA t] 12 (lK rc .ready n d f p s zF) 0 fun r k=>r=[.dv (.bool (abR o))]∧k=lK rc (abS o) n d f p s (abC o)) (o:Option Fau) (ho:(stepsOf d x).findSome? (lossF f p v)=o) :
  CSpec Try.prog 82 [.yld 0,.ptr 12 0,.ptr 13 0] 14 (lK rc .ready n d f p s zF++[(12,.cells (dvs (dcells d))),(13,.cells [.dv (I s)])]) 0 [] (lK rc (abS o) n d f p s (abC o)++[(12,.cells (dvs (dcells d))),(13,.cells [.dv (I s)])]):=by
 refine cspec_of tab_ok mixed (calls_snd _) (range_snd _) Try.func82 rfl rfl (by kernel_rfl) ?_
 refine ⟨eSta x,fun _=>⟨h0,by simp [hx]⟩,fun h=>?_,fun h=>?_⟩
 ·have hf:x.final=true:=h
  have hs:stepsOf d x=[]:=by simp [stepsOf,hf]
  rw [hs] at ho
  have hon:o=none:=by rw [←ho]; rfl
  subst hon
  exact ⟨_,_,⟨rfl,rfl⟩,by kernel_rfl,tv,⟨rfl,rfl,subWs_ok (by kernel_rfl)⟩,⟨rfl,tv⟩,⟨rf,tv⟩,⟨rf,tv⟩,⟨rf,rf,rf,rf,tv⟩,⟨rf,tv⟩,⟨rfl,rf,rfl,tv⟩,⟨rf,rf,rf,rfl,rfl,rfl,tv⟩,⟨rfl,rfl⟩,⟨rfl,rfl⟩,⟨rfl,rfl⟩,⟨rfl,rfl⟩,subWs_dvs _ _ _ (dcells d),⟨rf,tv⟩,tv⟩
 ·have hf:x.final=false:=h
  clear h
  have hso:stepsOf d x=optSteps d x x.opts.length++(if decide (0<x.wait) && okNext d x.late then [⟨-1,-1,x.late,[]⟩] else []):=by simp [stepsOf,hf]
  have hmono:∀k t,t∈optSteps d x k→k≤x.opts.length→t∈stepsOf d x:=fun k t ht hk=>by
   rw [hso]; exact List.mem_append_left _ (optSteps_mono hk t ht)
  refine ⟨Nat,fun k=>⟨15,[(0,.yld 0),(1,.ptr 12 0),(2,.ptr 13 0),(4,.ptr 14 0),(5,.fn 83 [.ptr 12 0]),(17,.dv (.sl 3 (x.opts.map eOpt))),(18,.dv (I x.opts.length)),(19,.dv (I k))],lK rc .ready n d f p s zF++[(12,.cells (dvs (dcells d))),(13,.cells [.dv (I s)])]++[(14,.cells (dvs (eSta x).cells))]⟩,fun k=>k≤x.opts.length∧(optSteps d x k).findSome? (lossF f p v)=none,fun k=>x.opts.length - k,0,(fun _=>by kernel_rfl),?_,⟨by omega,rfl⟩,?_⟩
  ·exact ⟨⟨rfl,rfl,rfl,rfl,⟨rfl,rfl,tv⟩,rf,le_int (by simp),rf,tv⟩,⟨⟨rfl,rfl,subWs_ok (by kernel_rfl)⟩,⟨rfl,tv⟩,⟨rf,tv⟩,⟨rf,tv⟩,⟨rf,rf,rf,rf,tv⟩,⟨rf,tv⟩,⟨rfl,rf,rfl,tv⟩,⟨rf,rf,rf,rfl,rfl,rfl,tv⟩,⟨rfl,rfl⟩,⟨rfl,rfl⟩,⟨rfl,rfl⟩,⟨rfl,rfl⟩,subWs_dvs _ _ _ (dcells d),⟨rf,tv⟩,subWs_dvs _ _ _ (eSta x).cells,tv⟩,by kernel_rfl,by kernel_rfl⟩
  ·rintro k ⟨hk,hk2⟩
   refine ⟨fun h=>?_,fun h=>?_⟩
   ·have hlt:k<x.opts.length:=by
     have:(k:Int)<x.opts.length:=of_decide_eq_true h
     omega
    clear h
    generalize ho':x.opts[k]=op at *
    have hop:x.opts[k]?=some op:=by rw [List.getElem?_eq_getElem hlt,ho']
    refine ⟨eOpt op,fun _=>⟨by omega,by simp [hop]⟩,?_⟩
    refine .inr ⟨[12],[.dv (I op.next),.ptr 0 0],[(0,.cells (dvs (dcells d)))],0,_,_,exists_spec d op.next,by kernel_rfl,by kernel_rfl,⟨rf,rfl,tv⟩,⟨subWs_dvs _ _ _ (dcells d),tv⟩,?_⟩
    have hos:optSteps d x (k+1)=if okNext d op.next then optSteps d x k++[⟨k,op.party,op.next,op.put⟩] else optSteps d x k:=by simp only [optSteps,hop]
    generalize hok:okNext d op.next=e at hos ⊢
    refine ⟨id,id,id,id,id,id,id,id,id,?_⟩
    cases e
    ·refine .inr ⟨rfl,.dv (B false),?_⟩
     refine ⟨id,(fun _ h=>by cases h),(fun h=>by cases h),fun _=>⟨fun _=>⟨by omega,by omega⟩,k+1,⟨⟨rfl,rfl,rfl,rfl,⟨rfl,rfl,tv⟩,rf,rf,le_int (by simp),tv⟩,⟨⟨rfl,rfl,subWs_ok (by kernel_rfl)⟩,⟨rfl,tv⟩,⟨rf,tv⟩,⟨rf,tv⟩,⟨rf,rf,rf,rf,tv⟩,⟨rf,tv⟩,⟨rfl,rf,rfl,tv⟩,⟨rf,rf,rf,rfl,rfl,rfl,tv⟩,⟨rfl,rfl⟩,⟨rfl,rfl⟩,⟨rfl,rfl⟩,⟨rfl,rfl⟩,subWs_dvs _ _ _ (dcells d),⟨rf,tv⟩,subWs_dvs _ _ _ (eSta x).cells,tv⟩,by kernel_rfl,by kernel_rfl⟩,⟨by omega,?_⟩,by dsimp only; omega⟩⟩
     simp only [hos,Bool.false_eq_true,if_false]
     exact hk2
    ·simp only [if_true] at hos
     have hin:(⟨k,op.party,op.next,op.put⟩:Stp)∈stepsOf d x:=hmono (k+1) _ (by rw [hos]; simp) hlt
     cases hst:lossF f p v ⟨k,op.party,op.next,op.put⟩ with
     | none =>
      have hy:=hY _ hin _ hst
      refine .inl ⟨[0,1,2,3,4,5,6,7,8,9,10,11],[sA ⟨k,op.party,op.next,op.put⟩],lK rc .ready n d f p s zF,0,_,_,hy,by kernel_rfl,by kernel_rfl,⟨⟨rf,rf,rf,rf,tv⟩,tv⟩,⟨⟨rfl,rfl,subWs_ok (by kernel_rfl)⟩,⟨rfl,tv⟩,⟨rf,tv⟩,⟨rf,tv⟩,⟨rf,rf,rf,rf,tv⟩,⟨rf,tv⟩,⟨rfl,rf,rfl,tv⟩,⟨rf,rf,rf,rfl,rfl,rfl,tv⟩,⟨rfl,rfl⟩,⟨rfl,rfl⟩,⟨rfl,rfl⟩,⟨rfl,rfl⟩,tv⟩,rfl,fun _=>rfl,fun _ _=>rfl,(fun h=>by cases h),fun _=>?_⟩
      refine ⟨fun _=>⟨by omega,by omega⟩,k+1,⟨⟨rfl,rfl,rfl,rfl,⟨rfl,rfl,tv⟩,rf,rf,le_int (by simp),tv⟩,⟨⟨rfl,rfl,subWs_ok (by kernel_rfl)⟩,⟨rfl,tv⟩,⟨rf,tv⟩,⟨rf,tv⟩,⟨rf,rf,rf,rf,tv⟩,⟨rf,tv⟩,⟨rfl,rf,rfl,tv⟩,⟨rf,rf,rf,rfl,rfl,rfl,tv⟩,⟨rfl,rfl⟩,⟨rfl,rfl⟩,⟨rfl,rfl⟩,⟨rfl,rfl⟩,subWs_dvs _ _ _ (dcells d),⟨rf,tv⟩,subWs_dvs _ _ _ (eSta x).cells,tv⟩,by kernel_rfl,by kernel_rfl⟩,⟨by omega,?_⟩,by dsimp only; omega⟩
      rw [hos,List.findSome?_append,hk2]
      simp [hst]
     | some fa =>
      have hy:=hY _ hin _ hst
      have hon:o=some fa:=by
       rw [←ho,hso,List.findSome?_append,findSome_pre hlt (show (optSteps d x (k+1)).findSome? (lossF f p v)=some fa by rw [hos,List.findSome?_append,hk2]; simp [hst])]; rfl
      subst hon
      refine .inl ⟨[0,1,2,3,4,5,6,7,8,9,10,11],[sA ⟨k,op.party,op.next,op.put⟩],lK rc .ready n d f p s zF,0,_,_,hy,by kernel_rfl,by kernel_rfl,⟨⟨rf,rf,rf,rf,tv⟩,tv⟩,⟨⟨rfl,rfl,subWs_ok (by kernel_rfl)⟩,⟨rfl,tv⟩,⟨rf,tv⟩,⟨rf,tv⟩,⟨rf,rf,rf,rf,tv⟩,⟨rf,tv⟩,⟨rfl,rf,rfl,tv⟩,⟨rf,rf,rf,rfl,rfl,rfl,tv⟩,⟨rfl,rfl⟩,⟨rfl,rfl⟩,⟨rfl,rfl⟩,⟨rfl,rfl⟩,tv⟩,rfl,fun _=>rfl,fun _ _=>rfl,fun _=>?_,(fun h=>by cases h)⟩
      exact ⟨_,_,⟨rfl,rfl⟩,by kernel_rfl,tv,⟨rfl,rfl,subWs_ok (by kernel_rfl)⟩,⟨rfl,tv⟩,⟨rf,tv⟩,⟨rf,tv⟩,⟨rf,rf,rf,rf,tv⟩,⟨rf,tv⟩,⟨rfl,rf,rfl,tv⟩,⟨rf,rf,rf,rfl,rfl,rfl,tv⟩,⟨rfl,rfl⟩,⟨rfl,rfl⟩,⟨rfl,rfl⟩,⟨rfl,rfl⟩,subWs_dvs _ _ _ (dcells d),⟨rf,tv⟩,tv⟩
   ·have hke:k=x.opts.length:=by
     have:¬ (k:Int)<x.opts.length:=of_decide_eq_false h
     omega
    clear h
    subst hke
    refine ⟨id,id,id,?_⟩
    by_cases hw:0<x.wait
    ·have hwd:decide (0<x.wait)=true:=decide_eq_true hw
     have hso:stepsOf d x=optSteps d x x.opts.length++(if okNext d x.late then [⟨-1,-1,x.late,[]⟩] else []):=by rw [hso,hwd]; rfl
     refine .inr ⟨[12],[.dv (I x.late),.ptr 0 0],[(0,.cells (dvs (dcells d)))],0,_,_,exists_spec d x.late,by kernel_rfl,by kernel_rfl,⟨rf,rfl,tv⟩,⟨subWs_dvs _ _ _ (dcells d),tv⟩,bw_t hwd,?_⟩
     generalize hok:okNext d x.late=e at hso ⊢
     refine ⟨fun _ _=>rfl,fun h=>?_,fun h=>?_⟩
     ·have he:e=true:=by
       have h:(bif decide (0<x.wait) then e else false)=true:=h
       rw [hwd] at h; exact h
      subst he
      simp only [if_true] at hso
      have hon:lossF f p v ⟨-1,-1,x.late,[]⟩=o:=by
       rw [←ho,hso,List.findSome?_append,hk2]
       simp
      have hy:=hY ⟨-1,-1,x.late,[]⟩ (by rw [hso]; simp) o hon
      cases o with
      | none =>
       refine .inl ⟨[0,1,2,3,4,5,6,7,8,9,10,11],[sA ⟨-1,-1,x.late,[]⟩],lK rc .ready n d f p s zF,0,_,_,hy,by kernel_rfl,by kernel_rfl,⟨⟨rf,rf,rf,DV.nils_le 2,tv⟩,tv⟩,⟨⟨rfl,rfl,subWs_ok (by kernel_rfl)⟩,⟨rfl,tv⟩,⟨rf,tv⟩,⟨rf,tv⟩,⟨rf,rf,rf,rf,tv⟩,⟨rf,tv⟩,⟨rfl,rf,rfl,tv⟩,⟨rf,rf,rf,rfl,rfl,rfl,tv⟩,⟨rfl,rfl⟩,⟨rfl,rfl⟩,⟨rfl,rfl⟩,⟨rfl,rfl⟩,tv⟩,?_⟩
       exact ⟨_,_,⟨rfl,rfl⟩,by kernel_rfl,tv,⟨rfl,rfl,subWs_ok (by kernel_rfl)⟩,⟨rfl,tv⟩,⟨rf,tv⟩,⟨rf,tv⟩,⟨rf,rf,rf,rf,tv⟩,⟨rf,tv⟩,⟨rfl,rf,rfl,tv⟩,⟨rf,rf,rf,rfl,rfl,rfl,tv⟩,⟨rfl,rfl⟩,⟨rfl,rfl⟩,⟨rfl,rfl⟩,⟨rfl,rfl⟩,subWs_dvs _ _ _ (dcells d),⟨rf,tv⟩,tv⟩
      | some fa =>
       refine .inl ⟨[0,1,2,3,4,5,6,7,8,9,10,11],[sA ⟨-1,-1,x.late,[]⟩],lK rc .ready n d f p s zF,0,_,_,hy,by kernel_rfl,by kernel_rfl,⟨⟨rf,rf,rf,DV.nils_le 2,tv⟩,tv⟩,⟨⟨rfl,rfl,subWs_ok (by kernel_rfl)⟩,⟨rfl,tv⟩,⟨rf,tv⟩,⟨rf,tv⟩,⟨rf,rf,rf,rf,tv⟩,⟨rf,tv⟩,⟨rfl,rf,rfl,tv⟩,⟨rf,rf,rf,rfl,rfl,rfl,tv⟩,⟨rfl,rfl⟩,⟨rfl,rfl⟩,⟨rfl,rfl⟩,⟨rfl,rfl⟩,tv⟩,?_⟩
       exact ⟨_,_,⟨rfl,rfl⟩,by kernel_rfl,tv,⟨rfl,rfl,subWs_ok (by kernel_rfl)⟩,⟨rfl,tv⟩,⟨rf,tv⟩,⟨rf,tv⟩,⟨rf,rf,rf,rf,tv⟩,⟨rf,tv⟩,⟨rfl,rf,rfl,tv⟩,⟨rf,rf,rf,rfl,rfl,rfl,tv⟩,⟨rfl,rfl⟩,⟨rfl,rfl⟩,⟨rfl,rfl⟩,⟨rfl,rfl⟩,subWs_dvs _ _ _ (dcells d),⟨rf,tv⟩,tv⟩
     ·have he:e=false:=by
       have h:(bif decide (0<x.wait) then e else false)=false:=h
       rw [hwd] at h; exact h
      subst he
      simp only [Bool.false_eq_true,if_false,List.append_nil] at hso
      have hon:o=none:=by rw [←ho,hso]; exact hk2
      subst hon
      exact ⟨_,_,⟨rfl,rfl⟩,by kernel_rfl,tv,⟨rfl,rfl,subWs_ok (by kernel_rfl)⟩,⟨rfl,tv⟩,⟨rf,tv⟩,⟨rf,tv⟩,⟨rf,rf,rf,rf,tv⟩,⟨rf,tv⟩,⟨rfl,rf,rfl,tv⟩,⟨rf,rf,rf,rfl,rfl,rfl,tv⟩,⟨rfl,rfl⟩,⟨rfl,rfl⟩,⟨rfl,rfl⟩,⟨rfl,rfl⟩,subWs_dvs _ _ _ (dcells d),⟨rf,tv⟩,tv⟩
    ·have hwd:decide (0<x.wait)=false:=decide_eq_false hw
     have hso:stepsOf d x=optSteps d x x.opts.length:=by rw [hso,hwd]; simp
     have hbw:bw (decide (0<x.wait)) true=false:=by rw [hwd]; rfl
     have hon:o=none:=by rw [←ho,hso]; exact hk2
     subst hon
     refine .inl ⟨hbw,[B false],(fun h=>absurd (hbw.symm.trans h) (by decide)),rfl,?_⟩
     refine ⟨fun _ h=>absurd (hwd.symm.trans h) (by decide),(fun h=>?_),fun _=>?_⟩
     ·exfalso
      have h:(bif decide (0<x.wait) then false else false)=true:=h
      rw [hwd] at h; cases h
     ·exact ⟨_,_,⟨rfl,rfl⟩,by kernel_rfl,tv,⟨rfl,rfl,subWs_ok (by kernel_rfl)⟩,⟨rfl,tv⟩,⟨rf,tv⟩,⟨rf,tv⟩,⟨rf,rf,rf,rf,tv⟩,⟨rf,tv⟩,⟨rfl,rf,rfl,tv⟩,⟨rf,rf,rf,rfl,rfl,rfl,tv⟩,⟨rfl,rfl⟩,⟨rfl,rfl⟩,⟨rfl,rfl⟩,⟨rfl,rfl⟩,subWs_dvs _ _ _ (dcells d),⟨rf,tv⟩,tv⟩
end Go.Proofs.Ytfcfbfkjdenpdaa
namespace Go.Proofs.Ytfcfbfkjdenpdaa
open Go.TM
theorem lost_law (out l:List Int) (y:Int) (h:out++[0]=y::l):lostR out=!((decide (0<l.foldl max2 y)) || (l.foldl min2 y == 0)):=by
 have hmax:∀(l:List Int) (y:Int),decide (0<l.foldl max2 y)=(y::l).any (fun e=>decide (0<e)):=by
  intro l
  induction l with
  | nil=>intro y; simp only [List.foldl_nil,List.any_cons,List.any_nil,Bool.or_false]; try exact decide_eq_decide.2 Iff.rfl
  | cons a l ih =>
   intro y
   rw [List.foldl_cons,ih]
   simp only [List.any_cons]
   have:decide (0<max2 y a)=(decide (0<y) || decide (0<a)):=by
    unfold max2
    by_cases h1:y<a <;> simp only [h1,if_true,if_false] <;> by_cases h2:0<y <;> by_cases h3:0<a <;> simp [h2,h3] <;> omega
   rw [this,Bool.or_assoc]
 have hmin:∀(l:List Int) (y:Int),decide (l.foldl min2 y<0)=(y::l).any (fun e=>decide (e<0)):=by
  intro l
  induction l with
  | nil=>intro y; simp only [List.foldl_nil,List.any_cons,List.any_nil,Bool.or_false]; try exact decide_eq_decide.2 Iff.rfl
  | cons a l ih =>
   intro y
   rw [List.foldl_cons,ih]
   simp only [List.any_cons]
   have:decide (min2 y a<0)=(decide (y<0) || decide (a<0)):=by
    unfold min2
    by_cases h1:a<y <;> simp only [h1,if_true,if_false] <;> by_cases h2:y<0 <;> by_cases h3:a<0 <;> simp [h2,h3] <;> omega
   rw [this,Bool.or_assoc]
 have hle:∀(l:List Int) (y:Int),0∈y::l→l.foldl min2 y≤0:=by
  intro l
  induction l with
  | nil=>intro y h; simp at h; simp [h]
  | cons a l ih =>
   intro y h
   rw [List.foldl_cons]
   by_cases h0:min2 y a≤0
   ·have hmono:∀(l:List Int) (z:Int),l.foldl min2 z≤z:=by
     intro l
     induction l with
     | nil=>intro z; simp
     | cons b l ih2 =>
      intro z
      rw [List.foldl_cons]
      have h1:=ih2 (min2 z b)
      have h2:min2 z b≤z:=by unfold min2; split <;> omega
      omega
    have:=hmono l (min2 y a)
    omega
   ·refine ih _ ?_
    rcases List.mem_cons.1 h with h | h
    ·exfalso; apply h0; unfold min2; split <;> omega
    ·rcases List.mem_cons.1 h with h | h
     ·exfalso; apply h0; unfold min2; split <;> omega
     ·exact List.mem_cons_of_mem _ h
 have h0:(0:Int)∈y::l:=by rw [←h]; simp
 have hm:=hle l y h0
 have h1:=hmax l y
 have h2:=hmin l y
 rw [←h] at h1 h2
 rw [List.any_append] at h1 h2
 have e1:([0]:List Int).any (fun e=>decide (0<e))=false:=rfl
 have e2:([0]:List Int).any (fun e=>decide (e<0))=false:=rfl
 rw [e1,Bool.or_false] at h1
 rw [e2,Bool.or_false] at h2
 have h3:(l.foldl min2 y == 0)=!decide (l.foldl min2 y<0):=by
  by_cases hz:l.foldl min2 y=0
  ·simp [hz]
  ·have:l.foldl min2 y<0:=by omega
   simp [hz,this]
 unfold lostR
 rw [h3,h2,h1]
 have h4:out.all (fun e=>!decide (0<e))=!out.any (fun e=>decide (0<e)):=by rw [not_all]; simp
 rw [h4]
 simp
set_option maxRecDepth 100000 in
set_option maxHeartbeats 4000000 in
theorem sloss_spec (n:Nat) (d:Dea) (hs:Parts d) (hwf:WF n d) (i0:Nat) (s:Int) (v:List Int) (hso:(disc d).order[i0]?=some s) (hvo:(disc d).ways[i0]?=some v) (x:Sta) (hx:d.states[s.toNat]?=some x) (p:Nat) (hpl:p<d.parties.length) (o:Option Fau) (ho:lossA n d x v s p=o) :
  CSpec Try.prog 71 [.ptr 5 0,.dv (I s),.dv (I p)] 6 (qK n d (conM n d)) 0 [.agg (abC o)] (qK n d (conM n d)):=by
 refine cspec_of tab_ok mixed (calls_snd _) (range_snd _) Try.func71 rfl rfl (by kernel_rfl) ?_
 have hb:=disc_ok d
 have hrg:=hb.rng s (List.mem_of_getElem? hso)
 have hgl:=hs.gi x (List.mem_of_getElem? hx)
 refine ⟨eSta x,fun _=>⟨hrg.1,by simp [hx]⟩,by kernel_rfl,fun h=>?_,fun h=>?_⟩
 ·have hf:x.final=false:=by simpa using h
  have hon:o=none:=by rw [←ho,lossA,hf]; rfl
  subst hon
  exact ⟨_,_,⟨rfl,rfl⟩,by kernel_rfl,⟨⟨rf,rf,rf,rf,tv⟩,tv⟩,⟨rfl,rfl⟩,⟨rfl,rfl⟩,⟨rf,rf,rf,rfl,rfl,rfl,tv⟩,⟨rfl,rfl⟩,⟨rfl,rfl⟩,⟨rfl,rf,rfl,tv⟩,tv⟩
 have hf:x.final=true:=by simpa using h
 clear h
 have hoc:=outc_spec n d hwf i0 s v hso hvo x hx hgl p hpl
 have hla:lossA n d x v s p=if lostR (outR (folM n d v) x p) then lossR d s p else none:=by rw [lossA,hf]; rfl
 rw [hla] at ho
 have hvl:=way_len (wayOf_at d hso hvo)
 have hsl:=hwf.sl
 have hn64:=hwf.n64
 have hout:=outR_len (rect_folM hwf.opt (leads_disc d i0 _ v hso hvo) (by omega)) x p
 generalize outR (folM n d v) x p=out at *
 refine .inr ⟨[0,1,2,3,4,5],[.ptr 5 0,.dv (I s),.dv (I p)],qK n d (conM n d),1,_,_,hoc,by kernel_rfl,by kernel_rfl,⟨rfl,rf,rf,tv⟩,⟨⟨rfl,rfl⟩,⟨rfl,rfl⟩,⟨rf,rf,rf,rfl,rfl,rfl,tv⟩,⟨rfl,rfl⟩,⟨rfl,rfl⟩,⟨rfl,rf,rfl,tv⟩,tv⟩,?_⟩
 obtain ⟨y,l,hyl⟩:∃y l,out++[0]=y::l:=by cases out with
  | nil=>exact ⟨_,_,rfl⟩
  | cons a b=>exact ⟨_,_,rfl⟩
 have hll:l.length≤1000:=by
  have:=congrArg List.length hyl
  simp at this; omega
 have hlaw:=lost_law out l y hyl
 rw [hlaw] at ho
 have hap:out.map I++[I 0]=(y::l).map I:=by rw [←hyl]; simp
 have hok1:CallOk Try.prog 89 [fzD (.osl 1 (out.map I++[I 0]))] [I (l.foldl max2 y)]:=by
  have e:fzD (.osl 1 (out.map I++[I 0]))=Ints (y::l):=by show DV.sl 1 (fzL (out.map I++[I 0]))=_; rw [hap,fzL_map fun _=>rfl]
  rw [e]; exact (max_spec y l (by omega)).ok
 have hok2:CallOk Try.prog 90 [fzD (.osl 1 (out.map I++[I 0]))] [I (l.foldl min2 y)]:=by
  have e:fzD (.osl 1 (out.map I++[I 0]))=Ints (y::l):=by show DV.sl 1 (fzL (out.map I++[I 0]))=_; rw [hap,fzL_map fun _=>rfl]
  rw [e]; exact (min_spec y l (by omega)).ok
 generalize l.foldl max2 y=mx at *
 generalize l.foldl min2 y=mn at *
 have hcl0:∀y,y∈[I 0]→y.closedCells:=fun y hy=>by rcases List.mem_singleton.1 hy with rfl; exact closed_int 0
 refine .inl ⟨[I 0],rfl,⟨rf,tv⟩,fun y hy=>(by rcases List.mem_singleton.1 hy with rfl; rfl),.inl ⟨closed_ints out,[I 0],ELes.refl _,hcl0,by simp,by rw [by22]; simp; omega,by simp; omega,?_⟩⟩
 refine .inl (.inl ⟨_,fun _=>hok1,rfl,?_⟩)
 by_cases hmx:0<mx
 ·have hgd:bw (decide (0<mx)) false=false:=by simp [bw,hmx]
  have hon:o=none:=by rw [←ho]; simp [hmx]
  subst hon
  refine .inr (.inl ⟨hgd,.inr (.inl ⟨hgd,id,.inl ⟨hgd,[I 0],(fun h=>absurd (hgd.symm.trans h) (by decide)),rfl,?_⟩⟩)⟩)
  refine ⟨id,fun _ h=>bw_f h,fun _=>?_,fun h=>?_⟩
  ·exact ⟨_,_,⟨rfl,rfl⟩,by kernel_rfl,⟨⟨rf,rf,rf,rf,tv⟩,tv⟩,⟨rfl,rfl⟩,⟨rfl,rfl⟩,⟨rf,rf,rf,rfl,rfl,rfl,tv⟩,⟨rfl,rfl⟩,⟨rfl,rfl⟩,⟨rfl,rf,rfl,tv⟩,tv⟩
  ·exfalso
   have h:(bif decide (0<mx) then true else ((0:Int) == 0))=false:=h
   simp [hmx] at h
 ·have hgd:bw (decide (0<mx)) false=true:=by simp [bw,hmx]
  refine .inl (.inl ⟨[I 0],rfl,⟨rf,tv⟩,fun y hy=>(by rcases List.mem_singleton.1 hy with rfl; rfl),hgd,?_⟩)
  refine .inr (.inr ⟨hgd,fun _=>hgd,fun _=>rfl,.inl ⟨closed_ints out,[I 0],ELes.refl _,hcl0,by simp,by rw [by22]; simp; omega,by simp; omega,?_⟩⟩)
  refine .inl (.inl ⟨_,fun _=>hok2,rfl,id,fun _ h=>bw_f h,fun h=>?_,fun h=>?_⟩)
  ·have hmn:(mn == 0)=true:=by
    have h:(bif decide (0<mx) then true else (mn == 0))=true:=h
    rw [decide_eq_false hmx] at h; exact h
   have hon:o=none:=by rw [←ho,hmn]; simp
   subst hon
   exact ⟨_,_,⟨rfl,rfl⟩,by kernel_rfl,⟨⟨rf,rf,rf,rf,tv⟩,tv⟩,⟨rfl,rfl⟩,⟨rfl,rfl⟩,⟨rf,rf,rf,rfl,rfl,rfl,tv⟩,⟨rfl,rfl⟩,⟨rfl,rfl⟩,⟨rfl,rf,rfl,tv⟩,tv⟩
  have hmn:(mn == 0)=false:=by
   have h:(bif decide (0<mx) then true else (mn == 0))=false:=h
   rw [decide_eq_false hmx] at h; exact h
  clear h
  have hol:lossR d s p=o:=by rw [←ho,hmn,decide_eq_false hmx]; rfl
  have hole:=hb.le
  have hln:=hb.len
  have hw:=wok_disc d hwf.ne
  have hkl:(keysF (pD d)).length=(disc d).order.length:=by rw [hw.keys]
  have hzl:((disc d).order.zip (disc d).ways).length=(disc d).order.length:=by simp [hln]
  refine ⟨Nat,fun i=>⟨10,[(3,.ptr 6 0),(4,.ptr 7 0),(5,.ptr 8 0),(6,.ptr 9 0),(48,.own 3 0 0 []),(49,.dv (I (disc d).order.length)),(50,.dv (I i))],qK n d (conM n d)++[(6,Box.cells [AV.ptr 5 0]),(7,Box.cells [AV.dv (I s)]),(8,Box.cells [AV.dv (I p)]),(9,Box.cells zF)]⟩,fun i=>i≤(disc d).order.length∧(((disc d).order.zip (disc d).ways).take i).findSome? (lossS d s p)=none,fun i=>(disc d).order.length - i,0,(fun _=>by kernel_rfl),?_,⟨by omega,by simp⟩,?_⟩
  ·exact ⟨⟨rfl,rfl,rfl,rfl,rfl,le_int (by simp [hkl]),rf,tv⟩,⟨⟨rfl,rfl⟩,⟨rfl,rfl⟩,⟨rf,rf,rf,rfl,rfl,rfl,tv⟩,⟨rfl,rfl⟩,⟨rfl,rfl⟩,⟨rfl,rf,rfl,tv⟩,⟨rfl,tv⟩,⟨rf,tv⟩,⟨rf,tv⟩,⟨rf,rf,rf,rf,tv⟩,tv⟩,by kernel_rfl,by kernel_rfl⟩
  rintro i ⟨hi1,hi2⟩
  refine ⟨fun h=>?_,fun h=>?_⟩
  ·have hi:i<(disc d).order.length:=by
    have:(i:Int)<(disc d).order.length:=of_decide_eq_true h
    omega
   clear h
   generalize hs':(disc d).order[i]=q at *
   have hqo:(disc d).order[i]?=some q:=by rw [List.getElem?_eq_getElem hi,hs']
   generalize hu':(disc d).ways[i]'(by omega)=u at *
   have huo:(disc d).ways[i]?=some u:=by rw [List.getElem?_eq_getElem (by omega),hu']
   have hko:(keysF (pD d))[i]?=some q:=by rw [hw.keys]; exact hqo
   have hrq:=hb.rng _ (List.mem_of_getElem? hqo)
   have hcl:q.toNat<d.states.length:=by omega
   obtain ⟨z,hz⟩:∃z,d.states[q.toNat]?=some z:=⟨_,List.getElem?_eq_getElem hcl⟩
   have hopl:=hs.op z (List.mem_of_getElem? hz)
   have hul:=way_len (wayOf_at d hqo huo)
   have htw:=hw.tw i q u hqo huo
   have hls:lossS d s p (q,u)=(stepsOf d z).findSome? (lossF s p u):=by simp [lossS,hz]
   have h82:=sfSteps4_spec (rcF Try.f71) n d s p q u z hrq.1 hz hopl (fun t _ o ho=>lbody_spec n d s p q u htw (by omega) t o ho) _ rfl
   rw [←hls] at h82
   refine ⟨fun _=>⟨by omega,by simp; omega⟩,I q,fun _=>by simp [hko],?_⟩
   refine .inr ⟨[],[.agg (dvs (dcells d)),.dv (I q)],[],2,_,_,sfSteps_spec d q,rfl,rfl,⟨⟨rf,rf,rf,tv⟩,rf,tv⟩,tv,by kernel_rfl,?_⟩
   refine ⟨rcF Try.f71,by kernel_rfl,?_⟩
   cases hst:lossS d s p (q,u) with
   | none =>
    rw [hst] at h82
    refine ⟨[13,6,7,8,9,10,5,2,4,0,1,3,11,12],[.yld 0,.ptr 12 0,.ptr 13 0],lK (rcF Try.f71) .ready n d s p q zF++[(12,Box.cells (dvs (dcells d))),(13,Box.cells [AV.dv (I q)])],0,_,h82,by kernel_rfl,⟨rfl,rfl,rfl,tv⟩,?_,?_⟩
    ·exact ⟨⟨rfl,rfl,subWs_sOk (by kernel_rfl)⟩,⟨rfl,tv⟩,⟨rf,tv⟩,⟨rf,tv⟩,⟨rf,rf,rf,rf,tv⟩,⟨rf,tv⟩,⟨rfl,rf,rfl,tv⟩,⟨rf,rf,rf,rfl,rfl,rfl,tv⟩,⟨rfl,rfl⟩,⟨rfl,rfl⟩,⟨rfl,rfl⟩,⟨rfl,rfl⟩,subWs_dvs _ _ _ (dcells d),⟨rf,tv⟩,tv⟩
    rintro rs K2 ⟨rfl,rfl⟩
    refine ⟨by kernel_rfl,?_⟩
    conv=>whnf
    exact ⟨fun _=>⟨by omega,by omega⟩,i+1,⟨⟨rfl,rfl,rfl,rfl,rfl,rf,le_int (by omega),tv⟩,⟨⟨rfl,rfl⟩,⟨rfl,rfl⟩,⟨rf,rf,rf,rfl,rfl,rfl,tv⟩,⟨rfl,rfl⟩,⟨rfl,rfl⟩,⟨rfl,rf,rfl,tv⟩,⟨rfl,tv⟩,⟨rf,tv⟩,⟨rf,tv⟩,⟨rf,rf,rf,rf,tv⟩,tv⟩,by kernel_rfl,by kernel_rfl⟩,⟨by omega,findSome_take (zip_at hqo huo) hi2 hst⟩,by dsimp only; omega⟩
   | some fa =>
    rw [hst] at h82
    have hon:o=some fa:=by rw [←hol]; exact findSome_at (zip_at hqo huo) hi2 hst
    subst hon
    refine ⟨[13,6,7,8,9,10,5,2,4,0,1,3,11,12],[.yld 0,.ptr 12 0,.ptr 13 0],lK (rcF Try.f71) .ready n d s p q zF++[(12,Box.cells (dvs (dcells d))),(13,Box.cells [AV.dv (I q)])],0,_,h82,by kernel_rfl,⟨rfl,rfl,rfl,tv⟩,?_,?_⟩
    ·exact ⟨⟨rfl,rfl,subWs_sOk (by kernel_rfl)⟩,⟨rfl,tv⟩,⟨rf,tv⟩,⟨rf,tv⟩,⟨rf,rf,rf,rf,tv⟩,⟨rf,tv⟩,⟨rfl,rf,rfl,tv⟩,⟨rf,rf,rf,rfl,rfl,rfl,tv⟩,⟨rfl,rfl⟩,⟨rfl,rfl⟩,⟨rfl,rfl⟩,⟨rfl,rfl⟩,subWs_dvs _ _ _ (dcells d),⟨rf,tv⟩,tv⟩
    rintro rs K2 ⟨rfl,rfl⟩
    refine ⟨by kernel_rfl,?_⟩
    conv=>whnf
    exact ⟨_,_,⟨rfl,rfl⟩,by kernel_rfl,⟨⟨rf,rf,rf,rf,tv⟩,tv⟩,⟨rfl,rfl⟩,⟨rfl,rfl⟩,⟨rf,rf,rf,rfl,rfl,rfl,tv⟩,⟨rfl,rfl⟩,⟨rfl,rfl⟩,⟨rfl,rf,rfl,tv⟩,tv⟩
  ·have hi:i=(disc d).order.length:=by
    have:¬ (i:Int)<(disc d).order.length:=of_decide_eq_false h
    omega
   clear h
   subst hi
   rw [List.take_of_length_le (by omega)] at hi2
   have hon:o=none:=by rw [←hol]; exact hi2
   subst hon
   exact ⟨_,_,⟨rfl,rfl⟩,by kernel_rfl,⟨⟨rf,rf,rf,rf,tv⟩,tv⟩,⟨rfl,rfl⟩,⟨rfl,rfl⟩,⟨rf,rf,rf,rfl,rfl,rfl,tv⟩,⟨rfl,rfl⟩,⟨rfl,rfl⟩,⟨rfl,rf,rfl,tv⟩,tv⟩
end Go.Proofs.Ytfcfbfkjdenpdaa
