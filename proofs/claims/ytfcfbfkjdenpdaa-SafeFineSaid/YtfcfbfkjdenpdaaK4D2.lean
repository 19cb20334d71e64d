import Derived.Test.YtfcfbfkjdenpdaaK4D1
set_option linter.unusedVariables false
set_option linter.unusedSimpArgs false
set_option linter.unusedSectionVars false
namespace Go.Proofs.Ytfcfbfkjdenpdaa
open Go.TM
structure PQ where
 b:PB
 qu:List Int
 t:Bool
def addQ (cur:Int) (z:PQ) (s:Stp):PQ:=⟨addP cur z.b s,qAdd z.b z.qu s,z.t || decide (s.next ∉ keysF z.b)⟩
structure PQok (z:PQ):Prop where
 st:z.b.steps.map (·.1)=(keysF z.b).tail
 ne:keysF z.b ≠ []
theorem PQok.add {z:PQ} (h:PQok z) (cur:Int) (s:Stp):PQok (addQ cur z s):=by
 unfold addQ addP
 split
 ·exact ⟨h.st,h.ne⟩
 ·refine ⟨?_,by simp [keysF]⟩
  have hne:=h.ne
  have hst:=h.st
  simp only [keysF,List.map_append,List.map_cons,List.map_nil] at *
  rw [hst,List.tail_append_of_ne_nil hne]
theorem qAdd_len (b:PB) (qu:List Int) (s:Stp):(qAdd b qu s).length≤qu.length+1:=by
 unfold qAdd; split <;> simp
theorem addQ_fold_len (cur:Int):∀(l:List Stp) (z:PQ),(l.foldl (addQ cur) z).qu.length≤z.qu.length+l.length
 | [],z=>by simp
 | s::l,z=>by
  have h1:=addQ_fold_len cur l (addQ cur z s)
  have h2:=qAdd_len z.b z.qu s
  simp only [List.foldl_cons,List.length_cons]
  have h3:(addQ cur z s).qu.length≤z.qu.length+1:=h2
  omega
theorem addQ_fold_ok (cur:Int):∀(l:List Stp) (z:PQ),PQok z→PQok (l.foldl (addQ cur) z)
 | [],z,h=>h
 | s::l,z,h=>addQ_fold_ok cur l _ (h.add cur s)
def fq:Bool→Nat
 | false=>0
 | true=>1
structure SkI where
 k:Nat
 z:PQ
def sK (rc:RC) (d:Dea) (z:PQ) (o:List Int) (cur:Int):Boxes:=yK rc d z.b o z.qu cur (fq z.t)++[(9,.cells (dvs (dcells d))),(10,.cells [.dv (I cur)])]
set_option maxRecDepth 100000 in
set_option maxHeartbeats 4000000 in
theorem sfSteps1_spec (rc:RC) (d:Dea) (x:Sta) (cur:Int) (h0:0≤cur) (hx:d.states[cur.toNat]?=some x) (hol:x.opts.length≤1000) (z:PQ) (hz:PQok z) (hzt:z.t=false) (hq:z.qu.length≤100000) (o:List Int)
  (hY:∀(b:PB) (qu:List Int) (s:Stp),qu.length≤1000000→b.steps.map (·.1)=(keysF b).tail→YSpecR Try.prog [sA s] 9 (yK rc d b o qu cur 0) 0 fun r k=>r=[.dv (.bool true)]∧k=yK rc d (addP cur b s) o (qAdd b qu s) cur (vAdd b s)) :
  CSpec Try.prog 82 [.yld 0,.ptr 9 0,.ptr 10 0] 11 (sK rc d z o cur) 0 [] (sK rc d ((stepsOf d x).foldl (addQ cur) z) o cur):=by
 refine cspec_of tab_ok mixed (calls_snd _) (range_snd _) Try.func82 rfl rfl ?_ ?_
 ·obtain ⟨b,qu,t⟩:=z
  dsimp only at hzt
  subst hzt
  kernel_rfl
 obtain ⟨b,qu,t⟩:=z
 dsimp only at hzt
 subst hzt
 refine ⟨eSta x,fun _=>⟨h0,by simp [hx]⟩,fun h=>?_,fun h=>?_⟩
 ·have hf:x.final=true:=h
  have hs:stepsOf d x=[]:=by simp [stepsOf,hf]
  rw [hs]
  exact ⟨_,_,⟨rfl,rfl⟩,by kernel_rfl,tv,⟨rfl,rfl,subWs_ok rfl⟩,⟨rfl,tv⟩,⟨rf,rf,rf,rfl,rfl,rfl,tv⟩,⟨rfl,rfl⟩,⟨rfl,rfl⟩,⟨rfl,rfl⟩,⟨rfl,tv⟩,⟨rfl,rfl⟩,⟨rf,tv⟩,subWs_dvs _ _ _ (dcells d),⟨rf,tv⟩,tv⟩
 ·have hf:x.final=false:=h
  clear h
  have hso:stepsOf d x=optSteps d x x.opts.length++(if decide (0<x.wait) && okNext d x.late then [⟨-1,-1,x.late,[]⟩] else []):=by simp [stepsOf,hf]
  refine ⟨SkI,fun y=>⟨12,[(0,.yld 0),(1,.ptr 9 0),(2,.ptr 10 0),(4,.ptr 11 0),(5,.fn 83 [.ptr 9 0]),(17,.dv (.sl 3 (x.opts.map eOpt))),(18,.dv (I x.opts.length)),(19,.dv (I y.k))],sK rc d y.z o cur++[(11,.cells (dvs (eSta x).cells))]⟩,fun y=>y.k≤x.opts.length∧y.z=(optSteps d x y.k).foldl (addQ cur) ⟨b,qu,false⟩,fun y=>x.opts.length - y.k,⟨0,⟨b,qu,false⟩⟩,(fun y=>by obtain ⟨k,b,qu,t⟩:=y; cases t <;> rfl),?_,⟨by dsimp only; omega,rfl⟩,?_⟩
  ·exact ⟨⟨rfl,rfl,rfl,rfl,⟨rfl,rfl,tv⟩,rf,le_int (by simp),rf,tv⟩,⟨⟨rfl,rfl,subWs_ok rfl⟩,⟨rfl,tv⟩,⟨rf,rf,rf,rfl,rfl,rfl,tv⟩,⟨rfl,rfl⟩,⟨rfl,rfl⟩,⟨rfl,rfl⟩,⟨rfl,tv⟩,⟨rfl,rfl⟩,⟨rf,tv⟩,subWs_dvs _ _ _ (dcells d),⟨rf,tv⟩,subWs_dvs _ _ _ (eSta x).cells,tv⟩,rfl,rfl⟩
  ·rintro ⟨k,b2,qu2,t2⟩ ⟨hk,hz2⟩
   dsimp only at hk hz2
   have hok2:=addQ_fold_ok cur (optSteps d x k) ⟨b,qu,false⟩ hz
   have hql2:=addQ_fold_len cur (optSteps d x k) ⟨b,qu,false⟩
   have hol2:=optSteps_len d x k
   rw [←hz2] at hok2 hql2
   dsimp only at hql2 hq
   let g:Bool:=t2
   cases t2
   all_goals
    refine ⟨fun h=>?_,fun h=>?_⟩
    ·have hlt:k<x.opts.length:=by
      have:(k:Int)<x.opts.length:=of_decide_eq_true h
      omega
     clear h
     generalize ho':x.opts[k]=op at *
     have hop:x.opts[k]?=some op:=by rw [List.getElem?_eq_getElem hlt,ho']
     refine ⟨eOpt op,fun _=>⟨by dsimp only; omega,by simp [hop]⟩,?_⟩
     refine .inr ⟨[9],[.dv (I op.next),.ptr 0 0],[(0,.cells (dvs (dcells d)))],0,_,_,exists_spec d op.next,rfl,rfl,⟨rf,rfl,tv⟩,⟨subWs_dvs _ _ _ (dcells d),tv⟩,?_⟩
     have hos:optSteps d x (k+1)=if okNext d op.next then optSteps d x k++[⟨k,op.party,op.next,op.put⟩] else optSteps d x k:=by simp only [optSteps,hop]
     generalize hok:okNext d op.next=e at hos ⊢
     refine ⟨id,id,id,id,id,id,id,id,id,?_⟩
     cases e
     ·refine .inr ⟨rfl,.dv (B false),?_⟩
      refine ⟨id,(fun _ h=>by cases h),(fun h=>by cases h),fun _=>⟨fun _=>⟨by dsimp only; omega,by dsimp only; omega⟩,⟨k+1,⟨b2,qu2,g⟩⟩,⟨⟨rfl,rfl,rfl,rfl,⟨rfl,rfl,tv⟩,rf,rf,le_int (by simp),tv⟩,⟨⟨rfl,rfl,subWs_ok rfl⟩,⟨rfl,tv⟩,⟨rf,rf,rf,rfl,rfl,rfl,tv⟩,⟨rfl,rfl⟩,⟨rfl,rfl⟩,⟨rfl,rfl⟩,⟨rfl,tv⟩,⟨rfl,rfl⟩,⟨rf,tv⟩,subWs_dvs _ _ _ (dcells d),⟨rf,tv⟩,subWs_dvs _ _ _ (eSta x).cells,tv⟩,rfl,rfl⟩,⟨by dsimp only; omega,?_⟩,by dsimp only; omega⟩⟩
      simp only [hos,Bool.false_eq_true,if_false]
      exact hz2
     ·have hy:=hY b2 qu2 ⟨k,op.party,op.next,op.put⟩ (by omega) hok2.st
      have hfo:(optSteps d x (k+1)).foldl (addQ cur) ⟨b,qu,false⟩=addQ cur ⟨b2,qu2,g⟩ ⟨k,op.party,op.next,op.put⟩:=by
       rw [hos,if_pos rfl,List.foldl_append,←hz2]; rfl
      by_cases hin:op.next∈keysF b2
      ·simp only [vAdd,addP,qAdd,hin,if_true] at hy
       refine .inl ⟨[0,1,2,3,4,5,6,7,8],[sA ⟨k,op.party,op.next,op.put⟩],yK rc d b2 o qu2 cur 0,0,_,_,hy,by kernel_rfl,by kernel_rfl,⟨⟨rf,rf,rf,rf,tv⟩,tv⟩,⟨⟨rfl,rfl,subWs_ok rfl⟩,⟨rfl,tv⟩,⟨rf,rf,rf,rfl,rfl,rfl,tv⟩,⟨rfl,rfl⟩,⟨rfl,rfl⟩,⟨rfl,rfl⟩,⟨rfl,tv⟩,⟨rfl,rfl⟩,⟨rf,tv⟩,tv⟩,rfl,fun _=>rfl,fun _ _=>rfl,(fun h=>by cases h),fun _=>?_⟩
       refine ⟨fun _=>⟨by dsimp only; omega,by dsimp only; omega⟩,⟨k+1,⟨b2,qu2,g⟩⟩,⟨⟨rfl,rfl,rfl,rfl,⟨rfl,rfl,tv⟩,rf,rf,le_int (by simp),tv⟩,⟨⟨rfl,rfl,subWs_ok rfl⟩,⟨rfl,tv⟩,⟨rf,rf,rf,rfl,rfl,rfl,tv⟩,⟨rfl,rfl⟩,⟨rfl,rfl⟩,⟨rfl,rfl⟩,⟨rfl,tv⟩,⟨rfl,rfl⟩,⟨rf,tv⟩,subWs_dvs _ _ _ (dcells d),⟨rf,tv⟩,subWs_dvs _ _ _ (eSta x).cells,tv⟩,rfl,rfl⟩,⟨by dsimp only; omega,?_⟩,by dsimp only; omega⟩
       dsimp only
       rw [hfo]
       simp [addQ,addP,qAdd,hin]
      ·simp only [vAdd,addP,qAdd,hin,if_false] at hy
       refine .inl ⟨[0,1,2,3,4,5,6,7,8],[sA ⟨k,op.party,op.next,op.put⟩],yK rc d b2 o qu2 cur 0,0,_,_,hy,by kernel_rfl,by kernel_rfl,⟨⟨rf,rf,rf,rf,tv⟩,tv⟩,⟨⟨rfl,rfl,subWs_ok rfl⟩,⟨rfl,tv⟩,⟨rf,rf,rf,rfl,rfl,rfl,tv⟩,⟨rfl,rfl⟩,⟨rfl,rfl⟩,⟨rfl,rfl⟩,⟨rfl,tv⟩,⟨rfl,rfl⟩,⟨rf,tv⟩,tv⟩,rfl,fun _=>rfl,fun _ _=>rfl,(fun h=>by cases h),fun _=>?_⟩
       refine ⟨fun _=>⟨by dsimp only; omega,by dsimp only; omega⟩,⟨k+1,⟨⟨b2.from_++[(op.next,cur)],b2.steps++[(op.next,⟨k,op.party,op.next,op.put⟩)]⟩,qu2++[op.next],true⟩⟩,⟨⟨rfl,rfl,rfl,rfl,⟨rfl,rfl,tv⟩,rf,rf,le_int (by simp),tv⟩,⟨⟨rfl,rfl,subWs_ok rfl⟩,⟨rfl,tv⟩,⟨rf,rf,rf,rfl,rfl,rfl,tv⟩,⟨rfl,rfl⟩,⟨rfl,rfl⟩,⟨rfl,rfl⟩,⟨rfl,tv⟩,⟨rfl,rfl⟩,⟨rf,tv⟩,subWs_dvs _ _ _ (dcells d),⟨rf,tv⟩,subWs_dvs _ _ _ (eSta x).cells,tv⟩,rfl,rfl⟩,⟨by dsimp only; omega,?_⟩,by dsimp only; omega⟩
       dsimp only
       rw [hfo]
       simp [addQ,addP,qAdd,hin]
    ·have hke:k=x.opts.length:=by
      have:¬ (k:Int)<x.opts.length:=of_decide_eq_false h
      omega
     clear h
     subst hke
     refine ⟨id,id,id,?_⟩
     by_cases hw:0<x.wait
     ·have hwd:decide (0<x.wait)=true:=decide_eq_true hw
      have hso:stepsOf d x=optSteps d x x.opts.length++(if okNext d x.late then [⟨-1,-1,x.late,[]⟩] else []):=by rw [hso,hwd]; rfl
      refine .inr ⟨[9],[.dv (I x.late),.ptr 0 0],[(0,.cells (dvs (dcells d)))],0,_,_,exists_spec d x.late,rfl,rfl,⟨rf,rfl,tv⟩,⟨subWs_dvs _ _ _ (dcells d),tv⟩,bw_t hwd,?_⟩
      generalize hok:okNext d x.late=e at hso ⊢
      refine ⟨fun _ _=>rfl,fun h=>?_,fun h=>?_⟩
      ·have he:e=true:=by
        have h:(bif decide (0<x.wait) then e else false)=true:=h
        rw [hwd] at h; exact h
       subst he
       simp only [if_true] at hso
       have hfo:(stepsOf d x).foldl (addQ cur) ⟨b,qu,false⟩=addQ cur ⟨b2,qu2,g⟩ ⟨-1,-1,x.late,[]⟩:=by
        rw [hso,List.foldl_append,←hz2]; rfl
       have hy:=hY b2 qu2 ⟨-1,-1,x.late,[]⟩ (by omega) hok2.st
       rw [hfo]
       by_cases hin:x.late∈keysF b2
       ·simp only [vAdd,addP,qAdd,hin,if_true] at hy
        refine .inl ⟨[0,1,2,3,4,5,6,7,8],[sA ⟨-1,-1,x.late,[]⟩],yK rc d b2 o qu2 cur 0,0,_,_,hy,by kernel_rfl,by kernel_rfl,⟨⟨rf,rf,rf,DV.nils_le 2,tv⟩,tv⟩,⟨⟨rfl,rfl,subWs_ok rfl⟩,⟨rfl,tv⟩,⟨rf,rf,rf,rfl,rfl,rfl,tv⟩,⟨rfl,rfl⟩,⟨rfl,rfl⟩,⟨rfl,rfl⟩,⟨rfl,tv⟩,⟨rfl,rfl⟩,⟨rf,tv⟩,tv⟩,?_⟩
        refine ⟨_,_,⟨rfl,rfl⟩,?_⟩
        simp only [addQ,addP,qAdd,hin,if_true,not_true,decide_false,Bool.or_false]
        exact ⟨by kernel_rfl,tv,⟨rfl,rfl,subWs_ok rfl⟩,⟨rfl,tv⟩,⟨rf,rf,rf,rfl,rfl,rfl,tv⟩,⟨rfl,rfl⟩,⟨rfl,rfl⟩,⟨rfl,rfl⟩,⟨rfl,tv⟩,⟨rfl,rfl⟩,⟨rf,tv⟩,subWs_dvs _ _ _ (dcells d),⟨rf,tv⟩,tv⟩
       ·simp only [vAdd,addP,qAdd,hin,if_false] at hy
        refine .inl ⟨[0,1,2,3,4,5,6,7,8],[sA ⟨-1,-1,x.late,[]⟩],yK rc d b2 o qu2 cur 0,0,_,_,hy,by kernel_rfl,by kernel_rfl,⟨⟨rf,rf,rf,DV.nils_le 2,tv⟩,tv⟩,⟨⟨rfl,rfl,subWs_ok rfl⟩,⟨rfl,tv⟩,⟨rf,rf,rf,rfl,rfl,rfl,tv⟩,⟨rfl,rfl⟩,⟨rfl,rfl⟩,⟨rfl,rfl⟩,⟨rfl,tv⟩,⟨rfl,rfl⟩,⟨rf,tv⟩,tv⟩,?_⟩
        refine ⟨_,_,⟨rfl,rfl⟩,?_⟩
        simp only [addQ,addP,qAdd,hin,if_false,not_false_iff,decide_true,Bool.or_true]
        exact ⟨by kernel_rfl,tv,⟨rfl,rfl,subWs_ok rfl⟩,⟨rfl,tv⟩,⟨rf,rf,rf,rfl,rfl,rfl,tv⟩,⟨rfl,rfl⟩,⟨rfl,rfl⟩,⟨rfl,rfl⟩,⟨rfl,tv⟩,⟨rfl,rfl⟩,⟨rf,tv⟩,subWs_dvs _ _ _ (dcells d),⟨rf,tv⟩,tv⟩
      ·have he:e=false:=by
        have h:(bif decide (0<x.wait) then e else false)=false:=h
        rw [hwd] at h; exact h
       subst he
       simp only [Bool.false_eq_true,if_false,List.append_nil] at hso
       rw [hso,←hz2]
       exact ⟨_,_,⟨rfl,rfl⟩,by kernel_rfl,tv,⟨rfl,rfl,subWs_ok rfl⟩,⟨rfl,tv⟩,⟨rf,rf,rf,rfl,rfl,rfl,tv⟩,⟨rfl,rfl⟩,⟨rfl,rfl⟩,⟨rfl,rfl⟩,⟨rfl,tv⟩,⟨rfl,rfl⟩,⟨rf,tv⟩,subWs_dvs _ _ _ (dcells d),⟨rf,tv⟩,tv⟩
     ·have hwd:decide (0<x.wait)=false:=decide_eq_false hw
      have hso:stepsOf d x=optSteps d x x.opts.length:=by rw [hso,hwd]; simp
      have hbw:bw (decide (0<x.wait)) true=false:=by rw [hwd]; rfl
      refine .inl ⟨hbw,[B false],(fun h=>absurd (hbw.symm.trans h) (by decide)),rfl,?_⟩
      refine ⟨fun _ h=>absurd (hwd.symm.trans h) (by decide),(fun h=>?_),fun _=>?_⟩
      ·exfalso
       have h:(bif decide (0<x.wait) then false else false)=true:=h
       rw [hwd] at h; cases h
      ·rw [hso,←hz2]
       exact ⟨_,_,⟨rfl,rfl⟩,by kernel_rfl,tv,⟨rfl,rfl,subWs_ok rfl⟩,⟨rfl,tv⟩,⟨rf,rf,rf,rfl,rfl,rfl,tv⟩,⟨rfl,rfl⟩,⟨rfl,rfl⟩,⟨rfl,rfl⟩,⟨rfl,tv⟩,⟨rfl,rfl⟩,⟨rf,tv⟩,subWs_dvs _ _ _ (dcells d),⟨rf,tv⟩,tv⟩
end Go.Proofs.Ytfcfbfkjdenpdaa
