import Derived.Test.YtfcfbfkjdenpdaaK4Q17
import Derived.Test.YtfcfbfkjdenpdaaK4Q16
import Derived.Test.YtfcfbfkjdenpdaaK4Q13
import Derived.Test.YtfcfbfkjdenpdaaK4E1
set_option linter.unusedVariables false
set_option linter.unusedSimpArgs false
set_option linter.unusedSectionVars false
namespace Go.Proofs.Ytfcfbfkjdenpdaa
open Go.TM
set_option maxRecDepth 100000 in
set_option maxHeartbeats 4000000 in
theorem fine_spec (l:List Int) (hl:∀x,x∈l→InI x):PSpec Try.prog 7 [Ints l] [B true]:=by
 refine pspec_of tab_ok mixed (calls_snd _) (range_snd _) Try.func7 rfl (by kernel_rfl) rfl ?_
 refine .inl ⟨_,fun _=>(Deal_spec l hl).ok,?_⟩
 have hs:=(sz_deal l).1
 have hp:Parts (dealD l):=dealsOf_parts l 0 0 0 _ (by simp [dealsOf])
 have h12:=deal_len l
 have hne:=deal_ne l
 generalize dealD l=d at *
 refine .inl ⟨_,fun _=>(lgiven_spec d hs).ok,?_⟩
 have hch:=sCheck_spec 5 d hp
 have hso:=sOuts_spec 5 d hp h12
 have hsm:=hs.sm.states
 refine .inl ⟨_,fun _=>hch.ok,fun h=>?_,fun h=>?_⟩
 ·exact .inl ⟨_,fun _=>lives_spec.ok,rf,tv⟩
 have h:((checkF 5 d).code != 0)=false:=h
 have hc:(checkF ((5:Nat):Int) d).code=0:=by simpa using h
 clear h
 have hac:(analyze 5 d).code=0:=(check_conds hc).1
 obtain ⟨-,hwf⟩:=malf_none hp (analyze_code hac)
 have hwf:WF 5 d:=hwf
 have hof:outsF 5 d=(ouTo 5 d d.states.length,0):=by rw [outsF,if_pos hac]; rfl
 rw [hof] at hso
 have hsl:=hwf.sl
 have hp4:=hwf.p4
 have hb:=disc_ok d
 refine .inl ⟨_,fun _=>hso.ok,(fun h=>by cases h),fun _=>?_⟩
 have hol:=ouTo_len 5 d d.states.length
 refine ⟨Nat,fun f=>⟨2,[(3,.ptr 0 0),(4,.ptr 1 0),(5,.dv (.sl 1 ((ouTo 5 d d.states.length).map eRows))),(7,.dv (I (ouTo 5 d f).length)),(8,.dv (I f))],[(0,.cells (dvs (dcells d))),(1,.cells (dvs (dcells d)))]⟩,fun f=>f≤d.states.length,fun f=>d.states.length - f,0,fun _=>rfl,⟨⟨rfl,rfl,rf,rf,rf,tv⟩,⟨subWs_dvs _ _ _ (dcells d),subWs_dvs _ _ _ (dcells d),tv⟩,rfl,rfl⟩,by omega,?_⟩
 intro f hf
 refine ⟨fun h=>?_,fun h=>?_⟩
 ·have hfl:f<d.states.length:=by simpa using h
  clear h
  obtain ⟨x,hx⟩:∃x,d.states[f]?=some x:=⟨_,List.getElem?_eq_getElem hfl⟩
  refine .inl ⟨_,fun _=>(sreach_spec d hne hs.sm f).ok,?_⟩
  have hol1:=ouTo_len 5 d f
  cases hw:wayOf d (f:Int) with
  | none =>
   have he:ouTo 5 d (f+1)=ouTo 5 d f:=by
    rw [ouTo_succ]
    have:ouAt 5 d f=[]:=by unfold ouAt; rw [hx,hw]
    rw [this,List.append_nil]
   refine ⟨fun _=>?_,(fun h=>by cases h)⟩
   exact ⟨fun _=>⟨by omega,by omega⟩,f+1,⟨⟨rfl,rfl,rf,le_int (by rw [he]),le_int (by omega),tv⟩,⟨subWs_dvs _ _ _ (dcells d),subWs_dvs _ _ _ (dcells d),tv⟩,rfl,rfl⟩,by dsimp only; omega,by dsimp only; omega⟩
  | some v =>
  refine ⟨(fun h=>by cases h),fun _=>?_⟩
  have hen:=ends_spec d hs.sm f ⟨by omega,by omega⟩
  rw [fine_ends hc hx hw] at hen
  refine .inl ⟨_,fun _=>hen.ok,(fun h=>by cases h),fun _=>?_⟩
  refine ⟨eSta x,fun _=>⟨by omega,by simp [hx]⟩,fun h=>?_,fun h=>?_⟩
  ·have hfi:x.final=false:=by
    have h:(!x.final)=true:=h
    simpa using h
   have he:ouTo 5 d (f+1)=ouTo 5 d f:=by
    rw [ouTo_succ]
    have:ouAt 5 d f=[]:=by unfold ouAt; rw [hx,hw]; simp [hfi]
    rw [this,List.append_nil]
   exact ⟨fun _=>⟨by omega,by omega⟩,f+1,⟨⟨rfl,rfl,rf,le_int (by rw [he]),le_int (by omega),tv⟩,⟨subWs_dvs _ _ _ (dcells d),subWs_dvs _ _ _ (dcells d),tv⟩,rfl,rfl⟩,by dsimp only; omega,by dsimp only; omega⟩
  have hfi:x.final=true:=by
   have h:(!x.final)=false:=h
   simpa using h
  clear h
  have hat:ouAt 5 d f=[ouRows 5 d v x]:=by unfold ouAt; rw [hx,hw]; simp [hfi]
  have hR:=ouTo_at hfl hat
  have hRl:(ouTo 5 d f).length<(ouTo 5 d d.states.length).length:=(List.getElem?_eq_some_iff.1 hR).1
  have hok:=ouRows_ok hp hwf hx hw
  have hrl:=hok.len
  have hRi:true=true→0≤(((ouTo 5 d f).length:Nat):Int)∧((ouTo 5 d d.states.length).map eRows)[(((ouTo 5 d f).length:Nat):Int).toNat]?=some (eRows (ouRows 5 d v x)):=fun _=>⟨by omega,by simp [hR]⟩
  refine ⟨fun h=>?_,fun _=>?_⟩
  ·exfalso
   have h:decide ((((ouTo 5 d d.states.length).map eRows).length:Int)≤(ouTo 5 d f).length)=true:=h
   have h:=of_decide_eq_true h
   simp at h
   omega
  refine ⟨Nat,fun p=>⟨2,[(3,.ptr 0 0),(4,.ptr 1 0),(5,.dv (.sl 1 ((ouTo 5 d d.states.length).map eRows))),(7,.dv (I (ouTo 5 d f).length)),(8,.dv (I f)),(11,.dv (I p))],[(0,.cells (dvs (dcells d))),(1,.cells (dvs (dcells d)))]⟩,fun p=>p≤d.parties.length,fun p=>d.parties.length - p,0,fun _=>rfl,⟨⟨rfl,rfl,rf,rf,rf,rf,tv⟩,⟨subWs_dvs _ _ _ (dcells d),subWs_dvs _ _ _ (dcells d),tv⟩,rfl,rfl⟩,by omega,?_⟩
  intro p hpp
  refine ⟨_,hRi,fun h=>?_,fun h=>?_⟩
  ·have hpl:p<d.parties.length:=by
    have h:decide ((p:Int)<(((ouRows 5 d v x).map Ints).length:Int))=true:=h
    have h:=of_decide_eq_true h
    simp at h
    omega
   clear h
   have hrp:(ouRows 5 d v x)[p]?=some (outR (folM 5 d v) x p):=by simp [ouRows,hpl]
   have hrb:=hok.row _ (List.mem_of_getElem? hrp)
   have hlo:=lost_spec (outR (folM 5 d v) x p) (by have:=hrb.len; omega)
   refine ⟨_,hRi,Ints (outR (folM 5 d v) x p),fun _=>⟨by omega,by simp [hrp]⟩,.inl ⟨_,fun _=>hlo.ok,fun h=>?_,fun h=>?_⟩⟩
   ·exact ⟨fun _=>⟨by omega,by omega⟩,p+1,⟨⟨rfl,rfl,rf,rf,rf,le_int (by omega),tv⟩,⟨subWs_dvs _ _ _ (dcells d),subWs_dvs _ _ _ (dcells d),tv⟩,rfl,rfl⟩,by dsimp only; omega,by dsimp only; omega⟩
   have hlost:lostR (outR (folM 5 d v) x p)=true:=by
    have h:(!lostR (outR (folM 5 d v) x p))=false:=h
    simpa using h
   clear h
   refine ⟨Nat,fun s=>⟨2,[(3,.ptr 0 0),(4,.ptr 1 0),(5,.dv (.sl 1 ((ouTo 5 d d.states.length).map eRows))),(7,.dv (I (ouTo 5 d f).length)),(8,.dv (I f)),(11,.dv (I p)),(12,.dv (I s))],[(0,.cells (dvs (dcells d))),(1,.cells (dvs (dcells d)))]⟩,fun s=>s≤d.states.length,fun s=>d.states.length - s,0,fun _=>rfl,⟨⟨rfl,rfl,rf,rf,rf,rf,rf,tv⟩,⟨subWs_dvs _ _ _ (dcells d),subWs_dvs _ _ _ (dcells d),tv⟩,rfl,rfl⟩,by omega,?_⟩
   intro s hss
   refine ⟨fun h=>?_,fun h=>?_⟩
   ·have hsl':s<d.states.length:=by simpa using h
    clear h
    obtain ⟨y,hy⟩:∃y,d.states[s]?=some y:=⟨_,List.getElem?_eq_getElem hsl'⟩
    have hopl:=hp.op y (List.mem_of_getElem? hy)
    have hst:=steps_spec d s y hy (by omega)
    have hsn:=stepsOf_len d y
    refine .inl ⟨_,fun _=>(sreach_spec d hne hs.sm s).ok,?_⟩
    have hlaw:∀u,wayOf d (s:Int)=some u→∀t,t∈stepsOf d y→¬ (t.next=f∧t.party ≠ p):=fun u hu t ht=>fine_loss hc hx hw hfi hpl hlost hy hu ht
    cases hu:wayOf d (s:Int) with
    | none =>
     refine .inl ⟨_,fun _=>hst.ok,?_⟩
     refine ⟨Nat,fun k=>⟨2,[(3,.ptr 0 0),(4,.ptr 1 0),(5,.dv (.sl 1 ((ouTo 5 d d.states.length).map eRows))),(7,.dv (I (ouTo 5 d f).length)),(8,.dv (I f)),(11,.dv (I p)),(12,.dv (I s)),(14,.dv (B false)),(15,.dv (.sl 4 ((stepsOf d y).map eStp))),(16,.dv (I k))],[(0,.cells (dvs (dcells d))),(1,.cells (dvs (dcells d)))]⟩,fun k=>k≤(stepsOf d y).length,fun k=>(stepsOf d y).length - k,0,fun _=>rfl,⟨⟨rfl,rfl,rf,rf,rf,rf,rf,rf,rf,rf,tv⟩,⟨subWs_dvs _ _ _ (dcells d),subWs_dvs _ _ _ (dcells d),tv⟩,rfl,rfl⟩,by omega,?_⟩
     intro k hk
     refine ⟨fun _ h=>bw_t h,fun h=>?_,fun h=>?_⟩
     ·exact absurd (bif_t h).2 (by decide)
     ·exact ⟨fun _=>⟨by omega,by omega⟩,s+1,⟨⟨rfl,rfl,rf,rf,rf,rf,le_int (by omega),tv⟩,⟨subWs_dvs _ _ _ (dcells d),subWs_dvs _ _ _ (dcells d),tv⟩,rfl,rfl⟩,by dsimp only; omega,by dsimp only; omega⟩
    | some u =>
     refine .inl ⟨_,fun _=>hst.ok,?_⟩
     refine ⟨Nat,fun k=>⟨2,[(3,.ptr 0 0),(4,.ptr 1 0),(5,.dv (.sl 1 ((ouTo 5 d d.states.length).map eRows))),(7,.dv (I (ouTo 5 d f).length)),(8,.dv (I f)),(11,.dv (I p)),(12,.dv (I s)),(14,.dv (B true)),(15,.dv (.sl 4 ((stepsOf d y).map eStp))),(16,.dv (I k))],[(0,.cells (dvs (dcells d))),(1,.cells (dvs (dcells d)))]⟩,fun k=>k≤(stepsOf d y).length,fun k=>(stepsOf d y).length - k,0,fun _=>rfl,⟨⟨rfl,rfl,rf,rf,rf,rf,rf,rf,rf,rf,tv⟩,⟨subWs_dvs _ _ _ (dcells d),subWs_dvs _ _ _ (dcells d),tv⟩,rfl,rfl⟩,by omega,?_⟩
     intro k hk
     refine ⟨fun _ h=>bw_t h,fun h=>?_,fun h=>?_⟩
     ·have hkl:k<(stepsOf d y).length:=by
       have:=(bif_t h).1
       simpa using this
      clear h
      generalize ht':(stepsOf d y)[k]=t at *
      have hto:(stepsOf d y)[k]?=some t:=by rw [List.getElem?_eq_getElem hkl,ht']
      have hno:=hlaw u hu t (List.mem_of_getElem? hto)
      have hxt:∀b:Bool,b=true→0≤(k:Int)∧((stepsOf d y).map eStp)[((k:Int)).toNat]?=some (eStp t):=fun _ _=>⟨by omega,by simp [hto]⟩
      refine ⟨eStp t,hxt _,?_⟩
      repeat first | refine ⟨id,?_⟩ | refine ⟨fun _ h=>bw_f h,?_⟩ | refine ⟨fun _ h=>bw_t h,?_⟩ | refine ⟨eStp t,hxt _,?_⟩
      refine ⟨fun h=>?_,fun h=>?_⟩
      ·exfalso
       obtain ⟨h1,h2⟩:=bif_t h
       exact hno ⟨by simpa using h1,by simpa using h2⟩
      ·exact ⟨fun _=>⟨by omega,by omega⟩,k+1,⟨⟨rfl,rfl,rf,rf,rf,rf,rf,rf,rf,le_int (by omega),tv⟩,⟨subWs_dvs _ _ _ (dcells d),subWs_dvs _ _ _ (dcells d),tv⟩,rfl,rfl⟩,by dsimp only; omega,by dsimp only; omega⟩
     ·exact ⟨fun _=>⟨by omega,by omega⟩,s+1,⟨⟨rfl,rfl,rf,rf,rf,rf,le_int (by omega),tv⟩,⟨subWs_dvs _ _ _ (dcells d),subWs_dvs _ _ _ (dcells d),tv⟩,rfl,rfl⟩,by dsimp only; omega,by dsimp only; omega⟩
   ·exact ⟨fun _=>⟨by omega,by omega⟩,p+1,⟨⟨rfl,rfl,rf,rf,rf,le_int (by omega),tv⟩,⟨subWs_dvs _ _ _ (dcells d),subWs_dvs _ _ _ (dcells d),tv⟩,rfl,rfl⟩,by dsimp only; omega,by dsimp only; omega⟩
  ·have he:ouTo 5 d (f+1)=ouTo 5 d f++[ouRows 5 d v x]:=by rw [ouTo_succ,hat]
   refine ⟨fun _=>⟨by omega,by omega⟩,fun _=>⟨by omega,by omega⟩,f+1,⟨⟨rfl,rfl,rf,le_int (by rw [he]; simp),le_int (by omega),tv⟩,⟨subWs_dvs _ _ _ (dcells d),subWs_dvs _ _ _ (dcells d),tv⟩,rfl,rfl⟩,by dsimp only; omega,by dsimp only; omega⟩
 ·have hfe:f=d.states.length:=by
   have:¬ f<d.states.length:=by simpa using h
   omega
  subst hfe
  refine .inl ⟨_,fun _=>lives_spec.ok,?_⟩
  refine ⟨fun _ h=>bw_t h,DV.Le.of_eq ?_,tv⟩
  have:(((ouTo 5 d d.states.length).length:Int) == (((ouTo 5 d d.states.length).map eRows).length:Int))=true:=by simp
  show DV.bool _=DV.bool true
  rw [this]; rfl
end Go.Proofs.Ytfcfbfkjdenpdaa
