import Derived.Test.YtfcfbfkjdenpdaaK4Q7
import Derived.Test.YtfcfbfkjdenpdaaK4Q9
import Derived.Test.YtfcfbfkjdenpdaaK4Q15
import Derived.Test.YtfcfbfkjdenpdaaK4Q5
set_option linter.unusedVariables false
set_option linter.unusedSimpArgs false
set_option linter.unusedSectionVars false
namespace Go.Proofs.Ytfcfbfkjdenpdaa
open Go.TM
def ouRows (n:Nat) (d:Dea) (v:List Int) (x:Sta):Rows:=(List.range d.parties.length).map fun p:Nat=>outR (folM n d v) x p
def ouAt (n:Nat) (d:Dea) (i:Nat):List Rows:=match d.states[i]?,wayOf d i with
 | some x,some v=>if x.final then [ouRows n d v x] else []
 | _,_=>[]
def ouTo (n:Nat) (d:Dea) (k:Nat):List Rows:=(List.range k).flatMap (ouAt n d)
def outsF (n:Int) (d:Dea):List Rows × Int:=if (analyze n d).code=0 then (ouTo n.toNat d d.states.length,0) else ([],(analyze n d).code)
theorem ouTo_succ (n:Nat) (d:Dea) (k:Nat):ouTo n d (k+1)=ouTo n d k++ouAt n d k:=by
 simp [ouTo,List.range_succ]
theorem ouAt_len (n:Nat) (d:Dea) (i:Nat):(ouAt n d i).length≤1:=by
 unfold ouAt
 split
 ·split <;> simp
 ·simp
theorem ouTo_len (n:Nat) (d:Dea):∀k,(ouTo n d k).length≤k
 | 0=>by simp [ouTo]
 | k+1=>by
  rw [ouTo_succ,List.length_append]
  have:=ouTo_len n d k
  have:=ouAt_len n d k
  omega
def osB (d:Dea) (l:List Rows):Boxes:=[(0,.cells (dvs (dcells d))),(2,.cells [.dv (Ints (disc d).order),.dv (.sl 1 ((disc d).ways.map Ints))]),(3,.tree 0 0 (.osl 1 (l.map eRows)))]
theorem by59:(nth tab (nth tab 59).elem).bytes=24:=rfl
set_option maxRecDepth 100000 in
set_option maxHeartbeats 4000000 in
theorem Outs_spec (n:Int) (d:Dea) (hs:Parts d):PSpec Try.prog 24 [I n,eDea d] [.sl 1 ((outsF n d).1.map eRows),I (outsF n d).2]:=by
 refine pspec_of tab_ok mixed (calls_snd _) (range_snd _) Try.func24 rfl (by kernel_rfl) rfl ?_
 refine .inl ⟨_,fun _=>(Analyze_spec n d hs).ok,?_⟩
 refine ⟨fun h=>?_,fun h=>?_⟩
 ·have h:((analyze n d).code != 0)=true:=h
  have hc:(analyze n d).code ≠ 0:=by simpa using h
  have ho:outsF n d=([],(analyze n d).code):=by rw [outsF,if_neg hc]
  rw [ho]
  exact ⟨by kernel_rfl,DV.nils_le 1,rf,tv⟩
 have h:((analyze n d).code != 0)=false:=h
 have hc:(analyze n d).code=0:=by simpa using h
 clear h
 have hm:malf n d=none:=by
  cases hm:malf n d with
  | none=>rfl
  | some k=>simp [analyze,hm] at hc
 obtain ⟨hn0,hwf⟩:=malf_none hs hm
 obtain ⟨N,rfl⟩:∃N:Nat,n=N:=⟨n.toNat,by omega⟩
 rw [Int.toNat_natCast] at hwf
 have hof:outsF (N:Int) d=(ouTo N d d.states.length,0):=by rw [outsF,if_pos hc,Int.toNat_natCast]
 rw [hof]
 generalize analyze (N:Int) d=az at *
 have hsm:Small d:=small_of hs hwf
 refine .inl ⟨_,fun _=>(discover_spec d hsm).ok,?_⟩
 have hsl:=hwf.sl
 have hp4:=hwf.p4
 refine ⟨Nat,fun i=>⟨4,[(0,.dv (I N)),(3,.ptr 0 0),(7,.ptr 2 0),(8,.own 3 0 0 []),(9,.dv (I i))],osB d (ouTo N d i)⟩,fun i=>i≤d.states.length,fun i=>d.states.length - i,0,fun _=>rfl,?_,by omega,?_⟩
 ·exact ⟨⟨rf,rfl,rfl,⟨rfl,rfl,rfl,rfl,1,rfl⟩,rf,tv⟩,⟨subWs_dvs _ _ _ (dcells d),⟨rf,rf,tv⟩,⟨rfl,rfl,1,rfl⟩,tv⟩,rfl,rfl⟩
 intro i hi
 refine ⟨fun h=>?_,fun h=>?_⟩
 ·have hi:i<d.states.length:=by simpa using h
  clear h
  obtain ⟨x,hx⟩:∃x,d.states[i]?=some x:=⟨_,List.getElem?_eq_getElem hi⟩
  have hol:=(disc_ok d).le
  refine .inl ⟨_,fun _=>(index_spec (disc d).order i (by omega)).ok,?_⟩
  refine ⟨id,id,id,eSta x,fun _=>⟨by omega,by simp [hx]⟩,id,id,?_⟩
  refine ⟨id,fun _ h=>bw_f h,fun h=>?_,fun h=>?_⟩
  ·have he:ouTo N d (i+1)=ouTo N d i:=by
    rw [ouTo_succ]
    have:ouAt N d i=[]:=by
     unfold ouAt
     rw [hx]
     cases hw:wayOf d i with
     | none=>rfl
     | some v =>
      have h1:=(idxOf_way hw).1
      have h2:decide (idxOf (disc d).order i<0)=false:=decide_eq_false (by omega)
      rw [h2] at h
      have h3:x.final=false:=by simpa using h
      simp [h3]
    rw [this,List.append_nil]
   refine ⟨fun _=>⟨by omega,by omega⟩,i+1,⟨⟨rf,rfl,rfl,rfl,le_int (by omega),tv⟩,⟨subWs_dvs _ _ _ (dcells d),⟨rf,rf,tv⟩,⟨rfl,?_⟩,tv⟩,rfl,rfl⟩,by omega,by dsimp only; omega⟩
   rw [he]
  ·have hix:0≤idxOf (disc d).order i∧x.final=true:=by
    cases hd:decide (idxOf (disc d).order i<0) with
    | true=>rw [hd] at h; cases h
    | false =>
     rw [hd] at h
     have:=of_decide_eq_false hd
     exact ⟨by omega,by simpa using h⟩
   clear h
   obtain ⟨hi0,hfin⟩:=hix
   obtain ⟨v,hv⟩:∃v,wayOf d i=some v:=by
    cases hw:wayOf d i with
    | some v=>exact ⟨v,rfl⟩
    | none =>
     have h1:=wayOf_none hw
     have h2:=idx_neg (disc d).order i
     rw [decide_eq_true h1] at h2
     have:=of_decide_eq_true h2
     omega
   have hway:=(idxOf_way hv).2
   have he:ouTo N d (i+1)=ouTo N d i++[ouRows N d v x]:=by
    rw [ouTo_succ]
    congr 1
    unfold ouAt
    rw [hx,hv]
    simp [hfin]
   obtain ⟨q,hq1,hq2⟩:=wayOf_inv hv
   have hpa:=leads_disc d q _ v hq1 hq2
   have hvl:=way_len hv
   refine ⟨Nat,fun p=>⟨5,[(0,.dv (I N)),(3,.ptr 0 0),(7,.ptr 2 0),(8,.own 3 0 0 []),(9,.dv (I i)),(10,.dv (I (idxOf (disc d).order i))),(11,.own 4 0 0 []),(12,.dv (I p))],osB d (ouTo N d i)++[(4,Box.tree 0 0 (.osl 1 (((ouRows N d v x).take p).map Ints)))]⟩,fun p=>p≤d.parties.length,fun p=>d.parties.length - p,0,fun _=>rfl,?_,by omega,?_⟩
   ·exact ⟨⟨rf,rfl,rfl,rfl,rf,rf,⟨rfl,rfl,rfl,rfl,1,rfl⟩,rf,tv⟩,⟨subWs_dvs _ _ _ (dcells d),⟨rf,rf,tv⟩,⟨rfl,rfl⟩,⟨rfl,rfl,1,rfl⟩,tv⟩,rfl,rfl⟩
   intro p hp
   refine ⟨fun h=>?_,fun h=>?_⟩
   ·have hp:p<d.parties.length:=by simpa using h
    clear h
    have ho:=outcome_spec N d hwf i x (by omega) hx (hs.gi x (List.mem_of_getElem? hx)) v _ hpa (by omega) p hp
    refine ⟨Ints v,fun _=>⟨hi0,by simp [hway]⟩,.inl ⟨_,fun _=>ho.ok,?_⟩⟩
    refine .inl ⟨[Ints (outR (folM N d v) x p)],rfl,⟨rf,tv⟩,fun y hy=>(by rcases List.mem_singleton.1 hy with rfl; rfl),.inr ⟨[Ints (outR (folM N d v) x p)],ELes.refl _,(by rw [by26]; simp; omega),(by simp; omega),?_⟩⟩
    refine ⟨by kernel_rfl,fun _=>⟨by omega,by omega⟩,p+1,⟨⟨rf,rfl,rfl,rfl,rf,rf,rfl,le_int (by omega),tv⟩,⟨subWs_dvs _ _ _ (dcells d),⟨rf,rf,tv⟩,⟨rfl,rfl⟩,⟨rfl,?_⟩,tv⟩,rfl,rfl⟩,by omega,by dsimp only; omega⟩
    have:(ouRows N d v x).take (p+1)=(ouRows N d v x).take p++[outR (folM N d v) x p]:=by
     rw [List.take_add_one]
     simp [ouRows,hp]
    rw [this,List.map_append]; rfl
   ·have hpe:p=d.parties.length:=by
     have:¬ p<d.parties.length:=by simpa using h
     omega
    have hta:(ouRows N d v x).take p=ouRows N d v x:=List.take_of_length_le (by simp [ouRows,hpe])
    have hol:=ouTo_len N d i
    refine .inl ⟨[eRows (ouRows N d v x)],rfl,⟨DV.Le.of_eq ?_,tv⟩,fun y hy=>(by rcases List.mem_singleton.1 hy with rfl; rfl),.inr ⟨[eRows (ouRows N d v x)],ELes.refl _,(by rw [by59]; simp; omega),(by simp; omega),?_⟩⟩
    ·show DV.sl 1 (fzL (((ouRows N d v x).take p).map Ints))=_
     rw [fzL_map fun _=>rfl,hta]; rfl
    refine ⟨fun _=>⟨by omega,by omega⟩,i+1,⟨⟨rf,rfl,rfl,rfl,le_int (by omega),tv⟩,⟨subWs_dvs _ _ _ (dcells d),⟨rf,rf,tv⟩,⟨rfl,?_⟩,tv⟩,rfl,rfl⟩,by omega,by dsimp only; omega⟩
    rw [he,List.map_append]; rfl
 ·have hie:i=d.states.length:=by
   have:¬ i<d.states.length:=by simpa using h
   omega
  subst hie
  refine ⟨DV.Le.of_eq ?_,rf,tv⟩
  show DV.sl 1 (fzL ((ouTo N d d.states.length).map eRows))=_
  rw [fzL_map fun _=>rfl]
end Go.Proofs.Ytfcfbfkjdenpdaa
namespace Go.Proofs.Ytfcfbfkjdenpdaa
open Go.TM
def ordS (d:Dea):List Int:=isortN (keysF (pD d)) ((keysF (pD d)).length - 1)
def ouS (n:Nat) (d:Dea) (k:Nat):List Rows:=((ordS d).take k).flatMap fun s=>ouAt n d s.toNat
theorem ouS_len (n:Nat) (d:Dea):∀k,(ouS n d k).length≤k
 | 0=>by simp [ouS]
 | k+1=>by
  have h1:=ouS_len n d k
  unfold ouS at *
  rw [List.take_add_one,List.flatMap_append,List.length_append]
  cases (ordS d)[k]? with
  | none =>
   simp only [Option.toList_none,List.flatMap_nil,List.length_nil]
   omega
  | some s =>
   have:=ouAt_len n d s.toNat
   simp only [Option.toList_some,List.flatMap_cons,List.flatMap_nil,List.append_nil]
   omega
theorem ouS_end {n:Nat} (d:Dea) (hwf:WF n d):ouS n d (ordS d).length=ouTo n d d.states.length:=by
 have hw':=wok_disc d hwf.ne
 have hb:=disc_ok d
 have hso:ordS d=inOrder (disc d).order d.states.length:=by
  rw [ordS,hw'.keys]
  exact isort_eq hb.nod fun s hs=>hb.rng s hs
 rw [ouS,List.take_length,hso,ouTo,inOrder]
 generalize d.states.length=k
 induction k with
 | zero=>rfl
 | succ k ih =>
  rw [List.range_succ,List.map_append,List.filter_append,List.flatMap_append,List.flatMap_append,ih]
  congr 1
  by_cases h:(k:Int)∈(disc d).order
  ·simp [h]
  ·have:ouAt n d k=[]:=by
    unfold ouAt
    have hn:wayOf d (k:Int)=none:=by
     cases hw:wayOf d (k:Int) with
     | none=>rfl
     | some v =>
      obtain ⟨q,h1,-⟩:=wayOf_inv hw
      exact absurd (List.mem_of_getElem? h1) h
    rw [hn]
    cases d.states[k]? <;> rfl
   simp [h,this]
def vB (n:Nat) (d:Dea) (l:List Rows):Boxes:=[(0,.cells (dvs (dcells d))),(5,.tree 0 0 (eFrom (pD d).from_)),(6,.tree 0 0 (eStps (pD d).steps)),(7,.cells (wC d (.own 5 0 0 []) (.own 6 0 0 []) (.own 13 0 0 []))),(13,.tree 0 0 (.osl 1 ((keysF (pD d)).map I))),(14,.tree 0 0 (.omap intK (conM n d))),(15,.cells [.ptr 7 0,.dv (I n),.own 14 0 0 []]),(21,.tree 0 0 (.osl 1 ((ordS d).map I))),(22,.tree 0 0 (.osl 1 (l.map eRows)))]
set_option maxRecDepth 100000 in
set_option maxHeartbeats 8000000 in
theorem sOuts_spec (n:Int) (d:Dea) (hs:Parts d) (h12:d.states.length≤12):PSpec Try.prog 23 [I n,eDea d] [.sl 1 ((outsF n d).1.map eRows),I (outsF n d).2]:=by
 refine pspec_of tab_ok mixed (calls_snd _) (range_snd _) Try.func23 rfl (by kernel_rfl) rfl ?_
 cases hm:malf n d with
 | some k =>
  have hc:(analyze n d).code=1:=by simp [analyze,hm]
  have hof:outsF n d=([],1):=by rw [outsF,if_neg (by rw [hc]; decide),hc]
  rw [hof]
  refine .inl ⟨_,fun _=>(analyse_bad n d hs k hm).ok,?_⟩
  refine ⟨fun _=>?_,(fun h=>?_)⟩
  ·exact ⟨by kernel_rfl,DV.nils_le 1,le_int hc,tv⟩
  ·exfalso
   have h:((analyze n d).code != 0)=false:=h
   rw [hc] at h; cases h
 | none =>
 obtain ⟨hn0,hwf⟩:=malf_none hs hm
 obtain ⟨N,rfl⟩:∃N:Nat,n=N:=⟨n.toNat,by omega⟩
 rw [Int.toNat_natCast] at hwf
 have han:=analyse_spec N d hs hm
 have haz:analyze (N:Int) d=match anF N d with
   | some f=>f
   | none=>⟨0,0,0,[]⟩:=by simp only [analyze,hm,Int.toNat_natCast]; cases anF N d <;> rfl
 cases hf:anF N d with
 | some f =>
  rw [hf] at han haz
  have hc:=anF_code hf
  have haz:analyze (N:Int) d=f:=haz
  have hof:outsF (N:Int) d=([],17):=by rw [outsF,if_neg (by rw [haz,hc]; decide),haz,hc]
  rw [hof]
  refine .inr ⟨[],[.dv (I N),.agg (dvs (dcells d))],[],16,_,_,han,rfl,rfl,⟨rf,⟨rf,rf,rf,tv⟩,tv⟩,tv,?_⟩
  refine ⟨fun _=>?_,(fun h=>?_)⟩
  ·exact ⟨by kernel_rfl,DV.nils_le 1,le_int hc,tv⟩
  ·exfalso
   have h:(f.code != 0)=false:=h
   rw [hc] at h; cases h
 | none =>
 rw [hf] at han haz
 have haz:analyze (N:Int) d=⟨0,0,0,[]⟩:=haz
 have hof:outsF (N:Int) d=(ouTo N d d.states.length,0):=by rw [outsF,if_pos (by rw [haz]),Int.toNat_natCast]
 rw [hof]
 refine .inr ⟨[],[.dv (I N),.agg (dvs (dcells d))],[],16,_,_,han,rfl,rfl,⟨rf,⟨rf,rf,rf,tv⟩,tv⟩,tv,?_⟩
 refine ⟨(fun h=>by cases h),fun _=>?_⟩
 have hb:=disc_ok d
 have hol:=hb.le
 have hw':=wok_disc d hwf.ne
 have hkl:(keysF (pD d)).length=(disc d).order.length:=by rw [hw'.keys]
 refine .inr ⟨[13],[.own 0 0 0 []],_,1,_,_,values0_spec (keysF (pD d)),by kernel_rfl,by kernel_rfl,⟨rfl,tv⟩,⟨⟨rfl,rfl⟩,tv⟩,?_⟩
 refine .inr ⟨[18,13],[.fn 79 [.ptr 0 0]],wE (keysF (pD d)),3,_,_,sorted_spec (keysF (pD d)) (by omega),by kernel_rfl,by kernel_rfl,⟨⟨rfl,rfl,tv⟩,tv⟩,⟨⟨rfl,tv⟩,⟨rfl,rfl⟩,tv⟩,?_⟩
 have hsl:=hwf.sl
 have hp4:=hwf.p4
 have hlo:(ordS d).length=(disc d).order.length:=by rw [ordS,isortN_len,hkl]
 refine ⟨Nat,fun i=>⟨23,[(3,.ptr 0 0),(6,.ptr 15 0),(8,.own 22 0 0 []),(32,.own 21 0 0 []),(33,.dv (I (ordS d).length)),(34,.dv (I i))],vB N d (ouS N d i)⟩,fun i=>i≤(ordS d).length,fun i=>(ordS d).length - i,0,(fun _=>by kernel_rfl),?_,by omega,?_⟩
 ·exact ⟨⟨rfl,rfl,⟨rfl,rfl,rfl,rfl,1,rfl⟩,rfl,le_int (by simp [ordS]),rf,tv⟩,⟨subWs_dvs _ _ _ (dcells d),⟨rfl,rfl⟩,⟨rfl,rfl⟩,⟨rf,rf,rf,rfl,rfl,rfl,tv⟩,⟨rfl,rfl⟩,⟨rfl,rfl⟩,⟨rfl,rf,rfl,tv⟩,⟨rfl,rfl⟩,⟨rfl,rfl,1,rfl⟩,tv⟩,by kernel_rfl,by kernel_rfl⟩
 intro i hi
 refine ⟨fun h=>?_,fun h=>?_⟩
 ·have hi:i<(ordS d).length:=by simpa using h
  clear h
  generalize he':(ordS d)[i]=s at *
  have he:(ordS d)[i]?=some s:=by rw [List.getElem?_eq_getElem hi,he']
  have hmo:s∈(disc d).order:=by
   have h1:s∈ordS d:=List.mem_of_getElem? he
   rw [ordS,(isortN_perm _ _).mem_iff,hw'.keys] at h1
   exact h1
  have hrg:=hb.rng s hmo
  obtain ⟨k,hk⟩:=List.getElem?_of_mem hmo
  have hkl':k<(disc d).order.length:=(List.getElem?_eq_some_iff.1 hk).1
  obtain ⟨v,hv⟩:∃v,(disc d).ways[k]?=some v:=⟨_,List.getElem?_eq_getElem (by have:=hb.len; omega)⟩
  have hcl:s.toNat<d.states.length:=by omega
  obtain ⟨x,hx⟩:∃x,d.states[s.toNat]?=some x:=⟨_,List.getElem?_eq_getElem hcl⟩
  have hwo:=wayOf_at d hk hv
  have hss:ouS N d (i+1)=ouS N d i++if x.final then [ouRows N d v x] else []:=by
   unfold ouS
   rw [List.take_add_one,he,Option.toList_some,List.flatMap_append]
   congr 1
   simp only [List.flatMap_cons,List.flatMap_nil,List.append_nil]
   unfold ouAt
   rw [hx,Int.toNat_of_nonneg hrg.1,hwo]
  refine ⟨fun _=>⟨by omega,by simp; omega⟩,I s,fun _=>by simp [he],?_⟩
  refine ⟨eSta x,fun _=>⟨hrg.1,by simp [hx]⟩,fun h=>?_,fun h=>?_⟩
  ·have hfi:x.final=false:=by
    have h:(!x.final)=true:=h
    simpa using h
   have hss:ouS N d (i+1)=ouS N d i:=by rw [hss,hfi]; simp
   exact ⟨fun _=>⟨by omega,by omega⟩,i+1,⟨⟨rfl,rfl,rfl,rfl,rf,le_int (by omega),tv⟩,⟨subWs_dvs _ _ _ (dcells d),⟨rfl,rfl⟩,⟨rfl,rfl⟩,⟨rf,rf,rf,rfl,rfl,rfl,tv⟩,⟨rfl,rfl⟩,⟨rfl,rfl⟩,⟨rfl,rf,rfl,tv⟩,⟨rfl,rfl⟩,⟨rfl,by rw [hss]⟩,tv⟩,by kernel_rfl,by kernel_rfl⟩,by omega,by dsimp only; omega⟩
  ·have hfi:x.final=true:=by
    have h:(!x.final)=false:=h
    simpa using h
   have hss:ouS N d (i+1)=ouS N d i++[ouRows N d v x]:=by rw [hss,hfi]; simp
   have hrl:(ouRows N d v x).length=d.parties.length:=by simp [ouRows]
   refine ⟨Nat,fun p=>⟨24,[(3,.ptr 0 0),(6,.ptr 15 0),(8,.own 22 0 0 []),(10,.dv (I s)),(32,.own 21 0 0 []),(33,.dv (I (ordS d).length)),(34,.dv (I i)),(11,.own 23 0 0 []),(47,.dv (I d.parties.length)),(48,.dv (I p))],vB N d (ouS N d i)++[(23,Box.tree 0 0 (.osl 1 (((ouRows N d v x).take p).map Ints)))]⟩,fun p=>p≤d.parties.length,fun p=>d.parties.length - p,0,(fun _=>by kernel_rfl),?_,by omega,?_⟩
   ·exact ⟨⟨rfl,rfl,rfl,rf,rfl,rf,rf,⟨rfl,rfl,rfl,rfl,1,rfl⟩,le_int (by simp),rf,tv⟩,⟨subWs_dvs _ _ _ (dcells d),⟨rfl,rfl⟩,⟨rfl,rfl⟩,⟨rf,rf,rf,rfl,rfl,rfl,tv⟩,⟨rfl,rfl⟩,⟨rfl,rfl⟩,⟨rfl,rf,rfl,tv⟩,⟨rfl,rfl⟩,⟨rfl,rfl⟩,⟨rfl,rfl,1,rfl⟩,tv⟩,by kernel_rfl,by kernel_rfl⟩
   intro p hp
   refine ⟨fun h=>?_,fun h=>?_⟩
   ·have hp:p<d.parties.length:=by
     have:(p:Int)<d.parties.length:=of_decide_eq_true h
     omega
    clear h
    have hsp:=outc_spec N d hwf k s v hk hv x hx (hs.gi x (List.mem_of_getElem? hx)) p hp
    refine .inr ⟨[5,6,7,13,14,15],[.ptr 5 0,.dv (I s),.dv (I p)],qK N d (conM N d),1,_,_,hsp,by kernel_rfl,by kernel_rfl,⟨rfl,rf,rf,tv⟩,⟨⟨rfl,rfl⟩,⟨rfl,rfl⟩,⟨rf,rf,rf,rfl,rfl,rfl,tv⟩,⟨rfl,rfl⟩,⟨rfl,rfl⟩,⟨rfl,rf,rfl,tv⟩,tv⟩,?_⟩
    refine .inl ⟨[Ints (outR (folM N d v) x p)],rfl,⟨DV.Le.of_eq ?_,tv⟩,fun y hy=>(by rcases List.mem_singleton.1 hy with rfl; rfl),.inr ⟨[Ints (outR (folM N d v) x p)],ELes.refl _,(by rw [by26]; simp; omega),(by simp; omega),?_⟩⟩
    ·show DV.sl 1 (fzL ((outR (folM N d v) x p).map I))=_
     rw [fzL_map fun _=>rfl]
    refine ⟨fun _=>⟨by omega,by omega⟩,p+1,⟨⟨rfl,rfl,rfl,rf,rfl,rf,rf,rfl,rf,le_int (by omega),tv⟩,⟨subWs_dvs _ _ _ (dcells d),⟨rfl,rfl⟩,⟨rfl,rfl⟩,⟨rf,rf,rf,rfl,rfl,rfl,tv⟩,⟨rfl,rfl⟩,⟨rfl,rfl⟩,⟨rfl,rf,rfl,tv⟩,⟨rfl,rfl⟩,⟨rfl,rfl⟩,⟨rfl,?_⟩,tv⟩,by kernel_rfl,by kernel_rfl⟩,by omega,by dsimp only; omega⟩
    have:(ouRows N d v x).take (p+1)=(ouRows N d v x).take p++[outR (folM N d v) x p]:=by
     rw [List.take_add_one]
     simp [ouRows,hp]
    rw [this,List.map_append]; rfl
   ·have hpe:p=d.parties.length:=by
     have:¬ (p:Int)<d.parties.length:=of_decide_eq_false h
     omega
    have hta:(ouRows N d v x).take p=ouRows N d v x:=List.take_of_length_le (by simp [ouRows,hpe])
    have hol:=ouS_len N d i
    refine .inl ⟨[eRows (ouRows N d v x)],rfl,⟨DV.Le.of_eq ?_,tv⟩,fun y hy=>(by rcases List.mem_singleton.1 hy with rfl; rfl),.inr ⟨[eRows (ouRows N d v x)],ELes.refl _,(by rw [by59]; simp; omega),(by simp; omega),?_⟩⟩
    ·show DV.sl 1 (fzL (((ouRows N d v x).take p).map Ints))=_
     rw [fzL_map fun _=>rfl,hta]; rfl
    exact ⟨fun _=>⟨by omega,by omega⟩,i+1,⟨⟨rfl,rfl,rfl,rfl,rf,le_int (by omega),tv⟩,⟨subWs_dvs _ _ _ (dcells d),⟨rfl,rfl⟩,⟨rfl,rfl⟩,⟨rf,rf,rf,rfl,rfl,rfl,tv⟩,⟨rfl,rfl⟩,⟨rfl,rfl⟩,⟨rfl,rf,rfl,tv⟩,⟨rfl,rfl⟩,⟨rfl,by rw [hss,List.map_append]; rfl⟩,tv⟩,by kernel_rfl,by kernel_rfl⟩,by omega,by dsimp only; omega⟩
 ·have hie:i=(ordS d).length:=by
   have:¬ i<(ordS d).length:=by simpa using h
   omega
  subst hie
  refine ⟨DV.Le.of_eq ?_,rf,tv⟩
  show DV.sl 1 (fzL ((ouS N d (ordS d).length).map eRows))=_
  rw [fzL_map fun _=>rfl,ouS_end d hwf]
end Go.Proofs.Ytfcfbfkjdenpdaa
