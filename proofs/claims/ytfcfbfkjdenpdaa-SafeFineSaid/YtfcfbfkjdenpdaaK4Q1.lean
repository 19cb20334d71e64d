import Derived.Test.YtfcfbfkjdenpdaaK4A3
import Derived.Test.YtfcfbfkjdenpdaaK4D1
import Derived.Test.YtfcfbfkjdenpdaaK4D4
import Derived.Test.YtfcfbfkjdenpdaaK4B1
set_option linter.unusedVariables false
set_option linter.unusedSimpArgs false
set_option linter.unusedSectionVars false
namespace Go.Proofs.Ytfcfbfkjdenpdaa
open Go.TM
def amtBad (n:Int) (a:Int × Int):Bool:=bif (bif (bif decide (a.1<0) then true else decide (n≤a.1)) then true else decide (a.2<1)) then true else decide (1099511627776<a.2)
def amtsOk (n:Int) (l:List (Int × Int)):Bool:=l.all fun a=>!amtBad n a
theorem all_at {α:Type} {l:List α} {f:α→Bool} {k:Nat} {x:α} (hx:l[k]?=some x) (hf:f x=true):l.all (fun a=>!f a)=false:=by
 rw [List.all_eq_false]
 exact ⟨x,List.mem_of_getElem? hx,by simp [hf]⟩
theorem all_take {α:Type} {l:List α} {f:α→Bool} {k:Nat} {x:α} (hx:l[k]?=some x) (h:(l.take k).all (fun a=>!f a)=true) (hf:f x=false):(l.take (k+1)).all (fun a=>!f a)=true:=by
 rw [List.take_add_one,hx,List.all_append,h]
 simp [hf]
theorem amounts1_spec (n:Int) (l:List (Int × Int)) (hl:l.length≤1000000):PSpec Try.prog 98 [I n,ePut l] [B (amtsOk n l)]:=by
 refine pspec_of tab_ok mixed (calls_snd _) (range_snd _) Try.func98 rfl (by kernel_rfl) rfl ?_
 refine ⟨Nat,fun k=>⟨0,[(0,.dv (I n)),(1,.dv (ePut l)),(5,.dv (I k))],[]⟩,fun k=>k≤l.length∧(l.take k).all (fun a=>!amtBad n a)=true,fun k=>l.length - k,0,fun _=>rfl,⟨⟨rf,rf,rf,tv⟩,tv,rfl,rfl⟩,⟨by omega,by simp⟩,?_⟩
 rintro k ⟨hk1,hk2⟩
 refine ⟨fun h=>?_,fun h=>?_⟩
 ·have hk:k<l.length:=by simpa using h
  clear h
  generalize ha':l[k]=a at *
  have ha:l[k]?=some a:=by rw [List.getElem?_eq_getElem hk,ha']
  have hx:∀b:Bool,b=true→0≤(k:Int)∧(l.map eAmt)[((k:Int)).toNat]?=some (eAmt a):=fun _ _=>⟨by omega,by simp [ha]⟩
  repeat first | refine ⟨id,?_⟩ | refine ⟨fun _ h=>bw_f h,?_⟩ | refine ⟨fun _ h=>bw_t h,?_⟩ | refine ⟨eAmt a,hx _,?_⟩
  refine ⟨fun h=>?_,fun h=>?_⟩
  ·have hb:amtBad n a=true:=h
   exact ⟨DV.Le.of_eq (by rw [amtsOk,all_at ha hb]),tv⟩
  ·have hb:amtBad n a=false:=h
   exact ⟨fun _=>⟨by omega,by omega⟩,k+1,⟨⟨rf,rf,le_int (by omega),tv⟩,tv,rfl,rfl⟩,⟨by omega,all_take ha hk2 hb⟩,by dsimp only; omega⟩
 ·have hk:k=l.length:=by
   have:¬ k<l.length:=by simpa using h
   omega
  subst hk
  rw [List.take_length] at hk2
  exact ⟨DV.Le.of_eq (by rw [amtsOk,hk2]),tv⟩
def badTop (d:Dea) (x:Sta):Bool:=bif (bif (bif decide (x.wait<0) then true else bif decide (0<x.wait) then (bif decide (x.late<0) then true else decide ((d.states.length:Int)≤x.late)) else false) then true else (bif x.final then (bif decide (0<(x.opts.length:Int)) then true else decide (0<x.wait)) else false)) then true else bif !x.final then decide (0<(x.gives.length:Int)) else false
def optBad (n:Int) (d:Dea) (o:Opt):Bool:=bif (bif (bif (bif !amtsOk n o.put then true else decide (o.party<0)) then true else decide ((d.parties.length:Int)≤o.party)) then true else decide (o.next<0)) then true else decide ((d.states.length:Int)≤o.next)
def givBad (n:Int) (d:Dea) (g:Giv):Bool:=bif (bif !amtsOk n [(g.item,g.n)] then true else decide (g.party<0)) then true else decide ((d.parties.length:Int)≤g.party)
def staBad (n:Int) (d:Dea) (x:Sta):Bool:=badTop d x || x.opts.any (optBad n d) || x.gives.any (givBad n d)
theorem not_all {α:Type} {l:List α} {f:α→Bool}:l.any f=!l.all (fun a=>!f a):=by
 induction l with
 | nil=>rfl
 | cons x r ih=>simp [ih]
set_option maxHeartbeats 4000000 in
theorem state1_spec (n:Int) (d:Dea) (x:Sta) (ho:x.opts.length≤1000) (hp:∀o,o∈x.opts→o.put.length≤1000) (hg:x.gives.length≤100000):PSpec Try.prog 84 [I n,eDea d,eSta x] [B (!staBad n d x)]:=by
 refine pspec_of tab_ok mixed (calls_snd _) (range_snd _) Try.func84 rfl (by kernel_rfl) rfl ?_
 repeat first | refine ⟨id,?_⟩ | refine ⟨fun _ h=>bw_f h,?_⟩ | refine ⟨fun _ h=>bw_t h,?_⟩ | refine ⟨fun h=>⟨h,fun h2=>bw_and h h2⟩,?_⟩ | refine ⟨fun h=>⟨h,fun h2=>bw_andf h h2⟩,?_⟩
 refine ⟨fun h=>?_,fun h=>?_⟩
 ·have hb:badTop d x=true:=by simpa [badTop] using h
  exact ⟨DV.Le.of_eq (by rw [staBad,hb]; rfl),tv⟩
 have hb:badTop d x=false:=by simpa [badTop] using h
 clear h
 refine ⟨Nat,fun k=>⟨2,[(0,.dv (I n)),(4,.ptr 0 0),(5,.ptr 1 0),(7,.dv (I k))],[(0,.cells (dvs (dcells d))),(1,.cells (dvs (eSta x).cells))]⟩,fun k=>k≤x.opts.length∧(x.opts.take k).all (fun a=>!optBad n d a)=true,fun k=>x.opts.length - k,0,fun _=>rfl,?_,⟨by omega,by simp⟩,?_⟩
 ·exact ⟨⟨rf,rfl,rfl,rf,tv⟩,⟨subWs_dvs _ _ _ (dcells d),subWs_dvs _ _ _ (eSta x).cells,tv⟩,rfl,rfl⟩
 rintro k ⟨hk1,hk2⟩
 refine ⟨fun h=>?_,fun h=>?_⟩
 ·have hk:k<x.opts.length:=by simpa using h
  clear h
  generalize ha':x.opts[k]=a at *
  have ha:x.opts[k]?=some a:=by rw [List.getElem?_eq_getElem hk,ha']
  have hpl:=hp a (List.mem_of_getElem? ha)
  refine ⟨eOpt a,fun _=>⟨by omega,by simp [ha]⟩,.inl ⟨_,fun _=>(amounts1_spec n a.put (by omega)).ok,?_⟩⟩
  repeat first | refine ⟨id,?_⟩ | refine ⟨fun _ h=>bw_f h,?_⟩ | refine ⟨fun _ h=>bw_t h,?_⟩ | refine ⟨fun h=>⟨h,fun h2=>bw_and h h2⟩,?_⟩ | refine ⟨fun h=>⟨h,fun h2=>bw_andf h h2⟩,?_⟩
  refine ⟨fun h=>?_,fun h=>?_⟩
  ·have hb2:optBad n d a=true:=by simpa [optBad] using h
   exact ⟨DV.Le.of_eq (by rw [staBad,not_all,all_at ha hb2]; simp),tv⟩
  ·have hb2:optBad n d a=false:=by simpa [optBad] using h
   exact ⟨fun _=>⟨by omega,by omega⟩,k+1,⟨⟨rf,rfl,rfl,le_int (by omega),tv⟩,⟨subWs_dvs _ _ _ (dcells d),subWs_dvs _ _ _ (eSta x).cells,tv⟩,rfl,rfl⟩,⟨by omega,all_take ha hk2 hb2⟩,by dsimp only; omega⟩
 have hk:k=x.opts.length:=by
  have:¬ k<x.opts.length:=by simpa using h
  omega
 clear h
 subst hk
 rw [List.take_length] at hk2
 refine ⟨Nat,fun k=>⟨2,[(0,.dv (I n)),(4,.ptr 0 0),(5,.ptr 1 0),(10,.dv (I k))],[(0,.cells (dvs (dcells d))),(1,.cells (dvs (eSta x).cells))]⟩,fun k=>k≤x.gives.length∧(x.gives.take k).all (fun a=>!givBad n d a)=true,fun k=>x.gives.length - k,0,fun _=>rfl,?_,⟨by omega,by simp⟩,?_⟩
 ·exact ⟨⟨rf,rfl,rfl,rf,tv⟩,⟨subWs_dvs _ _ _ (dcells d),subWs_dvs _ _ _ (eSta x).cells,tv⟩,rfl,rfl⟩
 rintro k ⟨hk1,hk3⟩
 refine ⟨fun h=>?_,fun h=>?_⟩
 ·have hk:k<x.gives.length:=by simpa using h
  clear h
  generalize ha':x.gives[k]=a at *
  have ha:x.gives[k]?=some a:=by rw [List.getElem?_eq_getElem hk,ha']
  have hx:∀b:Bool,b=true→0≤(k:Int)∧(x.gives.map eGiv)[((k:Int)).toNat]?=some (eGiv a):=fun _ _=>⟨by omega,by simp [ha]⟩
  refine ⟨eGiv a,hx _,?_⟩
  refine .inl ⟨[eAmt (a.item,a.n)],rfl,⟨rf,rf,tv⟩,fun y hy=>(by rcases List.mem_singleton.1 hy with rfl; rfl),.inl ⟨_,fun _=>(amounts1_spec n [(a.item,a.n)] (by simp)).ok,?_⟩⟩
  repeat first | refine ⟨id,?_⟩ | refine ⟨fun _ h=>bw_f h,?_⟩ | refine ⟨fun _ h=>bw_t h,?_⟩ | refine ⟨fun h=>⟨h,fun h2=>bw_and h h2⟩,?_⟩ | refine ⟨fun h=>⟨h,fun h2=>bw_andf h h2⟩,?_⟩ | refine ⟨eGiv a,hx _,?_⟩
  refine ⟨by kernel_rfl,fun h=>?_,fun h=>?_⟩
  ·have hb2:givBad n d a=true:=by simpa [givBad] using h
   exact ⟨DV.Le.of_eq (by rw [staBad,not_all,not_all,all_at ha hb2]; simp),tv⟩
  ·have hb2:givBad n d a=false:=by simpa [givBad] using h
   exact ⟨fun _=>⟨by omega,by omega⟩,k+1,⟨⟨rf,rfl,rfl,le_int (by omega),tv⟩,⟨subWs_dvs _ _ _ (dcells d),subWs_dvs _ _ _ (eSta x).cells,tv⟩,rfl,rfl⟩,⟨by omega,all_take ha hk3 hb2⟩,by dsimp only; omega⟩
 ·have hk:k=x.gives.length:=by
   have:¬ k<x.gives.length:=by simpa using h
   omega
  subst hk
  rw [List.take_length] at hk3
  exact ⟨DV.Le.of_eq (by rw [staBad,not_all,not_all,hk2,hk3,hb]; rfl),tv⟩
def badAll (n:Int) (d:Dea):Bool:=bif (bif (bif (bif (bif decide (n<0) then true else decide (64<n)) then true else decide ((d.parties.length:Int)<1)) then true else decide (4<(d.parties.length:Int))) then true else decide ((d.states.length:Int)<1)) then true else decide (32<(d.states.length:Int))
def malf (n:Int) (d:Dea):Option Nat:=if badAll n d then some 0 else d.states.findIdx? (staBad n d)
def eMalf:Option Nat→List DV
 | some s=>[I s,B true]
 | none=>[I 0,B false]
structure Parts (d:Dea):Prop where
 st:d.states.length≤1000
 op:∀x,x∈d.states→x.opts.length≤1000
 pu:∀x,x∈d.states→∀o,o∈x.opts→o.put.length≤1000
 gi:∀x,x∈d.states→x.gives.length≤100000
theorem findIdx_at {α:Type} {l:List α} {f:α→Bool} {k:Nat} {x:α} (hx:l[k]?=some x) (h:(l.take k).all (fun a=>!f a)=true) (hf:f x=true):l.findIdx? f=some k:=by
 have hk:k<l.length:=(List.getElem?_eq_some_iff.1 hx).1
 rw [List.findIdx?_eq_some_iff_getElem]
 refine ⟨hk,?_,fun j hj=>?_⟩
 ·rw [List.getElem?_eq_getElem hk] at hx; injection hx with hx; rw [hx]; exact hf
 ·rw [List.all_eq_true] at h
  have:=h l[j] (by rw [List.mem_take_iff_getElem]; exact ⟨j,by omega,rfl⟩)
  simpa using this
theorem findIdx_no {α:Type} {l:List α} {f:α→Bool} (h:l.all (fun a=>!f a)=true):l.findIdx? f=none:=by
 rw [List.findIdx?_eq_none_iff]
 intro x hx
 rw [List.all_eq_true] at h
 simpa using h x hx
set_option maxHeartbeats 4000000 in
theorem malformed_spec (n:Int) (d:Dea) (hs:Parts d):PSpec Try.prog 61 [I n,eDea d] (eMalf (malf n d)):=by
 refine pspec_of tab_ok mixed (calls_snd _) (range_snd _) Try.func61 rfl (by kernel_rfl) rfl ?_
 repeat first | refine ⟨id,?_⟩ | refine ⟨fun _ h=>bw_f h,?_⟩ | refine ⟨fun _ h=>bw_t h,?_⟩ | refine ⟨fun h=>⟨h,fun h2=>bw_and h h2⟩,?_⟩ | refine ⟨fun h=>⟨h,fun h2=>bw_andf h h2⟩,?_⟩
 refine ⟨fun h=>?_,fun h=>?_⟩
 ·have hb:badAll n d=true:=by simpa [badAll] using h
  rw [malf,if_pos hb]
  exact ⟨rf,rf,tv⟩
 have hb:badAll n d=false:=by simpa [badAll] using h
 clear h
 have hst:=hs.st
 refine ⟨Nat,fun k=>⟨1,[(0,.dv (I n)),(3,.ptr 0 0),(6,.dv (I k))],[(0,.cells (dvs (dcells d)))]⟩,fun k=>k≤d.states.length∧(d.states.take k).all (fun a=>!staBad n d a)=true,fun k=>d.states.length - k,0,fun _=>rfl,?_,⟨by omega,by simp⟩,?_⟩
 ·exact ⟨⟨rf,rfl,rf,tv⟩,⟨subWs_dvs _ _ _ (dcells d),tv⟩,rfl,rfl⟩
 rintro k ⟨hk1,hk2⟩
 refine ⟨fun h=>?_,fun h=>?_⟩
 ·have hk:k<d.states.length:=by simpa using h
  clear h
  generalize ha':d.states[k]=a at *
  have ha:d.states[k]?=some a:=by rw [List.getElem?_eq_getElem hk,ha']
  have hm:=List.mem_of_getElem? ha
  refine ⟨eSta a,fun _=>⟨by omega,by simp [ha]⟩,.inl ⟨_,fun _=>(state1_spec n d a (hs.op a hm) (hs.pu a hm) (hs.gi a hm)).ok,by kernel_rfl,?_⟩⟩
  refine ⟨fun h=>?_,fun h=>?_⟩
  ·have hb2:staBad n d a=true:=by simpa using h
   rw [malf,if_neg (by simp [hb]),findIdx_at ha hk2 hb2]
   exact ⟨rf,rf,tv⟩
  ·have hb2:staBad n d a=false:=by simpa using h
   exact ⟨fun _=>⟨by omega,by omega⟩,k+1,⟨⟨rf,rfl,le_int (by omega),tv⟩,⟨subWs_dvs _ _ _ (dcells d),tv⟩,rfl,rfl⟩,⟨by omega,all_take ha hk2 hb2⟩,by dsimp only; omega⟩
 have hk:k=d.states.length:=by
  have:¬ k<d.states.length:=by simpa using h
  omega
 clear h
 subst hk
 rw [List.take_length] at hk2
 rw [malf,if_neg (by simp [hb]),findIdx_no hk2]
 exact ⟨rf,rf,tv⟩
end Go.Proofs.Ytfcfbfkjdenpdaa
namespace Go.Proofs.Ytfcfbfkjdenpdaa
open Go.TM
def partyOk (d:Dea) (i:Int):Bool:=bif decide (0≤i) then decide (i<(d.parties.length:Int)) else false
theorem isParty_spec (d:Dea) (i:Int):CSpec Try.prog 95 [.dv (I i),.ptr 0 0] 1 [(0,.cells (dvs (dcells d)))] 0 [.dv (B (partyOk d i))] [(0,.cells (dvs (dcells d)))]:=by
 refine cspec_of tab_ok mixed (calls_snd _) (range_snd _) Try.func95 rfl rfl (by kernel_rfl) ?_
 refine ⟨id,id,id,id,fun _ h=>bw_t h,_,_,⟨rfl,rfl⟩,rfl,⟨DV.Le.of_eq ?_,tv⟩,subWs_dvs _ _ _ (dcells d),tv⟩
 simp only [partyOk,List.length_map]
theorem isState_spec (d:Dea) (i:Int):CSpec Try.prog 96 [.dv (I i),.ptr 0 0] 1 [(0,.cells (dvs (dcells d)))] 0 [.dv (B (okNext d i))] [(0,.cells (dvs (dcells d)))]:=by
 refine cspec_of tab_ok mixed (calls_snd _) (range_snd _) Try.func96 rfl rfl (by kernel_rfl) ?_
 refine ⟨id,id,id,id,fun _ h=>bw_t h,_,_,⟨rfl,rfl⟩,rfl,⟨DV.Le.of_eq ?_,tv⟩,subWs_dvs _ _ _ (dcells d),tv⟩
 simp only [okNext,List.length_map]
 cases decide (0≤i) <;> rfl
theorem isAmount_spec (n:Int) (a:Int × Int):CSpec Try.prog 97 [.agg (dvs [I a.1,I a.2]),.ptr 0 0] 1 [(0,.cells [.dv (I n)])] 0 [.dv (B (!amtBad n a))] [(0,.cells [.dv (I n)])]:=by
 refine cspec_of tab_ok mixed (calls_snd _) (range_snd _) Try.func97 rfl rfl (by kernel_rfl) ?_
 repeat first | refine ⟨id,?_⟩ | refine ⟨fun _ h=>bw_f h,?_⟩ | refine ⟨fun _ h=>bw_t h,?_⟩ | refine ⟨fun h=>⟨h,fun h2=>bw_and h h2⟩,?_⟩ | refine ⟨fun h=>⟨h,fun h2=>bw_andf h h2⟩,?_⟩
 refine ⟨_,_,⟨rfl,rfl⟩,rfl,⟨DV.Le.of_eq ?_,tv⟩,⟨rf,tv⟩,tv⟩
 congr 1
 simp only [amtBad]
 by_cases h1:a.1<0
 ·simp [h1,show ¬ 0≤a.1 by omega]
 ·by_cases h2:n≤a.1
  ·simp [h1,h2,show ¬ a.1<n by omega]
  ·by_cases h3:a.2<1
   ·simp [h1,h2,h3,show ¬ 1≤a.2 by omega]
   ·by_cases h4:1099511627776<a.2
    ·simp [h1,h2,h3,h4,show ¬ a.2≤1099511627776 by omega]
    ·simp [h1,h2,h3,h4,show 0≤a.1 by omega,show a.1<n by omega,show 1≤a.2 by omega,show a.2≤1099511627776 by omega]
def top1 (d:Dea) (x:Sta):Bool:=bif decide (x.wait<0) then true else bif decide (0<x.wait) then !okNext d x.late else false
def top2 (x:Sta):Bool:=bif (bif x.final then (bif decide (0<(x.opts.length:Int)) then true else (x.wait != 0)) else false) then true else bif !x.final then decide (0<(x.gives.length:Int)) else false
theorem badTop_eq (d:Dea) (x:Sta):badTop d x=(top1 d x || top2 x):=by
 simp only [badTop,top1,top2,okNext]
 by_cases h1:x.wait<0
 ·simp [h1]
 ·by_cases h2:0<x.wait
  ·have h3:x.wait ≠ 0:=by omega
   by_cases h4:x.late<0
   ·simp [h1,h2,h4]
   ·by_cases h5:(d.states.length:Int)≤x.late
    ·simp [h1,h2,h4,h5]
    ·cases x.final <;> simp [h1,h2,h3,h4,h5,show 0≤x.late by omega,show x.late<d.states.length by omega]
  ·have h3:x.wait=0:=by omega
   cases x.final <;> simp [h3]
theorem optBad_eq (n:Int) (d:Dea) (o:Opt):optBad n d o=(!amtsOk n o.put || !partyOk d o.party || !okNext d o.next):=by
 simp only [optBad,partyOk,okNext]
 cases amtsOk n o.put with
 | false=>simp
 | true =>
  by_cases h1:o.party<0
  ·simp [h1,show ¬ 0≤o.party by omega]
  ·by_cases h2:(d.parties.length:Int)≤o.party
   ·simp [h1,h2,show ¬ o.party<d.parties.length by omega]
   ·by_cases h3:o.next<0
    ·simp [h1,h2,h3]
    ·by_cases h4:o.next<d.states.length
     ·simp [h1,h2,h3,h4,show ¬ (d.states.length:Int)≤o.next by omega,show 0≤o.party by omega,show o.party<d.parties.length by omega,show 0≤o.next by omega]
     ·simp [h1,h2,h3,h4,show (d.states.length:Int)≤o.next by omega]
theorem givBad_eq (n:Int) (d:Dea) (g:Giv):givBad n d g=(amtBad n (g.item,g.n) || !partyOk d g.party):=by
 simp only [givBad,partyOk,amtsOk,List.all_cons,List.all_nil,Bool.and_true,Bool.not_not]
 cases amtBad n (g.item,g.n) with
 | true=>simp
 | false =>
  by_cases h1:g.party<0
  ·simp [h1,show ¬ 0≤g.party by omega]
  ·by_cases h4:g.party<d.parties.length
   ·simp [h1,h4,show ¬ (d.parties.length:Int)≤g.party by omega,show 0≤g.party by omega]
   ·simp [h1,h4,show (d.parties.length:Int)≤g.party by omega]
set_option maxHeartbeats 4000000 in
theorem wellFormed_spec (n:Int) (d:Dea) (x:Sta) (ho:x.opts.length≤1000) (hp:∀o,o∈x.opts→o.put.length≤1000) (hg:x.gives.length≤100000):PSpec Try.prog 80 [I n,eDea d,eSta x] [B (!staBad n d x)]:=by
 refine pspec_of tab_ok mixed (calls_snd _) (range_snd _) Try.func80 rfl (by kernel_rfl) rfl ?_
 repeat first | refine ⟨id,?_⟩ | refine ⟨fun _ h=>bw_f h,?_⟩ | refine ⟨fun _ h=>bw_t h,?_⟩ | refine ⟨fun h=>⟨h,fun h2=>bw_and h h2⟩,?_⟩ | refine ⟨fun h=>⟨h,fun h2=>bw_andf h h2⟩,?_⟩
 refine if hw:0<x.wait then
  have hw0:¬ x.wait<0:=by omega
  have hgd:(bw (decide (x.wait<0)) false && bw (decide (0<x.wait)) true)=true:=by simp [bw,hw,hw0]
  .inr ⟨[1],[.dv (I x.late),.ptr 0 0],[(0,.cells (dvs (dcells d)))],0,_,_,isState_spec d x.late,rfl,rfl,⟨rf,rfl,tv⟩,⟨subWs_dvs _ _ _ (dcells d),tv⟩,hgd,?_⟩
 else
  have hgd:(bw (decide (x.wait<0)) false && bw (decide (0<x.wait)) true)=false:=by simp [bw,hw]
  .inl ⟨hgd,[B false],(fun h=>absurd (hgd.symm.trans h) (by decide)),rfl,?_⟩
 all_goals
  repeat first | refine ⟨id,?_⟩ | refine ⟨fun _ h=>bw_f h,?_⟩ | refine ⟨fun _ h=>bw_t h,?_⟩ | refine ⟨fun h=>⟨h,fun h2=>bw_and h h2⟩,?_⟩ | refine ⟨fun h=>⟨h,fun h2=>bw_andf h h2⟩,?_⟩ | refine ⟨fun _=>rfl,?_⟩
  refine ⟨fun h=>?_,fun h=>?_⟩
  ·have h1:top1 d x=true:=by simpa [top1,hw] using h
   exact ⟨DV.Le.of_eq (by rw [staBad,badTop_eq,h1]; rfl),tv⟩
  have h1:top1 d x=false:=by simpa [top1,hw] using h
  clear h
  repeat first | refine ⟨id,?_⟩ | refine ⟨fun _ h=>bw_f h,?_⟩ | refine ⟨fun _ h=>bw_t h,?_⟩ | refine ⟨fun h=>⟨h,fun h2=>bw_and h h2⟩,?_⟩ | refine ⟨fun h=>⟨h,fun h2=>bw_andf h h2⟩,?_⟩ | refine ⟨fun _=>rfl,?_⟩
  refine ⟨fun h=>?_,fun h=>?_⟩
  ·have h2:top2 x=true:=by simpa [top2] using h
   exact ⟨DV.Le.of_eq (by rw [staBad,badTop_eq,h1,h2]; rfl),tv⟩
  have h2:top2 x=false:=by simpa [top2] using h
  clear h
  have hb:badTop d x=false:=by rw [badTop_eq,h1,h2]; rfl
  refine ⟨Nat,fun k=>⟨3,[(7,.fn 95 [.ptr 1 0]),(8,.fn 96 [.ptr 1 0]),(9,.fn 97 [.ptr 0 0]),(5,.ptr 2 0),(59,.dv (.sl 3 (x.opts.map eOpt))),(60,.dv (I x.opts.length)),(61,.dv (I k))],[(0,.cells [.dv (I n)]),(1,.cells (dvs (dcells d))),(2,.cells (dvs (eSta x).cells))]⟩,fun k=>k≤x.opts.length∧(x.opts.take k).all (fun a=>!optBad n d a)=true,fun k=>x.opts.length - k,0,fun _=>rfl,?_,⟨by omega,by simp⟩,?_⟩
  ·exact ⟨⟨⟨rfl,rfl,tv⟩,⟨rfl,rfl,tv⟩,⟨rfl,rfl,tv⟩,rfl,rf,le_int (by simp),rf,tv⟩,⟨⟨rf,tv⟩,subWs_dvs _ _ _ (dcells d),subWs_dvs _ _ _ (eSta x).cells,tv⟩,rfl,rfl⟩
  rintro k ⟨hk1,hk2⟩
  refine ⟨fun h=>?_,fun h=>?_⟩
  ·have hk:k<x.opts.length:=by
    have:(k:Int)<x.opts.length:=of_decide_eq_true h
    omega
   clear h
   generalize ha':x.opts[k]=a at *
   have ha:x.opts[k]?=some a:=by rw [List.getElem?_eq_getElem hk,ha']
   have hpl:=hp a (List.mem_of_getElem? ha)
   refine ⟨eOpt a,fun _=>⟨by omega,by simp [ha]⟩,?_⟩
   refine .inr ⟨[1],[.dv (I a.party),.ptr 0 0],[(0,.cells (dvs (dcells d)))],0,_,_,isParty_spec d a.party,rfl,rfl,⟨rf,rfl,tv⟩,⟨subWs_dvs _ _ _ (dcells d),tv⟩,?_⟩
   have hob:=optBad_eq n d a
   generalize partyOk d a.party=e at hob ⊢
   cases e
   ·refine ⟨id,id,id,.inl ⟨rfl,[B false],(fun h=>by cases h),rfl,?_⟩⟩
    repeat first | refine ⟨id,?_⟩ | refine ⟨fun _ h=>bw_f h,?_⟩ | refine ⟨fun _ h=>bw_t h,?_⟩ | refine ⟨fun h=>⟨h,fun h2=>bw_and h h2⟩,?_⟩ | refine ⟨fun h=>⟨h,fun h2=>bw_andf h h2⟩,?_⟩ | refine ⟨fun _=>rfl,?_⟩
    refine ⟨fun _=>?_,fun h=>by cases h⟩
    have hb2:optBad n d a=true:=by rw [hob]; simp
    exact ⟨DV.Le.of_eq (by rw [staBad,not_all,all_at ha hb2]; simp),tv⟩
   ·refine ⟨id,id,id,.inr ⟨[1],[.dv (I a.next),.ptr 0 0],[(0,.cells (dvs (dcells d)))],0,_,_,isState_spec d a.next,rfl,rfl,⟨rf,rfl,tv⟩,⟨subWs_dvs _ _ _ (dcells d),tv⟩,rfl,?_⟩⟩
    generalize okNext d a.next=e2 at hob ⊢
    refine ⟨fun _=>rfl,fun _ _=>rfl,fun h=>?_,fun h=>?_⟩
    ·have he:e2=false:=by simpa using h
     have hb2:optBad n d a=true:=by rw [hob,he]; simp
     exact ⟨DV.Le.of_eq (by rw [staBad,not_all,all_at ha hb2]; simp),tv⟩
    have he:e2=true:=by simpa using h
    clear h
    rw [he] at hob
    refine ⟨Nat,fun j=>⟨4,[(7,.fn 95 [.ptr 1 0]),(8,.fn 96 [.ptr 1 0]),(9,.fn 97 [.ptr 0 0]),(5,.ptr 2 0),(59,.dv (.sl 3 (x.opts.map eOpt))),(60,.dv (I x.opts.length)),(61,.dv (I k)),(78,.dv (ePut a.put)),(79,.dv (I a.put.length)),(80,.dv (I j))],[(0,.cells [.dv (I n)]),(1,.cells (dvs (dcells d))),(2,.cells (dvs (eSta x).cells))]⟩,fun j=>j≤a.put.length∧(a.put.take j).all (fun a=>!amtBad n a)=true,fun j=>a.put.length - j,0,fun _=>rfl,?_,⟨by omega,by simp⟩,?_⟩
    ·exact ⟨⟨⟨rfl,rfl,tv⟩,⟨rfl,rfl,tv⟩,⟨rfl,rfl,tv⟩,rfl,rf,rf,rf,rf,le_int (by simp),rf,tv⟩,⟨⟨rf,tv⟩,subWs_dvs _ _ _ (dcells d),subWs_dvs _ _ _ (eSta x).cells,tv⟩,rfl,rfl⟩
    rintro j ⟨hj1,hj2⟩
    refine ⟨fun h=>?_,fun h=>?_⟩
    ·have hj:j<a.put.length:=by
      have:(j:Int)<a.put.length:=of_decide_eq_true h
      omega
     clear h
     generalize hm':a.put[j]=m at *
     have hm:a.put[j]?=some m:=by rw [List.getElem?_eq_getElem hj,hm']
     refine ⟨eAmt m,fun _=>⟨by omega,by simp [hm]⟩,?_⟩
     refine .inr ⟨[0],[.agg (dvs [I m.1,I m.2]),.ptr 0 0],[(0,.cells [.dv (I n)])],0,_,_,isAmount_spec n m,rfl,rfl,⟨⟨rf,rf,tv⟩,rfl,tv⟩,⟨⟨rf,tv⟩,tv⟩,?_⟩
     refine ⟨fun h=>?_,fun h=>?_⟩
     ·have hm2:amtBad n m=true:=by simpa using h
      have hb2:optBad n d a=true:=by rw [hob,amtsOk,all_at hm hm2]; rfl
      exact ⟨DV.Le.of_eq (by rw [staBad,not_all,all_at ha hb2]; simp),tv⟩
     ·have hm2:amtBad n m=false:=by simpa using h
      exact ⟨fun _=>⟨by omega,by omega⟩,j+1,⟨⟨⟨rfl,rfl,tv⟩,⟨rfl,rfl,tv⟩,⟨rfl,rfl,tv⟩,rfl,rf,rf,rf,rf,rf,le_int (by omega),tv⟩,⟨⟨rf,tv⟩,subWs_dvs _ _ _ (dcells d),subWs_dvs _ _ _ (eSta x).cells,tv⟩,rfl,rfl⟩,⟨by omega,all_take hm hj2 hm2⟩,by dsimp only; omega⟩
    ·have hj:j=a.put.length:=by
      have:¬ (j:Int)<a.put.length:=of_decide_eq_false h
      omega
     clear h
     subst hj
     rw [List.take_length] at hj2
     have hb2:optBad n d a=false:=by rw [hob,amtsOk,hj2]; rfl
     exact ⟨fun _=>⟨by omega,by omega⟩,k+1,⟨⟨⟨rfl,rfl,tv⟩,⟨rfl,rfl,tv⟩,⟨rfl,rfl,tv⟩,rfl,rf,rf,le_int (by omega),tv⟩,⟨⟨rf,tv⟩,subWs_dvs _ _ _ (dcells d),subWs_dvs _ _ _ (eSta x).cells,tv⟩,rfl,rfl⟩,⟨by omega,all_take ha hk2 hb2⟩,by dsimp only; omega⟩
  have hk:k=x.opts.length:=by
   have:¬ (k:Int)<x.opts.length:=of_decide_eq_false h
   omega
  clear h
  subst hk
  rw [List.take_length] at hk2
  refine ⟨Nat,fun k=>⟨3,[(7,.fn 95 [.ptr 1 0]),(8,.fn 96 [.ptr 1 0]),(9,.fn 97 [.ptr 0 0]),(5,.ptr 2 0),(91,.dv (.sl 3 (x.gives.map eGiv))),(92,.dv (I x.gives.length)),(93,.dv (I k))],[(0,.cells [.dv (I n)]),(1,.cells (dvs (dcells d))),(2,.cells (dvs (eSta x).cells))]⟩,fun k=>k≤x.gives.length∧(x.gives.take k).all (fun a=>!givBad n d a)=true,fun k=>x.gives.length - k,0,fun _=>rfl,?_,⟨by omega,by simp⟩,?_⟩
  ·exact ⟨⟨⟨rfl,rfl,tv⟩,⟨rfl,rfl,tv⟩,⟨rfl,rfl,tv⟩,rfl,rf,le_int (by simp),rf,tv⟩,⟨⟨rf,tv⟩,subWs_dvs _ _ _ (dcells d),subWs_dvs _ _ _ (eSta x).cells,tv⟩,rfl,rfl⟩
  rintro k ⟨hk1,hk3⟩
  refine ⟨fun h=>?_,fun h=>?_⟩
  ·have hk:k<x.gives.length:=by
    have:(k:Int)<x.gives.length:=of_decide_eq_true h
    omega
   clear h
   generalize ha':x.gives[k]=a at *
   have ha:x.gives[k]?=some a:=by rw [List.getElem?_eq_getElem hk,ha']
   refine ⟨eGiv a,fun _=>⟨by omega,by simp [ha]⟩,?_⟩
   refine .inr ⟨[1],[.dv (I a.party),.ptr 0 0],[(0,.cells (dvs (dcells d)))],0,_,_,isParty_spec d a.party,rfl,rfl,⟨rf,rfl,tv⟩,⟨subWs_dvs _ _ _ (dcells d),tv⟩,?_⟩
   have hob:=givBad_eq n d a
   generalize partyOk d a.party=e at hob ⊢
   cases e
   ·refine ⟨id,id,id,.inl ⟨rfl,[B false],(fun h=>by cases h),rfl,?_⟩⟩
    repeat first | refine ⟨id,?_⟩ | refine ⟨fun _ h=>bw_f h,?_⟩ | refine ⟨fun _ h=>bw_t h,?_⟩ | refine ⟨fun h=>⟨h,fun h2=>bw_and h h2⟩,?_⟩ | refine ⟨fun h=>⟨h,fun h2=>bw_andf h h2⟩,?_⟩ | refine ⟨fun _=>rfl,?_⟩
    refine ⟨fun _=>?_,fun h=>by cases h⟩
    have hb2:givBad n d a=true:=by rw [hob]; simp
    exact ⟨DV.Le.of_eq (by rw [staBad,not_all,not_all,all_at ha hb2]; simp),tv⟩
   ·refine ⟨id,id,id,.inr ⟨[0],[.agg (dvs [I a.item,I a.n]),.ptr 0 0],[(0,.cells [.dv (I n)])],0,_,_,isAmount_spec n (a.item,a.n),rfl,rfl,⟨⟨rf,rf,tv⟩,rfl,tv⟩,⟨⟨rf,tv⟩,tv⟩,rfl,?_⟩⟩
    generalize amtBad n (a.item,a.n)=e2 at hob ⊢
    refine ⟨fun _=>rfl,fun _ _=>rfl,fun h=>?_,fun h=>?_⟩
    ·have he:e2=true:=by simpa using h
     have hb2:givBad n d a=true:=by rw [hob,he]; simp
     exact ⟨DV.Le.of_eq (by rw [staBad,not_all,not_all,all_at ha hb2]; simp),tv⟩
    ·have he:e2=false:=by simpa using h
     have hb2:givBad n d a=false:=by rw [hob,he]; simp
     exact ⟨fun _=>⟨by omega,by omega⟩,k+1,⟨⟨⟨rfl,rfl,tv⟩,⟨rfl,rfl,tv⟩,⟨rfl,rfl,tv⟩,rfl,rf,rf,le_int (by omega),tv⟩,⟨⟨rf,tv⟩,subWs_dvs _ _ _ (dcells d),subWs_dvs _ _ _ (eSta x).cells,tv⟩,rfl,rfl⟩,⟨by omega,all_take ha hk3 hb2⟩,by dsimp only; omega⟩
  ·have hk:k=x.gives.length:=by
    have:¬ (k:Int)<x.gives.length:=of_decide_eq_false h
    omega
   subst hk
   rw [List.take_length] at hk3
   exact ⟨DV.Le.of_eq (by rw [staBad,not_all,not_all,hk2,hk3,hb]; rfl),tv⟩
set_option maxHeartbeats 4000000 in
theorem faulty_spec (n:Int) (d:Dea) (hs:Parts d):PSpec Try.prog 57 [I n,eDea d] (eMalf (malf n d)):=by
 refine pspec_of tab_ok mixed (calls_snd _) (range_snd _) Try.func57 rfl (by kernel_rfl) rfl ?_
 repeat first | refine ⟨id,?_⟩ | refine ⟨fun _ h=>bw_f h,?_⟩ | refine ⟨fun _ h=>bw_t h,?_⟩ | refine ⟨fun h=>⟨h,fun h2=>bw_and h h2⟩,?_⟩ | refine ⟨fun h=>⟨h,fun h2=>bw_andf h h2⟩,?_⟩
 refine ⟨fun h=>?_,fun h=>?_⟩
 ·have hb:badAll n d=true:=by simpa [badAll] using h
  rw [malf,if_pos hb]
  exact ⟨rf,rf,tv⟩
 have hb:badAll n d=false:=by simpa [badAll] using h
 clear h
 have hst:=hs.st
 refine ⟨Nat,fun k=>⟨1,[(0,.dv (I n)),(3,.ptr 0 0),(39,.dv (.sl 6 (d.states.map eSta))),(40,.dv (I d.states.length)),(41,.dv (I k))],[(0,.cells (dvs (dcells d)))]⟩,fun k=>k≤d.states.length∧(d.states.take k).all (fun a=>!staBad n d a)=true,fun k=>d.states.length - k,0,fun _=>rfl,?_,⟨by omega,by simp⟩,?_⟩
 ·exact ⟨⟨rf,rfl,rf,le_int (by simp),rf,tv⟩,⟨subWs_dvs _ _ _ (dcells d),tv⟩,rfl,rfl⟩
 rintro k ⟨hk1,hk2⟩
 refine ⟨fun h=>?_,fun h=>?_⟩
 ·have hk:k<d.states.length:=by
   have:(k:Int)<d.states.length:=of_decide_eq_true h
   omega
  clear h
  generalize ha':d.states[k]=a at *
  have ha:d.states[k]?=some a:=by rw [List.getElem?_eq_getElem hk,ha']
  have hm:=List.mem_of_getElem? ha
  refine ⟨eSta a,fun _=>⟨by omega,by simp [ha]⟩,.inl ⟨_,fun _=>(wellFormed_spec n d a (hs.op a hm) (hs.pu a hm) (hs.gi a hm)).ok,?_⟩⟩
  refine ⟨fun h=>?_,fun h=>?_⟩
  ·have hb2:staBad n d a=true:=by simpa using h
   rw [malf,if_neg (by simp [hb]),findIdx_at ha hk2 hb2]
   exact ⟨rf,rf,tv⟩
  ·have hb2:staBad n d a=false:=by simpa using h
   exact ⟨fun _=>⟨by omega,by omega⟩,k+1,⟨⟨rf,rfl,rf,rf,le_int (by omega),tv⟩,⟨subWs_dvs _ _ _ (dcells d),tv⟩,rfl,rfl⟩,⟨by omega,all_take ha hk2 hb2⟩,by dsimp only; omega⟩
 have hk:k=d.states.length:=by
  have:¬ (k:Int)<d.states.length:=of_decide_eq_false h
  omega
 clear h
 subst hk
 rw [List.take_length] at hk2
 rw [malf,if_neg (by simp [hb]),findIdx_no hk2]
 exact ⟨rf,rf,tv⟩
end Go.Proofs.Ytfcfbfkjdenpdaa
namespace Go.Proofs.Ytfcfbfkjdenpdaa
open Go.TM
structure Fau where
 code:Int
 state:Int
 party:Int
 way:List Int
def eFau (f:Fau):DV:=.agg [I f.code,I f.state,I f.party,Ints f.way]
def wayTo (d:Dea) (s:Int):List Int:=(wayOf d s).getD []
def rowNe (x:List Int × List Int):Bool:=!(x.1 == x.2)
def stepF (n:Nat) (d:Dea) (way:List Int) (t:Stp):Option Fau:=match ((folM n d (way++[t.label])).zip (folM n d (wayTo d t.next))).findIdx? rowNe with
 | some p=>some ⟨17,t.next,p,way++[t.label]⟩
 | none=>none
def stF (n:Nat) (d:Dea) (z:Int × List Int):Option Fau:=match d.states[z.1.toNat]? with
 | none=>none
 | some x=>(stepsOf d x).findSome? (stepF n d z.2)
def anF (n:Nat) (d:Dea):Option Fau:=((disc d).order.zip (disc d).ways).findSome? (stF n d)
def analyze (n:Int) (d:Dea):Fau:=match malf n d with
 | some s=>⟨1,s,-1,[]⟩
 | none=>match anF n.toNat d with
  | some f=>f
  | none=>⟨0,0,0,[]⟩
theorem findSome_at {α β:Type} {l:List α} {f:α→Option β} {k:Nat} {x:α} {v:β} (hx:l[k]?=some x) (h:(l.take k).findSome? f=none) (hf:f x=some v):l.findSome? f=some v:=by
 have hk:k<l.length:=(List.getElem?_eq_some_iff.1 hx).1
 have e:l=l.take k++x::l.drop (k+1):=by
  have h1:=List.drop_eq_getElem_cons hk
  rw [List.getElem?_eq_getElem hk] at hx; injection hx with hx
  rw [hx] at h1
  rw [←h1,List.take_append_drop]
 rw [e,List.findSome?_append,h]
 simp [hf]
theorem findSome_take {α β:Type} {l:List α} {f:α→Option β} {k:Nat} {x:α} (hx:l[k]?=some x) (h:(l.take k).findSome? f=none) (hf:f x=none):(l.take (k+1)).findSome? f=none:=by
 rw [List.take_add_one,hx,List.findSome?_append,h]
 simp [hf]
structure WF (n:Nat) (d:Dea):Prop where
 n64:n≤64
 ne:d.states ≠ []
 sl:d.states.length≤32
 p1:1≤d.parties.length
 p4:d.parties.length≤4
 opt:OptOk d.parties.length n d
 nxt:∀x,x∈d.states→∀o,o∈x.opts→okNext d o.next=true
 giv:∀x,x∈d.states→∀g,g∈x.gives→0≤g.party∧g.party<d.parties.length∧0≤g.item∧g.item<n∧1≤g.n∧g.n≤1099511627776
 top:∀x,x∈d.states→badTop d x=false
theorem amtBad_false {n:Int} {a:Int × Int} (h:amtBad n a=false):0≤a.1∧a.1<n∧1≤a.2∧a.2≤1099511627776:=by
 unfold amtBad at h
 by_cases h1:a.1<0
 ·simp [h1] at h
 ·by_cases h2:n≤a.1
  ·simp [h2] at h
  ·by_cases h3:a.2<1
   ·simp [h3] at h
   ·by_cases h4:1099511627776<a.2
    ·simp [h4] at h
    ·omega
theorem malf_none {n:Int} {d:Dea} (hs:Parts d) (h:malf n d=none):0≤n∧WF n.toNat d:=by
 unfold malf at h
 cases hb:badAll n d with
 | true=>rw [hb] at h; cases h
 | false =>
  rw [hb] at h
  simp only [Bool.false_eq_true,if_false] at h
  rw [List.findIdx?_eq_none_iff] at h
  unfold badAll at hb
  by_cases h1:n<0
  ·simp [h1] at hb
  by_cases h2:64<n
  ·simp [h2] at hb
  by_cases h3:(d.parties.length:Int)<1
  ·simp [h3] at hb
  by_cases h4:4<(d.parties.length:Int)
  ·simp [h4] at hb
  by_cases h5:(d.states.length:Int)<1
  ·simp [h5] at hb
  by_cases h6:32<(d.states.length:Int)
  ·simp [h6] at hb
  have hsb:∀x,x∈d.states→badTop d x=false∧(∀o,o∈x.opts→optBad n d o=false)∧∀g,g∈x.gives→givBad n d g=false:=by
   intro x hx
   have:=h x hx
   simp only [staBad,Bool.or_eq_false_iff,List.any_eq_false] at this
   exact ⟨this.1.1,fun o ho=>by simpa using this.1.2 o ho,fun g hg=>by simpa using this.2 g hg⟩
  have hob:∀x,x∈d.states→∀o,o∈x.opts→(amtsOk n o.put=true∧0≤o.party∧o.party<d.parties.length)∧okNext d o.next=true:=by
   intro x hx o ho
   have:=(hsb x hx).2.1 o ho
   unfold optBad at this
   cases ha:amtsOk n o.put with
   | false=>simp [ha] at this
   | true =>
    by_cases k1:o.party<0
    ·simp [k1] at this
    by_cases k2:(d.parties.length:Int)≤o.party
    ·simp [k2] at this
    by_cases k3:o.next<0
    ·simp [k3] at this
    by_cases k4:(d.states.length:Int)≤o.next
    ·simp [k4] at this
    refine ⟨⟨rfl,by omega,by omega⟩,?_⟩
    simp only [okNext,Bool.and_eq_true,decide_eq_true_eq]
    omega
  refine ⟨by omega,⟨by omega,fun e=>h5 (by rw [e]; decide),by omega,by omega,by omega,⟨fun x hx o ho=>?_⟩,fun x hx o ho=>(hob x hx o ho).2,fun x hx g hg=>?_,fun x hx=>(hsb x hx).1⟩⟩
  ·obtain ⟨⟨h7,h8,h9⟩,-⟩:=hob x hx o ho
   refine ⟨h8,by omega,hs.pu x hx o ho,fun a ha=>?_⟩
   unfold amtsOk at h7
   rw [List.all_eq_true] at h7
   have:=amtBad_false (by simpa using h7 a ha)
   omega
  ·have:=(hsb x hx).2.2 g hg
   unfold givBad at this
   cases ha:amtsOk n [(g.item,g.n)] with
   | false=>simp [ha] at this
   | true =>
    by_cases k1:g.party<0
    ·simp [k1] at this
    by_cases k2:(d.parties.length:Int)≤g.party
    ·simp [k2] at this
    simp only [amtsOk,List.all_cons,List.all_nil,Bool.and_true,Bool.not_eq_true'] at ha
    have:=amtBad_false ha
    dsimp only at this
    omega
theorem idxOf_way {d:Dea} {s:Int} {v:List Int} (h:wayOf d s=some v):0≤idxOf (disc d).order s∧(disc d).ways[(idxOf (disc d).order s).toNat]?=some v:=by
 unfold wayOf at h
 unfold idxOf
 split at h
 ·rename_i i hi
  try rw [hi]
  exact ⟨by simp,by simpa using h⟩
 ·cases h
theorem folW_s (n:Nat) {d:Dea} {way:List Int}:∀{s t:Int} {m:Rows},Path d s way t→(way.foldl (fstep d) ⟨s,m⟩).s=t:=by
 induction way with
 | nil=>intro s t m h; cases h; rfl
 | cons a w ih =>
  intro s t m h
  obtain ⟨u,he,hq⟩:=h.head
  obtain ⟨x,h0,hx,hf,hn,hor⟩:=he.inv
  rw [List.foldl_cons]
  have:∃m',fstep d ⟨s,m⟩ a=⟨u,m'⟩:=by
   unfold fstep
   simp only [hx]
   rcases hor with ⟨o,h1,ho,hu⟩ | ⟨h1,-,hu⟩
   ·rw [if_neg (by omega),ho]
    exact ⟨_,by rw [←hu]⟩
   ·rw [if_pos h1]
    exact ⟨_,by rw [←hu]⟩
  obtain ⟨m',e⟩:=this
  rw [e]
  exact ih hq
theorem rect_fol {n:Nat} {d:Dea} (hok:OptOk d.parties.length n d) {p:Nat}:∀{way:List Int} {s t:Int} {m:Rows} {b:Int},Path d s way t→Rect d.parties.length n b m→Rect d.parties.length n (b+way.length * 1099511627776000) (way.foldl (fstep d) ⟨s,m⟩).m:=by
 intro way
 induction way with
 | nil=>intro s t m b _ hr; exact hr.mono (by simp)
 | cons a w ih =>
  intro s t m b h hr
  obtain ⟨u,he,hq⟩:=h.head
  obtain ⟨x,h0,hx,hf,hn,hor⟩:=he.inv
  rw [List.foldl_cons]
  have:∃m',fstep d ⟨s,m⟩ a=⟨u,m'⟩∧Rect d.parties.length n (b+1099511627776000) m':=by
   unfold fstep
   simp only [hx]
   rcases hor with ⟨o,h1,ho,hu⟩ | ⟨h1,-,hu⟩
   ·rw [if_neg (by omega),ho]
    obtain ⟨hp0,hp1,hpl,hpa⟩:=hok.opt x (List.mem_of_getElem? hx) o (List.mem_of_getElem? ho)
    refine ⟨_,by rw [←hu],(Rect.puts (m:=m) o.party o.put hr fun a ha=>⟨(hpa a ha).2.2.1,(hpa a ha).2.2.2⟩).mono (by omega)⟩
   ·rw [if_pos h1]
    exact ⟨_,by rw [←hu],hr.mono (by omega)⟩
  obtain ⟨m',e,hr'⟩:=this
  rw [e]
  exact (ih hq hr').mono (by simp only [List.length_cons]; omega)
theorem rect_folM {n:Nat} {d:Dea} (hok:OptOk d.parties.length n d) {way:List Int} {t:Int} (h:Path d 0 way t) (hw:way.length≤1000):Rect d.parties.length n 1099511627776000000 (folM n d way) :=
 (rect_fol (p:=0) hok h (rect_z _ _)).mono (by omega)
theorem zip_at {α β:Type} {a:List α} {b:List β} {k:Nat} {x:α} {y:β} (hx:a[k]?=some x) (hy:b[k]?=some y):(a.zip b)[k]?=some (x,y):=by
 rw [List.getElem?_zip_eq_some]; exact ⟨hx,hy⟩
theorem small_of {n:Nat} {d:Dea} (hs:Parts d) (hw:WF n d):Small d:=⟨hs.st,hs.op⟩
set_option maxRecDepth 100000 in
set_option maxHeartbeats 4000000 in
theorem Analyze_spec (n:Int) (d:Dea) (hs:Parts d):PSpec Try.prog 33 [I n,eDea d] [eFau (analyze n d)]:=by
 refine pspec_of tab_ok mixed (calls_snd _) (range_snd _) Try.func33 rfl (by kernel_rfl) rfl ?_
 refine .inl ⟨_,fun _=>(malformed_spec n d hs).ok,?_⟩
 cases hm:malf n d with
 | some s =>
  refine ⟨fun _=>?_,(fun h=>by cases h)⟩
  simp only [analyze,hm]
  exact ⟨DV.agg_le ⟨rf,rf,rf,DV.nils_le 1,tv⟩ (by simp [DV.isCell]),tv⟩
 | none =>
  refine ⟨(fun h=>by cases h),fun _=>?_⟩
  obtain ⟨hn0,hwf⟩:=malf_none hs hm
  have hsm:=small_of hs hwf
  simp only [analyze,hm]
  obtain ⟨N,rfl⟩:∃N:Nat,n=N:=⟨n.toNat,by omega⟩
  simp only [Int.toNat_natCast] at *
  refine .inl ⟨_,fun _=>(discover_spec d hsm).ok,?_⟩
  have hb:=disc_ok d
  have hol:=hb.le
  have hsl:=hwf.sl
  have hln:=hb.len
  have hZ:∀{k:Nat} {s:Int} {v:List Int},(disc d).order[k]?=some s→(disc d).ways[k]?=some v→((disc d).order.zip (disc d).ways)[k]?=some (s,v):=fun h1 h2=>zip_at h1 h2
  have hzl:((disc d).order.zip (disc d).ways).length=(disc d).order.length:=by simp [hln]
  refine ⟨Nat,fun i=>⟨3,[(0,.dv (I N)),(3,.ptr 0 0),(4,.ptr 1 0),(7,.ptr 2 0),(8,.dv (I i))],[(0,.cells (dvs (dcells d))),(1,.cells (dvs [I 0,I 0,I 0,.nils])),(2,.cells (dvs [Ints (disc d).order,.sl 1 ((disc d).ways.map Ints)]))]⟩,fun i=>i≤(disc d).order.length∧(((disc d).order.zip (disc d).ways).take i).findSome? (stF N d)=none,fun i=>(disc d).order.length - i,0,fun _=>rfl,?_,⟨by omega,by simp⟩,?_⟩
  ·exact ⟨⟨rf,rfl,rfl,rfl,rf,tv⟩,⟨subWs_dvs _ _ _ (dcells d),⟨rf,rf,rf,rf,tv⟩,⟨rf,rf,tv⟩,tv⟩,rfl,rfl⟩
  rintro i ⟨hi1,hi2⟩
  refine ⟨fun h=>?_,fun h=>?_⟩
  ·have hi:i<(disc d).order.length:=by simpa using h
   clear h
   generalize hs':(disc d).order[i]=s at *
   have hso:(disc d).order[i]?=some s:=by rw [List.getElem?_eq_getElem hi,hs']
   generalize hv':(disc d).ways[i]'(by omega)=v at *
   have hvo:(disc d).ways[i]?=some v:=by rw [List.getElem?_eq_getElem (by omega),hv']
   have hrg:=hb.rng _ (List.mem_of_getElem? hso)
   have hcl:s.toNat<d.states.length:=by omega
   obtain ⟨x,hx⟩:∃x,d.states[s.toNat]?=some x:=⟨_,List.getElem?_eq_getElem hcl⟩
   have hopl:=hs.op x (List.mem_of_getElem? hx)
   have hst:=steps_spec d s.toNat x hx (by omega)
   rw [Int.toNat_of_nonneg hrg.1] at hst
   have hsn:=stepsOf_len d x
   have hstf:stF N d (s,v)=(stepsOf d x).findSome? (stepF N d v):=by simp [stF,hx]
   refine ⟨I s,fun _=>⟨by omega,by simp [hso]⟩,.inl ⟨_,fun _=>hst.ok,by kernel_rfl,?_⟩⟩
   have hvw:=wayOf_at d hso hvo
   have hvl:=way_len hvw
   have hpv:=leads_disc d i _ v hso hvo
   refine ⟨Nat,fun k=>⟨3,[(0,.dv (I N)),(3,.ptr 0 0),(4,.ptr 1 0),(7,.ptr 2 0),(8,.dv (I i)),(9,.dv (.sl 4 ((stepsOf d x).map eStp))),(10,.dv (I k))],[(0,.cells (dvs (dcells d))),(1,.cells (dvs [I 0,I 0,I 0,.nils])),(2,.cells (dvs [Ints (disc d).order,.sl 1 ((disc d).ways.map Ints)]))]⟩,fun k=>k≤(stepsOf d x).length∧((stepsOf d x).take k).findSome? (stepF N d v)=none,fun k=>(stepsOf d x).length - k,0,fun _=>rfl,?_,⟨by omega,by simp⟩,?_⟩
   ·exact ⟨⟨rf,rfl,rfl,rfl,rf,rf,rf,tv⟩,⟨subWs_dvs _ _ _ (dcells d),⟨rf,rf,rf,rf,tv⟩,⟨rf,rf,tv⟩,tv⟩,rfl,rfl⟩
   rintro k ⟨hk1,hk2⟩
   refine ⟨fun h=>?_,fun h=>?_⟩
   ·have hk:k<(stepsOf d x).length:=by simpa using h
    clear h
    generalize ht':(stepsOf d x)[k]=t at *
    have hto:(stepsOf d x)[k]?=some t:=by rw [List.getElem?_eq_getElem hk,ht']
    have hed:=stepsOf_edge hrg.1 hx (List.mem_of_getElem? hto)
    have hpt:=hpv.snoc hed
    obtain ⟨u,hu,hul⟩:=way_near hwf.ne hvw hx (List.mem_of_getElem? hto)
    have hul2:=way_len hu
    obtain ⟨hid0,hid1⟩:=idxOf_way hu
    obtain ⟨ku,hku1,hku2⟩:=wayOf_inv hu
    have hpu:=leads_disc d ku _ u hku1 hku2
    have hfa:=Follow_spec N (by have:=hwf.n64; omega) d (by have:=hwf.p4; omega) hwf.opt (v++[t.label]) t.next hpt (by simp; omega)
    have hfb:=Follow_spec N (by have:=hwf.n64; omega) d (by have:=hwf.p4; omega) hwf.opt u t.next hpu (by omega)
    have hra:=rect_folM hwf.opt hpt (by simp; omega)
    have hrb:=rect_folM hwf.opt hpu (by omega)
    have hwt:wayTo d t.next=u:=by simp [wayTo,hu]
    have hsf:stepF N d v t=match ((folM N d (v++[t.label])).zip (folM N d u)).findIdx? rowNe with
      | some p=>some ⟨17,t.next,p,v++[t.label]⟩
      | none=>none:=by rw [stepF,hwt]
    generalize folM N d (v++[t.label])=ma at *
    generalize folM N d u=mb at *
    refine ⟨Ints v,fun _=>⟨by omega,by simp [hvo]⟩,eStp t,fun _=>⟨by omega,by simp [hto]⟩,.inl ⟨_,fun _=>(longer_spec v t.label (by omega)).ok,by kernel_rfl,?_⟩⟩
    refine .inl ⟨_,fun _=>hfa.ok,?_⟩
    refine ⟨eStp t,fun _=>⟨by omega,by simp [hto]⟩,.inl ⟨_,fun _=>(index_spec (disc d).order t.next (by omega)).ok,?_⟩⟩
    refine ⟨Ints u,fun _=>⟨hid0,by simp [hid1]⟩,.inl ⟨_,fun _=>hfb.ok,by kernel_rfl,?_⟩⟩
    have hp4:=hwf.p4
    refine ⟨Nat,fun p=>⟨3,[(0,.dv (I N)),(3,.ptr 0 0),(4,.ptr 1 0),(7,.ptr 2 0),(8,.dv (I i)),(9,.dv (.sl 4 ((stepsOf d x).map eStp))),(10,.dv (I k)),(11,.dv (Ints (v++[t.label]))),(12,.dv (eRows ma)),(13,.dv (eRows mb)),(14,.dv (I p))],[(0,.cells (dvs (dcells d))),(1,.cells (dvs [I 0,I 0,I 0,.nils])),(2,.cells (dvs [Ints (disc d).order,.sl 1 ((disc d).ways.map Ints)]))]⟩,fun p=>p≤ma.length∧((ma.zip mb).take p).all (fun a=>!rowNe a)=true,fun p=>ma.length - p,0,fun _=>rfl,?_,⟨by omega,by simp⟩,?_⟩
    ·exact ⟨⟨rf,rfl,rfl,rfl,rf,rf,rf,rf,rf,rf,rf,tv⟩,⟨subWs_dvs _ _ _ (dcells d),⟨rf,rf,rf,rf,tv⟩,⟨rf,rf,tv⟩,tv⟩,rfl,rfl⟩
    have hal:=hra.len
    have hbl:=hrb.len
    rintro p ⟨hp1,hp2⟩
    refine ⟨fun h=>?_,fun h=>?_⟩
    ·have hp:p<ma.length:=by simpa using h
     clear h
     generalize hr':ma[p]=ra at *
     have hrao:ma[p]?=some ra:=by rw [List.getElem?_eq_getElem hp,hr']
     generalize hr2':mb[p]'(by omega)=rb at *
     have hrbo:mb[p]?=some rb:=by rw [List.getElem?_eq_getElem (by omega),hr2']
     have hrl:=hra.row ra (List.mem_of_getElem? hrao)
     have hn64:=hwf.n64
     refine ⟨Ints ra,fun _=>⟨by omega,by simp [hrao]⟩,Ints rb,fun _=>⟨by omega,by simp [hrbo]⟩,.inl ⟨_,fun _=>(same_spec ra rb (by omega)).ok,by kernel_rfl,?_⟩⟩
     have hzo:=zip_at hrao hrbo
     refine ⟨fun h=>?_,fun h=>?_⟩
     ·have hne:rowNe (ra,rb)=true:=h
      have hfi:=findIdx_at hzo hp2 hne
      rw [hfi] at hsf
      have hstf2:=findSome_at hto hk2 hsf
      rw [←hstf] at hstf2
      have hall:=findSome_at (hZ hso hvo) hi2 hstf2
      simp only [anF,hall]
      refine ⟨eStp t,fun _=>⟨by omega,by simp [hto]⟩,?_⟩
      exact ⟨rf,tv⟩
     ·have hne:rowNe (ra,rb)=false:=h
      exact ⟨fun _=>⟨by omega,by omega⟩,p+1,⟨⟨rf,rfl,rfl,rfl,rf,rf,rf,rf,rf,rf,le_int (by omega),tv⟩,⟨subWs_dvs _ _ _ (dcells d),⟨rf,rf,rf,rf,tv⟩,⟨rf,rf,tv⟩,tv⟩,rfl,rfl⟩,⟨by omega,all_take hzo hp2 hne⟩,by dsimp only; omega⟩
    ·have hp:p=ma.length:=by
      have:¬ p<ma.length:=by simpa using h
      omega
     clear h
     subst hp
     rw [List.take_of_length_le (by simp; omega)] at hp2
     rw [findIdx_no hp2] at hsf
     exact ⟨fun _=>⟨by omega,by omega⟩,k+1,⟨⟨rf,rfl,rfl,rfl,rf,rf,le_int (by omega),tv⟩,⟨subWs_dvs _ _ _ (dcells d),⟨rf,rf,rf,rf,tv⟩,⟨rf,rf,tv⟩,tv⟩,rfl,rfl⟩,⟨by omega,findSome_take hto hk2 hsf⟩,by dsimp only; omega⟩
   ·have hk:k=(stepsOf d x).length:=by
     have:¬ k<(stepsOf d x).length:=by simpa using h
     omega
    clear h
    subst hk
    rw [List.take_length,←hstf] at hk2
    exact ⟨fun _=>⟨by omega,by omega⟩,i+1,⟨⟨rf,rfl,rfl,rfl,le_int (by omega),tv⟩,⟨subWs_dvs _ _ _ (dcells d),⟨rf,rf,rf,rf,tv⟩,⟨rf,rf,tv⟩,tv⟩,rfl,rfl⟩,⟨by omega,findSome_take (hZ hso hvo) hi2 hk2⟩,by dsimp only; omega⟩
  ·have hi:i=(disc d).order.length:=by
    have:¬ i<(disc d).order.length:=by simpa using h
    omega
   clear h
   subst hi
   rw [List.take_of_length_le (by omega)] at hi2
   simp only [anF,hi2]
   exact ⟨DV.agg_le ⟨rf,rf,rf,DV.nils_le 1,tv⟩ (by simp [DV.isCell]),tv⟩
end Go.Proofs.Ytfcfbfkjdenpdaa
