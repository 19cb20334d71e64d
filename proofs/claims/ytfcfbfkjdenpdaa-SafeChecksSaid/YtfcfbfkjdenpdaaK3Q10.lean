import Derived.Test.YtfcfbfkjdenpdaaK3Q7
import Derived.Test.YtfcfbfkjdenpdaaK3Q9
set_option linter.unusedVariables false
set_option linter.unusedSimpArgs false
set_option linter.unusedSectionVars false
namespace Go.Proofs.Ytfcfbfkjdenpdaa
open Go.TM
def posB (e:Int):Bool:=decide (0<e)
def holdP (x:Sta) (m:Rows) (p:Nat):Bool:=((m[p]?).getD []).any posB && !(x.opts.any (prtB p))
def stuckR (x:Sta) (m:Rows):Int:=if x.final || decide (0<x.wait) then -1 else idxB (List.range m.length) (holdP x m)
set_option maxRecDepth 100000 in
set_option maxHeartbeats 4000000 in
theorem stuck_spec (n:Nat) (d:Dea) (hwf:WF n d) (s:Int) (x:Sta) (h0:0≤s) (hx:d.states[s.toNat]?=some x) (hol:x.opts.length≤1000) (way:List Int) (t:Int) (hp:Path d 0 way t) (hwl:way.length≤1000):PSpec Try.prog 72 [I n,eDea d,I s,Ints way] [I (stuckR x (folM n d way))]:=by
 refine pspec_of tab_ok mixed (calls_snd _) (range_snd _) Try.func72 rfl (by kernel_rfl) rfl ?_
 have hn64:=hwf.n64
 have hp4:=hwf.p4
 have hfo:=Follow_spec n (by omega) d (by omega) hwf.opt way t hp hwl
 have hra:=rect_folM hwf.opt hp hwl
 generalize folM n d way=m at *
 have hml:=hra.len
 refine ⟨eSta x,fun _=>⟨h0,by simp [hx]⟩,?_⟩
 repeat first | refine ⟨id,?_⟩ | refine ⟨fun _ h=>bw_f h,?_⟩ | refine ⟨fun _ h=>bw_t h,?_⟩ | refine ⟨fun h=>⟨h,fun h2=>bw_and h h2⟩,?_⟩ | refine ⟨fun h=>⟨h,fun h2=>bw_andf h h2⟩,?_⟩
 refine ⟨fun h=>?_,fun h=>?_⟩
 ·have hb:(x.final || decide (0<x.wait))=true:=by
   have h:(bif x.final then true else decide (0<x.wait))=true:=h
   cases hf:x.final <;> simp_all
  exact ⟨le_int (by rw [stuckR,if_pos hb]),tv⟩
 have hb:(x.final || decide (0<x.wait))=false:=by
  have h:(bif x.final then true else decide (0<x.wait))=false:=h
  cases hf:x.final <;> simp_all
 clear h
 have hst:stuckR x m=idxB (List.range m.length) (holdP x m):=by rw [stuckR,if_neg (by simp [hb])]
 rw [hst]
 refine .inl ⟨_,fun _=>hfo.ok,?_⟩
 refine ⟨Nat,fun p=>⟨2,[(0,.dv (I n)),(9,.ptr 1 0),(10,.dv (eRows m)),(11,.dv (I p))],[(0,.cells (dvs (dcells d))),(1,.cells (dvs (eSta x).cells))]⟩,fun p=>p≤m.length∧((List.range m.length).take p).all (fun q=>!holdP x m q)=true,fun p=>m.length - p,0,fun _=>rfl,⟨⟨rf,rfl,rf,rf,tv⟩,⟨subWs_dvs _ _ _ (dcells d),subWs_dvs _ _ _ (eSta x).cells,tv⟩,rfl,rfl⟩,⟨by omega,by simp⟩,?_⟩
 rintro p ⟨hp1,hp2⟩
 refine ⟨fun h=>?_,fun h=>?_⟩
 ·have hp:p<m.length:=by simpa using h
  clear h
  obtain ⟨r,hr⟩:∃r,m[p]?=some r:=⟨_,List.getElem?_eq_getElem (by omega)⟩
  have hrl:=hra.row r (List.mem_of_getElem? hr)
  have hrp:(List.range m.length)[p]?=some p:=by simp [hp]
  have hho:holdP x m p=(r.any posB && !(x.opts.any (prtB p))):=by simp [holdP,hr]
  refine ⟨LoI,fun z=>⟨2,[(0,.dv (I n)),(9,.ptr 1 0),(10,.dv (eRows m)),(11,.dv (I p)),(12,.dv (B z.s)),(13,.dv (I z.i))],[(0,.cells (dvs (dcells d))),(1,.cells (dvs (eSta x).cells))]⟩,fun z=>z.i≤x.opts.length∧z.s=(x.opts.take z.i).any (prtB p),fun z=>x.opts.length - z.i,⟨0,false⟩,fun _=>rfl,⟨⟨rf,rfl,rf,rf,rf,rf,tv⟩,⟨subWs_dvs _ _ _ (dcells d),subWs_dvs _ _ _ (eSta x).cells,tv⟩,rfl,rfl⟩,⟨by simp,by simp⟩,?_⟩
  rintro ⟨i,own⟩ ⟨hi1,hi2⟩
  dsimp only at hi1 hi2
  refine ⟨fun h=>?_,fun h=>?_⟩
  ·have hi:i<x.opts.length:=by simpa using h
   clear h
   generalize he':x.opts[i]=e at *
   have he:x.opts[i]?=some e:=by rw [List.getElem?_eq_getElem hi,he']
   have hxe:∀b:Bool,b=true→0≤(i:Int)∧(x.opts.map eOpt)[((i:Int)).toNat]?=some (eOpt e):=fun _ _=>⟨by omega,by simp [he]⟩
   repeat first | refine ⟨id,?_⟩ | refine ⟨fun _ h=>bw_f h,?_⟩ | refine ⟨fun _ h=>bw_t h,?_⟩ | refine ⟨fun h=>⟨h,fun h2=>bw_and h h2⟩,?_⟩ | refine ⟨fun h=>⟨h,fun h2=>bw_andf h h2⟩,?_⟩ | refine ⟨eOpt e,hxe _,?_⟩
   refine ⟨fun _=>⟨by dsimp only; omega,by dsimp only; omega⟩,⟨i+1,own || prtB p e⟩,⟨⟨rf,rfl,rf,rf,?_,le_int (by simp),tv⟩,⟨subWs_dvs _ _ _ (dcells d),subWs_dvs _ _ _ (eSta x).cells,tv⟩,rfl,rfl⟩,⟨by dsimp only; omega,?_⟩,by dsimp only; omega⟩
   ·refine DV.Le.of_eq ?_
    cases own <;> rfl
   ·dsimp only
    rw [List.take_add_one,he,List.any_append,←hi2]; simp
  have hi:i=x.opts.length:=by
   have:¬ i<x.opts.length:=by simpa using h
   omega
  clear h
  subst hi
  rw [List.take_length] at hi2
  refine ⟨LoI,fun z=>⟨2,[(0,.dv (I n)),(9,.ptr 1 0),(10,.dv (eRows m)),(11,.dv (I p)),(12,.dv (B own)),(14,.dv (B z.s)),(15,.dv (I z.i))],[(0,.cells (dvs (dcells d))),(1,.cells (dvs (eSta x).cells))]⟩,fun z=>z.i≤n∧z.s=(r.take z.i).any posB,fun z=>n - z.i,⟨0,false⟩,fun _=>rfl,⟨⟨rf,rfl,rf,rf,rf,rf,rf,tv⟩,⟨subWs_dvs _ _ _ (dcells d),subWs_dvs _ _ _ (eSta x).cells,tv⟩,rfl,rfl⟩,⟨by simp,by simp⟩,?_⟩
  rintro ⟨j,sm⟩ ⟨hj1,hj2⟩
  dsimp only at hj1 hj2
  refine ⟨fun h=>?_,fun h=>?_⟩
  ·have hj:j<n:=by
    have:(j:Int)<n:=of_decide_eq_true h
    omega
   clear h
   obtain ⟨e,he⟩:∃e,r[j]?=some e:=⟨_,List.getElem?_eq_getElem (by omega)⟩
   have hxr:∀b:Bool,b=true→0≤(p:Int)∧(m.map Ints)[((p:Int)).toNat]?=some (Ints r):=fun _ _=>⟨by omega,by simp [hr]⟩
   have hxe:∀b:Bool,b=true→0≤(j:Int)∧(r.map I)[((j:Int)).toNat]?=some (I e):=fun _ _=>⟨by omega,by simp [he]⟩
   repeat first | refine ⟨id,?_⟩ | refine ⟨fun _ h=>bw_f h,?_⟩ | refine ⟨fun _ h=>bw_t h,?_⟩ | refine ⟨fun h=>⟨h,fun h2=>bw_and h h2⟩,?_⟩ | refine ⟨fun h=>⟨h,fun h2=>bw_andf h h2⟩,?_⟩ | refine ⟨Ints r,hxr _,?_⟩ | refine ⟨I e,hxe _,?_⟩
   refine ⟨fun _=>⟨by dsimp only; omega,by dsimp only; omega⟩,⟨j+1,sm || posB e⟩,⟨⟨rf,rfl,rf,rf,rf,?_,le_int (by simp),tv⟩,⟨subWs_dvs _ _ _ (dcells d),subWs_dvs _ _ _ (eSta x).cells,tv⟩,rfl,rfl⟩,⟨by dsimp only; omega,?_⟩,by dsimp only; omega⟩
   ·refine DV.Le.of_eq ?_
    cases sm <;> rfl
   ·dsimp only
    rw [List.take_add_one,he,List.any_append,←hj2]; simp
  have hj:j=n:=by
   have:¬ (j:Int)<n:=of_decide_eq_false h
   omega
  clear h
  rw [hj,←hrl,List.take_length] at hj2
  rw [←hi2,←hj2] at hho
  repeat first | refine ⟨id,?_⟩ | refine ⟨fun _ h=>bw_f h,?_⟩ | refine ⟨fun _ h=>bw_t h,?_⟩ | refine ⟨fun h=>⟨h,fun h2=>bw_and h h2⟩,?_⟩ | refine ⟨fun h=>⟨h,fun h2=>bw_andf h h2⟩,?_⟩
  refine ⟨fun h=>?_,fun h=>?_⟩
  ·have hh:holdP x m p=true:=by
    have h:(bif sm then !own else false)=true:=h
    rw [hho]; cases sm <;> simp_all
   exact ⟨le_int (by rw [idxB,findIdx_at hrp hp2 hh]),tv⟩
  ·have hh:holdP x m p=false:=by
    have h:(bif sm then !own else false)=false:=h
    rw [hho]; cases sm <;> simp_all
   exact ⟨fun _=>⟨by omega,by omega⟩,p+1,⟨⟨rf,rfl,rf,le_int (by omega),tv⟩,⟨subWs_dvs _ _ _ (dcells d),subWs_dvs _ _ _ (eSta x).cells,tv⟩,rfl,rfl⟩,⟨by omega,all_take hrp hp2 hh⟩,by dsimp only; omega⟩
 ·have hp:p=m.length:=by
   have:¬ p<m.length:=by simpa using h
   omega
  subst hp
  rw [List.take_of_length_le (by simp)] at hp2
  exact ⟨le_int (by rw [idxB,findIdx_no hp2]),tv⟩
def subE (acc:List Int) (i:Nat) (x:Int):List Int:=match acc[i]? with
 | some e=>acc.set i (e - x)
 | none=>acc
theorem subE_at {acc:List Int} {i:Nat} {e x:Int} (h:acc[i]?=some e):subE acc i x=acc.set i (e - x):=by simp [subE,h]
def gSub (acc:List Int) (g:Giv):List Int:=subE acc g.item.toNat g.n
def leftR (pot:List Int) (x:Sta):List Int:=x.gives.foldl gSub pot
def unevR (n:Nat) (m:Rows) (x:Sta):Bool:=(leftR (sumR n m) x).any (fun e=>e != 0)
theorem sumR_ok {n p:Nat} {m:Rows} (hr:Rect p n 1099511627776000000 m):RowOk n (m.length * 1099511627776000000) (sumR n m):=by
 have:∀k,k≤m.length→RowOk n (k * 1099511627776000000) (sumR n (m.take k)):=by
  intro k
  induction k with
  | zero=>intro _; exact ⟨by simp [sumR],fun e he=>by simp [sumR] at he; omega⟩
  | succ k ih =>
   intro hk
   have hro:m[k]?=some m[k]:=List.getElem?_eq_getElem (by omega)
   have h1:=rowOk_add (ih (by omega)) (hr.at (List.mem_of_getElem? hro))
   have e:sumR n (m.take (k+1))=addRow (sumR n (m.take k)) m[k]:=by
    rw [List.take_add_one,hro,sumR,List.foldl_append]; rfl
   rw [e]
   exact ⟨h1.len,fun e he=>by have:=h1.bd e he; omega⟩
 have h:=this m.length (Nat.le_refl _)
 rw [List.take_length] at h
 exact h
set_option maxRecDepth 100000 in
set_option maxHeartbeats 4000000 in
theorem uneven_spec (n:Nat) (d:Dea) (hwf:WF n d) (s:Int) (x:Sta) (h0:0≤s) (hx:d.states[s.toNat]?=some x) (hgl:x.gives.length≤100000) (way:List Int) (t:Int) (hp:Path d 0 way t) (hwl:way.length≤1000):PSpec Try.prog 73 [I n,eDea d,I s,Ints way] [B (unevR n (folM n d way) x)]:=by
 refine pspec_of tab_ok mixed (calls_snd _) (range_snd _) Try.func73 rfl (by kernel_rfl) rfl ?_
 have hn64:=hwf.n64
 have hp4:=hwf.p4
 have hfo:=Follow_spec n (by omega) d (by omega) hwf.opt way t hp hwl
 have hra:=rect_folM hwf.opt hp hwl
 have hgi:=hwf.giv x (List.mem_of_getElem? hx)
 generalize folM n d way=m at *
 have hml:=hra.len
 have hsu:=sum2_spec n (by omega) m _ hp4 hra
 have hso:=sumR_ok hra
 unfold unevR
 generalize sumR n m=pot at *
 refine .inl ⟨_,fun _=>hfo.ok,.inr ⟨[],[.dv (I n),.dv (eRows m)],[],1,_,_,hsu,rfl,rfl,⟨rf,rf,tv⟩,tv,?_⟩⟩
 refine ⟨eSta x,fun _=>⟨h0,by simp [hx]⟩,?_⟩
 refine ⟨OuI,fun z=>⟨2,[(0,.dv (I n)),(9,.own 1 0 0 []),(10,.dv (.sl 3 (x.gives.map eGiv))),(11,.dv (I z.k))],[(0,.cells (dvs (dcells d))),(1,.tree 0 0 (.osl 1 (z.acc.map I)))]⟩,fun z=>z.k≤x.gives.length∧z.acc=(x.gives.take z.k).foldl gSub pot∧RowB n (-(z.k * 1099511627776)) 4398046511104000000 z.acc,fun z=>x.gives.length - z.k,⟨0,pot⟩,fun _=>rfl,⟨⟨rf,rfl,rf,rf,tv⟩,⟨subWs_dvs _ _ _ (dcells d),⟨rfl,rfl⟩,tv⟩,rfl,rfl⟩,⟨by simp,by simp,⟨hso.len,fun e he=>by have:=hso.bd e he; dsimp only; omega⟩⟩,?_⟩
 rintro ⟨k,acc⟩ ⟨hk1,hk2,hk3⟩
 dsimp only at hk1 hk2 hk3
 have hal:=hk3.len
 refine ⟨fun h=>?_,fun h=>?_⟩
 ·have hk:k<x.gives.length:=by simpa using h
  clear h
  generalize hg':x.gives[k]=g at *
  have hg:x.gives[k]?=some g:=by rw [List.getElem?_eq_getElem hk,hg']
  obtain ⟨hg1,hg2,hg3,hg4,hg5,hg6⟩:=hgi g (List.mem_of_getElem? hg)
  have hgx:true=true→0≤(k:Int)∧(x.gives.map eGiv)[((k:Int)).toNat]?=some (eGiv g):=fun _=>⟨by omega,by simp [hg]⟩
  have htk:(x.gives.take (k+1)).foldl gSub pot=gSub acc g:=by
   rw [List.take_add_one,hg,List.foldl_append,hk2]; rfl
  obtain ⟨e,he⟩:∃e,acc[g.item.toNat]?=some e:=⟨_,List.getElem?_eq_getElem (by omega)⟩
  have hb:=hk3.bd e (List.mem_of_getElem? he)
  have hga:gSub acc g=acc.set g.item.toNat (e - g.n):=by rw [gSub,subE_at he]
  refine ⟨eGiv g,hgx,eGiv g,hgx,fun _=>⟨hg3,by simp; omega⟩,I e,fun _=>by simp [he],eGiv g,hgx,fun _=>⟨by omega,by omega⟩,?_⟩
  refine ⟨fun _=>⟨hg3,by simp; omega⟩,[I (e - g.n)],⟨rf,tv⟩,I e,by simp [he],by kernel_rfl,?_⟩
  refine ⟨fun _=>⟨by dsimp only; omega,by dsimp only; omega⟩,⟨k+1,acc.set g.item.toNat (e - g.n)⟩,⟨⟨rf,rfl,rf,le_int (by simp),tv⟩,⟨subWs_dvs _ _ _ (dcells d),⟨rfl,?_⟩,tv⟩,rfl,rfl⟩,⟨by dsimp only; omega,?_,?_⟩,by dsimp only; omega⟩
  ·show DV.osl 1 ((acc.map I).set g.item.toNat (I (e - g.n)))=.osl 1 ((acc.set g.item.toNat (e - g.n)).map I)
   rw [List.map_set]
  ·dsimp only; rw [htk,hga]
  ·dsimp only
   exact (hk3.mono (by omega) (Int.le_refl _)).set _ (by omega)
 have hk:k=x.gives.length:=by
  have:¬ k<x.gives.length:=by simpa using h
  omega
 clear h
 subst hk
 rw [List.take_length] at hk2
 have hlf:leftR pot x=acc:=hk2.symm
 rw [hlf]
 refine ⟨Nat,fun i=>⟨2,[(0,.dv (I n)),(9,.own 1 0 0 []),(12,.dv (I i))],[(0,.cells (dvs (dcells d))),(1,.tree 0 0 (.osl 1 (acc.map I)))]⟩,fun i=>i≤n∧(acc.take i).all (fun e=>!(e != 0))=true,fun i=>n - i,0,fun _=>rfl,⟨⟨rf,rfl,rf,tv⟩,⟨subWs_dvs _ _ _ (dcells d),⟨rfl,rfl⟩,tv⟩,rfl,rfl⟩,⟨by simp,by simp⟩,?_⟩
 rintro i ⟨hi1,hi2⟩
 refine ⟨fun h=>?_,fun h=>?_⟩
 ·have hi:i<n:=by
   have:(i:Int)<n:=of_decide_eq_true h
   omega
  clear h
  obtain ⟨e,he⟩:∃e,acc[i]?=some e:=⟨_,List.getElem?_eq_getElem (by omega)⟩
  refine ⟨fun _=>⟨by omega,by simp; omega⟩,I e,fun _=>by simp [he],fun h=>?_,fun h=>?_⟩
  ·have hp:(e != 0)=true:=h
   exact ⟨DV.Le.of_eq (by rw [not_all,all_at he hp]; rfl),tv⟩
  ·have hp:(e != 0)=false:=h
   exact ⟨fun _=>⟨by omega,by omega⟩,i+1,⟨⟨rf,rfl,le_int (by omega),tv⟩,⟨subWs_dvs _ _ _ (dcells d),⟨rfl,rfl⟩,tv⟩,rfl,rfl⟩,⟨by omega,all_take he hi2 hp⟩,by dsimp only; omega⟩
 ·have hi:i=n:=by
   have:¬ (i:Int)<n:=of_decide_eq_false h
   omega
  subst hi
  rw [←hal,List.take_length] at hi2
  exact ⟨DV.Le.of_eq (by rw [not_all,hi2]; rfl),tv⟩
end Go.Proofs.Ytfcfbfkjdenpdaa
namespace Go.Proofs.Ytfcfbfkjdenpdaa
open Go.TM
def lossF (f:Int) (p:Int) (way:List Int) (t:Stp):Option Fau:=if t.next=f∧t.party ≠ p then some ⟨17,f,p,way++[t.label]⟩ else none
def lossS (d:Dea) (f p:Int) (z:Int × List Int):Option Fau:=match d.states[z.1.toNat]? with
 | none=>none
 | some x=>(stepsOf d x).findSome? (lossF f p z.2)
def lossR (d:Dea) (f p:Int):Option Fau:=((disc d).order.zip (disc d).ways).findSome? (lossS d f p)
def lossA (n:Nat) (d:Dea) (x:Sta) (v:List Int) (f:Int) (p:Nat):Option Fau:=if x.final && lostR (outR (folM n d v) x p) then lossR d f p else none
def lossAll (n:Nat) (d:Dea) (x:Sta) (v:List Int) (f:Int):Option Fau:=(List.range d.parties.length).findSome? (lossA n d x v f)
def zFau:Fau:=⟨0,0,0,[]⟩
def orZ:Option Fau→Fau
 | some f=>f
 | none=>zFau
theorem gAdd_len (p:Int) (acc:List Int) (g:Giv):(gAdd p acc g).length=acc.length:=by
 unfold gAdd addE
 split
 ·split <;> simp
 ·rfl
theorem gAdds_len (p:Int):∀(l:List Giv) (acc:List Int),(l.foldl (gAdd p) acc).length=acc.length
 | [],_=>rfl
 | g::l,acc=>by rw [List.foldl_cons,gAdds_len p l,gAdd_len]
theorem outR_len {n:Nat} {m:Rows} {b:Int} {q:Nat} (hr:Rect q n b m) (x:Sta) (p:Int):(outR m x p).length≤n:=by
 unfold outR
 rw [gAdds_len]
 cases h:m[p.toNat]? with
 | none=>simp [negR]
 | some r=>simp [negR,hr.row r (List.mem_of_getElem? h)]
set_option maxRecDepth 100000 in
set_option maxHeartbeats 4000000 in
theorem loss_spec (n:Nat) (d:Dea) (hs:Parts d) (hwf:WF n d) (i0:Nat) (f:Int) (v:List Int) (hfo:(disc d).order[i0]?=some f) (hvo:(disc d).ways[i0]?=some v) (x:Sta) (hx:d.states[f.toNat]?=some x) (hxf:x.final=true):PSpec Try.prog 74 [I n,eDea d,eBfs (disc d),I f] [eFau (orZ (lossAll n d x v f))]:=by
 refine pspec_of tab_ok mixed (calls_snd _) (range_snd _) Try.func74 rfl (by kernel_rfl) rfl ?_
 have hb:=disc_ok d
 have hol:=hb.le
 have hsl:=hwf.sl
 have hln:=hb.len
 have hn64:=hwf.n64
 have hp4:=hwf.p4
 have hvw:=wayOf_at d hfo hvo
 have hvl:=way_len hvw
 obtain ⟨hid0,hid1⟩:=idxOf_way hvw
 have hpv:=leads_disc d i0 _ v hfo hvo
 have hrf:=hb.rng f (List.mem_of_getElem? hfo)
 have hgl:=hs.gi x (List.mem_of_getElem? hx)
 have hra:=rect_folM hwf.opt hpv (by omega)
 have hzl:((disc d).order.zip (disc d).ways).length=(disc d).order.length:=by simp [hln]
 refine ⟨Nat,fun p=>⟨3,[(0,.dv (I n)),(3,.dv (I f)),(5,.ptr 0 0),(6,.ptr 1 0),(8,.ptr 2 0),(9,.dv (I p))],[(0,.cells (dvs (dcells d))),(1,.cells (dvs [Ints (disc d).order,.sl 1 ((disc d).ways.map Ints)])),(2,.cells (dvs [I 0,I 0,I 0,.nils]))]⟩,fun p=>p≤d.parties.length∧((List.range d.parties.length).take p).findSome? (lossA n d x v f)=none,fun p=>d.parties.length - p,0,fun _=>rfl,?_,⟨by omega,by simp⟩,?_⟩
 ·exact ⟨⟨rf,rf,rfl,rfl,rfl,rf,tv⟩,⟨subWs_dvs _ _ _ (dcells d),⟨rf,rf,tv⟩,⟨rf,rf,rf,rf,tv⟩,tv⟩,rfl,rfl⟩
 rintro p ⟨hp1,hp2⟩
 refine ⟨fun h=>?_,fun h=>?_⟩
 ·have hp:p<d.parties.length:=by simpa using h
  clear h
  have hrp:(List.range d.parties.length)[p]?=some p:=by simp [hp]
  have hoc:=outcome_spec n d hwf f x hrf.1 hx hgl v f hpv (by omega) p hp
  have hout:=outR_len hra x p
  have hla:lossA n d x v f p=if lostR (outR (folM n d v) x p) then lossR d f p else none:=by rw [lossA,hxf]; rfl
  generalize outR (folM n d v) x p=out at *
  have hlo:=lost_spec out (by omega)
  refine .inl ⟨_,fun _=>(index_spec (disc d).order f (by omega)).ok,?_⟩
  refine ⟨Ints v,fun _=>⟨hid0,by simp [hid1]⟩,.inl ⟨_,fun _=>hoc.ok,.inl ⟨_,fun _=>hlo.ok,by kernel_rfl,?_⟩⟩⟩
  generalize lostR out=lo at *
  refine ⟨Nat,fun i=>⟨3,[(0,.dv (I n)),(3,.dv (I f)),(5,.ptr 0 0),(6,.ptr 1 0),(8,.ptr 2 0),(9,.dv (I p)),(10,.dv (B lo)),(11,.dv (I i))],[(0,.cells (dvs (dcells d))),(1,.cells (dvs [Ints (disc d).order,.sl 1 ((disc d).ways.map Ints)])),(2,.cells (dvs [I 0,I 0,I 0,.nils]))]⟩,fun i=>i≤(disc d).order.length∧(((disc d).order.zip (disc d).ways).take i).findSome? (lossS d f p)=none,fun i=>(disc d).order.length - i,0,fun _=>rfl,?_,⟨by omega,by simp⟩,?_⟩
  ·exact ⟨⟨rf,rf,rfl,rfl,rfl,rf,rf,rf,tv⟩,⟨subWs_dvs _ _ _ (dcells d),⟨rf,rf,tv⟩,⟨rf,rf,rf,rf,tv⟩,tv⟩,rfl,rfl⟩
  rintro i ⟨hi1,hi2⟩
  repeat first | refine ⟨id,?_⟩ | refine ⟨fun _ h=>bw_f h,?_⟩ | refine ⟨fun _ h=>bw_t h,?_⟩ | refine ⟨fun h=>⟨h,fun h2=>bw_and h h2⟩,?_⟩ | refine ⟨fun h=>⟨h,fun h2=>bw_andf h h2⟩,?_⟩
  refine ⟨fun h=>?_,fun h=>?_⟩
  ·obtain ⟨h1,h2⟩:=bif_t h
   have hi:i<(disc d).order.length:=by simpa using h1
   subst h2
   clear h h1
   simp only [if_true] at hla
   generalize hs':(disc d).order[i]=s at *
   have hso:(disc d).order[i]?=some s:=by rw [List.getElem?_eq_getElem hi,hs']
   generalize hu':(disc d).ways[i]'(by omega)=u at *
   have huo:(disc d).ways[i]?=some u:=by rw [List.getElem?_eq_getElem (by omega),hu']
   have hul:=way_len (wayOf_at d hso huo)
   have hrg:=hb.rng _ (List.mem_of_getElem? hso)
   have hcl:s.toNat<d.states.length:=by omega
   obtain ⟨y,hy⟩:∃y,d.states[s.toNat]?=some y:=⟨_,List.getElem?_eq_getElem hcl⟩
   have hopl:=hs.op y (List.mem_of_getElem? hy)
   have hst:=steps_spec d s.toNat y hy (by omega)
   rw [Int.toNat_of_nonneg hrg.1] at hst
   have hsn:=stepsOf_len d y
   have hls:lossS d f p (s,u)=(stepsOf d y).findSome? (lossF f p u):=by simp [lossS,hy]
   refine ⟨I s,fun _=>⟨by omega,by simp [hso]⟩,.inl ⟨_,fun _=>hst.ok,by kernel_rfl,?_⟩⟩
   refine ⟨Nat,fun k=>⟨3,[(0,.dv (I n)),(3,.dv (I f)),(5,.ptr 0 0),(6,.ptr 1 0),(8,.ptr 2 0),(9,.dv (I p)),(10,.dv (B true)),(11,.dv (I i)),(12,.dv (.sl 4 ((stepsOf d y).map eStp))),(13,.dv (I k))],[(0,.cells (dvs (dcells d))),(1,.cells (dvs [Ints (disc d).order,.sl 1 ((disc d).ways.map Ints)])),(2,.cells (dvs [I 0,I 0,I 0,.nils]))]⟩,fun k=>k≤(stepsOf d y).length∧((stepsOf d y).take k).findSome? (lossF f p u)=none,fun k=>(stepsOf d y).length - k,0,fun _=>rfl,?_,⟨by omega,by simp⟩,?_⟩
   ·exact ⟨⟨rf,rf,rfl,rfl,rfl,rf,rf,rf,rf,rf,tv⟩,⟨subWs_dvs _ _ _ (dcells d),⟨rf,rf,tv⟩,⟨rf,rf,rf,rf,tv⟩,tv⟩,rfl,rfl⟩
   rintro k ⟨hk1,hk2⟩
   refine ⟨fun h=>?_,fun h=>?_⟩
   ·have hk:k<(stepsOf d y).length:=by simpa using h
    clear h
    generalize ht':(stepsOf d y)[k]=t at *
    have hto:(stepsOf d y)[k]?=some t:=by rw [List.getElem?_eq_getElem hk,ht']
    have hxt:∀b:Bool,b=true→0≤(k:Int)∧((stepsOf d y).map eStp)[((k:Int)).toNat]?=some (eStp t):=fun _ _=>⟨by omega,by simp [hto]⟩
    refine ⟨eStp t,hxt _,?_⟩
    repeat first | refine ⟨id,?_⟩ | refine ⟨fun _ h=>bw_f h,?_⟩ | refine ⟨fun _ h=>bw_t h,?_⟩ | refine ⟨fun h=>⟨h,fun h2=>bw_and h h2⟩,?_⟩ | refine ⟨fun h=>⟨h,fun h2=>bw_andf h h2⟩,?_⟩ | refine ⟨eStp t,hxt _,?_⟩
    refine ⟨fun h=>?_,fun h=>?_⟩
    ·obtain ⟨h1,h2⟩:=bif_t h
     have hc:t.next=f∧t.party ≠ p:=⟨by simpa using h1,by simpa using h2⟩
     have hlf:lossF f p u t=some ⟨17,f,p,u++[t.label]⟩:=by rw [lossF,if_pos hc]
     have h3:=findSome_at hto hk2 hlf
     rw [←hls] at h3
     have h4:lossR d f p=some ⟨17,f,p,u++[t.label]⟩:=findSome_at (zip_at hso huo) hi2 h3
     rw [h4] at hla
     have h5:lossAll n d x v f=some ⟨17,f,p,u++[t.label]⟩:=findSome_at hrp hp2 hla
     rw [h5]
     refine ⟨Ints u,fun _=>⟨by omega,by simp [huo]⟩,eStp t,hxt _,.inl ⟨_,fun _=>(longer_spec u t.label (by omega)).ok,by kernel_rfl,?_⟩⟩
     exact ⟨rf,tv⟩
    ·have hc:¬ (t.next=f∧t.party ≠ p):=fun hc=>by
      have:=bif_f h
      exact this ⟨by simpa using hc.1,by simpa using hc.2⟩
     have hlf:lossF f p u t=none:=by rw [lossF,if_neg hc]
     exact ⟨fun _=>⟨by omega,by omega⟩,k+1,⟨⟨rf,rf,rfl,rfl,rfl,rf,rf,rf,rf,le_int (by omega),tv⟩,⟨subWs_dvs _ _ _ (dcells d),⟨rf,rf,tv⟩,⟨rf,rf,rf,rf,tv⟩,tv⟩,rfl,rfl⟩,⟨by omega,findSome_take hto hk2 hlf⟩,by dsimp only; omega⟩
   ·have hk:k=(stepsOf d y).length:=by
     have:¬ k<(stepsOf d y).length:=by simpa using h
     omega
    clear h
    subst hk
    rw [List.take_length,←hls] at hk2
    exact ⟨fun _=>⟨by omega,by omega⟩,i+1,⟨⟨rf,rf,rfl,rfl,rfl,rf,rf,le_int (by omega),tv⟩,⟨subWs_dvs _ _ _ (dcells d),⟨rf,rf,tv⟩,⟨rf,rf,rf,rf,tv⟩,tv⟩,rfl,rfl⟩,⟨by omega,findSome_take (zip_at hso huo) hi2 hk2⟩,by dsimp only; omega⟩
  ·have hnone:lossA n d x v f p=none:=by
    rw [hla]
    cases lo with
    | false=>rfl
    | true =>
     have hi:i=(disc d).order.length:=by
      have:=bif_f h
      by_cases hi:i<(disc d).order.length
      ·exact absurd ⟨by simpa using hi,rfl⟩ this
      ·omega
     rw [hi,List.take_of_length_le (by omega)] at hi2
     simp only [if_true]
     exact hi2
   exact ⟨fun _=>⟨by omega,by omega⟩,p+1,⟨⟨rf,rf,rfl,rfl,rfl,le_int (by omega),tv⟩,⟨subWs_dvs _ _ _ (dcells d),⟨rf,rf,tv⟩,⟨rf,rf,rf,rf,tv⟩,tv⟩,rfl,rfl⟩,⟨by omega,findSome_take hrp hp2 hnone⟩,by dsimp only; omega⟩
 ·have hp:p=d.parties.length:=by
   have:¬ p<d.parties.length:=by simpa using h
   omega
  subst hp
  rw [List.take_of_length_le (by simp)] at hp2
  have h5:lossAll n d x v f=none:=hp2
  rw [h5]
  exact ⟨DV.agg_le ⟨rf,rf,rf,DV.nils_le 1,tv⟩ (by simp [DV.isCell]),tv⟩
def deadB (x:Sta):Bool:=bif (bif !x.final then ((x.opts.length:Int) == 0) else false) then (x.wait == 0) else false
def condS (n:Nat) (d:Dea) (w:Nat) (s:Int) (v:List Int) (x:Sta):Fau:=match w with
 | 0=>if deadB x then ⟨24,s,-1,v⟩ else ⟨0,s,-1,v⟩
 | 1=>if !endsR d s then ⟨18,s,-1,v⟩ else ⟨0,s,-1,v⟩
 | 2=>if 0≤stuckR x (folM n d v) then ⟨13,s,stuckR x (folM n d v),v⟩ else ⟨0,s,-1,v⟩
 | 3=>if x.final && unevR n (folM n d v) x then ⟨10,s,-1,v⟩ else ⟨0,s,-1,v⟩
 | _=>if x.final then orZ (lossAll n d x v s) else ⟨0,s,-1,v⟩
set_option maxRecDepth 100000 in
set_option maxHeartbeats 4000000 in
theorem cond_spec (n:Nat) (d:Dea) (hs:Parts d) (hwf:WF n d) (w:Nat) (hw:w<5) (i:Nat) (s:Int) (v:List Int) (hso:(disc d).order[i]?=some s) (hvo:(disc d).ways[i]?=some v) (x:Sta) (hx:d.states[s.toNat]?=some x):PSpec Try.prog 40 [I n,eDea d,eBfs (disc d),I w,I i] [eFau (condS n d w s v x)]:=by
 refine pspec_of tab_ok mixed (calls_snd _) (range_snd _) Try.func40 rfl (by kernel_rfl) rfl ?_
 have hb:=disc_ok d
 have hsl:=hwf.sl
 have hvl:=way_len (wayOf_at d hso hvo)
 have hpv:=leads_disc d i _ v hso hvo
 have hrg:=hb.rng s (List.mem_of_getElem? hso)
 have hgl:=hs.gi x (List.mem_of_getElem? hx)
 have hol:=hs.op x (List.mem_of_getElem? hx)
 have hvi:true=true→0≤(i:Int)∧((disc d).ways.map Ints)[((i:Int)).toNat]?=some (Ints v):=fun _=>⟨by omega,by simp [hvo]⟩
 refine ⟨I s,fun _=>⟨by omega,by simp [hso]⟩,eSta x,fun _=>⟨hrg.1,by simp [hx]⟩,Ints v,hvi,?_⟩
 obtain rfl | rfl | rfl | rfl | rfl:w=0 ∨ w=1 ∨ w=2 ∨ w=3 ∨ w=4:=by omega
 ·refine ⟨fun _=>?_,(fun h=>by cases h)⟩
  repeat first | refine ⟨id,?_⟩ | refine ⟨fun _ h=>bw_f h,?_⟩ | refine ⟨fun _ h=>bw_t h,?_⟩ | refine ⟨fun h=>⟨h,fun h2=>bw_and h h2⟩,?_⟩ | refine ⟨fun h=>⟨h,fun h2=>bw_andf h h2⟩,?_⟩
  refine ⟨fun h=>?_,fun h=>?_⟩
  ·have hd:deadB x=true:=by simpa [deadB] using h
   simp only [condS,hd,if_true]
   exact ⟨rf,tv⟩
  ·have hd:deadB x=false:=by simpa [deadB] using h
   simp only [condS,hd,Bool.false_eq_true,if_false]
   exact ⟨rf,tv⟩
 ·refine ⟨(fun h=>by cases h),fun _=>⟨fun _=>?_,(fun h=>by cases h)⟩⟩
  refine .inl ⟨_,fun _=>(ends_spec d (small_of hs hwf) s hrg).ok,fun h=>?_,fun h=>?_⟩
  ·have hd:(!endsR d s)=true:=h
   simp only [condS,hd,if_true]
   exact ⟨rf,tv⟩
  ·have hd:(!endsR d s)=false:=h
   simp only [condS,hd,Bool.false_eq_true,if_false]
   exact ⟨rf,tv⟩
 ·refine ⟨(fun h=>by cases h),fun _=>⟨(fun h=>by cases h),fun _=>⟨fun _=>?_,(fun h=>by cases h)⟩⟩⟩
  have hsk:=stuck_spec n d hwf s x hrg.1 hx hol v s hpv (by omega)
  simp only [condS]
  generalize stuckR x (folM n d v)=st at *
  refine ⟨Ints v,hvi,.inl ⟨_,fun _=>hsk.ok,by kernel_rfl,fun h=>?_,fun h=>?_⟩⟩
  ·have hd:0≤st:=of_decide_eq_true h
   rw [if_pos hd]
   exact ⟨rf,tv⟩
  ·have hd:¬ 0≤st:=of_decide_eq_false h
   rw [if_neg hd]
   exact ⟨rf,tv⟩
 ·refine ⟨(fun h=>by cases h),fun _=>⟨(fun h=>by cases h),fun _=>⟨(fun h=>by cases h),fun _=>⟨fun _=>?_,(fun h=>by cases h)⟩⟩⟩⟩
  have hun:=uneven_spec n d hwf s x hrg.1 hx hgl v s hpv (by omega)
  simp only [condS]
  generalize unevR n (folM n d v) x=un at *
  have hvj:∀b:Bool,b=true→0≤(i:Int)∧((disc d).ways.map Ints)[((i:Int)).toNat]?=some (Ints v):=fun _ _=>⟨by omega,by simp [hvo]⟩
  repeat first | refine ⟨id,?_⟩ | refine ⟨fun _ h=>bw_f h,?_⟩ | refine ⟨fun _ h=>bw_t h,?_⟩ | refine ⟨fun h=>⟨h,fun h2=>bw_and h h2⟩,?_⟩ | refine ⟨fun h=>⟨h,fun h2=>bw_andf h h2⟩,?_⟩ | refine ⟨Ints v,hvj _,?_⟩
  refine .inl ⟨_,fun _=>hun.ok,fun _ h=>bw_t h,by kernel_rfl,fun h=>?_,fun h=>?_⟩
  ·obtain ⟨h1,h2⟩:=bif_t h
   rw [if_pos (by simp [h1,h2])]
   exact ⟨rf,tv⟩
  ·have h1:=bif_f h
   rw [if_neg (by simpa using h1)]
   exact ⟨rf,tv⟩
 ·refine ⟨(fun h=>by cases h),fun _=>⟨(fun h=>by cases h),fun _=>⟨(fun h=>by cases h),fun _=>⟨(fun h=>by cases h),fun _=>⟨fun h=>?_,fun h=>?_⟩⟩⟩⟩⟩
  ·have hf:x.final=true:=h
   have hlo:=loss_spec n d hs hwf i s v hso hvo x hx hf
   simp only [condS,hf,if_true]
   exact .inl ⟨_,fun _=>hlo.ok,rf,tv⟩
  ·have hf:x.final=false:=h
   simp only [condS,hf,Bool.false_eq_true,if_false]
   exact ⟨rf,tv⟩
end Go.Proofs.Ytfcfbfkjdenpdaa
namespace Go.Proofs.Ytfcfbfkjdenpdaa
open Go.TM
def zsub (a b:List Int):List Int:=List.zipWith (fun x y=>x - y) a b
theorem zsub_set {pot G:List Int} (hl:G.length=pot.length) (i:Nat) (x:Int):subE (zsub pot G) i x=zsub pot (addE G i x):=by
 unfold subE addE
 by_cases hi:i<pot.length
 ·have h1:pot[i]?=some pot[i]:=List.getElem?_eq_getElem hi
  have h2:G[i]?=some (G[i]'(by omega)):=List.getElem?_eq_getElem (by omega)
  have h3:(zsub pot G)[i]?=some (pot[i] - G[i]'(by omega)):=by simp [zsub,List.getElem?_zipWith,h1,h2]
  rw [h2,h3]
  apply List.ext_getElem?
  intro j
  by_cases hj:j=i
  ·subst hj
   rw [List.getElem?_set_self (by simp [zsub]; omega)]
   unfold zsub
   rw [List.getElem?_zipWith,h1,List.getElem?_set_self (by omega)]
   simp; omega
  ·rw [List.getElem?_set_ne (fun e=>hj e.symm)]
   unfold zsub
   rw [List.getElem?_zipWith,List.getElem?_zipWith,List.getElem?_set_ne (fun e=>hj e.symm)]
 ·have h2:G[i]?=none:=List.getElem?_eq_none (by omega)
  have h3:(zsub pot G)[i]?=none:=List.getElem?_eq_none (by simp [zsub]; omega)
  rw [h2,h3]
theorem addE_len (acc:List Int) (i:Nat) (x:Int):(addE acc i x).length=acc.length:=by
 unfold addE; split <;> simp
theorem zsub_fold {pot:List Int}:∀(l:List Giv) {G:List Int},G.length=pot.length→l.foldl gSub (zsub pot G)=zsub pot (l.foldl gSum G)
 | [],_,_=>rfl
 | g::l,G,hl=>by
  rw [List.foldl_cons,List.foldl_cons]
  have:gSub (zsub pot G) g=zsub pot (gSum G g):=zsub_set hl _ _
  rw [this]
  exact zsub_fold l (by rw [gSum,addE_len]; exact hl)
theorem zsub_zero:∀(pot:List Int),zsub pot (List.replicate pot.length 0)=pot
 | []=>rfl
 | x::l=>by
  show (x - 0)::zsub l (List.replicate l.length 0)=_
  rw [zsub_zero l]; simp
theorem zsub_any:∀{a b:List Int},b.length=a.length→(zsub a b).any (fun e=>e != 0)=!(b == a)
 | [],[],_=>rfl
 | x::a,y::b,h=>by
  have ih:=zsub_any (a:=a) (b:=b) (by simpa using h)
  show ((x - y != 0) || (zsub a b).any (fun e=>e != 0))=!(y == x && b == a)
  rw [ih]
  by_cases e:y=x
  ·subst e; simp
  ·have h1:(x - y != 0)=true:=by simp; omega
   have h2:(y == x)=false:=by simpa using e
   rw [h1,h2]; rfl
 | [],_::_,h=>by simp at h
 | _::_,[],h=>by simp at h
theorem gSums_len:∀(l:List Giv) (G:List Int),(l.foldl gSum G).length=G.length
 | [],_=>rfl
 | g::l,G=>by rw [List.foldl_cons,gSums_len l,gSum,addE_len]
theorem uneven_law {n p:Nat} {m:Rows} (hr:Rect p n 1099511627776000000 m) (x:Sta):unevR n m x=!(givR n x == sumR n m):=by
 have hl:=(sumR_ok hr).len
 unfold unevR leftR givR
 have h0:sumR n m=zsub (sumR n m) (List.replicate n 0):=by
  have h:=zsub_zero (sumR n m)
  rw [hl] at h
  exact h.symm
 have h1:x.gives.foldl gSub (sumR n m)=zsub (sumR n m) (x.gives.foldl gSum (List.replicate n 0)):=by
  conv=>lhs; rw [h0]
  exact zsub_fold _ (by simp [hl])
 rw [h1]
 exact zsub_any (by rw [gSums_len]; simp [hl])
def codeN (f:Fau):Option Fau:=if f.code=0 then none else some f
def condZ (n:Nat) (d:Dea) (w:Nat) (z:Int × List Int):Option Fau:=match d.states[z.1.toNat]? with
 | some x=>codeN (condS n d w z.1 z.2 x)
 | none=>none
def condW (n:Nat) (d:Dea) (w:Nat):Option Fau:=((disc d).order.zip (disc d).ways).findSome? (condZ n d w)
def chk (n:Nat) (d:Dea):Option Fau:=(List.range 5).findSome? (condW n d)
def checkF (n:Int) (d:Dea):Fau:=if (analyze n d).code=0 then orZ (chk n.toNat d) else analyze n d
set_option maxRecDepth 100000 in
set_option maxHeartbeats 4000000 in
theorem Check_spec (n:Int) (d:Dea) (hs:Parts d):PSpec Try.prog 17 [I n,eDea d] [eFau (checkF n d)]:=by
 refine pspec_of tab_ok mixed (calls_snd _) (range_snd _) Try.func17 rfl (by kernel_rfl) rfl ?_
 refine .inl ⟨_,fun _=>(Analyze_spec n d hs).ok,?_⟩
 refine ⟨fun h=>?_,fun h=>?_⟩
 ·have hc:(analyze n d).code ≠ 0:=by simpa using h
  clear h
  have hcf:checkF n d=analyze n d:=by rw [checkF,if_neg hc]
  rw [hcf]
  exact ⟨rf,tv⟩
 have hc:(analyze n d).code=0:=by simpa using h
 clear h
 obtain ⟨hn0,hwf⟩:=malf_none hs (analyze_code hc)
 have hcf:checkF n d=orZ (chk n.toNat d):=by rw [checkF,if_pos hc]
 rw [hcf]
 have hsm:=small_of hs hwf
 obtain ⟨N,rfl⟩:∃N:Nat,n=N:=⟨n.toNat,by omega⟩
 simp only [Int.toNat_natCast] at *
 generalize analyze N d=fa at *
 refine .inl ⟨_,fun _=>(discover_spec d hsm).ok,?_⟩
 have hb:=disc_ok d
 have hol:=hb.le
 have hsl:=hwf.sl
 have hln:=hb.len
 have hzl:((disc d).order.zip (disc d).ways).length=(disc d).order.length:=by simp [hln]
 refine ⟨Nat,fun w=>⟨4,[(0,.dv (I N)),(3,.ptr 0 0),(4,.ptr 1 0),(6,.ptr 3 0),(7,.dv (I w))],[(0,.cells (dvs (dcells d))),(1,.cells (dvs [I 0,I 0,I 0,.nils])),(3,.cells (dvs [Ints (disc d).order,.sl 1 ((disc d).ways.map Ints)]))]⟩,fun w=>w≤5∧((List.range 5).take w).findSome? (condW N d)=none,fun w=>5 - w,0,fun _=>rfl,?_,⟨by omega,by simp⟩,?_⟩
 ·exact ⟨⟨rf,rfl,rfl,rfl,rf,tv⟩,⟨subWs_dvs _ _ _ (dcells d),⟨rf,rf,rf,rf,tv⟩,⟨rf,rf,tv⟩,tv⟩,rfl,rfl⟩
 rintro w ⟨hw1,hw2⟩
 refine ⟨fun h=>?_,fun h=>?_⟩
 ·have hw:w<5:=by
   have:(w:Int)<5:=of_decide_eq_true h
   omega
  clear h
  have hrw:(List.range 5)[w]?=some w:=by simp [hw]
  refine ⟨Nat,fun i=>⟨4,[(0,.dv (I N)),(3,.ptr 0 0),(4,.ptr 1 0),(6,.ptr 3 0),(7,.dv (I w)),(8,.dv (I i))],[(0,.cells (dvs (dcells d))),(1,.cells (dvs [I 0,I 0,I 0,.nils])),(3,.cells (dvs [Ints (disc d).order,.sl 1 ((disc d).ways.map Ints)]))]⟩,fun i=>i≤(disc d).order.length∧(((disc d).order.zip (disc d).ways).take i).findSome? (condZ N d w)=none,fun i=>(disc d).order.length - i,0,fun _=>rfl,?_,⟨by omega,by simp⟩,?_⟩
  ·exact ⟨⟨rf,rfl,rfl,rfl,rf,rf,tv⟩,⟨subWs_dvs _ _ _ (dcells d),⟨rf,rf,rf,rf,tv⟩,⟨rf,rf,tv⟩,tv⟩,rfl,rfl⟩
  rintro i ⟨hi1,hi2⟩
  refine ⟨fun h=>?_,fun h=>?_⟩
  ·have hi:i<(disc d).order.length:=by simpa using h
   clear h
   generalize hs':(disc d).order[i]=s at *
   have hso:(disc d).order[i]?=some s:=by rw [List.getElem?_eq_getElem hi,hs']
   generalize hv':(disc d).ways[i]'(by omega)=v at *
   have hvo:(disc d).ways[i]?=some v:=by rw [List.getElem?_eq_getElem (by omega),hv']
   have hrg:=hb.rng _ (List.mem_of_getElem? hso)
   have hcl:s.toNat<d.states.length:=by omega
   obtain ⟨x,hx⟩:∃x,d.states[s.toNat]?=some x:=⟨_,List.getElem?_eq_getElem hcl⟩
   have hcs:=cond_spec N d hs hwf w hw i s v hso hvo x hx
   have hcz:condZ N d w (s,v)=codeN (condS N d w s v x):=by simp [condZ,hx]
   generalize condS N d w s v x=cf at *
   refine .inl ⟨_,fun _=>hcs.ok,fun h=>?_,fun h=>?_⟩
   ·have hcc:cf.code ≠ 0:=by simpa using h
    rw [codeN,if_neg hcc] at hcz
    have h1:condW N d w=some cf:=findSome_at (zip_at hso hvo) hi2 hcz
    have h2:chk N d=some cf:=findSome_at hrw hw2 h1
    rw [h2]
    exact ⟨rf,tv⟩
   ·have hcc:cf.code=0:=by simpa using h
    rw [codeN,if_pos hcc] at hcz
    exact ⟨fun _=>⟨by omega,by omega⟩,i+1,⟨⟨rf,rfl,rfl,rfl,rf,le_int (by omega),tv⟩,⟨subWs_dvs _ _ _ (dcells d),⟨rf,rf,rf,rf,tv⟩,⟨rf,rf,tv⟩,tv⟩,rfl,rfl⟩,⟨by omega,findSome_take (zip_at hso hvo) hi2 hcz⟩,by dsimp only; omega⟩
  ·have hi:i=(disc d).order.length:=by
    have:¬ i<(disc d).order.length:=by simpa using h
    omega
   clear h
   subst hi
   rw [List.take_of_length_le (by omega)] at hi2
   exact ⟨fun _=>⟨by omega,by omega⟩,w+1,⟨⟨rf,rfl,rfl,rfl,le_int (by omega),tv⟩,⟨subWs_dvs _ _ _ (dcells d),⟨rf,rf,rf,rf,tv⟩,⟨rf,rf,tv⟩,tv⟩,rfl,rfl⟩,⟨by omega,findSome_take hrw hw2 hi2⟩,by dsimp only; omega⟩
 ·have hw:w=5:=by
   have:¬ (w:Int)<5:=of_decide_eq_false h
   omega
  subst hw
  have h2:chk N d=none:=by
   have:(List.range 5).take 5=List.range 5:=by rfl
   rw [this] at hw2; exact hw2
  rw [h2]
  exact ⟨DV.agg_le ⟨rf,rf,rf,DV.nils_le 1,tv⟩ (by simp [DV.isCell]),tv⟩
end Go.Proofs.Ytfcfbfkjdenpdaa
