import Derived.Test.YtfcfbfkjdenpdaaK4Q2
set_option linter.unusedVariables false
set_option linter.unusedSimpArgs false
set_option linter.unusedSectionVars false
namespace Go.Proofs.Ytfcfbfkjdenpdaa
open Go.TM
def lostR (o:List Int):Bool:=o.all (fun e=>!decide (0<e)) && o.any (fun e=>decide (e<0))
structure LoI where
 i:Nat
 s:Bool
set_option maxHeartbeats 4000000 in
theorem lost_spec (o:List Int) (ho:o.length≤1000000):PSpec Try.prog 27 [Ints o] [B (lostR o)]:=by
 refine pspec_of tab_ok mixed (calls_snd _) (range_snd _) Try.func27 rfl (by kernel_rfl) rfl ?_
 refine ⟨LoI,fun z=>⟨0,[(0,.dv (Ints o)),(3,.dv (B z.s)),(4,.dv (I z.i))],[]⟩,fun z=>z.i≤o.length∧(o.take z.i).all (fun e=>!decide (0<e))=true∧z.s=(o.take z.i).any (fun e=>decide (e<0)),fun z=>o.length - z.i,⟨0,false⟩,fun _=>rfl,⟨⟨rf,rf,rf,tv⟩,tv,rfl,rfl⟩,⟨by simp,by simp,by simp⟩,?_⟩
 rintro ⟨i,s⟩ ⟨h1,h2,h3⟩
 dsimp only at h1 h2 h3
 refine ⟨fun h=>?_,fun h=>?_⟩
 ·have hi:i<o.length:=by simpa using h
  clear h
  generalize he':o[i]=e at *
  have he:o[i]?=some e:=by rw [List.getElem?_eq_getElem hi,he']
  have hx:∀b:Bool,b=true→0≤(i:Int)∧(o.map I)[((i:Int)).toNat]?=some (I e):=fun _ _=>⟨by omega,by simp [he]⟩
  refine ⟨I e,hx _,fun h=>?_,fun h=>?_⟩
  ·have hp:decide (0<e)=true:=h
   exact ⟨DV.Le.of_eq (by rw [lostR,all_at he hp]; rfl),tv⟩
  have hp:decide (0<e)=false:=h
  clear h
  repeat first | refine ⟨id,?_⟩ | refine ⟨fun _ h=>bw_f h,?_⟩ | refine ⟨fun _ h=>bw_t h,?_⟩ | refine ⟨fun h=>⟨h,fun h2=>bw_and h h2⟩,?_⟩ | refine ⟨fun h=>⟨h,fun h2=>bw_andf h h2⟩,?_⟩ | refine ⟨I e,hx _,?_⟩
  refine ⟨fun _=>⟨by dsimp only; omega,by dsimp only; omega⟩,⟨i+1,s || decide (e<0)⟩,⟨⟨rf,?_,le_int (by simp),tv⟩,tv,rfl,rfl⟩,⟨by dsimp only; omega,all_take he h2 hp,?_⟩,by dsimp only; omega⟩
  ·refine DV.Le.of_eq ?_
   cases s <;> rfl
  ·dsimp only
   rw [List.take_add_one,he,List.any_append,←h3]; simp
 ·have hi:i=o.length:=by
   have:¬ i<o.length:=by simpa using h
   omega
  subst hi
  rw [List.take_length] at h2 h3
  exact ⟨DV.Le.of_eq (by rw [lostR,h2,←h3]; rfl),tv⟩
theorem has_spec (l:List Int) (n:Int) (hl:l.length≤1000000):PSpec Try.prog 52 [Ints l,I n] [B (l.contains n)]:=by
 refine pspec_of tab_ok mixed (calls_snd _) (range_snd _) Try.func52 rfl (by kernel_rfl) rfl ?_
 refine ⟨Nat,fun k=>⟨0,[(0,.dv (Ints l)),(1,.dv (I n)),(5,.dv (I k))],[]⟩,fun k=>k≤l.length∧n ∉ l.take k,fun k=>l.length - k,0,fun _=>rfl,⟨⟨rf,rf,rf,tv⟩,tv,rfl,rfl⟩,⟨by omega,by simp⟩,?_⟩
 rintro k ⟨hk1,hk2⟩
 refine ⟨fun h=>?_,fun h=>?_⟩
 ·have hk:k<l.length:=by simpa using h
  clear h
  generalize he':l[k]=e at *
  have he:l[k]?=some e:=by rw [List.getElem?_eq_getElem hk,he']
  refine ⟨I e,fun _=>⟨by omega,by simp [he]⟩,fun h=>?_,fun h=>?_⟩
  ·have hp:e=n:=by simpa using h
   have:l.contains n=true:=by
    rw [List.contains_iff_mem]; rw [←hp]; exact List.mem_of_getElem? he
   exact ⟨DV.Le.of_eq (by rw [this]),tv⟩
  ·have hp:e ≠ n:=by simpa using h
   refine ⟨fun _=>⟨by omega,by omega⟩,k+1,⟨⟨rf,rf,le_int (by omega),tv⟩,tv,rfl,rfl⟩,⟨by omega,?_⟩,by dsimp only; omega⟩
   rw [List.take_add_one,he]
   simp only [Option.toList,List.mem_append,List.mem_singleton,not_or]
   exact ⟨hk2,fun e'=>hp e'.symm⟩
 ·have hk:k=l.length:=by
   have:¬ k<l.length:=by simpa using h
   omega
  subst hk
  rw [List.take_length] at hk2
  have:l.contains n=false:=by
   rw [←Bool.not_eq_true,List.contains_iff_mem]; exact hk2
  exact ⟨DV.Le.of_eq (by rw [this]),tv⟩
structure RowB (n:Nat) (lo hi:Int) (r:List Int):Prop where
 len:r.length=n
 bd:∀e,e∈r→lo≤e∧e≤hi
theorem RowB.mono {n:Nat} {a b c e:Int} {r:List Int} (h:RowB n a b r) (h1:c≤a) (h2:b≤e):RowB n c e r:=⟨h.len,fun x hx=>by have:=h.bd x hx; omega⟩
theorem RowB.set {n:Nat} {lo hi x:Int} {r:List Int} (h:RowB n lo hi r) (i:Nat) (hx:lo≤x∧x≤hi):RowB n lo hi (r.set i x):=⟨by simp [h.len],fun e he=>by
 rcases List.mem_or_eq_of_mem_set he with he | rfl
 ·exact h.bd e he
 ·exact hx⟩
def addE (acc:List Int) (i:Nat) (x:Int):List Int:=match acc[i]? with
 | some e=>acc.set i (e+x)
 | none=>acc
theorem addE_at {acc:List Int} {i:Nat} {e x:Int} (h:acc[i]?=some e):addE acc i x=acc.set i (e+x):=by simp [addE,h]
def gAdd (p:Int) (acc:List Int) (g:Giv):List Int:=if g.party=p then addE acc g.item.toNat g.n else acc
def negR (r:List Int):List Int:=r.map fun x=>0 - x
def negTo (r:List Int) (n i:Nat):List Int:=(negR r).take i++List.replicate (n - i) 0
def outR (m:Rows) (x:Sta) (p:Int):List Int:=x.gives.foldl (gAdd p) (negR ((m[p.toNat]?).getD []))
theorem negTo_at {r:List Int} {n i:Nat} (hr:r.length=n) (hi:i<n):(negTo r n i)[i]?=some 0:=by
 have hl:((negR r).take i).length=i:=by simp [negR,hr]; omega
 unfold negTo
 rw [List.getElem?_append_right (by omega),hl,Nat.sub_self,List.getElem?_replicate,if_pos (by omega)]
theorem negTo_set {r:List Int} {n i:Nat} {e:Int} (hr:r.length=n) (hi:i<n) (he:r[i]?=some e):(negTo r n i).set i (0 - e)=negTo r n (i+1):=by
 have hl:((negR r).take i).length=i:=by simp [negR,hr]; omega
 unfold negTo
 rw [List.set_append_right _ _ (by omega),hl,Nat.sub_self,show n - i=(n - (i+1))+1 by omega,List.replicate_succ,List.set_cons_zero,List.take_add_one,List.append_assoc]
 have:(negR r)[i]?=some (0 - e):=by simp [negR,he]
 rw [this]; rfl
theorem negTo_end {r:List Int} {n:Nat} (hr:r.length=n):negTo r n n=negR r:=by
 unfold negTo
 rw [List.take_of_length_le (by simp [negR,hr])]; simp
theorem negTo_len {r:List Int} {n i:Nat} (hr:r.length=n) (hi:i≤n):(negTo r n i).length=n:=by
 simp [negTo,negR,hr]; omega
theorem negR_bd {n:Nat} {b:Int} {r:List Int} (h:RowOk n b r):RowB n (-b) 0 (negR r):=⟨by simp [negR,h.len],fun e he=>by
 obtain ⟨x,hx,rfl⟩:=List.mem_map.1 he
 have:=h.bd x hx
 omega⟩
structure OuI where
 k:Nat
 acc:List Int
set_option maxHeartbeats 4000000 in
theorem outcome_spec (n:Nat) (d:Dea) (hwf:WF n d) (s:Int) (x:Sta) (h0:0≤s) (hx:d.states[s.toNat]?=some x) (hgl:x.gives.length≤100000) (way:List Int) (t:Int) (hp:Path d 0 way t) (hwl:way.length≤1000) (p:Nat) (hpl:p<d.parties.length):PSpec Try.prog 47 [I n,eDea d,I s,Ints way,I p] [Ints (outR (folM n d way) x p)]:=by
 refine pspec_of tab_ok mixed (calls_snd _) (range_snd _) Try.func47 rfl (by kernel_rfl) rfl ?_
 have hn64:=hwf.n64
 have hp4:=hwf.p4
 have hfo:=Follow_spec n (by omega) d (by omega) hwf.opt way t hp hwl
 have hra:=rect_folM hwf.opt hp hwl
 have hgi:=hwf.giv x (List.mem_of_getElem? hx)
 generalize folM n d way=m at *
 have hml:=hra.len
 obtain ⟨r,hr⟩:∃r,m[p]?=some r:=⟨_,List.getElem?_eq_getElem (by omega)⟩
 have hrk:=hra.at (List.mem_of_getElem? hr)
 have hrl:=hrk.len
 refine .inl ⟨_,fun _=>hfo.ok,?_⟩
 refine ⟨I 0,⟨rf,tv⟩,by omega,by omega,by rw [by22]; omega,by omega,false,(fun h=>by cases h),?_⟩
 refine ⟨SvI,fun z=>⟨2,[(0,.dv (I n)),(2,.dv (I s)),(4,.dv (I p)),(6,.ptr 0 0),(11,.dv (eRows m)),(12,.own 1 0 0 []),(13,.dv (I z.i))],[(0,.cells (dvs (dcells d))),(1,.tree 0 0 (.osl 1 (z.cur.map I)))]⟩,fun z=>z.i≤n∧z.cur=negTo r n z.i,fun z=>n - z.i,⟨0,List.replicate n 0⟩,fun _=>rfl,?_,⟨by simp,by simp [negTo]⟩,?_⟩
 ·refine ⟨⟨rf,rf,rf,rfl,rf,rfl,rf,tv⟩,⟨subWs_dvs _ _ _ (dcells d),⟨rfl,?_⟩,tv⟩,rfl,rfl⟩
  show DV.osl 1 (List.replicate (n:Int).toNat (I 0))=.osl 1 ((List.replicate n 0).map I)
  simp
 rintro ⟨i,cur⟩ ⟨hi1,hi2⟩
 dsimp only at hi1 hi2
 refine ⟨fun h=>?_,fun h=>?_⟩
 ·have hi:i<n:=by
   have:(i:Int)<n:=of_decide_eq_true h
   omega
  clear h
  obtain ⟨e,he⟩:∃e,r[i]?=some e:=⟨_,List.getElem?_eq_getElem (by omega)⟩
  have hb1:=hrk.bd e (List.mem_of_getElem? he)
  have hc:=negTo_at hrl hi
  have hcs:=negTo_set hrl hi he
  have hcl:=negTo_len hrl (show i≤n by omega)
  rw [←hi2] at hc hcs hcl
  refine ⟨Ints r,fun _=>⟨by omega,by simp [hr]⟩,I e,fun _=>⟨by omega,by simp [he]⟩,fun _=>⟨by omega,by omega⟩,?_⟩
  refine ⟨fun _=>⟨by omega,by simp; omega⟩,[I (0 - e)],⟨rf,tv⟩,I 0,by simp [hc],?_⟩
  refine ⟨fun _=>⟨by dsimp only; omega,by dsimp only; omega⟩,⟨i+1,cur.set i (0 - e)⟩,⟨⟨rf,rf,rf,rfl,rf,rfl,le_int (by simp),tv⟩,⟨subWs_dvs _ _ _ (dcells d),⟨rfl,?_⟩,tv⟩,rfl,rfl⟩,⟨by dsimp only; omega,hcs⟩,by dsimp only; omega⟩
  show DV.osl 1 ((cur.map I).set (i:Int).toNat (I (0 - e)))=.osl 1 ((cur.set i (0 - e)).map I)
  rw [List.map_set]; rfl
 have hi:i=n:=by
  have:¬ (i:Int)<n:=of_decide_eq_false h
  omega
 clear h
 subst hi
 rw [negTo_end hrl] at hi2
 have hnb:=negR_bd hrk
 refine ⟨eSta x,fun _=>⟨h0,by simp [hx]⟩,?_⟩
 refine ⟨OuI,fun z=>⟨2,[(4,.dv (I p)),(12,.own 1 0 0 []),(14,.dv (.sl 3 (x.gives.map eGiv))),(15,.dv (I z.k))],[(0,.cells (dvs (dcells d))),(1,.tree 0 0 (.osl 1 (z.acc.map I)))]⟩,fun z=>z.k≤x.gives.length∧z.acc=(x.gives.take z.k).foldl (gAdd p) (negR r)∧RowB i (-1099511627776000000) (z.k * 1099511627776) z.acc,fun z=>x.gives.length - z.k,⟨0,cur⟩,fun _=>rfl,⟨⟨rf,rfl,rf,rf,tv⟩,⟨subWs_dvs _ _ _ (dcells d),⟨rfl,rfl⟩,tv⟩,rfl,rfl⟩,⟨by simp,by simp [hi2],by rw [hi2]; exact hnb.mono (by omega) (by simp)⟩,?_⟩
 rintro ⟨k,acc⟩ ⟨hk1,hk2,hk3⟩
 dsimp only at hk1 hk2 hk3
 refine ⟨fun h=>?_,fun h=>?_⟩
 ·have hk:k<x.gives.length:=by simpa using h
  clear h
  generalize hg':x.gives[k]=g at *
  have hg:x.gives[k]?=some g:=by rw [List.getElem?_eq_getElem hk,hg']
  obtain ⟨hg1,hg2,hg3,hg4,hg5,hg6⟩:=hgi g (List.mem_of_getElem? hg)
  have hal:=hk3.len
  have hgx:true=true→0≤(k:Int)∧(x.gives.map eGiv)[((k:Int)).toNat]?=some (eGiv g):=fun _=>⟨by omega,by simp [hg]⟩
  have htk:(x.gives.take (k+1)).foldl (gAdd p) (negR r)=gAdd p acc g:=by
   rw [List.take_add_one,hg,List.foldl_append,hk2]; rfl
  refine ⟨eGiv g,hgx,fun h=>?_,fun h=>?_⟩
  ·have hgp:g.party=p:=by simpa using h
   clear h
   obtain ⟨e,he⟩:∃e,acc[g.item.toNat]?=some e:=⟨_,List.getElem?_eq_getElem (by omega)⟩
   have hb:=hk3.bd e (List.mem_of_getElem? he)
   have hga:gAdd p acc g=acc.set g.item.toNat (e+g.n):=by rw [gAdd,if_pos hgp,addE_at he]
   refine ⟨eGiv g,hgx,eGiv g,hgx,fun _=>⟨hg3,by simp; omega⟩,I e,fun _=>by simp [he],eGiv g,hgx,fun _=>⟨by omega,by omega⟩,?_⟩
   refine ⟨fun _=>⟨hg3,by simp; omega⟩,[I (e+g.n)],⟨rf,tv⟩,I e,by simp [he],by kernel_rfl,?_⟩
   refine ⟨fun _=>⟨by dsimp only; omega,by dsimp only; omega⟩,⟨k+1,acc.set g.item.toNat (e+g.n)⟩,⟨⟨rf,rfl,rf,le_int (by simp),tv⟩,⟨subWs_dvs _ _ _ (dcells d),⟨rfl,?_⟩,tv⟩,rfl,rfl⟩,⟨by dsimp only; omega,?_,?_⟩,by dsimp only; omega⟩
   ·show DV.osl 1 ((acc.map I).set g.item.toNat (I (e+g.n)))=.osl 1 ((acc.set g.item.toNat (e+g.n)).map I)
    rw [List.map_set]
   ·dsimp only; rw [htk,hga]
   ·dsimp only
    exact (hk3.mono (Int.le_refl _) (by omega)).set _ (by omega)
  ·have hgp:g.party ≠ p:=by simpa using h
   clear h
   have hga:gAdd p acc g=acc:=by rw [gAdd,if_neg hgp]
   refine ⟨fun _=>⟨by dsimp only; omega,by dsimp only; omega⟩,⟨k+1,acc⟩,⟨⟨rf,rfl,rf,le_int (by simp),tv⟩,⟨subWs_dvs _ _ _ (dcells d),⟨rfl,rfl⟩,tv⟩,rfl,rfl⟩,⟨by dsimp only; omega,?_,hk3.mono (Int.le_refl _) (by dsimp only; omega)⟩,by dsimp only; omega⟩
   dsimp only; rw [htk,hga]
 ·have hk:k=x.gives.length:=by
   have:¬ k<x.gives.length:=by simpa using h
   omega
  clear h
  subst hk
  rw [List.take_length] at hk2
  refine ⟨DV.Le.of_eq ?_,tv⟩
  show DV.sl 1 (fzL (acc.map I))=_
  rw [fzL_map fun _=>rfl,hk2,outR,Int.toNat_natCast,hr]; rfl
end Go.Proofs.Ytfcfbfkjdenpdaa
namespace Go.Proofs.Ytfcfbfkjdenpdaa
open Go.TM
def eAdd (seen:List Int) (t:Stp):List Int:=if t.next∈seen then seen else seen++[t.next]
def eProc (d:Dea) (i:Nat) (seen:List Int):List Int:=match seen[i]? with
 | some s=>match d.states[s.toNat]? with
  | some x=>(stepsOf d x).foldl eAdd seen
  | none=>seen
 | none=>seen
def eAt (d:Dea) (from_:Int):Nat→List Int
 | 0=>[from_]
 | i+1=>eProc d i (eAt d from_ i)
def finS (d:Dea) (s:Int):Bool:=match d.states[s.toNat]? with
 | some x=>x.final
 | none=>false
def endsR (d:Dea) (from_:Int):Bool:=(eAt d from_ d.states.length).any (finS d)
structure EOk (d:Dea) (l:List Int):Prop where
 nod:l.Nodup
 rng:∀s,s∈l→0≤s∧s<d.states.length
theorem EOk.le {d:Dea} {l:List Int} (h:EOk d l):l.length≤d.states.length :=
 BOk.le (w:=⟨l,l.map fun _=>[]⟩) ⟨by simp,h.rng,h.nod,fun v hv=>by
  obtain ⟨x,-,rfl⟩:=List.mem_map.1 hv
  simp⟩
theorem EOk.add {d:Dea} {l:List Int} (h:EOk d l) {t:Stp} (ht:0≤t.next∧t.next<d.states.length):EOk d (eAdd l t):=by
 unfold eAdd
 split
 ·exact h
 ·rename_i hn
  refine ⟨?_,fun s hs=>?_⟩
  ·rw [List.nodup_append]
   exact ⟨h.nod,by simp,fun a ha b hb=>by simp at hb; subst hb; exact fun e=>hn (e ▸ ha)⟩
  ·rcases List.mem_append.1 hs with hs | hs
   ·exact h.rng s hs
   ·rcases List.mem_singleton.1 hs with rfl; exact ht
theorem EOk.fold {d:Dea}:∀(l:List Stp) {s:List Int},EOk d s→(∀t,t∈l→0≤t.next∧t.next<d.states.length)→EOk d (l.foldl eAdd s)
 | [],_,h,_=>h
 | t::l,_,h,hl=>EOk.fold l (h.add (hl t (by simp))) fun u hu=>hl u (by simp [hu])
theorem eAdd_pre (s:List Int) (t:Stp):∃e,eAdd s t=s++e:=by
 unfold eAdd
 split
 ·exact ⟨[],by simp⟩
 ·exact ⟨_,rfl⟩
theorem eFold_pre:∀(l:List Stp) (s:List Int),∃e,l.foldl eAdd s=s++e
 | [],s=>⟨[],by simp⟩
 | t::l,s=>by
  obtain ⟨e,he⟩:=eFold_pre l (eAdd s t)
  obtain ⟨f,hf⟩:=eAdd_pre s t
  exact ⟨f++e,by rw [List.foldl_cons,he,hf,List.append_assoc]⟩
theorem eProc_pre (d:Dea) (i:Nat) (s:List Int):∃e,eProc d i s=s++e:=by
 unfold eProc
 split
 ·split
  ·exact eFold_pre _ _
  ·exact ⟨[],by simp⟩
 ·exact ⟨[],by simp⟩
theorem eAt_pre (d:Dea) (f:Int) (i:Nat):∀j,∃e,eAt d f (i+j)=eAt d f i++e
 | 0=>⟨[],by simp⟩
 | j+1=>by
  obtain ⟨e,he⟩:=eAt_pre d f i j
  obtain ⟨g,hg⟩:=eProc_pre d (i+j) (eAt d f (i+j))
  exact ⟨e++g,by show eProc d (i+j) (eAt d f (i+j))=_; rw [hg,he,List.append_assoc]⟩
theorem eok_at (d:Dea) (f:Int) (hf:0≤f∧f<d.states.length):∀i,EOk d (eAt d f i)
 | 0=>⟨by simp [eAt],fun s hs=>by simp [eAt] at hs; subst hs; exact hf⟩
 | i+1=>by
  have ih:=eok_at d f hf i
  show EOk d (eProc d i (eAt d f i))
  unfold eProc
  split
  ·split
   ·exact ih.fold _ fun t ht=>stepsOf_next ht
   ·exact ih
  ·exact ih
theorem eAt_stop (d:Dea) (f:Int) {i:Nat} (h:(eAt d f i).length≤i):∀j,eAt d f (i+j)=eAt d f i
 | 0=>rfl
 | j+1=>by
  have ih:=eAt_stop d f h j
  show eProc d (i+j) (eAt d f (i+j))=_
  rw [ih]
  unfold eProc
  rw [List.getElem?_eq_none (by omega)]
structure EnI where
 k:Nat
 s:List Int
set_option maxRecDepth 100000 in
set_option maxHeartbeats 4000000 in
theorem ends_spec (d:Dea) (hs:Small d) (f:Int) (hf:0≤f∧f<d.states.length):PSpec Try.prog 26 [eDea d,I f] [B (endsR d f)]:=by
 refine pspec_of tab_ok mixed (calls_snd _) (range_snd _) Try.func26 rfl (by kernel_rfl) rfl ?_
 have hst:=hs.states
 refine .inr (.inl ⟨[I f],rfl,⟨rf,tv⟩,fun y hy=>(by rcases List.mem_singleton.1 hy with rfl; rfl),?_⟩)
 refine ⟨Nat,fun i=>⟨2,[(2,.ptr 0 0),(5,.own 1 0 0 []),(6,.dv (I i))],[(0,.cells (dvs (dcells d))),(1,.tree 0 0 (.osl 1 ((eAt d f i).map I)))]⟩,fun i=>i≤(eAt d f i).length∧((eAt d f i).take i).all (fun s=>!finS d s)=true,fun i=>d.states.length - i,0,fun _=>rfl,?_,⟨by omega,by simp⟩,?_⟩
 ·exact ⟨⟨rfl,rfl,rf,tv⟩,⟨subWs_dvs _ _ _ (dcells d),⟨rfl,rfl⟩,tv⟩,rfl,rfl⟩
 rintro i ⟨hi1,hi2⟩
 have hok:=eok_at d f hf i
 have hle:=hok.le
 refine ⟨fun h=>?_,fun h=>?_⟩
 ·have hi:i<(eAt d f i).length:=by simpa using h
  clear h
  generalize hs':(eAt d f i)[i]=s at *
  have hso:(eAt d f i)[i]?=some s:=by rw [List.getElem?_eq_getElem hi,hs']
  have hrg:=hok.rng s (List.mem_of_getElem? hso)
  have hcl:s.toNat<d.states.length:=by omega
  obtain ⟨x,hx⟩:∃x,d.states[s.toNat]?=some x:=⟨_,List.getElem?_eq_getElem hcl⟩
  have hol:=hs.opts x (List.mem_of_getElem? hx)
  have hfs:finS d s=x.final:=by simp [finS,hx]
  have hsi:true=true→0≤(i:Int)∧((i:Int)<((eAt d f i).map I).length):=fun _=>⟨by omega,by simp; omega⟩
  refine ⟨hsi,I s,fun _=>by simp [hso],eSta x,fun _=>⟨hrg.1,by simp [hx]⟩,by kernel_rfl,fun h=>?_,fun h=>?_⟩
  ·have hfin:x.final=true:=h
   have:endsR d f=true:=by
    unfold endsR
    obtain ⟨e,he⟩:=eAt_pre d f i (d.states.length - i)
    rw [show i+(d.states.length - i)=d.states.length by omega] at he
    rw [he,List.any_append,List.any_eq_true.2 ⟨s,List.mem_of_getElem? hso,by rw [hfs,hfin]⟩]; rfl
   exact ⟨DV.Le.of_eq (by rw [this]),tv⟩
  have hfin:x.final=false:=h
  clear h
  have hss:=steps_spec d s.toNat x hx (by omega)
  rw [Int.toNat_of_nonneg hrg.1] at hss
  have hsn:=stepsOf_len d x
  refine ⟨hsi,I s,fun _=>by simp [hso],.inl ⟨_,fun _=>hss.ok,by kernel_rfl,?_⟩⟩
  refine ⟨EnI,fun z=>⟨2,[(2,.ptr 0 0),(5,.own 1 0 0 []),(6,.dv (I i)),(7,.dv (.sl 4 ((stepsOf d x).map eStp))),(8,.dv (I z.k))],[(0,.cells (dvs (dcells d))),(1,.tree 0 0 (.osl 1 (z.s.map I)))]⟩,fun z=>z.k≤(stepsOf d x).length∧z.s=((stepsOf d x).take z.k).foldl eAdd (eAt d f i),fun z=>(stepsOf d x).length - z.k,⟨0,eAt d f i⟩,fun _=>rfl,?_,⟨by simp,by simp⟩,?_⟩
  ·exact ⟨⟨rfl,rfl,rf,rf,rf,tv⟩,⟨subWs_dvs _ _ _ (dcells d),⟨rfl,rfl⟩,tv⟩,rfl,rfl⟩
  rintro ⟨k,sn⟩ ⟨hk1,hk2⟩
  dsimp only at hk1 hk2
  have hok2:EOk d sn:=by rw [hk2]; exact hok.fold _ fun t ht=>stepsOf_next (List.mem_of_mem_take ht)
  have hle2:=hok2.le
  refine ⟨fun h=>?_,fun h=>?_⟩
  ·have hk:k<(stepsOf d x).length:=by simpa using h
   clear h
   generalize ht':(stepsOf d x)[k]=t at *
   have hto:(stepsOf d x)[k]?=some t:=by rw [List.getElem?_eq_getElem hk,ht']
   have htk:((stepsOf d x).take (k+1)).foldl eAdd (eAt d f i)=eAdd sn t:=by
    rw [List.take_add_one,hto,List.foldl_append,hk2]; rfl
   have hxt:true=true→0≤(k:Int)∧((stepsOf d x).map eStp)[((k:Int)).toNat]?=some (eStp t):=fun _=>⟨by omega,by simp [hto]⟩
   have hok3:CallOk Try.prog 52 [fzD (.osl 1 (sn.map I)),I t.next] [B (sn.contains t.next)]:=by
    have e:fzD (.osl 1 (sn.map I))=Ints sn:=by show DV.sl 1 (fzL (sn.map I))=_; rw [fzL_map fun _=>rfl]
    rw [e]; exact (has_spec sn t.next (by omega)).ok
   refine ⟨eStp t,hxt,?_⟩
   refine .inl (.inl ⟨_,fun _=>hok3,rfl,fun h=>?_,fun h=>?_⟩)
   ·have hn:t.next ∉ sn:=by
     have h:(!sn.contains t.next)=true:=h
     rw [Bool.not_eq_true',←Bool.not_eq_true,List.contains_iff_mem] at h
     exact h
    clear h
    refine ⟨eStp t,hxt,?_⟩
    refine .inl ⟨[I t.next],rfl,⟨rf,tv⟩,fun y hy=>(by rcases List.mem_singleton.1 hy with rfl; rfl),.inr ⟨[I t.next],ELes.refl _,(by rw [by22]; simp; omega),(by simp; omega),?_⟩⟩
    refine ⟨fun _=>⟨by dsimp only; omega,by dsimp only; omega⟩,⟨k+1,sn++[t.next]⟩,⟨⟨rfl,rfl,rf,rf,le_int (by simp),tv⟩,⟨subWs_dvs _ _ _ (dcells d),⟨rfl,by simp⟩,tv⟩,rfl,rfl⟩,⟨by dsimp only; omega,?_⟩,by dsimp only; omega⟩
    dsimp only
    rw [htk,eAdd,if_neg hn]
   ·have hn:t.next∈sn:=by
     have h:(!sn.contains t.next)=false:=h
     rw [Bool.not_eq_false',List.contains_iff_mem] at h
     exact h
    clear h
    refine ⟨fun _=>⟨by dsimp only; omega,by dsimp only; omega⟩,⟨k+1,sn⟩,⟨⟨rfl,rfl,rf,rf,le_int (by simp),tv⟩,⟨subWs_dvs _ _ _ (dcells d),⟨rfl,rfl⟩,tv⟩,rfl,rfl⟩,⟨by dsimp only; omega,?_⟩,by dsimp only; omega⟩
    dsimp only
    rw [htk,eAdd,if_pos hn]
  ·have hk:k=(stepsOf d x).length:=by
    have:¬ k<(stepsOf d x).length:=by simpa using h
    omega
   clear h
   subst hk
   rw [List.take_length] at hk2
   have hnx:eAt d f (i+1)=sn:=by
    show eProc d i (eAt d f i)=_
    unfold eProc
    rw [hso]; simp only [hx]; rw [hk2]
   refine ⟨fun _=>⟨by omega,by omega⟩,i+1,⟨⟨rfl,rfl,le_int (by omega),tv⟩,⟨subWs_dvs _ _ _ (dcells d),⟨rfl,by rw [hnx]⟩,tv⟩,rfl,rfl⟩,⟨?_,?_⟩,by dsimp only; omega⟩
   ·obtain ⟨e,he⟩:=eProc_pre d i (eAt d f i)
    show i+1≤(eProc d i (eAt d f i)).length
    rw [he]; simp; omega
   ·obtain ⟨e,he⟩:=eProc_pre d i (eAt d f i)
    show ((eProc d i (eAt d f i)).take (i+1)).all _=true
    rw [he,List.take_append_of_le_length (by omega)]
    exact all_take hso hi2 (by rw [hfs,hfin])
 ·have hi:i=(eAt d f i).length:=by
   have:¬ i<(eAt d f i).length:=by simpa using h
   omega
  clear h
  have hN:eAt d f d.states.length=eAt d f i:=by
   have:=eAt_stop d f (show (eAt d f i).length≤i by omega) (d.states.length - i)
   rw [show i+(d.states.length - i)=d.states.length by omega] at this
   exact this
  have:endsR d f=false:=by
   unfold endsR
   rw [hN,not_all,←List.take_of_length_le (show (eAt d f i).length≤i by omega),hi2]; rfl
  exact ⟨DV.Le.of_eq (by rw [this]),tv⟩
end Go.Proofs.Ytfcfbfkjdenpdaa
namespace Go.Proofs.Ytfcfbfkjdenpdaa
open Go.TM
theorem optSteps_has {d:Dea} {x:Sta} {o:Opt} (hn:okNext d o.next=true):∀{m k:Nat},x.opts[k]?=some o→k<m→(⟨k,o.party,o.next,o.put⟩:Stp)∈optSteps d x m
 | 0,k,_,h=>by omega
 | m+1,k,ho,hk=>by
  simp only [optSteps]
  by_cases e:k=m
  ·subst e
   rw [ho]; simp only [hn,if_true]; simp
  ·have ih:=optSteps_has (x:=x) hn ho (show k<m by omega)
   split
   ·split
    ·exact List.mem_append_left _ ih
    ·exact ih
   ·exact ih
theorem edge_step {d:Dea} {s a u:Int} {x:Sta} (he:Edge d s a u) (hx:d.states[s.toNat]?=some x):∃t,t∈stepsOf d x∧t.next=u:=by
 cases he with
 | opt y k o h0 hy hf ho hn =>
  rw [hx] at hy; injection hy with hy; subst hy
  refine ⟨⟨k,o.party,o.next,o.put⟩,?_,rfl⟩
  unfold stepsOf
  rw [hf]
  exact List.mem_append_left _ (by simpa using optSteps_has hn ho (List.getElem?_eq_some_iff.1 ho).1)
 | late y h0 hy hf hw hn =>
  rw [hx] at hy; injection hy with hy; subst hy
  refine ⟨⟨-1,-1,x.late,[]⟩,?_,rfl⟩
  unfold stepsOf
  rw [hf]
  exact List.mem_append_right _ (by simp [hw,hn])
def CanEnd (d:Dea) (s:Int):Prop:=∃w t,Path d s w t∧finS d t=true
theorem fold_reach {d:Dea} {f s:Int} {x:Sta} (h0:0≤s) (hx:d.states[s.toNat]?=some x) (hs:∃w,Path d f w s):∀(l:List Stp) {sn:List Int},(∀t,t∈sn→∃w,Path d f w t)→(∀t,t∈l→t∈stepsOf d x)→∀t,t∈l.foldl eAdd sn→∃w,Path d f w t
 | [],_,h,_=>h
 | u::l,sn,h,hl=>by
  refine fold_reach h0 hx hs l ?_ fun v hv=>hl v (by simp [hv])
  intro t ht
  unfold eAdd at ht
  split at ht
  ·exact h t ht
  ·rcases List.mem_append.1 ht with ht | ht
   ·exact h t ht
   ·rcases List.mem_singleton.1 ht with rfl
    obtain ⟨w,hw⟩:=hs
    exact ⟨_,hw.snoc (stepsOf_edge h0 hx (hl u (by simp)))⟩
theorem eAt_reach (d:Dea) (f:Int) (hf:0≤f∧f<d.states.length):∀i t,t∈eAt d f i→∃w,Path d f w t
 | 0,t,h=>by simp [eAt] at h; subst h; exact ⟨[],.nil _⟩
 | i+1,t,h=>by
  have ih:=eAt_reach d f hf i
  have hok:=eok_at d f hf i
  have h:t∈eProc d i (eAt d f i):=h
  unfold eProc at h
  split at h
  ·rename_i s hs
   split at h
   ·rename_i x hx
    exact fold_reach (hok.rng s (List.mem_of_getElem? hs)).1 hx (ih s (List.mem_of_getElem? hs)) _ ih (fun _ h=>h) t h
   ·exact ih t h
  ·exact ih t h
theorem eFold_mem:∀(l:List Stp) (s:List Int) (t:Stp),t∈l→t.next∈l.foldl eAdd s
 | u::l,s,t,h=>by
  rw [List.foldl_cons]
  rcases List.mem_cons.1 h with rfl | h
  ·obtain ⟨e,he⟩:=eFold_pre l (eAdd s t)
   rw [he]
   refine List.mem_append_left _ ?_
   unfold eAdd
   split
   ·assumption
   ·simp
  ·exact eFold_mem l _ t h
theorem eAt_closed (d:Dea) (f:Int):∀i j s x t,j<i→(eAt d f i)[j]?=some s→d.states[s.toNat]?=some x→t∈stepsOf d x→t.next∈eAt d f i
 | 0,j,s,x,t,hj,_,_,_=>by omega
 | i+1,j,s,x,t,hj,hs,hx,ht=>by
  have ih:=eAt_closed d f i
  obtain ⟨e,he⟩:=eProc_pre d i (eAt d f i)
  have hnx:eAt d f (i+1)=eAt d f i++e:=he
  by_cases hji:j<i
  ·by_cases hjl:j<(eAt d f i).length
   ·rw [hnx,List.getElem?_append_left hjl] at hs
    rw [hnx]
    exact List.mem_append_left _ (ih j s x t hji hs hx ht)
   ·exfalso
    have hst:=eAt_stop d f (show (eAt d f i).length≤i by omega) 1
    rw [hst,List.getElem?_eq_none (by omega)] at hs
    cases hs
  ·have hji:j=i:=by omega
   subst hji
   by_cases hjl:j<(eAt d f j).length
   ·rw [hnx,List.getElem?_append_left hjl] at hs
    show t.next∈eProc d j (eAt d f j)
    unfold eProc
    rw [hs]; simp only [hx]
    exact eFold_mem _ _ t ht
   ·exfalso
    have hst:=eAt_stop d f (show (eAt d f j).length≤j by omega) 1
    rw [hst,List.getElem?_eq_none (by omega)] at hs
    cases hs
theorem endsR_iff (d:Dea) (f:Int) (hf:0≤f∧f<d.states.length):endsR d f=true ↔ CanEnd d f:=by
 unfold endsR
 rw [List.any_eq_true]
 constructor
 ·rintro ⟨t,ht,hfin⟩
  obtain ⟨w,hw⟩:=eAt_reach d f hf _ t ht
  exact ⟨w,t,hw,hfin⟩
 ·rintro ⟨w,t,hw,hfin⟩
  refine ⟨t,?_,hfin⟩
  have hok:=eok_at d f hf d.states.length
  have hle:=hok.le
  have key:∀{w:List Int} {s t:Int},Path d s w t→s∈eAt d f d.states.length→t∈eAt d f d.states.length:=by
   intro w s t h
   induction h with
   | nil=>exact fun h=>h
   | cons he _ ih =>
    intro hs
    refine ih ?_
    obtain ⟨j,hj⟩:=List.getElem?_of_mem hs
    have hjl:=(List.getElem?_eq_some_iff.1 hj).1
    obtain ⟨x,h0,hx,-⟩:=he.inv
    obtain ⟨u,hu,hn⟩:=edge_step he hx
    rw [←hn]
    exact eAt_closed d f _ j _ x u (by omega) hj hx hu
  refine key hw ?_
  obtain ⟨e,he⟩:=eAt_pre d f 0 d.states.length
  rw [Nat.zero_add] at he
  rw [he]; simp [eAt]
def reachB (d:Dea) (E:List Int) (s:Int):Bool:=finS d s || (match d.states[s.toNat]? with
 | some x=>(stepsOf d x).any fun t=>decide (t.next∈E)
 | none=>false)
def eS (d:Dea) (E:List Int) (s:Int):List Int:=if s∈E then E else if reachB d E s then E++[s] else E
def endPass (d:Dea) (E:List Int):List Int:=(disc d).order.foldl (eS d) E
def endN (d:Dea):Nat→List Int
 | 0=>[]
 | k+1=>endPass d (endN d k)
def endsE (d:Dea):List Int:=endN d ((disc d).order.length+1)
theorem eS_pre (d:Dea) (E:List Int) (s:Int):∃e,eS d E s=E++e:=by
 unfold eS
 split
 ·exact ⟨[],by simp⟩
 ·split
  ·exact ⟨_,rfl⟩
  ·exact ⟨[],by simp⟩
theorem eSs_pre (d:Dea):∀(l:List Int) (E:List Int),∃e,l.foldl (eS d) E=E++e
 | [],E=>⟨[],by simp⟩
 | s::l,E=>by
  obtain ⟨e,he⟩:=eSs_pre d l (eS d E s)
  obtain ⟨f,hf⟩:=eS_pre d E s
  exact ⟨f++e,by rw [List.foldl_cons,he,hf,List.append_assoc]⟩
structure EndOk (d:Dea) (E:List Int):Prop where
 nod:E.Nodup
 ord:∀s,s∈E→s∈(disc d).order
 can:∀s,s∈E→CanEnd d s
theorem EndOk.add {d:Dea} {E:List Int} (h:EndOk d E) {s:Int} (hs:s∈(disc d).order):EndOk d (eS d E s):=by
 unfold eS
 split
 ·exact h
 ·rename_i hn
  split
  ·rename_i hr
   have hb:=disc_ok d
   have hrg:=hb.rng s hs
   have hcan:CanEnd d s:=by
    unfold reachB at hr
    cases hf:finS d s with
    | true=>exact ⟨[],s,.nil _,hf⟩
    | false =>
     rw [hf,Bool.false_or] at hr
     split at hr
     ·rename_i x hx
      obtain ⟨t,ht,h2⟩:=List.any_eq_true.1 hr
      obtain ⟨w,u,hw,hu⟩:=h.can t.next (of_decide_eq_true h2)
      exact ⟨_,u,.cons (stepsOf_edge hrg.1 hx ht) hw,hu⟩
     ·cases hr
   refine ⟨?_,fun t ht=>?_,fun t ht=>?_⟩
   ·rw [List.nodup_append]
    exact ⟨h.nod,by simp,fun a ha b hb=>by simp at hb; subst hb; exact fun e=>hn (e ▸ ha)⟩
   ·rcases List.mem_append.1 ht with ht | ht
    ·exact h.ord t ht
    ·rcases List.mem_singleton.1 ht with rfl; exact hs
   ·rcases List.mem_append.1 ht with ht | ht
    ·exact h.can t ht
    ·rcases List.mem_singleton.1 ht with rfl; exact hcan
  ·exact h
theorem EndOk.fold {d:Dea}:∀(l:List Int) {E:List Int},EndOk d E→(∀s,s∈l→s∈(disc d).order)→EndOk d (l.foldl (eS d) E)
 | [],_,h,_=>h
 | s::l,_,h,hl=>EndOk.fold l (h.add (hl s (by simp))) fun u hu=>hl u (by simp [hu])
theorem endN_ok (d:Dea):∀k,EndOk d (endN d k)
 | 0=>⟨by simp [endN],by simp [endN],by simp [endN]⟩
 | k+1=>(endN_ok d k).fold _ fun _ h=>h
theorem len_sub:∀(E L:List Int),E.Nodup→(∀s,s∈E→s∈L)→E.length≤L.length
 | [],L,_,_=>by simp
 | x::E,L,hn,hs=>by
  rw [List.nodup_cons] at hn
  have hx:=hs x (by simp)
  have h1:=len_sub E (L.erase x) hn.2 fun s hs'=>(List.mem_erase_of_ne (show s ≠ x by intro e; subst e; exact hn.1 hs')).2 (hs s (by simp [hs']))
  rw [List.length_erase_of_mem hx] at h1
  have h2:0<L.length:=List.length_pos_of_mem hx
  simp only [List.length_cons]; omega
theorem EndOk.le {d:Dea} {E:List Int} (h:EndOk d E):E.length≤(disc d).order.length:=by
 exact len_sub _ _ h.nod h.ord
theorem endN_stop (d:Dea) {k:Nat} (h:endPass d (endN d k)=endN d k):∀j,endN d (k+j)=endN d k
 | 0=>rfl
 | j+1=>by
  have ih:=endN_stop d h j
  show endPass d (endN d (k+j))=_
  rw [ih,h]
theorem eSs_fix {d:Dea}:∀{l E:List Int},l.foldl (eS d) E=E→∀s,s∈l→eS d E s=E
 | [],_,_,s,hs=>by simp at hs
 | u::l,E,h,s,hs=>by
  rw [List.foldl_cons] at h
  obtain ⟨e,he⟩:=eS_pre d E u
  obtain ⟨f,hf⟩:=eSs_pre d l (eS d E u)
  have hu:eS d E u=E:=by
   rw [hf,he] at h
   have hl:=congrArg List.length h
   simp only [List.length_append] at hl
   have:e=[]:=List.eq_nil_of_length_eq_zero (by omega)
   rw [he,this]; simp
  rcases List.mem_cons.1 hs with rfl | hs
  ·exact hu
  ·rw [hu] at h
   exact eSs_fix h s hs
theorem endN_grow (d:Dea):∀k,(∃j,j<k∧endPass d (endN d j)=endN d j) ∨ k≤(endN d k).length
 | 0=>.inr (by omega)
 | k+1=>by
  rcases endN_grow d k with ⟨j,hj,h⟩ | h
  ·exact .inl ⟨j,by omega,h⟩
  ·obtain ⟨e,he⟩:=eSs_pre d (disc d).order (endN d k)
   have he:endPass d (endN d k)=endN d k++e:=he
   by_cases hn:e=[]
   ·exact .inl ⟨k,by omega,by rw [he,hn]; simp⟩
   ·right
    show k+1≤(endPass d (endN d k)).length
    have:0<e.length:=List.length_pos_iff.2 hn
    rw [he,List.length_append]; omega
theorem endsE_fix (d:Dea):endPass d (endsE d)=endsE d:=by
 rcases endN_grow d ((disc d).order.length+1) with ⟨j,hj,h⟩ | h
 ·have:=endN_stop d h ((disc d).order.length+1 - j)
  rw [show j+((disc d).order.length+1 - j)=(disc d).order.length+1 by omega] at this
  unfold endsE
  rw [this]; exact h
 ·have:=(endN_ok d ((disc d).order.length+1)).le
  omega
theorem endsE_iff (d:Dea) (hd:d.states ≠ []) {s:Int} (hs:s∈(disc d).order):s∈endsE d ↔ CanEnd d s:=by
 have hok:=endN_ok d ((disc d).order.length+1)
 have hb:=disc_ok d
 constructor
 ·exact fun h=>hok.can s h
 ·rintro ⟨w,t,hw,hfin⟩
  have key:∀{w:List Int} {s t:Int},Path d s w t→finS d t=true→s∈(disc d).order→s∈endsE d:=by
   intro w s t h
   induction h with
   | nil s =>
    intro hf hs
    have h2:=eSs_fix (endsE_fix d) s hs
    unfold eS at h2
    split at h2
    ·assumption
    ·rw [show reachB d (endsE d) s=true by simp [reachB,hf]] at h2
     simp at h2
   | @cons s a u v w he _ ih =>
    intro hf hs
    obtain ⟨x,h0,hx,-⟩:=he.inv
    obtain ⟨t',ht',hn⟩:=edge_step he hx
    obtain ⟨k,hk⟩:=List.getElem?_of_mem hs
    have hkl:=(List.getElem?_eq_some_iff.1 hk).1
    obtain ⟨y,hy⟩:∃y,(disc d).ways[k]?=some y:=⟨_,List.getElem?_eq_getElem (by rw [hb.len]; exact hkl)⟩
    obtain ⟨z,hz,-⟩:=way_near hd (wayOf_at d hk hy) hx ht'
    obtain ⟨k2,hk2,-⟩:=wayOf_inv hz
    have hu:=ih hf (by rw [←hn]; exact List.mem_of_getElem? hk2)
    have h2:=eSs_fix (endsE_fix d) s hs
    unfold eS at h2
    split at h2
    ·assumption
    ·have:reachB d (endsE d) s=true:=by
      unfold reachB
      rw [hx]
      simp only [Bool.or_eq_true,List.any_eq_true]
      exact .inr ⟨t',ht',decide_eq_true (by rw [hn]; exact hu)⟩
     rw [this] at h2
     simp at h2
  exact key hw hfin hs
theorem ends_agree (d:Dea) (hd:d.states ≠ []) {s:Int} (hs:s∈(disc d).order):decide (s∈endsE d)=endsR d s:=by
 have h1:=endsE_iff d hd hs
 have h2:=endsR_iff d s ((disc_ok d).rng s hs)
 cases hr:endsR d s with
 | true=>exact decide_eq_true (h1.2 (h2.1 hr))
 | false =>
  refine decide_eq_false fun h=>?_
  rw [h2.2 (h1.1 h)] at hr
  cases hr
end Go.Proofs.Ytfcfbfkjdenpdaa
