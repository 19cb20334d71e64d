import Derived.Test.YtfcfbfkjdenpdaaK3Q8
import Derived.Test.YtfcfbfkjdenpdaaK3Q7
import Derived.Test.YtfcfbfkjdenpdaaK3Q5
set_option linter.unusedVariables false
set_option linter.unusedSimpArgs false
set_option linter.unusedSectionVars false
namespace Go.Proofs.Ytfcfbfkjdenpdaa
open Go.TM
def freeB (x:Sta) (r:List Int) (p:Int):Bool:=x.final || (x.wait != 0) || x.opts.any (prtB p) || !(r.any fun n=>decide (0<n))
set_option maxRecDepth 100000 in
set_option maxHeartbeats 4000000 in
theorem isFree_spec (n:Nat) (d:Dea) (M:List DV) (s:Int) (x:Sta) (h0:0≤s) (hx:d.states[s.toNat]?=some x) (hol:x.opts.length≤1000) (m:Rows) (hM:mget M (I s)=some (cVal s m)) (p:Nat) (r:List Int) (hr:m[p]?=some r) (hrl:r.length≤1000):CSpec Try.prog 68 [.ptr 5 0,.dv (I s),.dv (I p)] 6 (qK n d M) 0 [.dv (B (freeB x r p))] (qK n d M):=by
 refine cspec_of tab_ok mixed (calls_snd _) (range_snd _) Try.func68 rfl rfl (by kernel_rfl) ?_
 have hpl:=(List.getElem?_eq_some_iff.1 hr).1
 refine ⟨eSta x,fun _=>⟨h0,by simp [hx]⟩,?_⟩
 repeat first | refine ⟨id,?_⟩ | refine ⟨fun _ h=>bw_f h,?_⟩ | refine ⟨fun _ h=>bw_t h,?_⟩ | refine ⟨fun h=>⟨h,fun h2=>bw_and h h2⟩,?_⟩ | refine ⟨fun h=>⟨h,fun h2=>bw_andf h h2⟩,?_⟩
 refine ⟨fun h=>?_,fun h=>?_⟩
 ·have hb:freeB x r p=true:=by
   have h:(bif x.final then true else (x.wait != 0))=true:=h
   unfold freeB
   cases hf:x.final <;> simp_all
  exact ⟨_,_,⟨rfl,rfl⟩,by kernel_rfl,⟨DV.Le.of_eq (by rw [hb]),tv⟩,⟨rfl,rfl⟩,⟨rfl,rfl⟩,⟨rf,rf,rf,rfl,rfl,rfl,tv⟩,⟨rfl,rfl⟩,⟨rfl,rfl⟩,⟨rfl,rf,rfl,tv⟩,tv⟩
 have h1:(x.final || (x.wait != 0))=false:=by
  have h:(bif x.final then true else (x.wait != 0))=false:=h
  cases hf:x.final <;> simp_all
 clear h
 refine .inr ⟨[6],[.dv (.sl 3 (x.opts.map eOpt)),.fn 86 [.ptr 0 0]],[(0,.cells [.dv (I p)])],0,_,_,con85_spec x.opts (by omega) p,by kernel_rfl,by kernel_rfl,⟨rf,⟨rfl,rfl,tv⟩,tv⟩,⟨⟨rf,tv⟩,tv⟩,fun h=>?_,fun h=>?_⟩
 ·have h2:x.opts.any (prtB p)=true:=h
  have hb:freeB x r p=true:=by unfold freeB; rw [h2]; simp
  exact ⟨_,_,⟨rfl,rfl⟩,by kernel_rfl,⟨DV.Le.of_eq (by rw [hb]),tv⟩,⟨rfl,rfl⟩,⟨rfl,rfl⟩,⟨rf,rf,rf,rfl,rfl,rfl,tv⟩,⟨rfl,rfl⟩,⟨rfl,rfl⟩,⟨rfl,rf,rfl,tv⟩,tv⟩
 have h2:x.opts.any (prtB p)=false:=h
 clear h
 have hb:freeB x r p=!(r.any fun n=>decide (0<n)):=by unfold freeB; rw [h1,h2]; rfl
 have h87:=con87_spec r (by omega)
 by_cases hs0:s=0
 ·have hq:true=true→mget M (I s)=some (.osl 1 (m.map oRow)):=fun _=>by rw [hM,cVal,if_pos hs0]
  refine ⟨keyT3,I s,rfl,rfl,.osl 1 (m.map oRow),true,hq,(fun h=>by cases h),rfl,?_⟩
  refine ⟨.osl 1 (m.map oRow),hq,fun _=>⟨by omega,by simp; omega⟩,.osl 1 (m.map oRow),hq,oRow r,fun _=>by simp [hr],?_⟩
  refine .inl ⟨.osl 1 (m.map oRow),hq,oRow r,fun _=>by simp [hr],?_⟩
  have hok:CallOk Try.prog 87 [fzD (oRow r),.fn 88 []] [B (r.any fun n=>decide (0<n))]:=by
   have e:fzD (oRow r)=Ints r:=by show DV.sl 1 (fzL (r.map I))=_; rw [fzL_map fun _=>rfl]
   rw [e]; exact h87.ok
  refine ⟨_,fun _=>hok,rfl,by kernel_rfl,?_⟩
  exact ⟨_,_,⟨rfl,rfl⟩,by kernel_rfl,⟨DV.Le.of_eq (by rw [hb]),tv⟩,⟨rfl,rfl⟩,⟨rfl,rfl⟩,⟨rf,rf,rf,rfl,rfl,rfl,tv⟩,⟨rfl,rfl⟩,⟨rfl,rfl⟩,⟨rfl,rf,rfl,tv⟩,tv⟩
 ·refine ⟨keyT3,I s,rfl,rfl,eRows m,true,fun _=>(by rw [hM,cVal,if_neg hs0]; rfl),(fun h=>by cases h),rfl,?_⟩
  refine ⟨Ints r,fun _=>⟨by omega,by simp [hr]⟩,.inl ⟨_,fun _=>h87.ok,by kernel_rfl,?_⟩⟩
  exact ⟨_,_,⟨rfl,rfl⟩,by kernel_rfl,⟨DV.Le.of_eq (by rw [hb]),tv⟩,⟨rfl,rfl⟩,⟨rfl,rfl⟩,⟨rf,rf,rf,rfl,rfl,rfl,tv⟩,⟨rfl,rfl⟩,⟨rfl,rfl⟩,⟨rfl,rf,rfl,tv⟩,tv⟩
def gSum (acc:List Int) (g:Giv):List Int:=addE acc g.item.toNat g.n
def givR (n:Nat) (x:Sta):List Int:=x.gives.foldl gSum (List.replicate n 0)
set_option maxRecDepth 100000 in
set_option maxHeartbeats 4000000 in
theorem sgiven_spec (n:Nat) (d:Dea) (hwf:WF n d) (M:List DV) (s:Int) (x:Sta) (h0:0≤s) (hx:d.states[s.toNat]?=some x) (hgl:x.gives.length≤100000):CSpec Try.prog 70 [.ptr 5 0,.dv (I s)] 6 (qK n d M) 0 [.dv (Ints (givR n x))] (qK n d M):=by
 refine cspec_of tab_ok mixed (calls_snd _) (range_snd _) Try.func70 rfl rfl (by kernel_rfl) ?_
 have hn64:=hwf.n64
 have hgi:=hwf.giv x (List.mem_of_getElem? hx)
 refine ⟨I 0,⟨rf,tv⟩,by omega,by omega,by rw [by22]; omega,by omega,false,(fun h=>by cases h),?_⟩
 refine ⟨eSta x,fun _=>⟨h0,by simp [hx]⟩,?_⟩
 refine ⟨OuI,fun z=>⟨7,[(5,.own 6 0 0 []),(24,.dv (.sl 3 (x.gives.map eGiv))),(25,.dv (I x.gives.length)),(26,.dv (I z.k))],qK n d M++[(6,Box.tree 0 0 (.osl 1 (z.acc.map I)))]⟩,fun z=>z.k≤x.gives.length∧z.acc=(x.gives.take z.k).foldl gSum (List.replicate n 0)∧RowB n 0 (z.k * 1099511627776) z.acc,fun z=>x.gives.length - z.k,⟨0,List.replicate n 0⟩,fun _=>rfl,?_,⟨by simp,by simp,⟨by simp,fun e he=>by simp at he; omega⟩⟩,?_⟩
 ·refine ⟨⟨rfl,rf,le_int (by simp),rf,tv⟩,⟨⟨rfl,rfl⟩,⟨rfl,rfl⟩,⟨rf,rf,rf,rfl,rfl,rfl,tv⟩,⟨rfl,rfl⟩,⟨rfl,rfl⟩,⟨rfl,rf,rfl,tv⟩,⟨rfl,?_⟩,tv⟩,rfl,rfl⟩
  show DV.osl 1 (List.replicate (n:Int).toNat (I 0))=.osl 1 ((List.replicate n 0).map I)
  simp
 rintro ⟨k,acc⟩ ⟨hk1,hk2,hk3⟩
 dsimp only at hk1 hk2 hk3
 refine ⟨fun h=>?_,fun h=>?_⟩
 ·have hk:k<x.gives.length:=by
   have:(k:Int)<x.gives.length:=of_decide_eq_true h
   omega
  clear h
  generalize hg':x.gives[k]=g at *
  have hg:x.gives[k]?=some g:=by rw [List.getElem?_eq_getElem hk,hg']
  obtain ⟨hg1,hg2,hg3,hg4,hg5,hg6⟩:=hgi g (List.mem_of_getElem? hg)
  have hal:=hk3.len
  have htk:(x.gives.take (k+1)).foldl gSum (List.replicate n 0)=gSum acc g:=by
   rw [List.take_add_one,hg,List.foldl_append,hk2]; rfl
  obtain ⟨e,he⟩:∃e,acc[g.item.toNat]?=some e:=⟨_,List.getElem?_eq_getElem (by omega)⟩
  have hb:=hk3.bd e (List.mem_of_getElem? he)
  have hga:gSum acc g=acc.set g.item.toNat (e+g.n):=by rw [gSum,addE_at he]
  refine ⟨eGiv g,fun _=>⟨by dsimp only; omega,by simp [hg]⟩,?_⟩
  refine ⟨fun _=>⟨hg3,by simp; omega⟩,I e,fun _=>by simp [he],fun _=>⟨by omega,by omega⟩,?_⟩
  refine ⟨fun _=>⟨hg3,by simp; omega⟩,[I (e+g.n)],⟨rf,tv⟩,I e,by simp [he],by kernel_rfl,?_⟩
  refine ⟨fun _=>⟨by dsimp only; omega,by dsimp only; omega⟩,⟨k+1,acc.set g.item.toNat (e+g.n)⟩,⟨⟨rfl,rf,rf,le_int (by simp),tv⟩,⟨⟨rfl,rfl⟩,⟨rfl,rfl⟩,⟨rf,rf,rf,rfl,rfl,rfl,tv⟩,⟨rfl,rfl⟩,⟨rfl,rfl⟩,⟨rfl,rf,rfl,tv⟩,⟨rfl,?_⟩,tv⟩,rfl,rfl⟩,⟨by dsimp only; omega,?_,?_⟩,by dsimp only; omega⟩
  ·show DV.osl 1 ((acc.map I).set g.item.toNat (I (e+g.n)))=.osl 1 ((acc.set g.item.toNat (e+g.n)).map I)
   rw [List.map_set]
  ·dsimp only; rw [htk,hga]
  ·dsimp only
   exact (hk3.mono (Int.le_refl _) (by omega)).set _ (by omega)
 ·have hk:k=x.gives.length:=by
   have:¬ (k:Int)<x.gives.length:=of_decide_eq_false h
   omega
  clear h
  subst hk
  rw [List.take_length] at hk2
  refine ⟨_,_,⟨rfl,rfl⟩,by kernel_rfl,⟨DV.Le.of_eq ?_,tv⟩,⟨rfl,rfl⟩,⟨rfl,rfl⟩,⟨rf,rf,rf,rfl,rfl,rfl,tv⟩,⟨rfl,rfl⟩,⟨rfl,rfl⟩,⟨rfl,rf,rfl,tv⟩,tv⟩
  show DV.sl 1 (fzL (acc.map I))=_
  rw [fzL_map fun _=>rfl,hk2,givR]
end Go.Proofs.Ytfcfbfkjdenpdaa
namespace Go.Proofs.Ytfcfbfkjdenpdaa
open Go.TM
set_option maxRecDepth 100000 in
set_option maxHeartbeats 4000000 in
theorem outc1_spec (n:Nat) (d:Dea) (hwf:WF n d) (M:List DV) (s:Int) (x:Sta) (h0:0≤s) (hx:d.states[s.toNat]?=some x) (hgl:x.gives.length≤100000) (m:Rows) (hra:Rect d.parties.length n 1099511627776000000 m) (hM:mget M (I s)=some (eRows m)) (p:Nat) (hpl:p<d.parties.length):CSpec Try.prog 46 [.ptr 5 0,.dv (I s),.dv (I p)] 6 (qK n d M) 1 [.ownf 6 0] (qK n d M++[(6,.tree 0 0 (.osl 1 ((outR m x p).map I)))]):=by
 refine cspec_of tab_ok mixed (calls_snd _) (range_snd _) Try.func46 rfl rfl (by kernel_rfl) ?_
 have hq:true=true→mget M (I s)=some (eRows m):=fun _=>hM
 have hn64:=hwf.n64
 have hp4:=hwf.p4
 have hgi:=hwf.giv x (List.mem_of_getElem? hx)
 have hml:=hra.len
 obtain ⟨r,hr⟩:∃r,m[p]?=some r:=⟨_,List.getElem?_eq_getElem (by omega)⟩
 have hrk:=hra.at (List.mem_of_getElem? hr)
 have hrl:=hrk.len
 refine ⟨I 0,⟨rf,tv⟩,by omega,by omega,by rw [by22]; omega,by omega,true,(fun _=>rfl),?_⟩
 refine ⟨keyT3,I s,rfl,rfl,eRows m,true,hq,(fun h=>by cases h),rfl,?_⟩
 refine ⟨Ints r,fun _=>⟨by omega,by simp [hr]⟩,?_⟩
 refine ⟨SvI,fun z=>⟨7,[(0,.ptr 5 0),(1,.dv (I s)),(2,.dv (I p)),(7,.ownf 6 0),(25,.dv (Ints r)),(26,.dv (I n)),(27,.dv (I z.i))],qK n d M++[(6,Box.tree 0 0 (.osl 1 (z.cur.map I)))]⟩,fun z=>z.i≤n∧z.cur=negTo r n z.i,fun z=>n - z.i,⟨0,List.replicate n 0⟩,fun _=>rfl,?_,⟨by simp,by simp [negTo]⟩,?_⟩
 ·refine ⟨⟨rfl,rf,rf,rfl,rf,le_int (by simp [hrl]),rf,tv⟩,⟨⟨rfl,rfl⟩,⟨rfl,rfl⟩,⟨rf,rf,rf,rfl,rfl,rfl,tv⟩,⟨rfl,rfl⟩,⟨rfl,rfl⟩,⟨rfl,rf,rfl,tv⟩,⟨rfl,?_⟩,tv⟩,rfl,rfl⟩
  show DV.osl 1 (List.replicate (n:Int).toNat (I 0))=.osl 1 ((List.replicate n 0).map I)
  simp
 rintro ⟨i,cur⟩ ⟨hi1,hi2⟩
 dsimp only at hi1 hi2
 refine ⟨fun h=>?_,fun h=>?_⟩
 ·have hi:i<n:=by
   have:(i:Int)<n:=of_decide_eq_true h
   omega
  clear h
  obtain ⟨e,he⟩:∃e,r[i]?=some e:=⟨_,List.getElem?_eq_getElem (by omega)⟩
  have hb1:=hrk.bd e (List.mem_of_getElem? he)
  have hc:=negTo_at hrl hi
  have hcs:=negTo_set hrl hi he
  have hcl:=negTo_len hrl (show i≤n by omega)
  rw [←hi2] at hc hcs hcl
  refine ⟨I e,fun _=>⟨by omega,by simp [he]⟩,fun _=>⟨by omega,by omega⟩,?_⟩
  refine ⟨fun _=>⟨by omega,by simp; omega⟩,[I (0 - e)],⟨rf,tv⟩,I 0,by simp [hc],?_⟩
  refine ⟨fun _=>⟨by dsimp only; omega,by dsimp only; omega⟩,⟨i+1,cur.set i (0 - e)⟩,⟨⟨rfl,rf,rf,rfl,rf,rf,le_int (by simp),tv⟩,⟨⟨rfl,rfl⟩,⟨rfl,rfl⟩,⟨rf,rf,rf,rfl,rfl,rfl,tv⟩,⟨rfl,rfl⟩,⟨rfl,rfl⟩,⟨rfl,rf,rfl,tv⟩,⟨rfl,?_⟩,tv⟩,rfl,rfl⟩,⟨by dsimp only; omega,hcs⟩,by dsimp only; omega⟩
  show DV.osl 1 ((cur.map I).set (i:Int).toNat (I (0 - e)))=.osl 1 ((cur.set i (0 - e)).map I)
  rw [List.map_set]; rfl
 have hi:i=n:=by
  have:¬ (i:Int)<n:=of_decide_eq_false h
  omega
 clear h
 subst hi
 rw [negTo_end hrl] at hi2
 have hnb:=negR_bd hrk
 refine ⟨eSta x,fun _=>⟨h0,by simp [hx]⟩,?_⟩
 refine ⟨OuI,fun z=>⟨7,[(2,.dv (I p)),(7,.ownf 6 0),(49,.dv (.sl 3 (x.gives.map eGiv))),(50,.dv (I x.gives.length)),(51,.dv (I z.k))],qK i d M++[(6,Box.tree 0 0 (.osl 1 (z.acc.map I)))]⟩,fun z=>z.k≤x.gives.length∧z.acc=(x.gives.take z.k).foldl (gAdd p) (negR r)∧RowB i (-1099511627776000000) (z.k * 1099511627776) z.acc,fun z=>x.gives.length - z.k,⟨0,cur⟩,fun _=>rfl,?_,⟨by simp,by simp [hi2],by rw [hi2]; exact hnb.mono (by omega) (by simp)⟩,?_⟩
 ·exact ⟨⟨rf,rfl,rf,le_int (by simp),rf,tv⟩,⟨⟨rfl,rfl⟩,⟨rfl,rfl⟩,⟨rf,rf,rf,rfl,rfl,rfl,tv⟩,⟨rfl,rfl⟩,⟨rfl,rfl⟩,⟨rfl,rf,rfl,tv⟩,⟨rfl,rfl⟩,tv⟩,rfl,rfl⟩
 rintro ⟨k,acc⟩ ⟨hk1,hk2,hk3⟩
 dsimp only at hk1 hk2 hk3
 refine ⟨fun h=>?_,fun h=>?_⟩
 ·have hk:k<x.gives.length:=by
   have:(k:Int)<x.gives.length:=of_decide_eq_true h
   omega
  clear h
  generalize hg':x.gives[k]=g at *
  have hg:x.gives[k]?=some g:=by rw [List.getElem?_eq_getElem hk,hg']
  obtain ⟨hg1,hg2,hg3,hg4,hg5,hg6⟩:=hgi g (List.mem_of_getElem? hg)
  have hal:=hk3.len
  have htk:(x.gives.take (k+1)).foldl (gAdd p) (negR r)=gAdd p acc g:=by
   rw [List.take_add_one,hg,List.foldl_append,hk2]; rfl
  refine ⟨eGiv g,fun _=>⟨by dsimp only; omega,by simp [hg]⟩,fun h=>?_,fun h=>?_⟩
  ·have hgp:g.party=p:=by simpa using h
   clear h
   obtain ⟨e,he⟩:∃e,acc[g.item.toNat]?=some e:=⟨_,List.getElem?_eq_getElem (by omega)⟩
   have hb:=hk3.bd e (List.mem_of_getElem? he)
   have hga:gAdd p acc g=acc.set g.item.toNat (e+g.n):=by rw [gAdd,if_pos hgp,addE_at he]
   refine ⟨fun _=>⟨hg3,by simp; omega⟩,I e,fun _=>by simp [he],fun _=>⟨by omega,by omega⟩,?_⟩
   refine ⟨fun _=>⟨hg3,by simp; omega⟩,[I (e+g.n)],⟨rf,tv⟩,I e,by simp [he],by kernel_rfl,?_⟩
   refine ⟨fun _=>⟨by dsimp only; omega,by dsimp only; omega⟩,⟨k+1,acc.set g.item.toNat (e+g.n)⟩,⟨⟨rf,rfl,rf,rf,le_int (by simp),tv⟩,⟨⟨rfl,rfl⟩,⟨rfl,rfl⟩,⟨rf,rf,rf,rfl,rfl,rfl,tv⟩,⟨rfl,rfl⟩,⟨rfl,rfl⟩,⟨rfl,rf,rfl,tv⟩,⟨rfl,?_⟩,tv⟩,rfl,rfl⟩,⟨by dsimp only; omega,?_,?_⟩,by dsimp only; omega⟩
   ·show DV.osl 1 ((acc.map I).set g.item.toNat (I (e+g.n)))=.osl 1 ((acc.set g.item.toNat (e+g.n)).map I)
    rw [List.map_set]
   ·dsimp only; rw [htk,hga]
   ·dsimp only
    exact (hk3.mono (Int.le_refl _) (by omega)).set _ (by omega)
  ·have hgp:g.party ≠ p:=by simpa using h
   clear h
   have hga:gAdd p acc g=acc:=by rw [gAdd,if_neg hgp]
   refine ⟨fun _=>⟨by dsimp only; omega,by dsimp only; omega⟩,⟨k+1,acc⟩,⟨⟨rf,rfl,rf,rf,le_int (by simp),tv⟩,⟨⟨rfl,rfl⟩,⟨rfl,rfl⟩,⟨rf,rf,rf,rfl,rfl,rfl,tv⟩,⟨rfl,rfl⟩,⟨rfl,rfl⟩,⟨rfl,rf,rfl,tv⟩,⟨rfl,rfl⟩,tv⟩,rfl,rfl⟩,⟨by dsimp only; omega,?_,hk3.mono (Int.le_refl _) (by dsimp only; omega)⟩,by dsimp only; omega⟩
   dsimp only; rw [htk,hga]
 ·have hk:k=x.gives.length:=by
   have:¬ (k:Int)<x.gives.length:=of_decide_eq_false h
   omega
  clear h
  subst hk
  rw [List.take_length] at hk2
  have hor:outR m x p=acc:=by rw [hk2,outR,Int.toNat_natCast,hr]; rfl
  exact ⟨_,_,⟨rfl,rfl⟩,by kernel_rfl,⟨rfl,tv⟩,⟨rfl,rfl⟩,⟨rfl,rfl⟩,⟨rf,rf,rf,rfl,rfl,rfl,tv⟩,⟨rfl,rfl⟩,⟨rfl,rfl⟩,⟨rfl,rf,rfl,tv⟩,⟨rfl,by rw [hor]⟩,tv⟩
set_option maxRecDepth 100000 in
set_option maxHeartbeats 4000000 in
theorem outc0_spec (n:Nat) (d:Dea) (hwf:WF n d) (M:List DV) (s:Int) (x:Sta) (h0:0≤s) (hx:d.states[s.toNat]?=some x) (hgl:x.gives.length≤100000) (m:Rows) (hra:Rect d.parties.length n 1099511627776000000 m) (hM:mget M (I s)=some (.osl 1 (m.map oRow))) (p:Nat) (hpl:p<d.parties.length):CSpec Try.prog 46 [.ptr 5 0,.dv (I s),.dv (I p)] 6 (qK n d M) 1 [.ownf 6 0] (qK n d M++[(6,.tree 0 0 (.osl 1 ((outR m x p).map I)))]):=by
 refine cspec_of tab_ok mixed (calls_snd _) (range_snd _) Try.func46 rfl rfl (by kernel_rfl) ?_
 have hq:true=true→mget M (I s)=some (.osl 1 (m.map oRow)):=fun _=>hM
 have hn64:=hwf.n64
 have hp4:=hwf.p4
 have hgi:=hwf.giv x (List.mem_of_getElem? hx)
 have hml:=hra.len
 obtain ⟨r,hr⟩:∃r,m[p]?=some r:=⟨_,List.getElem?_eq_getElem (by omega)⟩
 have hrk:=hra.at (List.mem_of_getElem? hr)
 have hrl:=hrk.len
 refine ⟨I 0,⟨rf,tv⟩,by omega,by omega,by rw [by22]; omega,by omega,true,(fun _=>rfl),?_⟩
 refine ⟨keyT3,I s,rfl,rfl,.osl 1 (m.map oRow),true,hq,(fun h=>by cases h),rfl,?_⟩
 have hro2:true=true→(m.map oRow)[p]?=some (oRow r):=fun _=>by simp [hr]
 refine ⟨.osl 1 (m.map oRow),hq,fun _=>⟨by omega,by simp; omega⟩,.osl 1 (m.map oRow),hq,oRow r,hro2,.osl 1 (m.map oRow),hq,oRow r,hro2,?_⟩
 refine ⟨SvI,fun z=>⟨7,[(0,.ptr 5 0),(1,.dv (I s)),(2,.dv (I p)),(7,.ownf 6 0),(25,.own 4 0 0 [.key (I s) 0,.el p 0]),(26,.dv (I n)),(27,.dv (I z.i))],qK n d M++[(6,Box.tree 0 0 (.osl 1 (z.cur.map I)))]⟩,fun z=>z.i≤n∧z.cur=negTo r n z.i,fun z=>n - z.i,⟨0,List.replicate n 0⟩,fun _=>rfl,?_,⟨by simp,by simp [negTo]⟩,?_⟩
 ·refine ⟨⟨rfl,rf,rf,rfl,rfl,le_int (by simp [hrl]),rf,tv⟩,⟨⟨rfl,rfl⟩,⟨rfl,rfl⟩,⟨rf,rf,rf,rfl,rfl,rfl,tv⟩,⟨rfl,rfl⟩,⟨rfl,rfl⟩,⟨rfl,rf,rfl,tv⟩,⟨rfl,?_⟩,tv⟩,rfl,rfl⟩
  show DV.osl 1 (List.replicate (n:Int).toNat (I 0))=.osl 1 ((List.replicate n 0).map I)
  simp
 rintro ⟨i,cur⟩ ⟨hi1,hi2⟩
 dsimp only at hi1 hi2
 refine ⟨fun h=>?_,fun h=>?_⟩
 ·have hi:i<n:=by
   have:(i:Int)<n:=of_decide_eq_true h
   omega
  clear h
  obtain ⟨e,he⟩:∃e,r[i]?=some e:=⟨_,List.getElem?_eq_getElem (by omega)⟩
  have hb1:=hrk.bd e (List.mem_of_getElem? he)
  have hc:=negTo_at hrl hi
  have hcs:=negTo_set hrl hi he
  have hcl:=negTo_len hrl (show i≤n by omega)
  rw [←hi2] at hc hcs hcl
  refine ⟨.osl 1 (m.map oRow),hq,oRow r,hro2,fun _=>⟨by omega,by simp; omega⟩,.osl 1 (m.map oRow),hq,oRow r,hro2,I e,fun _=>by simp [he],fun _=>⟨by omega,by omega⟩,?_⟩
  refine ⟨fun _=>⟨by omega,by simp; omega⟩,[I (0 - e)],⟨rf,tv⟩,I 0,by simp [hc],?_⟩
  refine ⟨fun _=>⟨by dsimp only; omega,by dsimp only; omega⟩,⟨i+1,cur.set i (0 - e)⟩,⟨⟨rfl,rf,rf,rfl,rfl,rf,le_int (by simp),tv⟩,⟨⟨rfl,rfl⟩,⟨rfl,rfl⟩,⟨rf,rf,rf,rfl,rfl,rfl,tv⟩,⟨rfl,rfl⟩,⟨rfl,rfl⟩,⟨rfl,rf,rfl,tv⟩,⟨rfl,?_⟩,tv⟩,rfl,rfl⟩,⟨by dsimp only; omega,hcs⟩,by dsimp only; omega⟩
  show DV.osl 1 ((cur.map I).set (i:Int).toNat (I (0 - e)))=.osl 1 ((cur.set i (0 - e)).map I)
  rw [List.map_set]; rfl
 have hi:i=n:=by
  have:¬ (i:Int)<n:=of_decide_eq_false h
  omega
 clear h
 subst hi
 rw [negTo_end hrl] at hi2
 have hnb:=negR_bd hrk
 refine ⟨eSta x,fun _=>⟨h0,by simp [hx]⟩,?_⟩
 refine ⟨OuI,fun z=>⟨7,[(2,.dv (I p)),(7,.ownf 6 0),(49,.dv (.sl 3 (x.gives.map eGiv))),(50,.dv (I x.gives.length)),(51,.dv (I z.k))],qK i d M++[(6,Box.tree 0 0 (.osl 1 (z.acc.map I)))]⟩,fun z=>z.k≤x.gives.length∧z.acc=(x.gives.take z.k).foldl (gAdd p) (negR r)∧RowB i (-1099511627776000000) (z.k * 1099511627776) z.acc,fun z=>x.gives.length - z.k,⟨0,cur⟩,fun _=>rfl,?_,⟨by simp,by simp [hi2],by rw [hi2]; exact hnb.mono (by omega) (by simp)⟩,?_⟩
 ·exact ⟨⟨rf,rfl,rf,le_int (by simp),rf,tv⟩,⟨⟨rfl,rfl⟩,⟨rfl,rfl⟩,⟨rf,rf,rf,rfl,rfl,rfl,tv⟩,⟨rfl,rfl⟩,⟨rfl,rfl⟩,⟨rfl,rf,rfl,tv⟩,⟨rfl,rfl⟩,tv⟩,rfl,rfl⟩
 rintro ⟨k,acc⟩ ⟨hk1,hk2,hk3⟩
 dsimp only at hk1 hk2 hk3
 refine ⟨fun h=>?_,fun h=>?_⟩
 ·have hk:k<x.gives.length:=by
   have:(k:Int)<x.gives.length:=of_decide_eq_true h
   omega
  clear h
  generalize hg':x.gives[k]=g at *
  have hg:x.gives[k]?=some g:=by rw [List.getElem?_eq_getElem hk,hg']
  obtain ⟨hg1,hg2,hg3,hg4,hg5,hg6⟩:=hgi g (List.mem_of_getElem? hg)
  have hal:=hk3.len
  have htk:(x.gives.take (k+1)).foldl (gAdd p) (negR r)=gAdd p acc g:=by
   rw [List.take_add_one,hg,List.foldl_append,hk2]; rfl
  refine ⟨eGiv g,fun _=>⟨by dsimp only; omega,by simp [hg]⟩,fun h=>?_,fun h=>?_⟩
  ·have hgp:g.party=p:=by simpa using h
   clear h
   obtain ⟨e,he⟩:∃e,acc[g.item.toNat]?=some e:=⟨_,List.getElem?_eq_getElem (by omega)⟩
   have hb:=hk3.bd e (List.mem_of_getElem? he)
   have hga:gAdd p acc g=acc.set g.item.toNat (e+g.n):=by rw [gAdd,if_pos hgp,addE_at he]
   refine ⟨fun _=>⟨hg3,by simp; omega⟩,I e,fun _=>by simp [he],fun _=>⟨by omega,by omega⟩,?_⟩
   refine ⟨fun _=>⟨hg3,by simp; omega⟩,[I (e+g.n)],⟨rf,tv⟩,I e,by simp [he],by kernel_rfl,?_⟩
   refine ⟨fun _=>⟨by dsimp only; omega,by dsimp only; omega⟩,⟨k+1,acc.set g.item.toNat (e+g.n)⟩,⟨⟨rf,rfl,rf,rf,le_int (by simp),tv⟩,⟨⟨rfl,rfl⟩,⟨rfl,rfl⟩,⟨rf,rf,rf,rfl,rfl,rfl,tv⟩,⟨rfl,rfl⟩,⟨rfl,rfl⟩,⟨rfl,rf,rfl,tv⟩,⟨rfl,?_⟩,tv⟩,rfl,rfl⟩,⟨by dsimp only; omega,?_,?_⟩,by dsimp only; omega⟩
   ·show DV.osl 1 ((acc.map I).set g.item.toNat (I (e+g.n)))=.osl 1 ((acc.set g.item.toNat (e+g.n)).map I)
    rw [List.map_set]
   ·dsimp only; rw [htk,hga]
   ·dsimp only
    exact (hk3.mono (Int.le_refl _) (by omega)).set _ (by omega)
  ·have hgp:g.party ≠ p:=by simpa using h
   clear h
   have hga:gAdd p acc g=acc:=by rw [gAdd,if_neg hgp]
   refine ⟨fun _=>⟨by dsimp only; omega,by dsimp only; omega⟩,⟨k+1,acc⟩,⟨⟨rf,rfl,rf,rf,le_int (by simp),tv⟩,⟨⟨rfl,rfl⟩,⟨rfl,rfl⟩,⟨rf,rf,rf,rfl,rfl,rfl,tv⟩,⟨rfl,rfl⟩,⟨rfl,rfl⟩,⟨rfl,rf,rfl,tv⟩,⟨rfl,rfl⟩,tv⟩,rfl,rfl⟩,⟨by dsimp only; omega,?_,hk3.mono (Int.le_refl _) (by dsimp only; omega)⟩,by dsimp only; omega⟩
   dsimp only; rw [htk,hga]
 ·have hk:k=x.gives.length:=by
   have:¬ (k:Int)<x.gives.length:=of_decide_eq_false h
   omega
  clear h
  subst hk
  rw [List.take_length] at hk2
  have hor:outR m x p=acc:=by rw [hk2,outR,Int.toNat_natCast,hr]; rfl
  exact ⟨_,_,⟨rfl,rfl⟩,by kernel_rfl,⟨rfl,tv⟩,⟨rfl,rfl⟩,⟨rfl,rfl⟩,⟨rf,rf,rf,rfl,rfl,rfl,tv⟩,⟨rfl,rfl⟩,⟨rfl,rfl⟩,⟨rfl,rf,rfl,tv⟩,⟨rfl,by rw [hor]⟩,tv⟩
theorem conM_get (n:Nat) (d:Dea) {i:Nat} {s:Int} {v:List Int} (hso:(disc d).order[i]?=some s) (hvo:(disc d).ways[i]?=some v):mget (conM n d) (I s)=some (cVal s (folM n d v)):=by
 unfold conM
 rw [mget_con,conAt_look n (disc_ok d) (List.getElem?_eq_some_iff.1 hso).1 hso hvo]; rfl
theorem outc_spec (n:Nat) (d:Dea) (hwf:WF n d) (i:Nat) (s:Int) (v:List Int) (hso:(disc d).order[i]?=some s) (hvo:(disc d).ways[i]?=some v) (x:Sta) (hx:d.states[s.toNat]?=some x) (hgl:x.gives.length≤100000) (p:Nat) (hpl:p<d.parties.length):CSpec Try.prog 46 [.ptr 5 0,.dv (I s),.dv (I p)] 6 (qK n d (conM n d)) 1 [.ownf 6 0] (qK n d (conM n d)++[(6,.tree 0 0 (.osl 1 ((outR (folM n d v) x p).map I)))]):=by
 have hb:=disc_ok d
 have hvl:=way_len (wayOf_at d hso hvo)
 have hsl:=hwf.sl
 have hra:=rect_folM hwf.opt (leads_disc d i _ v hso hvo) (by omega)
 have hg:=conM_get n d hso hvo
 have h0:=(hb.rng s (List.mem_of_getElem? hso)).1
 by_cases hs:s=0
 ·rw [cVal,if_pos hs] at hg
  exact outc0_spec n d hwf _ s x h0 hx hgl _ hra hg p hpl
 ·rw [cVal,if_neg hs] at hg
  exact outc1_spec n d hwf _ s x h0 hx hgl _ hra hg p hpl
end Go.Proofs.Ytfcfbfkjdenpdaa
