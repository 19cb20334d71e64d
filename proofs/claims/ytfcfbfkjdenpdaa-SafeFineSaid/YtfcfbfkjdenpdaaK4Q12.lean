import Derived.Test.YtfcfbfkjdenpdaaK4Q11
import Derived.Test.YtfcfbfkjdenpdaaK4Q10
import Derived.Test.YtfcfbfkjdenpdaaK4Q9
import Derived.Test.YtfcfbfkjdenpdaaK4Q8
import Derived.Test.YtfcfbfkjdenpdaaK4D4
set_option linter.unusedVariables false
set_option linter.unusedSimpArgs false
set_option linter.unusedSectionVars false
namespace Go.Proofs.Ytfcfbfkjdenpdaa
open Go.TM
def aliveB (x:Sta):Bool:=bif (bif x.final then true else decide (0<(x.opts.length:Int))) then true else decide (0<x.wait)
def aB:Boxes:=[(6,.cells [.ptr 5 0])]
set_option maxRecDepth 100000 in
set_option maxHeartbeats 4000000 in
theorem h66_spec (n:Nat) (d:Dea) (s p:Int) (x:Sta) (h0:0≤s) (hx:d.states[s.toNat]?=some x):CSpec Try.prog 66 [.dv (I s),.dv (I p),.ptr 6 0] 7 (qK n d (conM n d)++aB) 0 [.dv (B (aliveB x))] (qK n d (conM n d)++aB):=by
 refine cspec_of tab_ok mixed (calls_snd _) (range_snd _) Try.func66 rfl rfl (by kernel_rfl) ?_
 refine ⟨eSta x,fun _=>⟨h0,by simp [hx]⟩,?_⟩
 repeat first | refine ⟨id,?_⟩ | refine ⟨fun _ h=>bw_f h,?_⟩ | refine ⟨fun _ h=>bw_t h,?_⟩ | refine ⟨fun h=>⟨h,fun h2=>bw_and h h2⟩,?_⟩ | refine ⟨fun h=>⟨h,fun h2=>bw_andf h h2⟩,?_⟩
 exact ⟨_,_,⟨rfl,rfl⟩,by kernel_rfl,⟨DV.Le.of_eq (by simp [aliveB]),tv⟩,⟨rfl,rfl⟩,⟨rfl,rfl⟩,⟨rf,rf,rf,rfl,rfl,rfl,tv⟩,⟨rfl,rfl⟩,⟨rfl,rfl⟩,⟨rfl,rf,rfl,tv⟩,⟨rfl,tv⟩,tv⟩
theorem h67_spec (E:List Int) (s p:Int):CSpec Try.prog 67 [.dv (I s),.dv (I p),.ptr 1 0] 2 [(0,.tree 0 0 (eEnd E)),(1,.cells [.own 0 0 0 []])] 0 [.dv (B (decide (s∈E)))] [(0,.tree 0 0 (eEnd E)),(1,.cells [.own 0 0 0 []])]:=by
 refine cspec_of tab_ok mixed (calls_snd _) (range_snd _) Try.func67 rfl rfl (by kernel_rfl) ?_
 have hg:mget (E.map fun s=>.ent (I s) (B true)) (I s)=bif decide (s∈E) then some (B (decide (s∈E))) else none:=by
  rw [mget_end]
  by_cases h:s∈E <;> simp [h]
 refine ⟨keyT3,I s,rfl,rfl,B (decide (s∈E)),decide (s∈E),fun _=>hg,(fun h=>by rw [h]; rfl),rfl,?_⟩
 exact ⟨_,_,⟨rfl,rfl⟩,by kernel_rfl,⟨rf,tv⟩,⟨rfl,rfl⟩,⟨rfl,tv⟩,tv⟩
def evenB (n:Nat) (x:Sta) (m:Rows):Bool:=!x.final || (givR n x == sumR n m)
set_option maxRecDepth 100000 in
set_option maxHeartbeats 4000000 in
theorem h69_spec (n:Nat) (d:Dea) (hwf:WF n d) (i:Nat) (s p:Int) (v:List Int) (hso:(disc d).order[i]?=some s) (hvo:(disc d).ways[i]?=some v) (x:Sta) (hx:d.states[s.toNat]?=some x) (hgl:x.gives.length≤100000):CSpec Try.prog 69 [.dv (I s),.dv (I p),.ptr 6 0] 7 (qK n d (conM n d)++aB) 0 [.dv (B (evenB n x (folM n d v)))] (qK n d (conM n d)++aB):=by
 refine cspec_of tab_ok mixed (calls_snd _) (range_snd _) Try.func69 rfl rfl (by kernel_rfl) ?_
 have h0:=((disc_ok d).rng s (List.mem_of_getElem? hso)).1
 have hsl:=hwf.sl
 have hn64:=hwf.n64
 have hvl:=way_len (wayOf_at d hso hvo)
 have hra:=rect_folM hwf.opt (leads_disc d i _ v hso hvo) (by omega)
 have hgv:=sgiven_spec n d hwf (conM n d) s x h0 hx hgl
 have hpo:=pot_spec n d hwf i s v hso hvo
 have hgl2:(givR n x).length≤1000:=by unfold givR; rw [gSums_len]; simp; omega
 have heq:=equal_spec (givR n x) (sumR n (folM n d v)) (by omega)
 refine ⟨eSta x,fun _=>⟨h0,by simp [hx]⟩,?_⟩
 cases hf:x.final with
 | false =>
  have hev:evenB n x (folM n d v)=true:=by simp [evenB,hf]
  rw [hev]
  have hgd:bw (!x.final) false=false:=by rw [hf]; rfl
  refine ⟨id,id,.inl ⟨hgd,[.nils],(fun h=>absurd (hgd.symm.trans h) (by decide)),rfl,id,id,?_⟩⟩
  refine .inl ⟨hgd,[.nils],(fun h=>absurd (hgd.symm.trans h) (by decide)),rfl,?_⟩
  refine ⟨id,id,.inl ⟨[B false],(fun h=>absurd (hgd.symm.trans h) (by decide)),fun _ h=>bw_f h,by kernel_rfl,?_⟩⟩
  exact ⟨_,_,⟨rfl,rfl⟩,by kernel_rfl,⟨DV.Le.of_eq (by rw [hf]; rfl),tv⟩,⟨rfl,rfl⟩,⟨rfl,rfl⟩,⟨rf,rf,rf,rfl,rfl,rfl,tv⟩,⟨rfl,rfl⟩,⟨rfl,rfl⟩,⟨rfl,rf,rfl,tv⟩,⟨rfl,tv⟩,tv⟩
 | true =>
  have hev:evenB n x (folM n d v)=(givR n x == sumR n (folM n d v)):=by simp [evenB,hf]
  rw [hev]
  have hgd:bw (!x.final) false=true:=by rw [hf]; rfl
  refine ⟨id,id,.inr ⟨[0,1,2,3,4,5],[.ptr 5 0,.dv (I s)],qK n d (conM n d),0,_,_,hgv,by kernel_rfl,by kernel_rfl,⟨rfl,rf,tv⟩,⟨⟨rfl,rfl⟩,⟨rfl,rfl⟩,⟨rf,rf,rf,rfl,rfl,rfl,tv⟩,⟨rfl,rfl⟩,⟨rfl,rfl⟩,⟨rfl,rf,rfl,tv⟩,tv⟩,hgd,?_⟩⟩
  refine ⟨id,id,.inr ⟨[0,1,2,3,4,5],[.ptr 5 0,.dv (I s)],qK n d (conM n d),0,_,_,hpo,by kernel_rfl,by kernel_rfl,⟨rfl,rf,tv⟩,⟨⟨rfl,rfl⟩,⟨rfl,rfl⟩,⟨rf,rf,rf,rfl,rfl,rfl,tv⟩,⟨rfl,rfl⟩,⟨rfl,rfl⟩,⟨rfl,rf,rfl,tv⟩,tv⟩,hgd,?_⟩⟩
  refine ⟨fun _=>rfl,fun _=>rfl,.inl ⟨_,fun _=>heq.ok,fun _ h=>bw_f h,by kernel_rfl,?_⟩⟩
  exact ⟨_,_,⟨rfl,rfl⟩,by kernel_rfl,⟨DV.Le.of_eq (by rw [hf]; rfl),tv⟩,⟨rfl,rfl⟩,⟨rfl,rfl⟩,⟨rf,rf,rf,rfl,rfl,rfl,tv⟩,⟨rfl,rfl⟩,⟨rfl,rfl⟩,⟨rfl,rf,rfl,tv⟩,⟨rfl,tv⟩,tv⟩
end Go.Proofs.Ytfcfbfkjdenpdaa
namespace Go.Proofs.Ytfcfbfkjdenpdaa
open Go.TM
theorem wait_of {d:Dea} {x:Sta} (hb:badTop d x=false):0≤x.wait:=by
 by_cases h:x.wait<0
 ·simp [badTop,h] at hb
 ·omega
theorem dead_law {d:Dea} {x:Sta} (hb:badTop d x=false):aliveB x=!deadB x:=by
 have hw:=wait_of hb
 unfold aliveB deadB
 cases x.final with
 | true=>simp
 | false =>
  by_cases h1:x.opts.length=0
  ·by_cases h2:x.wait=0
   ·simp [h1,h2]
   ·simp [h1,h2,show 0<x.wait by omega]
  ·have h3:(0:Int)<x.opts.length:=by omega
   have h4:((x.opts.length:Int) == 0)=false:=by simpa using h1
   have h5:decide (0<(x.opts.length:Int))=true:=decide_eq_true h3
   simp only [h4,h5,cond_true,cond_false]
   rfl
def stopB (x:Sta) (m:Rows) (p:Nat):Bool:=!(x.final || decide (0<x.wait)) && holdP x m p
theorem free_law {d:Dea} {x:Sta} (hb:badTop d x=false) {m:Rows} {p:Nat} {r:List Int} (hr:m[p]?=some r):freeB x r p=!stopB x m p:=by
 have hw:=wait_of hb
 unfold freeB stopB holdP
 rw [hr]
 have h1:(x.wait != 0)=decide (0<x.wait):=by
  by_cases h:x.wait=0
  ·simp [h]
  ·have h2:0<x.wait:=by omega
   simp [h,h2]
 rw [h1]
 have h2:(r.any fun n=>decide (0<n))=r.any posB:=rfl
 simp only [Option.getD_some,h2]
 cases x.final <;> cases decide (0<x.wait) <;> cases x.opts.any (prtB p) <;> cases r.any posB <;> rfl
def stopF (x:Sta) (m:Rows) (s:Int) (v:List Int) (p:Nat):Option Fau:=if stopB x m p then some ⟨13,s,p,v⟩ else none
theorem stuck_law (n:Nat) (d:Dea) (s:Int) (v:List Int) (x:Sta) (hl:(folM n d v).length=d.parties.length):(List.range d.parties.length).findSome? (stopF x (folM n d v) s v)=codeN (condS n d 2 s v x):=by
 simp only [condS]
 unfold stuckR stopF stopB
 rw [hl]
 cases hc:(x.final || decide (0<x.wait)) with
 | true =>
  simp only [if_true,Bool.not_true,Bool.false_and,Bool.false_eq_true,if_false]
  have e:¬ (0:Int)≤-1:=by omega
  rw [if_neg e]
  have e2:codeN ⟨0,s,-1,v⟩=none:=rfl
  rw [e2,List.findSome?_eq_none_iff]
  intro _ _; rfl
 | false =>
  simp only [Bool.false_eq_true,if_false,Bool.not_false,Bool.true_and]
  unfold idxB
  cases hi:(List.range d.parties.length).findIdx? (holdP x (folM n d v)) with
  | some i =>
   obtain ⟨h1,h2,h3⟩:=List.findIdx?_eq_some_iff_getElem.1 hi
   simp only [List.getElem_range] at h2
   have h1':i<d.parties.length:=by simpa using h1
   simp only
   rw [if_pos (by omega),codeN,if_neg (by simp)]
   refine findSome_at (k:=i) (x:=i) (by simp [h1']) ?_ (by rw [if_pos h2])
   rw [List.findSome?_eq_none_iff]
   intro q hq
   rw [List.mem_take_iff_getElem] at hq
   obtain ⟨j,hj,hq⟩:=hq
   rw [List.getElem_range] at hq
   subst hq
   have:=h3 j (by omega)
   simp only [List.getElem_range] at this
   rw [if_neg (by simpa using this)]
  | none =>
   rw [List.findIdx?_eq_none_iff] at hi
   simp only
   rw [if_neg (by omega),codeN,if_pos rfl,List.findSome?_eq_none_iff]
   intro q hq
   rw [if_neg (by simp [hi q hq])]
theorem lossR_code {d:Dea} {f p:Int} {g:Fau} (h:lossR d f p=some g):g.code=17:=by
 unfold lossR at h
 obtain ⟨z,-,h⟩:=List.exists_of_findSome?_eq_some h
 unfold lossS at h
 split at h
 ·cases h
 ·obtain ⟨t,-,h⟩:=List.exists_of_findSome?_eq_some h
  unfold lossF at h
  split at h
  ·injection h with h; rw [←h]
  ·cases h
theorem lossA_code {n:Nat} {d:Dea} {x:Sta} {v:List Int} {f:Int} {p:Nat} {g:Fau} (h:lossA n d x v f p=some g):g.code=17:=by
 unfold lossA at h
 split at h
 ·exact lossR_code h
 ·cases h
theorem loss_law (n:Nat) (d:Dea) (s:Int) (v:List Int) (x:Sta):(List.range d.parties.length).findSome? (lossA n d x v s)=codeN (condS n d 4 s v x):=by
 show lossAll n d x v s=codeN (if x.final then orZ (lossAll n d x v s) else ⟨0,s,-1,v⟩)
 cases hf:x.final with
 | true =>
  simp only [if_true]
  cases hl:lossAll n d x v s with
  | none=>rfl
  | some g =>
   obtain ⟨p,-,h⟩:=List.exists_of_findSome?_eq_some hl
   have:=lossA_code h
   simp only [orZ,codeN,this]
   rfl
 | false =>
  simp only [Bool.false_eq_true,if_false,codeN,if_true]
  unfold lossAll
  rw [List.findSome?_eq_none_iff]
  intro p _
  unfold lossA
  rw [hf]; rfl
end Go.Proofs.Ytfcfbfkjdenpdaa
namespace Go.Proofs.Ytfcfbfkjdenpdaa
open Go.TM
def k0B (d:Dea) (c:Int):Boxes:=[(6,Box.cells [AV.ptr 5 0]),(7,Box.cells [AV.dv (I c)]),(8,Box.cells [AV.fn 66 [AV.ptr 6 0]])]
set_option maxRecDepth 100000 in
set_option maxHeartbeats 4000000 in
theorem h65_0 (n:Nat) (d:Dea) (hs:Parts d) (hwf:WF n d) (c:Int) (i:Nat) (s:Int) (v:List Int) (hso:(disc d).order[i]?=some s) (hvo:(disc d).ways[i]?=some v) (x:Sta) (hx:d.states[s.toNat]?=some x) (p:Int) (b:Bool) (hb:aliveB x=b):CSpec Try.prog 65 [.dv (I s),.dv (I p),.ptr 8 0,.ptr 7 0,.ptr 6 0] 9 (qK n d (conM n d)++k0B d c) 0 [.agg (abC (if b then none else some ⟨c,s,p,v⟩))] (qK n d (conM n d)++k0B d c):=by
 refine cspec_of tab_ok mixed (calls_snd _) (range_snd _) Try.func65 rfl rfl (by kernel_rfl) ?_
 have h0:=((disc_ok d).rng s (List.mem_of_getElem? hso)).1
 have hgl:=hs.gi x (List.mem_of_getElem? hx)
 have hol:=hs.op x (List.mem_of_getElem? hx)
 have hsl:=hwf.sl
 have hvl:=way_len (wayOf_at d hso hvo)
 have htw:=(wok_disc d hwf.ne).tw i s v hso hvo
 have hsp:=h66_spec n d s p x h0 hx
 rw [hb] at hsp
 refine .inr ⟨[0,1,2,3,4,5,6],[.dv (I s),.dv (I p),.ptr 6 0],qK n d (conM n d)++aB,0,_,_,hsp,by kernel_rfl,by kernel_rfl,⟨rf,rf,rfl,tv⟩,⟨⟨rfl,rfl⟩,⟨rfl,rfl⟩,⟨rf,rf,rf,rfl,rfl,rfl,tv⟩,⟨rfl,rfl⟩,⟨rfl,rfl⟩,⟨rfl,rf,rfl,tv⟩,⟨rfl,tv⟩,tv⟩,fun h=>?_,fun h=>?_⟩
 ·have h:b=true:=h
  subst h
  exact ⟨_,_,⟨rfl,rfl⟩,by kernel_rfl,⟨⟨rf,rf,rf,rf,tv⟩,tv⟩,⟨rfl,rfl⟩,⟨rfl,rfl⟩,⟨rf,rf,rf,rfl,rfl,rfl,tv⟩,⟨rfl,rfl⟩,⟨rfl,rfl⟩,⟨rfl,rf,rfl,tv⟩,⟨rfl,tv⟩,⟨rf,tv⟩,⟨⟨rfl,rfl,tv⟩,tv⟩,tv⟩
 ·have h:b=false:=h
  subst h
  refine .inr ⟨[0,1,2,3],[.ptr 2 0,.dv (I s)],tK d (pD d) (keysF (pD d)),0,_,_,to_spec d (pD d) (keysF (pD d)) s v htw (by omega),by kernel_rfl,by kernel_rfl,⟨rfl,rf,tv⟩,⟨⟨rfl,rfl⟩,⟨rfl,rfl⟩,⟨rf,rf,rf,rfl,rfl,rfl,tv⟩,⟨rfl,rfl⟩,tv⟩,by kernel_rfl,?_⟩
  exact ⟨_,_,⟨rfl,rfl⟩,by kernel_rfl,⟨⟨rf,rf,rf,rf,tv⟩,tv⟩,⟨rfl,rfl⟩,⟨rfl,rfl⟩,⟨rf,rf,rf,rfl,rfl,rfl,tv⟩,⟨rfl,rfl⟩,⟨rfl,rfl⟩,⟨rfl,rf,rfl,tv⟩,⟨rfl,tv⟩,⟨rf,tv⟩,⟨⟨rfl,rfl,tv⟩,tv⟩,tv⟩
def k1B (d:Dea) (c:Int):Boxes:=[(6,Box.cells [AV.ptr 5 0]),(7,Box.tree 0 0 (eEnd (endsE d))),(8,Box.cells [AV.own 7 0 0 []]),(9,Box.cells [AV.dv (I c)]),(10,Box.cells [AV.fn 67 [AV.ptr 8 0]])]
set_option maxRecDepth 100000 in
set_option maxHeartbeats 4000000 in
theorem h65_1 (n:Nat) (d:Dea) (hs:Parts d) (hwf:WF n d) (c:Int) (i:Nat) (s:Int) (v:List Int) (hso:(disc d).order[i]?=some s) (hvo:(disc d).ways[i]?=some v) (x:Sta) (hx:d.states[s.toNat]?=some x) (p:Int) (b:Bool) (hb:decide (s∈endsE d)=b):CSpec Try.prog 65 [.dv (I s),.dv (I p),.ptr 10 0,.ptr 9 0,.ptr 6 0] 11 (qK n d (conM n d)++k1B d c) 0 [.agg (abC (if b then none else some ⟨c,s,p,v⟩))] (qK n d (conM n d)++k1B d c):=by
 refine cspec_of tab_ok mixed (calls_snd _) (range_snd _) Try.func65 rfl rfl (by kernel_rfl) ?_
 have h0:=((disc_ok d).rng s (List.mem_of_getElem? hso)).1
 have hgl:=hs.gi x (List.mem_of_getElem? hx)
 have hol:=hs.op x (List.mem_of_getElem? hx)
 have hsl:=hwf.sl
 have hvl:=way_len (wayOf_at d hso hvo)
 have htw:=(wok_disc d hwf.ne).tw i s v hso hvo
 have hsp:=h67_spec (endsE d) s p
 rw [hb] at hsp
 refine .inr ⟨[7,8],[.dv (I s),.dv (I p),.ptr 1 0],[(0,Box.tree 0 0 (eEnd (endsE d))),(1,Box.cells [AV.own 0 0 0 []])],0,_,_,hsp,by kernel_rfl,by kernel_rfl,⟨rf,rf,rfl,tv⟩,⟨⟨rfl,rfl⟩,⟨rfl,tv⟩,tv⟩,fun h=>?_,fun h=>?_⟩
 ·have h:b=true:=h
  subst h
  exact ⟨_,_,⟨rfl,rfl⟩,by kernel_rfl,⟨⟨rf,rf,rf,rf,tv⟩,tv⟩,⟨rfl,rfl⟩,⟨rfl,rfl⟩,⟨rf,rf,rf,rfl,rfl,rfl,tv⟩,⟨rfl,rfl⟩,⟨rfl,rfl⟩,⟨rfl,rf,rfl,tv⟩,⟨rfl,tv⟩,⟨rfl,rfl⟩,⟨rfl,tv⟩,⟨rf,tv⟩,⟨⟨rfl,rfl,tv⟩,tv⟩,tv⟩
 ·have h:b=false:=h
  subst h
  refine .inr ⟨[0,1,2,3],[.ptr 2 0,.dv (I s)],tK d (pD d) (keysF (pD d)),0,_,_,to_spec d (pD d) (keysF (pD d)) s v htw (by omega),by kernel_rfl,by kernel_rfl,⟨rfl,rf,tv⟩,⟨⟨rfl,rfl⟩,⟨rfl,rfl⟩,⟨rf,rf,rf,rfl,rfl,rfl,tv⟩,⟨rfl,rfl⟩,tv⟩,by kernel_rfl,?_⟩
  exact ⟨_,_,⟨rfl,rfl⟩,by kernel_rfl,⟨⟨rf,rf,rf,rf,tv⟩,tv⟩,⟨rfl,rfl⟩,⟨rfl,rfl⟩,⟨rf,rf,rf,rfl,rfl,rfl,tv⟩,⟨rfl,rfl⟩,⟨rfl,rfl⟩,⟨rfl,rf,rfl,tv⟩,⟨rfl,tv⟩,⟨rfl,rfl⟩,⟨rfl,tv⟩,⟨rf,tv⟩,⟨⟨rfl,rfl,tv⟩,tv⟩,tv⟩
def k2B (d:Dea) (c:Int):Boxes:=[(6,Box.cells [AV.ptr 5 0]),(7,Box.cells [AV.dv (I c)]),(8,Box.cells [AV.bfn 68 [AV.ptr 5 0]])]
set_option maxRecDepth 100000 in
set_option maxHeartbeats 4000000 in
theorem h65_2 (n:Nat) (d:Dea) (hs:Parts d) (hwf:WF n d) (c:Int) (i:Nat) (s:Int) (v:List Int) (hso:(disc d).order[i]?=some s) (hvo:(disc d).ways[i]?=some v) (x:Sta) (hx:d.states[s.toNat]?=some x) (p:Nat) (r:List Int) (hr:(folM n d v)[p]?=some r) (hrl:r.length≤1000) (b:Bool) (hb:freeB x r p=b):CSpec Try.prog 65 [.dv (I s),.dv (I p),.ptr 8 0,.ptr 7 0,.ptr 6 0] 9 (qK n d (conM n d)++k2B d c) 0 [.agg (abC (if b then none else some ⟨c,s,p,v⟩))] (qK n d (conM n d)++k2B d c):=by
 refine cspec_of tab_ok mixed (calls_snd _) (range_snd _) Try.func65 rfl rfl (by kernel_rfl) ?_
 have h0:=((disc_ok d).rng s (List.mem_of_getElem? hso)).1
 have hgl:=hs.gi x (List.mem_of_getElem? hx)
 have hol:=hs.op x (List.mem_of_getElem? hx)
 have hsl:=hwf.sl
 have hvl:=way_len (wayOf_at d hso hvo)
 have htw:=(wok_disc d hwf.ne).tw i s v hso hvo
 have hsp:=isFree_spec n d (conM n d) s x h0 hx hol (folM n d v) (conM_get n d hso hvo) p r hr (by omega)
 rw [hb] at hsp
 refine .inr ⟨[0,1,2,3,4,5],[.ptr 5 0,.dv (I s),.dv (I p)],qK n d (conM n d),0,_,_,hsp,by kernel_rfl,by kernel_rfl,⟨rfl,rf,rf,tv⟩,⟨⟨rfl,rfl⟩,⟨rfl,rfl⟩,⟨rf,rf,rf,rfl,rfl,rfl,tv⟩,⟨rfl,rfl⟩,⟨rfl,rfl⟩,⟨rfl,rf,rfl,tv⟩,tv⟩,fun h=>?_,fun h=>?_⟩
 ·have h:b=true:=h
  subst h
  exact ⟨_,_,⟨rfl,rfl⟩,by kernel_rfl,⟨⟨rf,rf,rf,rf,tv⟩,tv⟩,⟨rfl,rfl⟩,⟨rfl,rfl⟩,⟨rf,rf,rf,rfl,rfl,rfl,tv⟩,⟨rfl,rfl⟩,⟨rfl,rfl⟩,⟨rfl,rf,rfl,tv⟩,⟨rfl,tv⟩,⟨rf,tv⟩,⟨⟨rfl,rfl,tv⟩,tv⟩,tv⟩
 ·have h:b=false:=h
  subst h
  refine .inr ⟨[0,1,2,3],[.ptr 2 0,.dv (I s)],tK d (pD d) (keysF (pD d)),0,_,_,to_spec d (pD d) (keysF (pD d)) s v htw (by omega),by kernel_rfl,by kernel_rfl,⟨rfl,rf,tv⟩,⟨⟨rfl,rfl⟩,⟨rfl,rfl⟩,⟨rf,rf,rf,rfl,rfl,rfl,tv⟩,⟨rfl,rfl⟩,tv⟩,by kernel_rfl,?_⟩
  exact ⟨_,_,⟨rfl,rfl⟩,by kernel_rfl,⟨⟨rf,rf,rf,rf,tv⟩,tv⟩,⟨rfl,rfl⟩,⟨rfl,rfl⟩,⟨rf,rf,rf,rfl,rfl,rfl,tv⟩,⟨rfl,rfl⟩,⟨rfl,rfl⟩,⟨rfl,rf,rfl,tv⟩,⟨rfl,tv⟩,⟨rf,tv⟩,⟨⟨rfl,rfl,tv⟩,tv⟩,tv⟩
def k3B (d:Dea) (c:Int):Boxes:=[(6,Box.cells [AV.ptr 5 0]),(7,Box.cells [AV.dv (I c)]),(8,Box.cells [AV.fn 69 [AV.ptr 6 0]])]
set_option maxRecDepth 100000 in
set_option maxHeartbeats 4000000 in
theorem h65_3 (n:Nat) (d:Dea) (hs:Parts d) (hwf:WF n d) (c:Int) (i:Nat) (s:Int) (v:List Int) (hso:(disc d).order[i]?=some s) (hvo:(disc d).ways[i]?=some v) (x:Sta) (hx:d.states[s.toNat]?=some x) (p:Int) (b:Bool) (hb:evenB n x (folM n d v)=b):CSpec Try.prog 65 [.dv (I s),.dv (I p),.ptr 8 0,.ptr 7 0,.ptr 6 0] 9 (qK n d (conM n d)++k3B d c) 0 [.agg (abC (if b then none else some ⟨c,s,p,v⟩))] (qK n d (conM n d)++k3B d c):=by
 refine cspec_of tab_ok mixed (calls_snd _) (range_snd _) Try.func65 rfl rfl (by kernel_rfl) ?_
 have h0:=((disc_ok d).rng s (List.mem_of_getElem? hso)).1
 have hgl:=hs.gi x (List.mem_of_getElem? hx)
 have hol:=hs.op x (List.mem_of_getElem? hx)
 have hsl:=hwf.sl
 have hvl:=way_len (wayOf_at d hso hvo)
 have htw:=(wok_disc d hwf.ne).tw i s v hso hvo
 have hsp:=h69_spec n d hwf i s p v hso hvo x hx hgl
 rw [hb] at hsp
 refine .inr ⟨[0,1,2,3,4,5,6],[.dv (I s),.dv (I p),.ptr 6 0],qK n d (conM n d)++aB,0,_,_,hsp,by kernel_rfl,by kernel_rfl,⟨rf,rf,rfl,tv⟩,⟨⟨rfl,rfl⟩,⟨rfl,rfl⟩,⟨rf,rf,rf,rfl,rfl,rfl,tv⟩,⟨rfl,rfl⟩,⟨rfl,rfl⟩,⟨rfl,rf,rfl,tv⟩,⟨rfl,tv⟩,tv⟩,fun h=>?_,fun h=>?_⟩
 ·have h:b=true:=h
  subst h
  exact ⟨_,_,⟨rfl,rfl⟩,by kernel_rfl,⟨⟨rf,rf,rf,rf,tv⟩,tv⟩,⟨rfl,rfl⟩,⟨rfl,rfl⟩,⟨rf,rf,rf,rfl,rfl,rfl,tv⟩,⟨rfl,rfl⟩,⟨rfl,rfl⟩,⟨rfl,rf,rfl,tv⟩,⟨rfl,tv⟩,⟨rf,tv⟩,⟨⟨rfl,rfl,tv⟩,tv⟩,tv⟩
 ·have h:b=false:=h
  subst h
  refine .inr ⟨[0,1,2,3],[.ptr 2 0,.dv (I s)],tK d (pD d) (keysF (pD d)),0,_,_,to_spec d (pD d) (keysF (pD d)) s v htw (by omega),by kernel_rfl,by kernel_rfl,⟨rfl,rf,tv⟩,⟨⟨rfl,rfl⟩,⟨rfl,rfl⟩,⟨rf,rf,rf,rfl,rfl,rfl,tv⟩,⟨rfl,rfl⟩,tv⟩,by kernel_rfl,?_⟩
  exact ⟨_,_,⟨rfl,rfl⟩,by kernel_rfl,⟨⟨rf,rf,rf,rf,tv⟩,tv⟩,⟨rfl,rfl⟩,⟨rfl,rfl⟩,⟨rf,rf,rf,rfl,rfl,rfl,tv⟩,⟨rfl,rfl⟩,⟨rfl,rfl⟩,⟨rfl,rf,rfl,tv⟩,⟨rfl,tv⟩,⟨rf,tv⟩,⟨⟨rfl,rfl,tv⟩,tv⟩,tv⟩
def p0B (d:Dea):Boxes:=[(6,Box.cells [AV.ptr 5 0])]
set_option maxRecDepth 100000 in
theorem h64_0 (n:Nat) (d:Dea) (c:Int):CSpec Try.prog 64 [.dv (I c),.fn 66 [.ptr 6 0],.ptr 6 0] 7 (qK n d (conM n d)++p0B d) 2 [.fn 65 [.ptr 8 0,.ptr 7 0,.ptr 6 0]] (qK n d (conM n d)++k0B d c):=by
 refine cspec_of tab_ok mixed (calls_snd _) (range_snd _) Try.func64 rfl rfl (by kernel_rfl) ?_
 exact ⟨_,_,⟨rfl,rfl⟩,by kernel_rfl,⟨⟨rfl,rfl,rfl,rfl,tv⟩,tv⟩,⟨rfl,rfl⟩,⟨rfl,rfl⟩,⟨rf,rf,rf,rfl,rfl,rfl,tv⟩,⟨rfl,rfl⟩,⟨rfl,rfl⟩,⟨rfl,rf,rfl,tv⟩,⟨rfl,tv⟩,⟨rf,tv⟩,⟨⟨rfl,rfl,tv⟩,tv⟩,tv⟩
def p1B (d:Dea):Boxes:=[(6,Box.cells [AV.ptr 5 0]),(7,Box.tree 0 0 (eEnd (endsE d))),(8,Box.cells [AV.own 7 0 0 []])]
set_option maxRecDepth 100000 in
theorem h64_1 (n:Nat) (d:Dea) (c:Int):CSpec Try.prog 64 [.dv (I c),.fn 67 [.ptr 8 0],.ptr 6 0] 9 (qK n d (conM n d)++p1B d) 2 [.fn 65 [.ptr 10 0,.ptr 9 0,.ptr 6 0]] (qK n d (conM n d)++k1B d c):=by
 refine cspec_of tab_ok mixed (calls_snd _) (range_snd _) Try.func64 rfl rfl (by kernel_rfl) ?_
 exact ⟨_,_,⟨rfl,rfl⟩,by kernel_rfl,⟨⟨rfl,rfl,rfl,rfl,tv⟩,tv⟩,⟨rfl,rfl⟩,⟨rfl,rfl⟩,⟨rf,rf,rf,rfl,rfl,rfl,tv⟩,⟨rfl,rfl⟩,⟨rfl,rfl⟩,⟨rfl,rf,rfl,tv⟩,⟨rfl,tv⟩,⟨rfl,rfl⟩,⟨rfl,tv⟩,⟨rf,tv⟩,⟨⟨rfl,rfl,tv⟩,tv⟩,tv⟩
def p2B (d:Dea):Boxes:=[(6,Box.cells [AV.ptr 5 0])]
set_option maxRecDepth 100000 in
theorem h64_2 (n:Nat) (d:Dea) (c:Int):CSpec Try.prog 64 [.dv (I c),.bfn 68 [.ptr 5 0],.ptr 6 0] 7 (qK n d (conM n d)++p2B d) 2 [.fn 65 [.ptr 8 0,.ptr 7 0,.ptr 6 0]] (qK n d (conM n d)++k2B d c):=by
 refine cspec_of tab_ok mixed (calls_snd _) (range_snd _) Try.func64 rfl rfl (by kernel_rfl) ?_
 exact ⟨_,_,⟨rfl,rfl⟩,by kernel_rfl,⟨⟨rfl,rfl,rfl,rfl,tv⟩,tv⟩,⟨rfl,rfl⟩,⟨rfl,rfl⟩,⟨rf,rf,rf,rfl,rfl,rfl,tv⟩,⟨rfl,rfl⟩,⟨rfl,rfl⟩,⟨rfl,rf,rfl,tv⟩,⟨rfl,tv⟩,⟨rf,tv⟩,⟨⟨rfl,rfl,tv⟩,tv⟩,tv⟩
def p3B (d:Dea):Boxes:=[(6,Box.cells [AV.ptr 5 0])]
set_option maxRecDepth 100000 in
theorem h64_3 (n:Nat) (d:Dea) (c:Int):CSpec Try.prog 64 [.dv (I c),.fn 69 [.ptr 6 0],.ptr 6 0] 7 (qK n d (conM n d)++p3B d) 2 [.fn 65 [.ptr 8 0,.ptr 7 0,.ptr 6 0]] (qK n d (conM n d)++k3B d c):=by
 refine cspec_of tab_ok mixed (calls_snd _) (range_snd _) Try.func64 rfl rfl (by kernel_rfl) ?_
 exact ⟨_,_,⟨rfl,rfl⟩,by kernel_rfl,⟨⟨rfl,rfl,rfl,rfl,tv⟩,tv⟩,⟨rfl,rfl⟩,⟨rfl,rfl⟩,⟨rf,rf,rf,rfl,rfl,rfl,tv⟩,⟨rfl,rfl⟩,⟨rfl,rfl⟩,⟨rfl,rf,rfl,tv⟩,⟨rfl,tv⟩,⟨rf,tv⟩,⟨⟨rfl,rfl,tv⟩,tv⟩,tv⟩
end Go.Proofs.Ytfcfbfkjdenpdaa
