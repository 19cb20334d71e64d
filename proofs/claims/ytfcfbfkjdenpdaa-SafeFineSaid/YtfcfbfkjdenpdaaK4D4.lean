import Derived.Test.YtfcfbfkjdenpdaaK4D3
import Derived.Test.YtfcfbfkjdenpdaaK4A1
set_option linter.unusedVariables false
set_option linter.unusedSimpArgs false
set_option linter.unusedSectionVars false
namespace Go.Proofs.Ytfcfbfkjdenpdaa
open Go.TM
def oK (d:Dea) (b:PB):Boxes:=[(1,.tree 0 0 (eFrom b.from_)),(2,.tree 0 0 (eStps b.steps)),(3,.cells (wC d (.own 1 0 0 []) (.own 2 0 0 []) (.own 9 0 0 []))),(9,.tree 0 0 (.osl 1 ((keysF b).map I)))]
set_option maxRecDepth 100000 in
set_option maxHeartbeats 4000000 in
theorem explore_spec (d:Dea) (hd:d.states ≠ []) (hs:Small d):CSpec Try.prog 41 [.agg (dvs (dcells d))] 0 [] 10 [.ptr 3 0] (oK d (pD d)):=by
 refine cspec_of tab_ok mixed (calls_snd _) (range_snd _) Try.func41 rfl rfl (by kernel_rfl) ?_
 refine ⟨intK,intK,?_⟩
 refine .inr ⟨[3,1,2],[.ptr 0 0],[(0,.cells (wC d (.own 1 0 0 []) (.own 2 0 0 []) (.dv .nils))),(1,.tree 0 0 (eFrom [])),(2,.tree 0 0 (eStps []))],1,_,_,disc0_spec d [] [],rfl,rfl,⟨rfl,tv⟩,⟨⟨rf,rf,rf,rfl,rfl,rf,tv⟩,⟨rfl,rfl⟩,⟨rfl,rfl⟩,tv⟩,rcF Try.f41,by kernel_rfl,?_⟩
 have h91:=disc1_spec (rcF Try.f41) d hd hs (fun f s o x ho=>xbody_spec d f s o ho x)
 refine ⟨[6,3,1,2,4,5],[.yld 0,.ptr 5 0],eK (rcF Try.f41) d,3,_,h91,by kernel_rfl,⟨rfl,rfl,tv⟩,⟨⟨rfl,rfl,subWs_sOk (by kernel_rfl)⟩,⟨rf,rf,rf,rfl,rfl,rf,tv⟩,⟨rfl,rfl⟩,⟨rfl,rfl⟩,⟨rfl,tv⟩,⟨rfl,tv⟩,tv⟩,?_⟩
 rintro rs K2 ⟨rfl,rfl⟩
 refine ⟨by kernel_rfl,?_⟩
 conv=>whnf
 exact ⟨_,_,⟨rfl,rfl⟩,by kernel_rfl,⟨rfl,tv⟩,⟨rfl,rfl⟩,⟨rfl,rfl⟩,⟨rf,rf,rf,rfl,rfl,rfl,tv⟩,⟨rfl,rfl⟩,tv⟩
end Go.Proofs.Ytfcfbfkjdenpdaa
namespace Go.Proofs.Ytfcfbfkjdenpdaa
open Go.TM
structure RvI where
 i:Nat
 c:List Int
structure RvOk (l:List Int) (z:RvI):Prop where
 len:z.c.length=l.length
 le:2 * z.i≤l.length+1
 get:∀k,k<l.length→z.c[k]?=if k<z.i ∨ l.length - z.i≤k then l[l.length - 1 - k]? else l[k]?
theorem rv_done {l:List Int} {z:RvI} (h:RvOk l z) (hi:¬ (z.i:Int)<l.length - 1 - z.i):z.c=l.reverse:=by
 refine List.ext_getElem? fun k=>?_
 by_cases hk:k<l.length
 ·rw [h.get k hk,List.getElem?_reverse (by omega)]
  have:=h.le
  split
  ·rfl
  ·congr 1; omega
 ·rw [List.getElem?_eq_none (by rw [h.len]; omega),List.getElem?_eq_none (by simp; omega)]
theorem rv_step {l:List Int} {z:RvI} (h:RvOk l z) (hi:(z.i:Int)<l.length - 1 - z.i) {a b:Int} (ha:z.c[z.i]?=some a) (hb:z.c[l.length - 1 - z.i]?=some b):RvOk l ⟨z.i+1,(z.c.set z.i b).set (l.length - 1 - z.i) a⟩:=by
 have hlen:=h.len
 refine ⟨by simp [hlen],by dsimp only; omega,fun k hk=>?_⟩
 have h1:=h.get z.i (by omega)
 have h2:=h.get (l.length - 1 - z.i) (by omega)
 rw [if_neg (by omega),ha] at h1
 rw [if_neg (by omega),hb] at h2
 dsimp only
 rw [List.getElem?_set]
 by_cases e1:l.length - 1 - z.i=k
 ·subst e1
  rw [if_pos rfl,if_pos (by simp [hlen]; omega),if_pos (by omega),h1]
  congr 1; omega
 ·rw [if_neg e1,List.getElem?_set]
  by_cases e2:z.i=k
  ·subst e2
   rw [if_pos rfl,if_pos (by omega),if_pos (by omega),h2]
  ·rw [if_neg e2,h.get k hk]
   by_cases c:k<z.i ∨ l.length - z.i≤k
   ·rw [if_pos c,if_pos (by omega)]
   ·rw [if_neg c,if_neg (by omega)]
set_option maxHeartbeats 4000000 in
theorem reverse_spec (l:List Int) (hl:l.length≤1000000):CSpec Try.prog 76 [.own 0 0 0 []] 1 [(0,.tree 0 0 (.osl 1 (l.map I)))] 0 [] [(0,.tree 0 0 (.osl 1 (l.reverse.map I)))]:=by
 refine cspec_of tab_ok mixed (calls_snd _) (range_snd _) Try.func76 rfl rfl (by kernel_rfl) ?_
 refine ⟨fun _=>⟨by omega,by simp; omega⟩,?_⟩
 refine ⟨RvI,fun z=>⟨1,[(0,.own 0 0 0 []),(2,.dv (I z.i)),(3,.dv (I (l.length - 1 - z.i)))],[(0,.tree 0 0 (.osl 1 (z.c.map I)))]⟩,RvOk l,fun z=>l.length - z.i,⟨0,l⟩,fun _=>rfl,?_,⟨rfl,by simp,fun k hk=>?_⟩,?_⟩
 ·exact ⟨⟨rfl,rf,le_int (by simp),tv⟩,⟨⟨rfl,rfl⟩,tv⟩,rfl,rfl⟩
 ·rw [if_neg (by simp; omega)]
 ·rintro ⟨i,c⟩ hz
  have hlen:c.length=l.length:=hz.len
  refine ⟨fun h=>?_,fun h=>?_⟩
  ·have hlt:(i:Int)<l.length - 1 - i:=of_decide_eq_true h
   clear h
   have hj:((l.length:Int) - 1 - i).toNat=l.length - 1 - i:=by omega
   generalize ha':c[i]=a
   have ha:c[i]?=some a:=by rw [List.getElem?_eq_getElem (by omega),ha']
   generalize hb':c[l.length - 1 - i]=b
   have hb:c[l.length - 1 - i]?=some b:=by rw [List.getElem?_eq_getElem (by omega),hb']
   refine ⟨fun _=>⟨by dsimp only; omega,by dsimp only; simp; omega⟩,I b,fun _=>by dsimp only; rw [hj]; simp [hb],fun _=>⟨by dsimp only; omega,by dsimp only; simp; omega⟩,I a,fun _=>by simp [ha],?_⟩
   have hb2:(c.set i b)[l.length - 1 - i]?=some b:=by rw [List.getElem?_set,if_neg (by omega),hb]
   refine ⟨fun _=>⟨by dsimp only; omega,by dsimp only; simp; omega⟩,[I b],⟨rf,tv⟩,I a,by simp [ha],?_⟩
   refine ⟨fun _=>⟨by dsimp only; omega,by dsimp only; simp; omega⟩,[I a],⟨rf,tv⟩,I b,?_,by kernel_rfl,?_⟩
   ·show ((c.map I).set (i:Int).toNat (I b))[((l.length:Int) - 1 - i).toNat]?=some (I b)
    rw [hj,←List.map_set,List.getElem?_map,Int.toNat_natCast,hb2]; rfl
   refine ⟨fun _=>⟨by dsimp only; omega,by dsimp only; omega⟩,fun _=>⟨by dsimp only; omega,by dsimp only; omega⟩,⟨i+1,(c.set i b).set (l.length - 1 - i) a⟩,⟨⟨rfl,le_int (by simp),le_int (by dsimp only; omega),tv⟩,⟨⟨rfl,?_⟩,tv⟩,rfl,rfl⟩,rv_step hz hlt ha hb,by dsimp only; omega⟩
   show DV.osl 1 (((c.map I).set (i:Int).toNat (I b)).set ((l.length:Int) - 1 - i).toNat (I a))=.osl 1 (((c.set i b).set (l.length - 1 - i) a).map I)
   rw [hj,List.map_set,List.map_set,Int.toNat_natCast]
  ·have hdone:=rv_done hz (of_decide_eq_false h)
   dsimp only at hdone
   exact ⟨_,_,⟨rfl,rfl⟩,rfl,tv,⟨rfl,by rw [←hdone]⟩,tv⟩
inductive TW (b:PB):Int→List Int→Prop
 | nil {s p:Int}:lookI b.from_ s=some p→p<0→TW b s []
 | snoc {s p:Int} {st:Stp} {w:List Int}:lookI b.from_ s=some p→0≤p→lookI b.steps s=some st→TW b p w→TW b s (w++[st.label])
def tK (d:Dea) (b:PB) (o:List Int):Boxes:=[(0,.tree 0 0 (eFrom b.from_)),(1,.tree 0 0 (eStps b.steps)),(2,.cells (wC d (.own 0 0 0 []) (.own 1 0 0 []) (.own 3 0 0 []))),(3,.tree 0 0 (.osl 1 (o.map I)))]
structure ToI where
 s:Int
 w:List Int
 acc:List Int
set_option maxHeartbeats 4000000 in
theorem to_spec (d:Dea) (b:PB) (o:List Int) (s:Int) (way:List Int) (h:TW b s way) (hw:way.length≤100000):CSpec Try.prog 42 [.ptr 2 0,.dv (I s)] 4 (tK d b o) 0 [.dv (Ints way)] (tK d b o):=by
 refine cspec_of tab_ok mixed (calls_snd _) (range_snd _) Try.func42 rfl rfl (by kernel_rfl) ?_
 refine ⟨ToI,fun z=>⟨5,[(0,.ptr 2 0),(1,.dv (I z.s)),(5,.own 4 0 0 [])],tK d b o++[(4,.tree 0 0 (.osl 1 (z.acc.map I)))]⟩,fun z=>TW b z.s z.w∧way=z.w++z.acc.reverse,fun z=>z.w.length,⟨s,way,[]⟩,fun _=>rfl,?_,⟨h,by simp⟩,?_⟩
 ·exact ⟨⟨rfl,rf,⟨rfl,rfl,rfl,rfl,1,rfl⟩,tv⟩,⟨⟨rfl,rfl⟩,⟨rfl,rfl⟩,⟨rf,rf,rf,rfl,rfl,rfl,tv⟩,⟨rfl,rfl⟩,⟨rfl,rfl,1,rfl⟩,tv⟩,rfl,rfl⟩
 ·rintro ⟨s,w,acc⟩ ⟨ht,hway⟩
  dsimp only at ht hway
  have hal:w.length+acc.length=way.length:=by rw [hway]; simp
  cases ht with
  | @nil _ p hf hp =>
   refine ⟨keyT3,I s,rfl,rfl,I p,true,fun _=>?_,(fun h=>by cases h),rfl,?_⟩
   ·rw [mget_int (fun x=>I x),hf]; rfl
   refine ⟨fun h=>?_,fun _=>?_⟩
   ·exfalso
    have h:(0:Int)≤p:=of_decide_eq_true h
    omega
   refine .inr ⟨[4],[.own 0 0 0 []],[(0,.tree 0 0 (.osl 1 (acc.map I)))],0,_,_,reverse_spec acc (by omega),rfl,rfl,⟨rfl,tv⟩,⟨⟨rfl,rfl⟩,tv⟩,?_⟩
   refine ⟨_,_,⟨rfl,rfl⟩,rfl,⟨DV.Le.of_eq ?_,tv⟩,⟨rfl,rfl⟩,⟨rfl,rfl⟩,⟨rf,rf,rf,rfl,rfl,rfl,tv⟩,⟨rfl,rfl⟩,tv⟩
   show DV.sl 1 (fzL (acc.reverse.map I))=_
   rw [fzL_map fun _=>rfl,hway]; rfl
  | @snoc _ p st w hf hp hst hr =>
   refine ⟨keyT3,I s,rfl,rfl,I p,true,fun _=>?_,(fun h=>by cases h),rfl,?_⟩
   ·rw [mget_int (fun x=>I x),hf]; rfl
   refine ⟨fun _=>?_,fun h=>?_⟩
   ·refine ⟨keyT3,I s,rfl,rfl,eSs st,true,fun _=>?_,(fun h=>by cases h),rfl,?_⟩
    ·rw [mget_int eSs,hst]; rfl
    simp only [List.length_append,List.length_cons,List.length_nil] at hal
    refine .inl ⟨[I st.label],rfl,⟨rf,tv⟩,fun y hy=>(by rcases List.mem_singleton.1 hy with rfl; rfl),.inr ⟨[I st.label],ELes.refl _,(by rw [by22]; simp; omega),(by simp; omega),?_⟩⟩
    refine ⟨keyT3,I s,rfl,rfl,I p,true,fun _=>?_,(fun h=>by cases h),rfl,?_⟩
    ·rw [mget_int (fun x=>I x),hf]; rfl
    refine ⟨⟨p,w,acc++[st.label]⟩,⟨⟨rfl,rf,rfl,tv⟩,⟨⟨rfl,rfl⟩,⟨rfl,rfl⟩,⟨rf,rf,rf,rfl,rfl,rfl,tv⟩,⟨rfl,rfl⟩,⟨rfl,by simp⟩,tv⟩,rfl,rfl⟩,⟨hr,by simp [hway]⟩,by simp⟩
   ·exfalso
    have h:¬ (0:Int)≤p:=of_decide_eq_false h
    omega
end Go.Proofs.Ytfcfbfkjdenpdaa
namespace Go.Proofs.Ytfcfbfkjdenpdaa
open Go.TM
theorem lookI_app {α:Type} (m:List (Int × α)) (k s:Int) (v:α):lookI (m++[(k,v)]) s=match lookI m s with | some x=>some x | none=>if k=s then some v else none:=by
 unfold lookI
 rw [List.find?_append]
 cases h:m.find? (fun x=>x.1 == s) with
 | some x=>simp
 | none =>
  by_cases hk:k=s
  ·simp [hk]
  ·simp [hk]
theorem lookI_mono {α:Type} {m:List (Int × α)} {s:Int} {v:α} (h:lookI m s=some v) (k:Int) (u:α):lookI (m++[(k,u)]) s=some v:=by rw [lookI_app,h]
theorem TW.add {b:PB} {s:Int} {w:List Int} (h:TW b s w) (cur:Int) (t:Stp):TW (addP cur b t) s w:=by
 unfold addP
 split
 ·exact h
 ·induction h with
  | nil h1 h2=>exact .nil (lookI_mono h1 _ _) h2
  | snoc h1 h2 h3 _ ih=>exact .snoc (lookI_mono h1 _ _) h2 (lookI_mono h3 _ _) ih
theorem TW.new {b:PB} {cur:Int} {way:List Int} (h:TW b cur way) (hc:0≤cur) {t:Stp} (hn:t.next ∉ keysF b) (hst:b.steps.map (·.1)=(keysF b).tail):TW (addP cur b t) t.next (way++[t.label]):=by
 have h':=h.add cur t
 have hns:t.next ∉ b.steps.map (·.1):=by rw [hst]; exact fun h=>hn (List.mem_of_mem_tail h)
 unfold addP at h' ⊢
 rw [if_neg hn] at h' ⊢
 exact .snoc (by rw [lookI_app,lookI_none hn]; simp) hc (by rw [lookI_app,lookI_none hns]; simp) h'
structure WOk (b:PB) (w:Bfs):Prop where
 keys:keysF b=w.order
 len:w.ways.length=w.order.length
 st:b.steps.map (·.1)=(keysF b).tail
 ne:keysF b ≠ []
 tw:∀(j:Nat) (s:Int) (v:List Int),w.order[j]?=some s→w.ways[j]?=some v→TW b s v
theorem WOk.add {b:PB} {w:Bfs} (h:WOk b w) {cur:Int} {way:List Int} (hc:0≤cur) (ht:TW b cur way) (t:Stp):WOk (addP cur b t) (addStep way w t):=by
 have hp:=PQok.add (z:=⟨b,[],false⟩) ⟨h.st,h.ne⟩ cur t
 have hk:=addP_keys cur b w way h.keys t
 have hst:(addP cur b t).steps.map (·.1)=(keysF (addP cur b t)).tail:=hp.st
 have hne:keysF (addP cur b t) ≠ []:=hp.ne
 by_cases hin:t.next∈keysF b
 ·have e1:addP cur b t=b:=by unfold addP; rw [if_pos hin]
  have e2:addStep way w t=w:=by unfold addStep; rw [if_pos (by rw [←h.keys]; exact hin)]
  rw [e1,e2]; exact h
 ·have e2:addStep way w t=⟨w.order++[t.next],w.ways++[way++[t.label]]⟩:=by unfold addStep; rw [if_neg (by rw [←h.keys]; exact hin)]
  refine ⟨hk,by rw [e2]; simp [h.len],hst,hne,?_⟩
  rw [e2]
  intro j s v hs hv
  by_cases hj:j<w.order.length
  ·rw [List.getElem?_append_left hj] at hs
   rw [List.getElem?_append_left (by rw [h.len]; exact hj)] at hv
   exact (h.tw j s v hs hv).add cur t
  ·have hz:j - w.order.length=0:=by
    by_cases hz:j - w.order.length=0
    ·exact hz
    ·rw [List.getElem?_append_right (by omega),List.getElem?_eq_none (by simp; omega)] at hs
     cases hs
   rw [List.getElem?_append_right (by omega),hz] at hs
   rw [List.getElem?_append_right (by rw [h.len]; omega),h.len,hz] at hv
   simp at hs hv
   subst hs; subst hv
   exact ht.new hc hin h.st
theorem WOk.fold {cur:Int} {way:List Int} (hc:0≤cur):∀(l:List Stp) {b:PB} {w:Bfs},WOk b w→TW b cur way→WOk (l.foldl (addP cur) b) (l.foldl (addStep way) w)
 | [],_,_,h,_=>h
 | t::l,_,_,h,ht=>WOk.fold hc l (h.add hc ht t) (ht.add cur t)
theorem wok_at (d:Dea) (hd:d.states ≠ []):∀i,WOk (bfsP d i) (bfsAt d i)
 | 0=>⟨rfl,rfl,rfl,by simp [keysF,bfsP],fun j s v hs hv=>by
   match j with
   | 0 =>
    simp [bfsAt] at hs hv
    subst hs; subst hv
    exact .nil (p:=-1) rfl (by omega)
   | j+1=>simp [bfsAt] at hs⟩
 | i+1=>by
  have ih:=wok_at d hd i
  have hb:=bfsAt_ok d hd i
  show WOk (procP d i (bfsP d i)) (proc d i (bfsAt d i))
  unfold procP proc
  rw [ih.keys]
  cases ho:(bfsAt d i).order[i]? with
  | none=>exact ih
  | some s =>
   have hl:i<(bfsAt d i).order.length:=(List.getElem?_eq_some_iff.1 ho).1
   have hw:i<(bfsAt d i).ways.length:=by rw [hb.len]; exact hl
   rw [List.getElem?_eq_getElem hw]
   simp only
   cases hx:d.states[s.toNat]? with
   | none=>exact ih
   | some x =>
    have hr:=hb.rng s (List.mem_of_getElem? ho)
    exact WOk.fold hr.1 _ ih (ih.tw i s _ ho (List.getElem?_eq_getElem hw))
theorem disc_eq (d:Dea) (hd:d.states ≠ []):disc d=bfsAt d d.states.length:=by
 unfold disc
 split
 ·rename_i e; exact absurd e hd
 ·rfl
theorem wok_disc (d:Dea) (hd:d.states ≠ []):WOk (pD d) (disc d):=by
 rw [disc_eq d hd]
 exact wok_at d hd _
structure Mono (w:Bfs) (i:Nat):Prop where
 len:w.ways.length=w.order.length
 mono:∀(j k:Nat) (a b:List Int),j≤k→w.ways[j]?=some a→w.ways[k]?=some b→a.length≤b.length
 bnd:∀(k:Nat) (a b:List Int),w.ways[i]?=some a→w.ways[k]?=some b→b.length≤a.length+1
def Near (w:Bfs) (n:Nat) (l:List Stp):Prop:=∀t,t∈l→∃(k:Nat) (v:List Int),w.order[k]?=some t.next∧w.ways[k]?=some v∧v.length≤n+1
theorem near_pre {w w':Bfs} {n:Nat} {l:List Stp} (h:Near w n l) {e:List Int} {f:List (List Int)} (he:w'.order=w.order++e) (hf:w'.ways=w.ways++f):Near w' n l:=by
 intro t ht
 obtain ⟨k,v,h1,h2,h3⟩:=h t ht
 refine ⟨k,v,?_,?_,h3⟩
 ·rw [he,List.getElem?_append_left (List.getElem?_eq_some_iff.1 h1).1]; exact h1
 ·rw [hf,List.getElem?_append_left (List.getElem?_eq_some_iff.1 h2).1]; exact h2
theorem mono_add {w:Bfs} {i:Nat} {way:List Int} (h:Mono w i) (hw:w.ways[i]?=some way) (t:Stp):Mono (addStep way w t) i∧(addStep way w t).ways[i]?=some way∧Near (addStep way w t) way.length [t]:=by
 unfold addStep
 split
 ·rename_i hin
  refine ⟨h,hw,fun u hu=>?_⟩
  rcases List.mem_singleton.1 hu with rfl
  obtain ⟨k,hk⟩:=List.getElem?_of_mem hin
  have hkl:k<w.ways.length:=by rw [h.len]; exact (List.getElem?_eq_some_iff.1 hk).1
  exact ⟨k,_,hk,List.getElem?_eq_getElem hkl,h.bnd k _ _ hw (List.getElem?_eq_getElem hkl)⟩
 ·have hil:i<w.ways.length:=(List.getElem?_eq_some_iff.1 hw).1
  have hget:∀(k:Nat) (v:List Int),(w.ways++[way++[t.label]])[k]?=some v→(k<w.ways.length∧w.ways[k]?=some v) ∨ (k=w.ways.length∧v=way++[t.label]):=by
   intro k v hv
   by_cases hk:k<w.ways.length
   ·rw [List.getElem?_append_left hk] at hv; exact .inl ⟨hk,hv⟩
   ·rw [List.getElem?_append_right (by omega)] at hv
    have hz:k - w.ways.length=0:=by
     by_cases hz:k - w.ways.length=0
     ·exact hz
     ·rw [List.getElem?_eq_none (by simp; omega)] at hv; cases hv
    rw [hz] at hv
    simp at hv
    exact .inr ⟨by omega,hv.symm⟩
  refine ⟨⟨by simp [h.len],fun j k a b hjk ha hb=>?_,fun k a b ha hb=>?_⟩,?_,fun u hu=>?_⟩
  ·rcases hget j a ha with ⟨h1,h2⟩ | ⟨h1,h2⟩ <;> rcases hget k b hb with ⟨h3,h4⟩ | ⟨h3,h4⟩
   ·exact h.mono j k a b hjk h2 h4
   ·rw [h4]; have:=h.bnd j _ _ hw h2; simp; omega
   ·omega
   ·rw [h2,h4]; exact Nat.le_refl _
  ·rw [List.getElem?_append_left hil,hw] at ha
   injection ha with ha; subst ha
   rcases hget k b hb with ⟨h3,h4⟩ | ⟨h3,h4⟩
   ·exact h.bnd k _ _ hw h4
   ·rw [h4]; simp
  ·rw [List.getElem?_append_left hil]; exact hw
  ·rcases List.mem_singleton.1 hu with rfl
   refine ⟨w.order.length,way++[u.label],by simp,by simp [←h.len],by simp⟩
theorem mono_fold {i:Nat} {way:List Int}:∀(l:List Stp) {w:Bfs},Mono w i→w.ways[i]?=some way→Mono (l.foldl (addStep way) w) i∧(l.foldl (addStep way) w).ways[i]?=some way∧Near (l.foldl (addStep way) w) way.length l
 | [],w,h,hw=>⟨h,hw,fun t ht=>by simp at ht⟩
 | t::l,w,h,hw=>by
  obtain ⟨h1,h2,h3⟩:=mono_add h hw t
  obtain ⟨h4,h5,h6⟩:=mono_fold l h1 h2
  refine ⟨h4,h5,fun u hu=>?_⟩
  rcases List.mem_cons.1 hu with rfl | hu
  ·obtain ⟨e,f,he,hf⟩:=fold_pre way l (addStep way w u)
   exact near_pre h3 he hf u (by simp)
  ·exact h6 u hu
theorem proc_pre (d:Dea) (i:Nat) (w:Bfs):∃e f,(proc d i w).order=w.order++e∧(proc d i w).ways=w.ways++f:=by
 unfold proc
 split
 ·split
  ·exact fold_pre _ _ _
  ·exact ⟨[],[],by simp,by simp⟩
 ·exact ⟨[],[],by simp,by simp⟩
structure Look (d:Dea) (w:Bfs) (i:Nat):Prop where
 mo:Mono w i
 near:∀(j:Nat) (s:Int) (x:Sta) (v:List Int),j<i→w.order[j]?=some s→d.states[s.toNat]?=some x→w.ways[j]?=some v→Near w v.length (stepsOf d x)
theorem look_at (d:Dea) (hd:d.states ≠ []):∀i,Look d (bfsAt d i) i
 | 0=>⟨⟨rfl,fun j k a b _ ha hb=>by
   match j,k with
   | 0,0=>rw [ha] at hb; injection hb with hb; subst hb; exact Nat.le_refl _
   | 0,k+1=>simp [bfsAt] at hb
   | j+1,_=>simp [bfsAt] at ha,fun k a b ha hb=>by
   match k with
   | 0=>rw [ha] at hb; injection hb with hb; subst hb; omega
   | k+1=>simp [bfsAt] at hb⟩,fun j _ _ _ hj=>by omega⟩
 | i+1=>by
  have ih:=look_at d hd i
  have hb:=bfsAt_ok d hd i
  obtain ⟨e,f,he,hf⟩:=proc_pre d i (bfsAt d i)
  have hold:∀(j:Nat) (s:Int) (x:Sta) (v:List Int),j<i→(proc d i (bfsAt d i)).order[j]?=some s→d.states[s.toNat]?=some x→(proc d i (bfsAt d i)).ways[j]?=some v→j<(bfsAt d i).order.length→Near (proc d i (bfsAt d i)) v.length (stepsOf d x):=by
   intro j s x v hj hs hx hv hjl
   rw [he,List.getElem?_append_left hjl] at hs
   rw [hf,List.getElem?_append_left (by rw [hb.len]; exact hjl)] at hv
   exact near_pre (ih.near j s x v hj hs hx hv) he hf
  show Look d (proc d i (bfsAt d i)) (i+1)
  by_cases hil:i<(bfsAt d i).order.length
  ·have ho:(bfsAt d i).order[i]?=some (bfsAt d i).order[i]:=List.getElem?_eq_getElem hil
   have hwl:i<(bfsAt d i).ways.length:=by rw [hb.len]; exact hil
   have hw:(bfsAt d i).ways[i]?=some (bfsAt d i).ways[i]:=List.getElem?_eq_getElem hwl
   generalize (bfsAt d i).order[i]=s at ho
   generalize (bfsAt d i).ways[i]=way at hw
   have hr:=hb.rng s (List.mem_of_getElem? ho)
   have hsl:s.toNat<d.states.length:=by omega
   obtain ⟨x,hx⟩:∃x,d.states[s.toNat]?=some x:=⟨_,List.getElem?_eq_getElem hsl⟩
   have hp:proc d i (bfsAt d i)=(stepsOf d x).foldl (addStep way) (bfsAt d i):=by
    unfold proc; rw [ho,hw]; simp only [hx]
   obtain ⟨h1,h2,h3⟩:=mono_fold (stepsOf d x) ih.mo hw
   rw [←hp] at h1 h2 h3
   refine ⟨⟨h1.len,h1.mono,fun k a b ha hb'=>?_⟩,fun j s' x' v hj hs' hx' hv=>?_⟩
   ·have:=h1.mono i (i+1) way a (by omega) h2 ha
    have:=h1.bnd k way b h2 hb'
    omega
   ·by_cases hj':j<i
    ·exact hold j s' x' v hj' hs' hx' hv (by omega)
    ·have hji:j=i:=by omega
     subst hji
     rw [h2] at hv; injection hv with hv; subst hv
     rw [he,List.getElem?_append_left hil,ho] at hs'
     injection hs' with hs'; subst hs'
     rw [hx] at hx'; injection hx' with hx'; subst hx'
     exact h3
  ·have hp:proc d i (bfsAt d i)=bfsAt d i:=by
    unfold proc; rw [List.getElem?_eq_none (by omega)]
   rw [hp] at hold ⊢
   have hwn:(bfsAt d i).ways[i+1]?=none:=List.getElem?_eq_none (by rw [hb.len]; omega)
   refine ⟨⟨ih.mo.len,ih.mo.mono,fun k a b ha _=>by rw [hwn] at ha; cases ha⟩,fun j s x v hj hs hx hv=>?_⟩
   have hjl:j<(bfsAt d i).order.length:=(List.getElem?_eq_some_iff.1 hs).1
   exact hold j s x v (by omega) hs hx hv hjl
theorem look_disc (d:Dea) (hd:d.states ≠ []) {j:Nat} {s:Int} {x:Sta} {v:List Int} (hs:(disc d).order[j]?=some s) (hx:d.states[s.toNat]?=some x) (hv:(disc d).ways[j]?=some v):Near (disc d) v.length (stepsOf d x):=by
 rw [disc_eq d hd] at *
 have hjl:j<(bfsAt d d.states.length).order.length:=(List.getElem?_eq_some_iff.1 hs).1
 have:=(bfsAt_ok d hd d.states.length).le
 exact (look_at d hd d.states.length).near j s x v (by omega) hs hx hv
theorem wayOf_at (d:Dea) {k:Nat} {s:Int} {v:List Int} (hs:(disc d).order[k]?=some s) (hv:(disc d).ways[k]?=some v):wayOf d s=some v:=by
 have hb:=disc_ok d
 have hkl:k<(disc d).order.length:=(List.getElem?_eq_some_iff.1 hs).1
 have hf:(disc d).order.findIdx? (· == s)=some k:=by
  rw [List.findIdx?_eq_some_iff_getElem]
  have hks:(disc d).order[k]=s:=(List.getElem?_eq_some_iff.1 hs).2
  refine ⟨hkl,by simpa using hks,fun j hj=>?_⟩
  have hne:=List.nodup_iff_pairwise_ne.1 hb.nod
  rw [List.pairwise_iff_getElem] at hne
  have:=hne j k (by omega) hkl hj
  rw [hks] at this
  simpa using this
 unfold wayOf
 rw [hf]; exact hv
theorem wayOf_inv {d:Dea} {s:Int} {v:List Int} (h:wayOf d s=some v):∃k:Nat,(disc d).order[k]?=some s∧(disc d).ways[k]?=some v:=by
 unfold wayOf at h
 split at h
 ·rename_i i hi
  obtain ⟨h1,h2,-⟩:=List.findIdx?_eq_some_iff_getElem.1 hi
  exact ⟨i,by rw [List.getElem?_eq_getElem h1]; simpa using h2,h⟩
 ·cases h
theorem wayOf_none {d:Dea} {s:Int} (h:wayOf d s=none):s ∉ (disc d).order:=by
 intro hin
 obtain ⟨k,hk⟩:=List.getElem?_of_mem hin
 have hb:=disc_ok d
 have hkl:k<(disc d).ways.length:=by rw [hb.len]; exact (List.getElem?_eq_some_iff.1 hk).1
 rw [wayOf_at d hk (List.getElem?_eq_getElem hkl)] at h
 cases h
theorem way_len {d:Dea} {s:Int} {v:List Int} (h:wayOf d s=some v):v.length≤d.states.length:=by
 obtain ⟨k,-,h2⟩:=wayOf_inv h
 have h3:=(disc_ok d).way v (List.mem_of_getElem? h2)
 have h4:=(disc_ok d).le
 omega
theorem way_near {d:Dea} (hd:d.states ≠ []) {s:Int} {x:Sta} {v:List Int} (h:wayOf d s=some v) (hx:d.states[s.toNat]?=some x) {t:Stp} (ht:t∈stepsOf d x):∃u,wayOf d t.next=some u∧u.length≤v.length+1:=by
 obtain ⟨k,h1,h2⟩:=wayOf_inv h
 obtain ⟨j,u,h3,h4,h5⟩:=look_disc d hd h1 hx h2 t ht
 exact ⟨u,wayOf_at d h3 h4,h5⟩
end Go.Proofs.Ytfcfbfkjdenpdaa
namespace Go.Proofs.Ytfcfbfkjdenpdaa
open Go.TM
set_option maxRecDepth 100000 in
set_option maxHeartbeats 4000000 in
theorem sreach_spec (d:Dea) (hd:d.states ≠ []) (hs:Small d) (s:Int):PSpec Try.prog 18 [eDea d,I s] (eWay (wayOf d s)):=by
 have hw:=wok_disc d hd
 refine pspec_of tab_ok mixed (calls_snd _) (range_snd _) Try.func18 rfl (by kernel_rfl) rfl ?_
 refine .inr ⟨[],[.agg (dvs (dcells d))],[],10,_,_,explore_spec d hd hs,rfl,rfl,⟨⟨rf,rf,rf,tv⟩,tv⟩,tv,?_⟩
 refine ⟨keyT3,I s,rfl,rfl,?_⟩
 cases hway:wayOf d s with
 | none =>
  have hni:s ∉ (pD d).from_.map (·.1):=by
   have:=wayOf_none hway
   rw [←hw.keys] at this
   exact this
  refine ⟨I 0,false,fun _=>?_,fun _=>rfl,rfl,fun _=>?_,(fun h=>by cases h)⟩
  ·rw [mget_int (fun x=>I x),lookI_none hni]; rfl
  exact ⟨rf,rf,tv⟩
 | some v =>
  obtain ⟨k,h1,h2⟩:=wayOf_inv hway
  have htw:=hw.tw k s v h1 h2
  have hin:s∈(pD d).from_.map (·.1):=by
   have h3:=List.mem_of_getElem? h1
   rw [←hw.keys] at h3
   exact h3
  obtain ⟨p,hp⟩:=lookI_some hin
  have hl:=way_len hway
  have hsm:=hs.states
  refine ⟨I p,true,fun _=>?_,(fun h=>by cases h),rfl,(fun h=>by cases h),fun _=>?_⟩
  ·rw [mget_int (fun x=>I x),hp]; rfl
  refine .inr ⟨[2,3,4,10],[.ptr 2 0,.dv (I s)],tK d (pD d) (keysF (pD d)),0,_,_,to_spec d (pD d) (keysF (pD d)) s v htw (by omega),?_⟩
  exact ⟨by kernel_rfl,by kernel_rfl,⟨rfl,rf,tv⟩,⟨⟨rfl,rfl⟩,⟨rfl,rfl⟩,⟨rf,rf,rf,rfl,rfl,rfl,tv⟩,⟨rfl,rfl⟩,tv⟩,rf,rf,tv⟩
end Go.Proofs.Ytfcfbfkjdenpdaa
