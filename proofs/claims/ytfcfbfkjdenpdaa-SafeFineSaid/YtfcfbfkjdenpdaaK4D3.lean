import Derived.Test.YtfcfbfkjdenpdaaK4D2
set_option linter.unusedVariables false
set_option linter.unusedSimpArgs false
set_option linter.unusedSectionVars false
namespace Go.Proofs.Ytfcfbfkjdenpdaa
open Go.TM
def procP (d:Dea) (i:Nat) (b:PB):PB:=match (keysF b)[i]? with
 | some s=>match d.states[s.toNat]? with
  | some x=>(stepsOf d x).foldl (addP s) b
  | none=>b
 | none=>b
def bfsP (d:Dea):Nat→PB
 | 0=>⟨[(0,-1)],[]⟩
 | i+1=>procP d i (bfsP d i)
def pD (d:Dea):PB:=bfsP d d.states.length
theorem addP_keys (cur:Int) (b:PB) (w:Bfs) (way:List Int) (h:keysF b=w.order) (s:Stp):keysF (addP cur b s)=(addStep way w s).order:=by
 unfold addP addStep
 rw [h]
 split
 ·exact h
 ·simp only [keysF,List.map_append,List.map_cons,List.map_nil]
  rw [←h]; rfl
theorem foldP_keys (cur:Int) (way:List Int):∀(l:List Stp) (b:PB) (w:Bfs),keysF b=w.order→keysF (l.foldl (addP cur) b)=(l.foldl (addStep way) w).order
 | [],_,_,h=>h
 | s::l,b,w,h=>foldP_keys cur way l _ _ (addP_keys cur b w way h s)
theorem bfsP_keys (d:Dea) (hd:d.states ≠ []):∀i,keysF (bfsP d i)=(bfsAt d i).order
 | 0=>rfl
 | i+1=>by
  have ih:=bfsP_keys d hd i
  have hb:=bfsAt_ok d hd i
  show keysF (procP d i (bfsP d i))=(proc d i (bfsAt d i)).order
  unfold procP proc
  rw [ih]
  cases ho:(bfsAt d i).order[i]? with
  | none=>exact ih
  | some s =>
   have hl:i<(bfsAt d i).order.length:=(List.getElem?_eq_some_iff.1 ho).1
   have hw:i<(bfsAt d i).ways.length:=by rw [hb.len]; exact hl
   rw [List.getElem?_eq_getElem hw]
   simp only
   cases hx:d.states[s.toNat]? with
   | none=>exact ih
   | some x=>exact foldP_keys s _ _ _ _ ih
theorem bfsP_stop (d:Dea) {i:Nat} (h:(keysF (bfsP d i)).length≤i):∀j,bfsP d (i+j)=bfsP d i
 | 0=>rfl
 | j+1=>by
  have ih:=bfsP_stop d h j
  show procP d (i+j) (bfsP d (i+j))=bfsP d i
  rw [ih]
  unfold procP
  rw [List.getElem?_eq_none (by omega)]
theorem addQ_fold (cur:Int):∀(l:List Stp) (b:PB) (qu:List Int) (t:Bool) (j:Nat),j≤(keysF b).length→qu=(keysF b).drop j→(l.foldl (addQ cur) ⟨b,qu,t⟩).b=l.foldl (addP cur) b∧(l.foldl (addQ cur) ⟨b,qu,t⟩).qu=(keysF (l.foldl (addP cur) b)).drop j∧j≤(keysF (l.foldl (addP cur) b)).length
 | [],b,qu,t,j,hj,hq=>⟨rfl,hq,hj⟩
 | s::l,b,qu,t,j,hj,hq=>by
  simp only [List.foldl_cons]
  refine addQ_fold cur l (addP cur b s) (qAdd b qu s) (t || decide (s.next ∉ keysF b)) j ?_ ?_
  ·unfold addP
   split
   ·exact hj
   ·simp [keysF] at hj ⊢; omega
  ·unfold addP qAdd
   split
   ·exact hq
   ·simp only [keysF,List.map_append,List.map_cons,List.map_nil]
    rw [List.drop_append_of_le_length (by simpa [keysF] using hj),hq]; rfl
theorem foldP_ok (cur:Int):∀(l:List Stp) (b:PB),PQok ⟨b,[],false⟩→PQok ⟨l.foldl (addP cur) b,[],false⟩
 | [],_,h=>h
 | s::l,b,h=>by
  have h1:=h.add cur s
  exact foldP_ok cur l (addP cur b s) ⟨h1.st,h1.ne⟩
theorem bfsP_ok (d:Dea):∀i,PQok ⟨bfsP d i,[],false⟩
 | 0=>⟨rfl,by simp [keysF,bfsP]⟩
 | i+1=>by
  have ih:=bfsP_ok d i
  show PQok ⟨procP d i (bfsP d i),[],false⟩
  unfold procP
  split
  ·split
   ·exact foldP_ok _ _ _ ih
   ·exact ih
  ·exact ih
def sOkS:List AV→List AV→Bool
 | [],[]=>true
 | .any::r,_::l=>sOkS r l
 | .ptr i o::r,.ptr j p::l=>Nat.beq i j && Nat.beq o p && sOkS r l
 | _,_=>false
theorem subWs_sOk {m:Nat} {κ κ':Nat→Box}:∀{r l:List AV},sOkS r l=true→subWs m κ κ' r l
 | [],[],_=>trivial
 | .any::r,_::l,h=>⟨tv,subWs_sOk (r:=r) (l:=l) h⟩
 | .ptr i o::r,.ptr j p::l,h=>by
  simp only [sOkS,Bool.and_eq_true] at h
  have h1:=Nat.eq_of_beq_eq_true h.1.1
  have h2:=Nat.eq_of_beq_eq_true h.1.2
  subst h1; subst h2
  exact ⟨rfl,subWs_sOk h.2⟩
end Go.Proofs.Ytfcfbfkjdenpdaa
namespace Go.Proofs.Ytfcfbfkjdenpdaa
open Go.TM
theorem foldP_pre (cur:Int):∀(l:List Stp) (b:PB),∃e,keysF (l.foldl (addP cur) b)=keysF b++e
 | [],b=>⟨[],by simp⟩
 | s::l,b=>by
  obtain ⟨e,he⟩:=foldP_pre cur l (addP cur b s)
  rw [List.foldl_cons,he]
  unfold addP
  split
  ·exact ⟨e,rfl⟩
  ·exact ⟨s.next::e,by simp [keysF]⟩
def eK (rc:RC) (d:Dea):Boxes:=[(0,.rcd rc .ready ((List.replicate 24 .any).set 3 (.ptr 4 0))),(1,.cells (wC d (.own 2 0 0 []) (.own 3 0 0 []) (.dv .nils))),(2,.tree 0 0 (eFrom [])),(3,.tree 0 0 (eStps [])),(4,.cells [.ptr 1 0]),(5,.cells [.ptr 1 0])]
def fK (rc:RC) (d:Dea) (b:PB) (o:List Int):Boxes:=[(0,.rcd rc .ready ((List.replicate 24 .any).set 3 (.ptr 4 0))),(1,.cells (wC d (.own 2 0 0 []) (.own 3 0 0 []) (.own 8 0 0 []))),(2,.tree 0 0 (eFrom b.from_)),(3,.tree 0 0 (eStps b.steps)),(4,.cells [.ptr 1 0]),(5,.cells [.ptr 1 0]),(8,.tree 0 0 (.osl 1 (o.map I)))]
def iK (rc:RC) (d:Dea) (b:PB) (o qu:List Int):Boxes:=fK rc d b o++[(6,.tree 0 0 (.osl 1 (qu.map I))),(7,.cells [.own 6 0 0 []])]
set_option maxRecDepth 100000 in
set_option maxHeartbeats 4000000 in
theorem disc1_spec (rc:RC) (d:Dea) (hd:d.states ≠ []) (hs:Small d)
  (hX:∀(f:List (Int × Int)) (s:List (Int × Stp)) (o:List Int) (x:Int),o.length≤1000000→YSpecR Try.prog [.dv (I x)] 6 (xK rc d f s o 0) 0 fun r k=>r=[.dv (.bool true)]∧k=xK rc d f s (o++[x]) 1) :
  CSpec Try.prog 91 [.yld 0,.ptr 5 0] 6 (eK rc d) 3 [] (fK rc d (pD d) (keysF (pD d))):=by
 refine cspec_of tab_ok mixed (calls_snd _) (range_snd _) Try.func91 rfl rfl (by kernel_rfl) ?_
 refine ⟨fun h=>?_,fun h=>?_⟩
 ·exfalso
  have h:(((d.states.map eSta).length:Int) == 0)=true:=h
  simp at h
  exact hd h
 clear h
 refine ⟨keyT3,I 0,rfl,rfl,I (-1),⟨rf,tv⟩,rfl,false,fun _=>⟨fun x hx=>(by cases hx),closed_int (-1)⟩,?_⟩
 refine .inr (.inl ⟨[I 0],rfl,⟨rf,tv⟩,fun y hy=>(by rcases List.mem_singleton.1 hy with rfl; rfl),?_⟩)
 refine ⟨Nat,fun i=>⟨9,[(0,.yld 0),(1,.ptr 5 0),(3,.ptr 7 0)],iK rc d (bfsP d i) ((keysF (bfsP d i)).take i) ((keysF (bfsP d i)).drop i)⟩,fun i=>i≤(keysF (bfsP d i)).length,fun i=>d.states.length - i,0,fun _=>rfl,?_,by simp [keysF,bfsP],?_⟩
 ·exact ⟨⟨rfl,rfl,rfl,tv⟩,⟨⟨rfl,rfl,subWs_ok rfl⟩,⟨rf,rf,rf,rfl,rfl,⟨rfl,rfl,rfl,rfl,1,rfl⟩,tv⟩,⟨rfl,rfl⟩,⟨rfl,rfl⟩,⟨rfl,tv⟩,⟨rfl,tv⟩,⟨rfl,rfl,1,rfl⟩,⟨rfl,rfl⟩,⟨rfl,tv⟩,tv⟩,rfl,rfl⟩
 ·intro i hi
  have hkeys:=bfsP_keys d hd i
  have hb:=bfsAt_ok d hd i
  have hble:=hb.le
  have hsm:=hs.states
  have hpok:=bfsP_ok d i
  rw [←hkeys] at hble
  refine ⟨fun h=>?_,fun h=>?_⟩
  ·have hlt:i<(keysF (bfsP d i)).length:=by
    have h:(0:Int)<(((keysF (bfsP d i)).drop i).map I).length:=of_decide_eq_true h
    simp at h; omega
   clear h
   generalize hc':(keysF (bfsP d i))[i]=cur at *
   have hci:(keysF (bfsP d i))[i]?=some cur:=by rw [List.getElem?_eq_getElem hlt,hc']
   have hdr:(keysF (bfsP d i)).drop i=cur::(keysF (bfsP d i)).drop (i+1):=by rw [List.drop_eq_getElem_cons hlt,hc']
   have hrg:=hb.rng cur (by rw [←hkeys]; exact List.mem_of_getElem? hci)
   have hcl:cur.toNat<d.states.length:=by omega
   obtain ⟨x,hx⟩:∃x,d.states[cur.toNat]?=some x:=⟨_,List.getElem?_eq_getElem hcl⟩
   have hol:=hs.opts x (List.mem_of_getElem? hx)
   have hnext:bfsP d (i+1)=(stepsOf d x).foldl (addP cur) (bfsP d i):=by
    show procP d i (bfsP d i)=_
    unfold procP
    rw [hci]; simp only [hx]
   refine ⟨fun _=>⟨by decide,by rw [hdr]; simp⟩,I cur,fun _=>by rw [hdr]; rfl,?_⟩
   refine ⟨⟨by decide,by rw [hdr]; simp; omega,by simp⟩,?_⟩
   have hxs:=hX (bfsP d i).from_ (bfsP d i).steps ((keysF (bfsP d i)).take i) cur (by simp; omega)
   refine .inl ⟨[0,1,2,3,8,4],[.dv (I cur)],xK rc d (bfsP d i).from_ (bfsP d i).steps ((keysF (bfsP d i)).take i) 0,0,_,_,hxs,by kernel_rfl,by kernel_rfl,⟨rf,tv⟩,⟨⟨rfl,rfl,subWs_ok rfl⟩,⟨rf,rf,rf,rfl,rfl,rfl,tv⟩,⟨rfl,rfl⟩,⟨rfl,rfl⟩,⟨rfl,rfl⟩,⟨rfl,tv⟩,tv⟩,(fun h=>by cases h),fun _=>?_⟩
   refine .inr ⟨[],[.agg (dvs (dcells d)),.dv (I cur)],[],2,_,_,sfSteps_spec d cur,rfl,rfl,⟨⟨rf,rf,rf,tv⟩,rf,tv⟩,tv,by kernel_rfl,rcF Try.f91,by kernel_rfl,?_⟩
   have hz:PQok ⟨bfsP d i,(keysF (bfsP d i)).drop (i+1),false⟩:=⟨hpok.st,hpok.ne⟩
   have h82:=sfSteps1_spec (rcF Try.f91) d x cur hrg.1 hx hol ⟨bfsP d i,(keysF (bfsP d i)).drop (i+1),false⟩ hz rfl (by simp; omega) ((keysF (bfsP d i)).take i++[cur]) (fun b qu s h1 h2=>ybody_spec d b _ qu cur s h1 h2)
   obtain ⟨hf1,hf2,hf3⟩:=addQ_fold cur (stepsOf d x) (bfsP d i) ((keysF (bfsP d i)).drop (i+1)) false (i+1) (by omega) rfl
   generalize (stepsOf d x).foldl (addQ cur) ⟨bfsP d i,(keysF (bfsP d i)).drop (i+1),false⟩=z at h82 hf1 hf2
   obtain ⟨b2,qu2,t2⟩:=z
   dsimp only at hf1 hf2
   subst hf1; subst hf2
   rw [←hnext] at h82 hf3
   refine ⟨[12,5,1,2,3,8,7,6,9,10,11],[.yld 0,.ptr 9 0,.ptr 10 0],sK (rcF Try.f91) d ⟨bfsP d i,(keysF (bfsP d i)).drop (i+1),false⟩ ((keysF (bfsP d i)).take i++[cur]) cur,0,_,h82,by kernel_rfl,⟨rfl,rfl,rfl,tv⟩,?_,?_⟩
   ·refine ⟨⟨rfl,rfl,subWs_sOk (by kernel_rfl)⟩,⟨rfl,tv⟩,⟨rf,rf,rf,rfl,rfl,rfl,tv⟩,⟨rfl,rfl⟩,⟨rfl,rfl⟩,⟨rfl,rfl⟩,⟨rfl,tv⟩,⟨rfl,?_⟩,⟨rf,tv⟩,⟨rf,rf,rf,tv⟩,⟨rf,tv⟩,tv⟩
    show DV.osl 1 (((((keysF (bfsP d i)).drop i).map I).take ((((keysF (bfsP d i)).drop i).map I).length:Int).toNat).drop 1)=_
    rw [hdr,List.take_of_length_le (by simp)]
    rfl
   ·have hpre:(keysF (bfsP d (i+1))).take (i+1)=(keysF (bfsP d i)).take i++[cur]:=by
     obtain ⟨e,he⟩:=foldP_pre cur (stepsOf d x) (bfsP d i)
     rw [←hnext] at he
     rw [he,List.take_append_of_le_length (by omega),List.take_add_one,hci]; rfl
    rintro rs K2 ⟨rfl,rfl⟩
    refine ⟨by cases t2 <;> kernel_rfl,?_⟩
    conv=>whnf
    refine ⟨i+1,⟨⟨?_,?_,?_,tv⟩,⟨⟨?_,?_,?_⟩,?_,⟨?_,?_⟩,⟨?_,?_⟩,⟨?_,tv⟩,⟨?_,tv⟩,⟨?_,?_⟩,⟨?_,?_⟩,⟨?_,tv⟩,tv⟩,?_,?_⟩,hf3,by dsimp only; omega⟩
    ·exact rfl
    ·exact rfl
    ·exact rfl
    ·exact rfl
    ·exact rfl
    ·exact subWs_ok rfl
    ·exact ⟨rf,rf,rf,rfl,rfl,rfl,tv⟩
    ·exact rfl
    ·exact rfl
    ·exact rfl
    ·exact rfl
    ·exact rfl
    ·exact rfl
    ·exact rfl
    ·rw [hpre]
    ·cases t2 <;> exact rfl
    ·exact rfl
    ·cases t2 <;> exact rfl
    ·cases t2 <;> kernel_rfl
    ·cases t2 <;> kernel_rfl
  ·have hle:(keysF (bfsP d i)).length≤i:=by
    have h:¬ (0:Int)<(((keysF (bfsP d i)).drop i).map I).length:=of_decide_eq_false h
    simp at h; omega
   clear h
   have hfin:pD d=bfsP d i:=by
    have h3:=bfsP_stop d hle (d.states.length - i)
    rw [show i+(d.states.length - i)=d.states.length by omega] at h3
    exact h3
   rw [hfin]
   have htk:(keysF (bfsP d i)).take i=keysF (bfsP d i):=List.take_of_length_le hle
   refine ⟨_,_,⟨rfl,rfl⟩,by kernel_rfl,tv,⟨rfl,rfl,subWs_ok rfl⟩,⟨rf,rf,rf,rfl,rfl,rfl,tv⟩,⟨rfl,rfl⟩,⟨rfl,rfl⟩,⟨rfl,tv⟩,⟨rfl,tv⟩,⟨rfl,by rw [htk]⟩,tv⟩
end Go.Proofs.Ytfcfbfkjdenpdaa
