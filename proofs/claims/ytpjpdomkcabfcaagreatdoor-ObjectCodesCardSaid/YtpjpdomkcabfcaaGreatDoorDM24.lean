import Derived.Test.YtpjpdomkcabfcaaGreatDoorDM23
import Derived.Test.YtpjpdomkcabfcaaGreatDoorDM19
import Derived.Test.YtpjpdomkcabfcaaGreatDoorCards
import Derived.Test.YtpjpdomkcabfcaaGreatDoorTie
import Derived.WalkKit
import Derived.ProofKit
import Derived.OpenShut
import Derived.JoinedCond
import Derived.Carry
import Derived.ChangeSlices
import Derived.Deep.DeepHandedRow
import Derived.Lib.LaidTab
set_option linter.unusedVariables false
set_option linter.unusedSimpArgs false
set_option linter.unusedSectionVars false
namespace Go.Proofs.YtpjpdomkcabfcaaGreatDoor
open Go.TM
variable [KObj]
set_option maxRecDepth 100000
def dcK (its:List Item) (m:OM) (st:RSt') (last:Ky):Boxes:=[(3,.cells (agC its 2)),(2,.tree 0 0 (.omap pairK (m.map eEnt))),(5,.cells [.dv (.sl 1 (st.1.map Y)),.dv (I st.2)]),(6,.cells (dvs [I last.1,I last.2]))]
structure DS where
 j:Nat
 m:OM
 last:Ky
 st:RSt'
def dcInv1 (its:List Item) (n:Int):DS→AState
 | ⟨j,m,last,st⟩=>⟨7,[(6,.ptr 3 0),(8,.ptr 5 0),(10,.ptr 6 0),(37,.dv (I n)),(38,.dv (I j))],dcK its m st last⟩
def padL (l:List Int):List DV:=[I (l.getD 0 0),I (l.getD 1 0),I (l.getD 2 0),I (l.getD 3 0),I (l.getD 4 0),I (l.getD 5 0)]
def dcInv2 (its:List Item) (n:Int) (j:Nat) (m:OM) (last:Ky) (st:RSt') (q:Nat):AState :=
 ⟨8,[(6,.ptr 3 0),(8,.ptr 5 0),(10,.ptr 6 0),(11,.ptr 7 0),(37,.dv (I n)),(38,.dv (I j)),(40,.dv (I q))],dcK its m (rdL q st).2 last++[(7,.cells (dvs (padL (rdL q st).1)))]⟩
def finR:Option (OM × RSt')→Option OM
 | none=>none
 | some (m,st)=>if st.2=0∧st.1=[] then some m else none
theorem rdL_snoc:∀(q:Nat) (st:RSt'),rdL (q+1) st=((rdL q st).1++[(rdS (rdL q st).2).1],(rdS (rdL q st).2).2)
 | 0,st=>by simp [rdL]
 | q+1,st=>by
  have ih:=rdL_snoc q (rdS st).2
  rw [rdL,ih]
  simp [rdL]
theorem rdL_getD (q:Nat) (st:RSt') (i:Nat):(rdL (q+1) st).1.getD i 0=if i=q then (rdS (rdL q st).2).1 else (rdL q st).1.getD i 0:=by
 have hl:=rdL_len q st
 rw [rdL_snoc]
 simp only [List.getD_eq_getElem?_getD]
 by_cases h:i=q
 ·subst h
  rw [if_pos rfl,List.getElem?_append_right (by omega)]
  simp [hl]
 ·rw [if_neg h]
  rcases Nat.lt_or_ge i q with h1 | h1
  ·rw [List.getElem?_append_left (by omega)]
  ·rw [List.getElem?_eq_none (by simp [hl]; omega),List.getElem?_eq_none (by omega)]
theorem decM_fin {its:List Item} {bs:List Int} (h:¬ ((rdS (bs,0)).1<0 ∨ (bs.length:Int)<(rdS (bs,0)).1)):decM its bs=finR (dL its (rdS (bs,0)).1.toNat [] (-1,0) (rdS (bs,0)).2):=by
 unfold decM
 rw [if_neg h]
 unfold finR
 split <;> rename_i h1 <;> simp [h1]
def decR (its:List Item) (bs:List Int) (rs:List AV) (K:Boxes):Prop:=match decM its bs with
 | some m=>rs=[.ptr 3 0,.dv (I 0)]∧K=[(3,.cells (agC its 2)),(2,.tree 0 0 (.omap pairK (m.map eEnt)))]
 | none=>rs=[.dv .nilp,.dv (I 2)]∧K=[]
theorem decR_no {its:List Item} {bs:List Int} (h:decM its bs=none):decR its bs [.dv .nilp,.dv (I 2)] []:=by unfold decR; rw [h]; exact ⟨rfl,rfl⟩
set_option maxHeartbeats 8000000 in
theorem decode_spec {b w:Int} (hb:0≤b∧b≤2) (hw:1≤w∧w≤40) (bs:List Int) (hby:Byt bs) (hl:bs.length≤100000) :
  CSpecR Tryz.prog 28 [ofD (catD (I b) (I w)),.dv (.sl 1 (bs.map Y))] 0 [] 7 (decR (itemsL b w) bs):=by
 refine cspecR_of tab_ok mixed (calls_snd _) (range_snd _) Tryz.func28 rfl rfl (by kernel_rfl) ?_
 refine .inr ⟨[],[ofD (catD (I b) (I w))],[],3,_,_,new_spec hb hw,by kernel_rfl,by kernel_rfl,⟨⟨rf,rf,rf,rf,tv⟩,tv⟩,tv,?_⟩
 refine ⟨fun h=>(by cases h),fun _=>?_⟩
 refine .inr ⟨[],[.dv (.sl 1 (bs.map Y))],[],2,_,_,read_spec bs (by omega),by kernel_rfl,by kernel_rfl,⟨rf,tv⟩,tv,?_⟩
 have hr0:=rdint_spec bs hby 0
 have hdm:=decM_fin (its:=itemsL b w) (bs:=bs)
 have hby1:Byt (rdS (bs,0)).2.1:=(rdV_lt hby 0).2
 refine .inr ⟨[5],[.ptr 0 0],rdK bs 0,0,_,_,hr0,by kernel_rfl,by kernel_rfl,⟨rfl,tv⟩,⟨⟨rf,rf,tv⟩,tv⟩,?_⟩
 repeat first | refine ⟨id,?_⟩ | refine ⟨fun _=>rfl,?_⟩ | refine ⟨fun _ h=>bw_f h,?_⟩
 refine ⟨fun h=>?_,fun h=>?_⟩
 ·have hbad:(rdS (bs,0)).1<0 ∨ (bs.length:Int)<(rdS (bs,0)).1:=by
   have h':(bif decide ((rdS (bs,0)).1<0) then true else decide (((bs.map Y).length:Int)<(rdS (bs,0)).1))=true:=h
   by_cases h1:(rdS (bs,0)).1<0
   ·exact .inl h1
   ·simp only [h1,decide_false,cond_false,List.length_map] at h'
    exact .inr (of_decide_eq_true h')
  have hno:decM (itemsL b w) bs=none:=by unfold decM; rw [if_pos hbad]
  exact ⟨_,_,decR_no hno,by kernel_rfl,⟨rf,rf,tv⟩,tv⟩
 have hn:¬ ((rdS (bs,0)).1<0 ∨ (bs.length:Int)<(rdS (bs,0)).1):=by
  have h':(bif decide ((rdS (bs,0)).1<0) then true else decide (((bs.map Y).length:Int)<(rdS (bs,0)).1))=false:=h
  rintro (h1 | h1)
  ·simp only [h1,decide_true,cond_true] at h'; cases h'
  ·by_cases h2:(rdS (bs,0)).1<0
   ·simp only [h2,decide_true,cond_true] at h'; cases h'
   ·simp only [h2,decide_false,cond_false,List.length_map,h1,decide_true] at h'; cases h'
 have hdm:=hdm hn
 clear h
 have hn0:0≤(rdS (bs,0)).1:=by omega
 have hn1:(rdS (bs,0)).1≤100000:=by omega
 refine ⟨DS,dcInv1 (itemsL b w) (rdS (bs,0)).1,fun x=>(x.j:Int)≤(rdS (bs,0)).1∧Byt x.st.1∧finR (dL (itemsL b w) ((rdS (bs,0)).1.toNat - x.j) x.m x.last x.st)=decM (itemsL b w) bs,fun x=>(rdS (bs,0)).1.toNat - x.j,⟨0,[],(-1,0),(rdS (bs,0)).2⟩,fun ⟨_,_,_,_⟩=>rfl,?_,⟨by show ((0:Nat):Int)≤_; omega,hby1,hdm.symm⟩,?_⟩
 ·exact ⟨⟨rfl,rfl,rfl,rf,rf,tv⟩,⟨⟨rf,rf,rf,rf,rfl,tv⟩,⟨rfl,rfl⟩,⟨rf,rf,tv⟩,⟨rf,rf,tv⟩,tv⟩,rfl,rfl⟩
 rintro ⟨j,m,last,st⟩ ⟨hj,hbst,hfin⟩
 dsimp only at hj hbst hfin
 generalize hN:(rdS (bs,0)).1=N at hj hfin hn0 hn1
 refine ⟨fun h=>?_,fun h=>?_⟩
 ·have hjN:(j:Int)<N:=of_decide_eq_true h
  clear h
  have hrem:N.toNat - j=(N.toNat - (j+1))+1:=by omega
  rw [hrem] at hfin
  refine ⟨Nat,dcInv2 (itemsL b w) N j m last st,fun q=>q≤6,fun q=>6 - q,0,fun _=>rfl,⟨⟨rfl,rfl,rfl,rfl,rf,rf,rf,tv⟩,⟨⟨rf,rf,rf,rf,rfl,tv⟩,⟨rfl,rfl⟩,⟨rf,rf,tv⟩,⟨rf,rf,tv⟩,⟨rf,rf,rf,rf,rf,rf,tv⟩,tv⟩,rfl,rfl⟩,Nat.zero_le _,?_⟩
  intro q hq
  refine ⟨fun h=>?_,fun h=>?_⟩
  ·have hq6:(q:Int)<6:=of_decide_eq_true h
   clear h
   have hbq:=rdL_byt q st hbst
   have hri:=rdint_spec (rdL q st).2.1 hbq (rdL q st).2.2
   have hgd:=rdL_getD q st
   have hst2:(rdL (q+1) st).2=(rdS (rdL q st).2).2:=by rw [rdL_snoc]
   refine .inr ⟨[5],[.ptr 0 0],rdK (rdL q st).2.1 (rdL q st).2.2,0,_,_,hri,by kernel_rfl,by kernel_rfl,⟨rfl,tv⟩,⟨⟨rf,rf,tv⟩,tv⟩,?_⟩
   have hq':q=0 ∨ q=1 ∨ q=2 ∨ q=3 ∨ q=4 ∨ q=5:=by omega
   have hg0:=hgd 0; have hg1:=hgd 1; have hg2:=hgd 2; have hg3:=hgd 3; have hg4:=hgd 4; have hg5:=hgd 5
   rcases hq' with rfl | rfl | rfl | rfl | rfl | rfl
   all_goals
    refine ⟨fun _=>⟨by decide,by decide⟩,fun _=>⟨by decide,by decide⟩,?_⟩
    refine ⟨_,⟨⟨rfl,rfl,rfl,rfl,rf,rf,rf,tv⟩,⟨⟨rf,rf,rf,rf,rfl,tv⟩,⟨rfl,rfl⟩,⟨rf,rf,tv⟩,⟨rf,rf,tv⟩,⟨rf,rf,rf,rf,rf,rf,tv⟩,tv⟩,rfl,rfl⟩,by decide,by decide⟩
  ·have hq6:q=6:=by
    have:¬ (q:Int)<6:=of_decide_eq_false h
    have hq:q≤6:=hq
    omega
   subst hq6
   clear h
   refine ⟨fun _=>by decide,fun _=>by decide,fun _=>by decide,fun _=>by decide,fun _=>by decide,fun _=>by decide,?_⟩
   refine ⟨id,fun _ h=>bw_f h,id,id,.inl ⟨_,fun _=>(cmpK_spec last (idOf (rdL 6 st).1)).ok,?_⟩⟩
   refine ⟨id,fun _ h=>bw_f h,id,id,id,?_⟩
   have hput:=put_spec (itemsL b w) m (idOf (rdL 6 st).1) (obOf (rdL 6 st).1)
   cases hB:(bif (bif decide ((rdL 6 st).1.getD 5 0<0) then true else decide (1<(rdL 6 st).1.getD 5 0)) then true else decide (0≤cmpK last (idOf (rdL 6 st).1)))
   ·refine .inr ⟨[3,2],[.ptr 0 0,ofD (eKy (idOf (rdL 6 st).1)),ofD (eOb (obOf (rdL 6 st).1))],stK (itemsL b w) m,0,_,_,hput,by kernel_rfl,by kernel_rfl,⟨rfl,⟨rf,rf,tv⟩,⟨rf,rf,rf,rf,tv⟩,tv⟩,⟨⟨rf,rf,rf,rf,rfl,tv⟩,⟨rfl,rfl⟩,tv⟩,?_⟩
    refine ⟨rfl,id,fun _ h=>bw_f h,?_⟩
    have hcs:¬ (rdL 6 st).1.getD 5 0<0∧¬ 1<(rdL 6 st).1.getD 5 0∧¬ 0≤cmpK last (idOf (rdL 6 st).1):=by
     by_cases h1:(rdL 6 st).1.getD 5 0<0 <;> by_cases h2:1<(rdL 6 st).1.getD 5 0 <;> by_cases h3:0≤cmpK last (idOf (rdL 6 st).1) <;> simp only [h1,h2,h3,decide_true,decide_false,cond_true,cond_false] at hB <;> first | (cases hB; done) | exact ⟨h1,h2,h3⟩
    simp only [dL] at hfin
    refine ⟨fun h=>?_,fun h=>?_⟩
    ·have h':¬ putE (itemsL b w) m (idOf (rdL 6 st).1) (obOf (rdL 6 st).1)=0:=by
      have h':(putE (itemsL b w) m (idOf (rdL 6 st).1) (obOf (rdL 6 st).1) != 0)=true:=h
      simpa using h'
     have hno:decM (itemsL b w) bs=none:=by
      rw [←hfin,if_pos (.inr (.inr (.inr h')))]
      rfl
     exact ⟨_,_,decR_no hno,by kernel_rfl,⟨rf,rf,tv⟩,tv⟩
    ·have h':putE (itemsL b w) m (idOf (rdL 6 st).1) (obOf (rdL 6 st).1)=0:=by
      have h':(putE (itemsL b w) m (idOf (rdL 6 st).1) (obOf (rdL 6 st).1) != 0)=false:=h
      simpa using h'
     have hnb:¬ badL (itemsL b w) m last (rdL 6 st).1:=by
      rintro (h1 | h1 | h1 | h1)
      ·exact hcs.1 h1
      ·exact hcs.2.1 h1
      ·exact hcs.2.2 h1
      ·exact h1 h'
     rw [if_neg hnb] at hfin
     have hpm:putM (itemsL b w) m (idOf (rdL 6 st).1) (obOf (rdL 6 st).1)=oput m (idOf (rdL 6 st).1) (obOf (rdL 6 st).1):=by unfold putM; rw [if_pos h']
     rw [hpm]
     refine ⟨fun _=>⟨by omega,by show _+1≤_; omega⟩,⟨j+1,oput m (idOf (rdL 6 st).1) (obOf (rdL 6 st).1),idOf (rdL 6 st).1,(rdL 6 st).2⟩,⟨⟨rfl,rfl,rfl,rf,le_int (by simp),tv⟩,?_,rfl,rfl⟩,⟨by show ((j+1:Nat):Int)≤N; omega,rdL_byt 6 st hbst,hfin⟩,by show N.toNat - (j+1)<N.toNat - j; omega⟩
     exact ⟨⟨rf,rf,rf,rf,rfl,tv⟩,⟨rfl,rfl⟩,⟨rf,rf,tv⟩,⟨rf,rf,tv⟩,tv⟩
   ·refine .inl ⟨rfl,[I 0],fun h=>(by cases h),rfl,fun h=>(by cases h),?_⟩
    refine ⟨fun _ h=>(by cases h),?_⟩
    refine ⟨fun _=>?_,fun h=>(by cases h)⟩
    have hbad:badL (itemsL b w) m last (rdL 6 st).1:=by
     by_cases h1:(rdL 6 st).1.getD 5 0<0
     ·exact .inl h1
     by_cases h2:1<(rdL 6 st).1.getD 5 0
     ·exact .inr (.inl h2)
     by_cases h3:0≤cmpK last (idOf (rdL 6 st).1)
     ·exact .inr (.inr (.inl h3))
     ·simp only [h1,h2,h3,decide_true,decide_false,cond_true,cond_false] at hB
      cases hB
    have hno:decM (itemsL b w) bs=none:=by
     simp only [dL] at hfin
     rw [←hfin,if_pos hbad]
     rfl
    exact ⟨_,_,decR_no hno,by kernel_rfl,⟨rf,rf,tv⟩,tv⟩
 ·have hjN:¬ (j:Int)<N:=of_decide_eq_false h
  clear h
  have hz:N.toNat - j=0:=by omega
  rw [hz] at hfin
  have hend:=rend_spec st.1 st.2
  refine .inr ⟨[5],[.ptr 0 0],rdK st.1 st.2,0,_,_,hend,by kernel_rfl,by kernel_rfl,⟨rfl,tv⟩,⟨⟨rf,rf,tv⟩,tv⟩,?_⟩
  refine ⟨fun h=>?_,fun h=>?_⟩
  ·have h':((if st.2=0 then (if st.1=[] then (0:Int) else 2) else st.2) != 0)=true:=h
   have hno:decM (itemsL b w) bs=none:=by
    rw [←hfin]
    show (if st.2=0∧st.1=[] then some m else none)=none
    rw [if_neg]
    rintro ⟨h1,h2⟩
    rw [if_pos h1,if_pos h2] at h'
    cases h'
   exact ⟨_,_,decR_no hno,by kernel_rfl,⟨rf,rf,tv⟩,tv⟩
  ·have h':((if st.2=0 then (if st.1=[] then (0:Int) else 2) else st.2) != 0)=false:=h
   have hyes:decM (itemsL b w) bs=some m:=by
    rw [←hfin]
    show (if st.2=0∧st.1=[] then some m else none)=some m
    rw [if_pos]
    by_cases h1:st.2=0
    ·by_cases h2:st.1=[]
     ·exact ⟨h1,h2⟩
     ·rw [if_pos h1,if_neg h2] at h'; cases h'
    ·rw [if_neg h1] at h'
     exact absurd (by simpa using h') h1
   have hR:decR (itemsL b w) bs [.ptr 3 0,.dv (I 0)] [(3,.cells (agC (itemsL b w) 2)),(2,.tree 0 0 (.omap pairK (m.map eEnt)))]:=by unfold decR; rw [hyes]; exact ⟨rfl,rfl⟩
   exact ⟨_,_,hR,by kernel_rfl,⟨rfl,rf,tv⟩,⟨rf,rf,rf,rf,rfl,tv⟩,⟨rfl,rfl⟩,tv⟩
end Go.Proofs.YtpjpdomkcabfcaaGreatDoor
namespace Go.Proofs.YtpjpdomkcabfcaaGreatDoor
open Go.TM
variable [KObj]
set_option maxRecDepth 100000
def fillM (its:List Item) (l:List Int):Nat→OM
 | 0=>[]
 | i+1=>doM its (fillM its l i) (opAt l i)
def fillL (its:List Item) (l:List Int):Nat→OM
 | 0=>[]
 | i+1=>rdoM its (fillL its l i) (opAt l i)
theorem fill_goes {its:List Item} (ht:TyOk its) (l:List Int):∀i,Goes its (fillM its l i) (fillL its l i)
 | 0=>goes_nil its
 | i+1=>(fill_goes ht l i).op ht
def fiInv (its:List Item) (l:List Int) (i:Nat):AState :=
 ⟨6,[(9,.ptr 3 0),(10,.ptr 4 0),(12,.dv (.sl 9 ((opsL l).map eOp))),(13,.dv (I i))],scK its (fillM its l i) (fillL its l i)⟩
set_option maxHeartbeats 4000000 in
theorem filled_spec (bind wear:Int) (l:List Int):∃b w,0≤b∧b≤2∧1≤w∧w≤40∧CSpec Tryz.prog 25 [.dv (I bind),.dv (I wear),.dv (Ints l)] 0 [] 6 [.ptr 3 0,.ptr 4 0,.dv (B true)] (scK (itemsL b w) (fillM (itemsL b w) l (opsL l).length) (fillL (itemsL b w) l (opsL l).length)):=by
 obtain ⟨b,w,hb0,hb1,hw0,hw1,hbo⟩:=both_ok bind wear
 refine ⟨b,w,hb0,hb1,hw0,hw1,?_⟩
 have hty:TyOk (itemsL b w):=itemsL_ok ⟨by omega,hw1⟩
 refine cspec_of tab_ok mixed (calls_snd _) (range_snd _) Tryz.func25 rfl rfl (by kernel_rfl) ?_
 refine .inr ⟨[],[.dv (I bind),.dv (I wear)],[],5,_,_,hbo,by kernel_rfl,by kernel_rfl,⟨rf,rf,tv⟩,tv,?_⟩
 refine ⟨fun h=>(by cases h),fun _=>?_⟩
 refine .inl ⟨_,fun _=>(ops_spec l).ok,?_⟩
 have hK:(opsL l).length≤20:=by unfold opsL; rw [opsN_len]; unfold opsK; omega
 refine ⟨Nat,fiInv (itemsL b w) l,fun i=>i≤(opsL l).length,fun i=>(opsL l).length - i,0,fun _=>rfl,⟨⟨rfl,rfl,rf,rf,tv⟩,⟨⟨rf,rf,rf,rf,rfl,tv⟩,⟨rfl,rfl⟩,⟨rf,rf,rf,rf,⟨rfl,rfl,rfl,rfl,6,rfl⟩,tv⟩,⟨rfl,rfl,6,rfl⟩,tv⟩,rfl,rfl⟩,Nat.zero_le _,?_⟩
 intro i hi
 have hm:=fill_goes hty l i
 refine ⟨fun h=>?_,fun h=>?_⟩
 ·have hlt:i<(opsL l).length:=by simpa using h
  clear h
  have hin:(opsL l)[i]?=some (opsL l)[i]:=List.getElem?_eq_getElem hlt
  have hoa:=opsL_at hin
  have hel:((opsL l).map eOp)[(i:Int).toNat]?=some (eOp (opAt l i)):=by simp [hlt,←hoa]
  have hdo:=do_spec (itemsL b w) (fillM (itemsL b w) l i) (opAt l i) hm.fit.ok (opAt_a l i)
  have hrd:=rdo_spec (itemsL b w) (fillL (itemsL b w) l i) (by have:=hm.len; omega) (opAt l i) hm.okL (opAt_a l i)
  rw [sim_doE hm.same] at hrd
  refine ⟨eOp (opAt l i),fun _=>⟨by omega,hel⟩,?_⟩
  refine .inr ⟨[3,2],[.ptr 0 0,ofD (eOp (opAt l i))],stK (itemsL b w) (fillM (itemsL b w) l i),0,_,_,hdo,by kernel_rfl,by kernel_rfl,⟨rfl,⟨rf,rf,rf,rf,rf,rf,rf,rf,rf,tv⟩,tv⟩,⟨⟨rf,rf,rf,rf,rfl,tv⟩,⟨rfl,rfl⟩,tv⟩,?_⟩
  refine ⟨eOp (opAt l i),fun _=>⟨by omega,hel⟩,?_⟩
  refine .inr ⟨[4,5],[.ptr 0 0,ofD (eOp (opAt l i))],rfK (itemsL b w) (fillL (itemsL b w) l i) 0,0,_,_,hrd,by kernel_rfl,by kernel_rfl,⟨rfl,⟨rf,rf,rf,rf,rf,rf,rf,rf,rf,tv⟩,tv⟩,⟨⟨rf,rf,rf,rf,rfl,tv⟩,⟨rfl,rfl⟩,tv⟩,?_⟩
  refine ⟨by kernel_rfl,fun h=>?_,fun _=>?_⟩
  ·exfalso
   have h':(doE (itemsL b w) (fillM (itemsL b w) l i) (opAt l i) != doE (itemsL b w) (fillM (itemsL b w) l i) (opAt l i))=true:=h
   simp at h'
  exact ⟨fun _=>⟨by omega,by omega⟩,i+1,⟨⟨rfl,rfl,rf,le_int (by simp),tv⟩,⟨⟨rf,rf,rf,rf,rfl,tv⟩,⟨rfl,rfl⟩,⟨rf,rf,rf,rf,rfl,tv⟩,⟨rfl,rfl⟩,tv⟩,rfl,rfl⟩,by show i+1≤(opsL l).length; omega,by show (opsL l).length - (i+1)<(opsL l).length - i; omega⟩
 ·have he0:¬ i<(opsL l).length:=by simpa using h
  have he:i=(opsL l).length:=by omega
  subst he
  exact ⟨_,_,⟨rfl,rfl⟩,by kernel_rfl,⟨rfl,rfl,rf,tv⟩,⟨rf,rf,rf,rf,rfl,tv⟩,⟨rfl,rfl⟩,⟨rf,rf,rf,rf,rfl,tv⟩,⟨rfl,rfl⟩,tv⟩
end Go.Proofs.YtpjpdomkcabfcaaGreatDoor
namespace Go.Proofs.YtpjpdomkcabfcaaGreatDoor
open Go.TM
variable [KObj]
set_option maxRecDepth 100000
theorem fill_to {its:List Item} (ht:TyOk its) (l:List Int):∀i,TO its (fillM its l i)
 | 0=>fun k x h=>by simp [fillM,oget] at h
 | i+1=>to_doM (fill_to ht l i) (fill_goes ht l i).fit.nd _
theorem wear_lt {b w:Int} (hw:1≤w∧w≤40) (i:Nat):((itemsL b w).getD i Item.zero).wear<64:=by
 match i with
 | 0=>show (0:Int)<64; decide
 | 1=>show (0:Int)<64; decide
 | 2=>show (0:Int)<64; decide
 | 3=>show (0:Int)<64; decide
 | 4=>show w<64; omega
 | i+5=>show (0:Int)<64; decide
theorem cells_sl (A:List (List Int)):(A.map fun bs=>DV.sl 1 (bs.map Y)).flatMap DV.cells=A.map fun bs=>DV.sl 1 (bs.map Y):=by
 induction A with
 | nil=>rfl
 | cons a r ih=>rw [List.map_cons,List.flatMap_cons,ih]; rfl
def all4 (raw bs:List Int) (c i:Nat) (y:Int):List (List Int):=[raw.take c,bs.set i y,bs.take (bs.length - 1),bs++[y]]
theorem all4_ok {raw bs:List Int} {c i:Nat} {y:Int} (hr:Byt raw) (hb:Byt bs) (hl:bs.length≤71) (hc:c≤40) (hy:0≤y∧y<256):∀x,x∈all4 raw bs c i y→Byt x∧x.length≤72:=by
 intro x hx
 simp only [all4,List.mem_cons,List.not_mem_nil,or_false] at hx
 rcases hx with rfl | rfl | rfl | rfl
 ·exact ⟨fun v hv=>hr v (List.mem_of_mem_take hv),by rw [List.length_take]; omega⟩
 ·refine ⟨fun v hv=>?_,by rw [List.length_set]; omega⟩
  rcases List.mem_or_eq_of_mem_set hv with hv | rfl
  ·exact hb v hv
  ·exact hy
 ·exact ⟨fun v hv=>hb v (List.mem_of_mem_take hv),by rw [List.length_take]; omega⟩
 ·refine ⟨fun v hv=>?_,by simp; omega⟩
  rcases List.mem_append.1 hv with hv | hv
  ·exact hb v hv
  ·simp at hv; subst hv; exact hy
def cdInv (its:List Item) (L:OM) (A:List (List Int)) (i:Nat):AState :=
 ⟨6,[(14,.ptr 4 0),(20,.dv (.sl 1 (A.map fun bs=>DV.sl 1 (bs.map Y)))),(21,.dv (I i))],[(4,.cells (agC its 5)),(5,.tree 0 0 (.osl 6 (L.map eRo)))]⟩
theorem decR_some {its:List Item} {bs:List Int} {m:OM} (h:decM its bs=some m):decR its bs=fun rs K=>rs=[.ptr 3 0,.dv (I 0)]∧K=[(3,.cells (agC its 2)),(2,.tree 0 0 (.omap pairK (m.map eEnt)))]:=by
 funext rs K; unfold decR; rw [h]
theorem decR_none {its:List Item} {bs:List Int} (h:decM its bs=none):decR its bs=fun rs K=>rs=[.dv .nilp,.dv (I 2)]∧K=[]:=by
 funext rs K; unfold decR; rw [h]
set_option maxHeartbeats 4000000 in
theorem codes_spec (bind wear:Int) (l:List Int) (raw:List Int) (hraw:Byt raw) (at_ y:Int) (hy:0≤y∧y<256):PSpec Tryz.prog 7 [I bind,I wear,Ints l,.sl 1 (raw.map Y),I at_,Y y] [B true]:=by
 refine pspec_of tab_ok mixed (calls_snd _) (range_snd _) Tryz.func7 rfl (by kernel_rfl) rfl ?_
 obtain ⟨b,w,hb0,hb1,hw0,hw1,hfi⟩:=filled_spec bind wear l
 have hty:TyOk (itemsL b w):=itemsL_ok ⟨by omega,hw1⟩
 have hg:=fill_goes hty l (opsL l).length
 have hto:=fill_to hty l (opsL l).length
 generalize fillM (itemsL b w) l (opsL l).length=m at hfi hg hto
 generalize fillL (itemsL b w) l (opsL l).length=L at hfi hg
 have hnum:=numS hg.fit.ok hg.ko (by show 5≤1000; omega)
 have hen:=encode_spec (itemsL b w) m hg.fit.nd hg.len.1 hnum
 have henc:=hg.same.enc
 have hnl:=hg.same.num hnum
 have hLs:=hg.same.srt
 have hL6:L.length≤6:=by
  rw [hg.same.len]; exact hg.fit.len
 have hLB:Byt (encB m):=by rw [henc]; exact encR_byt (by omega) hnl
 have hlen:(encB m).length≤61:=by
  rw [henc]
  unfold encR
  have h1:=flat_le L 10 fun p hp=>obB_len hg.fit hto (by show 5≤64; omega) (wear_lt ⟨hw0,hw1⟩) (hg.same.at hp)
  have h2:=ibytes_small (n:=(L.length:Nat)) (by omega) (by omega)
  rw [List.length_append]
  omega
 have hlen1:1≤(encB m).length:=by
  rw [henc]
  unfold encR
  rw [List.length_append]
  have:=ibytes_pos (L.length:Nat)
  omega
 have hback:decM (itemsL b w) (encB m)=some L:=by
  rw [henc]
  refine decM_back hLs (fun p hp=>⟨fit_putOk hg.fit hto (hg.same.at hp),hnl p hp⟩) (by omega) fun k hk=>?_
  obtain ⟨p,hp,rfl⟩:=List.mem_map.1 hk
  have:=hg.fit.bd p.1 (List.mem_map.2 ⟨_,oget_mem (hg.same.at hp),rfl⟩)
  unfold klt
  left
  show -1<p.1.1
  omega
 have hLL:Same L L:=⟨hg.same.ndL,(cat_keys hLs).symm,fun _=>rfl⟩
 have hag:=agree_spec (itemsL b w) L L hLL (by omega) (fun k x hx=>hnl _ (oget_mem hx))
 have hdec:=decode_spec ⟨hb0,hb1⟩ ⟨hw0,hw1⟩ (encB m) hLB (by omega)
 refine .inr ⟨[],[.dv (I bind),.dv (I wear),.dv (Ints l)],[],6,_,_,hfi,by kernel_rfl,by kernel_rfl,⟨rf,rf,rf,tv⟩,tv,?_⟩
 refine ⟨fun h=>(by cases h),fun _=>?_⟩
 refine .inr ⟨[3,2],[.ptr 0 0],stK (itemsL b w) m,8,_,_,hen,by kernel_rfl,by kernel_rfl,⟨rfl,tv⟩,⟨⟨rf,rf,rf,rf,rfl,tv⟩,⟨rfl,rfl⟩,tv⟩,?_⟩
 rw [decR_some hback] at hdec
 have hfz:∀bs:List Int,fzD (DV.osl 1 (bs.map Y))=DV.sl 1 (bs.map Y):=fun bs=>by
  show DV.sl 1 (fzL (bs.map Y))=_
  rw [fzL_map (fun _=>rfl)]
 refine .inr ⟨[],[ofD (catD (I b) (I w)),.dv (.sl 1 ((encB m).map Y))],[],7,_,_,hdec,by kernel_rfl,by kernel_rfl,⟨⟨rf,rf,rf,rf,tv⟩,DV.Le.of_eq (hfz _),tv⟩,tv,?_⟩
 repeat first | refine ⟨id,?_⟩ | refine ⟨fun _=>rfl,?_⟩ | refine ⟨fun _ h=>bw_f h,?_⟩
 refine Or.inr ⟨[17,16,4,5],[.ptr 0 0,.ptr 2 0],agK (itemsL b w) L L,0,_,_,hag,by kernel_rfl,by kernel_rfl,⟨rfl,rfl,tv⟩,⟨⟨rf,rf,rf,rf,rfl,tv⟩,⟨rfl,rfl⟩,⟨rf,rf,rf,rf,rfl,tv⟩,⟨rfl,rfl⟩,tv⟩,rfl,?_⟩
 repeat first | refine ⟨id,?_⟩ | refine ⟨fun _=>rfl,?_⟩ | refine ⟨fun _ h=>bw_f h,?_⟩
 have hfzL:∀bs:List Int,fzL (bs.map Y)=bs.map Y:=fun bs=>by rw [fzL_map (fun _=>rfl)]
 refine ⟨fun h=>?_,fun h=>?_⟩
 ·exfalso
  have h':(((fzL ((encB m).map Y)).length:Int) == 0)=true:=h
  rw [hfzL,List.length_map] at h'
  have h'':((encB m).length:Int)=0:=by simpa using h'
  omega
 clear h
 refine .inr (.inl ⟨[],rfl,tv,(by simp),?_⟩)
 have hln:(((encB m).map Y).length:Nat)=(encB m).length:=List.length_map _
 have har:=around_spec at_ (((encB m).map Y).length:Nat) (by omega) (by omega)
 have hab:=around_bd at_ (((encB m).map Y).length:Nat) (by omega)
 refine .inr ⟨(encB m).map Y,(by rw [hfzL]; exact ELes.refl _),(by rw [byWB]; simp only [List.length_map,List.length_nil]; omega),(by simp only [List.length_map,List.length_nil]; omega),.inl ⟨_,fun _=>har.ok,?_⟩⟩
 generalize hi0:around at_ (((encB m).map Y).length:Nat)=i0 at hab
 have hi1:i0.toNat<(encB m).length:=by omega
 obtain ⟨v0,hv0⟩:∃v,(encB m)[i0.toNat]?=some v:=⟨_,List.getElem?_eq_getElem hi1⟩
 refine ⟨fun _=>⟨hab.1,by show i0+1≤(((encB m).map Y).length:Int); omega⟩,[Y y],⟨rf,tv⟩,Y v0,(by simp [hv0]),?_⟩
 have hmin:∃c:Nat,c≤40∧c≤raw.length∧(if 40<((raw.map Y).length:Int) then (40:Int) else ((raw.map Y).length:Int))=c:=by
  rw [List.length_map]
  by_cases h:40<(raw.length:Int)
  ·rw [if_pos h]; exact ⟨40,by omega,by omega,rfl⟩
  ·rw [if_neg h]; exact ⟨raw.length,by omega,by omega,rfl⟩
 obtain ⟨c,hc1,hc2,hc⟩:=hmin
 refine .inr (.inl ⟨[],rfl,tv,(by simp),fun _=>⟨by decide,by show (0:Int)≤(if 40<((raw.map Y).length:Int) then (40:Int) else ((raw.map Y).length:Int)); omega,by show (if 40<((raw.map Y).length:Int) then (40:Int) else ((raw.map Y).length:Int))≤((raw.map Y).length:Int); rw [hc,List.length_map]; omega⟩,?_⟩)
 have hz1:ELes (List.drop 0 (List.take (if 40<((raw.map Y).length:Int) then (40:Int) else ((raw.map Y).length:Int)).toNat (raw.map Y))) ((raw.take c).map Y):=by
  rw [hc,List.drop_zero,Int.toNat_natCast,←List.map_take]; exact ELes.refl _
 have hl1:((raw.take c).map Y).length≤40:=by rw [List.length_map,List.length_take]; omega
 have hfL':(((fzL ((encB m).map Y)).length:Int) - 1).toNat=(encB m).length - 1:=by rw [hfzL,List.length_map]; omega
 have hfl:((fzL ((encB m).map Y)).length:Int)=(encB m).length:=by rw [hfzL,List.length_map]
 refine .inr ⟨(raw.take c).map Y,hz1,(by rw [byWB]; simp only [List.length_nil]; omega),(by simp only [List.length_nil]; omega),fun _=>⟨by show _≤((fzL ((encB m).map Y)).length:Int) - 1; omega,by show ((fzL ((encB m).map Y)).length:Int) - 1≤_; omega⟩,fun _=>⟨by decide,by show (0:Int)≤((fzL ((encB m).map Y)).length:Int) - 1; omega,by show ((fzL ((encB m).map Y)).length:Int) - 1≤_; omega⟩,?_⟩
 refine .inr (.inl ⟨[],rfl,tv,(by simp),?_⟩)
 refine .inr ⟨(encB m).map Y,(by rw [hfzL]; exact ELes.refl _),(by rw [byWB]; simp only [List.length_map,List.length_nil]; omega),(by simp only [List.length_map,List.length_nil]; omega),?_⟩
 refine .inl ⟨[Y y],rfl,⟨rf,tv⟩,(by simp; rfl),?_⟩
 refine .inr ⟨[Y y],ELes.refl _,(by rw [byWB]; simp only [List.length_map,List.length_nil,List.nil_append,List.length_cons]; omega),(by simp only [List.length_map,List.length_nil,List.nil_append,List.length_cons]; omega),?_⟩
 have hall:∀bs,bs∈all4 raw (encB m) c i0.toNat y→Byt bs∧bs.length≤72:=all4_ok hraw hLB (by omega) hc1 hy
 have hx4:DLes [fzD (DV.osl 1 ([]++(raw.take c).map Y)),fzD (DV.osl 1 (([]++(encB m).map Y).set i0.toNat (Y y))),DV.sl 1 (List.drop 0 (List.take (((fzL ((encB m).map Y)).length:Int) - 1).toNat (fzL ((encB m).map Y)))),fzD (DV.osl 1 ([]++(encB m).map Y++[Y y]))] ((all4 raw (encB m) c i0.toNat y).map fun bs=>DV.sl 1 (bs.map Y)):=by
  refine ⟨.of_eq ?_,.of_eq ?_,.of_eq ?_,.of_eq ?_,tv⟩
  ·rw [List.nil_append,hfz]
  ·rw [List.nil_append,←List.map_set,hfz]
  ·rw [hfL',hfzL,List.drop_zero,←List.map_take]
  ·rw [List.nil_append]
   rw [show (encB m).map Y++[Y y]=((encB m)++[y]).map Y by simp,hfz]
 generalize hA:all4 raw (encB m) c i0.toNat y=A at hall hx4
 have hA4:A.length=4:=by subst hA; rfl
 refine .inl ⟨A.map fun bs=>DV.sl 1 (bs.map Y),(by rw [List.length_map,hA4]),?_,?_,by kernel_rfl,?_⟩
 ·rw [cells_sl]; exact hx4
 ·intro x hx
  obtain ⟨bs,_,rfl⟩:=List.mem_map.1 hx
  rfl
 refine ⟨Nat,cdInv (itemsL b w) L A,fun i=>i≤4,fun i=>4 - i,0,fun _=>rfl,⟨⟨rfl,rf,rf,tv⟩,⟨⟨rf,rf,rf,rf,rfl,tv⟩,⟨rfl,rfl⟩,tv⟩,rfl,rfl⟩,Nat.zero_le _,?_⟩
 intro i hi
 refine ⟨fun h=>?_,fun h=>?_⟩
 ·have hlt:i<4:=by have h':(i:Int)<4:=of_decide_eq_true h; omega
  clear h
  obtain ⟨bs,hbs⟩:∃bs,A[i]?=some bs:=⟨_,List.getElem?_eq_getElem (by omega)⟩
  obtain ⟨hby,hb72⟩:=hall bs (List.mem_of_getElem? hbs)
  have hel:(A.map fun bs=>DV.sl 1 (bs.map Y))[(i:Int).toNat]?=some (DV.sl 1 (bs.map Y)):=by
   rw [Int.toNat_natCast,List.getElem?_map,hbs]; rfl
  have hd:=decode_spec ⟨hb0,hb1⟩ ⟨hw0,hw1⟩ bs hby (by omega)
  refine ⟨_,fun _=>⟨by omega,hel⟩,?_⟩
  cases hdm:decM (itemsL b w) bs with
  | none =>
   rw [decR_none hdm] at hd
   refine .inr ⟨[],[ofD (catD (I b) (I w)),.dv (.sl 1 (bs.map Y))],[],7,_,_,hd,by kernel_rfl,by kernel_rfl,⟨⟨rf,rf,rf,rf,tv⟩,rf,tv⟩,tv,?_⟩
   refine ⟨by kernel_rfl,?_⟩
   repeat first | refine ⟨id,?_⟩ | refine ⟨fun _=>rfl,?_⟩ | refine ⟨fun _ _=>rfl,?_⟩ | refine ⟨fun _=>⟨rfl,fun _=>rfl⟩,?_⟩ | refine ⟨fun h=>absurd h (by decide),?_⟩ | refine ⟨fun _ h=>absurd h (by decide),?_⟩ | refine ⟨fun h=>⟨h,fun h=>absurd h (by decide)⟩,?_⟩
   refine .inl ⟨[.sl 1 []],fun h=>absurd h (by decide),id,?_⟩
   refine ⟨[],rfl,id,id,.sl 1 (bs.map Y),fun h=>absurd h (by decide),id,?_⟩
   refine ⟨id,bs,rfl,id,id,?_⟩
   repeat first | refine ⟨id,?_⟩ | refine ⟨fun _=>rfl,?_⟩ | refine ⟨fun _ _=>rfl,?_⟩ | refine ⟨fun _=>⟨rfl,fun _=>rfl⟩,?_⟩ | refine ⟨fun h=>⟨h,fun h=>absurd h (by decide)⟩,?_⟩ | refine ⟨fun h=>absurd h (by decide),?_⟩ | refine ⟨fun _ h=>absurd h (by decide),?_⟩
   refine ⟨by kernel_rfl,fun h=>?_,fun _=>?_⟩
   ·exfalso
    have h':false=true:=h
    cases h'
   ·exact ⟨fun _=>⟨by omega,by omega⟩,i+1,⟨⟨rfl,rf,le_int (by simp),tv⟩,⟨⟨rf,rf,rf,rf,rfl,tv⟩,⟨rfl,rfl⟩,tv⟩,rfl,rfl⟩,by show i+1≤4; omega,by show 4 - (i+1)<4 - i; omega⟩
  | some m' =>
   rw [decR_some hdm] at hd
   have hD:=decM_all hty hby hdm
   have hen':=encode_spec (itemsL b w) m' hD.nd (by have:=hD.len; omega) hD.num
   refine .inr ⟨[],[ofD (catD (I b) (I w)),.dv (.sl 1 (bs.map Y))],[],7,_,_,hd,by kernel_rfl,by kernel_rfl,⟨⟨rf,rf,rf,rf,tv⟩,rf,tv⟩,tv,?_⟩
   refine ⟨by kernel_rfl,?_⟩
   repeat first | refine ⟨id,?_⟩ | refine ⟨fun _=>rfl,?_⟩ | refine ⟨fun _ _=>rfl,?_⟩ | refine ⟨fun _=>⟨rfl,fun _=>rfl⟩,?_⟩ | refine ⟨fun h=>absurd h (by decide),?_⟩ | refine ⟨fun _ h=>absurd h (by decide),?_⟩ | refine ⟨fun h=>⟨h,fun h=>absurd h (by decide)⟩,?_⟩
   refine .inr ⟨[9,8],[.ptr 0 0],stK (itemsL b w) m',8,_,_,hen',by kernel_rfl,by kernel_rfl,⟨rfl,tv⟩,⟨⟨rf,rf,rf,rf,rfl,tv⟩,⟨rfl,rfl⟩,tv⟩,?_⟩
   refine ⟨by decide,fun _=>rfl,.inl ⟨closed_Y _,encB m',rfl,id,?_⟩⟩
   refine ⟨id,.sl 1 (bs.map Y),fun _=>⟨by omega,hel⟩,id,?_⟩
   refine ⟨id,bs,rfl,id,id,?_⟩
   repeat first | refine ⟨id,?_⟩ | refine ⟨fun _=>rfl,?_⟩ | refine ⟨fun _ _=>rfl,?_⟩ | refine ⟨fun _=>⟨rfl,fun _=>rfl⟩,?_⟩ | refine ⟨fun h=>⟨h,fun h=>absurd h (by decide)⟩,?_⟩ | refine ⟨fun h=>absurd h (by decide),?_⟩ | refine ⟨fun _ h=>absurd h (by decide),?_⟩
   refine ⟨by kernel_rfl,fun h=>?_,fun _=>?_⟩
   ·exfalso
    have h':(!((bytOf (encB m')).toList == (bytOf bs).toList))=true:=h
    rw [hD.enc] at h'
    simp at h'
   ·exact ⟨fun _=>⟨by omega,by omega⟩,i+1,⟨⟨rfl,rf,le_int (by simp),tv⟩,⟨⟨rf,rf,rf,rf,rfl,tv⟩,⟨rfl,rfl⟩,tv⟩,rfl,rfl⟩,by show i+1≤4; omega,by show 4 - (i+1)<4 - i; omega⟩
 ·refine .inl ⟨_,fun _=>lives_spec.ok,?_⟩
  exact ⟨rf,tv⟩
end Go.Proofs.YtpjpdomkcabfcaaGreatDoor
namespace Go.Proofs.YtpjpdomkcabfcaaGreatDoor
open Go.TM Go.ChangeShapes Go.WideShapes Go.ChangeAt Go.RowKit
theorem own:ownKnob Tryz.prog.godebug=none:=by kernel_rfl
theorem laidOut:laidOutB Tryz.prog=true:=by kernel_rfl
theorem in_i64 {n:Int} (h:(Lit.int .i64 n).wf=true):InI n:=by simpa [InI,Lit.wf,IntKind.min,IntKind.max,IntKind.signed,IntKind.bits] using h
theorem ints_of {H:Type} {enc:TypeId × Value→H} {W:World} {v:Value} {d:DataW H} {p:List MemPlace} (hv:∃a len cap,v=.slice a len cap) (h:DataW.Trod enc Tryz.prog W 0 (fun _=>true) true 22 v d p) :
  ∃zs:List Int,DRel (fun b=>W.heap[b]?) (Ints zs) v∧∀x,x∈zs→InI x:=by
 obtain ⟨fuel,h⟩:=h
 obtain ⟨a0,l0,c0,rfl⟩:=hv
 rcases open_ints Tryz.underlying22 Tryz.underlying3 (by kernel_rfl) h with ⟨h1,-⟩ | ⟨a,len,cap,zs,h1,h2,h3,h4,h5,h6,h7,h8⟩
 ·simp [Value.cells] at h1
  obtain ⟨rfl,rfl,rfl⟩:=h1
  exact ⟨[],.slnil 1,fun x hx=>by simp at hx⟩
 ·simp [Value.cells] at h1
  obtain ⟨rfl,rfl,rfl⟩:=h1
  simp only [if_true] at h5
  have hlen:((zs.take l0).map I).length=l0:=by simp; omega
  refine ⟨zs.take l0,?_,fun x hx=>in_i64 (h8 x (List.mem_of_mem_take hx))⟩
  ·have hd:=DRel.sl (M:=fun b=>W.heap[b]?) 1 ((zs.take l0).map I) a c0 (fun i _=>.int .i64 (zs.getD i 0)) (by rw [hlen]; exact h3) (fun x hx=>by
    obtain ⟨n,-,rfl⟩:=List.mem_map.1 hx
    exact ⟨rfl,fun d hd=>by simp only [DV.cells,List.mem_singleton] at hd; subst hd; rfl⟩) (fun i j hi hj=>by
    have hj0:j=0:=by omega
    subst hj0
    rw [hlen] at hi
    have:=h7 i (by omega)
    rw [Nat.mul_one,Nat.add_zero]
    exact this) (fun i x j d hx hd=>by
    have hi:i<l0:=by
     have:=(List.getElem?_eq_some_iff.1 hx).1
     rw [hlen] at this; exact this
    rw [List.getElem?_map,List.getElem?_take_of_lt hi,List.getElem?_eq_getElem (by omega)] at hx
    simp only [Option.map_some,Option.some.injEq] at hx
    subst hx
    match j,hd with
    | 0,hd =>
     simp only [DV.cells,List.getElem?_cons_zero,Option.some.injEq] at hd
     subst hd
     have e:zs.getD i 0=zs[i]'(by omega):=by simp [List.getD,List.getElem?_eq_getElem (show i<zs.length by omega)]
     rw [e]
     exact .int .i64 _
    | j+1,hd=>simp [DV.cells] at hd)
   rw [hlen] at hd
   exact hd
theorem kinds_of {W:World} (h:laidMetH Tryz.prog [("worldmint/lexer.kinds",Rows.laid_worldmint_lexer_kinds)] W):∃(ty:TypeId) (fr:Nat × Nat),W.heap[2]?=some (.cells kArr ty fr):=by
 have ht:Lib.TabIs Tryz.prog W "worldmint/lexer.kinds" .u8 (kindL.map fun n=>((n:Nat):Int)) :=
  Lib.tabIs_of_head (rest:=[]) (g:=2) (t:=254) (e:=5) (n:=128) (by kernel_rfl) (by kernel_rfl) Tryz.underlying254 Tryz.underlying5 (by kernel_rfl) (by kernel_rfl) h
 have hg:Tryz.prog.globalNamed "worldmint/lexer.kinds"=some 2:=by kernel_rfl
 unfold Lib.TabIs World.var? at ht
 rw [hg] at ht
 simp only [Option.bind_some] at ht
 split at ht
 ·rename_i cs ty fr hh
  injection ht with ht
  refine ⟨ty,fr,?_⟩
  rw [hh,ht]
  simp only [kArr,List.map_map]
  rfl
 ·cases ht
def laidW (w:World):World:={ w with heap:=w.heap.modify 2 fun
  | .cells _ t frozen=>.cells kArr t frozen
  | o=>o }
end Go.Proofs.YtpjpdomkcabfcaaGreatDoor
namespace Go.Proofs.YtpjpdomkcabfcaaGreatDoor
open Go.TM Go.ChangeShapes Go.WideShapes Go.ChangeAt Go.RowKit
theorem in_u8 {n:Int} (h:(Lit.int .u8 n).wf=true):0≤n∧n<256:=by
 have h1:0≤n∧n≤255:=by simpa [Lit.wf,IntKind.min,IntKind.max,IntKind.signed,IntKind.bits] using h
 omega
theorem bytes_of {H:Type} {enc:TypeId × Value→H} {W:World} {v:Value} {d:DataW H} {p:List MemPlace} (hv:∃a len cap,v=.slice a len cap) (h:DataW.Trod enc Tryz.prog W 0 (fun _=>true) true 67 v d p) :
  ∃zs:List Int,DRel (fun b=>W.heap[b]?) (.sl 1 (zs.map Y)) v∧Byt zs:=by
 obtain ⟨fuel,h⟩:=h
 obtain ⟨a0,l0,c0,rfl⟩:=hv
 rcases open_ints Tryz.underlying67 Tryz.underlying5 (by kernel_rfl) h with ⟨h1,-⟩ | ⟨a,len,cap,zs,h1,h2,h3,h4,h5,h6,h7,h8⟩
 ·simp [Value.cells] at h1
  obtain ⟨rfl,rfl,rfl⟩:=h1
  exact ⟨[],.slnil 1,fun x hx=>by simp at hx⟩
 ·simp [Value.cells] at h1
  obtain ⟨rfl,rfl,rfl⟩:=h1
  simp only [if_true] at h5
  have hlen:((zs.take l0).map Y).length=l0:=by simp; omega
  refine ⟨zs.take l0,?_,fun x hx=>in_u8 (h8 x (List.mem_of_mem_take hx))⟩
  ·have hd:=DRel.sl (M:=fun b=>W.heap[b]?) 1 ((zs.take l0).map Y) a c0 (fun i _=>.int .u8 (zs.getD i 0)) (by rw [hlen]; exact h3) (fun x hx=>by
    obtain ⟨n,-,rfl⟩:=List.mem_map.1 hx
    exact ⟨rfl,fun d hd=>by simp only [DV.cells,List.mem_singleton] at hd; subst hd; rfl⟩) (fun i j hi hj=>by
    have hj0:j=0:=by omega
    subst hj0
    rw [hlen] at hi
    have:=h7 i (by omega)
    rw [Nat.mul_one,Nat.add_zero]
    exact this) (fun i x j d hx hd=>by
    have hi:i<l0:=by
     have:=(List.getElem?_eq_some_iff.1 hx).1
     rw [hlen] at this; exact this
    rw [List.getElem?_map,List.getElem?_take_of_lt hi,List.getElem?_eq_getElem (by omega)] at hx
    simp only [Option.map_some,Option.some.injEq] at hx
    subst hx
    match j,hd with
    | 0,hd =>
     simp only [DV.cells,List.getElem?_cons_zero,Option.some.injEq] at hd
     subst hd
     have e:zs.getD i 0=zs[i]'(by omega):=by simp [List.getD,List.getElem?_eq_getElem (show i<zs.length by omega)]
     rw [e]
     exact .int .u8 _
    | j+1,hd=>simp [DV.cells] at hd)
   rw [hlen] at hd
   exact hd
end Go.Proofs.YtpjpdomkcabfcaaGreatDoor
