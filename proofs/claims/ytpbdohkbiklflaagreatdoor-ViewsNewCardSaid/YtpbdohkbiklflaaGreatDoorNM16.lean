import Derived.Test.YtpbdohkbiklflaaGreatDoorNM15
import Derived.WideKeyRuns
import Derived.Laws.StructEq
set_option linter.unusedVariables false
set_option linter.unusedSimpArgs false
set_option linter.unusedSectionVars false
namespace Go.TM
open Go.RowKit
variable [Glob]
theorem mem_upFrom:∀{s k i:Nat},s≤i→i<s+k→i∈upFrom s k
 | s,0,i,h1,h2=>by omega
 | s,k+1,i,h1,h2=>by
  simp only [upFrom,List.mem_cons]
  by_cases e:i=s
  ·exact .inl e
  ·exact .inr (mem_upFrom (by omega) (by omega))
def InvMono (I:Inv):Prop:=∀β vs w (R R':Ending→World→Prop),(∀e w,R e w→R' e w)→I β vs w R→I β vs w R'
theorem callF_mono (P:Program) (f:Nat):InvMono (callF P f):=fun _ _ _ _ _ h hc=>Calls.mono hc h
theorem callY_mono (P:Program):InvMono (callY P):=by
 intro β vs w R R' h hc
 obtain ⟨l,h1,fn,tmps,assign,body,w1,h2,h3⟩:=hc
 exact ⟨l,h1,fn,tmps,assign,body,w1,h2,RoundIn.mono h3 h⟩
theorem hdOk_spec {i nx:Nat} {σ:List Nat} (h:hdOk (some i) σ=true):0<σ.length∧sg σ nx 0=i:=by
 cases σ with
 | nil=>simp [hdOk] at h
 | cons x r =>
  simp only [hdOk] at h
  exact ⟨by simp,(Nat.eq_of_beq_eq_true h).symm⟩
section
variable {P:Program} {C:Org→Prop} {T:List TI} {ops:List Oper} {n:Nat} {o:Oper} {nx:Nat} {ρ:Nat→AV} {κ:Nat→Box} {k:Eff→Nat→Prop} {gd:Bool}
def InvEv (P:Program) (ops:List Oper) (n:Nat) (o:Oper) (ρ:Nat→AV) (κ:Nat→Box) (gd:Bool) (hd:Option Nat) (C:Org→Prop) (m:Nat) (I:Inv) (l:List AV):Prop :=
 ∀ρ' κ' rd bx,Agr ops o ρ ρ' κ κ' rd bx→∀(g:Org) (a:Act) (w:World) (G:Gh),C g→StM g n ρ' κ' a w G→gd=true →
  ∃vs:List Value,CRel G l vs∧∀F,Wide F→∀β:Nat→Option Nat,(∀i,hd=some i→β 0=G.β i)→∀K:Act→World→Prop,
   I β vs w (fun e w'=>∃v,e=.returned v∧K (a.put o.dst v) w')→o.wpIn F 0 P a w K (fun _ _ _=>False)
theorem callR_core {hd:Option Nat} {I:Inv} {l:List AV} {σ:List Nat} {args0:List AV} {K0:Boxes} {ex:Nat} {R:List AV→Boxes→Prop} (hI:InvMono I) (hspec:ISpecR I args0 σ.length K0 ex R)
  (hn:∀i,nx≤i→κ i=.none) (hchk:(callChk κ σ nx l args0 K0 && hdOk hd σ)=true) (hsW:subWs 0 κ (lookB (renK (sg σ nx) zsh K0)) (rens (sg σ nx) zsh args0) l) (hsB:subB 0 κ (lookB (renK (sg σ nx) zsh K0)) (renK (sg σ nx) zsh K0))
  (hout:∀rs K1,R rs K1→outKChk σ ex K0 K1 rs=true) (hne:∀j,j<σ.length→(lookB K0 j).pass=true)
  {ρ':Nat→AV} {κ':Nat→Box} {g:Org} {a:Act} {w:World} {G:Gh} (hgm:g.m≤nx) (hst:StM g n ρ' κ' a w G) {vs:List Value} (hrel:CRel G l vs)
  (hag:∀i,i∈σ++(fidws κ (rens (sg σ nx) zsh args0) l++fidsB κ (renK (sg σ nx) zsh K0))++upFrom nx ex→κ' i=κ i) :
  ∃β:Nat→Option Nat,(∀i,hd=some i→β 0=G.β i)∧I β vs w fun e w2=>∃v rs K1 G3,e=.returned v∧R rs K1 ∧
   StM g n ρ' (updl κ' (renK (sg σ nx) (shs κ σ) K1++frz κ (fidws κ (rens (sg σ nx) zsh args0) l++fidsB κ (renK (sg σ nx) zsh K0)))) a w2 G3∧VRel G3 (ren (sg σ nx) (shs κ σ) (resC rs)) v:=by
 simp only [Bool.and_eq_true] at hchk
 obtain ⟨hchk,hhd⟩:=hchk
 simp only [callChk,Bool.and_eq_true] at hchk
 obtain ⟨⟨⟨⟨⟨⟨hsig,hkl⟩,hwf0⟩,hsc0⟩,hwfR⟩,hscR⟩,hfr⟩:=hchk
 obtain ⟨hσ1,hσ2⟩:=sigOk_spec hsig
 have hinj:=sg_inj (nx:=nx) hσ1 hσ2
 have hmem:∀j (h:j<σ.length),sg σ nx j∈σ:=fun j h=>by rw [sg_lt h]; exact List.getElem_mem h
 simp only [AState.wf,Bool.and_eq_true] at hwf0 hwfR
 have hK0no:∀j,j<σ.length→(lookB K0 j).isNo=false:=fun j hj=>by
  have:=hne j hj
  cases h:lookB K0 j <;> rw [h] at this <;> first | rfl | cases this
 have hK0it:∀j,j∈keys K0→∀a b c d e,lookB K0 j ≠ .itr a b c d e:=fun j hj a b c d e h=>by
  have:=hne j (keysLt_mem hkl j hj)
  rw [h] at this; cases this
 have hK0he:∀j,j∈keys K0→lookB K0 j ≠ .held:=fun j hj h=>by
  have:=hne j (keysLt_mem hkl j hj)
  rw [h] at this; cases this
 have hK0key:∀j,j<σ.length→j∈keys K0:=fun j hj=>by
  refine Classical.byContradiction fun hn=>?_
  have:=hK0no j hj; rw [lookB_nokey hn] at this; cases this
 have hatR:∀j,lookB (renK (sg σ nx) zsh K0) (sg σ nx j)=if j∈keys K0 then renB (sg σ nx) zsh j (lookB K0 j) else .none:=fun j=>by
  rw [lookB_updl (renK (sg σ nx) zsh K0)]; exact updl_renK hinj _ K0 j
 have hRno:∀j,j<σ.length→(lookB (renK (sg σ nx) zsh K0) (sg σ nx j)).isNo=false:=fun j hj=>by
  rw [hatR,if_pos (hK0key j hj)]
  cases lookB K0 j <;> rfl
 have hRin:∀i,(lookB (renK (sg σ nx) zsh K0) i).isNo=false→i∈σ:=fun i hi=>by
  rcases lookB_mem (K:=renK (sg σ nx) zsh K0) (i:=i) with h | h
  ·rw [h] at hi; cases hi
  ·obtain ⟨j,h1,rfl⟩:=mem_renK h
   exact hmem j (keysLt_mem hkl j h1)
 have hagσ:∀i,i∈σ→κ' i=κ i:=fun i hi=>hag i (List.mem_append.2 (.inl (List.mem_append.2 (.inl hi))))
 have hagF:∀i,i∈fidws κ (rens (sg σ nx) zsh args0) l++fidsB κ (renK (sg σ nx) zsh K0)→κ' i=κ i:=fun i hi=>hag i (List.mem_append.2 (.inl (List.mem_append.2 (.inr hi))))
 have hagN:∀i,nx≤i→i<nx+ex→κ' i=.none:=fun i h1 h2=>(hag i (List.mem_append.2 (.inr (mem_upFrom h1 h2)))).trans (hn i h1)
 generalize hFd:fidws κ (rens (sg σ nx) zsh args0) l++fidsB κ (renK (sg σ nx) zsh K0)=F at *
 obtain ⟨G1,f1,f2,f3,f4,st1⟩:=hst.freezes (κ:=κ) F hagF
 have hs:∀i,SubAt 0 κ (lookB (renK (sg σ nx) zsh K0)) F i:=by
  intro i
  rcases lookB_mem (K:=renK (sg σ nx) zsh K0) (i:=i) with h | h
  ·unfold SubAt; rw [h]; exact ⟨tv,rfl,by simp [fidsX]⟩
  ·exact ⟨(subB_mem hsB i _ h).1,(wfB_mem hwfR.1 i _ h).2,fun j hj=>by rw [←hFd]; exact List.mem_append.2 (.inr ((subB_mem hsB i _ h).2 j hj))⟩
 obtain ⟨hfitR,hbackR⟩:=reFit (m:=0) (κ:=κ) (κc:=κ') hst.fit f1 f2 f3 f4 hagF (fun i hi=>hagσ i (hRin i hi)) st1.fit hfr hs
 have hargs:=(subW_rel (m:=0) (κ:=κ) (κ':=lookB (renK (sg σ nx) zsh K0)) (w:=w) f1 f2 f3 hagF st1.fit (SizeOf.sizeOf (rens (sg σ nx) zsh args0)+1)).2 _ l vs (by omega) hsW hscR (fun i hi=>by rw [←hFd]; exact List.mem_append.2 (.inl hi)) hrel
 obtain ⟨hfit0,hown0⟩:=pullFit hinj hfitR (fun j hj h=>by have:=hK0no j (keysLt_mem hkl j hj); rw [h] at this; cases this) hK0it hK0he (fun j c hc=>by
  rcases lookB_mem (K:=K0) (i:=j) with h | h
  ·rw [h] at hc; cases hc
  ·have:=(wfB_mem hwf0.1 j _ h).2
   rw [hc] at this
   simp only [Box.wfc,Bool.and_eq_true] at this
   exact this.2)
 have hargs0:=(unren (r:=sg σ nx) (SizeOf.sizeOf args0+1)).2 args0 vs (by omega) hargs
 have hβ0:∀j,j<σ.length→(pull (sg σ nx) (reGh 0 κ (lookB (renK (sg σ nx) zsh K0)) G1)).β j=G1.β (sg σ nx j):=fun j hj=>by
  simp only [pull,reGh,reβ,hRno j hj]
 refine ⟨(pull (sg σ nx) (reGh 0 κ (lookB (renK (sg σ nx) zsh K0)) G1)).β,fun i hi=>?_,hI _ _ _ _ _ ?_ (hspec w _ vs (hst.glob.mono (hst.mem.trans f1.mem)) hfit0 hargs0)⟩
 ·subst hi
  obtain ⟨h1,h2⟩:=hdOk_spec (nx:=nx) hhd
  rw [hβ0 0 h1,f2,h2]
 ·rintro e w2 ⟨v,rs,K1,G2,rfl,hRr,hC⟩
  have hκ1:=updl_frz (κ:=κ) (κ':=κ') (ids:=F) hagF
  obtain ⟨t1,t2,t3⟩:=push_turn (κ:=κ) (κ1:=updl κ' (frz κ F)) (G1:=G1) (nx:=nx) hσ1 hσ2 (fun i h1 h2=>by
    rw [hκ1,hn i h1,hagN i h1 h2]; simp [Box.frozenOf]) st1.fit
   (fun i hi V E d hk=>by
    have hb:=hst.fit.box i
    rw [hagσ i hi,hk] at hb
    rw [f3]; exact ⟨hb.2.2.1,hb.2.2.2⟩)
   (fun i hi hk v e p=>by
    have hb:=hst.fit.box i
    rw [hagσ i hi,hk] at hb
    rw [f3]; exact hb.2 v e p)
   (fun j hj V E d hk=>by
    have hno:=hRno j hj
    have hz:nfv 0 (sg σ nx j) V E=(0,0):=nfv_out (by omega)
    have key:∀p,hdr (reH 0 κ (lookB (renK (sg σ nx) zsh K0)) G1.H) (sg σ nx j) 0 0 p=hdr G1.H (sg σ nx j) V E p:=fun p=>by
     have:=hdr_re (m:=0) (H:=G1.H) hk hno p
     rw [hz] at this; exact this
    refine ⟨fun x hx=>?_,fun s q x hx=>?_⟩
    ·have:=key []; simp only [hdr] at this; simp only [pull,reGh]; rw [this]; exact hx
    ·have:=key (s::q); simp only [hdr] at this; simp only [pull,reGh]; rw [this]; exact hx)
   (fun j hj V d hk=>by
    have hb:=st1.fit.box (sg σ nx j)
    have hk1:updl κ' (frz κ F) (sg σ nx j)=.fz V d:=by rw [hκ1,hagσ _ (hmem j hj),hk]; simp [Box.frozenOf]
    rw [hk1] at hb
    obtain ⟨x,h1,_⟩:=hb
    refine ⟨x,h1,?_⟩
    simp only [pull,reGh,reH,hRno j hj,hk]
    have:=(reH1_cur 0 (G1.H (sg σ nx j)) (sg σ nx j) V 0 (.el 0 0) []).1
    rw [nfv_out (by omega)] at this
    rw [this]; exact h1)
   hβ0 rfl
   (fun j b ho=>by
    obtain ⟨h1,h2⟩:=hown0 j b ho
    exact ⟨keysLt_mem hkl j h1,hbackR _ b h2⟩)
   (fun j hj=>by
    obtain ⟨hx,_,_⟩:=hs (sg σ nx j)
    rw [hatR,if_pos (hK0key j hj)] at hx
    refine ⟨fun v e d h0=>?_,fun v d h0=>?_⟩
    ·rw [h0] at hx
     cases hk:κ (sg σ nx j) with
     | tree V E d=>exact .inl ⟨_,_,_,rfl⟩
     | none=>exact .inr rfl
     | _=>rw [hk] at hx; exact hx.elim
    ·rw [h0] at hx
     cases hk:κ (sg σ nx j) with
     | tree V E d=>exact .inl ⟨_,_,_,rfl⟩
     | fz V d=>exact .inr ⟨_,_,rfl⟩
     | _=>rw [hk] at hx; exact hx.elim)
   (hout rs K1 hRr) hC
  have st3:=st1.turn t1 (fun i hi=>t2 i (by omega))
  refine ⟨v,rs,K1,_,rfl,hRr,st3.congr ?_,t3⟩
  rw [updl_append]
theorem op_acallR {hd:Option Nat} {S:List AV→Nat→Boxes→Nat→(List AV→Boxes→Prop)→Prop} {I:Nat→Inv} {ok:Nat→Prop} {l:List AV} (hS:∀args m K ex R,S args m K ex R→ok m∧ISpecR (I m) args m K ex R) (hI:∀m,InvMono (I m)) (hnd:∀c,o.op ≠ .defer c)
  (hn:∀i,nx≤i→κ i=.none) (hg:gval ρ ops o.guard=some gd) (hev:∀m,ok m→InvEv P ops n o ρ κ gd hd C m (I m) l) (h:acallR hd S n o gd nx κ k l):Good P C ops n o nx ρ κ k:=by
 obtain ⟨σ,args0,K0,ex,rs,K1,hspec,hchk,hout,hsW,hsB,hk⟩:=h
 rw [(forceA_eq (SizeOf.sizeOf (ren (sg σ nx) (shs κ σ) (resC rs))+1)).1 _ _ (by omega),normV_eq,forceK_eq,normK_eq] at hk
 have hout':=hout
 simp only [outKChk,Bool.and_eq_true] at hout'
 obtain ⟨⟨⟨hkeep,hkl1⟩,_⟩,_⟩:=hout'
 have hσ1:∀i,i∈σ→i<nx:=by
  have:=hchk
  simp only [callChk,Bool.and_eq_true] at this
  exact (sigOk_spec this.1.1.1.1.1.1.1).1
 have hbx:∀p,p∈renK (sg σ nx) (shs κ σ) K1++frz κ (fidws κ (rens (sg σ nx) zsh args0) l++fidsB κ (renK (sg σ nx) zsh K0))→p.1<nx+ex:=by
  intro p hp
  rcases List.mem_append.1 hp with hp | hp
  ·obtain ⟨j,h1,h2⟩:=mem_renK (i:=p.1) (b:=p.2) hp
   have hj:=keysLt_mem hkl1 j h1
   rw [h2]
   rcases Nat.lt_or_ge j σ.length with hlt | hge
   ·have:=hσ1 _ (by rw [sg_lt hlt]; exact List.getElem_mem hlt:sg σ nx j∈σ); omega
   ·rw [sg_ge hge]; omega
  ·have:=frz_lt hn hp; omega
 refine snd_boxG hnd hg hk (Nat.le_add_right _ _) hbx fun ρ' κ' hag Fn hF g a w G hgm hst hgd K hK=>?_
 obtain ⟨vs,hrel,hcall⟩:=hev σ.length (hS _ _ _ _ _ hspec).1 ρ' κ' _ _ hag g a w G hgm.2 hst hgd
 obtain ⟨β,hβ,hrun⟩:=callR_core (hd:=hd) (hI _) (hS _ _ _ _ _ hspec).2 hn hchk hsW hsB (fun rs' K1' hR=>by obtain ⟨rfl,rfl⟩:=hR; exact hout) (fun j hj=>by
  rcases keepOk_spec hkeep j hj with ⟨_,_,h,_⟩ | ⟨_,_,_,_,_,_,h,_⟩ | ⟨_,_,_,h,_⟩ | ⟨_,_,_,h,_⟩ <;> rw [h] <;> rfl) hgm.1 hst hrel hag.reads
 refine hcall Fn hF β hβ K (hI _ _ _ _ _ _ ?_ hrun)
 rintro e w2 ⟨v,rs',K1',G3,rfl,⟨rfl,rfl⟩,h1,h2⟩
 exact ⟨v,rfl,hK v w2 G3 h1 h2⟩
theorem invEv_call {f:Nat} {l:List AV} (hev:CallEv P ops o ρ κ gd f l) (hc:Callable P f) (m:Nat):InvEv P ops n o ρ κ gd none C m (callF P f) l:=by
 intro ρ' κ' rd bx hag g a w G _ hst hgd
 obtain ⟨vs,hrun,hrel⟩:=hev.2 ρ' κ' rd bx hag g n a w G hst hgd hc
 exact ⟨vs,hrel,fun F hF β _ K hI=>wpIn_call hF hev.1 hrun hI⟩
theorem invEv_yield {c:Call} {t i:Nat} {l:List AV} (ho:o.op=.call c) (hc:c.callee=.value (.tmp t)) (hv:EvOk ρ κ gd (.tmp t) (.yld i)) (hev:EvsOk ρ κ gd c.args.toList l) (m:Nat):InvEv P ops n o ρ κ gd (some i) C m (callY P) l:=by
 intro ρ' κ' rd bx hag g a w G _ hst hgd
 have hrel:=EvsOk.rel hst hgd hev (fun x hx=>hag.op (by rw [ho]; simp only [Op.operands,Call.operands,hc]; exact Array.mem_append.2 (.inr (by simpa using hx))))
 have hcal:=hv ρ' κ' (hag.op (by rw [ho]; simp only [Op.operands,Call.operands,hc]; exact Array.mem_append.2 (.inl (by simp)))) g n a w G hst hgd
 have hargs:(List.map a.eval c.args.toList).toArray=c.args.map a.eval:=by rw [←Array.toList_map,Array.toArray_toList]
 generalize hx:a.eval (.tmp t)=x at hcal
 cases hcal with | yld _ b hb =>
 refine ⟨_,hrel,fun F hF β hβ K hI=>?_⟩
 obtain ⟨l',h1,fn,tmps,assign,body,w1,h2,h3⟩:=hI
 rw [hβ i rfl,hb] at h1
 injection h1 with h1
 subst h1
 rw [hargs] at h2
 have hrun:(execOp a.eval o).run P w=.ok (.round b fn tmps assign body) w1:=by
  rw [←h2]
  simp [execOp,ho,resolve,hc,hx,Deferred.ofValue,invoke]
 refine ⟨fun f _=>hF.fn f,?_⟩
 rw [Oper.semAt_plain F _ _ (fun c=>by rw [ho]; simp),hrun,Oper.uponIn_round]
 refine ⟨fun h=>(by rw [hF.depth] at h; cases h),hF.round.2 (RoundIn.mono h3 ?_)⟩
 rintro e w' ⟨v,rfl,hk⟩
 exact hk
theorem calls_snd (P:Program):CallsSnd P (fun _=>True):=by
 intro ops n o nx ρ κ k hn
 refine ⟨fun {gd f l} hg hev h=>?_,fun hg ho hc hv hev h=>?_⟩
 ·have hcb:Callable P f:=by obtain ⟨_,_,_,_,_,_,hspec,_⟩:=h; exact hspec.1
  exact op_acallR (I:=fun _=>callF P f) (ok:=fun _=>True) (fun _ _ _ _ _ hs=>⟨tv,hs.2⟩) (fun _=>callF_mono P _) hev.1 hn hg (fun m _=>invEv_call hev hcb m) h
 ·exact op_acallR (I:=fun _=>callY P) (ok:=fun _=>True) (fun _ _ _ _ _ hs=>⟨tv,hs⟩) (fun _=>callY_mono P) (fun c=>by rw [ho]; simp) hn hg (fun m _=>invEv_yield ho hc hv hev m) h
end
end Go.TM
namespace Go.TM
open Go.RowKit
variable [Glob]
section
variable {P:Program} {C:Org→Prop} {T:List TI}
theorem keyT_basic {kt:Nat} {d:TypeDesc} {s:KS} (hd:P.underlying kt=some d) (h:∀k v,s.ok k=true→keyVal k=some v→MapKept.IsKey d v):KeyT P kt s where
 check w em v:=fun ⟨k,h1,h2⟩=>MapKept.run_checkKey hd (h k v h1 h2) em 9999
 find w x:=fun ⟨k,h1,h2⟩ es hes=>by
  rcases MapKept.findNow_spec (h k x h1 h2) es 0 (fun e he=>let ⟨k',h1',h2'⟩:=hes e he; h k' _ h1' h2') with ⟨q1,q2⟩ | ⟨j,e,q1,q2,q3⟩
  ·exact .inl ⟨MapKept.run_findKey hd q1,q2⟩
  ·exact .inr ⟨j,e,by simpa using MapKept.run_findKey (P:=P) (w:=w) hd q1,q2,q3⟩
 stays w v:=fun ⟨k,h1,h2⟩=>MapKept.run_keyThatStays (h k v h1 h2)
def intK:KS:=⟨false,[.int .i64]⟩
def strK:KS:=⟨false,[.str]⟩
theorem keyT_int (hT:TOk P T) {kt:Nat} (h:((nth T kt).ok && (nth T kt).ikd == some .i64)=true):KeyT P kt intK:=by
 simp only [Bool.and_eq_true,beq_iff_eq] at h
 obtain ⟨i,u,z,tf⟩:=hT.facts h.1
 have hu:u=.int .i64:=by
  have:=tf.ikd
  rw [h.2] at this
  cases u <;> simp [ikdOf] at this
  rw [this]
 refine keyT_basic (d:=.int .i64) (by rw [tf.und,hu]) fun k v hk hv=>?_
 cases k <;> simp [KS.ok,intK,tagOk] at hk
 subst hk
 simp [keyVal,DV.val?] at hv
 subst hv
 rfl
theorem keyT_str (hT:TOk P T) {kt:Nat} (h:((nth T kt).ok && (nth T kt).isStr)=true):KeyT P kt strK:=by
 simp only [Bool.and_eq_true] at h
 obtain ⟨i,u,z,tf⟩:=hT.facts h.1
 refine keyT_basic (d:=.string) (tf.string h.2) fun k v hk hv=>?_
 cases k <;> simp [KS.ok,strK,tagOk] at hk
 simp [keyVal,DV.val?] at hv
 subst hv
 trivial
def pairK:KS:=⟨true,[.int .i64,.int .i64]⟩
theorem pairK_val {k:DV} {v:Value} (h:pairK.ok k=true) (hv:keyVal k=some v):∃a b:Int,v=.agg #[.int .i64 a,.int .i64 b]:=by
 cases k with
 | agg l =>
  match l,h with
  | [x,y],h =>
   cases x <;> simp [KS.ok,pairK,tagsOk,tagOk] at h
   cases y <;> simp [tagOk] at h
   obtain ⟨rfl,rfl⟩:=h
   simp [keyVal,DV.vals?,DV.val?] at hv
   exact ⟨_,_,hv.symm⟩
  | [],h=>simp [KS.ok,pairK,tagsOk] at h
  | [_],h=>simp [KS.ok,pairK,tagsOk] at h
  | _::_::_::_,h=>simp [KS.ok,pairK,tagsOk] at h
 | _=>simp [KS.ok,pairK] at h
theorem isI64_eq {t:Option TypeDesc} (h:isI64 t=true):t=some (.int .i64):=by
 cases t with
 | none=>simp [isI64] at h
 | some d=>cases d <;> simp [isI64] at h; rename_i k; cases k <;> simp [isI64] at h; rfl
theorem run_part_cell {w:World} {e:TypeId} (he:P.underlying e=some (.int .i64)) {xs:Array Value} {off:Nat} {v:Value} (hx:xs[off]?=some v):(part e xs off).run P w=.ok v w:=by
 simp [part,isAgg,run_underlying he,hx]
theorem equal_pair {kt:Nat} {fs:Array Field} (hu:P.underlying kt=some (.struct fs)) (hp:pairL P fs.toList=true) (hs:P.stoodInHeld kt=false) (w:World) (a b c d:Int) :
  (Op.equal kt (.agg #[.int .i64 a,.int .i64 b]) (.agg #[.int .i64 c,.int .i64 d])).run P w=.ok (a == c && b == d) w:=by
 have hf:P.fieldsOf kt=fs:=by simp [Program.fieldsOf,hu]
 have key:∀D,(Op.equalIn (D+2) kt (.agg #[.int .i64 a,.int .i64 b]) (.agg #[.int .i64 c,.int .i64 d])).run P w=.ok (a == c && b == d) w:=by
  intro D
  rw [run_equalIn_struct w (D+1) kt _ _ (by rw [hf]; exact hu) hs,hf]
  match hl:fs.toList,hp with
  | [x,y],hp =>
   simp only [hl,pairL,Bool.and_eq_true,bne_iff_ne] at hp
   obtain ⟨⟨⟨⟨⟨n1,n2⟩,o1⟩,o2⟩,i1⟩,i2⟩:=hp
   have o1:=Nat.eq_of_beq_eq_true o1
   have o2:=Nat.eq_of_beq_eq_true o2
   have i1:=isI64_eq i1
   have i2:=isI64_eq i2
   simp only [Op.eqFields,n1,n2,ne_eq,not_false_eq_true,if_true,Sem.run_bind,o1,o2]
   rw [run_part_cell (v:=.int .i64 a) i1 (by simp)]
   simp only [Result.andThen_ok]
   rw [run_part_cell (v:=.int .i64 c) i1 (by simp)]
   simp only [Result.andThen_ok]
   rw [run_equalIn_int w D x.type .i64 .i64 a c i1]
   simp only [Result.andThen_ok]
   cases hac:a == c with
   | false=>simp
   | true =>
    simp only [Bool.not_true,Bool.false_eq_true,if_false,Sem.run_bind]
    rw [run_part_cell (v:=.int .i64 b) i2 (by simp)]
    simp only [Result.andThen_ok]
    rw [run_part_cell (v:=.int .i64 d) i2 (by simp)]
    simp only [Result.andThen_ok]
    rw [run_equalIn_int w D y.type .i64 .i64 b d i2]
    simp only [Result.andThen_ok]
    cases hbd:b == d <;> simp
 simp only [Op.equal,Op.maxDepth,key 9998]
theorem keyT_pair (hT:TOk P T) {kt:Nat} (h:((nth T kt).ok && (nth T kt).pair)=true):KeyT P kt pairK:=by
 simp only [Bool.and_eq_true] at h
 obtain ⟨i,u,z,tf⟩:=hT.facts h.1
 have hp:=tf.pair
 rw [h.2] at hp
 have hp:=hp.symm
 simp only [Bool.and_eq_true,Bool.not_eq_true'] at hp
 obtain ⟨fs,rfl⟩:∃fs,u=.struct fs:=by
  cases u <;> simp [pairOf] at hp
  exact ⟨_,rfl⟩
 have hl:pairL P fs.toList=true:=hp.1
 have hu:=tf.und
 have hv:∀{v:Value},(∃d,pairK.ok d=true∧keyVal d=some v)→∃a b:Int,v=.agg #[.int .i64 a,.int .i64 b]:=fun ⟨d,h1,h2⟩=>pairK_val h1 h2
 refine ⟨fun w em v hk=>?_,fun w x hx es hes=>?_,fun w v hk=>?_⟩
 ·obtain ⟨a,b,rfl⟩:=hv hk
  have key:∀D,(Instr.checkKey em (D+2) kt (.agg #[.int .i64 a,.int .i64 b])).run P w=.ok () w:=by
   intro D
   match hf:fs,hl with
   | ⟨[x,y]⟩,hl =>
    simp only [pairL,Bool.and_eq_true,bne_iff_ne] at hl
    obtain ⟨⟨⟨⟨⟨n1,n2⟩,o1⟩,o2⟩,i1⟩,i2⟩:=hl
    have o1:=Nat.eq_of_beq_eq_true o1
    have o2:=Nat.eq_of_beq_eq_true o2
    have i1:=isI64_eq i1
    have i2:=isI64_eq i2
    have c1:∀(E:Nat) (n:Int),(Instr.checkKey em (E+1) x.type (.int .i64 n)).run P w=.ok () w:=fun E n=>by simp [Instr.checkKey,run_underlying i1]
    have c2:∀(E:Nat) (n:Int),(Instr.checkKey em (E+1) y.type (.int .i64 n)).run P w=.ok () w:=fun E n=>by simp [Instr.checkKey,run_underlying i2]
    rw [Instr.checkKey]
    simp only [Sem.run_bind,run_underlying hu,Result.andThen_ok]
    simp [n1,n2,o1,o2,run_part_cell (v:=.int .i64 a) i1,run_part_cell (v:=.int .i64 b) i2,c1,c2]
  exact key 9998
 ·have hw:(match P.underlying kt with | some (.array _ _) | some (.struct _)=>true | _=>false)=true:=by rw [hu]
  obtain ⟨a,b,rfl⟩:=hv hx
  have key:∀(es:List MapEntry) (i:Nat),(∀e,e∈es→∃d,pairK.ok d=true∧keyVal d=some e.key) →
    ((Instr.findAsking kt (.agg #[.int .i64 a,.int .i64 b]) es i).run P w=.ok none w∧∀e,e∈es→e.key ≠ .agg #[.int .i64 a,.int .i64 b]) ∨
    ∃j e,(Instr.findAsking kt (.agg #[.int .i64 a,.int .i64 b]) es i).run P w=.ok (some (i+j,e.val)) w∧es[j]?=some e∧e.key=.agg #[.int .i64 a,.int .i64 b]:=by
   intro es
   induction es with
   | nil=>intro i _; exact .inl ⟨by simp [Instr.findAsking],by simp⟩
   | cons e r ih =>
    intro i hes
    obtain ⟨c,d,hk⟩:=hv (hes e (by simp))
    have heq:=equal_pair hu hl hp.2 w a b c d
    rw [←hk] at heq
    cases hb:(a == c && b == d) with
    | true =>
     rw [hb] at heq
     simp only [Bool.and_eq_true,beq_iff_eq] at hb
     refine .inr ⟨0,e,?_,rfl,by rw [hk,hb.1,hb.2]⟩
     simp only [Instr.findAsking,Sem.run_bind,heq,Result.andThen_ok,if_true,Sem.run_pure,Nat.add_zero]
    | false =>
     rw [hb] at heq
     have hne:e.key ≠ .agg #[.int .i64 a,.int .i64 b]:=by
      rw [hk]
      intro e'
      simp only [Value.agg.injEq,Array.mk.injEq,List.cons.injEq,Value.int.injEq,true_and,and_true] at e'
      obtain ⟨rfl,rfl⟩:=e'
      simp at hb
     have hrun:(Instr.findAsking kt (.agg #[.int .i64 a,.int .i64 b]) (e::r) i).run P w=(Instr.findAsking kt (.agg #[.int .i64 a,.int .i64 b]) r (i+1)).run P w:=by
      simp only [Instr.findAsking,Sem.run_bind,heq,Result.andThen_ok,Bool.false_eq_true,if_false]
     rcases ih (i+1) (fun e he=>hes e (by simp [he])) with ⟨q1,q2⟩ | ⟨j,e',q1,q2,q3⟩
     ·exact .inl ⟨hrun.trans q1,fun e0 he0=>by rcases List.mem_cons.1 he0 with rfl | he0; exact hne; exact q2 _ he0⟩
     ·exact .inr ⟨j+1,e',by rw [hrun,q1]; congr 3; omega,by simpa using q2,q3⟩
  rw [run_findKey_eq w hw]
  rcases key es 0 hes with h1 | ⟨j,e,q1,q2,q3⟩
  ·exact .inl h1
  ·exact .inr ⟨j,e,by simpa using q1,q2,q3⟩
 ·obtain ⟨a,b,rfl⟩:=hv hk
  have:Instr.sameBits 10000 (.agg #[.int .i64 a,.int .i64 b]) (.agg #[.int .i64 a,.int .i64 b])=true:=by simp [Instr.sameBits]
  simp [Instr.keyThatStays,this]
end
end Go.TM
namespace Go.TM
open Go.RowKit
variable [Glob]
theorem slots_length (ρ:Nat→AV):∀(k s:Nat),(slots ρ s k).length=k
 | 0,_=>rfl
 | k+1,s=>by simp [slots,slots_length ρ k]
theorem slots_get (ρ:Nat→AV):∀(k s j:Nat) (v:AV),(slots ρ s k)[j]?=some v→v=ρ (s+j)
 | 0,_,j,v,h=>by simp [slots] at h
 | k+1,s,0,v,h=>by simp [slots] at h; exact h.symm
 | k+1,s,j+1,v,h=>by
  simp only [slots,List.getElem?_cons_succ] at h
  rw [slots_get ρ k (s+1) j v h,Nat.add_right_comm,Nat.add_assoc]
section
variable {g:Org} {n:Nat} {ρ:Nat→AV} {κ:Nat→Box} {a:Act} {w:World} {G:Gh}
theorem StM.putOwn (h:StM g n ρ κ a w G) {i b:Nat} {o:Obj} {bx:Box} (hown:Own G i (κ i) b) (honly:∀c,Own G i bx c→c=b) (hbox:BoxAt G (w.putObj b o) i bx) :
  StM g n ρ (upd κ i bx) a (w.putObj b o) G:=by
 have hlt:b<w.heap.size:=hown.lt h.fit
 have hMl:G.M b=none:=h.fit.own i b hown
 refine h.turn (C:=fun j=>j=i) ⟨.refl G,fun _ _=>rfl,fun j hj=>upd_other _ _ hj,fun _ _=>⟨fun _ q=>q,fun _ _ _ _ q=>q⟩,fun c hc hno=>⟨putObj_other _ _ (fun e=>hno i rfl (by rw [e]; exact hown)),rfl⟩,fun c o' hc=>?_,?_,?_,fun _ _ _ h1 h2 _ _=>h1.trans h2.symm,by rw [putObj_size]; exact Nat.le_refl _,rfl,rfl,rfl⟩ (fun _ _=>rfl)
 ·rw [putObj_other _ _ (fun e=>by rw [e,hMl] at hc; cases hc)]; exact h.fit.sub c o' hc
 ·rintro j rfl
  rw [upd_same]; exact hbox
 ·rintro j c rfl ho
  rw [upd_same] at ho
  have:=honly c ho
  subst this
  exact ⟨.inr ⟨j,rfl,hown⟩,hMl⟩
theorem StM.setRcd (h:StM g n ρ κ a w G) {i b:Nat} {rc:RC} {st:RSt} {l:List AV} (hi:κ i=.rcd rc st l) (hb:G.β i=some b) :
  ∃r:Loop,w.heap[b]?=some (.loop r)∧r.state=st.st∧r.pending=st.pend∧(∀st':RSt,StM g n ρ (upd κ i (.rcd rc st' l)) a (w.putObj b (.loop { r with state:=st'.st,pending:=st'.pend })) G) ∧
   ∀o,StM g n ρ (upd κ i .dead) a (w.putObj b o) G:=by
 have hx:=h.fit.box i
 rw [hi] at hx
 obtain ⟨b',fn,tmps,D,h1,h2,h3⟩:=hx
 rw [hb] at h1; injection h1 with h1; subst h1
 have hlt:b<w.heap.size:=(Array.getElem?_eq_some_iff.1 h2).1
 have hown:Own G i (κ i) b:=by rw [hi]; exact hb
 refine ⟨_,h2,rfl,rfl,fun st'=>h.putOwn hown (fun c hc=>?_) ⟨b,fn,tmps,D,hb,World.putObj_heap_same hlt,h3⟩,fun o=>h.putOwn hown (fun c hc=>hc.elim) trivial⟩
 have hc':G.β i=some c:=hc
 rw [hb] at hc'; injection hc' with hc'; exact hc'.symm
def Org.upto (g:Org) (m:Nat) (β:Nat→Option Nat):Org:={ g with m:=m,β:=β,H:=fun i p=>if i<g.m then g.H i p else none }
theorem StM.upto (h:StM g n ρ κ a w G) (m:Nat):StM (g.upto m G.β) n ρ κ a w G:=by
 refine ⟨h.fit,h.env,h.size,h.bel,h.os,h.tape,h.output,h.grow,h.mem,h.mlow,h.ownhi,fun _ _=>rfl,fun i _ p x hx=>?_,h.glob,h.dfr⟩
 have hx':(if i<g.m then g.H i p else none)=some x:=hx
 split at hx'
 ·rename_i hi; exact h.hed i hi p x hx'
 ·cases hx'
theorem StM.downto {β:Nat→Option Nat} {m:Nat} (h:StM (g.upto m β) n ρ κ a w G) (hm:g.m≤m) (hβ:∀i,i<g.m→β i=g.β i):StM g n ρ κ a w G:=by
 refine ⟨h.fit,h.env,h.size,h.bel,h.os,h.tape,h.output,h.grow,h.mem,h.mlow,h.ownhi,fun i hi=>(h.bet i (Nat.lt_of_lt_of_le hi hm)).trans (hβ i hi),fun i hi p x hx=>h.hed i (Nat.lt_of_lt_of_le hi hm) p x ?_,h.glob,h.dfr⟩
 show (if i<g.m then g.H i p else none)=some x
 rw [if_pos hi]; exact hx
theorem StM.enterLoop (h:StM g n ρ κ a w G) {nx:Nat} (hn:κ nx=.none) (hgm:g.m≤nx) (rc:RC) (fn:FuncId) :
  StM g n ρ (upd κ nx (.rcd rc .ready (slots ρ 0 n))) { a with defers:=mark w.heap.size::a.defers } ((w.alloc (.deferred (some []))).alloc (.loop { state:=.ready,pending:=none,fn:=fn,tmps:=a.tmps,params:=rc.ps,assign:=rc.as,body:=rc.bd,defers:=w.heap.size })) { G with β:=upd G.β nx (some (w.heap.size+1)) } ∧
   Gh.Le G { G with β:=upd G.β nx (some (w.heap.size+1)) }:=by
 have hbn:=h.fit.box nx
 rw [hn] at hbn
 generalize hr:({ state:=.ready,pending:=none,fn:=fn,tmps:=a.tmps,params:=rc.ps,assign:=rc.as,body:=rc.bd,defers:=w.heap.size }:Loop)=r
 have hle:Gh.Le G { G with β:=upd G.β nx (some (w.heap.size+1)) } :=
  ⟨Mem.Le.refl _,fun i b hb=>by
   by_cases e:i=nx
   ·subst e; rw [hbn.1] at hb; cases hb
   ·show upd G.β nx _ i=some b
    rw [upd_other _ _ e]; exact hb,fun _ _ _ _ _ q=>q⟩
 have hsz:((w.alloc (.deferred (some []))).alloc (.loop r)).heap.size=w.heap.size+2:=by rw [World.size_alloc,World.size_alloc]
 have hlow:∀b,b<w.heap.size→((w.alloc (.deferred (some []))).alloc (.loop r)).heap[b]?=w.heap[b]?:=fun b hb=>by
  rw [heap_alloc_lt _ _ (by rw [World.size_alloc]; omega),heap_alloc_lt _ _ hb]
 have hat0:((w.alloc (.deferred (some []))).alloc (.loop r)).heap[w.heap.size]?=some (.deferred (some [])):=by
  rw [heap_alloc_lt _ _ (by rw [World.size_alloc]; omega)]; exact heap_alloc_at _ _
 have hat1:((w.alloc (.deferred (some []))).alloc (.loop r)).heap[w.heap.size+1]?=some (.loop r):=by
  have:=heap_alloc_at (w.alloc (.deferred (some []))) (.loop r)
  rwa [World.size_alloc] at this
 have hMin:G.M.In ((w.alloc (.deferred (some []))).alloc (.loop r)):=(h.fit.sub.alloc _).alloc _
 have hMhi:∀b,w.heap.size≤b→G.M b=none:=fun b hb=>Mem.In.none_of h.fit.sub hb
 have hcr:CRel { G with β:=upd G.β nx (some (w.heap.size+1)) } (slots ρ 0 n) a.tmps.toList:=by
  refine ⟨by rw [slots_length]; simp [h.size],fun j d v hd hv=>?_⟩
  have:=slots_get ρ n 0 j d hd
  rw [Nat.zero_add] at this
  subst this
  have he:=(h.env j).mono hle
  have hv':a.tmps.getD j undef=v:=by
   rw [Array.getD_eq_getD_getElem?]
   rw [Array.getElem?_toList] at hv
   rw [hv]; rfl
  rw [hv'] at he; exact he
 have st:=h.turn (κ':=upd κ nx (.rcd rc .ready (slots ρ 0 n))) (G':={ G with β:=upd G.β nx (some (w.heap.size+1)) }) (w':=(w.alloc (.deferred (some []))).alloc (.loop r)) (C:=fun j=>j=nx)
  ⟨hle,fun _ _=>rfl,fun j hj=>upd_other _ _ hj,fun j hj=>⟨fun x hx=>by
    have:upd G.β nx (some (w.heap.size+1)) j=some x:=hx
    rwa [upd_other _ _ hj] at this,fun _ _ _ _ q=>q⟩,fun b hb _=>⟨hlow b hb,rfl⟩,hMin,by
    rintro j rfl
    rw [upd_same]
    exact ⟨w.heap.size+1,fn,a.tmps,w.heap.size,upd_same _ _ _,by rw [hat1,←hr]; rfl,hcr⟩,by
    rintro j b rfl ho
    rw [upd_same] at ho
    have hb:some (w.heap.size+1)=some b:=by
     have:upd G.β j (some (w.heap.size+1)) j=some b:=ho
     rwa [upd_same] at this
    injection hb with hb
    exact ⟨.inl (by omega),hMhi b (by omega)⟩,fun _ _ _ h1 h2 _ _=>h1.trans h2.symm,by rw [hsz]; omega,rfl,rfl,rfl⟩
  (fun i hi=>by
   show upd G.β nx _ i=G.β i
   exact upd_other _ _ (by omega))
 refine ⟨{ st with dfr:=?_ },hle⟩
 obtain ⟨D,h1,h2,h3⟩:=h.dfr
 have hDlt:∀q,q∈D→q<w.heap.size:=fun q hq=>(Array.getElem?_eq_some_iff.1 (h3 q hq).1).1
 have key:∀i,∀q,q≤w.heap.size→Own { G with β:=upd G.β nx (some (w.heap.size+1)) } i (upd κ nx (.rcd rc .ready (slots ρ 0 n)) i) q→Own G i (κ i) q:=by
  intro i q hq ho
  by_cases e:i=nx
  ·subst e
   rw [upd_same] at ho
   have:upd G.β i (some (w.heap.size+1)) i=some q:=ho
   rw [upd_same] at this
   injection this with this
   omega
  ·rw [upd_other _ _ e] at ho
   cases hk:κ i with
   | cells l=>rw [hk] at ho; have:upd G.β nx (some (w.heap.size+1)) i=some q:=ho; rwa [upd_other _ _ e] at this
   | rcd rc st l=>rw [hk] at ho; have:upd G.β nx (some (w.heap.size+1)) i=some q:=ho; rwa [upd_other _ _ e] at this
   | itr a b c d f=>rw [hk] at ho; exact ho.imp id fun ho=>by have:upd G.β nx (some (w.heap.size+1)) i=some q:=ho; rwa [upd_other _ _ e] at this
   | _=>rw [hk] at ho; exact ho
 refine ⟨w.heap.size::D,by rw [List.map_cons,←h1],List.nodup_cons.2 ⟨fun hm=>Nat.lt_irrefl _ (hDlt _ hm),h2⟩,fun q hq=>?_⟩
 rcases List.mem_cons.1 hq with rfl | hq
 ·exact ⟨hat0,fun i ho=>Nat.lt_irrefl _ ((key i _ (Nat.le_refl _) ho).lt h.fit),hMhi _ (Nat.le_refl _),h.grow⟩
 ·obtain ⟨a1,a2,a3,a4⟩:=h3 q hq
  exact ⟨by rw [hlow q (hDlt q hq)]; exact a1,fun i ho=>a2 i (key i q (Nat.le_of_lt (hDlt q hq)) ho),a3,a4⟩
end
end Go.TM
namespace Go.TM
open Go.RowKit
variable [Glob]
theorem lookB_cons (i:Nat) (b:Box) (K:Boxes):lookB ((i,b)::K)=upd (lookB K) i b:=by
 funext t
 simp only [lookB,upd]
 by_cases h:t=i
 ·subst h; simp
 ·rw [if_neg h]; simp [beq_false h]
theorem neK_spec {κ:Nat→Box}:∀{m:Nat},neK κ m=true→∀j,j<m→(κ j).pass=true
 | 0,_,j,hj=>by omega
 | m+1,h,j,hj=>by
  simp only [neK,Bool.and_eq_true] at h
  rcases Nat.lt_or_ge j m with hlt | hge
  ·exact neK_spec h.2 j hlt
  ·have:j=m:=by omega
   subst this; exact h.1
theorem range_snd0 (P:Program):RangeSnd0 P:=by
 intro g n nx env K a w x ps assign body Q R h hs hR
 obtain ⟨rc,rfl,h⟩:=h
 obtain ⟨⟨G,hst⟩,hgm,hn⟩:=hs
 have core:∀(f:Nat) (caps:List AV) (vs:List Value),a.eval x=.func (.func f) #[] vs.toArray→CRel G caps vs →
   arangeF P nx env ((nx,.rcd ⟨ps,assign,body⟩ .ready (slots (look env) 0 n))::K) f caps Q→(Code.rangeFunc x ps assign body).wpIn Fence.wide 0 P R a w:=by
  intro f caps vs hx hcr hh
  obtain ⟨σ,args0,K0,ex,R0,hspec,hchk,hsW,hsB,hout⟩:=hh
  refine wpIn_rangeFunc fun fn _=>?_
  obtain ⟨st1,hle⟩:=hst.enterLoop (hn nx (Nat.le_refl _)) hgm ⟨ps,assign,body⟩ fn
  rw [←lookB_cons] at st1
  have st2:=st1.upto (nx+1)
  have hbet:∀i,i<g.m→upd G.β nx (some (w.heap.size+1)) i=g.β i:=fun i hi=>by rw [upd_other _ _ (by omega)]; exact hst.bet i hi
  simp only [Bool.and_eq_true] at hchk
  have hrel:CRel { G with β:=upd G.β nx (some (w.heap.size+1)) } (.yld nx::caps) (.func (.yield (w.heap.size+1)) #[] #[]::vs):=by
   have h1:CRel { G with β:=upd G.β nx (some (w.heap.size+1)) } [.yld nx] [.func (.yield (w.heap.size+1)) #[] #[]] :=
    ⟨rfl,fun j d v hd hv=>by
     cases j with
     | zero=>simp at hd hv; subst hd; subst hv; exact .yld nx _ (upd_same _ _ _)
     | succ j=>simp at hd⟩
   exact h1.append (hcr.mono hle)
  obtain ⟨β,_,hrun⟩:=callR_core (hd:=none) (nx:=nx+1) (κ:=lookB ((nx,.rcd ⟨ps,assign,body⟩ .ready (slots (look env) 0 n))::K)) (callF_mono P f) hspec.2
   (fun i hi=>by rw [lookB_cons,upd_other _ _ (by omega)]; exact hn i (by omega)) (by simp only [Bool.and_eq_true]; exact ⟨hchk.1,rfl⟩) hsW hsB (fun rs K1 hr=>(hout rs K1 hr).1) (neK_spec hchk.2) (Nat.le_refl _) st2 hrel (fun _ _=>rfl)
  refine ⟨w.heap.size+1,[mark w.heap.size],((w.alloc (.deferred (some []))).alloc (.loop { state:=.ready,pending:=none,fn:=fn,tmps:=a.tmps,params:=ps,assign:=assign,body:=body,defers:=w.heap.size })),⟨.fn (.func f) vs.toArray,#[.func (.yield (w.heap.size+1)) #[] #[]]⟩,((w.alloc (.deferred (some []))).alloc (.loop { state:=.ready,pending:=none,fn:=fn,tmps:=a.tmps,params:=ps,assign:=assign,body:=body,defers:=w.heap.size })),f,(Value.func (.yield (w.heap.size+1)) #[] #[]::vs).toArray,((w.alloc (.deferred (some []))).alloc (.loop { state:=.ready,pending:=none,fn:=fn,tmps:=a.tmps,params:=ps,assign:=assign,body:=body,defers:=w.heap.size })),run_enterLoop_outer fn a.tmps ps assign body,?_,fun _ _=>trivial,?_,(fun h=>by cases h),?_⟩
  ·have h0:(#[]++Array.map a.eval #[Operand.const (Value.func (Fn.yield (w.heap.size+1)) #[] #[])])=#[Value.func (Fn.yield (w.heap.size+1)) #[] #[]]:=by simp [Act.eval]
   simp only [resolve,rangeCall,hx,Deferred.ofValue,Sem.run_pure]
   rw [h0]
  ·have:(#[Value.func (.yield (w.heap.size+1)) #[] #[]]++vs.toArray)=(Value.func (.yield (w.heap.size+1)) #[] #[]::vs).toArray:=by simp
   simp only [invoke]
   rw [this]
   exact callable_run hspec.1 _ _
  ·refine (wide_wide.calls).2 (Calls.mono hrun ?_)
   rintro e w2 ⟨v,rs,K2,G3,rfl,hr0,st3,_⟩
   obtain ⟨hko,hq⟩:=hout rs K2 hr0
   rw [forceK_eq] at hq
   rw [←lookB_addB] at st3
   have hnone:∀i,nx+1+ex≤i→lookB (addB (renK (sg σ (nx+1)) (shs (lookB ((nx,.rcd ⟨ps,assign,body⟩ .ready (slots (look env) 0 n))::K)) σ) K2++frz (lookB ((nx,.rcd ⟨ps,assign,body⟩ .ready (slots (look env) 0 n))::K)) (fidws (lookB ((nx,.rcd ⟨ps,assign,body⟩ .ready (slots (look env) 0 n))::K)) (rens (sg σ (nx+1)) zsh args0) (.yld nx::caps)++fidsB (lookB ((nx,.rcd ⟨ps,assign,body⟩ .ready (slots (look env) 0 n))::K)) (renK (sg σ (nx+1)) zsh K0))) ((nx,.rcd ⟨ps,assign,body⟩ .ready (slots (look env) 0 n))::K)) i=.none:=by
    have hn1:∀i,nx+1≤i→lookB ((nx,.rcd ⟨ps,assign,body⟩ .ready (slots (look env) 0 n))::K) i=.none:=fun i hi=>by rw [lookB_cons,upd_other _ _ (by omega)]; exact hn i (by omega)
    refine none_after hn1 (Nat.le_add_right _ _) fun p hp=>?_
    have hkl1:keysLt (σ.length+ex) K2=true:=by
     have:=hko
     simp only [outKChk,Bool.and_eq_true] at this
     exact this.1.1.2
    have hσ1:∀i,i∈σ→i<nx+1:=by
     have:=hchk.1
     simp only [callChk,Bool.and_eq_true] at this
     exact (sigOk_spec this.1.1.1.1.1.1).1
    rcases List.mem_append.1 hp with hp | hp
    ·obtain ⟨j,h1,h2⟩:=mem_renK (i:=p.1) (b:=p.2) hp
     have hj:=keysLt_mem hkl1 j h1
     rw [h2]
     rcases Nat.lt_or_ge j σ.length with hlt | hge
     ·have:=hσ1 _ (by rw [sg_lt hlt]; exact List.getElem_mem hlt:sg σ (nx+1) j∈σ); omega
     ·rw [sg_ge hge]; omega
    ·have:=frz_lt hn1 hp; omega
   generalize hK3:addB (renK (sg σ (nx+1)) (shs (lookB ((nx,.rcd ⟨ps,assign,body⟩ .ready (slots (look env) 0 n))::K)) σ) K2++frz (lookB ((nx,.rcd ⟨ps,assign,body⟩ .ready (slots (look env) 0 n))::K)) (fidws (lookB ((nx,.rcd ⟨ps,assign,body⟩ .ready (slots (look env) 0 n))::K)) (rens (sg σ (nx+1)) zsh args0) (.yld nx::caps)++fidsB (lookB ((nx,.rcd ⟨ps,assign,body⟩ .ready (slots (look env) 0 n))::K)) (renK (sg σ (nx+1)) zsh K0))) ((nx,.rcd ⟨ps,assign,body⟩ .ready (slots (look env) 0 n))::K)=K3 at *
   have hb3:G3.β nx=some (w.heap.size+1):=(st3.bet nx (Nat.lt_succ_self nx)).trans (upd_same _ _ _)
   have fin:∀(rc':RC) (st:RSt) (l:List AV) (e:AX),lookB K3 nx=.rcd rc' st l→st.st ≠ .busy→st.pend=endCode e→Q e (nx+1+ex) env ((nx,.dead)::K3)→rangePost Fence.wide 0 P (w.heap.size+1) R { a with defers:=[mark w.heap.size]++a.defers } (.returned v) w2:=by
    intro rc' st l e hk hb hp hq
    obtain ⟨r,h1,h2,h3,_,hkill⟩:=st3.setRcd hk hb3
    have st4:=(hkill (.loop { r with state:=.exhausted })).downto (Nat.le_succ_of_le hgm) hbet
    have hs4:StL g n (nx+1+ex) env ((nx,.dead)::K3) { a with defers:=[mark w.heap.size]++a.defers } (w2.putObj (w.heap.size+1) (.loop { r with state:=.exhausted })) :=
     ⟨⟨G3,by rw [lookB_cons]; exact st4⟩,by omega,fun i hi=>by rw [lookB_cons,upd_other _ _ (by omega)]; exact hnone i hi⟩
    have hfin:=hR e _ _ _ _ _ hq hs4
    refine ⟨r.pending,_,run_endLoop h1 (by rw [h2]; exact hb),?_⟩
    have hpe:r.pending=endCode e:=h3.trans hp
    rw [hpe] at hfin
    rw [hpe]
    cases e with
    | normal=>exact hfin
    | ret=>exact wpIn_ret hfin
    | exit i=>exact wpIn_exit hfin
   unfold rangeEnd at hq
   split at hq
   ·rename_i rc' l hk; exact fin rc' .ready l .normal hk (by simp [RSt.st]) rfl hq
   ·rename_i rc' e l hk; exact fin rc' (.done e) l e hk (by simp [RSt.st]) rfl hq
   ·exact hq.elim
 have hv:=ev_ok (ρ:=look env) (κ:=lookB K) (x:=x) (look env) (lookB K) ⟨fun _ _=>rfl,fun _ _=>rfl⟩ g n a w G hst
 generalize hx:a.eval x=y at hv
 split at h
 ·rename_i f caps he
  rw [he] at hv
  cases hv with | fn _ _ vs hl hr=>exact core f caps vs hx ⟨hl,hr⟩ h
 ·rename_i f caps he
  rw [he] at hv
  cases hv with | dv hd=>cases hd with | fn _ _ vs hl hr=>exact core f _ vs hx (vrels_dvs ⟨hl,hr⟩) h
 ·exact h.elim
theorem relOp_some {n:Nat} {o:Oper} {q:Nat × List Operand} (h:relOp n o=some q):∃c:Call,o.op=.call c∧c.callee=.value (.func q.1)∧c.args.toList=q.2∧o.guard=none∧∀t,o.dst=some t→t<n:=by
 unfold relOp at h
 split at h
 ·rename_i c e1 e2
  split at h
  ·rename_i f e3 e4
   injection h with h; subst h
   exact ⟨c,e1,e3,rfl,e2,fun t ht=>by rw [e4] at ht; cases ht⟩
  ·rename_i f t e3 e4
   have hh:=bifO h; clear h; obtain ⟨hb,h⟩:=hh
   injection h with h; subst h
   exact ⟨c,e1,e3,rfl,e2,fun t' ht=>by rw [e4] at ht; injection ht with ht; subst ht; simpa using hb⟩
  ·cases h
 ·cases h
theorem rel_snd (P:Program):RelSnd P:=by
 intro g ops n nx env K a w o q k ho h hs F hF
 obtain ⟨c,hop,hcal,hxs,hgd,hdst⟩:=relOp_some ho
 refine ⟨hgd,?_⟩
 obtain ⟨⟨G,hst⟩,hgm,hn⟩:=hs
 obtain ⟨l,⟨σ,args0,K0,ex,R,hspec,hchk,hsW,hsB,hout⟩,hev⟩:=exs_sound h
 rw [←hxs] at hev
 have hcev:=callEv_func (P:=P) (ops:=ops) (o:=o) hop hcal hev
 simp only [Bool.and_eq_true] at hchk
 obtain ⟨vs,hrel,hcall⟩:=invEv_call (C:=fun _=>True) (n:=n) hcev hspec.1 0 (look env) (lookB K) [] [] ⟨fun _ _=>rfl,fun _ _=>rfl,fun _ _=>rfl,fun _ _ _=>rfl⟩ g a w G trivial hst rfl
 obtain ⟨β,hβ,hrun⟩:=callR_core (hd:=none) (nx:=nx) (callF_mono P q.1) hspec.2 hn (by simp only [Bool.and_eq_true]; exact ⟨hchk.1,rfl⟩) hsW hsB (fun rs K1 hr=>(hout rs K1 hr).1) (neK_spec hchk.2) hgm hst hrel (fun _ _=>rfl)
 refine hcall F hF β hβ _ (callF_mono P q.1 _ _ _ _ _ ?_ hrun)
 rintro e w2 ⟨v,rs,K1,G3,rfl,hR,st3,hv⟩
 obtain ⟨hko,hq⟩:=hout rs K1 hR
 rw [(forceA_eq (SizeOf.sizeOf (ren (sg σ nx) (shs (lookB K) σ) (resC rs))+1)).1 _ _ (by omega),normV_eq,forceK_eq,normK_eq] at hq
 refine ⟨v,rfl,_,_,_,hq,⟨G3,?_⟩,Nat.le_trans hgm (Nat.le_add_right _ _),none_after hn (Nat.le_add_right _ _) fun p hp=>?_⟩
 ·rw [←lookB_addB] at st3
  cases hd:o.dst with
  | none=>exact st3
  | some t =>
   have:=st3.put (hdst t hd) hv
   have e:look (dstE (some t) (ren (sg σ nx) (shs (lookB K) σ) (resC rs)) env)=upd (look env) t (ren (sg σ nx) (shs (lookB K) σ) (resC rs)):=by
    have:=look_addE [(t,ren (sg σ nx) (shs (lookB K) σ) (resC rs))] env
    simpa [addE,updl,dstE] using this
   rw [e]; exact this
 ·have hkl1:keysLt (σ.length+ex) K1=true:=by
   have:=hko
   simp only [outKChk,Bool.and_eq_true] at this
   exact this.1.1.2
  have hσ1:∀i,i∈σ→i<nx:=by
   have:=hchk.1
   simp only [callChk,Bool.and_eq_true] at this
   exact (sigOk_spec this.1.1.1.1.1.1).1
  rcases List.mem_append.1 hp with hp | hp
  ·obtain ⟨j,h1,h2⟩:=mem_renK (i:=p.1) (b:=p.2) hp
   have hj:=keysLt_mem hkl1 j h1
   rw [h2]
   rcases Nat.lt_or_ge j σ.length with hlt | hge
   ·have:=hσ1 _ (by rw [sg_lt hlt]; exact List.getElem_mem hlt:sg σ nx j∈σ); omega
   ·rw [sg_ge hge]; omega
  ·have:=frz_lt hn hp; omega
theorem range_snd (P:Program):RangeSnd P:=⟨range_snd0 P,rel_snd P⟩
end Go.TM
namespace Go.TM
open Go.RowKit
variable [Glob]
def envL:Nat→List AV→Env
 | _,[]=>[]
 | s,.any::r=>envL (s+1) r
 | s,v::r=>(s,v)::envL (s+1) r
theorem envL_lt:∀(l:List AV) (s t:Nat),t<s→look (envL s l) t=.any
 | [],_,_,_=>rfl
 | v::r,s,t,h=>by
  have ih:=envL_lt r (s+1) t (by omega)
  cases v <;> simp only [envL,look] <;> first | exact ih | (rw [beq_false (by omega)]; exact ih)
theorem envL_look:∀(l:List AV) (s j:Nat),look (envL s l) (s+j)=match l[j]? with | some v=>v | none=>.any
 | [],s,j=>by simp [envL,look]
 | v::r,s,0=>by
  have h0:=envL_lt r (s+1) s (by omega)
  cases v <;> simp only [envL,look,Nat.add_zero,Nat.beq_refl,cond_true,List.getElem?_cons_zero] <;> exact h0
 | v::r,s,j+1=>by
  have ih:=envL_look r (s+1) j
  have e:s+(j+1)=s+1+j:=by omega
  cases v <;> simp only [envL,look,List.getElem?_cons_succ] <;> rw [e] <;> first | exact ih | (rw [beq_false (by omega)]; exact ih)
def parE:List Nat→List AV→Env→Env
 | p::ps,v::vs,env=>parE ps vs ((p,v)::env)
 | _,_,env=>env
def ltAll (n:Nat):List Nat→Bool
 | []=>true
 | p::r=>Nat.blt p n && ltAll n r
theorem ltAll_mem {n:Nat}:∀{l:List Nat},ltAll n l=true→∀p,p∈l→p<n
 | [],_,p,h=>by simp at h
 | q::r,h,p,hp=>by
  simp only [ltAll,Bool.and_eq_true,Nat.blt_eq] at h
  rcases List.mem_cons.1 hp with rfl | hp
  ·exact h.1
  ·exact ltAll_mem h.2 p hp
theorem par_rel {G:Gh}:∀{ps:List Nat} {avs:List AV} {vs:List Value} {env:Env} {tmps:Array Value},(∀p,p∈ps→p<tmps.size)→CRel G avs vs→(∀t,VRel G (look env t) (tmps.getD t undef)) →
  ∀t,VRel G (look (parE ps avs env) t) (((ps.zip vs).foldl (fun tm (pv:Nat × Value)=>tm.setIfInBounds pv.1 pv.2) tmps).getD t undef)
 | [],avs,vs,env,tmps,_,_,h,t=>by cases avs <;> simpa [parE] using h t
 | p::ps,[],vs,env,tmps,_,hr,h,t=>by
  have:vs=[]:=by have:=hr.1; simpa using this.symm
  subst this
  simpa [parE] using h t
 | p::ps,v::avs,[],env,tmps,_,hr,h,t=>by have:=hr.1; simp at this
 | p::ps,v::avs,x::vs,env,tmps,hp,hr,h,t=>by
  simp only [parE,List.zip_cons_cons,List.foldl_cons]
  refine par_rel (fun q hq=>by rw [Array.size_setIfInBounds]; exact hp q (by simp [hq])) ⟨by simpa using hr.1,fun j d y hd hy=>hr.2 (j+1) d y (by simpa using hd) (by simpa using hy)⟩ (fun t=>?_) t
  simp only [look]
  by_cases e:t=p
  ·subst e
   have:=hp t (by simp)
   simp only [Nat.beq_refl,cond_true,Array.getD_eq_getD_getElem?]
   rw [Array.getElem?_setIfInBounds_self_of_lt this]
   exact hr.2 0 v x rfl rfl
  ·rw [beq_false e,Array.getD_eq_getD_getElem?,Array.getElem?_setIfInBounds_ne (fun h=>e h.symm),←Array.getD_eq_getD_getElem?]
   exact h t
theorem fold_size (ps:List (Nat × Value)):∀(tmps:Array Value),((ps.foldl (fun tm (pv:Nat × Value)=>tm.setIfInBounds pv.1 pv.2) tmps)).size=tmps.size:=by
 induction ps with
 | nil=>intro t; rfl
 | cons p r ih=>intro t; simp only [List.foldl_cons]; rw [ih,Array.size_setIfInBounds]
def isN:AX→Bool
 | .normal=>true
 | _=>false
def finSt:AX→RSt
 | .normal=>.ready
 | e=>.done e
section
variable {P:Program} {T:List TI}
end
end Go.TM
namespace Go.TM
open Go.RowKit
variable [Glob]
def upC {γ:Type} (f:Nat→γ) (i:Nat) (x:γ):Nat→γ:=fun j=>Bool.casesOn (Nat.beq j i) (f j) x
def upsC {γ:Type} (f:Nat→γ):List (Nat × γ)→Nat→γ
 | []=>f
 | p::r=>upC (upsC f r) p.1 p.2
inductive XR (α:Type):Type
 | ok (a:α)
 | no (why:List Nat)
def XR.bind {α β:Type} (x:XR α) (f:α→XR β):XR β:=XR.casesOn x f .no
def xif {α:Type} (b:Bool) (why:Nat) (x:XR α):XR α:=Bool.casesOn b (.no [why]) x
def xopt {α:Type} (x:Option α) (why:Nat):XR α:=Option.casesOn x (.no [why]) .ok
def ilt (a b:Int):Bool:=Int.casesOn a (fun m=>Int.casesOn b (fun n=>Nat.blt m n) (fun _=>false)) (fun m=>Int.casesOn b (fun _=>true) (fun n=>Nat.blt n m))
def ile (a b:Int):Bool:=!(ilt b a)
def ieq (a b:Int):Bool:=Int.casesOn a (fun m=>Int.casesOn b (fun n=>Nat.beq m n) (fun _=>false)) (fun m=>Int.casesOn b (fun _=>false) (fun n=>Nat.beq m n))
def inn (a:Int):Bool:=Int.casesOn a (fun _=>true) (fun _=>false)
def lget {α:Type}:List α→Nat→Option α
 | [],_=>none
 | x::r,i=>Nat.casesOn i (some x) (fun i=>lget r i)
abbrev EN:=Eff × Nat
def xopen (κ:Nat→Box) (v:AV):XR AV:=match v with
 | .opt g v=>xif g 1 (.ok (res κ v))
 | v=>.ok v
def xex (ρ:Nat→AV) (κ:Nat→Box) (x:Operand):XR AV:=xopen κ (ev ρ κ x)
def xexs (ρ:Nat→AV) (κ:Nat→Box):List Operand→XR (List AV)
 | []=>.ok []
 | x::r=>(xex ρ κ x).bind fun v=>(xexs ρ κ r).bind fun l=>.ok (v::l)
def xparts (ρ:Nat→AV) (κ:Nat→Box):List (Nat × Operand)→XR (List (Nat × AV))
 | []=>.ok []
 | p::r=>(xex ρ κ p.2).bind fun v=>(xparts ρ κ r).bind fun l=>.ok ((p.1,v)::l)
structure XV where
 v:AV
 bx:List (Nat × Box)
 rd:List Nat
 nx:Nat
def xval (nx:Nat) (v:AV):XR XV:=.ok ⟨v,[],[],nx⟩
def xret (n:Nat) (dst:Option Nat) (r:XV):XR EN:=match dst with
 | none=>.ok (⟨[],r.bx,r.rd⟩,r.nx)
 | some d=>xif (Nat.blt d n) 2 (.ok (⟨[(d,r.v)],r.bx,r.rd⟩,r.nx))
def inI64 (n:Int):Bool:=Int.casesOn n (fun m=>Nat.ble m 9223372036854775807) (fun m=>Nat.ble m 9223372036854775807)
def xarith (k:IntKind) (n:Int):XR AV:=match k with
 | .i64=>xif (inI64 n) 3 (.ok (.dv (.int .i64 n)))
 | k=>.ok (.dv (.int k (k.wrap n)))
def xbool (b:Bool):XR AV:=.ok (.dv (.bool b))
def xbinI (op:BinOp) (k:IntKind) (a b:Int):XR AV:=match op with
 | .add=>xarith k (a+b)
 | .sub=>xarith k (a - b)
 | .mul=>xarith k (a * b)
 | .quo=>xif (!(ieq b 0)) 5 (xarith k (a.tdiv b))
 | .rem=>xif (!(ieq b 0)) 5 (.ok (.dv (.int k (a.tmod b))))
 | .eql=>xbool (ieq a b)
 | .neq=>xbool (!(ieq a b))
 | .lss=>xbool (ilt a b)
 | .leq=>xbool (ile a b)
 | .gtr=>xbool (ilt b a)
 | .geq=>xbool (ile b a)
 | _=>.no [6]
def xbinB (op:BinOp) (p q:Bool):XR AV:=match op with
 | .eql=>xbool (p == q)
 | .neq=>xbool (!(p == q))
 | _=>.no [8]
def xbinS (op:BinOp) (s t:ByteArray):XR AV:=match op with
 | .eql=>xbool (s.toList == t.toList)
 | .neq=>xbool (!(s.toList == t.toList))
 | .add=>xif (decide (((s.size+t.size:Nat):Int)≤9223372036854775807)) 9 (.ok (.dv (.str (s++t))))
 | _=>.no [10]
def xbinP (op:BinOp) (same:Bool):XR AV:=match op with
 | .eql=>xbool same
 | .neq=>xbool (!same)
 | _=>.no [12]
def DV.int?:DV→Option (IntKind × Int)
 | .int k n=>some (k,n)
 | _=>none
def AV.int?:AV→Option (IntKind × Int)
 | .dv d=>d.int?
 | _=>none
def DV.bool?:DV→Option Bool
 | .bool b=>some b
 | _=>none
def AV.bool?:AV→Option Bool
 | .dv d=>d.bool?
 | _=>none
def DV.str?:DV→Option ByteArray
 | .str s=>some s
 | _=>none
def AV.str?:AV→Option ByteArray
 | .dv d=>d.str?
 | _=>none
def DV.isNilp:DV→Bool
 | .nilp=>true
 | _=>false
def AV.isNilp:AV→Bool
 | .dv d=>d.isNilp
 | _=>false
def DV.ivl?:DV→Option (IntKind × Int × Int)
 | .ivl k lo hi=>some (k,lo,hi)
 | _=>none
def AV.ivl?:AV→Option (IntKind × Int × Int)
 | .dv d=>d.ivl?
 | _=>none
def xivl (op:BinOp) (lo hi b:Int):Option Bool:=match op with
 | .lss=>selB (ilt hi b) (!(ilt lo b))
 | .leq=>selB (!(ilt b hi)) (ilt b lo)
 | .gtr=>selB (ilt b lo) (!(ilt b hi))
 | .geq=>selB (!(ilt lo b)) (ilt hi b)
 | .eql=>bif ilt b lo || ilt hi b then some false else none
 | .neq=>bif ilt b lo || ilt hi b then some true else none
 | _=>none
def xbin (ti:TI) (op:BinOp) (x y:AV):XR AV:=match x.int? with
 | some a=>(xopt y.int? 4).bind fun b=>xif (a.1 == b.1) 4 (xbinI op a.1 a.2 b.2)
 | none=>match x.ivl? with
  | some t=>(xopt y.int? 14).bind fun b=>xif (t.1 == b.1) 14 ((xopt (xivl op t.2.1 t.2.2 b.2) 14).bind xbool)
  | none=>match x.bool? with
   | some p=>(xopt y.bool? 7).bind fun q=>xif (ti.ok && Nat.beq ti.kind 1) 7 (xbinB op p q)
   | none=>match x.str? with
    | some s=>(xopt y.str? 11).bind fun t=>xbinS op s t
    | none=>xif (y.isNilp && (ti.ok && Nat.beq ti.kind 5)) 13 (match x.isNilp with
     | true=>xbinP op true
     | false=>xif (isPtr x) 15 (xbinP op false))
def xgetN:DV→List PS→XR DV
 | d,[]=>.ok d
 | d,s::p=>match step d s with
  | some c=>xgetN c p
  | none=>.no [18]
def xsetN:DV→List PS→DV→XR DV
 | _,[],n=>.ok n
 | d,s::p,n=>match step d s with
  | some c=>(xsetN c p n).bind fun c'=>.ok (put d s c')
  | none=>.no [25]
def xtree (κ:Nat→Box) (i ver ep:Nat) (p:List PS):XR (Nat × DV):=match κ i with
 | .tree ver' ep' d=>xif (Nat.beq ver ver' && (emp p || Nat.beq ep ep')) 32 (.ok (ep',d))
 | _=>.no [33]
structure XN where
 ep:Nat
 d:DV
 n:DV
def xnode (κ:Nat→Box) (i ver ep:Nat) (p:List PS):XR XN:=(xtree κ i ver ep p).bind fun t=>(xgetN t.2 p).bind fun n=>.ok ⟨t.1,t.2,n⟩
def DV.osl?:DV→Option (Nat × List DV)
 | .osl sz l=>some (sz,l)
 | _=>none
def DV.omap?:DV→Option (KS × List DV)
 | .omap s m=>some (s,m)
 | _=>none
def DV.optr?:DV→Option DV
 | .optr x=>some x
 | _=>none
def xpick (agg:Bool) (l:List AV) (off n:Nat):XR AV:=match agg with
 | true=>xif (Nat.ble (off+n) l.length) 16 (.ok (.agg ((l.drop off).take n)))
 | false=>xopt (lget l off) 17
def ne {α:Type}:List α→Bool
 | []=>false
 | _::_=>true
def closedB (x:DV):Bool:=x.cells.all fun d=>!d.owning
def allClosed:List DV→Bool
 | []=>true
 | x::r=>closedB x && allClosed r
structure XL where
 sz:Nat
 l:List DV
 rd:List Nat
 kill:List Nat
def xlistD (d:DV):XR (Option XL):=match d with
 | .sl sz l=>.ok (some ⟨sz,l,[],[]⟩)
 | .nils=>.ok none
 | _=>.no [36]
def xlist (κ:Nat→Box) (v:AV):XR (Option XL):=match v with
 | .dv d=>xlistD d
 | .own i ver ep p=>(xnode κ i ver ep p).bind fun t=>(xopt t.n.osl? 35).bind fun q=>match allClosed q.2 with
  | true=>.ok (some ⟨q.1,q.2,[i],[]⟩)
  | false=>xif (emp p) 34 (.ok (some ⟨q.1,q.2,[i],[i]⟩))
 | _=>.no [36]
def xfits (ti:TI) (n:Nat):Bool:=Nat.ble (n * ti.bytes) 140737488355328 && Nat.ble n 9223372036854775807
def isFull:AV→Bool
 | .ownf _ _=>true
 | _=>false
def xappNil (ti:TI) (nx:Nat) (x:Option XL):XR XV:=match x with
 | none=>xval nx (.dv .nils)
 | some q=>xif (Nat.beq q.sz ti.size && xfits ti q.l.length) 38 (.ok ⟨.own nx 0 0 [],(nx,.tree 0 0 (.osl q.sz q.l))::deadL q.kill,nx::q.rd,nx+1⟩)
def xappO (ti:TI) (nx i ver:Nat) (p:List PS) (t:XN) (sz:Nat) (l:List DV) (q:XL):XR XV:=xif (!memN i q.rd) 41 (match p with
 | []=>.ok ⟨.own i (ver+1) 0 [],(i,.tree (ver+1) 0 (.osl sz (l++q.l)))::deadL q.kill,i::q.rd,nx⟩
 | s::p=>(xsetN t.d (s::p) .any).bind fun d'=>.ok ⟨.own nx 1 0 [],(nx,.tree 1 0 (.osl sz (l++q.l)))::(i,.tree ver (t.ep+1) d')::deadL q.kill,nx::i::q.rd,nx+1⟩)
def xappE (nx i ver:Nat) (p:List PS) (t:XN) (sz:Nat) (l:List DV):XR XV:=match p with
 | []=>.ok ⟨.own i (ver+1) 0 [],[(i,.tree (ver+1) 0 (.osl sz l))],[i],nx⟩
 | s::p=>(xsetN t.d (s::p) .any).bind fun d'=>.ok ⟨.own nx 0 0 [],[(nx,.tree 0 0 (.osl sz l)),(i,.tree ver (t.ep+1) d')],[nx,i],nx+1⟩
def xappOwn (ti:TI) (nx:Nat) (full:Bool) (i ver:Nat) (p:List PS) (t:XN) (sz:Nat) (l:List DV) (x:Option XL):XR XV:=match x with
 | none=>xappE nx i ver p t sz l
 | some q=>xif (Nat.beq q.sz sz && xfits ti (l.length+q.l.length)) 40 (match full && ne q.l && !ne q.kill && allClosed l && allClosed q.l with
  | true=>.ok ⟨.own nx 0 0 [],[(nx,.tree 0 0 (.osl sz (l++q.l)))],nx::i::q.rd,nx+1⟩
  | false=>xappO ti nx i ver p t sz l q)
def isNils:DV→Bool
 | .nils=>true
 | _=>false
def xappend (ti te:TI) (nx:Nat) (κ:Nat→Box) (s x:AV):XR XV :=
 xif (ti.ok && ti.isSl && te.ok && Nat.blt 0 te.size) 37 ((xlist κ (dn x)).bind fun src=>match dn s with
  | .dv d=>xif (isNils d) 43 (xappNil te nx src)
  | .own i ver ep p=>(xnode κ i ver ep p).bind fun t=>(xopt t.n.osl? 42).bind fun q=>xif (Nat.beq q.1 te.size) 39 (xappOwn te nx (isFull s) i ver p t q.1 q.2 src)
  | _=>.no [43])
def xlenD (ti:TI) (d:DV):XR Nat:=match d with
 | .sl _ l=>xif (ti.ok && ti.isSl) 44 (.ok l.length)
 | .nils=>xif (ti.ok && ti.isSl) 44 (.ok 0)
 | .str s=>xif (ti.ok && ti.isStr) 44 (.ok s.size)
 | _=>.no [46]
def xlenN (ti:TI) (n:DV):XR Nat:=match n with
 | .osl _ l=>xif (ti.ok && ti.isSl) 44 (.ok l.length)
 | .omap _ m=>xif (ti.ok && Nat.beq ti.kind 6) 44 (.ok m.length)
 | _=>.no [45]
def xint (nx:Nat) (n:Nat) (rd:List Nat):XR XV:=.ok ⟨.dv (.int .i64 n),[],rd,nx⟩
def xlen (ti:TI) (nx:Nat) (κ:Nat→Box) (v:AV):XR XV:=match v with
 | .dv d=>(xlenD ti d).bind fun n=>xint nx n []
 | .own i ver ep p=>(xnode κ i ver ep p).bind fun t=>(xlenN ti t.n).bind fun n=>xint nx n [i]
 | .sle _ m=>xif (ti.ok && ti.isSl) 44 (xint nx m [])
 | _=>.no [46]
def xnilD (d:DV):XR Bool:=match d with
 | .nils=>.ok true
 | .sl _ l=>xif (ne l) 88 (.ok false)
 | _=>.no [88]
def xnil (ti:TI) (κ:Nat→Box) (v:AV):XR (Bool × List Nat):=xif (ti.ok && ti.isSl) 87 (match v with
 | .dv d=>(xnilD d).bind fun b=>.ok (b,[])
 | .own i ver ep p=>(xnode κ i ver ep p).bind fun t=>(xopt t.n.osl? 88).bind fun q=>xif (ne q.2) 88 (.ok (false,[i]))
 | .ownf _ _=>.ok (false,[])
 | .sle _ _=>.ok (false,[])
 | _=>.no [89])
def xnodeCells (i ver ep:Nat) (p:List PS) (sz idx:Nat) (nd:DV):XR (List AV):=match nd with
 | .osl sz' l=>xif (Nat.beq sz sz') 47 ((xopt (lget l idx) 48).bind fun x=>.ok (liftE i ver ep p idx 0 x.cells))
 | .optr x=>xif (Nat.beq idx 0) 49 (.ok (liftE i ver ep p 0 0 x.cells))
 | _=>.no [50]
def xoverC (x:DV) (off:Nat) (ds:List DV):XR DV:=match x with
 | .agg l=>xif (Nat.ble (off+ds.length) l.length) 51 (.ok (.agg (spliceD l off ds)))
 | _=>match off,ds with
  | 0,[d]=>.ok d
  | _,_=>.no [52]
def xoverN (sz idx off:Nat) (nd:DV) (ds:List DV):XR (List DV × DV):=match nd with
 | .osl sz' l=>xif (Nat.beq sz sz') 53 ((xopt (lget l idx) 54).bind fun x=>(xoverC x off ds).bind fun y=>.ok ((x.cells.drop off).take ds.length,.osl sz' (l.set idx y)))
 | .optr x=>xif (Nat.beq idx 0) 55 ((xoverC x off ds).bind fun y=>.ok ((x.cells.drop off).take ds.length,.optr y))
 | _=>.no [56]
def xstoreT (nx:Nat) (κ:Nat→Box) (i ver ep:Nat) (p:List PS) (sz idx off:Nat) (vs:List AV):XR XV :=
 (xnode κ i ver ep p).bind fun t=>(xopt (toTs κ vs) 58).bind fun q=>xif (!(memN i q.2 || !nodupN q.2)) 57 ((xoverN sz idx off t.n q.1).bind fun on=>(xsetN t.d p on.2).bind fun d' =>
  .ok ⟨.any,(i,.tree ver (bif anyOwn on.1 || anyOwn q.1 then t.ep+1 else t.ep) d')::goneL κ q.2,i::q.2,nx⟩)
def AV.i64? (v:AV):Option Int:=match v.int? with
 | some (.i64,n)=>some n
 | _=>none
def xI (ρ:Nat→AV) (κ:Nat→Box) (x:Option Operand):XR (Option Int):=match x with
 | none=>.ok none
 | some x=>(xex ρ κ x).bind fun v=>(xopt v.i64? 59).bind fun n=>.ok (some n)
def xbnd (lo hi:Option Int) (len:Nat):Bool:=inn (lo.getD 0) && ile (lo.getD 0) (hi.getD len) && ile (hi.getD len) len
def cutL (lo hi:Option Int) (l:List DV):List DV:=(l.take (hi.getD l.length).toNat).drop (lo.getD 0).toNat
def xsliceD (ti:TI) (esz nx:Nat) (d:DV) (lo hi:Option Int):XR XV:=match d with
 | .sl sz l=>xif (ti.isSl && Nat.beq sz esz && xbnd lo hi l.length) 60 (xval nx (.dv (.sl sz (cutL lo hi l))))
 | .str s=>xif (ti.isStr && xbnd lo hi s.size) 63 (xval nx (.dv (.str (s.extract (lo.getD 0).toNat (hi.getD s.size).toNat))))
 | _=>.no [64]
def xslice (ti:TI) (esz nx:Nat) (κ:Nat→Box) (v:AV) (lo hi:Option Int):XR XV:=match v with
 | .dv d=>xsliceD ti esz nx d lo hi
 | .own i ver ep p=>xif (emp p) 62 ((xnode κ i ver ep []).bind fun t=>(xopt t.n.osl? 62).bind fun q=>xif (ti.isSl && Nat.beq q.1 esz && xbnd lo hi q.2.length) 61 (
   .ok ⟨.own i (ver+1) 0 [],[(i,.tree (ver+1) 0 (.osl q.1 (cutL lo hi q.2)))],[i],nx⟩))
 | _=>.no [64]
def keyS (ti:TI):Option KS:=bif ti.ok && ti.ikd == some .i64 then some intK else bif ti.ok && ti.isStr then some strK else bif ti.ok && ti.pair then some pairK else none
def eqTag:KTag→KTag→Bool
 | .int k,.int k'=>k == k'
 | .bool,.bool=>true
 | .str,.str=>true
 | _,_=>false
def eqTags:List KTag→List KTag→Bool
 | [],[]=>true
 | a::l,b::r=>eqTag a b && eqTags l r
 | _,_=>false
def eqKS (a b:KS):Bool:=(a.agg == b.agg) && eqTags a.tags b.tags
def keyOk (ti:TI) (s:KS):Bool:=match keyS ti with
 | some s'=>eqKS s s'
 | none=>false
def unDvs:List AV→Option (List DV)
 | []=>some []
 | .dv d::r=>match unDvs r with
  | some l=>some (d::l)
  | none=>none
 | _=>none
def keyD:AV→Option DV
 | .dv d=>bif d.isAgg then none else some d
 | .agg l=>match unDvs l with
  | some ds=>some (.agg ds)
  | none=>none
 | _=>none
def xfound (te:TI) (i ver ep:Nat) (p:List PS) (key:DV) (c b:Bool) (x:DV) (nx:Nat):XR XV:=xif (x.isAgg == te.agg) 66 (
 .ok ⟨bif c then .tup [alookup.packA te.agg (liftK i ver ep p key 0 x.cells),.dv (.bool b)] else alookup.packA te.agg (liftK i ver ep p key 0 x.cells),[],[i],nx⟩)
def xlookup (tk te:TI) (nx:Nat) (κ:Nat→Box) (v kv:AV) (c:Bool):XR XV:=match v with
 | .own i ver ep p=>(xnode κ i ver ep p).bind fun t=>(xopt t.n.omap? 68).bind fun q=>(xopt (keyD kv) 68).bind fun key=>xif (keyOk tk q.1 && q.1.ok key) 65 (match mget q.2 key with
  | some x=>xfound te i ver t.ep p key c true x nx
  | none=>xfound te i ver t.ep p key c false te.zeroD nx)
 | _=>.no [69]
def isAggA:AV→Bool
 | .agg _=>true
 | _=>false
def wasClosed (m:List DV) (key:DV):Bool:=match mget m key with
 | some x=>closedB x
 | none=>true
def xmapUpd (tk:TI) (nx:Nat) (κ:Nat→Box) (v kv u:AV):XR XV:=match v with
 | .own i ver ep p=>(xnode κ i ver ep p).bind fun t=>(xopt t.n.omap? 74).bind fun q=>(xopt (keyD kv) 74).bind fun key=>xif (keyOk tk q.1 && q.1.ok key) 70 (
   (xopt (toTs κ (cellsOf u)) 73).bind fun w=>xif (!(memN i w.2 || !nodupN w.2 || !allCell (cellsOf u))) 71 (
    xif ((packD (isAggA u) w.1).isAgg == isAggA u && Nat.beq (packD (isAggA u) w.1).cells.length w.1.length) 72 (
     (xsetN t.d p (.omap q.1 (mput q.2 key (packD (isAggA u) w.1)))).bind fun d' =>
      .ok ⟨.any,(i,.tree ver (bif closedB (packD (isAggA u) w.1) && wasClosed q.2 key then t.ep else t.ep+1) d')::deadL w.2,i::w.2,nx⟩)))
 | _=>.no [75]
def cutD (agg:Bool) (sz:Nat):Nat→List DV→List DV
 | 0,_=>[]
 | k+1,l=>packD agg (l.take sz)::cutD agg sz k (l.drop sz)
end Go.TM
