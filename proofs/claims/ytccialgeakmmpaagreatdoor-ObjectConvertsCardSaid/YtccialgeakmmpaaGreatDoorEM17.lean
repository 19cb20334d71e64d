import Derived.Test.YtccialgeakmmpaaGreatDoorEM16
import Derived.LoopNIn
set_option linter.unusedVariables false
set_option linter.unusedSimpArgs false
set_option linter.unusedSectionVars false
namespace Go.TM
open Go.RowKit
variable [Glob]
section
variable {P:Program} {C:Org→Prop} {T:List TI} {ops:List Oper} {n:Nat} {o:Oper} {nx:Nat} {ρ:Nat→AV} {κ:Nat→Box} {k:Eff→Nat→Prop}
theorem cellAll_mem:∀{l:List DV},cellAll l=true→∀d,d∈l→d.isCell=true
 | [],_,d,h=>by simp at h
 | x::r,hc,d,h=>by
  simp only [cellAll,Bool.and_eq_true] at hc
  rcases List.mem_cons.1 h with rfl | h
  ·exact hc.1
  ·exact cellAll_mem hc.2 d h
theorem xop_good (hT:TOk P T) {pol:Nat→Bool} {c:XC} (hX:∀f,SOk (CSpecR P f) (c.X f)) (hY:SOk (YSpecR P) c.Y) (hR:CallsSnd P C) (hn:∀i,nx≤i→κ i=.none) {r:XV} {e:EN} (hg:o.guard=none) (h:xop T pol c nx ρ κ o.op=.ok r) (hr:xret n o.dst r=.ok e) (hk:k e.1 e.2) :
  Good P C ops n o nx ρ κ k:=by
 have fin:aop P T ops n o nx ρ κ k→Good P C ops n o nx ρ κ k:=aop_sound hT hn (hR _ _ _ _ _ _ _ hn)
 have hgv:gval ρ ops o.guard=some true:=by rw [hg]; rfl
 cases ho:o.op with
 | move x =>
  rw [ho] at h
  have hh:=bind_ok h; clear h; obtain ⟨v,h1,h⟩:=hh
  refine fin ?_
  simp only [aop,hgv,ho]
  exact ex_of h1 (retval_of hg h hr hk)
 | assign x =>
  rw [ho] at h
  have hh:=bind_ok h; clear h; obtain ⟨v,h1,h⟩:=hh
  refine fin ?_
  simp only [aop,hgv,ho]
  exact ex_of h1 (retval_of hg h hr hk)
 | nilCheck x =>
  rw [ho] at h
  have hh:=bind_ok h; clear h; obtain ⟨v,h1,h⟩:=hh
  refine fin ?_
  simp only [aop,hgv,ho]
  refine ex_of h1 ?_
  unfold xnilChk at h
  split at h
  ·exact retval_of hg h hr hk
  ·exact retval_of hg h hr hk
  ·split at h
   ·exact retval_of hg h hr hk
   ·cases h
  ·have hh:=bind_ok h; clear h; obtain ⟨t,h2,h⟩:=hh
   have hh:=bind_ok h; clear h; obtain ⟨u,h3,h⟩:=hh
   injection h with h; subst h
   obtain ⟨k1,k2,k3⟩:=node_of h2
   simp only [k1,k2,cond_true]
   refine getN_of k3 ?_
   rw [optr?_some (xopt_ok h3)]
   exact retv_of (nx:=nx) hg hr hk rfl rfl
  ·cases h
 | pick b x y =>
  rw [ho] at h
  simp only [xop,xpickB] at h
  have hh:=bind_ok h; clear h; obtain ⟨cv,h1,h⟩:=hh
  have hh:=bind_ok h; clear h; obtain ⟨bv,h2,h⟩:=hh
  have hh:=bind_ok h; clear h; obtain ⟨v,h3,h⟩:=hh
  have hh:=bind_ok h; clear h; obtain ⟨p,h4,h⟩:=hh
  have hb:=bool?_some (xopt_ok h2)
  have hp:=bool?_some (xopt_ok h4)
  subst hb; subst hp
  have e1:EvOk ρ κ true b (.dv (.bool bv)):=by
   obtain ⟨av,hq,he⟩:=ex_sound (ex_of (q:=fun v=>v=.dv (.bool bv)) h1 rfl)
   rw [hq] at he; exact he
  have hrv:=retval_of hg h hr hk
  cases bv with
  | true =>
   simp only [cond_true] at h3
   have e2:EvOk ρ κ true x (.dv (.bool p)):=by
    obtain ⟨av,hq,he⟩:=ex_sound (ex_of (q:=fun v=>v=.dv (.bool p)) h3 rfl)
    rw [hq] at he; exact he
   exact op_pick (b:=true) (p:=p) (q:=p) hgv ho hrv e1 e2 (fun _ _ _ _ _ _ _ _ _ h=>by cases h)
  | false =>
   simp only [cond_false] at h3
   have e2:EvOk ρ κ true y (.dv (.bool p)):=by
    obtain ⟨av,hq,he⟩:=ex_sound (ex_of (q:=fun v=>v=.dv (.bool p)) h3 rfl)
    rw [hq] at he; exact he
   exact op_pick (b:=false) (p:=p) (q:=p) hgv ho hrv e1 (fun _ _ _ _ _ _ _ _ _ h=>by cases h) e2
 | binOp op t x y ty =>
  rw [ho] at h
  have hh:=bind_ok h; clear h; obtain ⟨a,h1,h⟩:=hh
  have hh:=bind_ok h; clear h; obtain ⟨b,h2,h⟩:=hh
  simp only [xbinO] at h
  split at h
  ·rename_i hb
   have hb:=isNils_true hb
   subst hb
   have hh:=bind_ok h; clear h; obtain ⟨q,h3,h⟩:=hh
   obtain ⟨h4,h5⟩:=nil_val h3
   simp only [Bool.and_eq_true] at h4
   have e1:EvOk ρ κ true x a:=by
    obtain ⟨av,hq,he⟩:=ex_sound (ex_of (q:=fun v=>v=a) h1 rfl)
    rw [hq] at he; exact he
   have e2:EvOk ρ κ true y (.dv .nils):=by
    obtain ⟨av,hq,he⟩:=ex_sound (ex_of (q:=fun v=>v=.dv .nils) h2 rfl)
    rw [hq] at he; exact he
   exact op_cmpNil (b:=q.1) (rd:=q.2) hT hg ho h4.2 h4.1 h hr hk e1 e2 h5
  ·rename_i hb
   have hh:=bind_ok h; clear h; obtain ⟨v,h3,h⟩:=hh
   refine fin ?_
   simp only [aop,hgv,ho]
   refine ex_of h1 (ex_of h2 ?_)
   rw [hb]
   split at h3
   ·rename_i ha
    rw [ha]
    unfold xeqA at h3
    have hh:=xif_ok h3; clear h3; obtain ⟨hb3,h3⟩:=hh
    simp only [cond_false,cond_true]
    unfold aeqA
    rw [hb3]
    simp only [cond_true]
    split at h3
    ·rename_i l
     have hh:=xif_ok h3; clear h3; obtain ⟨hb4,h3⟩:=hh
     split at h3
     ·rename_i r
      have hh:=bind_ok h3; clear h3; obtain ⟨e,h4,h3⟩:=hh
      have h4:=xopt_ok h4
      cases l with
      | nil=>simp [ne] at hb4
      | cons x l =>
       simp only [h4]
       cases op <;> simp only [xbinP,xbool] at h3 <;> first
        | (injection h3 with h3; subst h3; exact retval_of hg h hr hk)
        | cases h3
     ·cases h3
    ·cases h3
   ·rename_i ha
    rw [ha]
    exact bin_of h3 (retval_of hg h hr hk)
 | unOp op t x =>
  rw [ho] at h
  have hh:=bind_ok h; clear h; obtain ⟨v,h1,h⟩:=hh
  refine fin ?_
  simp only [aop,hgv,ho]
  refine ex_of h1 ?_
  cases op with
  | not =>
   simp only [xun] at h
   have hh:=bind_ok h; clear h; obtain ⟨b,h2,h⟩:=hh
   rw [bool?_some (xopt_ok h2)]
   exact retval_of hg h hr hk
  | neg =>
   simp only [xun] at h
   have hh:=bind_ok h; clear h; obtain ⟨q,h2,h⟩:=hh
   have hh:=bind_ok h; clear h; obtain ⟨u,h3,h⟩:=hh
   rw [int?_some (xopt_ok h2)]
   exact arith_of h3 (retval_of hg h hr hk)
  | _=>simp [xun] at h
 | extract x i =>
  rw [ho] at h
  have hh:=bind_ok h; clear h; obtain ⟨v,h1,h⟩:=hh
  have hh:=bind_ok h; clear h; obtain ⟨l,h2,h⟩:=hh
  have hh:=bind_ok h; clear h; obtain ⟨u,h3,h⟩:=hh
  refine fin ?_
  simp only [aop,hgv,ho]
  refine ex_of h1 ?_
  have h2:=xopt_ok h2
  have h3:=xopt_ok h3
  rw [lget_eq] at h3
  have hv:v=.tup l:=by cases v <;> simp [AV.tup?] at h2; rw [h2]
  subst hv
  simp only [h3]
  rw [force_eq]
  exact retval_of hg h hr hk
 | field t x f =>
  rw [ho] at h
  have hh:=bind_ok h; clear h; obtain ⟨v,h1,h⟩:=hh
  refine fin ?_
  simp only [aop,hgv,ho]
  refine ex_of h1 ?_
  unfold xfield at h
  split at h
  ·rename_i off sz ft e1 e2 e3
   have hh:=bind_ok h; clear h; obtain ⟨l,h2,h⟩:=hh
   have hh:=xif_ok h; clear h; obtain ⟨hb,h⟩:=hh
   have hh:=bind_ok h; clear h; obtain ⟨u,h3,h⟩:=hh
   have h2:=xopt_ok h2
   have hv:v=.agg l:=by cases v <;> simp [AV.agg?] at h2; rw [h2]
   subst hv
   simp only [e1,e2,e3,hb,cond_true]
   exact pick_of h3 (retval_of hg h hr hk)
  ·cases h
 | fieldAddr t x f =>
  rw [ho] at h
  have hh:=bind_ok h; clear h; obtain ⟨v,h1,h⟩:=hh
  refine fin ?_
  simp only [aop,hgv,ho]
  refine ex_of h1 ?_
  unfold xfieldAddr at h
  split at h
  ·rename_i off sz e1 e2
   simp only [e1,e2]
   unfold xaddr at h
   split at h
   ·exact retval_of hg h hr hk
   ·split at h
    ·exact retval_of hg h hr hk
    ·cases h
   ·exact retval_of hg h hr hk
   ·cases h
  ·cases h
 | indexAddr t x i =>
  rw [ho] at h
  have hh:=bind_ok h; clear h; obtain ⟨v,h1,h⟩:=hh
  have hh:=bind_ok h; clear h; obtain ⟨iv,h2,h⟩:=hh
  unfold xindex at h
  split at h
  rotate_left
  ·rename_i hsl
   have hh:=xif_ok h; clear h; obtain ⟨hb,h⟩:=hh
   have hh:=bind_ok h; clear h; obtain ⟨q,h3,h⟩:=hh
   have hiv:=int?_some (xopt_ok h3)
   subst hiv
   have hh:=xif_ok h; clear h; obtain ⟨hb2,h⟩:=hh
   refine fin ?_
   simp only [aop,hgv,ho]
   refine ex_of h1 (ex_of h2 ?_)
   simp only [hsl,Bool.and_false,Bool.false_and,cond_false,aindexA,hb,cond_true]
   simp only [Bool.and_eq_true,ilt_eq,decide_eq_true_eq] at hb2
   refine ⟨fun _=>⟨(inn_eq _).1 hb2.1,hb2.2⟩,?_⟩
   unfold xindexP at h
   split at h
   ·split at h
    ·exact retval_of hg h hr hk
    ·cases h
   ·exact retval_of hg h hr hk
   ·exact retval_of hg h hr hk
   ·cases h
  have hh:=xif_ok h; clear h; obtain ⟨hb,h⟩:=hh
  have hh:=bind_ok h; clear h; obtain ⟨q,h3,h⟩:=hh
  have hiv:=int?_some (xopt_ok h3)
  subst hiv
  refine fin ?_
  simp only [aop,hgv,ho]
  refine ex_of h1 (ex_of h2 ?_)
  simp only [hb,cond_true]
  split at h
  ·rename_i d hd
   split at h
   ·rename_i sz l
    have hh:=xif_ok h; clear h; obtain ⟨hb2,h⟩:=hh
    have hh:=bind_ok h; clear h; obtain ⟨y,h4,h⟩:=hh
    have h4:=xopt_ok h4
    rw [lget_eq] at h4
    simp only [Bool.and_eq_true] at hb2
    simp only [hd,hb2.1,cond_true]
    exact ⟨y,fun _=>⟨(inn_eq _).1 hb2.2,h4⟩,retval_of hg h hr hk⟩
   ·cases h
  ·rename_i j ver ep p hd
   have hh:=bind_ok h; clear h; obtain ⟨t',h4,h⟩:=hh
   have hh:=bind_ok h; clear h; obtain ⟨w,h5,h⟩:=hh
   have hh:=xif_ok h; clear h; obtain ⟨hb2,h⟩:=hh
   injection h with h; subst h
   obtain ⟨k1,k2,k3⟩:=node_of h4
   simp only [Bool.and_eq_true,ilt_eq,decide_eq_true_eq] at hb2
   simp only [hd,k1,k2,cond_true]
   refine getN_of k3 ?_
   rw [osl?_some (xopt_ok h5)]
   simp only [hb2.1.1,cond_true]
   exact ⟨fun _=>⟨(inn_eq _).1 hb2.1.2,hb2.2⟩,retv_of (nx:=nx) hg hr hk rfl rfl⟩
  ·rename_i j len hd
   have hh:=xif_ok h; clear h; obtain ⟨hb2,h⟩:=hh
   simp only [Bool.and_eq_true,ilt_eq,decide_eq_true_eq] at hb2
   simp only [hd]
   exact ⟨fun _=>⟨(inn_eq _).1 hb2.1,hb2.2⟩,retval_of hg h hr hk⟩
  ·cases h
 | load t x =>
  rw [ho] at h
  have hh:=bind_ok h; clear h; obtain ⟨v,h1,h⟩:=hh
  have hh:=xif_ok h; clear h; obtain ⟨hb,h⟩:=hh
  refine fin ?_
  simp only [aop,hgv,ho,hb,cond_true]
  refine ex_of h1 ?_
  split at h
  ·split at h
   ·rename_i l hk'
    have hh:=bind_ok h; clear h; obtain ⟨u,h2,h⟩:=hh
    injection h with h; subst h
    simp only [hk']
    exact pick_of h2 (retv_of (nx:=nx) hg hr hk rfl rfl)
   ·cases h
  ·split at h
   ·have hh:=bind_ok h; clear h; obtain ⟨u,h2,h⟩:=hh
    exact pick_of h2 (retval_of hg h hr hk)
   ·cases h
  ·have hh:=bind_ok h; clear h; obtain ⟨t',h2,h⟩:=hh
   have hh:=bind_ok h; clear h; obtain ⟨l,h3,h⟩:=hh
   have hh:=bind_ok h; clear h; obtain ⟨u,h4,h⟩:=hh
   injection h with h; subst h
   obtain ⟨k1,k2,k3⟩:=node_of h2
   simp only [k1,k2,cond_true]
   exact getN_of k3 (nodeCells_of h3 (pick_of h4 (retv_of (nx:=nx) hg hr hk rfl rfl)))
  ·cases h
 | store t x y =>
  rw [ho] at h
  have hh:=bind_ok h; clear h; obtain ⟨p,h1,h⟩:=hh
  have hh:=bind_ok h; clear h; obtain ⟨v,h2,h⟩:=hh
  have hh:=xif_ok h; clear h; obtain ⟨hb,h⟩:=hh
  rw [Bool.and_eq_true] at hb
  refine fin ?_
  simp only [aop,hgv,ho,hb.1,cond_true]
  refine ex_of h1 (ex_of h2 ?_)
  simp only [hb.2,cond_true]
  split at h
  ·split at h
   ·rename_i l hk'
    have hh:=xif_ok h; clear h; obtain ⟨hb2,h⟩:=hh
    injection h with h; subst h
    simp only [hk',hb2,cond_true]
    exact retb_of hg hr hk
   ·cases h
  ·exact storeT_of hg h hr hk
  ·cases h
 | makeFunc fn first caps =>
  rw [ho] at h
  have hh:=bind_ok h; clear h; obtain ⟨l,h1,h⟩:=hh
  have hh:=bind_ok h; clear h; obtain ⟨q,h2,h⟩:=hh
  refine fin ?_
  simp only [aop,hgv,ho]
  refine exs_of h1 (exs_of h2 ?_)
  unfold xmakeFunc at h
  split at h
  ·split at h
   ·exact retval_of hg h hr hk
   ·have hh:=xif_ok h; clear h; obtain ⟨hb,h⟩:=hh
    cases q with
    | nil=>exact retval_of hg h hr hk
    | cons=>simp [ne] at hb
  ·cases h
 | makeMap t m =>
  rw [ho] at h
  cases m with
  | some x =>
   simp only [xop,xmakeMap] at h
   have hh:=bind_ok h; clear h; obtain ⟨v,h2,h⟩:=hh
   have hh:=bind_ok h; clear h; obtain ⟨q,h3,h⟩:=hh
   have hv:=int?_some (xopt_ok h3)
   subst hv
   have hh:=xif_ok h; clear h; obtain ⟨hb,h⟩:=hh
   have hh:=bind_ok h; clear h; obtain ⟨s,h1,h⟩:=hh
   injection h with h; subst h
   refine fin ?_
   simp only [aop,hgv,ho,hb,cond_true]
   exact ex_of h2 ⟨s,retb_of hg hr hk⟩
  | none =>
   simp only [xop,xmakeMap] at h
   have hh:=xif_ok h; clear h; obtain ⟨hb,h⟩:=hh
   have hh:=bind_ok h; clear h; obtain ⟨s,h1,h⟩:=hh
   injection h with h; subst h
   refine fin ?_
   simp only [aop,hgv,ho,hb,cond_true]
   exact ⟨s,retb_of hg hr hk⟩
 | index t x i =>
  rw [ho] at h
  have hh:=bind_ok h; clear h; obtain ⟨v,h1,h⟩:=hh
  have hh:=bind_ok h; clear h; obtain ⟨iv,h2,h⟩:=hh
  have hh:=xif_ok h; clear h; obtain ⟨hb,h⟩:=hh
  have hh:=bind_ok h; clear h; obtain ⟨s,h3,h⟩:=hh
  have hh:=bind_ok h; clear h; obtain ⟨q,h4,h⟩:=hh
  have hh:=xif_ok h; clear h; obtain ⟨hb2,h⟩:=hh
  have hh:=bind_ok h; clear h; obtain ⟨b,h5,h⟩:=hh
  have hv:=str?_some (xopt_ok h3)
  have hiv:=int?_some (xopt_ok h4)
  subst hv; subst hiv
  have h5:=xopt_ok h5
  rw [lget_eq] at h5
  refine fin ?_
  simp only [aop,hgv,ho,hb,cond_true]
  refine ex_of h1 (ex_of h2 ⟨b,fun _=>⟨(inn_eq _).1 hb2,?_⟩,retval_of hg h hr hk⟩)
  have:s[q.2.toNat]?=s.data[q.2.toNat]?:=by
   simp only [getElem?_def]
   rfl
  rw [this]
  simpa using h5
 | convert s t x =>
  rw [ho] at h
  have hh:=bind_ok h; clear h; obtain ⟨v,h1,h⟩:=hh
  have hh:=xif_ok h; clear h; obtain ⟨hb,h⟩:=hh
  have hh:=bind_ok h; clear h; obtain ⟨q,h3,h⟩:=hh
  have hh:=bind_ok h; clear h; obtain ⟨kd,h4,h⟩:=hh
  have hv:=int?_some (xopt_ok h3)
  subst hv
  have h4:=xopt_ok h4
  refine fin ?_
  simp only [aop,hgv,ho,hb,cond_true]
  refine ex_of h1 ?_
  simp only [h4]
  exact retval_of hg h hr hk
 | lookup t x i cm =>
  rw [ho] at h
  have hh:=bind_ok h; clear h; obtain ⟨v,h1,h⟩:=hh
  have hh:=bind_ok h; clear h; obtain ⟨kv,h2,h⟩:=hh
  have hh:=xif_ok h; clear h; obtain ⟨hb,h⟩:=hh
  refine fin ?_
  simp only [aop,hgv,ho,hb,cond_true]
  exact ex_of h1 (ex_of h2 (lookup_of hT hg h hr hk))
 | mapUpdate t x i y =>
  rw [ho] at h
  have hh:=bind_ok h; clear h; obtain ⟨v,h1,h⟩:=hh
  have hh:=bind_ok h; clear h; obtain ⟨kv,h2,h⟩:=hh
  have hh:=bind_ok h; clear h; obtain ⟨u,h3,h⟩:=hh
  have hh:=xif_ok h; clear h; obtain ⟨hb,h⟩:=hh
  refine fin ?_
  simp only [aop,hgv,ho,hb,cond_true]
  exact ex_of h1 (ex_of h2 (ex_of h3 (mapUpd_of hT hg h hr hk)))
 | alloc t =>
  rw [ho] at h
  have hh:=xif_ok h; clear h; obtain ⟨hb,h⟩:=hh
  injection h with h; subst h
  refine fin ?_
  simp only [aop,hgv,ho,hb,cond_true]
  exact retb_of hg hr hk
 | box t x =>
  rw [ho] at h
  have hh:=bind_ok h; clear h; obtain ⟨v,h1,h⟩:=hh
  have hh:=xif_ok h; clear h; obtain ⟨hb,h⟩:=hh
  injection h with h; subst h
  refine fin ?_
  simp only [aop,hgv,ho]
  refine ex_of h1 ?_
  simp only [hb,cond_true]
  exact retb_of hg hr hk
 | build t parts =>
  rw [ho] at h
  have hh:=bind_ok h; clear h; obtain ⟨l,h1,h⟩:=hh
  have hh:=xif_ok h; clear h; obtain ⟨hb,h⟩:=hh
  have hh:=bind_ok h; clear h; obtain ⟨cs,h2,h⟩:=hh
  refine fin ?_
  simp only [aop,hgv,ho,hb,cond_true]
  refine exParts_of h1 ?_
  simp only [xopt_ok h2]
  exact retval_of hg h hr hk
 | buildSlice t len parts =>
  rw [ho] at h
  have hh:=bind_ok h; clear h; obtain ⟨l,h1,h⟩:=hh
  have hh:=xif_ok h; clear h; obtain ⟨hb,h⟩:=hh
  have hh:=bind_ok h; clear h; obtain ⟨cs,h2,h⟩:=hh
  have hh:=xif_ok h; clear h; obtain ⟨hac,h⟩:=hh
  rw [Bool.and_eq_true] at hb
  refine fin ?_
  simp only [aop,hgv,ho,hb.1,cond_true]
  refine exParts_of h1 ?_
  simp only [xopt_ok h2,hac,cond_true]
  split at h
  ·have hh:=bind_ok h; clear h; obtain ⟨q,h3,h⟩:=hh
   have hh:=xif_ok h; clear h; obtain ⟨hb2,h⟩:=hh
   injection h with h; subst h
   obtain ⟨ds,ids⟩:=q
   rw [Bool.and_eq_true] at hb2
   obtain ⟨c1,c2⟩:=cutD_cells hb.2 len ds (cellAll_mem hb2.2) (Nat.eq_of_beq_eq_true hb2.1)
   left
   simp only [xopt_ok h3]
   exact ⟨_,cutD_length _ _ _ _,by rw [c1]; exact DLes.refl _,c2,retg_of hg (retb_of hg hr hk)⟩
  ·split at h
   ·rename_i q h3
    have hh:=xif_ok h; clear h; obtain ⟨hb2,h⟩:=hh
    injection h with h; subst h
    obtain ⟨ds,ids⟩:=q
    simp only [Bool.and_eq_true] at hb2
    obtain ⟨c1,c2⟩:=cutD_cells hb.2 len ds (cellAll_mem hb2.2) (Nat.eq_of_beq_eq_true hb2.1.2)
    right; left
    simp only [h3,hb2.1.1,cond_true]
    exact ⟨_,cutD_length _ _ _ _,by rw [c1]; exact TLes.refl _,c2,retb_of hg hr hk⟩
   ·injection h with h; subst h
    right; right
    exact retb_of hg hr hk
 | makeSlice t l cp =>
  rw [ho] at h
  have hh:=bind_ok h; clear h; obtain ⟨lv,h1,h⟩:=hh
  have hh:=bind_ok h; clear h; obtain ⟨cv,h2,h⟩:=hh
  have hh:=xif_ok h; clear h; obtain ⟨hb,h⟩:=hh
  have hh:=bind_ok h; clear h; obtain ⟨a,h3,h⟩:=hh
  have hh:=bind_ok h; clear h; obtain ⟨b,h4,h⟩:=hh
  have hh:=xif_ok h; clear h; obtain ⟨hb2,h⟩:=hh
  injection h with h; subst h
  rw [Bool.and_eq_true] at hb
  simp only [Bool.and_eq_true,ile_eq,decide_eq_true_eq] at hb2
  have h3:=i64?_some (xopt_ok h3)
  have h4:=i64?_some (xopt_ok h4)
  subst h3; subst h4
  refine fin ?_
  simp only [aop,hgv,ho,hb.1,cond_true]
  refine ex_of h1 (ex_of h2 ?_)
  refine ⟨(nth T (nth T t).elem).zeroD,?_,(inn_eq _).1 hb2.1.1.1,hb2.1.1.2,hb2.1.2,hb2.2,ieq a b,fun hf=>by rw [ieq_eq] at hf; simpa using hf,retb_of hg hr hk⟩
  have hl:=Nat.eq_of_beq_eq_true hb.2
  have:(nth T (nth T t).elem).zeroD.cells=(nth T (nth T t).elem).zero:=by
   have hz:(nth T (nth T t).elem).ok=true:=by
    have:=hb.1
    simp only [Bool.and_eq_true] at this
    exact this.1.2
   obtain ⟨te,ue,ze,tfe⟩:=hT.facts hz
   have hcell:=(zcells_ok (M:=fun _=>none) tfe.zc).2
   unfold TI.zeroD at hl ⊢
   generalize (nth T (nth T t).elem).zero=zz at hl hcell ⊢
   generalize (nth T (nth T t).elem).agg=ag at hl ⊢
   cases ag with
   | true=>rfl
   | false =>
    match zz,hcell with
    | [],_=>rfl
    | [d],hc =>
     have:=(hc d (by simp)).1
     simp only [packD]
     cases d <;> first | rfl | simp [DV.isCell] at this
    | _::_::_,_=>rfl
  rw [this]; exact DLes.refl _
 | slice t x lo hi mx =>
  rw [ho] at h
  cases mx with
  | some=>simp [xop] at h
  | none =>
   simp only [xop] at h
   have hh:=bind_ok h; clear h; obtain ⟨v,h1,h⟩:=hh
   have hh:=bind_ok h; clear h; obtain ⟨lv,h2,h⟩:=hh
   have hh:=bind_ok h; clear h; obtain ⟨hv,h3,h⟩:=hh
   have hh:=xif_ok h; clear h; obtain ⟨hb,h⟩:=hh
   refine fin ?_
   simp only [aop,hgv,ho,hb,cond_true]
   exact ex_of h1 (exI_of h2 (exI_of h3 (slice_of hg h hr hk)))
 | call kc =>
  rw [ho] at h
  simp only [xop,xcallO] at h
  refine fin ?_
  simp only [aop,hgv,ho]
  split at h
  ·rename_i b hc
   simp only [hc]
   unfold xbuiltin at h
   split at h
   ·split at h
    ·rename_i x t ha hat
     have hh:=bind_ok h; clear h; obtain ⟨v,h1,h⟩:=hh
     simp only [ha,hat]
     exact ex_of h1 (len_of hg h hr hk)
    ·cases h
   ·split at h
    ·rename_i s x t t' ha hat
     have hh:=xif_ok h; clear h; obtain ⟨hb,h⟩:=hh
     have hh:=bind_ok h; clear h; obtain ⟨sv,h1,h⟩:=hh
     have hh:=bind_ok h; clear h; obtain ⟨xv,h2,h⟩:=hh
     simp only [ha,hat,hb,cond_true]
     exact ex_of h1 (ex_of h2 (append_of hg h hr hk))
    ·cases h
   ·split at h
    ·rename_i x y ha
     have hh:=bind_ok h; clear h; obtain ⟨a,h1,h⟩:=hh
     have hh:=bind_ok h; clear h; obtain ⟨b,h2,h⟩:=hh
     simp only [xmin] at h
     have hh:=bind_ok h; clear h; obtain ⟨p,h3,h⟩:=hh
     have hh:=bind_ok h; clear h; obtain ⟨q,h4,h⟩:=hh
     have h3:=i64?_some (xopt_ok h3)
     have h4:=i64?_some (xopt_ok h4)
     subst h3; subst h4
     simp only [ha]
     refine ex_of h1 (ex_of h2 ?_)
     have:=retval_of hg h hr hk
     rw [ilt_eq] at this
     simp only
     by_cases hlt:q<p
     ·rw [if_pos hlt]; simpa [hlt] using this
     ·rw [if_neg hlt]; simpa [hlt] using this
    ·cases h
   ·split at h
    ·rename_i x y ha
     have hh:=bind_ok h; clear h; obtain ⟨a,h1,h⟩:=hh
     have hh:=bind_ok h; clear h; obtain ⟨b,h2,h⟩:=hh
     simp only [xmax] at h
     have hh:=bind_ok h; clear h; obtain ⟨p,h3,h⟩:=hh
     have hh:=bind_ok h; clear h; obtain ⟨q,h4,h⟩:=hh
     have h3:=i64?_some (xopt_ok h3)
     have h4:=i64?_some (xopt_ok h4)
     subst h3; subst h4
     simp only [ha]
     refine ex_of h1 (ex_of h2 ?_)
     have:=retval_of hg h hr hk
     rw [ilt_eq] at this
     simp only
     by_cases hlt:p<q
     ·rw [if_pos hlt]; simpa [hlt] using this
     ·rw [if_neg hlt]; simpa [hlt] using this
    ·cases h
   ·cases h
  ·rename_i x hc
   simp only [hc]
   split at h
   ·rename_i f
    have hh:=bind_ok h; clear h; obtain ⟨l,h1,h⟩:=hh
    exact exs_of h1 (.inr (call_of (hX f) hg h hr hk))
   ·rename_i t
    have hh:=bind_ok h; clear h; obtain ⟨v,h1,h⟩:=hh
    have hh:=bind_ok h; clear h; obtain ⟨l,h2,h⟩:=hh
    refine ex_of h1 (exs_of h2 ?_)
    unfold xcallV at h
    split at h
    ·exact .inr (call_of (hX _) hg h hr hk)
    ·exact .inr (call_of (hX _) hg h hr hk)
    ·split at h
     ·exact .inr (call_of (hX _) hg h hr hk)
     ·cases h
    ·exact .inl (call_of hY hg h hr hk)
    ·cases h
   ·cases h
  ·cases h
 | _=>rw [ho] at h; simp [xop] at h
end
end Go.TM
namespace Go.TM
open Go.RowKit
variable [Glob]
theorem eqD_eq:∀N:Nat,(∀a b:DV,SizeOf.sizeOf a<N→eqD a b=true→a=b)∧(∀l r:List DV,SizeOf.sizeOf l<N→eqDs l r=true→l=r):=by
 intro N
 induction N with
 | zero=>exact ⟨fun _ _ h=>by omega,fun _ _ h=>by omega⟩
 | succ N ih =>
  refine ⟨fun a b hsz h=>?_,fun l r hsz h=>?_⟩
  ·cases a <;> cases b <;> simp only [eqD] at h <;> (try cases h) <;> (try rfl)
   all_goals (try simp only [Bool.and_eq_true] at h)
   ·rename_i k lo hi k' lo' hi'
    rw [ieq_eq,ieq_eq] at h
    have h1:k=k':=by simpa using h.1
    have h2:lo=lo':=by simpa using h.2.1
    have h3:hi=hi':=by simpa using h.2.2
    rw [h1,h2,h3]
   ·rename_i k m k' m'
    rw [ieq_eq] at h
    have h1:k=k':=by simpa using h.1
    have h2:m=m':=by simpa using h.2
    rw [h1,h2]
   ·rename_i b b'
    have:b=b':=by simpa using h
    rw [this]
   ·rename_i s s'
    have:s=s':=by simpa using h
    rw [this]
   ·rename_i f l f' l'
    rw [Nat.eq_of_beq_eq_true h.1,ih.2 l l' (by simp at hsz; omega) h.2]
   ·rename_i f l f' l'
    rw [Nat.eq_of_beq_eq_true h.1,ih.2 l l' (by simp at hsz; omega) h.2]
   ·rename_i x o x' o'
    rw [ih.1 x x' (by simp at hsz; omega) h.1,Nat.eq_of_beq_eq_true h.2]
   ·rename_i l l'
    rw [ih.2 l l' (by simp at hsz; omega) h]
   ·rename_i f l f' l'
    rw [Nat.eq_of_beq_eq_true h.1,ih.2 l l' (by simp at hsz; omega) h.2]
   ·rename_i x x'
    rw [ih.1 x x' (by simp at hsz; omega) h]
   ·rename_i s l s' l'
    rw [eqKS_eq h.1,ih.2 l l' (by simp at hsz; omega) h.2]
   ·rename_i x y x' y'
    rw [ih.1 x x' (by simp at hsz; omega) h.1,ih.1 y y' (by simp at hsz; omega) h.2]
  ·cases l with
   | nil=>cases r with
    | nil=>rfl
    | cons=>simp [eqDs] at h
   | cons a l=>cases r with
    | nil=>simp [eqDs] at h
    | cons b r =>
     simp only [eqDs,Bool.and_eq_true] at h
     rw [ih.1 a b (by simp at hsz; omega) h.1,ih.2 l r (by simp at hsz; omega) h.2]
theorem eqD_is {a b:DV} (h:eqD a b=true):a=b:=(eqD_eq (SizeOf.sizeOf a+1)).1 a b (by omega) h
theorem eqPath_eq:∀{l r:List PS},eqPath l r=true→l=r
 | [],[],_=>rfl
 | a::l,b::r,h=>by
  simp only [eqPath,Bool.and_eq_true] at h
  have:a=b:=by
   have h1:=h.1
   cases a <;> cases b <;> simp only [eqPS] at h1 <;> (try cases h1) <;> simp only [Bool.and_eq_true] at h1
   ·rw [Nat.eq_of_beq_eq_true h1.1,Nat.eq_of_beq_eq_true h1.2]
   ·rw [eqD_is h1.1,Nat.eq_of_beq_eq_true h1.2]
  rw [this,eqPath_eq h.2]
 | [],_::_,h=>by simp [eqPath] at h
 | _::_,[],h=>by simp [eqPath] at h
theorem eqA_eq:∀N:Nat,(∀a b:AV,SizeOf.sizeOf a<N→eqA a b=true→a=b)∧(∀l r:List AV,SizeOf.sizeOf l<N→eqAs l r=true→l=r):=by
 intro N
 induction N with
 | zero=>exact ⟨fun _ _ h=>by omega,fun _ _ h=>by omega⟩
 | succ N ih =>
  refine ⟨fun a b hsz h=>?_,fun l r hsz h=>?_⟩
  ·cases a <;> cases b <;> simp only [eqA] at h <;> (try cases h) <;> (try rfl)
   all_goals (try simp only [Bool.and_eq_true] at h)
   ·rw [eqD_is h]
   ·rw [Nat.eq_of_beq_eq_true h.1,Nat.eq_of_beq_eq_true h.2]
   ·rw [Nat.eq_of_beq_eq_true h.1.1.1,Nat.eq_of_beq_eq_true h.1.1.2,Nat.eq_of_beq_eq_true h.1.2,eqPath_eq h.2]
   ·rename_i f l f' l'
    rw [Nat.eq_of_beq_eq_true h.1,ih.2 l l' (by simp at hsz; omega) h.2]
   ·rename_i f l f' l'
    rw [Nat.eq_of_beq_eq_true h.1,ih.2 l l' (by simp at hsz; omega) h.2]
   ·rename_i l l'
    rw [ih.2 l l' (by simp at hsz; omega) h]
   ·rename_i l l'
    rw [ih.2 l l' (by simp at hsz; omega) h]
   ·rw [Nat.eq_of_beq_eq_true h]
   ·rw [Nat.eq_of_beq_eq_true h.1,Nat.eq_of_beq_eq_true h.2]
   ·rw [Nat.eq_of_beq_eq_true h.1,Nat.eq_of_beq_eq_true h.2]
  ·cases l with
   | nil=>cases r with
    | nil=>rfl
    | cons=>simp [eqAs] at h
   | cons a l=>cases r with
    | nil=>simp [eqAs] at h
    | cons b r =>
     simp only [eqAs,Bool.and_eq_true] at h
     rw [ih.1 a b (by simp at hsz; omega) h.1,ih.2 l r (by simp at hsz; omega) h.2]
theorem eqBox_eq {a b:Box} (h:eqBox a b=true):a=b:=by
 cases a <;> cases b <;> simp only [eqBox] at h <;> (try cases h)
 all_goals (try simp only [Bool.and_eq_true] at h)
 ·rename_i l l'; rw [(eqA_eq (SizeOf.sizeOf l+1)).2 l l' (by omega) h]
 ·rw [Nat.eq_of_beq_eq_true h.1.1,Nat.eq_of_beq_eq_true h.1.2,eqD_is h.2]
 ·rw [Nat.eq_of_beq_eq_true h.1,eqD_is h.2]
theorem updl_nokey {γ:Type _} (f:Nat→γ) {i:Nat}:∀{l:List (Nat × γ)},(∀p,p∈l→p.1 ≠ i)→updl f l i=f i
 | [],_=>rfl
 | p::r,h=>by
  obtain ⟨j,x⟩:=p
  simp only [updl]
  rw [upd_other _ _ (fun e=>h (j,x) (by simp) e.symm)]
  exact updl_nokey f fun q hq=>h q (by simp [hq])
theorem keysB_mem:∀{l:List (Nat × Box)} {p:Nat × Box},p∈l→p.1∈keysB l
 | [],p,h=>by simp at h
 | q::r,p,h=>by
  simp only [keysB,List.mem_cons]
  rcases List.mem_cons.1 h with rfl | h
  ·exact .inl rfl
  ·exact .inr (keysB_mem h)
theorem filt_sub {κ:Nat→Box} {rd:List Nat}:∀{l:List (Nat × Box)} {p:Nat × Box},p∈filt κ rd l→p∈l
 | [],p,h=>by simp [filt] at h
 | q::r,p,h=>by
  simp only [filt] at h
  cases hb:memN q.1 rd && !memN q.1 (keysB r) && eqBox q.2 (κ q.1) with
  | true=>rw [hb] at h; exact List.mem_cons_of_mem _ (filt_sub h)
  | false =>
   rw [hb] at h
   rcases List.mem_cons.1 h with rfl | h
   ·simp
   ·exact List.mem_cons_of_mem _ (filt_sub h)
theorem filt_lost {κ:Nat→Box} {rd:List Nat}:∀{l:List (Nat × Box)} {p:Nat × Box},p∈l→p∈filt κ rd l ∨ p.1∈rd
 | [],p,h=>by simp at h
 | q::r,p,h=>by
  simp only [filt]
  cases hb:memN q.1 rd && !memN q.1 (keysB r) && eqBox q.2 (κ q.1) with
  | true =>
   simp only [Bool.and_eq_true] at hb
   rcases List.mem_cons.1 h with rfl | h
   ·exact .inr (memN_true hb.1.1)
   ·exact filt_lost h
  | false =>
   rcases List.mem_cons.1 h with rfl | h
   ·exact .inl (by simp)
   ·rcases filt_lost (κ:=κ) (rd:=rd) h with h | h
    ·exact .inl (List.mem_cons_of_mem _ h)
    ·exact .inr h
theorem filt_updl {κ κ':Nat→Box} {rd:List Nat} (hag:∀i,i∈rd→κ' i=κ i):∀(l:List (Nat × Box)),updl κ' (filt κ rd l)=updl κ' l
 | []=>rfl
 | q::r=>by
  simp only [filt]
  cases hb:memN q.1 rd && !memN q.1 (keysB r) && eqBox q.2 (κ q.1) with
  | false=>obtain ⟨j,x⟩:=q; simp only [cond_false,updl]; rw [filt_updl hag r]
  | true =>
   simp only [cond_true]
   rw [filt_updl hag r]
   obtain ⟨j,x⟩:=q
   simp only [Bool.and_eq_true,Bool.not_eq_true'] at hb
   funext i
   simp only [updl]
   by_cases e:i=j
   ·subst e
    rw [upd_same,updl_nokey (i:=i) (l:=r) _ (fun p hp hpi=>memN_false hb.1.2 (by have:=keysB_mem hp; rw [hpi] at this; exact this)),hag i (memN_true hb.1.1),eqBox_eq hb.2]
   ·rw [upd_other _ _ e]
section
variable {P:Program} {C:Org→Prop} {T:List TI} {ops:List Oper} {n:Nat} {o:Oper} {nx:Nat} {ρ:Nat→AV} {κ:Nat→Box} {k:Eff→Nat→Prop}
theorem good_filt {e:EN} (h:Good P C ops n o nx ρ κ fun e' n'=>e'=e.1∧n'=e.2) (hk:k ⟨e.1.dst,filt κ e.1.reads e.1.box,e.1.reads⟩ e.2):Good P C ops n o nx ρ κ k:=by
 obtain ⟨eff,nx',⟨rfl,rfl⟩,h2,h3,h4⟩:=h
 refine ⟨_,_,hk,h2,fun p hp=>h3 p (filt_sub hp),fun F hF ρ' κ' hag g a w hgm hst=>?_⟩
 have hag':Agr ops o ρ ρ' κ κ' e.1.reads e.1.box:=⟨hag.slots,hag.rows,hag.reads,fun i b hb=>by
  rcases filt_lost (κ:=κ) (rd:=e.1.reads) hb with h | h
  ·exact hag.boxes i b h
  ·exact hag.reads i h⟩
 have:=h4 F hF ρ' κ' hag' g a w hgm hst
 simp only [filt_updl hag.reads]
 exact this
theorem updl_optE {ρ':Nat→AV} {l:List (Nat × AV)} {g:Org} {κ':Nat→Box} {a:Act} {w:World} (h:St g n (updl ρ' l) κ' a w):St g n (updl ρ' (optE l)) κ' a w:=by
 obtain ⟨G,hst⟩:=h
 refine ⟨G,{ hst with env:=fun t=>?_,dfr:=hst.dfr }⟩
 have key:∀(l:List (Nat × AV)) (x:Value),VRel G (updl ρ' l t) x→VRel G (updl ρ' (optE l) t) x:=by
  intro l
  induction l with
  | nil=>intro x h; exact h
  | cons p r ih =>
   obtain ⟨j,v⟩:=p
   intro x h
   simp only [optE,updl] at h ⊢
   by_cases e:t=j
   ·subst e; rw [upd_same] at h ⊢; exact .opt true v x (fun _=>h) (by simp)
   ·rw [upd_other _ _ e] at h ⊢; exact ih x h
 exact key l _ (hst.env t)
theorem good_guard {e:EN} (hg:gval ρ ops o.guard=some true) (h:Good P C ops n { o with guard:=none } nx ρ κ fun e' n'=>e'=e.1∧n'=e.2) (hk:k ⟨optE e.1.dst,e.1.box,e.1.reads⟩ e.2):Good P C ops n o nx ρ κ k:=by
 obtain ⟨eff,nx',⟨rfl,rfl⟩,h2,h3,h4⟩:=h
 refine ⟨_,_,hk,h2,h3,fun F hF ρ' κ' hag g a w hgm hst=>?_⟩
 have hag':Agr ops { o with guard:=none } ρ ρ' κ κ' e.1.reads e.1.box:=⟨fun t ht=>hag.slots t (by
  unfold Oper.looksAt at ht ⊢
  simp only [List.append_nil] at ht
  exact List.mem_append.2 (.inl ht)),hag.rows,hag.reads,hag.boxes⟩
 have hrun:=h4 F hF ρ' κ' hag' g a w hgm hst
 obtain ⟨G,hst'⟩:=hst
 unfold Runs at hrun ⊢
 rw [wanted_gval hg hag.slots hst',if_pos rfl]
 have hw:Region.wanted { o with guard:=none } (yielded ops.toArray a.tmps)=true:=rfl
 rw [hw,if_pos rfl] at hrun
 exact wpIn_imp (o:=o) (fun a w h=>updl_optE h) hrun
theorem good_skip {d:Option Nat} (hg:gval ρ ops o.guard=some false) {e:EN} (h:xskip n nx o.dst=.ok e) (hk:k e.1 e.2):Good P C ops n o nx ρ κ k:=by
 unfold xskip at h
 cases hd:o.dst with
 | none =>
  rw [hd] at h
  injection h with h; subst h
  refine ⟨_,_,hk,Nat.le_refl _,by simp,fun F hF ρ' κ' hag g a w hgm ⟨G,hst⟩=>?_⟩
  unfold Runs
  rw [wanted_gval hg hag.slots hst]
  simp only [Bool.false_eq_true,if_false,hd]
  exact ⟨G,hst⟩
 | some d =>
  rw [hd] at h
  obtain ⟨hlt,h⟩:=xif_ok h
  injection h with h; subst h
  rw [Nat.blt_eq] at hlt
  refine ⟨_,_,hk,Nat.le_refl _,by simp,fun F hF ρ' κ' hag g a w hgm ⟨G,hst⟩=>?_⟩
  unfold Runs
  rw [wanted_gval hg hag.slots hst]
  simp only [Bool.false_eq_true,if_false,hd]
  exact ⟨G,hst.put hlt (.opt false _ undef (by simp) (fun _=>rfl))⟩
def StepOk (P:Program) (C:Org→Prop) (ops:List Oper) (n:Nat) (S:Stepper):Prop:=∀(o:Oper) (nx:Nat) (ρ:Nat→AV) (κ:Nat→Box) (e:EN),(∀i,nx≤i→κ i=.none)→S o nx ρ κ=.ok e→Good P C ops n o nx ρ κ fun e' n'=>e'=e.1∧n'=e.2
theorem xwant_good (hT:TOk P T) {pol:Nat→Bool} {c:XC} (hX:∀f,SOk (CSpecR P f) (c.X f)) (hY:SOk (YSpecR P) c.Y) (hR:CallsSnd P C) (hn:∀i,nx≤i→κ i=.none) {e:EN} (hg:o.guard=none) (h:xwant T pol c n o nx ρ κ=.ok e) :
  Good P C ops n o nx ρ κ fun e' n'=>e'=e.1∧n'=e.2:=by
 unfold xwant at h
 obtain ⟨r,h1,h⟩:=bind_ok h
 obtain ⟨e0,h2,h⟩:=bind_ok h
 injection h with h; subst h
 have g0:Good P C ops n o nx ρ κ fun e' n'=>e'=e0.1∧n'=e0.2:=xop_good hT hX hY hR hn hg h1 h2 ⟨rfl,rfl⟩
 unfold xfilt
 cases c.drawn with
 | false=>exact g0
 | true=>exact good_filt g0 ⟨rfl,rfl⟩
theorem xstep_ok (hT:TOk P T) {pol:Nat→Bool} {c:XC} (hX:∀f,SOk (CSpecR P f) (c.X f)) (hY:SOk (YSpecR P) c.Y) (hR:CallsSnd P C):StepOk P C ops n (xstep T pol c ops n):=by
 intro o nx ρ κ e hn h
 unfold xstep at h
 split at h
 ·rename_i hg; exact xwant_good hT hX hY hR hn hg h
 ·rename_i g hg
  unfold xguard at h
  split at h
  ·rename_i hgv
   obtain ⟨r,h1,h⟩:=bind_ok h
   injection h with h; subst h
   rw [←hg] at hgv
   have h1':xwant T pol c n { o with guard:=none } nx ρ κ=.ok r:=h1
   exact good_guard hgv (xwant_good hT hX hY hR hn rfl h1') ⟨rfl,rfl⟩
  ·rename_i hgv
   rw [←hg] at hgv
   exact good_skip (d:=none) hgv h ⟨rfl,rfl⟩
  ·cases h
end
end Go.TM
namespace Go.TM
open Go.RowKit
variable [Glob]
theorem upC_eq {γ:Type} (f:Nat→γ) (i:Nat) (x:γ):upC f i x=upd f i x:=by
 funext j
 simp only [upC,upd]
 by_cases e:j=i
 ·subst e; simp
 ·have hb:Nat.beq j i=false:=by cases hb:Nat.beq j i with | false=>rfl | true=>exact absurd (Nat.eq_of_beq_eq_true hb) e
  rw [hb,if_neg e]
theorem upsC_eq {γ:Type} (f:Nat→γ):∀l:List (Nat × γ),upsC f l=updl f l
 | []=>rfl
 | (i,x)::r=>by simp only [upsC,updl]; rw [upC_eq,upsC_eq f r]
def XSt (g:Org) (n:Nat) (s:XS) (a:Act) (w:World):Prop:=St g n s.ρ s.κ a w∧g.m≤s.nx∧∀i,s.nx≤i→s.κ i=.none
theorem none_afterF {nx nx':Nat} {κ:Nat→Box} {bx:List (Nat × Box)} (hn:∀i,nx≤i→κ i=.none) (hle:nx≤nx') (hb:∀p,p∈bx→p.1<nx'):∀i,nx'≤i→updl κ bx i=.none:=by
 intro i hi
 rw [updl_nokey _ (fun p hp e=>by have:=hb p hp; omega)]
 exact hn i (by omega)
section
variable {P:Program} {C:Org→Prop} {T:List TI} {ops:List Oper} {n:Nat} {g:Org}
theorem xrun_sound {S:Stepper} (hS:StepOk P C ops n S) (hCg:C g) {F:Fence} (hF:Wide F) {Q:Exit→Act→World→Prop} {s':XS} (hQ:∀a w,XSt g n s' a w→Q .normal a w) :
  ∀(rest:List Oper) (s:XS) (a:Act) (w:World),xrun S rest s=.ok s'→XSt g n s a w→wpListIn F 0 P ops.toArray Q rest a w
 | [],s,a,w,h,hs=>by simp only [xrun] at h; injection h with h; subst h; exact hQ a w hs
 | o::rest,s,a,w,h,⟨hs,hgm,hn⟩=>by
  simp only [xrun] at h
  obtain ⟨e,h1,h⟩:=bind_ok h
  obtain ⟨eff,nx',⟨rfl,rfl⟩,hle,hb,hsnd⟩:=hS o s.nx s.ρ s.κ e hn h1
  refine runs_list hF (hsnd F hF s.ρ s.κ ⟨fun _ _=>rfl,fun _ _=>rfl,fun _ _=>rfl,fun _ _ _=>rfl⟩ g a w ⟨hgm,hCg⟩ hs) fun a' w' hs'=>?_
  refine xrun_sound hS hCg hF hQ rest (xput s e) a' w' h ⟨?_,Nat.le_trans hgm hle,?_⟩
  ·simp only [xput,upsC_eq]; exact hs'
  ·simp only [xput,upsC_eq]; exact none_afterF hn hle hb
theorem xdraw_sound {S:Stepper} (hS:StepOk P C ops n S) {ρ0:Nat→AV} {κ0:Nat→Box} {lo:Nat} {s':XS} {rs':List Rec} :
  ∀(rest done:List Oper) (s:XS) (rs:List Rec),ops=done++rest→rs.length=done.length→lo≤s.nx →
   (∀i,s.nx≤i→s.κ i=.none) →
   s.ρ=acc ρ0 (fun i=>(rs[i]?.map (·.eff.dst)).getD []) (fun _=>true) done.length→s.κ=acc κ0 (fun i=>(rs[i]?.map (·.eff.box)).getD []) (fun _=>true) done.length →
   (∀i r o,rs[i]?=some r→ops[i]?=some o→r.rows=ridk (acc ρ0 (fun i=>(rs[i]?.map (·.eff.dst)).getD []) (fun _=>true) i) (acc κ0 (fun i=>(rs[i]?.map (·.eff.box)).getD []) (fun _=>true) i) o∧Snd P C ops n lo o (acc ρ0 (fun i=>(rs[i]?.map (·.eff.dst)).getD []) (fun _=>true) i) (acc κ0 (fun i=>(rs[i]?.map (·.eff.box)).getD []) (fun _=>true) i) r.eff) →
   xdraw S rest s rs=.ok (s',rs') →
   rs'.length=ops.length∧lo≤s'.nx∧(∀i,s'.nx≤i→s'.κ i=.none) ∧
    s'.ρ=acc ρ0 (fun i=>(rs'[i]?.map (·.eff.dst)).getD []) (fun _=>true) ops.length∧s'.κ=acc κ0 (fun i=>(rs'[i]?.map (·.eff.box)).getD []) (fun _=>true) ops.length ∧
    ∀i r o,rs'[i]?=some r→ops[i]?=some o→r.rows=ridk (acc ρ0 (fun i=>(rs'[i]?.map (·.eff.dst)).getD []) (fun _=>true) i) (acc κ0 (fun i=>(rs'[i]?.map (·.eff.box)).getD []) (fun _=>true) i) o∧Snd P C ops n lo o (acc ρ0 (fun i=>(rs'[i]?.map (·.eff.dst)).getD []) (fun _=>true) i) (acc κ0 (fun i=>(rs'[i]?.map (·.eff.box)).getD []) (fun _=>true) i) r.eff
 | [],done,s,rs,hops,hlen,hlo,hn,he,hk,hall,h=>by
  have:done.length=ops.length:=by rw [hops]; simp
  simp only [xdraw] at h
  injection h with h
  injection h with h1 h2
  subst h1; subst h2
  exact ⟨by omega,hlo,hn,by rw [←this]; exact he,by rw [←this]; exact hk,hall⟩
 | o::rest,done,s,rs,hops,hlen,hlo,hn,he,hk,hall,h=>by
  simp only [xdraw] at h
  obtain ⟨e,h1,h⟩:=bind_ok h
  obtain ⟨eff,nx',⟨rfl,rfl⟩,hle,hb,hsnd⟩:=hS o s.nx s.ρ s.κ e hn h1
  have hget:∀i,i<rs.length→(rs++[⟨ridk s.ρ s.κ o,e.1⟩])[i]?=rs[i]?:=fun i hi=>List.getElem?_append_left hi
  have hlast:(rs++[(⟨ridk s.ρ s.κ o,e.1⟩:Rec)])[done.length]?=some ⟨ridk s.ρ s.κ o,e.1⟩:=by rw [←hlen]; simp
  have hs1:∀m,m≤done.length→acc ρ0 (fun i=>((rs++[(⟨ridk s.ρ s.κ o,e.1⟩:Rec)])[i]?.map (·.eff.dst)).getD []) (fun _=>true) m=acc ρ0 (fun i=>(rs[i]?.map (·.eff.dst)).getD []) (fun _=>true) m :=
   fun m hm=>acc_same _ _ _ m fun i hi=>by rw [hget i (by omega)]
  have hs2:∀m,m≤done.length→acc κ0 (fun i=>((rs++[(⟨ridk s.ρ s.κ o,e.1⟩:Rec)])[i]?.map (·.eff.box)).getD []) (fun _=>true) m=acc κ0 (fun i=>(rs[i]?.map (·.eff.box)).getD []) (fun _=>true) m :=
   fun m hm=>acc_same _ _ _ m fun i hi=>by rw [hget i (by omega)]
  refine xdraw_sound hS rest (done++[o]) (xput s e) (rs++[⟨ridk s.ρ s.κ o,e.1⟩]) (by rw [hops]; simp) (by simp [hlen]) (Nat.le_trans hlo hle) (by simp only [xput,upsC_eq]; exact none_afterF hn hle hb) ?_ ?_ ?_ h
  ·simp only [xput,upsC_eq]
   rw [List.length_append]
   simp only [List.length_cons,List.length_nil,Nat.zero_add,acc,if_true]
   rw [hs1 _ (Nat.le_refl _),hlast,←he]; rfl
  ·simp only [xput,upsC_eq]
   rw [List.length_append]
   simp only [List.length_cons,List.length_nil,Nat.zero_add,acc,if_true]
   rw [hs2 _ (Nat.le_refl _),hlast,←hk]; rfl
  ·intro i r o' hr ho'
   rcases Nat.lt_or_ge i rs.length with hlt | hge
   ·rw [hget i hlt] at hr
    rw [hs1 i (by omega),hs2 i (by omega)]
    exact hall i r o' hr ho'
   ·have hi:i=done.length:=by
     have:=(List.getElem?_eq_some_iff.1 hr).1
     simp at this; omega
    subst hi
    rw [hlast] at hr
    injection hr with hr
    subst hr
    rw [hops] at ho'
    simp at ho'
    subst ho'
    rw [hs1 _ (Nat.le_refl _),hs2 _ (Nat.le_refl _),←he,←hk]
    exact ⟨rfl,hsnd.lo hlo⟩
end
section
variable {κ κ':Nat→Box} {m:Nat}
theorem subW_nrm:∀N:Nat,(∀v:AV,SizeOf.sizeOf v<N→subW m κ κ' (nrm m κ v) v)∧(∀l:List AV,SizeOf.sizeOf l<N→subWs m κ κ' (nrms m κ l) l):=by
 intro N
 induction N with
 | zero=>exact ⟨fun _ h=>by omega,fun _ h=>by omega⟩
 | succ N ih =>
  refine ⟨fun v hsz=>?_,fun l hsz=>?_⟩
  ·cases v with
   | any=>exact trivial
   | dv d=>exact DV.Le.refl d
   | ptr i off=>exact rfl
   | yld i=>exact rfl
   | sle i k=>exact rfl
   | own i ver ep p =>
    cases hn:nrm m κ (.own i ver ep p) with
    | own j a b q =>
     simp only [subW,subOwn,dn]; exact hn
    | any=>exact trivial
    | _ =>
     simp only [nrm] at hn
     split at hn
     ·rename_i v' e' d hk
      cases hb:Nat.beq ver v' && (emp p || Nat.beq ep e') <;> rw [hb] at hn <;> cases hn
     ·cases hb:Nat.beq ver 0 && (emp p || Nat.beq ep 0) <;> rw [hb] at hn <;> cases hn
     ·cases hn
   | ownf i ver =>
    cases hn:nrm m κ (.ownf i ver) with
    | ownf j a=>simp only [subW]; exact hn
    | any=>exact trivial
    | _ =>
     simp only [nrm] at hn
     split at hn
     ·rename_i v' e' d hk
      cases hb:Nat.beq ver v' <;> rw [hb] at hn <;> cases hn
     ·cases hn
   | loc i ver ep p a b c =>
    cases hn:nrm m κ (.loc i ver ep p a b c) with
    | loc j a b q x y z=>simp only [subW]; exact hn
    | any=>exact trivial
    | _ =>
     simp only [nrm] at hn
     split at hn
     ·rename_i v' e' d hk
      cases hb:Nat.beq ver v' && (emp p || Nat.beq ep e') <;> rw [hb] at hn <;> cases hn
     ·cases hn
   | fn f l=>exact ⟨rfl,ih.2 l (by simp at hsz; omega)⟩
   | bfn f l=>exact ⟨rfl,ih.2 l (by simp at hsz; omega)⟩
   | agg l=>exact ih.2 l (by simp at hsz; omega)
   | tup l=>exact ih.2 l (by simp at hsz; omega)
   | opt g v=>exact trivial
  ·cases l with
   | nil=>exact trivial
   | cons v l=>exact ⟨ih.1 v (by simp at hsz; omega),ih.2 l (by simp at hsz; omega)⟩
theorem subWs_nrms (l:List AV):subWs m κ κ' (nrms m κ l) l:=(subW_nrm (SizeOf.sizeOf l+1)).2 l (by omega)
theorem subX_nB {i:Nat}:subX m κ κ' i (κ i) (nB m κ i (κ i)):=by
 cases h:κ i with
 | none=>exact trivial
 | dead=>exact trivial
 | cells l=>exact subWs_nrms l
 | tree v e d=>exact ⟨rfl,rfl⟩
 | fz v d=>exact ⟨rfl,DV.Le.refl d⟩
 | rcd rc st l=>exact ⟨rfl,rfl,subWs_nrms l⟩
 | held=>exact trivial
 | itr _ _ _ _ _=>exact trivial
theorem subB_nK:∀(l:List Nat),subB m κ κ' (nK m κ l)
 | []=>trivial
 | i::r=>⟨subX_nB,subB_nK r⟩
end
section
variable {P:Program} {T:List TI} {n:Nat} {g:Org} {ρ:Nat→AV} {κ:Nat→Box} {a:Act} {w:World} {G:Gh}
theorem xres_of:∀{rvs:List ResultVar} {avs:List AV} {q:List AV→Prop},xres T ρ κ rvs=.ok avs→q avs→resA T ρ κ rvs q
 | [],avs,q,h,hq=>by simp only [xres] at h; injection h with h; subst h; exact hq
 | .tmp t::r,avs,q,h,hq=>by
  simp only [xres] at h
  obtain ⟨l,h1,h⟩:=bind_ok h
  injection h with h; subst h
  simp only [resA,force_eq]
  exact xres_of h1 hq
 | .cell t ty::r,avs,q,h,hq=>by
  simp only [xres] at h
  have hh:=xif_ok h; clear h; obtain ⟨hb,h⟩:=hh
  simp only [resA,hb,cond_true]
  split at h
  ·rename_i i off hr
   split at h
   ·rename_i l hk
    obtain ⟨v,h1,h⟩:=bind_ok h
    obtain ⟨vs,h2,h⟩:=bind_ok h
    injection h with h; subst h
    simp only [hr,hk]
    exact pick_of h1 (xres_of h2 hq)
   ·cases h
  ·cases h
theorem StM.out {m:Nat} {K:Boxes} {w0:World} {G0:Gh} (hg:g=⟨fun b=>∃i,Own G0 i (lookB K i) b,w0,G0.M,m,G0.β,fun i p=>G0.H i 0 0 p⟩) (hst:StM g n ρ κ a w G) {fuel:Nat} {avs:List AV} {us:List Value} {r:XOut} (hx:xout fuel m κ avs=.ok r) (hrel:CRel G avs us)
  {v:Value} (hone:∀d u,r.1=[d]→us=[u]→v=u) (hmany:us.length ≠ 1→v=.tuple us.toArray):∃rs K' G',(rs=r.1∧K'=r.2.1)∧COut m r.2.2 (lookB K) w0 G0 rs (lookB K') w G' v:=by
 unfold xout xoutC at hx
 obtain ⟨hchk,hx⟩:=xif_ok hx
 injection hx with hx; subst hx
 generalize hK:nK m κ (clos κ fuel (upFrom 0 m++AV.idss (nrms m κ avs)) [])=K2 at *
 simp only [outChk,Bool.and_eq_true] at hchk
 obtain ⟨⟨⟨hwf2,hscr⟩,hfr⟩,hfull⟩:=hchk
 have hsB:subB m κ (lookB K2) K2:=by
  have:=subB_nK (m:=m) (κ:=κ) (κ':=lookB K2) (clos κ fuel (upFrom 0 m++AV.idss (nrms m κ avs)) [])
  rwa [hK] at this
 have hgm:g.m≤m:=by rw [hg]; exact Nat.le_refl _
 obtain ⟨G2,_,hvs,hst3⟩:=hst.sub (m:=m) hgm (F:=fidws κ (nrms m κ avs) avs++fidsB κ K2) hwf2 (fun i hi=>List.mem_append.2 (.inr hi)) hfr hfull hsB
 have hdr:=hvs (nrms m κ avs) avs us (subWs_nrms avs) hscr (fun i hi=>List.mem_append.2 (.inl hi)) hrel
 have hst4:=hst3 (fun _=>.any) (fun _=>.any _)
 subst hg
 refine ⟨_,_,G2,⟨rfl,rfl⟩,⟨hst4.fit,fun i hi=>wfB_none hwf2 hi,?_,hst4.mem,hst4.bet,hst4.hed,fun b hb hO=>⟨hst4.bel b hb (fun ⟨i,h⟩=>hO i h),hst4.mlow b hb (fun ⟨i,h⟩=>hO i h)⟩,hst4.ownhi,hst4.os,hst4.tape,hst4.output,hst4.grow⟩⟩
 have hul:us.length=(nrms m κ avs).length:=hdr.1.symm
 generalize hrs:nrms m κ avs=rs at *
 have many:us.length ≠ 1→VRel G2 (.tup rs) v:=by
  intro hne
  rw [hmany hne]
  exact .tup rs us hdr.1 hdr.2
 match rs,hdr,hul,many,hone with
 | [],hdr,hul,many,_=>exact many (by simp at hul; simp [hul])
 | [d],hdr,hul,_,hone =>
  match us,hul,hdr with
  | [u],_,hdr=>rw [hone d u rfl rfl]; exact hdr.2 0 d u rfl rfl
 | _::_::_,hdr,hul,many,_=>exact many (by simp at hul; omega)
end
end Go.TM
namespace Go.TM
open Go.RowKit
variable [Glob]
theorem look_updl:∀(env:Env),look env=updl (fun _=>.any) env
 | []=>rfl
 | (i,b)::K=>by
  funext t
  simp only [look,updl,upd,look_updl K]
  by_cases h:t=i
  ·subst h; simp
  ·rw [if_neg h]; simp [beq_false h]
def GoOk (P:Program) (go:Coder):Prop:=∀(r:Bool) (n:Nat) (c:Code) (s:XS) (e:AX) (s':XS),go r n c s=.ok (e,s')→∀(F:Fence),Wide F→(r=true→F=Fence.wide)→∀(g:Org) (a:Act) (w:World) (R:Exit→Act→World→Prop),
 XSt g n s a w→(∀a w,XSt g n s' a w→R (toExit e) a w)→c.wpIn F 0 P R a w
section
variable {P:Program} {T:List TI} {go:Coder}
theorem xfunc_ok (hT:TOk P T) (hgo:GoOk P go) (hname:∀(g:Nat) (fn:Func),P.funcs[g]?=some fn→(fn.name == "runtime.NumGoroutine")=false) (f g:Nat):SOk (CSpecR P g) (xfunc P T go f g):=by
 intro args m K r hx
 unfold xfunc at hx
 obtain ⟨fn,hf,hx⟩:=bind_ok hx
 obtain ⟨c,hb,hx⟩:=bind_ok hx
 have hf:=xopt_ok hf
 have hb:=xopt_ok hb
 unfold xbody at hx
 obtain ⟨hargs,hx⟩:=xif_ok hx
 have hx:((go true fn.ntmps c (xenter m (entryA 0 args) K)).bind fun q=>xleave T f m fn q)=.ok r:=by
  unfold xtag at hx
  split at hx
  ·rename_i q hq; rw [hq]; exact hx
  ·cases hx
 obtain ⟨⟨e,s'⟩,hrun,hx⟩:=bind_ok hx
 refine ⟨⟨fn,hf,hname g fn hf,by rw [hb]; rfl⟩,fun w G vs hgl hfit hr=>?_⟩
 refine (wide_wide.calls (n:=0)).1 (callsIn_of_wp_marks hf hb trivial ?_)
 simp only [Bool.and_eq_true,AState.wf] at hargs
 obtain ⟨hlen,hwB,hwE⟩:=hargs
 have hlen:vs.length≤fn.ntmps:=by rw [←hr.1]; exact Nat.le_of_ble_eq_true hlen
 let g0:Org:=⟨fun b=>∃i,Own G i (lookB K i) b,w,G.M,m,G.β,fun i p=>G.H i 0 0 p⟩
 have hst:StM g0 fn.ntmps (look (entryA 0 args)) (lookB K) { tmps:=vs.toArray++Array.replicate (fn.ntmps - vs.toArray.size) undef,defers:=[] } w G:=by
  refine { fit:=hfit,env:=fun t=>?_,size:=by simp; omega,bel:=fun _ _ _=>rfl,os:=rfl,tape:=rfl,output:=rfl,grow:=Nat.le_refl _,mem:=.refl G.M,mlow:=fun _ _ _=>rfl,ownhi:=fun i b ho=>.inr ⟨i,ho⟩,bet:=fun _ _=>rfl,hed:=fun _ _ _ _ hx=>hx,glob:=hgl,dfr:=⟨[],rfl,List.nodup_nil,by simp⟩ }
  rw [entryA_look]
  simp only [Nat.zero_le,if_true,Nat.sub_zero]
  split
  ·rename_i d hd
   have ht:t<vs.length:=by rw [←hr.1]; exact (List.getElem?_eq_some_iff.1 hd).1
   have hv:vs[t]?=some (vs[t]'ht):=List.getElem?_eq_getElem ht
   have:(vs.toArray++Array.replicate (fn.ntmps - vs.toArray.size) undef).getD t undef=vs[t]'ht:=by
    rw [Array.getD_eq_getD_getElem?,Array.getElem?_append_left (by simpa using ht)]
    simp [hv]
   rw [this]
   exact hr.2 t d _ hd hv
  ·exact .any _
 have hxs:XSt g0 fn.ntmps (xenter m (entryA 0 args) K) { tmps:=vs.toArray++Array.replicate (fn.ntmps - vs.toArray.size) undef,defers:=[] } w:=by
  refine ⟨⟨G,?_⟩,Nat.le_refl _,?_⟩
  ·simp only [xenter,upsC_eq,←look_updl,←lookB_updl]; exact hst
  ·simp only [xenter,upsC_eq,←lookB_updl]; exact fun i hi=>wfB_none hwB hi
 refine hgo true fn.ntmps c _ e s' hrun Fence.wide wide_wide (fun _=>rfl) g0 _ w _ hxs fun a w' hs=>?_
 obtain ⟨⟨G1,hst'⟩,_⟩:=hs
 have fin:((xres T s'.ρ s'.κ fn.results.toList).bind fun avs=>xout f m s'.κ avs)=.ok r→LeavesInM Fence.wide 0 P fn a.tmps (fun e w'=>∃v rs K' G',e=.returned v∧(rs=r.1∧K'=r.2.1)∧COut m r.2.2 (lookB K) w G rs (lookB K') w' G' v) a.defers .returning w':=by
  intro hres
  obtain ⟨avs,h1,h2⟩:=bind_ok hres
  obtain ⟨D,hD,_⟩:=hst'.dfr
  rw [hD]
  refine StM.leave (g:=g0) (n:=fn.ntmps) (ρ:=s'.ρ) (κ:=s'.κ) (G:=G1) a.tmps (fun w2 hst2=>?_) D w' (by have:=hst'; rw [←hD]; exact this)
  obtain ⟨avs',us,hq,hrun',hrel⟩:=resA_ok hT hst2 (xres_of (q:=fun l=>l=avs) h1 rfl)
  subst hq
  refine ⟨_,run_results hrun',?_⟩
  obtain ⟨rs,K',G',e1,e2⟩:=StM.out (g:=g0) (m:=m) (K:=K) (w0:=w) (G0:=G) rfl hst2 h2 hrel (v:=if h:us.toArray.size=1 then us.toArray[0] else .tuple us.toArray) (fun d u _ hu=>by subst hu; rfl) (fun hne=>by rw [dif_neg (by simpa using hne)])
  exact ⟨_,rs,K',G',rfl,e1,e2⟩
 unfold xleave at hx
 cases e with
 | normal=>exact fin hx
 | ret=>exact fin hx
 | exit i=>cases hx
theorem xyield_ok (hgo:GoOk P go) (f:Nat):SOk (YSpecR P) (xyield go f):=by
 intro args m K r hx
 unfold xyield at hx
 split at hx
 ·rename_i rc l h0
  unfold xround at hx
  have hh:=xif_ok hx; clear hx; obtain ⟨hchk,hx⟩:=hh
  have hh:=bind_ok hx; clear hx; obtain ⟨⟨e1,s1⟩,hrun1,hx⟩:=hh
  intro w G vs hgl hfit hr
  simp only [Bool.and_eq_true] at hchk
  obtain ⟨⟨⟨hal,hps⟩,hm0⟩,hkl⟩:=hchk
  have hal:=Nat.eq_of_beq_eq_true hal
  have hm0:0<m:=by simpa using hm0
  have hb:=hfit.box 0
  rw [h0] at hb
  obtain ⟨b,fn,tmps,D,hb0,hw,hcr⟩:=hb
  have hsz:tmps.size=l.length:=by have:=hcr.1; simp at this; exact this.symm
  have hvl:vs.toArray.size=rc.ps.size:=by rw [List.size_toArray,←hr.1]; exact hal
  refine ⟨b,hb0,fn,_,rc.as,rc.bd,w,run_yield hw hvl,roundIn_of_wpIn trivial ?_⟩
  have hfold:(rc.ps.zip vs.toArray).foldl (fun tm (pv:Nat × Value)=>tm.setIfInBounds pv.1 pv.2) tmps=(rc.ps.toList.zip vs).foldl (fun tm (pv:Nat × Value)=>tm.setIfInBounds pv.1 pv.2) tmps:=by
   rw [←Array.foldl_toList,Array.toList_zip]
  have hfold':(rc.ps.zip vs.toArray).foldl (fun tmps (t,a)=>tmps.setIfInBounds t a) tmps=(rc.ps.toList.zip vs).foldl (fun tm (pv:Nat × Value)=>tm.setIfInBounds pv.1 pv.2) tmps:=hfold
  let g:Org:=⟨fun b=>∃i,Own G i (lookB K i) b,w,G.M,m,G.β,fun i p=>G.H i 0 0 p⟩
  have henv:∀t,VRel G (look (envL 0 l) t) (tmps.getD t undef):=fun t=>by
   have:=envL_look l 0 t
   rw [Nat.zero_add] at this
   rw [this]
   split
   ·rename_i v hv
    have ht:t<tmps.size:=by rw [hsz]; exact (List.getElem?_eq_some_iff.1 hv).1
    refine hcr.2 t v _ hv ?_
    rw [Array.getD_eq_getD_getElem?,Array.getElem?_toList,Array.getElem?_eq_getElem ht]; rfl
   ·exact .any _
  have hst:StM g l.length (look (parE rc.ps.toList args (envL 0 l))) (lookB K) { tmps:=(rc.ps.toList.zip vs).foldl (fun tm (pv:Nat × Value)=>tm.setIfInBounds pv.1 pv.2) tmps,defers:=[] } w G :=
   {fit:=hfit,env:=par_rel (fun p hp=>by rw [hsz]; exact ltAll_mem hps p hp) hr henv,size:=by rw [←hsz]; exact fold_size _ _,bel:=fun _ _ _=>rfl,os:=rfl,tape:=rfl,output:=rfl,grow:=Nat.le_refl _,mem:=.refl G.M,mlow:=fun _ _ _=>rfl,ownhi:=fun i b ho=>.inr ⟨i,ho⟩,bet:=fun _ _=>rfl,hed:=fun _ _ _ _ hx=>hx,glob:=hgl,dfr:=⟨[],rfl,List.nodup_nil,by simp⟩ }
  rw [hfold']
  have hno:∀i,m≤i→lookB K i=.none:=fun i hi=>by
   rcases lookB_mem (K:=K) (i:=i) with h' | h'
   ·exact h'
   ·have:=keysLt_mem hkl i (List.mem_map.2 ⟨_,h',rfl⟩); omega
  have hxs:XSt g l.length (xenter m (parE rc.ps.toList args (envL 0 l)) K) { tmps:=(rc.ps.toList.zip vs).foldl (fun tm (pv:Nat × Value)=>tm.setIfInBounds pv.1 pv.2) tmps,defers:=[] } w:=by
   refine ⟨⟨G,?_⟩,Nat.le_refl _,?_⟩
   ·simp only [xenter,upsC_eq,←look_updl,←lookB_updl]; exact hst
   ·simp only [xenter,upsC_eq,←lookB_updl]; exact hno
  refine hgo false l.length rc.as _ e1 s1 hrun1 _ (wide_round b) (fun h=>by cases h) g _ w _ hxs fun a1 w1 hs=>?_
  cases e1 with
  | ret=>cases hx
  | exit i=>cases hx
  | normal =>
   simp only at hx
   unfold xround1 at hx
   split at hx
   ·rename_i rc1 l1 hk1
    have hh:=bind_ok hx; clear hx; obtain ⟨⟨e2,s2⟩,hrun2,hx⟩:=hh
    obtain ⟨⟨G1,st1⟩,hnx,hn1⟩:=hs
    have hl1:G1.β 0=some b:=by rw [st1.bet 0 hm0]; exact hb0
    obtain ⟨rr,hw1,hr1,hr2,hset,_⟩:=st1.setRcd hk1 hl1
    have hbeg:=run_beginRound (P:=P) hw1 hr1
    have hset1:=hset .busy
    have hloop:({ rr with state:=RSt.busy.st,pending:=RSt.busy.pend }:Loop)={ rr with state:=.busy }:=by
     have:rr.pending=none:=hr2
     simp only [RSt.st,RSt.pend,←this]
    rw [hloop] at hset1
    refine ⟨_,hbeg,?_⟩
    refine hgo false l.length rc.bd _ e2 s2 hrun2 _ (wide_round b) (fun h=>by cases h) g _ _ _ ⟨⟨G1,by simp only [upC_eq]; exact hset1⟩,hnx,fun i hi=>by
     have h1:m≤s1.nx:=hnx
     have h2:s1.nx≤i:=hi
     simp only [upC_eq]
     rw [upd_other _ _ (by omega)]; exact hn1 i hi⟩ fun a2 w2 hs2=>?_
    unfold xround2 at hx
    split at hx
    ·rename_i rc2 l2 hk2
     obtain ⟨⟨G2,st2⟩,_,_⟩:=hs2
     have hl2:G2.β 0=some b:=by rw [st2.bet 0 hm0]; exact hb0
     obtain ⟨r2,hw2,_,_,hset2,_⟩:=st2.setRcd hk2 hl2
     have st3:=hset2 (finSt e2)
     rw [upC_eq] at hx
     obtain ⟨rs,K',G',q1,q2⟩:=StM.out (g:=g) (m:=m) (K:=K) (w0:=w) (G0:=G) rfl st3 hx (us:=[.bool (isN e2)]) ⟨rfl,fun j d v hd hv=>by
      cases j with
      | zero=>simp at hd hv; subst hd; subst hv; exact .dv (.bool _)
      | succ j=>simp at hd⟩ (v:=.bool (isN e2)) (fun d u _ hu=>by injection hu) (fun hne=>absurd rfl hne)
     have hend:=run_endRound (P:=P) (endCode e2) hw2
     cases e2 with
     | normal=>exact ⟨_,_,hend,_,rs,K',G',rfl,q1,q2⟩
     | ret=>exact ⟨_,_,hend,_,rs,K',G',rfl,q1,q2⟩
     | exit i=>exact ⟨_,_,hend,_,rs,K',G',rfl,q1,q2⟩
    ·cases hx
   ·cases hx
 ·cases hx
end
end Go.TM
