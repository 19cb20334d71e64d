import Derived.Test.YtpbdohkbiklflaaGreatDoorNM18
import Derived.LoopNIn
import Derived.Test.YtpbdohkbiklflaaGreatDoorNM16
set_option linter.unusedVariables false
set_option linter.unusedSimpArgs false
set_option linter.unusedSectionVars false
namespace Go.TM
open Go.RowKit
variable [Glob]
theorem look_updl:∀(env:Env),look env=updl (fun _=>.any) env
 | []=>rfl
 | (i,b)::K=>by
  funext t
  simp only [look,updl,upd,look_updl K]
  by_cases h:t=i
  ·subst h; simp
  ·rw [if_neg h]; simp [beq_false h]
def GoOk (P:Program) (go:Coder):Prop:=∀(r:Bool) (n:Nat) (c:Code) (s:XS) (e:AX) (s':XS),go r n c s=.ok (e,s')→∀(F:Fence),Wide F→(r=true→F=Fence.wide)→∀(g:Org) (a:Act) (w:World) (R:Exit→Act→World→Prop),
 XSt g n s a w→(∀a w,XSt g n s' a w→R (toExit e) a w)→c.wpIn F 0 P R a w
section
variable {P:Program} {T:List TI} {go:Coder}
theorem xfunc_ok (hT:TOk P T) (hgo:GoOk P go) (hname:∀(g:Nat) (fn:Func),P.funcs[g]?=some fn→(fn.name == "runtime.NumGoroutine")=false) (f g:Nat):SOk (CSpecR P g) (xfunc P T go f g):=by
 intro args m K r hx
 unfold xfunc at hx
 obtain ⟨fn,hf,hx⟩:=bind_ok hx
 obtain ⟨c,hb,hx⟩:=bind_ok hx
 have hf:=xopt_ok hf
 have hb:=xopt_ok hb
 unfold xbody at hx
 obtain ⟨hargs,hx⟩:=xif_ok hx
 have hx:((go true fn.ntmps c (xenter m (entryA 0 args) K)).bind fun q=>xleave T f m fn q)=.ok r:=by
  unfold xtag at hx
  split at hx
  ·rename_i q hq; rw [hq]; exact hx
  ·cases hx
 obtain ⟨⟨e,s'⟩,hrun,hx⟩:=bind_ok hx
 refine ⟨⟨fn,hf,hname g fn hf,by rw [hb]; rfl⟩,fun w G vs hgl hfit hr=>?_⟩
 refine (wide_wide.calls (n:=0)).1 (callsIn_of_wp_marks hf hb trivial ?_)
 simp only [Bool.and_eq_true,AState.wf] at hargs
 obtain ⟨hlen,hwB,hwE⟩:=hargs
 have hlen:vs.length≤fn.ntmps:=by rw [←hr.1]; exact Nat.le_of_ble_eq_true hlen
 let g0:Org:=⟨fun b=>∃i,Own G i (lookB K i) b,w,G.M,m,G.β,fun i p=>G.H i 0 0 p⟩
 have hst:StM g0 fn.ntmps (look (entryA 0 args)) (lookB K) { tmps:=vs.toArray++Array.replicate (fn.ntmps - vs.toArray.size) undef,defers:=[] } w G:=by
  refine { fit:=hfit,env:=fun t=>?_,size:=by simp; omega,bel:=fun _ _ _=>rfl,os:=rfl,tape:=rfl,output:=rfl,grow:=Nat.le_refl _,mem:=.refl G.M,mlow:=fun _ _ _=>rfl,ownhi:=fun i b ho=>.inr ⟨i,ho⟩,bet:=fun _ _=>rfl,hed:=fun _ _ _ _ hx=>hx,glob:=hgl,dfr:=⟨[],rfl,List.nodup_nil,by simp⟩ }
  rw [entryA_look]
  simp only [Nat.zero_le,if_true,Nat.sub_zero]
  split
  ·rename_i d hd
   have ht:t<vs.length:=by rw [←hr.1]; exact (List.getElem?_eq_some_iff.1 hd).1
   have hv:vs[t]?=some (vs[t]'ht):=List.getElem?_eq_getElem ht
   have:(vs.toArray++Array.replicate (fn.ntmps - vs.toArray.size) undef).getD t undef=vs[t]'ht:=by
    rw [Array.getD_eq_getD_getElem?,Array.getElem?_append_left (by simpa using ht)]
    simp [hv]
   rw [this]
   exact hr.2 t d _ hd hv
  ·exact .any _
 have hxs:XSt g0 fn.ntmps (xenter m (entryA 0 args) K) { tmps:=vs.toArray++Array.replicate (fn.ntmps - vs.toArray.size) undef,defers:=[] } w:=by
  refine ⟨⟨G,?_⟩,Nat.le_refl _,?_⟩
  ·simp only [xenter,upsC_eq,←look_updl,←lookB_updl]; exact hst
  ·simp only [xenter,upsC_eq,←lookB_updl]; exact fun i hi=>wfB_none hwB hi
 refine hgo true fn.ntmps c _ e s' hrun Fence.wide wide_wide (fun _=>rfl) g0 _ w _ hxs fun a w' hs=>?_
 obtain ⟨⟨G1,hst'⟩,_⟩:=hs
 have fin:((xres T s'.ρ s'.κ fn.results.toList).bind fun avs=>xout f m s'.κ avs)=.ok r→LeavesInM Fence.wide 0 P fn a.tmps (fun e w'=>∃v rs K' G',e=.returned v∧(rs=r.1∧K'=r.2.1)∧COut m r.2.2 (lookB K) w G rs (lookB K') w' G' v) a.defers .returning w':=by
  intro hres
  obtain ⟨avs,h1,h2⟩:=bind_ok hres
  obtain ⟨D,hD,_⟩:=hst'.dfr
  rw [hD]
  refine StM.leave (g:=g0) (n:=fn.ntmps) (ρ:=s'.ρ) (κ:=s'.κ) (G:=G1) a.tmps (fun w2 hst2=>?_) D w' (by have:=hst'; rw [←hD]; exact this)
  obtain ⟨avs',us,hq,hrun',hrel⟩:=resA_ok hT hst2 (xres_of (q:=fun l=>l=avs) h1 rfl)
  subst hq
  refine ⟨_,run_results hrun',?_⟩
  obtain ⟨rs,K',G',e1,e2⟩:=StM.out (g:=g0) (m:=m) (K:=K) (w0:=w) (G0:=G) rfl hst2 h2 hrel (v:=if h:us.toArray.size=1 then us.toArray[0] else .tuple us.toArray) (fun d u _ hu=>by subst hu; rfl) (fun hne=>by rw [dif_neg (by simpa using hne)])
  exact ⟨_,rs,K',G',rfl,e1,e2⟩
 unfold xleave at hx
 cases e with
 | normal=>exact fin hx
 | ret=>exact fin hx
 | exit i=>cases hx
theorem xyield_ok (hgo:GoOk P go) (f:Nat):SOk (YSpecR P) (xyield go f):=by
 intro args m K r hx
 unfold xyield at hx
 split at hx
 ·rename_i rc l h0
  unfold xround at hx
  have hh:=xif_ok hx; clear hx; obtain ⟨hchk,hx⟩:=hh
  have hh:=bind_ok hx; clear hx; obtain ⟨⟨e1,s1⟩,hrun1,hx⟩:=hh
  intro w G vs hgl hfit hr
  simp only [Bool.and_eq_true] at hchk
  obtain ⟨⟨⟨hal,hps⟩,hm0⟩,hkl⟩:=hchk
  have hal:=Nat.eq_of_beq_eq_true hal
  have hm0:0<m:=by simpa using hm0
  have hb:=hfit.box 0
  rw [h0] at hb
  obtain ⟨b,fn,tmps,D,hb0,hw,hcr⟩:=hb
  have hsz:tmps.size=l.length:=by have:=hcr.1; simp at this; exact this.symm
  have hvl:vs.toArray.size=rc.ps.size:=by rw [List.size_toArray,←hr.1]; exact hal
  refine ⟨b,hb0,fn,_,rc.as,rc.bd,w,run_yield hw hvl,roundIn_of_wpIn trivial ?_⟩
  have hfold:(rc.ps.zip vs.toArray).foldl (fun tm (pv:Nat × Value)=>tm.setIfInBounds pv.1 pv.2) tmps=(rc.ps.toList.zip vs).foldl (fun tm (pv:Nat × Value)=>tm.setIfInBounds pv.1 pv.2) tmps:=by
   rw [←Array.foldl_toList,Array.toList_zip]
  have hfold':(rc.ps.zip vs.toArray).foldl (fun tmps (t,a)=>tmps.setIfInBounds t a) tmps=(rc.ps.toList.zip vs).foldl (fun tm (pv:Nat × Value)=>tm.setIfInBounds pv.1 pv.2) tmps:=hfold
  let g:Org:=⟨fun b=>∃i,Own G i (lookB K i) b,w,G.M,m,G.β,fun i p=>G.H i 0 0 p⟩
  have henv:∀t,VRel G (look (envL 0 l) t) (tmps.getD t undef):=fun t=>by
   have:=envL_look l 0 t
   rw [Nat.zero_add] at this
   rw [this]
   split
   ·rename_i v hv
    have ht:t<tmps.size:=by rw [hsz]; exact (List.getElem?_eq_some_iff.1 hv).1
    refine hcr.2 t v _ hv ?_
    rw [Array.getD_eq_getD_getElem?,Array.getElem?_toList,Array.getElem?_eq_getElem ht]; rfl
   ·exact .any _
  have hst:StM g l.length (look (parE rc.ps.toList args (envL 0 l))) (lookB K) { tmps:=(rc.ps.toList.zip vs).foldl (fun tm (pv:Nat × Value)=>tm.setIfInBounds pv.1 pv.2) tmps,defers:=[] } w G :=
   {fit:=hfit,env:=par_rel (fun p hp=>by rw [hsz]; exact ltAll_mem hps p hp) hr henv,size:=by rw [←hsz]; exact fold_size _ _,bel:=fun _ _ _=>rfl,os:=rfl,tape:=rfl,output:=rfl,grow:=Nat.le_refl _,mem:=.refl G.M,mlow:=fun _ _ _=>rfl,ownhi:=fun i b ho=>.inr ⟨i,ho⟩,bet:=fun _ _=>rfl,hed:=fun _ _ _ _ hx=>hx,glob:=hgl,dfr:=⟨[],rfl,List.nodup_nil,by simp⟩ }
  rw [hfold']
  have hno:∀i,m≤i→lookB K i=.none:=fun i hi=>by
   rcases lookB_mem (K:=K) (i:=i) with h' | h'
   ·exact h'
   ·have:=keysLt_mem hkl i (List.mem_map.2 ⟨_,h',rfl⟩); omega
  have hxs:XSt g l.length (xenter m (parE rc.ps.toList args (envL 0 l)) K) { tmps:=(rc.ps.toList.zip vs).foldl (fun tm (pv:Nat × Value)=>tm.setIfInBounds pv.1 pv.2) tmps,defers:=[] } w:=by
   refine ⟨⟨G,?_⟩,Nat.le_refl _,?_⟩
   ·simp only [xenter,upsC_eq,←look_updl,←lookB_updl]; exact hst
   ·simp only [xenter,upsC_eq,←lookB_updl]; exact hno
  refine hgo false l.length rc.as _ e1 s1 hrun1 _ (wide_round b) (fun h=>by cases h) g _ w _ hxs fun a1 w1 hs=>?_
  cases e1 with
  | ret=>cases hx
  | exit i=>cases hx
  | normal =>
   simp only at hx
   unfold xround1 at hx
   split at hx
   ·rename_i rc1 l1 hk1
    have hh:=bind_ok hx; clear hx; obtain ⟨⟨e2,s2⟩,hrun2,hx⟩:=hh
    obtain ⟨⟨G1,st1⟩,hnx,hn1⟩:=hs
    have hl1:G1.β 0=some b:=by rw [st1.bet 0 hm0]; exact hb0
    obtain ⟨rr,hw1,hr1,hr2,hset,_⟩:=st1.setRcd hk1 hl1
    have hbeg:=run_beginRound (P:=P) hw1 hr1
    have hset1:=hset .busy
    have hloop:({ rr with state:=RSt.busy.st,pending:=RSt.busy.pend }:Loop)={ rr with state:=.busy }:=by
     have:rr.pending=none:=hr2
     simp only [RSt.st,RSt.pend,←this]
    rw [hloop] at hset1
    refine ⟨_,hbeg,?_⟩
    refine hgo false l.length rc.bd _ e2 s2 hrun2 _ (wide_round b) (fun h=>by cases h) g _ _ _ ⟨⟨G1,by simp only [upC_eq]; exact hset1⟩,hnx,fun i hi=>by
     have h1:m≤s1.nx:=hnx
     have h2:s1.nx≤i:=hi
     simp only [upC_eq]
     rw [upd_other _ _ (by omega)]; exact hn1 i hi⟩ fun a2 w2 hs2=>?_
    unfold xround2 at hx
    split at hx
    ·rename_i rc2 l2 hk2
     obtain ⟨⟨G2,st2⟩,_,_⟩:=hs2
     have hl2:G2.β 0=some b:=by rw [st2.bet 0 hm0]; exact hb0
     obtain ⟨r2,hw2,_,_,hset2,_⟩:=st2.setRcd hk2 hl2
     have st3:=hset2 (finSt e2)
     rw [upC_eq] at hx
     obtain ⟨rs,K',G',q1,q2⟩:=StM.out (g:=g) (m:=m) (K:=K) (w0:=w) (G0:=G) rfl st3 hx (us:=[.bool (isN e2)]) ⟨rfl,fun j d v hd hv=>by
      cases j with
      | zero=>simp at hd hv; subst hd; subst hv; exact .dv (.bool _)
      | succ j=>simp at hd⟩ (v:=.bool (isN e2)) (fun d u _ hu=>by injection hu) (fun hne=>absurd rfl hne)
     have hend:=run_endRound (P:=P) (endCode e2) hw2
     cases e2 with
     | normal=>exact ⟨_,_,hend,_,rs,K',G',rfl,q1,q2⟩
     | ret=>exact ⟨_,_,hend,_,rs,K',G',rfl,q1,q2⟩
     | exit i=>exact ⟨_,_,hend,_,rs,K',G',rfl,q1,q2⟩
    ·cases hx
   ·cases hx
 ·cases hx
end
end Go.TM
namespace Go.TM
open Go.RowKit
variable [Glob]
section
variable {P:Program} {T:List TI} {go:Coder}
theorem xrangeF_ok (hT:TOk P T) (hgo:GoOk P go) (hname:∀(g:Nat) (fn:Func),P.funcs[g]?=some fn→(fn.name == "runtime.NumGoroutine")=false) {fuel n nx:Nat} {ρ:Nat→AV} {κ:Nat→Box} {x:Operand} {ps:Array Tmp} {as bd:Code} {f:Nat} {caps:List AV} {e:AX} {s':XS}
  (h:xrangeF P T go fuel nx ρ (upC κ nx (.rcd ⟨ps,as,bd⟩ .ready (slots ρ 0 n))) f caps=.ok (e,s')) {g:Org} {a:Act} {w:World} {R:Exit→Act→World→Prop} {G:Gh} (hst:StM g n ρ κ a w G) (hgm:g.m≤nx) (hn:∀i,nx≤i→κ i=.none)
  {vs:List Value} (hx:a.eval x=.func (.func f) #[] vs.toArray) (hcr:CRel G caps vs) (hR:∀a w,XSt g n s' a w→R (toExit e) a w):(Code.rangeFunc x ps as bd).wpIn Fence.wide 0 P R a w:=by
 rw [upC_eq] at h
 generalize hκ1:upd κ nx (.rcd ⟨ps,as,bd⟩ .ready (slots ρ 0 n))=κ1 at h
 unfold xrangeF at h
 obtain ⟨q,hq,h⟩:=bind_ok h
 unfold xcall xcallB xcallC at hq
 generalize clos κ1 fuel (hdL none++AV.idss (.yld nx::caps)) []=σ at hq
 obtain ⟨hchk,hq⟩:=xif_ok hq
 obtain ⟨r,hcall,hq⟩:=bind_ok hq
 unfold xcallD at hq
 obtain ⟨hko,hq⟩:=xif_ok hq
 injection hq with hq; subst hq
 have hspec:=xfunc_ok hT hgo hname fuel f _ _ _ r hcall
 simp only [Bool.and_eq_true] at hchk
 refine wpIn_rangeFunc fun fn _=>?_
 obtain ⟨st1,hle⟩:=hst.enterLoop (hn nx (Nat.le_refl _)) hgm ⟨ps,as,bd⟩ fn
 rw [hκ1] at st1
 have st2:=st1.upto (nx+1)
 have hbet:∀i,i<g.m→upd G.β nx (some (w.heap.size+1)) i=g.β i:=fun i hi=>by rw [upd_other _ _ (by omega)]; exact hst.bet i hi
 have hn1:∀i,nx+1≤i→κ1 i=.none:=fun i hi=>by rw [←hκ1,upd_other _ _ (by omega)]; exact hn i (by omega)
 have hrel:CRel { G with β:=upd G.β nx (some (w.heap.size+1)) } (.yld nx::caps) (.func (.yield (w.heap.size+1)) #[] #[]::vs):=by
  have h1:CRel { G with β:=upd G.β nx (some (w.heap.size+1)) } [.yld nx] [.func (.yield (w.heap.size+1)) #[] #[]] :=
   ⟨rfl,fun j d v hd hv=>by
    cases j with
    | zero=>simp at hd hv; subst hd; subst hv; exact .yld nx _ (upd_same _ _ _)
    | succ j=>simp at hd⟩
  exact h1.append (hcr.mono hle)
 obtain ⟨β,_,hrun⟩:=callR_core (hd:=none) (nx:=nx+1) (κ:=κ1) (callF_mono P f) hspec.2 hn1 (by simp only [Bool.and_eq_true]; exact ⟨hchk.1.1,rfl⟩) (subWs_xns _) (subB_xnK σ [] rfl) (fun rs K1 hr=>by obtain ⟨rfl,rfl⟩:=hr; exact hko) (neK_spec hchk.2) (Nat.le_refl _) st2 hrel (fun _ _=>rfl)
 refine ⟨w.heap.size+1,[mark w.heap.size],((w.alloc (.deferred (some []))).alloc (.loop { state:=.ready,pending:=none,fn:=fn,tmps:=a.tmps,params:=ps,assign:=as,body:=bd,defers:=w.heap.size })),⟨.fn (.func f) vs.toArray,#[.func (.yield (w.heap.size+1)) #[] #[]]⟩,((w.alloc (.deferred (some []))).alloc (.loop { state:=.ready,pending:=none,fn:=fn,tmps:=a.tmps,params:=ps,assign:=as,body:=bd,defers:=w.heap.size })),f,(Value.func (.yield (w.heap.size+1)) #[] #[]::vs).toArray,((w.alloc (.deferred (some []))).alloc (.loop { state:=.ready,pending:=none,fn:=fn,tmps:=a.tmps,params:=ps,assign:=as,body:=bd,defers:=w.heap.size })),run_enterLoop_outer fn a.tmps ps as bd,?_,fun _ _=>trivial,?_,(fun h=>by cases h),?_⟩
 ·have h0:(#[]++Array.map a.eval #[Operand.const (Value.func (Fn.yield (w.heap.size+1)) #[] #[])])=#[Value.func (Fn.yield (w.heap.size+1)) #[] #[]]:=by simp [Act.eval]
  simp only [resolve,rangeCall,hx,Deferred.ofValue,Sem.run_pure]
  rw [h0]
 ·have:(#[Value.func (.yield (w.heap.size+1)) #[] #[]]++vs.toArray)=(Value.func (.yield (w.heap.size+1)) #[] #[]::vs).toArray:=by simp
  simp only [invoke]
  rw [this]
  exact callable_run hspec.1 _ _
 ·refine (wide_wide.calls).2 (Calls.mono hrun ?_)
  rintro e2 w2 ⟨v,rs,K2,G3,rfl,⟨rfl,rfl⟩,st3,_⟩
  have hnone:∀i,nx+1+r.2.2≤i→updl κ1 (renK (sg σ (nx+1)) (shs κ1 σ) r.2.1++frz κ1 (fidws κ1 (rens (sg σ (nx+1)) zsh (xns κ1 σ (.yld nx::caps))) (.yld nx::caps)++fidsB κ1 (renK (sg σ (nx+1)) zsh (xnK κ1 σ 0 σ)))) i=.none:=by
   refine none_afterF hn1 (Nat.le_add_right _ _) fun p hp=>?_
   have hkl1:keysLt (σ.length+r.2.2) r.2.1=true:=by
    have:=hko
    simp only [outKChk,Bool.and_eq_true] at this
    exact this.1.1.2
   have hσ1:∀i,i∈σ→i<nx+1:=by
    have:=hchk.1.1
    simp only [callChk,Bool.and_eq_true] at this
    exact (sigOk_spec this.1.1.1.1.1.1).1
   rcases List.mem_append.1 hp with hp | hp
   ·obtain ⟨j,h1,h2⟩:=mem_renK (i:=p.1) (b:=p.2) hp
    have hj:=keysLt_mem hkl1 j h1
    rw [h2]
    rcases Nat.lt_or_ge j σ.length with hlt | hge
    ·have:=hσ1 _ (by rw [sg_lt hlt]; exact List.getElem_mem hlt:sg σ (nx+1) j∈σ); omega
    ·rw [sg_ge hge]; omega
   ·have:=frz_lt hn1 hp; omega
  unfold xrangeG at h
  simp only [upsC_eq] at h
  generalize hκ3:updl κ1 (renK (sg σ (nx+1)) (shs κ1 σ) r.2.1++frz κ1 (fidws κ1 (rens (sg σ (nx+1)) zsh (xns κ1 σ (.yld nx::caps))) (.yld nx::caps)++fidsB κ1 (renK (sg σ (nx+1)) zsh (xnK κ1 σ 0 σ))))=κ3 at *
  have hb3:G3.β nx=some (w.heap.size+1):=(st3.bet nx (Nat.lt_succ_self nx)).trans (upd_same _ _ _)
  have fin:∀(rc':RC) (st:RSt) (l:List AV),κ3 nx=.rcd rc' st l→st.st ≠ .busy→st.pend=endCode e→s'=⟨nx+1+r.2.2,ρ,upC κ3 nx .dead⟩→rangePost Fence.wide 0 P (w.heap.size+1) R { a with defers:=[mark w.heap.size]++a.defers } (.returned v) w2:=by
   intro rc' st l hk hb hp hs'
   obtain ⟨rr,h1,h2,h3,_,hkill⟩:=st3.setRcd hk hb3
   have st4:=(hkill (.loop { rr with state:=.exhausted })).downto (Nat.le_succ_of_le hgm) hbet
   have hs4:XSt g n s' { a with defers:=[mark w.heap.size]++a.defers } (w2.putObj (w.heap.size+1) (.loop { rr with state:=.exhausted })):=by
    subst hs'
    exact ⟨⟨G3,by simp only [upC_eq]; exact st4⟩,by show g.m≤nx+1+r.2.2; omega,fun i hi=>by
     have hi':nx+1+r.2.2≤i:=hi
     simp only [upC_eq]; rw [upd_other _ _ (by omega)]; exact hnone i hi'⟩
   have hfin:=hR _ _ hs4
   refine ⟨rr.pending,_,run_endLoop h1 (by rw [h2]; exact hb),?_⟩
   have hpe:rr.pending=endCode e:=h3.trans hp
   rw [hpe] at hfin
   rw [hpe]
   cases e with
   | normal=>exact hfin
   | ret=>exact wpIn_ret hfin
   | exit i=>exact wpIn_exit hfin
  unfold xrangeEnd at h
  split at h
  ·rename_i rc' st l hk
   split at h
   ·injection h with h
    injection h with h1 h2
    exact fin rc' .ready l hk (by simp [RSt.st]) (by rw [←h1]; rfl) h2.symm
   ·rename_i e'
    injection h with h
    injection h with h1 h2
    exact fin rc' (.done e') l hk (by simp [RSt.st]) (by rw [←h1]; rfl) h2.symm
   ·cases h
  ·cases h
theorem xcodeS_ok (hT:TOk P T) (hm:P.follows .mixedOrders=true) (hname:∀(g:Nat) (fn:Func),P.funcs[g]?=some fn→(fn.name == "runtime.NumGoroutine")=false) (pol:Nat→Bool) (f:Nat) (hgo:GoOk P go):GoOk P (xcodeS P T pol f go):=by
 intro r n c s e s' h F hF hr g a w R hs hR
 have hstep:∀(ops:List Oper) (d:Bool),StepOk P (fun _=>True) ops n (xstep T pol (xconf P T go f d) ops n):=fun ops d=>xstep_ok hT (fun g=>xfunc_ok hT hgo hname f g) (xyield_ok hgo f) (calls_snd P)
 cases c with
 | skip =>
  simp only [xcodeS] at h
  injection h with h; injection h with h1 h2; subst h1; subst h2
  exact wpIn_skip (hR a w hs)
 | region id ops draw =>
  simp only [xcodeS] at h
  cases draw with
  | false =>
   simp only [cond_false,xregion] at h
   obtain ⟨s1,h1,h⟩:=bind_ok h
   injection h with h; injection h with e1 e2; subst e1; subst e2
   refine wpIn_region_list ?_
   have:=xrun_sound (P:=P) (ops:=ops.toList) (g:=g) (Q:=R) (hstep ops.toList false) trivial hF hR ops.toList s a w h1 hs
   simpa using this
  | true =>
   simp only [cond_true,xregionD] at h
   obtain ⟨⟨s1,rs⟩,h1,h⟩:=bind_ok h
   obtain ⟨hind,h⟩:=xif_ok h
   injection h with h; injection h with e1 e2; subst e1; subst e2
   refine wpIn_region_any hm ?_
   obtain ⟨hlen,hlo,hn,he,hk,hall⟩:=xdraw_sound (P:=P) (n:=n) (hstep ops.toList true) (ρ0:=s.ρ) (κ0:=s.κ) (lo:=s.nx) ops.toList [] s [] rfl rfl (Nat.le_refl _) hs.2.2 rfl rfl (by simp) h1
   have hfalse:(fun i=>(Array.replicate ops.size false).getD i false)=fun _=>false:=by
    funext i
    simp only [Array.getD_eq_getD_getElem?,Array.getElem?_replicate]
    split <;> rfl
   have hstart:St g n s.ρ s.κ a { w with drawn:=w.drawn+1 }:=by
    obtain ⟨G,h1⟩:=hs.1
    exact ⟨G,h1.drawn _⟩
   have:=any_order (P:=P) (C:=fun _=>True) (ops:=ops.toList) (n:=n) (g:=g) (Q:=R) trivial hF hs.2.1 hind hlen hall (fun a w hst=>hR a w ⟨by rw [he,hk]; exact hst,Nat.le_trans hs.2.1 hlo,hn⟩) ops.size (Array.replicate ops.size false) a { w with drawn:=w.drawn+1 } (by simp)
    (by have:=cntf_le (fun i=>(Array.replicate ops.size false).getD i false) ops.toList.length; simpa using this)
    (fun i o _ hi=>by rw [congrFun hfalse i] at hi; cases hi)
    (by rw [hfalse,acc_none,acc_none]; exact hstart)
   simpa using this
 | seq x y =>
  simp only [xcodeS] at h
  obtain ⟨⟨e1,s1⟩,h1,h⟩:=bind_ok h
  refine wpIn_seq (hgo r n x s e1 s1 h1 F hF hr g a w _ hs fun a1 w1 hs1=>?_)
  unfold xseq at h
  cases e1 with
  | normal=>exact hgo r n y s1 e s' h F hF hr g a1 w1 _ hs1 hR
  | ret=>simp only at h; injection h with h; injection h with q1 q2; subst q1; subst q2; exact hR a1 w1 hs1
  | exit i=>simp only at h; injection h with h; injection h with q1 q2; subst q1; subst q2; exact hR a1 w1 hs1
 | cond x y z =>
  simp only [xcodeS] at h
  obtain ⟨t,h1,h⟩:=bind_ok h
  have ht:=bool?_some (xopt_ok h1)
  obtain ⟨G,hst⟩:=hs.1
  have hv:=ev_ok (ρ:=s.ρ) (κ:=s.κ) (x:=x) s.ρ s.κ ⟨fun _ _=>rfl,fun _ _=>rfl⟩ g n a w G hst
  rw [ht] at hv
  generalize hx:a.eval x=v at hv
  cases hv with | dv hv=>cases hv with | bool =>
  refine wpIn_cond_split hx (fun et=>?_) (fun et=>?_)
  ·subst et; exact hgo r n y s e s' h F hF hr g a w _ hs hR
  ·subst et; exact hgo r n z s e s' h F hF hr g a w _ hs hR
 | block id c =>
  simp only [xcodeS] at h
  obtain ⟨⟨e1,s1⟩,h1,h⟩:=bind_ok h
  refine wpIn_block (hgo r n c s e1 s1 h1 F hF hr g a w _ hs fun a1 w1 hs1=>?_)
  unfold xblock at h
  cases e1 with
  | normal=>simp only at h; injection h with h; injection h with q1 q2; subst q1; subst q2; exact hR a1 w1 hs1
  | ret=>simp only at h; injection h with h; injection h with q1 q2; subst q1; subst q2; exact hR a1 w1 hs1
  | exit i =>
   simp only at h
   simp only [toExit,Exit.inBlock]
   cases hb:Nat.beq i id with
   | true =>
    rw [hb] at h
    simp only [cond_true] at h
    injection h with h; injection h with q1 q2; subst q1; subst q2
    rw [if_pos (Nat.eq_of_beq_eq_true hb)]; exact hR a1 w1 hs1
   | false =>
    rw [hb] at h
    simp only [cond_false] at h
    injection h with h; injection h with q1 q2; subst q1; subst q2
    rw [if_neg (fun e=>by rw [e,Nat.beq_refl] at hb; cases hb)]
    exact hR a1 w1 hs1
 | exit id =>
  simp only [xcodeS] at h
  injection h with h; injection h with h1 h2; subst h1; subst h2
  exact wpIn_exit (hR a w hs)
 | ret =>
  simp only [xcodeS] at h
  injection h with h; injection h with h1 h2; subst h1; subst h2
  exact wpIn_ret (hR a w hs)
 | scope c =>
  simp only [xcodeS] at h
  refine wpIn_scope (hgo r n c s e s' h F hF hr g a w _ hs fun a1 w1 hs1=>?_)
  cases e with
  | normal=>exact hR a1 w1 hs1
  | ret=>exact hR a1 w1 hs1
  | exit i=>exact hR a1 w1 hs1
 | label l =>
  simp only [xcodeS] at h
  injection h with h; injection h with h1 h2; subst h1; subst h2
  exact wpIn_label (hR a w hs)
 | loop c =>
  simp only [xcodeS] at h
  have key:∀(k:Nat) (s:XS) (a:Act) (w:World),xloop go r n c k s=.ok (e,s')→XSt g n s a w→Code.roundsIn F 0 P c R k a w:=by
   intro k
   induction k with
   | zero=>intro s a w h; cases h
   | succ k ih =>
    intro s a w h hs
    simp only [xloop] at h
    obtain ⟨⟨e1,s1⟩,h1,h⟩:=bind_ok h
    refine hgo r n c s e1 s1 h1 F hF hr g a w _ hs fun a1 w1 hs1=>?_
    cases e1 with
    | normal=>exact ih s1 a1 w1 h hs1
    | ret=>simp only at h; injection h with h; injection h with q1 q2; subst q1; subst q2; exact hR a1 w1 hs1
    | exit i=>simp only at h; injection h with h; injection h with q1 q2; subst q1; subst q2; exact hR a1 w1 hs1
  exact wpIn_loop_rounds f (key f s a w h hs)
 | rangeFunc x ps as bd =>
  simp only [xcodeS] at h
  have hh:=xif_ok h; clear h; obtain ⟨hrt,h⟩:=hh
  have hFw:=hr hrt
  subst hFw
  obtain ⟨⟨G,hst⟩,hgm,hn⟩:=hs
  have hv:=ev_ok (ρ:=s.ρ) (κ:=s.κ) (x:=x) s.ρ s.κ ⟨fun _ _=>rfl,fun _ _=>rfl⟩ g n a w G hst
  unfold xrange xrangeV at h
  generalize ev s.ρ s.κ x=vx at h hv
  generalize hx:a.eval x=y at hv
  split at h
  ·cases hv with | fn _ _ vs hl hr'=>exact xrangeF_ok hT hgo hname h hst hgm hn hx ⟨hl,hr'⟩ hR
  ·split at h
   ·cases hv with | dv hd=>cases hd with | fn _ _ vs hl hr'=>exact xrangeF_ok hT hgo hname h hst hgm hn hx (vrels_dvs ⟨hl,hr'⟩) hR
   ·cases h
  ·cases h
 | goto l=>simp [xcodeS] at h
 | refuse w=>simp [xcodeS] at h
theorem xcode_ok (hT:TOk P T) (hm:P.follows .mixedOrders=true) (hname:∀(g:Nat) (fn:Func),P.funcs[g]?=some fn→(fn.name == "runtime.NumGoroutine")=false) (pol:Nat→Bool):∀f,GoOk P (xcode P T pol f)
 | 0=>by intro r n c s e s' h; cases h
 | f+1=>xcodeS_ok hT hm hname pol f (xcode_ok hT hm hname pol f)
theorem xfun_spec (hT:TOk P T) (hm:P.follows .mixedOrders=true) (hname:∀(g:Nat) (fn:Func),P.funcs[g]?=some fn→(fn.name == "runtime.NumGoroutine")=false) {pol:Nat→Bool} {f g:Nat} {args:List AV} {m:Nat} {K:Boxes} {rs:List AV} {K':Boxes} {ex:Nat} (h:xfun P T pol f g args m K=.ok (rs,K',ex)):CSpec P g args m K ex rs K' :=
 xfunc_ok hT (xcode_ok hT hm hname pol f) hname f g args m K (rs,K',ex) h
end
end Go.TM
namespace Go.TM
open Go.RowKit
variable [Glob]
def xfz (r:XR (List AV × Boxes × Nat)):Option (List DV):=match r with
 | .ok q=>match toArgs (lookB q.2.1) q.1 with
  | some p=>some p.1
  | none=>none
 | .no _=>none
section
variable {P:Program} {T:List TI}
theorem ofDs_rel {G:Gh} {ds:List DV} {vs:List Value} (h:DRels G.M ds vs):CRel G (ofDs ds) vs:=by
 refine ⟨by rw [ofDs_eq]; simpa using h.1,fun j d v hd hv=>?_⟩
 rw [ofDs_eq,List.getElem?_map] at hd
 cases hj:ds[j]? with
 | none=>rw [hj] at hd; cases hd
 | some x =>
  rw [hj] at hd
  simp only [Option.map_some,Option.some.injEq] at hd
  subst hd
  exact ofD_rel (h.2 j x v hj hv)
theorem pspec_run (hT:TOk P T) (hm:P.follows .mixedOrders=true) (hname:∀(g:Nat) (fn:Func),P.funcs[g]?=some fn→(fn.name == "runtime.NumGoroutine")=false) {pol:Nat→Bool} {fuel f:Nat} {args rs:List DV} (h:xfz (xfun P T pol fuel f (ofDs args) 0 [])=some rs):PSpec P f args rs:=by
 cases hx:xfun P T pol fuel f (ofDs args) 0 [] with
 | no y=>rw [hx] at h; simp [xfz] at h
 | ok r =>
  obtain ⟨rs0,K',ex⟩:=r
  rw [hx] at h
  simp only [xfz] at h
  split at h
  ·rename_i p hp
   obtain ⟨ds,ids⟩:=p
   injection h with h
   subst h
   have hc:=xfun_spec hT hm hname hx
   obtain ⟨hcall,hspec⟩:=hc
   refine ⟨hcall,fun w M vs hin hgl hr=>?_⟩
   let G0:Gh:=⟨M,fun _=>none,fun _ _ _ _=>none,fun _ _=>False⟩
   have hc:=hspec w G0 vs hgl ⟨hin,fun i=>⟨rfl,fun _ _ _=>rfl⟩,fun i b ho=>ho.elim,fun i j b ho=>ho.elim⟩ (ofDs_rel (G:=G0) hr)
   refine hc.mono ?_
   rintro e w' ⟨v,rs1,K1,G',rfl,⟨rfl,rfl⟩,out⟩
   have hno:∀i b,Own G' i (lookB K1 i) b→w.heap.size≤b:=fun i b ho=>by
    rcases out.nown i b ho with h | ⟨j,h⟩
    ·exact h
    ·exact h.elim
   let g:Org:=⟨fun b=>∃i,Own G' i (lookB K1 i) b,w',G'.M,0,fun _=>none,fun _ _=>none⟩
   have hst:StM g 0 (fun _=>.any) (lookB K1) { tmps:=#[],defers:=[] } w' G':=by
    refine { fit:=out.fit,env:=fun t=>.any _,size:=rfl,bel:=fun _ _ _=>rfl,os:=rfl,tape:=rfl,output:=rfl,grow:=Nat.le_refl _,mem:=.refl _,mlow:=fun _ _ _=>rfl,ownhi:=fun i b ho=>.inr ⟨i,ho⟩,bet:=fun i hi=>absurd hi (Nat.not_lt_zero _),hed:=fun i hi=>absurd hi (Nat.not_lt_zero _),glob:=hgl.mono out.le,dfr:=⟨[],rfl,List.nodup_nil,by simp⟩ }
   obtain ⟨G2,hle,_,_,_,hfz⟩:=hst.freezes (κ:=lookB K1) ids (fun _ _=>rfl)
   refine ⟨v,G2.M,rfl,⟨out.os,out.tape,out.output,out.size,fun b hb=>(out.frame b hb (fun i h=>h.elim)).1⟩,out.le.trans hle.mem,hfz.fit.sub,fun b hb=>?_,?_⟩
   ·have hb2:b<w'.heap.size:=Nat.lt_of_lt_of_le hb out.size
    have e1:G2.M b=G'.M b:=hfz.mlow b hb2 fun ⟨i,ho⟩=>by have:=hno i b ho; omega
    rw [e1]
    exact (out.frame b hb (fun i h=>h.elim)).2
   ·have key:∀us,CRel G' rs1 us→DRels G2.M ds us:=fun us hu=>toArgs_sound (κ:=lookB K1) (κ':=lookB K1) (all:=ids) (fun _ _=>rfl) hle hfz.fit hp (fun _ h=>h) hu
    have hv:=out.res
    match rs1,hv,key with
    | [],hv,key =>
     cases hv with | tup _ us hl hr =>
     have hd:=key us ⟨hl,hr⟩
     have:us=[]:=by simpa using hl.symm
     subst this
     have:ds=[]:=by have:=hd.1; simpa using this
     subst this
     exact ⟨[],rfl,hd⟩
    | [x],hv,key =>
     have hd:=key [v] ⟨rfl,fun j d u h1 h2=>by
      cases j with
      | zero=>simp at h1 h2; subst h1; subst h2; exact hv
      | succ j=>simp at h1⟩
     match ds,hd with
     | [],hd=>have:=hd.1; simp at this
     | [d],hd=>exact hd.2 0 d v rfl rfl
     | _::_::_,hd=>have:=hd.1; simp at this
    | x::y::r,hv,key =>
     cases hv with | tup _ us hl hr =>
     have hd:=key us ⟨hl,hr⟩
     have h2:ds.length=us.length:=hd.1
     match ds,hd,h2 with
     | [],hd,h2=>exfalso; rw [←h2] at hl; simp at hl
     | [d],hd,h2=>exfalso; rw [←h2] at hl; simp at hl
     | a::b::c,hd,h2=>exact ⟨us,rfl,hd⟩
  ·cases h
end
end Go.TM
namespace Go.TM
open Go.RowKit
variable [Glob]
end Go.TM
namespace Go.TM
open Go.RowKit
variable [Glob]
inductive PermB:Box→Box→Prop
 | refl (b:Box):PermB b b
 | omap (v e:Nat) (ks:KS) {m m':List DV} (h:m.Perm m'):PermB (.tree v e (.omap ks m)) (.tree v e (.omap ks m'))
def PermK (k k':Boxes):Prop:=∀i,PermB (lookB k i) (lookB k' i)
theorem PermK.refl (k:Boxes):PermK k k:=fun _=>.refl _
theorem PermK.nil:PermK [] []:=PermK.refl _
theorem PermK.cons {i:Nat} {b b':Box} {k k':Boxes} (h:PermB b b') (t:PermK k k'):PermK ((i,b)::k) ((i,b')::k'):=fun j=>by
 simp only [lookB]
 cases Nat.beq i j with
 | true=>exact h
 | false=>exact t j
theorem get_permD {ks:KS} {m m':List DV} (hu:UK m) (hp:m.Perm m') (s:PS) (r:List PS):get (.omap ks m) (s::r)=get (.omap ks m') (s::r):=by
 have hs:step (.omap ks m) s=step (.omap ks m') s:=by
  cases s with
  | el i j=>rfl
  | key k j=>simp only [step,hu.get_perm hp k]
 simp only [get,hs]
theorem own_permD {ks:KS} {m m':List DV} (hu:UK m) (hp:m.Perm m') {p:List PS} {n:DV} (h:get (.omap ks m) p=some n) (hn:n.owning=true):∃n',get (.omap ks m') p=some n'∧n'.owning=true:=by
 cases p with
 | nil=>exact ⟨_,rfl,rfl⟩
 | cons s r=>exact ⟨n,by rw [←get_permD hu hp]; exact h,hn⟩
theorem TreeAt.permD {M:Mem} {w:World} {H:List PS→Option Value} {ks:KS} {m m':List DV} (h:TreeAt M w H (.omap ks m)) (hp:m.Perm m'):UK m∧TreeAt M w H (.omap ks m'):=by
 obtain ⟨v,h1,h2,h3⟩:=h.2 [] _ rfl rfl
 have hu:=NodeAt.uk h3
 refine ⟨hu,rfl,fun p n hg hn=>?_⟩
 cases p with
 | nil =>
  have hg:DV.omap ks m'=n:=by simpa [get] using hg
  subst hg
  obtain ⟨m0,q,rest⟩:=h3
  exact ⟨v,h1,h2,m0,q.trans hp,rest⟩
 | cons s r =>
  rw [←get_permD hu hp] at hg
  exact h.2 _ n hg hn
theorem TOwn.permD {H:List PS→Option Value} {ks:KS} {m m':List DV} (hu:UK m) (hp:m.Perm m') {b:Nat} (h:TOwn H (.omap ks m) b):TOwn H (.omap ks m') b:=by
 obtain ⟨p,n,v,h1,h2,h3,h4⟩:=h
 obtain ⟨n',e1,e2⟩:=own_permD hu hp h1 h2
 exact ⟨p,n',v,e1,e2,h3,h4⟩
theorem BoxAt.permB {G:Gh} {w:World} {i:Nat} {b c:Box} (h:BoxAt G w i b) (p:PermB b c):BoxAt G w i c∧∀x,Own G i c x ↔ Own G i b x:=by
 cases p with
 | refl=>exact ⟨h,fun _=>Iff.rfl⟩
 | omap v e ks hp =>
  obtain ⟨h1,h2,h3,h4⟩:=h
  obtain ⟨hu,ht⟩:=h1.permD hp
  have hu':=hu.perm hp
  refine ⟨⟨ht,fun p q n m u v b e1 e2 e3 e4 e5 e6 e7 e8=>?_,h3,h4⟩,fun x=>⟨fun o=>TOwn.permD hu' hp.symm o,fun o=>TOwn.permD hu hp o⟩⟩
  obtain ⟨n',a1,a2⟩:=own_permD hu' hp.symm e1 e2
  obtain ⟨m',b1,b2⟩:=own_permD hu' hp.symm e5 e6
  exact h2 p q n' m' u v b a1 a2 e3 e4 b1 b2 e7 e8
theorem cspec_perm {P:Program} {f:Nat} {args:List AV} {m:Nat} {K:Boxes} {ex:Nat} {rs:List AV} {K0:Boxes} (h:CSpecR P f args m K ex fun r k=>r=rs∧PermK k K0):CSpec P f args m K ex rs K0:=by
 refine ⟨h.1,fun w G vs hgl hfit hr=>?_⟩
 refine Calls.mono (h.2 w G vs hgl hfit hr) ?_
 rintro e w' ⟨v,r,k,G',rfl,⟨rfl,hp⟩,hc⟩
 have hb:=fun i=>(hc.fit.box i).permB (hp i)
 refine ⟨v,r,K0,G',rfl,⟨rfl,rfl⟩,{ hc with fit:=⟨hc.fit.sub,fun i=>(hb i).1,fun i b o=>hc.fit.own i b (((hb i).2 b).1 o),fun i j b o o'=>hc.fit.inj i j b (((hb i).2 b).1 o) (((hb j).2 b).1 o')⟩,no:=fun i hi=>?_,nown:=fun i b o=>hc.nown i b (((hb i).2 b).1 o) }⟩
 have h1:=hc.no i hi
 have h2:=hp i
 rw [h1] at h2
 generalize lookB K0 i=c at h2
 cases h2
 rfl
end Go.TM
