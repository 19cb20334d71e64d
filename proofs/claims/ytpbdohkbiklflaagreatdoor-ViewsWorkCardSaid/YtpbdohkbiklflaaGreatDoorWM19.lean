import Derived.Test.YtpbdohkbiklflaaGreatDoorWM18
import Derived.LoopNIn
import Derived.Test.YtpbdohkbiklflaaGreatDoorWM16
set_option linter.unusedVariables false
set_option linter.unusedSimpArgs false
set_option linter.unusedSectionVars false
namespace Go.TM
open Go.RowKit
variable [ct]
theorem rT:∀(env:Env),look env=aw (fun _=>.any) env
 | []=>rfl
 | (i,b)::K=>by
  funext t
  simp only [look,aw,gx,rT K]
  by_cases h:t=i
  ·subst h; simp
  ·rw [if_neg h]; simp [beq_false h]
def Hi (P:Program) (go:gF):Prop:=∀(r:Bool) (n:Nat) (c:Code) (s:XS) (e:AX) (s':XS),go r n c s=.ok (e,s')→∀(F:Fence),fQ F→(r=true→F=Fence.wide)→∀(g:dx) (a:Act) (w:World) (R:Exit→Act→World→Prop),
 Mg g n s a w→(∀a w,Mg g n s' a w→R (rE e) a w)→c.wpIn F 0 P R a w
section
variable {P:Program} {T:List TI} {go:gF}
theorem vH (hT:ec P T) (AL:Hi P go) (dR:∀(g:Nat) (fn:Func),P.funcs[g]?=some fn→(fn.name == "runtime.NumGoroutine")=false) (f g:Nat):F6 (dJ P g) (BI P T go f g):=by
 intro args m K r hx
 unfold BI at hx
 obtain ⟨fn,hf,hx⟩:=ad hx
 obtain ⟨c,hb,hx⟩:=ad hx
 have hf:=aM hf
 have hb:=aM hb
 unfold N6 at hx
 obtain ⟨bK,hx⟩:=az hx
 have hx:((go true fn.ntmps c (lB m (dQ 0 args) K)).bind fun q=>D1 T f m fn q)=.ok r:=by
  unfold RG at hx
  split at hx
  ·rename_i q hq; rw [hq]; exact hx
  ·cases hx
 obtain ⟨⟨e,s'⟩,aZ,hx⟩:=ad hx
 refine ⟨⟨fn,hf,dR g fn hf,by rw [hb]; rfl⟩,fun w G vs qX cB hr=>?_⟩
 refine (fI.calls (n:=0)).1 (callsIn_of_wp_marks hf hb trivial ?_)
 simp only [Bool.and_eq_true,br.wf] at bK
 obtain ⟨hlen,Ue,Xa⟩:=bK
 have hlen:vs.length≤fn.ntmps:=by rw [←hr.1]; exact Nat.le_of_ble_eq_true hlen
 let g0:dx:=⟨fun b=>∃i,bG G i (aa K i) b,w,G.M,m,G.β,fun i p=>G.H i 0 0 p⟩
 have aj:bY g0 fn.ntmps (look (dQ 0 args)) (aa K) { tmps:=vs.toArray++Array.replicate (fn.ntmps - vs.toArray.size) undef,defers:=[] } w G:=by
  refine { fit:=cB,env:=fun t=>?_,size:=by simp; omega,xB:=fun _ _ _=>rfl,os:=rfl,tape:=rfl,output:=rfl,grow:=Nat.le_refl _,mem:=.refl G.M,mD:=fun _ _ _=>rfl,fV:=fun i b ho=>.inr ⟨i,ho⟩,jR:=fun _ _=>rfl,q6:=fun _ _ _ _ hx=>hx,oa:=qX,q7:=⟨[],rfl,List.nodup_nil,by simp⟩ }
  rw [mV]
  simp only [Nat.zero_le,if_true,Nat.sub_zero]
  split
  ·rename_i d hd
   have ht:t<vs.length:=by rw [←hr.1]; exact (List.getElem?_eq_some_iff.1 hd).1
   have hv:vs[t]?=some (vs[t]'ht):=List.getElem?_eq_getElem ht
   have:(vs.toArray++Array.replicate (fn.ntmps - vs.toArray.size) undef).getD t undef=vs[t]'ht:=by
    rw [Array.getD_eq_getD_getElem?,Array.getElem?_append_left (by simpa using ht)]
    simp [hv]
   rw [this]
   exact hr.2 t d _ hd hv
  ·exact .any _
 have C3:Mg g0 fn.ntmps (lB m (dQ 0 args) K) { tmps:=vs.toArray++Array.replicate (fn.ntmps - vs.toArray.size) undef,defers:=[] } w:=by
  refine ⟨⟨G,?_⟩,Nat.le_refl _,?_⟩
  ·simp only [lB,gm,←rT,←fy]; exact aj
  ·simp only [lB,gm,←fy]; exact fun i hi=>mR Ue hi
 refine AL true fn.ntmps c _ e s' aZ Fence.wide fI (fun _=>rfl) g0 _ w _ C3 fun a w' hs=>?_
 obtain ⟨⟨G1,fP⟩,_⟩:=hs
 have fin:((BB T s'.ρ s'.κ fn.results.toList).bind fun iT=>Jt f m s'.κ iT)=.ok r→LeavesInM Fence.wide 0 P fn a.tmps (fun e w'=>∃v rs K' G',e=.returned v∧(rs=r.1∧K'=r.2.1)∧I1 m r.2.2 (aa K) w G rs (aa K') w' G' v) a.defers .returning w':=by
  intro rb
  obtain ⟨iT,h1,h2⟩:=ad rb
  obtain ⟨D,hD,_⟩:=fP.q7
  rw [hD]
  refine bY.leave (g:=g0) (n:=fn.ntmps) (ρ:=s'.ρ) (κ:=s'.κ) (G:=G1) a.tmps (fun w2 oX=>?_) D w' (by have:=fP; rw [←hD]; exact this)
  obtain ⟨Xn,us,hq,I0,dt⟩:=tL hT oX (zT (q:=fun l=>l=iT) h1 rfl)
  subst hq
  refine ⟨_,mW I0,?_⟩
  obtain ⟨rs,K',G',e1,e2⟩:=bY.out (g:=g0) (m:=m) (K:=K) (w0:=w) (G0:=G) rfl oX h2 dt (v:=if h:us.toArray.size=1 then us.toArray[0] else .tuple us.toArray) (fun d u _ hu=>by subst hu; rfl) (fun bB=>by rw [dif_neg (by simpa using bB)])
  exact ⟨_,rs,K',G',rfl,e1,e2⟩
 unfold D1 at hx
 cases e with
 | normal=>exact fin hx
 | ret=>exact fin hx
 | exit i=>cases hx
theorem Hj (AL:Hi P go) (f:Nat):F6 (rj P) (D2 go f):=by
 intro args m K r hx
 unfold D2 at hx
 split at hx
 ·rename_i rc l h0
  unfold JD at hx
  have hh:=az hx; clear hx; obtain ⟨eP,hx⟩:=hh
  have hh:=ad hx; clear hx; obtain ⟨⟨e1,s1⟩,RL,hx⟩:=hh
  intro w G vs qX cB hr
  simp only [Bool.and_eq_true] at eP
  obtain ⟨⟨⟨Ux,BT⟩,GQ⟩,DI⟩:=eP
  have Ux:=Nat.eq_of_beq_eq_true Ux
  have GQ:0<m:=by simpa using GQ
  have hb:=cB.box 0
  rw [h0] at hb
  obtain ⟨b,fn,tmps,D,jm,hw,ov⟩:=hb
  have aT:tmps.size=l.length:=by have:=ov.1; simp at this; exact this.symm
  have Xo:vs.toArray.size=rc.ps.size:=by rw [List.size_toArray,←hr.1]; exact Ux
  refine ⟨b,jm,fn,_,rc.as,rc.bd,w,run_yield hw Xo,roundIn_of_wpIn trivial ?_⟩
  have RN:(rc.ps.zip vs.toArray).foldl (fun tm (pv:Nat × Value)=>tm.setIfInBounds pv.1 pv.2) tmps=(rc.ps.toList.zip vs).foldl (fun tm (pv:Nat × Value)=>tm.setIfInBounds pv.1 pv.2) tmps:=by
   rw [←Array.foldl_toList,Array.toList_zip]
  have PC:(rc.ps.zip vs.toArray).foldl (fun tmps (t,a)=>tmps.setIfInBounds t a) tmps=(rc.ps.toList.zip vs).foldl (fun tm (pv:Nat × Value)=>tm.setIfInBounds pv.1 pv.2) tmps:=RN
  let g:dx:=⟨fun b=>∃i,bG G i (aa K i) b,w,G.M,m,G.β,fun i p=>G.H i 0 0 p⟩
  have IW:∀t,aD G (look (tx 0 l) t) (tmps.getD t undef):=fun t=>by
   have:=xV l 0 t
   rw [Nat.zero_add] at this
   rw [this]
   split
   ·rename_i v hv
    have ht:t<tmps.size:=by rw [aT]; exact (List.getElem?_eq_some_iff.1 hv).1
    refine ov.2 t v _ hv ?_
    rw [Array.getD_eq_getD_getElem?,Array.getElem?_toList,Array.getElem?_eq_getElem ht]; rfl
   ·exact .any _
  have aj:bY g l.length (look (Bx rc.ps.toList args (tx 0 l))) (aa K) { tmps:=(rc.ps.toList.zip vs).foldl (fun tm (pv:Nat × Value)=>tm.setIfInBounds pv.1 pv.2) tmps,defers:=[] } w G :=
   {fit:=cB,env:=FM (fun p hp=>by rw [aT]; exact xW BT p hp) hr IW,size:=by rw [←aT]; exact GY _ _,xB:=fun _ _ _=>rfl,os:=rfl,tape:=rfl,output:=rfl,grow:=Nat.le_refl _,mem:=.refl G.M,mD:=fun _ _ _=>rfl,fV:=fun i b ho=>.inr ⟨i,ho⟩,jR:=fun _ _=>rfl,q6:=fun _ _ _ _ hx=>hx,oa:=qX,q7:=⟨[],rfl,List.nodup_nil,by simp⟩ }
  rw [PC]
  have dk:∀i,m≤i→aa K i=.none:=fun i hi=>by
   rcases fG (K:=K) (i:=i) with h' | h'
   ·exact h'
   ·have:=c9 DI i (List.mem_map.2 ⟨_,h',rfl⟩); omega
  have C3:Mg g l.length (lB m (Bx rc.ps.toList args (tx 0 l)) K) { tmps:=(rc.ps.toList.zip vs).foldl (fun tm (pv:Nat × Value)=>tm.setIfInBounds pv.1 pv.2) tmps,defers:=[] } w:=by
   refine ⟨⟨G,?_⟩,Nat.le_refl _,?_⟩
   ·simp only [lB,gm,←rT,←fy]; exact aj
   ·simp only [lB,gm,←fy]; exact dk
  refine AL false l.length rc.as _ e1 s1 RL _ (wide_round b) (fun h=>by cases h) g _ w _ C3 fun a1 w1 hs=>?_
  cases e1 with
  | ret=>cases hx
  | exit i=>cases hx
  | normal =>
   simp only at hx
   unfold FX at hx
   split at hx
   ·rename_i YL l1 Lv
    have hh:=ad hx; clear hx; obtain ⟨⟨e2,s2⟩,RO,hx⟩:=hh
    obtain ⟨⟨G1,mq⟩,D7,GM⟩:=hs
    have D8:G1.β 0=some b:=by rw [mq.jR 0 GQ]; exact jm
    obtain ⟨rr,wQ,N8,N9,iR,_⟩:=mq.zA Lv D8
    have Uy:=run_beginRound (P:=P) wQ N8
    have Oa:=iR .busy
    have RP:({ rr with state:=AH.busy.st,pending:=AH.busy.Df }:Loop)={ rr with state:=.busy }:=by
     have:rr.pending=none:=N9
     simp only [AH.st,AH.Df,←this]
    rw [RP] at Oa
    refine ⟨_,Uy,?_⟩
    refine AL false l.length rc.bd _ e2 s2 RO _ (wide_round b) (fun h=>by cases h) g _ _ _ ⟨⟨G1,by simp only [pc]; exact Oa⟩,D7,fun i hi=>by
     have h1:m≤s1.nx:=D7
     have h2:s1.nx≤i:=hi
     simp only [pc]
     rw [ae _ _ (by omega)]; exact GM i hi⟩ fun a2 w2 ot=>?_
    unfold FW at hx
    split at hx
    ·rename_i YM l2 C7
     obtain ⟨⟨G2,DR⟩,_,_⟩:=ot
     have RQ:G2.β 0=some b:=by rw [DR.jR 0 GQ]; exact jm
     obtain ⟨r2,PD,_,_,RR,_⟩:=DR.zA C7 RQ
     have FJ:=RR (NP e2)
     rw [pc] at hx
     obtain ⟨rs,K',G',q1,q2⟩:=bY.out (g:=g) (m:=m) (K:=K) (w0:=w) (G0:=G) rfl FJ hx (us:=[.bool (Ut e2)]) ⟨rfl,fun j d v hd hv=>by
      cases j with
      | zero=>simp at hd hv; subst hd; subst hv; exact .dv (.bool _)
      | succ j=>simp at hd⟩ (v:=.bool (Ut e2)) (fun d u _ hu=>by injection hu) (fun bB=>absurd rfl bB)
     have oZ:=run_endRound (P:=P) (nM e2) PD
     cases e2 with
     | normal=>exact ⟨_,_,oZ,_,rs,K',G',rfl,q1,q2⟩
     | ret=>exact ⟨_,_,oZ,_,rs,K',G',rfl,q1,q2⟩
     | exit i=>exact ⟨_,_,oZ,_,rs,K',G',rfl,q1,q2⟩
    ·cases hx
   ·cases hx
 ·cases hx
end
end Go.TM
namespace Go.TM
open Go.RowKit
variable [ct]
section
variable {P:Program} {T:List TI} {go:gF}
theorem vI (hT:ec P T) (AL:Hi P go) (dR:∀(g:Nat) (fn:Func),P.funcs[g]?=some fn→(fn.name == "runtime.NumGoroutine")=false) {fuel n nx:Nat} {ρ:Nat→AV} {κ:Nat→ao} {x:Operand} {ps:Array Tmp} {as bd:Code} {f:Nat} {bo:List AV} {e:AX} {s':XS}
  (h:tN P T go fuel nx ρ (Lw κ nx (.ey ⟨ps,as,bd⟩ .ready (bs ρ 0 n))) f bo=.ok (e,s')) {g:dx} {a:Act} {w:World} {R:Exit→Act→World→Prop} {G:Gh} (aj:bY g n ρ κ a w G) (dg:g.m≤nx) (hn:∀i,nx≤i→κ i=.none)
  {vs:List Value} (hx:a.eval x=.func (.func f) #[] vs.toArray) (ov:bP G bo vs) (hR:∀a w,Mg g n s' a w→R (rE e) a w):(Code.rangeFunc x ps as bd).wpIn Fence.wide 0 P R a w:=by
 rw [pc] at h
 generalize hκ1:gx κ nx (.ey ⟨ps,as,bd⟩ .ready (bs ρ 0 n))=κ1 at h
 unfold tN at h
 obtain ⟨q,hq,h⟩:=ad h
 unfold qn DZ DY at hq
 generalize BA κ1 fuel (Uu none++AV.rK (.fq nx::bo)) []=σ at hq
 obtain ⟨eP,hq⟩:=az hq
 obtain ⟨r,jW,hq⟩:=ad hq
 unfold DX at hq
 obtain ⟨QI,hq⟩:=az hq
 injection hq with hq; subst hq
 have cK:=vH hT AL dR fuel f _ _ _ r jW
 simp only [Bool.and_eq_true] at eP
 refine wpIn_rangeFunc fun fn _=>?_
 obtain ⟨mq,hle⟩:=aj.enterLoop (hn nx (Nat.le_refl _)) dg ⟨ps,as,bd⟩ fn
 rw [hκ1] at mq
 have DR:=mq.upto (nx+1)
 have yS:∀i,i<g.m→gx G.β nx (some (w.heap.size+1)) i=g.β i:=fun i hi=>by rw [ae _ _ (by omega)]; exact aj.jR i hi
 have GM:∀i,nx+1≤i→κ1 i=.none:=fun i hi=>by rw [←hκ1,ae _ _ (by omega)]; exact hn i (by omega)
 have dt:bP { G with β:=gx G.β nx (some (w.heap.size+1)) } (.fq nx::bo) (.func (.yield (w.heap.size+1)) #[] #[]::vs):=by
  have h1:bP { G with β:=gx G.β nx (some (w.heap.size+1)) } [.fq nx] [.func (.yield (w.heap.size+1)) #[] #[]] :=
   ⟨rfl,fun j d v hd hv=>by
    cases j with
    | zero=>simp at hd hv; subst hd; subst hv; exact .fq nx _ (aW _ _ _)
    | succ j=>simp at hd⟩
  exact h1.append (ov.mono hle)
 obtain ⟨β,_,aZ⟩:=lx (hd:=none) (nx:=nx+1) (κ:=κ1) (jy P f) cK.2 GM (by simp only [Bool.and_eq_true]; exact ⟨eP.1.1,rfl⟩) (nY _) (vB σ [] rfl) (fun rs K1 hr=>by obtain ⟨rfl,rfl⟩:=hr; exact QI) (ql eP.2) (Nat.le_refl _) DR dt (fun _ _=>rfl)
 refine ⟨w.heap.size+1,[mark w.heap.size],((w.alloc (.deferred (some []))).alloc (.loop { state:=.ready,pending:=none,fn:=fn,tmps:=a.tmps,params:=ps,assign:=as,body:=bd,defers:=w.heap.size })),⟨.fn (.func f) vs.toArray,#[.func (.yield (w.heap.size+1)) #[] #[]]⟩,((w.alloc (.deferred (some []))).alloc (.loop { state:=.ready,pending:=none,fn:=fn,tmps:=a.tmps,params:=ps,assign:=as,body:=bd,defers:=w.heap.size })),f,(Value.func (.yield (w.heap.size+1)) #[] #[]::vs).toArray,((w.alloc (.deferred (some []))).alloc (.loop { state:=.ready,pending:=none,fn:=fn,tmps:=a.tmps,params:=ps,assign:=as,body:=bd,defers:=w.heap.size })),run_enterLoop_outer fn a.tmps ps as bd,?_,fun _ _=>trivial,?_,(fun h=>by cases h),?_⟩
 ·have h0:(#[]++Array.map a.eval #[Operand.const (Value.func (Fn.yield (w.heap.size+1)) #[] #[])])=#[Value.func (Fn.yield (w.heap.size+1)) #[] #[]]:=by simp [Act.eval]
  simp only [resolve,rangeCall,hx,Deferred.ofValue,Sem.run_pure]
  rw [h0]
 ·have:(#[Value.func (.yield (w.heap.size+1)) #[] #[]]++vs.toArray)=(Value.func (.yield (w.heap.size+1)) #[] #[]::vs).toArray:=by simp
  simp only [invoke]
  rw [this]
  exact fW cK.1 _ _
 ·refine (fI.calls).2 (Calls.mono aZ ?_)
  rintro e2 w2 ⟨v,rs,K2,G3,rfl,⟨rfl,rfl⟩,FJ,_⟩
  have xC:∀i,nx+1+r.2.2≤i→aw κ1 (bV (sg σ (nx+1)) (ju κ1 σ) r.2.1++jQ κ1 (dA κ1 (dF (sg σ (nx+1)) dB (G4 κ1 σ (.fq nx::bo))) (.fq nx::bo)++ef κ1 (bV (sg σ (nx+1)) dB (Po κ1 σ 0 σ)))) i=.none:=by
   refine nj GM (Nat.le_add_right _ _) fun p hp=>?_
   have DN:lr (σ.length+r.2.2) r.2.1=true:=by
    have:=QI
    simp only [ga,Bool.and_eq_true] at this
    exact this.1.1.2
   have hσ1:∀i,i∈σ→i<nx+1:=by
    have:=eP.1.1
    simp only [gR,Bool.and_eq_true] at this
    exact (gL this.1.1.1.1.1.1).1
   rcases List.mem_append.1 hp with hp | hp
   ·obtain ⟨j,h1,h2⟩:=kE (i:=p.1) (b:=p.2) hp
    have hj:=c9 DN j h1
    rw [h2]
    rcases Nat.lt_or_ge j σ.length with aJ | du
    ·have:=hσ1 _ (by rw [iH aJ]; exact List.getElem_mem aJ:sg σ (nx+1) j∈σ); omega
    ·rw [ib du]; omega
   ·have:=rh GM hp; omega
  unfold F0 at h
  simp only [gm] at h
  generalize hκ3:aw κ1 (bV (sg σ (nx+1)) (ju κ1 σ) r.2.1++jQ κ1 (dA κ1 (dF (sg σ (nx+1)) dB (G4 κ1 σ (.fq nx::bo))) (.fq nx::bo)++ef κ1 (bV (sg σ (nx+1)) dB (Po κ1 σ 0 σ))))=κ3 at *
  have wO:G3.β nx=some (w.heap.size+1):=(FJ.jR nx (Nat.lt_succ_self nx)).trans (aW _ _ _)
  have fin:∀(C6:RC) (st:AH) (l:List AV),κ3 nx=.ey C6 st l→st.st ≠ .busy→st.Df=nM e→s'=⟨nx+1+r.2.2,ρ,Lw κ3 nx .dead⟩→rangePost Fence.wide 0 P (w.heap.size+1) R { a with defers:=[mark w.heap.size]++a.defers } (.returned v) w2:=by
   intro C6 st l hk hb hp dC
   obtain ⟨rr,h1,h2,h3,_,Ji⟩:=FJ.zA hk wO
   have Uo:=(Ji (.loop { rr with state:=.exhausted })).Jh (Nat.le_succ_of_le dg) yS
   have Up:Mg g n s' { a with defers:=[mark w.heap.size]++a.defers } (w2.putObj (w.heap.size+1) (.loop { rr with state:=.exhausted })):=by
    subst dC
    exact ⟨⟨G3,by simp only [pc]; exact Uo⟩,by show g.m≤nx+1+r.2.2; omega,fun i hi=>by
     have wM:nx+1+r.2.2≤i:=hi
     simp only [pc]; rw [ae _ _ (by omega)]; exact xC i wM⟩
   have mr:=hR _ _ Up
   refine ⟨rr.pending,_,run_endLoop h1 (by rw [h2]; exact hb),?_⟩
   have AK:rr.pending=nM e:=h3.trans hp
   rw [AK] at mr
   rw [AK]
   cases e with
   | normal=>exact mr
   | ret=>exact wpIn_ret mr
   | exit i=>exact wpIn_exit mr
  unfold x3 at h
  split at h
  ·rename_i C6 st l hk
   split at h
   ·injection h with h
    injection h with h1 h2
    exact fin C6 .ready l hk (by simp [AH.st]) (by rw [←h1]; rfl) h2.symm
   ·rename_i e'
    injection h with h
    injection h with h1 h2
    exact fin C6 (.done e') l hk (by simp [AH.st]) (by rw [←h1]; rfl) h2.symm
   ·cases h
  ·cases h
theorem Hk (hT:ec P T) (hm:P.follows .mixedOrders=true) (dR:∀(g:Nat) (fn:Func),P.funcs[g]?=some fn→(fn.name == "runtime.NumGoroutine")=false) (pol:Nat→Bool) (f:Nat) (AL:Hi P go):Hi P (fA P T pol f go):=by
 intro r n c s e s' h F hF hr g a w R hs hR
 have de:∀(ops:List Oper) (d:Bool),zS P (fun _=>True) ops n (BG T pol (JE P T go f d) ops n):=fun ops d=>JP hT (fun g=>vH hT AL dR f g) (Hj AL f) (aq P)
 cases c with
 | skip =>
  simp only [fA] at h
  injection h with h; injection h with h1 h2; subst h1; subst h2
  exact wpIn_skip (hR a w hs)
 | region id ops draw =>
  simp only [fA] at h
  cases draw with
  | false =>
   simp only [cond_false,FY] at h
   obtain ⟨s1,h1,h⟩:=ad h
   injection h with h; injection h with e1 e2; subst e1; subst e2
   refine wpIn_region_list ?_
   have:=vG (P:=P) (ops:=ops.toList) (g:=g) (Q:=R) (de ops.toList false) trivial hF hR ops.toList s a w h1 hs
   simpa using this
  | true =>
   simp only [cond_true,BJ] at h
   obtain ⟨⟨s1,rs⟩,h1,h⟩:=ad h
   obtain ⟨lq,h⟩:=az h
   injection h with h; injection h with e1 e2; subst e1; subst e2
   refine wpIn_region_any hm ?_
   obtain ⟨hlen,tF,hn,he,hk,db⟩:=sZ (P:=P) (n:=n) (de ops.toList true) (ρ0:=s.ρ) (κ0:=s.κ) (lo:=s.nx) ops.toList [] s [] rfl rfl (Nat.le_refl _) hs.2.2 rfl rfl (by simp) h1
   have o0:(fun i=>(Array.replicate ops.size false).getD i false)=fun _=>false:=by
    funext i
    simp only [Array.getD_eq_getD_getElem?,Array.getElem?_replicate]
    split <;> rfl
   have zt:St g n s.ρ s.κ a { w with drawn:=w.drawn+1 }:=by
    obtain ⟨G,h1⟩:=hs.1
    exact ⟨G,h1.drawn _⟩
   have:=xM (P:=P) (C:=fun _=>True) (ops:=ops.toList) (n:=n) (g:=g) (Q:=R) trivial hF hs.2.1 lq hlen db (fun a w aj=>hR a w ⟨by rw [he,hk]; exact aj,Nat.le_trans hs.2.1 tF,hn⟩) ops.size (Array.replicate ops.size false) a { w with drawn:=w.drawn+1 } (by simp)
    (by have:=tJ (fun i=>(Array.replicate ops.size false).getD i false) ops.toList.length; simpa using this)
    (fun i o _ hi=>by rw [congrFun o0 i] at hi; cases hi)
    (by rw [o0,jv,jv]; exact zt)
   simpa using this
 | seq x y =>
  simp only [fA] at h
  obtain ⟨⟨e1,s1⟩,h1,h⟩:=ad h
  refine wpIn_seq (AL r n x s e1 s1 h1 F hF hr g a w _ hs fun a1 w1 eT=>?_)
  unfold RH at h
  cases e1 with
  | normal=>exact AL r n y s1 e s' h F hF hr g a1 w1 _ eT hR
  | ret=>simp only at h; injection h with h; injection h with q1 q2; subst q1; subst q2; exact hR a1 w1 eT
  | exit i=>simp only at h; injection h with h; injection h with q1 q2; subst q1; subst q2; exact hR a1 w1 eT
 | cond x y z =>
  simp only [fA] at h
  obtain ⟨t,h1,h⟩:=ad h
  have ht:=gN (aM h1)
  obtain ⟨G,aj⟩:=hs.1
  have hv:=xH (ρ:=s.ρ) (κ:=s.κ) (x:=x) s.ρ s.κ ⟨fun _ _=>rfl,fun _ _=>rfl⟩ g n a w G aj
  rw [ht] at hv
  generalize hx:a.eval x=v at hv
  cases hv with | dv hv=>cases hv with | bool =>
  refine wpIn_cond_split hx (fun et=>?_) (fun et=>?_)
  ·subst et; exact AL r n y s e s' h F hF hr g a w _ hs hR
  ·subst et; exact AL r n z s e s' h F hF hr g a w _ hs hR
 | block id c =>
  simp only [fA] at h
  obtain ⟨⟨e1,s1⟩,h1,h⟩:=ad h
  refine wpIn_block (AL r n c s e1 s1 h1 F hF hr g a w _ hs fun a1 w1 eT=>?_)
  unfold JF at h
  cases e1 with
  | normal=>simp only at h; injection h with h; injection h with q1 q2; subst q1; subst q2; exact hR a1 w1 eT
  | ret=>simp only at h; injection h with h; injection h with q1 q2; subst q1; subst q2; exact hR a1 w1 eT
  | exit i =>
   simp only at h
   simp only [rE,Exit.inBlock]
   cases hb:Nat.beq i id with
   | true =>
    rw [hb] at h
    simp only [cond_true] at h
    injection h with h; injection h with q1 q2; subst q1; subst q2
    rw [if_pos (Nat.eq_of_beq_eq_true hb)]; exact hR a1 w1 eT
   | false =>
    rw [hb] at h
    simp only [cond_false] at h
    injection h with h; injection h with q1 q2; subst q1; subst q2
    rw [if_neg (fun e=>by rw [e,Nat.beq_refl] at hb; cases hb)]
    exact hR a1 w1 eT
 | exit id =>
  simp only [fA] at h
  injection h with h; injection h with h1 h2; subst h1; subst h2
  exact wpIn_exit (hR a w hs)
 | ret =>
  simp only [fA] at h
  injection h with h; injection h with h1 h2; subst h1; subst h2
  exact wpIn_ret (hR a w hs)
 | scope c =>
  simp only [fA] at h
  refine uW (AL r n c s e s' h F hF hr g a w _ hs fun a1 w1 eT=>?_)
  cases e with
  | normal=>exact hR a1 w1 eT
  | ret=>exact hR a1 w1 eT
  | exit i=>exact hR a1 w1 eT
 | label l =>
  simp only [fA] at h
  injection h with h; injection h with h1 h2; subst h1; subst h2
  exact wpIn_label (hR a w hs)
 | loop c =>
  simp only [fA] at h
  have key:∀(k:Nat) (s:XS) (a:Act) (w:World),FZ go r n c k s=.ok (e,s')→Mg g n s a w→Code.roundsIn F 0 P c R k a w:=by
   intro k
   induction k with
   | zero=>intro s a w h; cases h
   | succ k ih =>
    intro s a w h hs
    simp only [FZ] at h
    obtain ⟨⟨e1,s1⟩,h1,h⟩:=ad h
    refine AL r n c s e1 s1 h1 F hF hr g a w _ hs fun a1 w1 eT=>?_
    cases e1 with
    | normal=>exact ih s1 a1 w1 h eT
    | ret=>simp only at h; injection h with h; injection h with q1 q2; subst q1; subst q2; exact hR a1 w1 eT
    | exit i=>simp only at h; injection h with h; injection h with q1 q2; subst q1; subst q2; exact hR a1 w1 eT
  exact wpIn_loop_rounds f (key f s a w h hs)
 | rangeFunc x ps as bd =>
  simp only [fA] at h
  have hh:=az h; clear h; obtain ⟨Ub,h⟩:=hh
  have Xp:=hr Ub
  subst Xp
  obtain ⟨⟨G,aj⟩,dg,hn⟩:=hs
  have hv:=xH (ρ:=s.ρ) (κ:=s.κ) (x:=x) s.ρ s.κ ⟨fun _ _=>rfl,fun _ _=>rfl⟩ g n a w G aj
  unfold JG F1 at h
  generalize ev s.ρ s.κ x=vx at h hv
  generalize hx:a.eval x=y at hv
  split at h
  ·cases hv with | fn _ _ vs hl DE=>exact vI hT AL dR h aj dg hn hx ⟨hl,DE⟩ hR
  ·split at h
   ·cases hv with | dv hd=>cases hd with | fn _ _ vs hl DE=>exact vI hT AL dR h aj dg hn hx (gJ ⟨hl,DE⟩) hR
   ·cases h
  ·cases h
 | goto l=>simp [fA] at h
 | refuse w=>simp [fA] at h
theorem BU (hT:ec P T) (hm:P.follows .mixedOrders=true) (dR:∀(g:Nat) (fn:Func),P.funcs[g]?=some fn→(fn.name == "runtime.NumGoroutine")=false) (pol:Nat→Bool):∀f,Hi P (JH P T pol f)
 | 0=>by intro r n c s e s' h; cases h
 | f+1=>Hk hT hm dR pol f (BU hT hm dR pol f)
theorem Hl (hT:ec P T) (hm:P.follows .mixedOrders=true) (dR:∀(g:Nat) (fn:Func),P.funcs[g]?=some fn→(fn.name == "runtime.NumGoroutine")=false) {pol:Nat→Bool} {f g:Nat} {args:List AV} {m:Nat} {K:ah} {rs:List AV} {K':ah} {ex:Nat} (h:Pt P T pol f g args m K=.ok (rs,K',ex)):bl P g args m K ex rs K' :=
 vH hT (BU hT hm dR pol f) dR f g args m K (rs,K',ex) h
end
end Go.TM
namespace Go.TM
open Go.RowKit
variable [ct]
def Uz (r:XR (List AV × ah × Nat)):Option (List DV):=match r with
 | .ok q=>match rU (aa q.2.1) q.1 with
  | some p=>some p.1
  | none=>none
 | .no _=>none
section
variable {P:Program} {T:List TI}
theorem JR {G:Gh} {ds:List DV} {vs:List Value} (h:eL G.M ds vs):bP G (zU ds) vs:=by
 refine ⟨by rw [tP]; simpa using h.1,fun j d v hd hv=>?_⟩
 rw [tP,List.getElem?_map] at hd
 cases hj:ds[j]? with
 | none=>rw [hj] at hd; cases hd
 | some x =>
  rw [hj] at hd
  simp only [Option.map_some,Option.some.injEq] at hd
  subst hd
  exact nU (h.2 j x v hj hv)
theorem rV (hT:ec P T) (hm:P.follows .mixedOrders=true) (dR:∀(g:Nat) (fn:Func),P.funcs[g]?=some fn→(fn.name == "runtime.NumGoroutine")=false) {pol:Nat→Bool} {fuel f:Nat} {args rs:List DV} (h:Uz (Pt P T pol fuel f (zU args) 0 [])=some rs):cP P f args rs:=by
 cases hx:Pt P T pol fuel f (zU args) 0 [] with
 | no y=>rw [hx] at h; simp [Uz] at h
 | ok r =>
  obtain ⟨YN,K',ex⟩:=r
  rw [hx] at h
  simp only [Uz] at h
  split at h
  ·rename_i p hp
   obtain ⟨ds,ids⟩:=p
   injection h with h
   subst h
   have hc:=Hl hT hm dR hx
   obtain ⟨jW,cK⟩:=hc
   refine ⟨jW,fun w M vs ei qX hr=>?_⟩
   let G0:Gh:=⟨M,fun _=>none,fun _ _ _ _=>none,fun _ _=>False⟩
   have hc:=cK w G0 vs qX ⟨ei,fun i=>⟨rfl,fun _ _ _=>rfl⟩,fun i b ho=>ho.elim,fun i j b ho=>ho.elim⟩ (JR (G:=G0) hr)
   refine hc.mono ?_
   rintro e w' ⟨v,VZ,K1,G',rfl,⟨rfl,rfl⟩,out⟩
   have dk:∀i b,bG G' i (aa K1 i) b→w.heap.size≤b:=fun i b ho=>by
    rcases out.mY i b ho with h | ⟨j,h⟩
    ·exact h
    ·exact h.elim
   let g:dx:=⟨fun b=>∃i,bG G' i (aa K1 i) b,w',G'.M,0,fun _=>none,fun _ _=>none⟩
   have aj:bY g 0 (fun _=>.any) (aa K1) { tmps:=#[],defers:=[] } w' G':=by
    refine { fit:=out.fit,env:=fun t=>.any _,size:=rfl,xB:=fun _ _ _=>rfl,os:=rfl,tape:=rfl,output:=rfl,grow:=Nat.le_refl _,mem:=.refl _,mD:=fun _ _ _=>rfl,fV:=fun i b ho=>.inr ⟨i,ho⟩,jR:=fun i hi=>absurd hi (Nat.not_lt_zero _),q6:=fun i hi=>absurd hi (Nat.not_lt_zero _),oa:=qX.mono out.le,q7:=⟨[],rfl,List.nodup_nil,by simp⟩ }
   obtain ⟨G2,hle,_,_,_,iC⟩:=aj.nN (κ:=aa K1) ids (fun _ _=>rfl)
   refine ⟨v,G2.M,rfl,⟨out.os,out.tape,out.output,out.size,fun b hb=>(out.frame b hb (fun i h=>h.elim)).1⟩,out.le.trans hle.mem,iC.fit.sub,fun b hb=>?_,?_⟩
   ·have cw:b<w'.heap.size:=Nat.lt_of_lt_of_le hb out.size
    have e1:G2.M b=G'.M b:=iC.mD b cw fun ⟨i,ho⟩=>by have:=dk i b ho; omega
    rw [e1]
    exact (out.frame b hb (fun i h=>h.elim)).2
   ·have key:∀us,bP G' VZ us→eL G2.M ds us:=fun us hu=>iP (κ:=aa K1) (κ':=aa K1) (all:=ids) (fun _ _=>rfl) hle iC.fit hp (fun _ h=>h) hu
    have hv:=out.res
    match VZ,hv,key with
    | [],hv,key =>
     cases hv with | eK _ us hl hr =>
     have hd:=key us ⟨hl,hr⟩
     have:us=[]:=by simpa using hl.symm
     subst this
     have:ds=[]:=by have:=hd.1; simpa using this
     subst this
     exact ⟨[],rfl,hd⟩
    | [x],hv,key =>
     have hd:=key [v] ⟨rfl,fun j d u h1 h2=>by
      cases j with
      | zero=>simp at h1 h2; subst h1; subst h2; exact hv
      | succ j=>simp at h1⟩
     match ds,hd with
     | [],hd=>have:=hd.1; simp at this
     | [d],hd=>exact hd.2 0 d v rfl rfl
     | _::_::_,hd=>have:=hd.1; simp at this
    | x::y::r,hv,key =>
     cases hv with | eK _ us hl hr =>
     have hd:=key us ⟨hl,hr⟩
     have h2:ds.length=us.length:=hd.1
     match ds,hd,h2 with
     | [],hd,h2=>exfalso; rw [←h2] at hl; simp at hl
     | [d],hd,h2=>exfalso; rw [←h2] at hl; simp at hl
     | a::b::c,hd,h2=>exact ⟨us,rfl,hd⟩
  ·cases h
end
end Go.TM
namespace Go.TM
open Go.RowKit
variable [ct]
end Go.TM
namespace Go.TM
open Go.RowKit
variable [ct]
inductive BV:ao→ao→Prop
 | refl (b:ao):BV b b
 | omap (v e:Nat) (ks:KS) {m m':List DV} (h:m.Perm m'):BV (.tree v e (.omap ks m)) (.tree v e (.omap ks m'))
def oD (k k':ah):Prop:=∀i,BV (aa k i) (aa k' i)
theorem oD.refl (k:ah):oD k k:=fun _=>.refl _
theorem oD.nil:oD [] []:=oD.refl _
theorem oD.cons {i:Nat} {b b':ao} {k k':ah} (h:BV b b') (t:oD k k'):oD ((i,b)::k) ((i,b')::k'):=fun j=>by
 simp only [aa]
 cases Nat.beq i j with
 | true=>exact h
 | false=>exact t j
theorem ya {ks:KS} {m m':List DV} (hu:UK m) (hp:m.Perm m') (s:PS) (r:List PS):get (.omap ks m) (s::r)=get (.omap ks m') (s::r):=by
 have hs:step (.omap ks m) s=step (.omap ks m') s:=by
  cases s with
  | el i j=>rfl
  | key k j=>simp only [step,hu.kq hp k]
 simp only [get,hs]
theorem rW {ks:KS} {m m':List DV} (hu:UK m) (hp:m.Perm m') {p:List PS} {n:DV} (h:get (.omap ks m) p=some n) (hn:n.af=true):∃n',get (.omap ks m') p=some n'∧n'.af=true:=by
 cases p with
 | nil=>exact ⟨_,rfl,rfl⟩
 | cons s r=>exact ⟨n,by rw [←ya hu hp]; exact h,hn⟩
theorem aS.F8 {M:Mem} {w:World} {H:List PS→Option Value} {ks:KS} {m m':List DV} (h:aS M w H (.omap ks m)) (hp:m.Perm m'):UK m∧aS M w H (.omap ks m'):=by
 obtain ⟨v,h1,h2,h3⟩:=h.2 [] _ rfl rfl
 have hu:=bW.uk h3
 refine ⟨hu,rfl,fun p n hg hn=>?_⟩
 cases p with
 | nil =>
  have hg:DV.omap ks m'=n:=by simpa [get] using hg
  subst hg
  obtain ⟨m0,q,rest⟩:=h3
  exact ⟨v,h1,h2,m0,q.trans hp,rest⟩
 | cons s r =>
  rw [←ya hu hp] at hg
  exact h.2 _ n hg hn
theorem aN.F8 {H:List PS→Option Value} {ks:KS} {m m':List DV} (hu:UK m) (hp:m.Perm m') {b:Nat} (h:aN H (.omap ks m) b):aN H (.omap ks m') b:=by
 obtain ⟨p,n,v,h1,h2,h3,h4⟩:=h
 obtain ⟨n',e1,e2⟩:=rW hu hp h1 h2
 exact ⟨p,n',v,e1,e2,h3,h4⟩
theorem fF.RS {G:Gh} {w:World} {i:Nat} {b c:ao} (h:fF G w i b) (p:BV b c):fF G w i c∧∀x,bG G i c x ↔ bG G i b x:=by
 cases p with
 | refl=>exact ⟨h,fun _=>Iff.rfl⟩
 | omap v e ks hp =>
  obtain ⟨h1,h2,h3,h4⟩:=h
  obtain ⟨hu,ht⟩:=h1.F8 hp
  have QX:=hu.perm hp
  refine ⟨⟨ht,fun p q n m u v b e1 e2 e3 e4 e5 e6 e7 e8=>?_,h3,h4⟩,fun x=>⟨fun o=>aN.F8 QX hp.symm o,fun o=>aN.F8 hu hp o⟩⟩
  obtain ⟨n',a1,a2⟩:=rW QX hp.symm e1 e2
  obtain ⟨m',b1,b2⟩:=rW QX hp.symm e5 e6
  exact h2 p q n' m' u v b a1 a2 e3 e4 b1 b2 e7 e8
theorem D9 {P:Program} {f:Nat} {args:List AV} {m:Nat} {K:ah} {ex:Nat} {rs:List AV} {K0:ah} (h:dJ P f args m K ex fun r k=>r=rs∧oD k K0):bl P f args m K ex rs K0:=by
 refine ⟨h.1,fun w G vs qX cB hr=>?_⟩
 refine Calls.mono (h.2 w G vs qX cB hr) ?_
 rintro e w' ⟨v,r,k,G',rfl,⟨rfl,hp⟩,hc⟩
 have hb:=fun i=>(hc.fit.box i).RS (hp i)
 refine ⟨v,r,K0,G',rfl,⟨rfl,rfl⟩,{ hc with fit:=⟨hc.fit.sub,fun i=>(hb i).1,fun i b o=>hc.fit.own i b (((hb i).2 b).1 o),fun i j b o o'=>hc.fit.inj i j b (((hb i).2 b).1 o) (((hb j).2 b).1 o')⟩,no:=fun i hi=>?_,mY:=fun i b o=>hc.mY i b (((hb i).2 b).1 o) }⟩
 have h1:=hc.no i hi
 have h2:=hp i
 rw [h1] at h2
 generalize aa K0 i=c at h2
 cases h2
 rfl
end Go.TM
