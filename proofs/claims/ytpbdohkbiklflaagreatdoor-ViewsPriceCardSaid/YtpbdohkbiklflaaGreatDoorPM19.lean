import Derived.Test.YtpbdohkbiklflaaGreatDoorPM18
import Derived.LoopNIn
import Derived.Test.YtpbdohkbiklflaaGreatDoorPM16
set_option linter.unusedVariables false
set_option linter.unusedSimpArgs false
set_option linter.unusedSectionVars false
namespace Go.TM
open Go.RowKit
variable [ct]
theorem r6:∀(env:Env),look env=aw (fun _=>.any) env
 | []=>rfl
 | (i,b)::K=>by
  funext t
  simp only [look,aw,gA,r6 K]
  by_cases h:t=i
  ·subst h; simp
  ·rw [if_neg h]; simp [beq_false h]
def HH (P:Program) (go:gK):Prop:=∀(r:Bool) (n:Nat) (c:Code) (s:XS) (e:AX) (s':XS),go r n c s=.ok (e,s')→∀(F:Fence),fT F→(r=true→F=Fence.wide)→∀(g:dy) (a:Act) (w:World) (R:Exit→Act→World→Prop),
 MK g n s a w→(∀a w,MK g n s' a w→R (rM e) a w)→c.wpIn F 0 P R a w
section
variable {P:Program} {T:List TI} {go:gK}
theorem vQ (hT:ef P T) (A9:HH P go) (dU:∀(g:Nat) (fn:Func),P.funcs[g]?=some fn→(fn.name == "runtime.NumGoroutine")=false) (f g:Nat):Gu (dK P g) (B1 P T go f g):=by
 intro args m K r hx
 unfold B1 at hx
 obtain ⟨fn,hf,hx⟩:=ad hx
 obtain ⟨c,hb,hx⟩:=ad hx
 have hf:=aM hf
 have hb:=aM hb
 unfold OA at hx
 obtain ⟨bM,hx⟩:=aA hx
 have hx:((go true fn.ntmps c (lI m (dS 0 args) K)).bind fun q=>Ep T f m fn q)=.ok r:=by
  unfold Sf at hx
  split at hx
  ·rename_i q hq; rw [hq]; exact hx
  ·cases hx
 obtain ⟨⟨e,s'⟩,bc,hx⟩:=ad hx
 refine ⟨⟨fn,hf,dU g fn hf,by rw [hb]; rfl⟩,fun w G vs pP cC hr=>?_⟩
 refine (fM.calls (n:=0)).1 (callsIn_of_wp_marks hf hb trivial ?_)
 simp only [Bool.and_eq_true,bo.wf] at bM
 obtain ⟨hlen,UT,XO⟩:=bM
 have hlen:vs.length≤fn.ntmps:=by rw [←hr.1]; exact Nat.le_of_ble_eq_true hlen
 let g0:dy:=⟨fun b=>∃i,bI G i (aa K i) b,w,G.M,m,G.β,fun i p=>G.H i 0 0 p⟩
 have ai:bZ g0 fn.ntmps (look (dS 0 args)) (aa K) { tmps:=vs.toArray++Array.replicate (fn.ntmps - vs.toArray.size) undef,defers:=[] } w G:=by
  refine { fit:=cC,env:=fun t=>?_,size:=by simp; omega,xP:=fun _ _ _=>rfl,os:=rfl,tape:=rfl,output:=rfl,grow:=Nat.le_refl _,mem:=.refl G.M,mK:=fun _ _ _=>rfl,ga:=fun i b ho=>.inr ⟨i,ho⟩,jW:=fun _ _=>rfl,rj:=fun _ _ _ _ hx=>hx,oh:=pP,rn:=⟨[],rfl,List.nodup_nil,by simp⟩ }
  rw [m8]
  simp only [Nat.zero_le,if_true,Nat.sub_zero]
  split
  ·rename_i d hd
   have ht:t<vs.length:=by rw [←hr.1]; exact (List.getElem?_eq_some_iff.1 hd).1
   have hv:vs[t]?=some (vs[t]'ht):=List.getElem?_eq_getElem ht
   have:(vs.toArray++Array.replicate (fn.ntmps - vs.toArray.size) undef).getD t undef=vs[t]'ht:=by
    rw [Array.getD_eq_getD_getElem?,Array.getElem?_append_left (by simpa using ht)]
    simp [hv]
   rw [this]
   exact hr.2 t d _ hd hv
  ·exact .any _
 have Ds:MK g0 fn.ntmps (lI m (dS 0 args) K) { tmps:=vs.toArray++Array.replicate (fn.ntmps - vs.toArray.size) undef,defers:=[] } w:=by
  refine ⟨⟨G,?_⟩,Nat.le_refl _,?_⟩
  ·simp only [lI,gw,←r6,←fC]; exact ai
  ·simp only [lI,gw,←fC]; exact fun i hi=>mX UT hi
 refine A9 true fn.ntmps c _ e s' bc Fence.wide fM (fun _=>rfl) g0 _ w _ Ds fun a w' hs=>?_
 obtain ⟨⟨G1,fS⟩,_⟩:=hs
 have fin:((BU T s'.ρ s'.κ fn.results.toList).bind fun iX=>JV f m s'.κ iX)=.ok r→LeavesInM Fence.wide 0 P fn a.tmps (fun e w'=>∃v rs K' G',e=.returned v∧(rs=r.1∧K'=r.2.1)∧Jt m r.2.2 (aa K) w G rs (aa K') w' G' v) a.defers .returning w':=by
  intro rz
  obtain ⟨iX,h1,h2⟩:=ad rz
  obtain ⟨D,hD,_⟩:=fS.rn
  rw [hD]
  refine bZ.leave (g:=g0) (n:=fn.ntmps) (ρ:=s'.ρ) (κ:=s'.κ) (G:=G1) a.tmps (fun w2 o8=>?_) D w' (by have:=fS; rw [←hD]; exact this)
  obtain ⟨X4,us,hq,Js,du⟩:=tS hT o8 (Ah (q:=fun l=>l=iX) h1 rfl)
  subst hq
  refine ⟨_,m9 Js,?_⟩
  obtain ⟨rs,K',G',e1,e2⟩:=bZ.out (g:=g0) (m:=m) (K:=K) (w0:=w) (G0:=G) rfl o8 h2 du (v:=if h:us.toArray.size=1 then us.toArray[0] else .tuple us.toArray) (fun d u _ hu=>by subst hu; rfl) (fun bD=>by rw [dif_neg (by simpa using bD)])
  exact ⟨_,rs,K',G',rfl,e1,e2⟩
 unfold Ep at hx
 cases e with
 | normal=>exact fin hx
 | ret=>exact fin hx
 | exit i=>cases hx
theorem HI (A9:HH P go) (f:Nat):Gu (rC P) (Er go f):=by
 intro args m K r hx
 unfold Er at hx
 split at hx
 ·rename_i rc l h0
  unfold J5 at hx
  have hh:=aA hx; clear hx; obtain ⟨eV,hx⟩:=hh
  have hh:=ad hx; clear hx; obtain ⟨⟨e1,s1⟩,Sk,hx⟩:=hh
  intro w G vs pP cC hr
  simp only [Bool.and_eq_true] at eV
  obtain ⟨⟨⟨Vd,Cc⟩,Hj⟩,D7⟩:=eV
  have Vd:=Nat.eq_of_beq_eq_true Vd
  have Hj:0<m:=by simpa using Hj
  have hb:=cC.box 0
  rw [h0] at hb
  obtain ⟨b,fn,tmps,D,jq,hw,oE⟩:=hb
  have aT:tmps.size=l.length:=by have:=oE.1; simp at this; exact this.symm
  have X5:vs.toArray.size=rc.ps.size:=by rw [List.size_toArray,←hr.1]; exact Vd
  refine ⟨b,jq,fn,_,rc.as,rc.bd,w,run_yield hw X5,roundIn_of_wpIn trivial ?_⟩
  have Sm:(rc.ps.zip vs.toArray).foldl (fun tm (pv:Nat × Value)=>tm.setIfInBounds pv.1 pv.2) tmps=(rc.ps.toList.zip vs).foldl (fun tm (pv:Nat × Value)=>tm.setIfInBounds pv.1 pv.2) tmps:=by
   rw [←Array.foldl_toList,Array.toList_zip]
  have P7:(rc.ps.zip vs.toArray).foldl (fun tmps (t,a)=>tmps.setIfInBounds t a) tmps=(rc.ps.toList.zip vs).foldl (fun tm (pv:Nat × Value)=>tm.setIfInBounds pv.1 pv.2) tmps:=Sm
  let g:dy:=⟨fun b=>∃i,bI G i (aa K i) b,w,G.M,m,G.β,fun i p=>G.H i 0 0 p⟩
  have Jo:∀t,aE G (look (tE 0 l) t) (tmps.getD t undef):=fun t=>by
   have:=yc l 0 t
   rw [Nat.zero_add] at this
   rw [this]
   split
   ·rename_i v hv
    have ht:t<tmps.size:=by rw [aT]; exact (List.getElem?_eq_some_iff.1 hv).1
    refine oE.2 t v _ hv ?_
    rw [Array.getD_eq_getD_getElem?,Array.getElem?_toList,Array.getElem?_eq_getElem ht]; rfl
   ·exact .any _
  have ai:bZ g l.length (look (BQ rc.ps.toList args (tE 0 l))) (aa K) { tmps:=(rc.ps.toList.zip vs).foldl (fun tm (pv:Nat × Value)=>tm.setIfInBounds pv.1 pv.2) tmps,defers:=[] } w G :=
   {fit:=cC,env:=F9 (fun p hp=>by rw [aT]; exact yd Cc p hp) hr Jo,size:=by rw [←aT]; exact Hq _ _,xP:=fun _ _ _=>rfl,os:=rfl,tape:=rfl,output:=rfl,grow:=Nat.le_refl _,mem:=.refl G.M,mK:=fun _ _ _=>rfl,ga:=fun i b ho=>.inr ⟨i,ho⟩,jW:=fun _ _=>rfl,rj:=fun _ _ _ _ hx=>hx,oh:=pP,rn:=⟨[],rfl,List.nodup_nil,by simp⟩ }
  rw [P7]
  have dm:∀i,m≤i→aa K i=.none:=fun i hi=>by
   rcases fK (K:=K) (i:=i) with h' | h'
   ·exact h'
   ·have:=db D7 i (List.mem_map.2 ⟨_,h',rfl⟩); omega
  have Ds:MK g l.length (lI m (BQ rc.ps.toList args (tE 0 l)) K) { tmps:=(rc.ps.toList.zip vs).foldl (fun tm (pv:Nat × Value)=>tm.setIfInBounds pv.1 pv.2) tmps,defers:=[] } w:=by
   refine ⟨⟨G,?_⟩,Nat.le_refl _,?_⟩
   ·simp only [lI,gw,←r6,←fC]; exact ai
   ·simp only [lI,gw,←fC]; exact dm
  refine A9 false l.length rc.as _ e1 s1 Sk _ (wide_round b) (fun h=>by cases h) g _ w _ Ds fun a1 w1 hs=>?_
  cases e1 with
  | ret=>cases hx
  | exit i=>cases hx
  | normal =>
   simp only at hx
   unfold Gk at hx
   split at hx
   ·rename_i Zn l1 L1
    have hh:=ad hx; clear hx; obtain ⟨⟨e2,s2⟩,Sn,hx⟩:=hh
    obtain ⟨⟨G1,mA⟩,Ew,Hf⟩:=hs
    have Ex:G1.β 0=some b:=by rw [mA.jW 0 Hj]; exact jq
    obtain ⟨rr,w6,OC,OD,iV,_⟩:=mA.zR L1 Ex
    have Ve:=run_beginRound (P:=P) w6 OC
    have OE:=iV .busy
    have So:({ rr with state:=A6.busy.st,pending:=A6.busy.DE }:Loop)={ rr with state:=.busy }:=by
     have:rr.pending=none:=OD
     simp only [A6.st,A6.DE,←this]
    rw [So] at OE
    refine ⟨_,Ve,?_⟩
    refine A9 false l.length rc.bd _ e2 s2 Sn _ (wide_round b) (fun h=>by cases h) g _ _ _ ⟨⟨G1,by simp only [pn]; exact OE⟩,Ew,fun i hi=>by
     have h1:m≤s1.nx:=Ew
     have h2:s1.nx≤i:=hi
     simp only [pn]
     rw [ae _ _ (by omega)]; exact Hf i hi⟩ fun a2 w2 oC=>?_
    unfold Gj at hx
    split at hx
    ·rename_i Zo l2 Dw
     obtain ⟨⟨G2,Eg⟩,_,_⟩:=oC
     have Sp:G2.β 0=some b:=by rw [Eg.jW 0 Hj]; exact jq
     obtain ⟨r2,P8,_,_,Sq,_⟩:=Eg.zR Dw Sp
     have F6:=Sq (Og e2)
     rw [pn] at hx
     obtain ⟨rs,K',G',q1,q2⟩:=bZ.out (g:=g) (m:=m) (K:=K) (w0:=w) (G0:=G) rfl F6 hx (us:=[.bool (U9 e2)]) ⟨rfl,fun j d v hd hv=>by
      cases j with
      | zero=>simp at hd hv; subst hd; subst hv; exact .dv (.bool _)
      | succ j=>simp at hd⟩ (v:=.bool (U9 e2)) (fun d u _ hu=>by injection hu) (fun bD=>absurd rfl bD)
     have pa:=run_endRound (P:=P) (nR e2) P8
     cases e2 with
     | normal=>exact ⟨_,_,pa,_,rs,K',G',rfl,q1,q2⟩
     | ret=>exact ⟨_,_,pa,_,rs,K',G',rfl,q1,q2⟩
     | exit i=>exact ⟨_,_,pa,_,rs,K',G',rfl,q1,q2⟩
    ·cases hx
   ·cases hx
 ·cases hx
end
end Go.TM
namespace Go.TM
open Go.RowKit
variable [ct]
section
variable {P:Program} {T:List TI} {go:gK}
theorem vR (hT:ef P T) (A9:HH P go) (dU:∀(g:Nat) (fn:Func),P.funcs[g]?=some fn→(fn.name == "runtime.NumGoroutine")=false) {fuel n nx:Nat} {ρ:Nat→AV} {κ:Nat→ao} {x:Operand} {ps:Array Tmp} {as bd:Code} {f:Nat} {bq:List AV} {e:AX} {s':XS}
  (h:tU P T go fuel nx ρ (L2 κ nx (.eA ⟨ps,as,bd⟩ .ready (bt ρ 0 n))) f bq=.ok (e,s')) {g:dy} {a:Act} {w:World} {R:Exit→Act→World→Prop} {G:Gh} (ai:bZ g n ρ κ a w G) (dh:g.m≤nx) (hn:∀i,nx≤i→κ i=.none)
  {vs:List Value} (hx:a.eval x=.func (.func f) #[] vs.toArray) (oE:bR G bq vs) (hR:∀a w,MK g n s' a w→R (rM e) a w):(Code.rangeFunc x ps as bd).wpIn Fence.wide 0 P R a w:=by
 rw [pn] at h
 generalize hκ1:gA κ nx (.eA ⟨ps,as,bd⟩ .ready (bt ρ 0 n))=κ1 at h
 unfold tU at h
 obtain ⟨q,hq,h⟩:=ad h
 unfold qy En Em at hq
 generalize BT κ1 fuel (Va none++AV.rS (.fy nx::bq)) []=σ at hq
 obtain ⟨eV,hq⟩:=aA hq
 obtain ⟨r,j5,hq⟩:=ad hq
 unfold El at hq
 obtain ⟨Re,hq⟩:=aA hq
 injection hq with hq; subst hq
 have cM:=vQ hT A9 dU fuel f _ _ _ r j5
 simp only [Bool.and_eq_true] at eV
 refine wpIn_rangeFunc fun fn _=>?_
 obtain ⟨mA,hle⟩:=ai.enterLoop (hn nx (Nat.le_refl _)) dh ⟨ps,as,bd⟩ fn
 rw [hκ1] at mA
 have Eg:=mA.upto (nx+1)
 have za:∀i,i<g.m→gA G.β nx (some (w.heap.size+1)) i=g.β i:=fun i hi=>by rw [ae _ _ (by omega)]; exact ai.jW i hi
 have Hf:∀i,nx+1≤i→κ1 i=.none:=fun i hi=>by rw [←hκ1,ae _ _ (by omega)]; exact hn i (by omega)
 have du:bR { G with β:=gA G.β nx (some (w.heap.size+1)) } (.fy nx::bq) (.func (.yield (w.heap.size+1)) #[] #[]::vs):=by
  have h1:bR { G with β:=gA G.β nx (some (w.heap.size+1)) } [.fy nx] [.func (.yield (w.heap.size+1)) #[] #[]] :=
   ⟨rfl,fun j d v hd hv=>by
    cases j with
    | zero=>simp at hd hv; subst hd; subst hv; exact .fy nx _ (aW _ _ _)
    | succ j=>simp at hd⟩
  exact h1.append (oE.mono hle)
 obtain ⟨β,_,bc⟩:=lE (hd:=none) (nx:=nx+1) (κ:=κ1) (jC P f) cM.2 Hf (by simp only [Bool.and_eq_true]; exact ⟨eV.1.1,rfl⟩) (n7 _) (vL σ [] rfl) (fun rs K1 hr=>by obtain ⟨rfl,rfl⟩:=hr; exact Re) (qw eV.2) (Nat.le_refl _) Eg du (fun _ _=>rfl)
 refine ⟨w.heap.size+1,[mark w.heap.size],((w.alloc (.deferred (some []))).alloc (.loop { state:=.ready,pending:=none,fn:=fn,tmps:=a.tmps,params:=ps,assign:=as,body:=bd,defers:=w.heap.size })),⟨.fn (.func f) vs.toArray,#[.func (.yield (w.heap.size+1)) #[] #[]]⟩,((w.alloc (.deferred (some []))).alloc (.loop { state:=.ready,pending:=none,fn:=fn,tmps:=a.tmps,params:=ps,assign:=as,body:=bd,defers:=w.heap.size })),f,(Value.func (.yield (w.heap.size+1)) #[] #[]::vs).toArray,((w.alloc (.deferred (some []))).alloc (.loop { state:=.ready,pending:=none,fn:=fn,tmps:=a.tmps,params:=ps,assign:=as,body:=bd,defers:=w.heap.size })),run_enterLoop_outer fn a.tmps ps as bd,?_,fun _ _=>trivial,?_,(fun h=>by cases h),?_⟩
 ·have h0:(#[]++Array.map a.eval #[Operand.const (Value.func (Fn.yield (w.heap.size+1)) #[] #[])])=#[Value.func (Fn.yield (w.heap.size+1)) #[] #[]]:=by simp [Act.eval]
  simp only [resolve,rangeCall,hx,Deferred.ofValue,Sem.run_pure]
  rw [h0]
 ·have:(#[Value.func (.yield (w.heap.size+1)) #[] #[]]++vs.toArray)=(Value.func (.yield (w.heap.size+1)) #[] #[]::vs).toArray:=by simp
  simp only [invoke]
  rw [this]
  exact gf cM.1 _ _
 ·refine (fM.calls).2 (Calls.mono bc ?_)
  rintro e2 w2 ⟨v,rs,K2,G3,rfl,⟨rfl,rfl⟩,F6,_⟩
  have xQ:∀i,nx+1+r.2.2≤i→aw κ1 (bV (sg σ (nx+1)) (jy κ1 σ) r.2.1++jV κ1 (dB κ1 (dG (sg σ (nx+1)) dC (Hs κ1 σ (.fy nx::bq))) (.fy nx::bq)++eh κ1 (bV (sg σ (nx+1)) dC (PT κ1 σ 0 σ)))) i=.none:=by
   refine nv Hf (Nat.le_add_right _ _) fun p hp=>?_
   have Ec:lC (σ.length+r.2.2) r.2.1=true:=by
    have:=Re
    simp only [gk,Bool.and_eq_true] at this
    exact this.1.1.2
   have hσ1:∀i,i∈σ→i<nx+1:=by
    have:=eV.1.1
    simp only [gV,Bool.and_eq_true] at this
    exact (gO this.1.1.1.1.1.1).1
   rcases List.mem_append.1 hp with hp | hp
   ·obtain ⟨j,h1,h2⟩:=kK (i:=p.1) (b:=p.2) hp
    have hj:=db Ec j h1
    rw [h2]
    rcases Nat.lt_or_ge j σ.length with aJ | dw
    ·have:=hσ1 _ (by rw [iK aJ]; exact List.getElem_mem aJ:sg σ (nx+1) j∈σ); omega
    ·rw [ij dw]; omega
   ·have:=rA Hf hp; omega
  unfold Gn at h
  simp only [gw] at h
  generalize hκ3:aw κ1 (bV (sg σ (nx+1)) (jy κ1 σ) r.2.1++jV κ1 (dB κ1 (dG (sg σ (nx+1)) dC (Hs κ1 σ (.fy nx::bq))) (.fy nx::bq)++eh κ1 (bV (sg σ (nx+1)) dC (PT κ1 σ 0 σ))))=κ3 at *
  have w4:G3.β nx=some (w.heap.size+1):=(F6.jW nx (Nat.lt_succ_self nx)).trans (aW _ _ _)
  have fin:∀(Dv:RC) (st:A6) (l:List AV),κ3 nx=.eA Dv st l→st.st ≠ .busy→st.DE=nR e→s'=⟨nx+1+r.2.2,ρ,L2 κ3 nx .dead⟩→rangePost Fence.wide 0 P (w.heap.size+1) R { a with defers:=[mark w.heap.size]++a.defers } (.returned v) w2:=by
   intro Dv st l hk hb hp dD
   obtain ⟨rr,h1,h2,h3,_,JK⟩:=F6.zR hk w4
   have U4:=(JK (.loop { rr with state:=.exhausted })).JJ (Nat.le_succ_of_le dh) za
   have U5:MK g n s' { a with defers:=[mark w.heap.size]++a.defers } (w2.putObj (w.heap.size+1) (.loop { rr with state:=.exhausted })):=by
    subst dD
    exact ⟨⟨G3,by simp only [pn]; exact U4⟩,by show g.m≤nx+1+r.2.2; omega,fun i hi=>by
     have w3:nx+1+r.2.2≤i:=hi
     simp only [pn]; rw [ae _ _ (by omega)]; exact xQ i w3⟩
   have mB:=hR _ _ U5
   refine ⟨rr.pending,_,run_endLoop h1 (by rw [h2]; exact hb),?_⟩
   have yb:rr.pending=nR e:=h3.trans hp
   rw [yb] at mB
   rw [yb]
   cases e with
   | normal=>exact mB
   | ret=>exact wpIn_ret mB
   | exit i=>exact wpIn_exit mB
  unfold yh at h
  split at h
  ·rename_i Dv st l hk
   split at h
   ·injection h with h
    injection h with h1 h2
    exact fin Dv .ready l hk (by simp [A6.st]) (by rw [←h1]; rfl) h2.symm
   ·rename_i e'
    injection h with h
    injection h with h1 h2
    exact fin Dv (.done e') l hk (by simp [A6.st]) (by rw [←h1]; rfl) h2.symm
   ·cases h
  ·cases h
theorem HJ (hT:ef P T) (hm:P.follows .mixedOrders=true) (dU:∀(g:Nat) (fn:Func),P.funcs[g]?=some fn→(fn.name == "runtime.NumGoroutine")=false) (pol:Nat→Bool) (f:Nat) (A9:HH P go):HH P (fD P T pol f go):=by
 intro r n c s e s' h F hF hr g a w R hs hR
 have cS:∀(ops:List Oper) (d:Bool),Ag P (fun _=>True) ops n (BZ T pol (J6 P T go f d) ops n):=fun ops d=>Kh hT (fun g=>vQ hT A9 dU f g) (HI A9 f) (aq P)
 cases c with
 | skip =>
  simp only [fD] at h
  injection h with h; injection h with h1 h2; subst h1; subst h2
  exact wpIn_skip (hR a w hs)
 | region id ops draw =>
  simp only [fD] at h
  cases draw with
  | false =>
   simp only [cond_false,Gl] at h
   obtain ⟨s1,h1,h⟩:=ad h
   injection h with h; injection h with e1 e2; subst e1; subst e2
   refine wpIn_region_list ?_
   have:=vP (P:=P) (ops:=ops.toList) (g:=g) (Q:=R) (cS ops.toList false) trivial hF hR ops.toList s a w h1 hs
   simpa using this
  | true =>
   simp only [cond_true,B2] at h
   obtain ⟨⟨s1,rs⟩,h1,h⟩:=ad h
   obtain ⟨lB,h⟩:=aA h
   injection h with h; injection h with e1 e2; subst e1; subst e2
   refine wpIn_region_any hm ?_
   obtain ⟨hlen,pY,hn,he,hk,df⟩:=s8 (P:=P) (n:=n) (cS ops.toList true) (ρ0:=s.ρ) (κ0:=s.κ) (lo:=s.nx) ops.toList [] s [] rfl rfl (Nat.le_refl _) hs.2.2 rfl rfl (by simp) h1
   have pb:(fun i=>(Array.replicate ops.size false).getD i false)=fun _=>false:=by
    funext i
    simp only [Array.getD_eq_getD_getElem?,Array.getElem?_replicate]
    split <;> rfl
   have zL:St g n s.ρ s.κ a { w with drawn:=w.drawn+1 }:=by
    obtain ⟨G,h1⟩:=hs.1
    exact ⟨G,h1.drawn _⟩
   have:=xZ (P:=P) (C:=fun _=>True) (ops:=ops.toList) (n:=n) (g:=g) (Q:=R) trivial hF hs.2.1 lB hlen df (fun a w ai=>hR a w ⟨by rw [he,hk]; exact ai,Nat.le_trans hs.2.1 pY,hn⟩) ops.size (Array.replicate ops.size false) a { w with drawn:=w.drawn+1 } (by simp)
    (by have:=tP (fun i=>(Array.replicate ops.size false).getD i false) ops.toList.length; simpa using this)
    (fun i o _ hi=>by rw [congrFun pb i] at hi; cases hi)
    (by rw [pb,jz,jz]; exact zL)
   simpa using this
 | seq x y =>
  simp only [fD] at h
  obtain ⟨⟨e1,s1⟩,h1,h⟩:=ad h
  refine wpIn_seq (A9 r n x s e1 s1 h1 F hF hr g a w _ hs fun a1 w1 fb=>?_)
  unfold Sg at h
  cases e1 with
  | normal=>exact A9 r n y s1 e s' h F hF hr g a1 w1 _ fb hR
  | ret=>simp only at h; injection h with h; injection h with q1 q2; subst q1; subst q2; exact hR a1 w1 fb
  | exit i=>simp only at h; injection h with h; injection h with q1 q2; subst q1; subst q2; exact hR a1 w1 fb
 | cond x y z =>
  simp only [fD] at h
  obtain ⟨t,h1,h⟩:=ad h
  have ht:=gQ (aM h1)
  obtain ⟨G,ai⟩:=hs.1
  have hv:=xV (ρ:=s.ρ) (κ:=s.κ) (x:=x) s.ρ s.κ ⟨fun _ _=>rfl,fun _ _=>rfl⟩ g n a w G ai
  rw [ht] at hv
  generalize hx:a.eval x=v at hv
  cases hv with | dv hv=>cases hv with | bool =>
  refine wpIn_cond_split hx (fun et=>?_) (fun et=>?_)
  ·subst et; exact A9 r n y s e s' h F hF hr g a w _ hs hR
  ·subst et; exact A9 r n z s e s' h F hF hr g a w _ hs hR
 | block id c =>
  simp only [fD] at h
  obtain ⟨⟨e1,s1⟩,h1,h⟩:=ad h
  refine wpIn_block (A9 r n c s e1 s1 h1 F hF hr g a w _ hs fun a1 w1 fb=>?_)
  unfold J7 at h
  cases e1 with
  | normal=>simp only at h; injection h with h; injection h with q1 q2; subst q1; subst q2; exact hR a1 w1 fb
  | ret=>simp only at h; injection h with h; injection h with q1 q2; subst q1; subst q2; exact hR a1 w1 fb
  | exit i =>
   simp only at h
   simp only [rM,Exit.inBlock]
   cases hb:Nat.beq i id with
   | true =>
    rw [hb] at h
    simp only [cond_true] at h
    injection h with h; injection h with q1 q2; subst q1; subst q2
    rw [if_pos (Nat.eq_of_beq_eq_true hb)]; exact hR a1 w1 fb
   | false =>
    rw [hb] at h
    simp only [cond_false] at h
    injection h with h; injection h with q1 q2; subst q1; subst q2
    rw [if_neg (fun e=>by rw [e,Nat.beq_refl] at hb; cases hb)]
    exact hR a1 w1 fb
 | exit id =>
  simp only [fD] at h
  injection h with h; injection h with h1 h2; subst h1; subst h2
  exact wpIn_exit (hR a w hs)
 | ret =>
  simp only [fD] at h
  injection h with h; injection h with h1 h2; subst h1; subst h2
  exact wpIn_ret (hR a w hs)
 | scope c =>
  simp only [fD] at h
  refine u9 (A9 r n c s e s' h F hF hr g a w _ hs fun a1 w1 fb=>?_)
  cases e with
  | normal=>exact hR a1 w1 fb
  | ret=>exact hR a1 w1 fb
  | exit i=>exact hR a1 w1 fb
 | label l =>
  simp only [fD] at h
  injection h with h; injection h with h1 h2; subst h1; subst h2
  exact wpIn_label (hR a w hs)
 | loop c =>
  simp only [fD] at h
  have key:∀(k:Nat) (s:XS) (a:Act) (w:World),Gm go r n c k s=.ok (e,s')→MK g n s a w→Code.roundsIn F 0 P c R k a w:=by
   intro k
   induction k with
   | zero=>intro s a w h; cases h
   | succ k ih =>
    intro s a w h hs
    simp only [Gm] at h
    obtain ⟨⟨e1,s1⟩,h1,h⟩:=ad h
    refine A9 r n c s e1 s1 h1 F hF hr g a w _ hs fun a1 w1 fb=>?_
    cases e1 with
    | normal=>exact ih s1 a1 w1 h fb
    | ret=>simp only at h; injection h with h; injection h with q1 q2; subst q1; subst q2; exact hR a1 w1 fb
    | exit i=>simp only at h; injection h with h; injection h with q1 q2; subst q1; subst q2; exact hR a1 w1 fb
  exact wpIn_loop_rounds f (key f s a w h hs)
 | rangeFunc x ps as bd =>
  simp only [fD] at h
  have hh:=aA h; clear h; obtain ⟨UQ,h⟩:=hh
  have X6:=hr UQ
  subst X6
  obtain ⟨⟨G,ai⟩,dh,hn⟩:=hs
  have hv:=xV (ρ:=s.ρ) (κ:=s.κ) (x:=x) s.ρ s.κ ⟨fun _ _=>rfl,fun _ _=>rfl⟩ g n a w G ai
  unfold J8 Gp at h
  generalize ev s.ρ s.κ x=vx at h hv
  generalize hx:a.eval x=y at hv
  split at h
  ·cases hv with | fn _ _ vs hl D3=>exact vR hT A9 dU h ai dh hn hx ⟨hl,D3⟩ hR
  ·split at h
   ·cases hv with | dv hd=>cases hd with | fn _ _ vs hl D3=>exact vR hT A9 dU h ai dh hn hx (gM ⟨hl,D3⟩) hR
   ·cases h
  ·cases h
 | goto l=>simp [fD] at h
 | refuse w=>simp [fD] at h
theorem Cd (hT:ef P T) (hm:P.follows .mixedOrders=true) (dU:∀(g:Nat) (fn:Func),P.funcs[g]?=some fn→(fn.name == "runtime.NumGoroutine")=false) (pol:Nat→Bool):∀f,HH P (J9 P T pol f)
 | 0=>by intro r n c s e s' h; cases h
 | f+1=>HJ hT hm dU pol f (Cd hT hm dU pol f)
theorem HK (hT:ef P T) (hm:P.follows .mixedOrders=true) (dU:∀(g:Nat) (fn:Func),P.funcs[g]?=some fn→(fn.name == "runtime.NumGoroutine")=false) {pol:Nat→Bool} {f g:Nat} {args:List AV} {m:Nat} {K:ah} {rs:List AV} {K':ah} {ex:Nat} (h:PY P T pol f g args m K=.ok (rs,K',ex)):bj P g args m K ex rs K' :=
 vQ hT (Cd hT hm dU pol f) dU f g args m K (rs,K',ex) h
end
end Go.TM
namespace Go.TM
open Go.RowKit
variable [ct]
def Vf (r:XR (List AV × ah × Nat)):Option (List DV):=match r with
 | .ok q=>match r7 (aa q.2.1) q.1 with
  | some p=>some p.1
  | none=>none
 | .no _=>none
section
variable {P:Program} {T:List TI}
theorem Kj {G:Gh} {ds:List DV} {vs:List Value} (h:eQ G.M ds vs):bR G (Ai ds) vs:=by
 refine ⟨by rw [tW]; simpa using h.1,fun j d v hd hv=>?_⟩
 rw [tW,List.getElem?_map] at hd
 cases hj:ds[j]? with
 | none=>rw [hj] at hd; cases hd
 | some x =>
  rw [hj] at hd
  simp only [Option.map_some,Option.some.injEq] at hd
  subst hd
  exact nZ (h.2 j x v hj hv)
theorem r8 (hT:ef P T) (hm:P.follows .mixedOrders=true) (dU:∀(g:Nat) (fn:Func),P.funcs[g]?=some fn→(fn.name == "runtime.NumGoroutine")=false) {pol:Nat→Bool} {fuel f:Nat} {args rs:List DV} (h:Vf (PY P T pol fuel f (Ai args) 0 [])=some rs):cL P f args rs:=by
 cases hx:PY P T pol fuel f (Ai args) 0 [] with
 | no y=>rw [hx] at h; simp [Vf] at h
 | ok r =>
  obtain ⟨Zp,K',ex⟩:=r
  rw [hx] at h
  simp only [Vf] at h
  split at h
  ·rename_i p hp
   obtain ⟨ds,ids⟩:=p
   injection h with h
   subst h
   have hc:=HK hT hm dU hx
   obtain ⟨j5,cM⟩:=hc
   refine ⟨j5,fun w M vs eo pP hr=>?_⟩
   let G0:Gh:=⟨M,fun _=>none,fun _ _ _ _=>none,fun _ _=>False⟩
   have hc:=cM w G0 vs pP ⟨eo,fun i=>⟨rfl,fun _ _ _=>rfl⟩,fun i b ho=>ho.elim,fun i j b ho=>ho.elim⟩ (Kj (G:=G0) hr)
   refine hc.mono ?_
   rintro e w' ⟨v,WH,K1,G',rfl,⟨rfl,rfl⟩,out⟩
   have dm:∀i b,bI G' i (aa K1 i) b→w.heap.size≤b:=fun i b ho=>by
    rcases out.nc i b ho with h | ⟨j,h⟩
    ·exact h
    ·exact h.elim
   let g:dy:=⟨fun b=>∃i,bI G' i (aa K1 i) b,w',G'.M,0,fun _=>none,fun _ _=>none⟩
   have ai:bZ g 0 (fun _=>.any) (aa K1) { tmps:=#[],defers:=[] } w' G':=by
    refine { fit:=out.fit,env:=fun t=>.any _,size:=rfl,xP:=fun _ _ _=>rfl,os:=rfl,tape:=rfl,output:=rfl,grow:=Nat.le_refl _,mem:=.refl _,mK:=fun _ _ _=>rfl,ga:=fun i b ho=>.inr ⟨i,ho⟩,jW:=fun i hi=>absurd hi (Nat.not_lt_zero _),rj:=fun i hi=>absurd hi (Nat.not_lt_zero _),oh:=pP.mono out.le,rn:=⟨[],rfl,List.nodup_nil,by simp⟩ }
   obtain ⟨G2,hle,_,_,_,iE⟩:=ai.nS (κ:=aa K1) ids (fun _ _=>rfl)
   refine ⟨v,G2.M,rfl,⟨out.os,out.tape,out.output,out.size,fun b hb=>(out.frame b hb (fun i h=>h.elim)).1⟩,out.le.trans hle.mem,iE.fit.sub,fun b hb=>?_,?_⟩
   ·have cw:b<w'.heap.size:=Nat.lt_of_lt_of_le hb out.size
    have e1:G2.M b=G'.M b:=iE.mK b cw fun ⟨i,ho⟩=>by have:=dm i b ho; omega
    rw [e1]
    exact (out.frame b hb (fun i h=>h.elim)).2
   ·have key:∀us,bR G' WH us→eQ G2.M ds us:=fun us hu=>iT (κ:=aa K1) (κ':=aa K1) (all:=ids) (fun _ _=>rfl) hle iE.fit hp (fun _ h=>h) hu
    have hv:=out.res
    match WH,hv,key with
    | [],hv,key =>
     cases hv with | eP _ us hl hr =>
     have hd:=key us ⟨hl,hr⟩
     have:us=[]:=by simpa using hl.symm
     subst this
     have:ds=[]:=by have:=hd.1; simpa using this
     subst this
     exact ⟨[],rfl,hd⟩
    | [x],hv,key =>
     have hd:=key [v] ⟨rfl,fun j d u h1 h2=>by
      cases j with
      | zero=>simp at h1 h2; subst h1; subst h2; exact hv
      | succ j=>simp at h1⟩
     match ds,hd with
     | [],hd=>have:=hd.1; simp at this
     | [d],hd=>exact hd.2 0 d v rfl rfl
     | _::_::_,hd=>have:=hd.1; simp at this
    | x::y::r,hv,key =>
     cases hv with | eP _ us hl hr =>
     have hd:=key us ⟨hl,hr⟩
     have h2:ds.length=us.length:=hd.1
     match ds,hd,h2 with
     | [],hd,h2=>exfalso; rw [←h2] at hl; simp at hl
     | [d],hd,h2=>exfalso; rw [←h2] at hl; simp at hl
     | a::b::c,hd,h2=>exact ⟨us,rfl,hd⟩
  ·cases h
end
end Go.TM
namespace Go.TM
open Go.RowKit
variable [ct]
end Go.TM
namespace Go.TM
open Go.RowKit
variable [ct]
inductive Ce:ao→ao→Prop
 | refl (b:ao):Ce b b
 | omap (v e:Nat) (ks:KS) {m m':List DV} (h:m.Perm m'):Ce (.tree v e (.omap ks m)) (.tree v e (.omap ks m'))
def oK (k k':ah):Prop:=∀i,Ce (aa k i) (aa k' i)
theorem oK.refl (k:ah):oK k k:=fun _=>.refl _
theorem oK.nil:oK [] []:=oK.refl _
theorem oK.cons {i:Nat} {b b':ao} {k k':ah} (h:Ce b b') (t:oK k k'):oK ((i,b)::k) ((i,b')::k'):=fun j=>by
 simp only [aa]
 cases Nat.beq i j with
 | true=>exact h
 | false=>exact t j
theorem yp {ks:KS} {m m':List DV} (hu:UK m) (hp:m.Perm m') (s:PS) (r:List PS):get (.omap ks m) (s::r)=get (.omap ks m') (s::r):=by
 have hs:step (.omap ks m) s=step (.omap ks m') s:=by
  cases s with
  | el i j=>rfl
  | key k j=>simp only [step,hu.kC hp k]
 simp only [get,hs]
theorem r9 {ks:KS} {m m':List DV} (hu:UK m) (hp:m.Perm m') {p:List PS} {n:DV} (h:get (.omap ks m) p=some n) (hn:n.af=true):∃n',get (.omap ks m') p=some n'∧n'.af=true:=by
 cases p with
 | nil=>exact ⟨_,rfl,rfl⟩
 | cons s r=>exact ⟨n,by rw [←yp hu hp]; exact h,hn⟩
theorem aS.Gw {M:Mem} {w:World} {H:List PS→Option Value} {ks:KS} {m m':List DV} (h:aS M w H (.omap ks m)) (hp:m.Perm m'):UK m∧aS M w H (.omap ks m'):=by
 obtain ⟨v,h1,h2,h3⟩:=h.2 [] _ rfl rfl
 have hu:=bW.uk h3
 refine ⟨hu,rfl,fun p n hg hn=>?_⟩
 cases p with
 | nil =>
  have hg:DV.omap ks m'=n:=by simpa [get] using hg
  subst hg
  obtain ⟨m0,q,rest⟩:=h3
  exact ⟨v,h1,h2,m0,q.trans hp,rest⟩
 | cons s r =>
  rw [←yp hu hp] at hg
  exact h.2 _ n hg hn
theorem aO.Gw {H:List PS→Option Value} {ks:KS} {m m':List DV} (hu:UK m) (hp:m.Perm m') {b:Nat} (h:aO H (.omap ks m) b):aO H (.omap ks m') b:=by
 obtain ⟨p,n,v,h1,h2,h3,h4⟩:=h
 obtain ⟨n',e1,e2⟩:=r9 hu hp h1 h2
 exact ⟨p,n',v,e1,e2,h3,h4⟩
theorem fJ.Sr {G:Gh} {w:World} {i:Nat} {b c:ao} (h:fJ G w i b) (p:Ce b c):fJ G w i c∧∀x,bI G i c x ↔ bI G i b x:=by
 cases p with
 | refl=>exact ⟨h,fun _=>Iff.rfl⟩
 | omap v e ks hp =>
  obtain ⟨h1,h2,h3,h4⟩:=h
  obtain ⟨hu,ht⟩:=h1.Gw hp
  have Rw:=hu.perm hp
  refine ⟨⟨ht,fun p q n m u v b e1 e2 e3 e4 e5 e6 e7 e8=>?_,h3,h4⟩,fun x=>⟨fun o=>aO.Gw Rw hp.symm o,fun o=>aO.Gw hu hp o⟩⟩
  obtain ⟨n',a1,a2⟩:=r9 Rw hp.symm e1 e2
  obtain ⟨m',b1,b2⟩:=r9 Rw hp.symm e5 e6
  exact h2 p q n' m' u v b a1 a2 e3 e4 b1 b2 e7 e8
theorem Ey {P:Program} {f:Nat} {args:List AV} {m:Nat} {K:ah} {ex:Nat} {rs:List AV} {K0:ah} (h:dK P f args m K ex fun r k=>r=rs∧oK k K0):bj P f args m K ex rs K0:=by
 refine ⟨h.1,fun w G vs pP cC hr=>?_⟩
 refine Calls.mono (h.2 w G vs pP cC hr) ?_
 rintro e w' ⟨v,r,k,G',rfl,⟨rfl,hp⟩,hc⟩
 have hb:=fun i=>(hc.fit.box i).Sr (hp i)
 refine ⟨v,r,K0,G',rfl,⟨rfl,rfl⟩,{ hc with fit:=⟨hc.fit.sub,fun i=>(hb i).1,fun i b o=>hc.fit.own i b (((hb i).2 b).1 o),fun i j b o o'=>hc.fit.inj i j b (((hb i).2 b).1 o) (((hb j).2 b).1 o')⟩,no:=fun i hi=>?_,nc:=fun i b o=>hc.nc i b (((hb i).2 b).1 o) }⟩
 have h1:=hc.no i hi
 have h2:=hp i
 rw [h1] at h2
 generalize aa K0 i=c at h2
 cases h2
 rfl
end Go.TM
