import Derived.Test.YtpbdohkbiklflaaGreatDoorSM18
import Derived.LoopNIn
import Derived.Test.YtpbdohkbiklflaaGreatDoorSM16
set_option linter.unusedVariables false
set_option linter.unusedSimpArgs false
set_option linter.unusedSectionVars false
namespace Go.TM
open Go.RowKit
variable [cj]
theorem qV:∀(env:Env),look env=aq (fun _=>.any) env
 | []=>rfl
 | (i,b)::K=>by
  funext t
  simp only [look,aq,gl,qV K]
  by_cases h:t=i
  ·subst h; simp
  ·rw [if_neg h]; simp [beq_false h]
def FK (P:Program) (go:gu):Prop:=∀(r:Bool) (n:Nat) (c:Code) (s:XS) (e:AX) (s':XS),go r n c s=.ok (e,s')→∀(F:Fence),fI F→(r=true→F=Fence.wide)→∀(g:df) (a:Act) (w:World) (R:Exit→Act→World→Prop),
 KI g n s a w→(∀a w,KI g n s' a w→R (qG e) a w)→c.wpIn F 0 P R a w
section
variable {P:Program} {T:List TI} {go:gu}
theorem uF (hT:dV P T) (zF:FK P go) (dK:∀(g:Nat) (fn:Func),P.funcs[g]?=some fn→(fn.name == "runtime.NumGoroutine")=false) (f g:Nat):ED (dA P g) (AD P T go f g):=by
 intro args m K r hx
 unfold AD at hx
 obtain ⟨fn,hf,hx⟩:=ab hx
 obtain ⟨c,hb,hx⟩:=ab hx
 have hf:=aH hf
 have hb:=aH hb
 unfold Mt at hx
 obtain ⟨bG,hx⟩:=ax hx
 have hx:((go true fn.ntmps c (kV m (dJ 0 args) K)).bind fun q=>CN T f m fn q)=.ok r:=by
  unfold PZ at hx
  split at hx
  ·rename_i q hq; rw [hq]; exact hx
  ·cases hx
 obtain ⟨⟨e,s'⟩,aV,hx⟩:=ab hx
 refine ⟨⟨fn,hf,dK g fn hf,by rw [hb]; rfl⟩,fun w G vs rU cC hr=>?_⟩
 refine (fy.calls (n:=0)).1 (callsIn_of_wp_marks hf hb trivial ?_)
 simp only [Bool.and_eq_true,bN.wf] at bG
 obtain ⟨hlen,Sm,Va⟩:=bG
 have hlen:vs.length≤fn.ntmps:=by rw [←hr.1]; exact Nat.le_of_ble_eq_true hlen
 let g0:df:=⟨fun b=>∃i,bE G i (aa K i) b,w,G.M,m,G.β,fun i p=>G.H i 0 0 p⟩
 have ai:bT g0 fn.ntmps (look (dJ 0 args)) (aa K) { tmps:=vs.toArray++Array.replicate (fn.ntmps - vs.toArray.size) undef,defers:=[] } w G:=by
  refine { fit:=cC,env:=fun t=>?_,size:=by simp; omega,wI:=fun _ _ _=>rfl,os:=rfl,tape:=rfl,output:=rfl,grow:=Nat.le_refl _,mem:=.refl G.M,lZ:=fun _ _ _=>rfl,fQ:=fun i b ho=>.inr ⟨i,ho⟩,ju:=fun _ _=>rfl,rE:=fun _ _ _ _ hx=>hx,nA:=rU,qn:=⟨[],rfl,List.nodup_nil,by simp⟩ }
  rw [mw]
  simp only [Nat.zero_le,if_true,Nat.sub_zero]
  split
  ·rename_i d hd
   have ht:t<vs.length:=by rw [←hr.1]; exact (List.getElem?_eq_some_iff.1 hd).1
   have hv:vs[t]?=some (vs[t]'ht):=List.getElem?_eq_getElem ht
   have:(vs.toArray++Array.replicate (fn.ntmps - vs.toArray.size) undef).getD t undef=vs[t]'ht:=by
    rw [Array.getD_eq_getD_getElem?,Array.getElem?_append_left (by simpa using ht)]
    simp [hv]
   rw [this]
   exact hr.2 t d _ hd hv
  ·exact .any _
 have BR:KI g0 fn.ntmps (kV m (dJ 0 args) K) { tmps:=vs.toArray++Array.replicate (fn.ntmps - vs.toArray.size) undef,defers:=[] } w:=by
  refine ⟨⟨G,?_⟩,Nat.le_refl _,?_⟩
  ·simp only [kV,gh,←qV,←fh]; exact ai
  ·simp only [kV,gh,←fh]; exact fun i hi=>mo Sm hi
 refine zF true fn.ntmps c _ e s' aV Fence.wide fy (fun _=>rfl) g0 _ w _ BR fun a w' hs=>?_
 obtain ⟨⟨G1,fH⟩,_⟩:=hs
 have fin:((Av T s'.ρ s'.κ fn.results.toList).bind fun iA=>H0 f m s'.κ iA)=.ok r→LeavesInM Fence.wide 0 P fn a.tmps (fun e w'=>∃v rs K' G',e=.returned v∧(rs=r.1∧K'=r.2.1)∧Hv m r.2.2 (aa K) w G rs (aa K') w' G' v) a.defers .returning w':=by
  intro qs
  obtain ⟨iA,h1,h2⟩:=ab qs
  obtain ⟨D,hD,_⟩:=fH.qn
  rw [hD]
  refine bT.leave (g:=g0) (n:=fn.ntmps) (ρ:=s'.ρ) (κ:=s'.κ) (G:=G1) a.tmps (fun w2 oo=>?_) D w' (by have:=fH; rw [←hD]; exact this)
  obtain ⟨Vn,us,hq,Hu,dr⟩:=sM hT oo (yR (q:=fun l=>l=iA) h1 rfl)
  subst hq
  refine ⟨_,my Hu,?_⟩
  obtain ⟨rs,K',G',e1,e2⟩:=bT.out (g:=g0) (m:=m) (K:=K) (w0:=w) (G0:=G) rfl oo h2 dr (v:=if h:us.toArray.size=1 then us.toArray[0] else .tuple us.toArray) (fun d u _ hu=>by subst hu; rfl) (fun bA=>by rw [dif_neg (by simpa using bA)])
  exact ⟨_,rs,K',G',rfl,e1,e2⟩
 unfold CN at hx
 cases e with
 | normal=>exact fin hx
 | ret=>exact fin hx
 | exit i=>cases hx
theorem FL (zF:FK P go) (f:Nat):ED (qw P) (CO go f):=by
 intro args m K r hx
 unfold CO at hx
 split at hx
 ·rename_i rc l h0
  unfold Ic at hx
  have hh:=ax hx; clear hx; obtain ⟨eG,hx⟩:=hh
  have hh:=ab hx; clear hx; obtain ⟨⟨e1,s1⟩,P5,hx⟩:=hh
  intro w G vs rU cC hr
  simp only [Bool.and_eq_true] at eG
  obtain ⟨⟨⟨SH,AN⟩,Fk⟩,Cv⟩:=eG
  have SH:=Nat.eq_of_beq_eq_true SH
  have Fk:0<m:=by simpa using Fk
  have hb:=cC.box 0
  rw [h0] at hb
  obtain ⟨b,fn,tmps,D,iQ,hw,nN⟩:=hb
  have aN:tmps.size=l.length:=by have:=nN.1; simp at this; exact this.symm
  have Vo:vs.toArray.size=rc.ps.size:=by rw [List.size_toArray,←hr.1]; exact SH
  refine ⟨b,iQ,fn,_,rc.as,rc.bd,w,run_yield hw Vo,roundIn_of_wpIn trivial ?_⟩
  have P6:(rc.ps.zip vs.toArray).foldl (fun tm (pv:Nat × Value)=>tm.setIfInBounds pv.1 pv.2) tmps=(rc.ps.toList.zip vs).foldl (fun tm (pv:Nat × Value)=>tm.setIfInBounds pv.1 pv.2) tmps:=by
   rw [←Array.foldl_toList,Array.toList_zip]
  have NU:(rc.ps.zip vs.toArray).foldl (fun tmps (t,a)=>tmps.setIfInBounds t a) tmps=(rc.ps.toList.zip vs).foldl (fun tm (pv:Nat × Value)=>tm.setIfInBounds pv.1 pv.2) tmps:=P6
  let g:df:=⟨fun b=>∃i,bE G i (aa K i) b,w,G.M,m,G.β,fun i p=>G.H i 0 0 p⟩
  have Hq:∀t,aC G (look (sA 0 l) t) (tmps.getD t undef):=fun t=>by
   have:=w4 l 0 t
   rw [Nat.zero_add] at this
   rw [this]
   split
   ·rename_i v hv
    have ht:t<tmps.size:=by rw [aN]; exact (List.getElem?_eq_some_iff.1 hv).1
    refine nN.2 t v _ hv ?_
    rw [Array.getD_eq_getD_getElem?,Array.getElem?_toList,Array.getElem?_eq_getElem ht]; rfl
   ·exact .any _
  have ai:bT g l.length (look (Ar rc.ps.toList args (sA 0 l))) (aa K) { tmps:=(rc.ps.toList.zip vs).foldl (fun tm (pv:Nat × Value)=>tm.setIfInBounds pv.1 pv.2) tmps,defers:=[] } w G :=
   {fit:=cC,env:=Ek (fun p hp=>by rw [aN]; exact w5 AN p hp) hr Hq,size:=by rw [←aN]; exact Fu _ _,wI:=fun _ _ _=>rfl,os:=rfl,tape:=rfl,output:=rfl,grow:=Nat.le_refl _,mem:=.refl G.M,lZ:=fun _ _ _=>rfl,fQ:=fun i b ho=>.inr ⟨i,ho⟩,ju:=fun _ _=>rfl,rE:=fun _ _ _ _ hx=>hx,nA:=rU,qn:=⟨[],rfl,List.nodup_nil,by simp⟩ }
  rw [NU]
  have dj:∀i,m≤i→aa K i=.none:=fun i hi=>by
   rcases fv (K:=K) (i:=i) with h' | h'
   ·exact h'
   ·have:=cV Cv i (List.mem_map.2 ⟨_,h',rfl⟩); omega
  have BR:KI g l.length (kV m (Ar rc.ps.toList args (sA 0 l)) K) { tmps:=(rc.ps.toList.zip vs).foldl (fun tm (pv:Nat × Value)=>tm.setIfInBounds pv.1 pv.2) tmps,defers:=[] } w:=by
   refine ⟨⟨G,?_⟩,Nat.le_refl _,?_⟩
   ·simp only [kV,gh,←qV,←fh]; exact ai
   ·simp only [kV,gh,←fh]; exact dj
  refine zF false l.length rc.as _ e1 s1 P5 _ (wide_round b) (fun h=>by cases h) g _ w _ BR fun a1 w1 hs=>?_
  cases e1 with
  | ret=>cases hx
  | exit i=>cases hx
  | normal =>
   simp only at hx
   unfold Ev at hx
   split at hx
   ·rename_i WI l1 Kr
    have hh:=ab hx; clear hx; obtain ⟨⟨e2,s2⟩,P7,hx⟩:=hh
    obtain ⟨⟨G1,lR⟩,CT,Fg⟩:=hs
    have GG:G1.β 0=some b:=by rw [lR.ju 0 Fk]; exact iQ
    obtain ⟨rr,wa,Mw,Mx,iy,_⟩:=lR.yw Kr GG
    have SI:=run_beginRound (P:=P) wa Mw
    have My:=iy .busy
    have P8:({ rr with state:=zA.busy.st,pending:=zA.busy.B3 }:Loop)={ rr with state:=.busy }:=by
     have:rr.pending=none:=Mx
     simp only [zA.st,zA.B3,←this]
    rw [P8] at My
    refine ⟨_,SI,?_⟩
    refine zF false l.length rc.bd _ e2 s2 P7 _ (wide_round b) (fun h=>by cases h) g _ _ _ ⟨⟨G1,by simp only [oG]; exact My⟩,CT,fun i hi=>by
     have h1:m≤s1.nx:=CT
     have h2:s1.nx≤i:=hi
     simp only [oG]
     rw [ad _ _ (by omega)]; exact Fg i hi⟩ fun a2 w2 n8=>?_
    unfold Eu at hx
    split at hx
    ·rename_i WJ l2 P1
     obtain ⟨⟨G2,CE⟩,_,_⟩:=n8
     have Rm:G2.β 0=some b:=by rw [CE.ju 0 Fk]; exact iQ
     obtain ⟨r2,NV,_,_,P9,_⟩:=CE.yw P1 Rm
     have Eh:=P9 (Mc e2)
     rw [oG] at hx
     obtain ⟨rs,K',G',q1,q2⟩:=bT.out (g:=g) (m:=m) (K:=K) (w0:=w) (G0:=G) rfl Eh hx (us:=[.bool (SC e2)]) ⟨rfl,fun j d v hd hv=>by
      cases j with
      | zero=>simp at hd hv; subst hd; subst hv; exact .dv (.bool _)
      | succ j=>simp at hd⟩ (v:=.bool (SC e2)) (fun d u _ hu=>by injection hu) (fun bA=>absurd rfl bA)
     have ot:=run_endRound (P:=P) (mZ e2) NV
     cases e2 with
     | normal=>exact ⟨_,_,ot,_,rs,K',G',rfl,q1,q2⟩
     | ret=>exact ⟨_,_,ot,_,rs,K',G',rfl,q1,q2⟩
     | exit i=>exact ⟨_,_,ot,_,rs,K',G',rfl,q1,q2⟩
    ·cases hx
   ·cases hx
 ·cases hx
end
end Go.TM
namespace Go.TM
open Go.RowKit
variable [cj]
section
variable {P:Program} {T:List TI} {go:gu}
theorem uG (hT:dV P T) (zF:FK P go) (dK:∀(g:Nat) (fn:Func),P.funcs[g]?=some fn→(fn.name == "runtime.NumGoroutine")=false) {fuel n nx:Nat} {ρ:Nat→AV} {κ:Nat→ak} {x:Operand} {ps:Array Tmp} {as bd:Code} {f:Nat} {bh:List AV} {e:AX} {s':XS}
  (h:sO P T go fuel nx ρ (J0 κ nx (.eg ⟨ps,as,bd⟩ .ready (bl ρ 0 n))) f bh=.ok (e,s')) {g:df} {a:Act} {w:World} {R:Exit→Act→World→Prop} {G:Gh} (ai:bT g n ρ κ a w G) (c5:g.m≤nx) (hn:∀i,nx≤i→κ i=.none)
  {vs:List Value} (hx:a.eval x=.func (.func f) #[] vs.toArray) (nN:bJ G bh vs) (hR:∀a w,KI g n s' a w→R (qG e) a w):(Code.rangeFunc x ps as bd).wpIn Fence.wide 0 P R a w:=by
 rw [oG] at h
 generalize hκ1:gl κ nx (.eg ⟨ps,as,bd⟩ .ready (bl ρ 0 n))=κ1 at h
 unfold sO at h
 obtain ⟨q,hq,h⟩:=ab h
 unfold pK CL CK at hq
 generalize Au κ1 fuel (SD none++AV.qM (.fc nx::bh)) []=σ at hq
 obtain ⟨eG,hq⟩:=ax hq
 obtain ⟨r,jC,hq⟩:=ab hq
 unfold CJ at hq
 obtain ⟨OZ,hq⟩:=ax hq
 injection hq with hq; subst hq
 have cD:=uF hT zF dK fuel f _ _ _ r jC
 simp only [Bool.and_eq_true] at eG
 refine wpIn_rangeFunc fun fn _=>?_
 obtain ⟨lR,hle⟩:=ai.enterLoop (hn nx (Nat.le_refl _)) c5 ⟨ps,as,bd⟩ fn
 rw [hκ1] at lR
 have CE:=lR.upto (nx+1)
 have xR:∀i,i<g.m→gl G.β nx (some (w.heap.size+1)) i=g.β i:=fun i hi=>by rw [ad _ _ (by omega)]; exact ai.ju i hi
 have Fg:∀i,nx+1≤i→κ1 i=.none:=fun i hi=>by rw [←hκ1,ad _ _ (by omega)]; exact hn i (by omega)
 have dr:bJ { G with β:=gl G.β nx (some (w.heap.size+1)) } (.fc nx::bh) (.func (.yield (w.heap.size+1)) #[] #[]::vs):=by
  have h1:bJ { G with β:=gl G.β nx (some (w.heap.size+1)) } [.fc nx] [.func (.yield (w.heap.size+1)) #[] #[]] :=
   ⟨rfl,fun j d v hd hv=>by
    cases j with
    | zero=>simp at hd hv; subst hd; subst hv; exact .fc nx _ (aR _ _ _)
    | succ j=>simp at hd⟩
  exact h1.append (nN.mono hle)
 obtain ⟨β,_,aV⟩:=kR (hd:=none) (nx:=nx+1) (κ:=κ1) (jb P f) cD.2 Fg (by simp only [Bool.and_eq_true]; exact ⟨eG.1.1,rfl⟩) (nu _) (uz σ [] rfl) (fun rs K1 hr=>by obtain ⟨rfl,rfl⟩:=hr; exact OZ) (pI eG.2) (Nat.le_refl _) CE dr (fun _ _=>rfl)
 refine ⟨w.heap.size+1,[mark w.heap.size],((w.alloc (.deferred (some []))).alloc (.loop { state:=.ready,pending:=none,fn:=fn,tmps:=a.tmps,params:=ps,assign:=as,body:=bd,defers:=w.heap.size })),⟨.fn (.func f) vs.toArray,#[.func (.yield (w.heap.size+1)) #[] #[]]⟩,((w.alloc (.deferred (some []))).alloc (.loop { state:=.ready,pending:=none,fn:=fn,tmps:=a.tmps,params:=ps,assign:=as,body:=bd,defers:=w.heap.size })),f,(Value.func (.yield (w.heap.size+1)) #[] #[]::vs).toArray,((w.alloc (.deferred (some []))).alloc (.loop { state:=.ready,pending:=none,fn:=fn,tmps:=a.tmps,params:=ps,assign:=as,body:=bd,defers:=w.heap.size })),run_enterLoop_outer fn a.tmps ps as bd,?_,fun _ _=>trivial,?_,(fun h=>by cases h),?_⟩
 ·have h0:(#[]++Array.map a.eval #[Operand.const (Value.func (Fn.yield (w.heap.size+1)) #[] #[])])=#[Value.func (Fn.yield (w.heap.size+1)) #[] #[]]:=by simp [Act.eval]
  simp only [resolve,rangeCall,hx,Deferred.ofValue,Sem.run_pure]
  rw [h0]
 ·have:(#[Value.func (.yield (w.heap.size+1)) #[] #[]]++vs.toArray)=(Value.func (.yield (w.heap.size+1)) #[] #[]::vs).toArray:=by simp
  simp only [invoke]
  rw [this]
  exact fR cD.1 _ _
 ·refine (fy.calls).2 (Calls.mono aV ?_)
  rintro e2 w2 ⟨v,rs,K2,G3,rfl,⟨rfl,rfl⟩,Eh,_⟩
  have wJ:∀i,nx+1+r.2.2≤i→aq κ1 (bP (sg σ (nx+1)) (iX κ1 σ) r.2.1++js κ1 (di κ1 (du (sg σ (nx+1)) dm (Fw κ1 σ (.fc nx::bh))) (.fc nx::bh)++dX κ1 (bP (sg σ (nx+1)) dm (NH κ1 σ 0 σ)))) i=.none:=by
   refine mJ Fg (Nat.le_add_right _ _) fun p hp=>?_
   have CA:kO (σ.length+r.2.2) r.2.1=true:=by
    have:=OZ
    simp only [fV,Bool.and_eq_true] at this
    exact this.1.1.2
   have hσ1:∀i,i∈σ→i<nx+1:=by
    have:=eG.1.1
    simp only [gF,Bool.and_eq_true] at this
    exact (gz this.1.1.1.1.1.1).1
   rcases List.mem_append.1 hp with hp | hp
   ·obtain ⟨j,h1,h2⟩:=ke (i:=p.1) (b:=p.2) hp
    have hj:=cV CA j h1
    rw [h2]
    rcases Nat.lt_or_ge j σ.length with aK | db
    ·have:=hσ1 _ (by rw [ig aK]; exact List.getElem_mem aK:sg σ (nx+1) j∈σ); omega
    ·rw [gR db]; omega
   ·have:=qu Fg hp; omega
  unfold Ey at h
  simp only [gh] at h
  generalize hκ3:aq κ1 (bP (sg σ (nx+1)) (iX κ1 σ) r.2.1++js κ1 (di κ1 (du (sg σ (nx+1)) dm (Fw κ1 σ (.fc nx::bh))) (.fc nx::bh)++dX κ1 (bP (sg σ (nx+1)) dm (NH κ1 σ 0 σ))))=κ3 at *
  have vM:G3.β nx=some (w.heap.size+1):=(Eh.ju nx (Nat.lt_succ_self nx)).trans (aR _ _ _)
  have fin:∀(BU:RC) (st:zA) (l:List AV),κ3 nx=.eg BU st l→st.st ≠ .busy→st.B3=mZ e→s'=⟨nx+1+r.2.2,ρ,J0 κ3 nx .dead⟩→rangePost Fence.wide 0 P (w.heap.size+1) R { a with defers:=[mark w.heap.size]++a.defers } (.returned v) w2:=by
   intro BU st l hk hb hp dp
   obtain ⟨rr,h1,h2,h3,_,HO⟩:=Eh.yw hk vM
   have Sx:=(HO (.loop { rr with state:=.exhausted })).HN (Nat.le_succ_of_le c5) xR
   have Sy:KI g n s' { a with defers:=[mark w.heap.size]++a.defers } (w2.putObj (w.heap.size+1) (.loop { rr with state:=.exhausted })):=by
    subst dp
    exact ⟨⟨G3,by simp only [oG]; exact Sx⟩,by show g.m≤nx+1+r.2.2; omega,fun i hi=>by
     have vL:nx+1+r.2.2≤i:=hi
     simp only [oG]; rw [ad _ _ (by omega)]; exact wJ i vL⟩
   have lS:=hR _ _ Sy
   refine ⟨rr.pending,_,run_endLoop h1 (by rw [h2]; exact hb),?_⟩
   have zE:rr.pending=mZ e:=h3.trans hp
   rw [zE] at lS
   rw [zE]
   cases e with
   | normal=>exact lS
   | ret=>exact wpIn_ret lS
   | exit i=>exact wpIn_exit lS
  unfold w9 at h
  split at h
  ·rename_i BU st l hk
   split at h
   ·injection h with h
    injection h with h1 h2
    exact fin BU .ready l hk (by simp [zA.st]) (by rw [←h1]; rfl) h2.symm
   ·rename_i e'
    injection h with h
    injection h with h1 h2
    exact fin BU (.done e') l hk (by simp [zA.st]) (by rw [←h1]; rfl) h2.symm
   ·cases h
  ·cases h
theorem FM (hT:dV P T) (hm:P.follows .mixedOrders=true) (dK:∀(g:Nat) (fn:Func),P.funcs[g]?=some fn→(fn.name == "runtime.NumGoroutine")=false) (pol:Nat→Bool) (f:Nat) (zF:FK P go):FK P (fj P T pol f go):=by
 intro r n c s e s' h F hF hr g a w R hs hR
 have D9:∀(ops:List Oper) (d:Bool),yQ P (fun _=>True) ops n (AA T pol (Ie P T go f d) ops n):=fun ops d=>Is hT (fun g=>uF hT zF dK f g) (FL zF f) (aw P)
 cases c with
 | skip =>
  simp only [fj] at h
  injection h with h; injection h with h1 h2; subst h1; subst h2
  exact wpIn_skip (hR a w hs)
 | region id ops draw =>
  simp only [fj] at h
  cases draw with
  | false =>
   simp only [cond_false,Ew] at h
   obtain ⟨s1,h1,h⟩:=ab h
   injection h with h; injection h with e1 e2; subst e1; subst e2
   refine wpIn_region_list ?_
   have:=uD (P:=P) (ops:=ops.toList) (g:=g) (Q:=R) (D9 ops.toList false) trivial hF hR ops.toList s a w h1 hs
   simpa using this
  | true =>
   simp only [cond_true,AE] at h
   obtain ⟨⟨s1,rs⟩,h1,h⟩:=ab h
   obtain ⟨kN,h⟩:=ax h
   injection h with h; injection h with e1 e2; subst e1; subst e2
   refine wpIn_region_any hm ?_
   obtain ⟨hlen,pg,hn,he,hk,cZ⟩:=r6 (P:=P) (n:=n) (D9 ops.toList true) (ρ0:=s.ρ) (κ0:=s.κ) (lo:=s.nx) ops.toList [] s [] rfl rfl (Nat.le_refl _) hs.2.2 rfl rfl (by simp) h1
   have ou:(fun i=>(Array.replicate ops.size false).getD i false)=fun _=>false:=by
    funext i
    simp only [Array.getD_eq_getD_getElem?,Array.getElem?_replicate]
    split <;> rfl
   have yn:St g n s.ρ s.κ a { w with drawn:=w.drawn+1 }:=by
    obtain ⟨G,h1⟩:=hs.1
    exact ⟨G,h1.drawn _⟩
   have:=wS (P:=P) (C:=fun _=>True) (ops:=ops.toList) (n:=n) (g:=g) (Q:=R) trivial hF hs.2.1 kN hlen cZ (fun a w ai=>hR a w ⟨by rw [he,hk]; exact ai,Nat.le_trans hs.2.1 pg,hn⟩) ops.size (Array.replicate ops.size false) a { w with drawn:=w.drawn+1 } (by simp)
    (by have:=sJ (fun i=>(Array.replicate ops.size false).getD i false) ops.toList.length; simpa using this)
    (fun i o _ hi=>by rw [congrFun ou i] at hi; cases hi)
    (by rw [ou,iY,iY]; exact yn)
   simpa using this
 | seq x y =>
  simp only [fj] at h
  obtain ⟨⟨e1,s1⟩,h1,h⟩:=ab h
  refine wpIn_seq (zF r n x s e1 s1 h1 F hF hr g a w _ hs fun a1 w1 eT=>?_)
  unfold P0 at h
  cases e1 with
  | normal=>exact zF r n y s1 e s' h F hF hr g a1 w1 _ eT hR
  | ret=>simp only at h; injection h with h; injection h with q1 q2; subst q1; subst q2; exact hR a1 w1 eT
  | exit i=>simp only at h; injection h with h; injection h with q1 q2; subst q1; subst q2; exact hR a1 w1 eT
 | cond x y z =>
  simp only [fj] at h
  obtain ⟨t,h1,h⟩:=ab h
  have ht:=gB (aH h1)
  obtain ⟨G,ai⟩:=hs.1
  have hv:=wO (ρ:=s.ρ) (κ:=s.κ) (x:=x) s.ρ s.κ ⟨fun _ _=>rfl,fun _ _=>rfl⟩ g n a w G ai
  rw [ht] at hv
  generalize hx:a.eval x=v at hv
  cases hv with | dv hv=>cases hv with | bool =>
  refine wpIn_cond_split hx (fun et=>?_) (fun et=>?_)
  ·subst et; exact zF r n y s e s' h F hF hr g a w _ hs hR
  ·subst et; exact zF r n z s e s' h F hF hr g a w _ hs hR
 | block id c =>
  simp only [fj] at h
  obtain ⟨⟨e1,s1⟩,h1,h⟩:=ab h
  refine wpIn_block (zF r n c s e1 s1 h1 F hF hr g a w _ hs fun a1 w1 eT=>?_)
  unfold Ig at h
  cases e1 with
  | normal=>simp only at h; injection h with h; injection h with q1 q2; subst q1; subst q2; exact hR a1 w1 eT
  | ret=>simp only at h; injection h with h; injection h with q1 q2; subst q1; subst q2; exact hR a1 w1 eT
  | exit i =>
   simp only at h
   simp only [qG,Exit.inBlock]
   cases hb:Nat.beq i id with
   | true =>
    rw [hb] at h
    simp only [cond_true] at h
    injection h with h; injection h with q1 q2; subst q1; subst q2
    rw [if_pos (Nat.eq_of_beq_eq_true hb)]; exact hR a1 w1 eT
   | false =>
    rw [hb] at h
    simp only [cond_false] at h
    injection h with h; injection h with q1 q2; subst q1; subst q2
    rw [if_neg (fun e=>by rw [e,Nat.beq_refl] at hb; cases hb)]
    exact hR a1 w1 eT
 | exit id =>
  simp only [fj] at h
  injection h with h; injection h with h1 h2; subst h1; subst h2
  exact wpIn_exit (hR a w hs)
 | ret =>
  simp only [fj] at h
  injection h with h; injection h with h1 h2; subst h1; subst h2
  exact wpIn_ret (hR a w hs)
 | scope c =>
  simp only [fj] at h
  refine tQ (zF r n c s e s' h F hF hr g a w _ hs fun a1 w1 eT=>?_)
  cases e with
  | normal=>exact hR a1 w1 eT
  | ret=>exact hR a1 w1 eT
  | exit i=>exact hR a1 w1 eT
 | label l =>
  simp only [fj] at h
  injection h with h; injection h with h1 h2; subst h1; subst h2
  exact wpIn_label (hR a w hs)
 | loop c =>
  simp only [fj] at h
  have key:∀(k:Nat) (s:XS) (a:Act) (w:World),Ex go r n c k s=.ok (e,s')→KI g n s a w→Code.roundsIn F 0 P c R k a w:=by
   intro k
   induction k with
   | zero=>intro s a w h; cases h
   | succ k ih =>
    intro s a w h hs
    simp only [Ex] at h
    obtain ⟨⟨e1,s1⟩,h1,h⟩:=ab h
    refine zF r n c s e1 s1 h1 F hF hr g a w _ hs fun a1 w1 eT=>?_
    cases e1 with
    | normal=>exact ih s1 a1 w1 h eT
    | ret=>simp only at h; injection h with h; injection h with q1 q2; subst q1; subst q2; exact hR a1 w1 eT
    | exit i=>simp only at h; injection h with h; injection h with q1 q2; subst q1; subst q2; exact hR a1 w1 eT
  exact wpIn_loop_rounds f (key f s a w h hs)
 | rangeFunc x ps as bd =>
  simp only [fj] at h
  have hh:=ax h; clear h; obtain ⟨Si,h⟩:=hh
  have Vp:=hr Si
  subst Vp
  obtain ⟨⟨G,ai⟩,c5,hn⟩:=hs
  have hv:=wO (ρ:=s.ρ) (κ:=s.κ) (x:=x) s.ρ s.κ ⟨fun _ _=>rfl,fun _ _=>rfl⟩ g n a w G ai
  unfold Ih Ez at h
  generalize ev s.ρ s.κ x=vx at h hv
  generalize hx:a.eval x=y at hv
  split at h
  ·cases hv with | fn _ _ vs hl Cr=>exact uG hT zF dK h ai c5 hn hx ⟨hl,Cr⟩ hR
  ·split at h
   ·cases hv with | dv hd=>cases hd with | fn _ _ vs hl Cr=>exact uG hT zF dK h ai c5 hn hx (gx ⟨hl,Cr⟩) hR
   ·cases h
  ·cases h
 | goto l=>simp [fj] at h
 | refuse w=>simp [fj] at h
theorem AO (hT:dV P T) (hm:P.follows .mixedOrders=true) (dK:∀(g:Nat) (fn:Func),P.funcs[g]?=some fn→(fn.name == "runtime.NumGoroutine")=false) (pol:Nat→Bool):∀f,FK P (Ii P T pol f)
 | 0=>by intro r n c s e s' h; cases h
 | f+1=>FM hT hm dK pol f (AO hT hm dK pol f)
theorem FN (hT:dV P T) (hm:P.follows .mixedOrders=true) (dK:∀(g:Nat) (fn:Func),P.funcs[g]?=some fn→(fn.name == "runtime.NumGoroutine")=false) {pol:Nat→Bool} {f g:Nat} {args:List AV} {m:Nat} {K:af} {rs:List AV} {K':af} {ex:Nat} (h:NM P T pol f g args m K=.ok (rs,K',ex)):bg P g args m K ex rs K' :=
 uF hT (AO hT hm dK pol f) dK f g args m K (rs,K',ex) h
end
end Go.TM
namespace Go.TM
open Go.RowKit
variable [cj]
def SJ (r:XR (List AV × af × Nat)):Option (List DV):=match r with
 | .ok q=>match qW (aa q.2.1) q.1 with
  | some p=>some p.1
  | none=>none
 | .no _=>none
section
variable {P:Program} {T:List TI}
theorem Iu {G:Gh} {ds:List DV} {vs:List Value} (h:eC G.M ds vs):bJ G (yS ds) vs:=by
 refine ⟨by rw [sQ]; simpa using h.1,fun j d v hd hv=>?_⟩
 rw [sQ,List.getElem?_map] at hd
 cases hj:ds[j]? with
 | none=>rw [hj] at hd; cases hd
 | some x =>
  rw [hj] at hd
  simp only [Option.map_some,Option.some.injEq] at hd
  subst hd
  exact nk (h.2 j x v hj hv)
theorem xg (hT:dV P T) (hm:P.follows .mixedOrders=true) (dK:∀(g:Nat) (fn:Func),P.funcs[g]?=some fn→(fn.name == "runtime.NumGoroutine")=false) {pol:Nat→Bool} {fuel f:Nat} {args rs:List DV} (h:SJ (NM P T pol fuel f (yS args) 0 [])=some rs):eh P f args rs:=by
 cases hx:NM P T pol fuel f (yS args) 0 [] with
 | no y=>rw [hx] at h; simp [SJ] at h
 | ok r =>
  obtain ⟨WK,K',ex⟩:=r
  rw [hx] at h
  simp only [SJ] at h
  split at h
  ·rename_i p hp
   obtain ⟨ds,ids⟩:=p
   injection h with h
   subst h
   have hc:=FN hT hm dK hx
   obtain ⟨jC,cD⟩:=hc
   refine ⟨jC,fun w M vs ea rU hr=>?_⟩
   let G0:Gh:=⟨M,fun _=>none,fun _ _ _ _=>none,fun _ _=>False⟩
   have hc:=cD w G0 vs rU ⟨ea,fun i=>⟨rfl,fun _ _ _=>rfl⟩,fun i b ho=>ho.elim,fun i j b ho=>ho.elim⟩ (Iu (G:=G0) hr)
   refine hc.mono ?_
   rintro e w' ⟨v,T5,K1,G',rfl,⟨rfl,rfl⟩,out⟩
   have dj:∀i b,bE G' i (aa K1 i) b→w.heap.size≤b:=fun i b ho=>by
    rcases out.ow i b ho with h | ⟨j,h⟩
    ·exact h
    ·exact h.elim
   let g:df:=⟨fun b=>∃i,bE G' i (aa K1 i) b,w',G'.M,0,fun _=>none,fun _ _=>none⟩
   have ai:bT g 0 (fun _=>.any) (aa K1) { tmps:=#[],defers:=[] } w' G':=by
    refine { fit:=out.fit,env:=fun t=>.any _,size:=rfl,wI:=fun _ _ _=>rfl,os:=rfl,tape:=rfl,output:=rfl,grow:=Nat.le_refl _,mem:=.refl _,lZ:=fun _ _ _=>rfl,fQ:=fun i b ho=>.inr ⟨i,ho⟩,ju:=fun i hi=>absurd hi (Nat.not_lt_zero _),rE:=fun i hi=>absurd hi (Nat.not_lt_zero _),nA:=rU.mono out.le,qn:=⟨[],rfl,List.nodup_nil,by simp⟩ }
   obtain ⟨G2,hle,_,_,_,jt⟩:=ai.m8 (κ:=aa K1) ids (fun _ _=>rfl)
   refine ⟨v,G2.M,rfl,⟨out.os,out.tape,out.output,out.size,fun b hb=>(out.frame b hb (fun i h=>h.elim)).1⟩,out.le.trans hle.mem,jt.fit.sub,fun b hb=>?_,?_⟩
   ·have cl:b<w'.heap.size:=Nat.lt_of_lt_of_le hb out.size
    have e1:G2.M b=G'.M b:=jt.lZ b cl fun ⟨i,ho⟩=>by have:=dj i b ho; omega
    rw [e1]
    exact (out.frame b hb (fun i h=>h.elim)).2
   ·have key:∀us,bJ G' T5 us→eC G2.M ds us:=fun us hu=>iu (κ:=aa K1) (κ':=aa K1) (all:=ids) (fun _ _=>rfl) hle jt.fit hp (fun _ h=>h) hu
    have hv:=out.res
    match T5,hv,key with
    | [],hv,key =>
     cases hv with | eJ _ us hl hr =>
     have hd:=key us ⟨hl,hr⟩
     have:us=[]:=by simpa using hl.symm
     subst this
     have:ds=[]:=by have:=hd.1; simpa using this
     subst this
     exact ⟨[],rfl,hd⟩
    | [x],hv,key =>
     have hd:=key [v] ⟨rfl,fun j d u h1 h2=>by
      cases j with
      | zero=>simp at h1 h2; subst h1; subst h2; exact hv
      | succ j=>simp at h1⟩
     match ds,hd with
     | [],hd=>have:=hd.1; simp at this
     | [d],hd=>exact hd.2 0 d v rfl rfl
     | _::_::_,hd=>have:=hd.1; simp at this
    | x::y::r,hv,key =>
     cases hv with | eJ _ us hl hr =>
     have hd:=key us ⟨hl,hr⟩
     have h2:ds.length=us.length:=hd.1
     match ds,hd,h2 with
     | [],hd,h2=>exfalso; rw [←h2] at hl; simp at hl
     | [d],hd,h2=>exfalso; rw [←h2] at hl; simp at hl
     | a::b::c,hd,h2=>exact ⟨us,rfl,hd⟩
  ·cases h
end
end Go.TM
namespace Go.TM
open Go.RowKit
variable [cj]
end Go.TM
namespace Go.TM
open Go.RowKit
variable [cj]
inductive AP:ak→ak→Prop
 | refl (b:ak):AP b b
 | omap (v e:Nat) (ks:KS) {m m':List DV} (h:m.Perm m'):AP (.tree v e (.omap ks m)) (.tree v e (.omap ks m'))
def nT (k k':af):Prop:=∀i,AP (aa k i) (aa k' i)
theorem nT.refl (k:af):nT k k:=fun _=>.refl _
theorem nT.nil:nT [] []:=nT.refl _
theorem nT.cons {i:Nat} {b b':ak} {k k':af} (h:AP b b') (t:nT k k'):nT ((i,b)::k) ((i,b')::k'):=fun j=>by
 simp only [aa]
 cases Nat.beq i j with
 | true=>exact h
 | false=>exact t j
theorem xh {ks:KS} {m m':List DV} (hu:UK m) (hp:m.Perm m') (s:PS) (r:List PS):get (.omap ks m) (s::r)=get (.omap ks m') (s::r):=by
 have hs:step (.omap ks m) s=step (.omap ks m') s:=by
  cases s with
  | el i j=>rfl
  | key k j=>simp only [step,hu.jZ hp k]
 simp only [get,hs]
theorem qX {ks:KS} {m m':List DV} (hu:UK m) (hp:m.Perm m') {p:List PS} {n:DV} (h:get (.omap ks m) p=some n) (hn:n.ae=true):∃n',get (.omap ks m') p=some n'∧n'.ae=true:=by
 cases p with
 | nil=>exact ⟨_,rfl,rfl⟩
 | cons s r=>exact ⟨n,by rw [←xh hu hp]; exact h,hn⟩
theorem aO.EF {M:Mem} {w:World} {H:List PS→Option Value} {ks:KS} {m m':List DV} (h:aO M w H (.omap ks m)) (hp:m.Perm m'):UK m∧aO M w H (.omap ks m'):=by
 obtain ⟨v,h1,h2,h3⟩:=h.2 [] _ rfl rfl
 have hu:=bQ.uk h3
 refine ⟨hu,rfl,fun p n hg hn=>?_⟩
 cases p with
 | nil =>
  have hg:DV.omap ks m'=n:=by simpa [get] using hg
  subst hg
  obtain ⟨m0,q,rest⟩:=h3
  exact ⟨v,h1,h2,m0,q.trans hp,rest⟩
 | cons s r =>
  rw [←xh hu hp] at hg
  exact h.2 _ n hg hn
theorem aJ.EF {H:List PS→Option Value} {ks:KS} {m m':List DV} (hu:UK m) (hp:m.Perm m') {b:Nat} (h:aJ H (.omap ks m) b):aJ H (.omap ks m') b:=by
 obtain ⟨p,n,v,h1,h2,h3,h4⟩:=h
 obtain ⟨n',e1,e2⟩:=qX hu hp h1 h2
 exact ⟨p,n',v,e1,e2,h3,h4⟩
theorem fP.Qa {G:Gh} {w:World} {i:Nat} {b c:ak} (h:fP G w i b) (p:AP b c):fP G w i c∧∀x,bE G i c x ↔ bE G i b x:=by
 cases p with
 | refl=>exact ⟨h,fun _=>Iff.rfl⟩
 | omap v e ks hp =>
  obtain ⟨h1,h2,h3,h4⟩:=h
  obtain ⟨hu,ht⟩:=h1.EF hp
  have Pg:=hu.perm hp
  refine ⟨⟨ht,fun p q n m u v b e1 e2 e3 e4 e5 e6 e7 e8=>?_,h3,h4⟩,fun x=>⟨fun o=>aJ.EF Pg hp.symm o,fun o=>aJ.EF hu hp o⟩⟩
  obtain ⟨n',a1,a2⟩:=qX Pg hp.symm e1 e2
  obtain ⟨m',b1,b2⟩:=qX Pg hp.symm e5 e6
  exact h2 p q n' m' u v b a1 a2 e3 e4 b1 b2 e7 e8
theorem CU {P:Program} {f:Nat} {args:List AV} {m:Nat} {K:af} {ex:Nat} {rs:List AV} {K0:af} (h:dA P f args m K ex fun r k=>r=rs∧nT k K0):bg P f args m K ex rs K0:=by
 refine ⟨h.1,fun w G vs rU cC hr=>?_⟩
 refine Calls.mono (h.2 w G vs rU cC hr) ?_
 rintro e w' ⟨v,r,k,G',rfl,⟨rfl,hp⟩,hc⟩
 have hb:=fun i=>(hc.fit.box i).Qa (hp i)
 refine ⟨v,r,K0,G',rfl,⟨rfl,rfl⟩,{ hc with fit:=⟨hc.fit.sub,fun i=>(hb i).1,fun i b o=>hc.fit.own i b (((hb i).2 b).1 o),fun i j b o o'=>hc.fit.inj i j b (((hb i).2 b).1 o) (((hb j).2 b).1 o')⟩,no:=fun i hi=>?_,ow:=fun i b o=>hc.ow i b (((hb i).2 b).1 o) }⟩
 have h1:=hc.no i hi
 have h2:=hp i
 rw [h1] at h2
 generalize aa K0 i=c at h2
 cases h2
 rfl
end Go.TM
