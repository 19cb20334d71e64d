import Derived.Test.YtpbdohkbiklflaaGreatDoorCM18
import Derived.LoopNIn
import Derived.Test.YtpbdohkbiklflaaGreatDoorCM16
set_option linter.unusedVariables false
set_option linter.unusedSimpArgs false
set_option linter.unusedSectionVars false
namespace Go.TM
open Go.RowKit
variable [cu]
theorem sS:∀(env:Env),look env=az (fun _=>.any) env
 | []=>rfl
 | (i,b)::K=>by
  funext t
  simp only [look,az,gv,sS K]
  by_cases h:t=i
  ·subst h; simp
  ·rw [if_neg h]; simp [beq_false h]
def Jp (P:Program) (go:gZ):Prop:=∀(r:Bool) (n:Nat) (c:Code) (s:XS) (e:AX) (s':XS),go r n c s=.ok (e,s')→∀(F:Fence),gr F→(r=true→F=Fence.wide)→∀(g:dD) (a:Act) (w:World) (R:Exit→Act→World→Prop),
 OD g n s a w→(∀a w,OD g n s' a w→R (sD e) a w)→c.wpIn F 0 P R a w
section
variable {P:Program} {T:List TI} {go:gZ}
theorem wO (hT:er P T) (Cb:Jp P go) (eb:∀(g:Nat) (fn:Func),P.funcs[g]?=some fn→(fn.name == "runtime.NumGoroutine")=false) (f g:Nat):H6 (dR P g) (C4 P T go f g):=by
 intro args m K r hx
 unfold C4 at hx
 obtain ⟨fn,hf,hx⟩:=ad hx
 obtain ⟨c,hb,hx⟩:=ad hx
 have hf:=aS hf
 have hb:=aS hb
 unfold Qy at hx
 obtain ⟨bM,hx⟩:=aC hx
 have hx:((go true fn.ntmps c (l6 m (ea 0 args) K)).bind fun q=>FF T f m fn q)=.ok r:=by
  unfold Ul at hx
  split at hx
  ·rename_i q hq; rw [hq]; exact hx
  ·cases hx
 obtain ⟨⟨e,s'⟩,bj,hx⟩:=ad hx
 refine ⟨⟨fn,hf,eb g fn hf,by rw [hb]; rfl⟩,fun w G vs oH ck hr=>?_⟩
 refine (fZ.calls (n:=0)).1 (callsIn_of_wp_marks hf hb trivial ?_)
 simp only [Bool.and_eq_true,aY.wf] at bM
 obtain ⟨hlen,WY,Z0⟩:=bM
 have hlen:vs.length≤fn.ntmps:=by rw [←hr.1]; exact Nat.le_of_ble_eq_true hlen
 let g0:dD:=⟨fun b=>∃i,bL G i (aa K i) b,w,G.M,m,G.β,fun i p=>G.H i 0 0 p⟩
 have ak:cf g0 fn.ntmps (look (ea 0 args)) (aa K) { tmps:=vs.toArray++Array.replicate (fn.ntmps - vs.toArray.size) undef,defers:=[] } w G:=by
  refine { fit:=ck,env:=fun t=>?_,size:=by simp; omega,x3:=fun _ _ _=>rfl,os:=rfl,tape:=rfl,output:=rfl,grow:=Nat.le_refl _,mem:=.refl G.M,lL:=fun _ _ _=>rfl,fE:=fun i b ho=>.inr ⟨i,ho⟩,jg:=fun _ _=>rfl,pH:=fun _ _ _ _ hx=>hx,nk:=oH,r8:=⟨[],rfl,List.nodup_nil,by simp⟩ }
  rw [nI]
  simp only [Nat.zero_le,if_true,Nat.sub_zero]
  split
  ·rename_i d hd
   have ht:t<vs.length:=by rw [←hr.1]; exact (List.getElem?_eq_some_iff.1 hd).1
   have hv:vs[t]?=some (vs[t]'ht):=List.getElem?_eq_getElem ht
   have:(vs.toArray++Array.replicate (fn.ntmps - vs.toArray.size) undef).getD t undef=vs[t]'ht:=by
    rw [Array.getD_eq_getD_getElem?,Array.getElem?_append_left (by simpa using ht)]
    simp [hv]
   rw [this]
   exact hr.2 t d _ hd hv
  ·exact .any _
 have EE:OD g0 fn.ntmps (l6 m (ea 0 args) K) { tmps:=vs.toArray++Array.replicate (fn.ntmps - vs.toArray.size) undef,defers:=[] } w:=by
  refine ⟨⟨G,?_⟩,Nat.le_refl _,?_⟩
  ·simp only [l6,gL,←sS,←fQ]; exact ak
  ·simp only [l6,gL,←fQ]; exact fun i hi=>nE WY hi
 refine Cb true fn.ntmps c _ e s' bj Fence.wide fZ (fun _=>rfl) g0 _ w _ EE fun a w' hs=>?_
 obtain ⟨⟨G1,gn⟩,_⟩:=hs
 have fin:((CX T s'.ρ s'.κ fn.results.toList).bind fun jq=>LH f m s'.κ jq)=.ok r→LeavesInM Fence.wide 0 P fn a.tmps (fun e w'=>∃v rs K' G',e=.returned v∧(rs=r.1∧K'=r.2.1)∧Lc m r.2.2 (aa K) w G rs (aa K') w' G' v) a.defers .returning w':=by
  intro sm
  obtain ⟨jq,h1,h2⟩:=ad sm
  obtain ⟨D,hD,_⟩:=gn.r8
  rw [hD]
  refine cf.leave (g:=g0) (n:=fn.ntmps) (ρ:=s'.ρ) (κ:=s'.κ) (G:=G1) a.tmps (fun w2 pU=>?_) D w' (by have:=gn; rw [←hD]; exact this)
  obtain ⟨aaa,us,hq,Lb,dg⟩:=uS hT pU (Bg (q:=fun l=>l=jq) h1 rfl)
  subst hq
  refine ⟨_,nJ Lb,?_⟩
  obtain ⟨rs,K',G',e1,e2⟩:=cf.out (g:=g0) (m:=m) (K:=K) (w0:=w) (G0:=G) rfl pU h2 dg (v:=if h:us.toArray.size=1 then us.toArray[0] else .tuple us.toArray) (fun d u _ hu=>by subst hu; rfl) (fun bJ=>by rw [dif_neg (by simpa using bJ)])
  exact ⟨_,rs,K',G',rfl,e1,e2⟩
 unfold FF at hx
 cases e with
 | normal=>exact fin hx
 | ret=>exact fin hx
 | exit i=>cases hx
theorem Jq (Cb:Jp P go) (f:Nat):H6 (sq P) (FG go f):=by
 intro args m K r hx
 unfold FG at hx
 split at hx
 ·rename_i rc l h0
  unfold LR at hx
  have hh:=aC hx; clear hx; obtain ⟨fc,hx⟩:=hh
  have hh:=ad hx; clear hx; obtain ⟨⟨e1,s1⟩,Uq,hx⟩:=hh
  intro w G vs oH ck hr
  simp only [Bool.and_eq_true] at fc
  obtain ⟨⟨⟨Xj,De⟩,I2⟩,Fl⟩:=fc
  have Xj:=Nat.eq_of_beq_eq_true Xj
  have I2:0<m:=by simpa using I2
  have hb:=ck.box 0
  rw [h0] at hb
  obtain ⟨b,fn,tmps,D,jy,hw,pk⟩:=hb
  have aU:tmps.size=l.length:=by have:=pk.1; simp at this; exact this.symm
  have hvl:vs.toArray.size=rc.ps.size:=by rw [List.size_toArray,←hr.1]; exact Xj
  refine ⟨b,jy,fn,_,rc.as,rc.bd,w,run_yield hw hvl,roundIn_of_wpIn trivial ?_⟩
  have Ur:(rc.ps.zip vs.toArray).foldl (fun tm (pv:Nat × Value)=>tm.setIfInBounds pv.1 pv.2) tmps=(rc.ps.toList.zip vs).foldl (fun tm (pv:Nat × Value)=>tm.setIfInBounds pv.1 pv.2) tmps:=by
   rw [←Array.foldl_toList,Array.toList_zip]
  have R7:(rc.ps.zip vs.toArray).foldl (fun tmps (t,a)=>tmps.setIfInBounds t a) tmps=(rc.ps.toList.zip vs).foldl (fun tm (pv:Nat × Value)=>tm.setIfInBounds pv.1 pv.2) tmps:=Ur
  let g:dD:=⟨fun b=>∃i,bL G i (aa K i) b,w,G.M,m,G.β,fun i p=>G.H i 0 0 p⟩
  have K7:∀t,aH G (look (uE 0 l) t) (tmps.getD t undef):=fun t=>by
   have:=y8 l 0 t
   rw [Nat.zero_add] at this
   rw [this]
   split
   ·rename_i v hv
    have ht:t<tmps.size:=by rw [aU]; exact (List.getElem?_eq_some_iff.1 hv).1
    refine pk.2 t v _ hv ?_
    rw [Array.getD_eq_getD_getElem?,Array.getElem?_toList,Array.getElem?_eq_getElem ht]; rfl
   ·exact .any _
  have ak:cf g l.length (look (CT rc.ps.toList args (uE 0 l))) (aa K) { tmps:=(rc.ps.toList.zip vs).foldl (fun tm (pv:Nat × Value)=>tm.setIfInBounds pv.1 pv.2) tmps,defers:=[] } w G :=
   {fit:=ck,env:=HI (fun p hp=>by rw [aU]; exact y9 De p hp) hr K7,size:=by rw [←aU]; exact Ja _ _,x3:=fun _ _ _=>rfl,os:=rfl,tape:=rfl,output:=rfl,grow:=Nat.le_refl _,mem:=.refl G.M,lL:=fun _ _ _=>rfl,fE:=fun i b ho=>.inr ⟨i,ho⟩,jg:=fun _ _=>rfl,pH:=fun _ _ _ _ hx=>hx,nk:=oH,r8:=⟨[],rfl,List.nodup_nil,by simp⟩ }
  rw [R7]
  have dj:∀i,m≤i→aa K i=.none:=fun i hi=>by
   rcases fX (K:=K) (i:=i) with h' | h'
   ·exact h'
   ·have:=di Fl i (List.mem_map.2 ⟨_,h',rfl⟩); omega
  have EE:OD g l.length (l6 m (CT rc.ps.toList args (uE 0 l)) K) { tmps:=(rc.ps.toList.zip vs).foldl (fun tm (pv:Nat × Value)=>tm.setIfInBounds pv.1 pv.2) tmps,defers:=[] } w:=by
   refine ⟨⟨G,?_⟩,Nat.le_refl _,?_⟩
   ·simp only [l6,gL,←sS,←fQ]; exact ak
   ·simp only [l6,gL,←fQ]; exact dj
  refine Cb false l.length rc.as _ e1 s1 Uq _ (wide_round b) (fun h=>by cases h) g _ w _ EE fun a1 w1 hs=>?_
  cases e1 with
  | ret=>cases hx
  | exit i=>cases hx
  | normal =>
   simp only at hx
   unfold HU at hx
   split at hx
   ·rename_i rc1 l1 I7
    have hh:=ad hx; clear hx; obtain ⟨⟨e2,s2⟩,Us,hx⟩:=hh
    obtain ⟨⟨G1,mW⟩,FM,IY⟩:=hs
    have FN:G1.β 0=some b:=by rw [mW.jg 0 I2]; exact jy
    obtain ⟨rr,uR,Qz,NU,jn,_⟩:=mW.AR I7 FN
    have Xk:=run_beginRound (P:=P) uR Qz
    have QA:=jn .busy
    have Ut:({ rr with state:=B8.busy.st,pending:=B8.busy.EU }:Loop)={ rr with state:=.busy }:=by
     have:rr.pending=none:=NU
     simp only [B8.st,B8.EU,←this]
    rw [Ut] at QA
    refine ⟨_,Xk,?_⟩
    refine Cb false l.length rc.bd _ e2 s2 Us _ (wide_round b) (fun h=>by cases h) g _ _ _ ⟨⟨G1,by simp only [qh]; exact QA⟩,FM,fun i hi=>by
     have h1:m≤s1.nx:=FM
     have h2:s1.nx≤i:=hi
     simp only [qh]
     rw [ae _ _ (by omega)]; exact IY i hi⟩ fun a2 w2 ph=>?_
    unfold HS at hx
    split at hx
    ·rename_i rc2 l2 A9
     obtain ⟨⟨G2,Fw⟩,_,_⟩:=ph
     have R8:G2.β 0=some b:=by rw [Fw.jg 0 I2]; exact jy
     obtain ⟨r2,NV,_,_,Uu,_⟩:=Fw.AR A9 R8
     have HF:=Uu (Qh e2)
     rw [qh] at hx
     obtain ⟨rs,K',G',q1,q2⟩:=cf.out (g:=g) (m:=m) (K:=K) (w0:=w) (G0:=G) rfl HF hx (us:=[.bool (Xf e2)]) ⟨rfl,fun j d v hd hv=>by
      cases j with
      | zero=>simp at hd hv; subst hd; subst hv; exact .dv (.bool _)
      | succ j=>simp at hd⟩ (v:=.bool (Xf e2)) (fun d u _ hu=>by injection hu) (fun bJ=>absurd rfl bJ)
     have pW:=run_endRound (P:=P) (ow e2) NV
     cases e2 with
     | normal=>exact ⟨_,_,pW,_,rs,K',G',rfl,q1,q2⟩
     | ret=>exact ⟨_,_,pW,_,rs,K',G',rfl,q1,q2⟩
     | exit i=>exact ⟨_,_,pW,_,rs,K',G',rfl,q1,q2⟩
    ·cases hx
   ·cases hx
 ·cases hx
end
end Go.TM
namespace Go.TM
open Go.RowKit
variable [cu]
section
variable {P:Program} {T:List TI} {go:gZ}
theorem wP (hT:er P T) (Cb:Jp P go) (eb:∀(g:Nat) (fn:Func),P.funcs[g]?=some fn→(fn.name == "runtime.NumGoroutine")=false) {fuel n nx:Nat} {ρ:Nat→AV} {κ:Nat→ar} {x:Operand} {ps:Array Tmp} {as bd:Code} {f:Nat} {bA:List AV} {e:AX} {s':XS}
  (h:uU P T go fuel nx ρ (NQ κ nx (.eI ⟨ps,as,bd⟩ .ready (bC ρ 0 n))) f bA=.ok (e,s')) {g:dD} {a:Act} {w:World} {R:Exit→Act→World→Prop} {G:Gh} (ak:cf g n ρ κ a w G) (dq:g.m≤nx) (hn:∀i,nx≤i→κ i=.none)
  {vs:List Value} (hx:a.eval x=.func (.func f) #[] vs.toArray) (pk:bU G bA vs) (hR:∀a w,OD g n s' a w→R (sD e) a w):(Code.rangeFunc x ps as bd).wpIn Fence.wide 0 P R a w:=by
 rw [qh] at h
 generalize hκ1:gv κ nx (.eI ⟨ps,as,bd⟩ .ready (bC ρ 0 n))=κ1 at h
 unfold uU at h
 obtain ⟨q,hq,h⟩:=ad h
 unfold ru FD FC at hq
 generalize CW κ1 fuel (Xg none++AV.sJ (.fN nx::bA)) []=σ at hq
 obtain ⟨fc,hq⟩:=aC hq
 obtain ⟨r,ko,hq⟩:=ad hq
 unfold FB at hq
 obtain ⟨Ts,hq⟩:=aC hq
 injection hq with hq; subst hq
 have cV:=wO hT Cb eb fuel f _ _ _ r ko
 simp only [Bool.and_eq_true] at fc
 refine wpIn_rangeFunc fun fn _=>?_
 obtain ⟨mW,hle⟩:=ak.enterLoop (hn nx (Nat.le_refl _)) dq ⟨ps,as,bd⟩ fn
 rw [hκ1] at mW
 have Fw:=mW.upto (nx+1)
 have Af:∀i,i<g.m→gv G.β nx (some (w.heap.size+1)) i=g.β i:=fun i hi=>by rw [ae _ _ (by omega)]; exact ak.jg i hi
 have IY:∀i,nx+1≤i→κ1 i=.none:=fun i hi=>by rw [←hκ1,ae _ _ (by omega)]; exact hn i (by omega)
 have dg:bU { G with β:=gv G.β nx (some (w.heap.size+1)) } (.fN nx::bA) (.func (.yield (w.heap.size+1)) #[] #[]::vs):=by
  have h1:bU { G with β:=gv G.β nx (some (w.heap.size+1)) } [.fN nx] [.func (.yield (w.heap.size+1)) #[] #[]] :=
   ⟨rfl,fun j d v hd hv=>by
    cases j with
    | zero=>simp at hd hv; subst hd; subst hv; exact .fN nx _ (aZ _ _ _)
    | succ j=>simp at hd⟩
  exact h1.append (pk.mono hle)
 obtain ⟨β,_,bj⟩:=lW (hd:=none) (nx:=nx+1) (κ:=κ1) (jU P f) cV.2 IY (by simp only [Bool.and_eq_true]; exact ⟨fc.1.1,rfl⟩) (oM _) (wJ σ [] rfl) (fun rs K1 hr=>by obtain ⟨rfl,rfl⟩:=hr; exact Ts) (rn fc.2) (Nat.le_refl _) Fw dg (fun _ _=>rfl)
 refine ⟨w.heap.size+1,[mark w.heap.size],((w.alloc (.deferred (some []))).alloc (.loop { state:=.ready,pending:=none,fn:=fn,tmps:=a.tmps,params:=ps,assign:=as,body:=bd,defers:=w.heap.size })),⟨.fn (.func f) vs.toArray,#[.func (.yield (w.heap.size+1)) #[] #[]]⟩,((w.alloc (.deferred (some []))).alloc (.loop { state:=.ready,pending:=none,fn:=fn,tmps:=a.tmps,params:=ps,assign:=as,body:=bd,defers:=w.heap.size })),f,(Value.func (.yield (w.heap.size+1)) #[] #[]::vs).toArray,((w.alloc (.deferred (some []))).alloc (.loop { state:=.ready,pending:=none,fn:=fn,tmps:=a.tmps,params:=ps,assign:=as,body:=bd,defers:=w.heap.size })),run_enterLoop_outer fn a.tmps ps as bd,?_,fun _ _=>trivial,?_,(fun h=>by cases h),?_⟩
 ·have h0:(#[]++Array.map a.eval #[Operand.const (Value.func (Fn.yield (w.heap.size+1)) #[] #[])])=#[Value.func (Fn.yield (w.heap.size+1)) #[] #[]]:=by simp [Act.eval]
  simp only [resolve,rangeCall,hx,Deferred.ofValue,Sem.run_pure]
  rw [h0]
 ·have:(#[Value.func (.yield (w.heap.size+1)) #[] #[]]++vs.toArray)=(Value.func (.yield (w.heap.size+1)) #[] #[]::vs).toArray:=by simp
  simp only [invoke]
  rw [this]
  exact gz cV.1 _ _
 ·refine (fZ.calls).2 (Calls.mono bj ?_)
  rintro e2 w2 ⟨v,rs,K2,G3,rfl,⟨rfl,rfl⟩,HF,_⟩
  have yO:∀i,nx+1+r.2.2≤i→az κ1 (bZ (sg σ (nx+1)) (jP κ1 σ) r.2.1++kg κ1 (dG κ1 (dL (sg σ (nx+1)) dH (Jc κ1 σ (.fN nx::bA))) (.fN nx::bA)++ey κ1 (bZ (sg σ (nx+1)) dH (RS κ1 σ 0 σ)))) i=.none:=by
   refine nU IY (Nat.le_add_right _ _) fun p hp=>?_
   have Fs:lU (σ.length+r.2.2) r.2.1=true:=by
    have:=Ts
    simp only [gE,Bool.and_eq_true] at this
    exact this.1.1.2
   have hσ1:∀i,i∈σ→i<nx+1:=by
    have:=fc.1.1
    simp only [im,Bool.and_eq_true] at this
    exact (hZ this.1.1.1.1.1.1).1
   rcases List.mem_append.1 hp with hp | hp
   ·obtain ⟨j,h1,h2⟩:=lg (i:=p.1) (b:=p.2) hp
    have hj:=di Fs j h1
    rw [h2]
    rcases Nat.lt_or_ge j σ.length with aK | dy
    ·have:=hσ1 _ (by rw [jc aK]; exact List.getElem_mem aK:sg σ (nx+1) j∈σ); omega
    ·rw [iI dy]; omega
   ·have:=sn IY hp; omega
  unfold HX at h
  simp only [gL] at h
  generalize hκ3:az κ1 (bZ (sg σ (nx+1)) (jP κ1 σ) r.2.1++kg κ1 (dG κ1 (dL (sg σ (nx+1)) dH (Jc κ1 σ (.fN nx::bA))) (.fN nx::bA)++ey κ1 (bZ (sg σ (nx+1)) dH (RS κ1 σ 0 σ))))=κ3 at *
  have x5:G3.β nx=some (w.heap.size+1):=(HF.jg nx (Nat.lt_succ_self nx)).trans (aZ _ _ _)
  have fin:∀(EH:RC) (st:B8) (l:List AV),κ3 nx=.eI EH st l→st.st ≠ .busy→st.EU=ow e→s'=⟨nx+1+r.2.2,ρ,NQ κ3 nx .dead⟩→rangePost Fence.wide 0 P (w.heap.size+1) R { a with defers:=[mark w.heap.size]++a.defers } (.returned v) w2:=by
   intro EH st l hk hb hp dI
   obtain ⟨rr,h1,h2,h3,_,Lu⟩:=HF.AR hk x5
   have Xa:=(Lu (.loop { rr with state:=.exhausted })).Lt (Nat.le_succ_of_le dq) Af
   have Xb:OD g n s' { a with defers:=[mark w.heap.size]++a.defers } (w2.putObj (w.heap.size+1) (.loop { rr with state:=.exhausted })):=by
    subst dI
    exact ⟨⟨G3,by simp only [qh]; exact Xa⟩,by show g.m≤nx+1+r.2.2; omega,fun i hi=>by
     have uB:nx+1+r.2.2≤i:=hi
     simp only [qh]; rw [ae _ _ (by omega)]; exact yO i uB⟩
   have kL:=hR _ _ Xb
   refine ⟨rr.pending,_,run_endLoop h1 (by rw [h2]; exact hb),?_⟩
   have y7:rr.pending=ow e:=h3.trans hp
   rw [y7] at kL
   rw [y7]
   cases e with
   | normal=>exact kL
   | ret=>exact wpIn_ret kL
   | exit i=>exact wpIn_exit kL
  unfold zf at h
  split at h
  ·rename_i EH st l hk
   split at h
   ·injection h with h
    injection h with h1 h2
    exact fin EH .ready l hk (by simp [B8.st]) (by rw [←h1]; rfl) h2.symm
   ·rename_i e'
    injection h with h
    injection h with h1 h2
    exact fin EH (.done e') l hk (by simp [B8.st]) (by rw [←h1]; rfl) h2.symm
   ·cases h
  ·cases h
theorem Jr (hT:er P T) (hm:P.follows .mixedOrders=true) (eb:∀(g:Nat) (fn:Func),P.funcs[g]?=some fn→(fn.name == "runtime.NumGoroutine")=false) (pol:Nat→Bool) (f:Nat) (Cb:Jp P go):Jp P (fR P T pol f go):=by
 intro r n c s e s' h F hF hr g a w R hs hR
 have cC:∀(ops:List Oper) (d:Bool),Bf P (fun _=>True) ops n (C2 T pol (LS P T go f d) ops n):=fun ops d=>L4 hT (fun g=>wO hT Cb eb f g) (Jq Cb f) (af P)
 cases c with
 | skip =>
  simp only [fR] at h
  injection h with h; injection h with h1 h2; subst h1; subst h2
  exact wpIn_skip (hR a w hs)
 | region id ops draw =>
  simp only [fR] at h
  cases draw with
  | false =>
   simp only [cond_false,HV] at h
   obtain ⟨s1,h1,h⟩:=ad h
   injection h with h; injection h with e1 e2; subst e1; subst e2
   refine wpIn_region_list ?_
   have:=wN (P:=P) (ops:=ops.toList) (g:=g) (Q:=R) (cC ops.toList false) trivial hF hR ops.toList s a w h1 hs
   simpa using this
  | true =>
   simp only [cond_true,C5] at h
   obtain ⟨⟨s1,rs⟩,h1,h⟩:=ad h
   obtain ⟨lT,h⟩:=aC h
   injection h with h; injection h with e1 e2; subst e1; subst e2
   refine wpIn_region_any hm ?_
   obtain ⟨hlen,qN,hn,he,hk,dk⟩:=tV (P:=P) (n:=n) (cC ops.toList true) (ρ0:=s.ρ) (κ0:=s.κ) (lo:=s.nx) ops.toList [] s [] rfl rfl (Nat.le_refl _) hs.2.2 rfl rfl (by simp) h1
   have pX:(fun i=>(Array.replicate ops.size false).getD i false)=fun _=>false:=by
    funext i
    simp only [Array.getD_eq_getD_getElem?,Array.getElem?_replicate]
    split <;> rfl
   have AL:St g n s.ρ s.κ a { w with drawn:=w.drawn+1 }:=by
    obtain ⟨G,h1⟩:=hs.1
    exact ⟨G,h1.drawn _⟩
   have:=yX (P:=P) (C:=fun _=>True) (ops:=ops.toList) (n:=n) (g:=g) (Q:=R) trivial hF hs.2.1 lT hlen dk (fun a w ak=>hR a w ⟨by rw [he,hk]; exact ak,Nat.le_trans hs.2.1 qN,hn⟩) ops.size (Array.replicate ops.size false) a { w with drawn:=w.drawn+1 } (by simp)
    (by have:=uO (fun i=>(Array.replicate ops.size false).getD i false) ops.toList.length; simpa using this)
    (fun i o _ hi=>by rw [congrFun pX i] at hi; cases hi)
    (by rw [pX,jQ,jQ]; exact AL)
   simpa using this
 | seq x y =>
  simp only [fR] at h
  obtain ⟨⟨e1,s1⟩,h1,h⟩:=ad h
  refine wpIn_seq (Cb r n x s e1 s1 h1 F hF hr g a w _ hs fun a1 w1 fh=>?_)
  unfold Um at h
  cases e1 with
  | normal=>exact Cb r n y s1 e s' h F hF hr g a1 w1 _ fh hR
  | ret=>simp only at h; injection h with h; injection h with q1 q2; subst q1; subst q2; exact hR a1 w1 fh
  | exit i=>simp only at h; injection h with h; injection h with q1 q2; subst q1; subst q2; exact hR a1 w1 fh
 | cond x y z =>
  simp only [fR] at h
  obtain ⟨t,h1,h⟩:=ad h
  have ht:=ib (aS h1)
  obtain ⟨G,ak⟩:=hs.1
  have hv:=yT (ρ:=s.ρ) (κ:=s.κ) (x:=x) s.ρ s.κ ⟨fun _ _=>rfl,fun _ _=>rfl⟩ g n a w G ak
  rw [ht] at hv
  generalize hx:a.eval x=v at hv
  cases hv with | dv hv=>cases hv with | bool =>
  refine wpIn_cond_split hx (fun et=>?_) (fun et=>?_)
  ·subst et; exact Cb r n y s e s' h F hF hr g a w _ hs hR
  ·subst et; exact Cb r n z s e s' h F hF hr g a w _ hs hR
 | block id c =>
  simp only [fR] at h
  obtain ⟨⟨e1,s1⟩,h1,h⟩:=ad h
  refine wpIn_block (Cb r n c s e1 s1 h1 F hF hr g a w _ hs fun a1 w1 fh=>?_)
  unfold LU at h
  cases e1 with
  | normal=>simp only at h; injection h with h; injection h with q1 q2; subst q1; subst q2; exact hR a1 w1 fh
  | ret=>simp only at h; injection h with h; injection h with q1 q2; subst q1; subst q2; exact hR a1 w1 fh
  | exit i =>
   simp only at h
   simp only [sD,Exit.inBlock]
   cases hb:Nat.beq i id with
   | true =>
    rw [hb] at h
    simp only [cond_true] at h
    injection h with h; injection h with q1 q2; subst q1; subst q2
    rw [if_pos (Nat.eq_of_beq_eq_true hb)]; exact hR a1 w1 fh
   | false =>
    rw [hb] at h
    simp only [cond_false] at h
    injection h with h; injection h with q1 q2; subst q1; subst q2
    rw [if_neg (fun e=>by rw [e,Nat.beq_refl] at hb; cases hb)]
    exact hR a1 w1 fh
 | exit id =>
  simp only [fR] at h
  injection h with h; injection h with h1 h2; subst h1; subst h2
  exact wpIn_exit (hR a w hs)
 | ret =>
  simp only [fR] at h
  injection h with h; injection h with h1 h2; subst h1; subst h2
  exact wpIn_ret (hR a w hs)
 | scope c =>
  simp only [fR] at h
  refine wa (Cb r n c s e s' h F hF hr g a w _ hs fun a1 w1 fh=>?_)
  cases e with
  | normal=>exact hR a1 w1 fh
  | ret=>exact hR a1 w1 fh
  | exit i=>exact hR a1 w1 fh
 | label l =>
  simp only [fR] at h
  injection h with h; injection h with h1 h2; subst h1; subst h2
  exact wpIn_label (hR a w hs)
 | loop c =>
  simp only [fR] at h
  have key:∀(k:Nat) (s:XS) (a:Act) (w:World),HW go r n c k s=.ok (e,s')→OD g n s a w→Code.roundsIn F 0 P c R k a w:=by
   intro k
   induction k with
   | zero=>intro s a w h; cases h
   | succ k ih =>
    intro s a w h hs
    simp only [HW] at h
    obtain ⟨⟨e1,s1⟩,h1,h⟩:=ad h
    refine Cb r n c s e1 s1 h1 F hF hr g a w _ hs fun a1 w1 fh=>?_
    cases e1 with
    | normal=>exact ih s1 a1 w1 h fh
    | ret=>simp only at h; injection h with h; injection h with q1 q2; subst q1; subst q2; exact hR a1 w1 fh
    | exit i=>simp only at h; injection h with h; injection h with q1 q2; subst q1; subst q2; exact hR a1 w1 fh
  exact wpIn_loop_rounds f (key f s a w h hs)
 | rangeFunc x ps as bd =>
  simp only [fR] at h
  have hh:=aC h; clear h; obtain ⟨WV,h⟩:=hh
  have hFw:=hr WV
  subst hFw
  obtain ⟨⟨G,ak⟩,dq,hn⟩:=hs
  have hv:=yT (ρ:=s.ρ) (κ:=s.κ) (x:=x) s.ρ s.κ ⟨fun _ _=>rfl,fun _ _=>rfl⟩ g n a w G ak
  unfold LV HY at h
  generalize ev s.ρ s.κ x=vx at h hv
  generalize hx:a.eval x=y at hv
  split at h
  ·cases hv with | fn _ _ vs hl Fi=>exact wP hT Cb eb h ak dq hn hx ⟨hl,Fi⟩ hR
  ·split at h
   ·cases hv with | dv hd=>cases hd with | fn _ _ vs hl Fi=>exact wP hT Cb eb h ak dq hn hx (hJ ⟨hl,Fi⟩) hR
   ·cases h
  ·cases h
 | goto l=>simp [fR] at h
 | refuse w=>simp [fR] at h
theorem Df (hT:er P T) (hm:P.follows .mixedOrders=true) (eb:∀(g:Nat) (fn:Func),P.funcs[g]?=some fn→(fn.name == "runtime.NumGoroutine")=false) (pol:Nat→Bool):∀f,Jp P (LW P T pol f)
 | 0=>by intro r n c s e s' h; cases h
 | f+1=>Jr hT hm eb pol f (Df hT hm eb pol f)
theorem Js (hT:er P T) (hm:P.follows .mixedOrders=true) (eb:∀(g:Nat) (fn:Func),P.funcs[g]?=some fn→(fn.name == "runtime.NumGoroutine")=false) {pol:Nat→Bool} {f g:Nat} {args:List AV} {m:Nat} {K:aj} {rs:List AV} {K':aj} {ex:Nat} (h:RY P T pol f g args m K=.ok (rs,K',ex)):aO P g args m K ex rs K' :=
 wO hT (Df hT hm eb pol f) eb f g args m K (rs,K',ex) h
end
end Go.TM
namespace Go.TM
open Go.RowKit
variable [cu]
def Xl (r:XR (List AV × aj × Nat)):Option (List DV):=match r with
 | .ok q=>match sU (aa q.2.1) q.1 with
  | some p=>some p.1
  | none=>none
 | .no _=>none
section
variable {P:Program} {T:List TI}
theorem L6 {G:Gh} {ds:List DV} {vs:List Value} (h:eX G.M ds vs):bU G (Bh ds) vs:=by
 refine ⟨by rw [uW]; simpa using h.1,fun j d v hd hv=>?_⟩
 rw [uW,List.getElem?_map] at hd
 cases hj:ds[j]? with
 | none=>rw [hj] at hd; cases hd
 | some x =>
  rw [hj] at hd
  simp only [Option.map_some,Option.some.injEq] at hd
  subst hd
  exact oI (h.2 j x v hj hv)
theorem sV (hT:er P T) (hm:P.follows .mixedOrders=true) (eb:∀(g:Nat) (fn:Func),P.funcs[g]?=some fn→(fn.name == "runtime.NumGoroutine")=false) {pol:Nat→Bool} {fuel f:Nat} {args rs:List DV} (h:Xl (RY P T pol fuel f (Bh args) 0 [])=some rs):cr P f args rs:=by
 cases hx:RY P T pol fuel f (Bh args) 0 [] with
 | no y=>rw [hx] at h; simp [Xl] at h
 | ok r =>
  obtain ⟨rs0,K',ex⟩:=r
  rw [hx] at h
  simp only [Xl] at h
  split at h
  ·rename_i p hp
   obtain ⟨ds,ids⟩:=p
   injection h with h
   subst h
   have hc:=Js hT hm eb hx
   obtain ⟨ko,cV⟩:=hc
   refine ⟨ko,fun w M vs eB oH hr=>?_⟩
   let G0:Gh:=⟨M,fun _=>none,fun _ _ _ _=>none,fun _ _=>False⟩
   have hc:=cV w G0 vs oH ⟨eB,fun i=>⟨rfl,fun _ _ _=>rfl⟩,fun i b ho=>ho.elim,fun i j b ho=>ho.elim⟩ (L6 (G:=G0) hr)
   refine hc.mono ?_
   rintro e w' ⟨v,YR,K1,G',rfl,⟨rfl,rfl⟩,out⟩
   have dj:∀i b,bL G' i (aa K1 i) b→w.heap.size≤b:=fun i b ho=>by
    rcases out.mY i b ho with h | ⟨j,h⟩
    ·exact h
    ·exact h.elim
   let g:dD:=⟨fun b=>∃i,bL G' i (aa K1 i) b,w',G'.M,0,fun _=>none,fun _ _=>none⟩
   have ak:cf g 0 (fun _=>.any) (aa K1) { tmps:=#[],defers:=[] } w' G':=by
    refine { fit:=out.fit,env:=fun t=>.any _,size:=rfl,x3:=fun _ _ _=>rfl,os:=rfl,tape:=rfl,output:=rfl,grow:=Nat.le_refl _,mem:=.refl _,lL:=fun _ _ _=>rfl,fE:=fun i b ho=>.inr ⟨i,ho⟩,jg:=fun i hi=>absurd hi (Nat.not_lt_zero _),pH:=fun i hi=>absurd hi (Nat.not_lt_zero _),nk:=oH.mono out.le,r8:=⟨[],rfl,List.nodup_nil,by simp⟩ }
   obtain ⟨G2,hle,_,_,_,iF⟩:=ak.oA (κ:=aa K1) ids (fun _ _=>rfl)
   refine ⟨v,G2.M,rfl,⟨out.os,out.tape,out.output,out.size,fun b hb=>(out.frame b hb (fun i h=>h.elim)).1⟩,out.le.trans hle.mem,iF.fit.sub,fun b hb=>?_,?_⟩
   ·have cy:b<w'.heap.size:=Nat.lt_of_lt_of_le hb out.size
    have e1:G2.M b=G'.M b:=iF.lL b cy fun ⟨i,ho⟩=>by have:=dj i b ho; omega
    rw [e1]
    exact (out.frame b hb (fun i h=>h.elim)).2
   ·have key:∀us,bU G' YR us→eX G2.M ds us:=fun us hu=>jl (κ:=aa K1) (κ':=aa K1) (all:=ids) (fun _ _=>rfl) hle iF.fit hp (fun _ h=>h) hu
    have hv:=out.res
    match YR,hv,key with
    | [],hv,key =>
     cases hv with | eV _ us hl hr =>
     have hd:=key us ⟨hl,hr⟩
     have:us=[]:=by simpa using hl.symm
     subst this
     have:ds=[]:=by have:=hd.1; simpa using this
     subst this
     exact ⟨[],rfl,hd⟩
    | [x],hv,key =>
     have hd:=key [v] ⟨rfl,fun j d u h1 h2=>by
      cases j with
      | zero=>simp at h1 h2; subst h1; subst h2; exact hv
      | succ j=>simp at h1⟩
     match ds,hd with
     | [],hd=>have:=hd.1; simp at this
     | [d],hd=>exact hd.2 0 d v rfl rfl
     | _::_::_,hd=>have:=hd.1; simp at this
    | x::y::r,hv,key =>
     cases hv with | eV _ us hl hr =>
     have hd:=key us ⟨hl,hr⟩
     have h2:ds.length=us.length:=hd.1
     match ds,hd,h2 with
     | [],hd,h2=>exfalso; rw [←h2] at hl; simp at hl
     | [d],hd,h2=>exfalso; rw [←h2] at hl; simp at hl
     | a::b::c,hd,h2=>exact ⟨us,rfl,hd⟩
  ·cases h
end
end Go.TM
namespace Go.TM
open Go.RowKit
variable [cu]
theorem cD:∀{l:List DV} {k x:DV},bn l k=some x→∃k',DV.eW k' x∈l
 | [],_,_,h=>by simp [bn] at h
 | .eW k' v::r,k,x,h=>by
  simp only [bn] at h
  cases hk:uz k' k with
  | true=>rw [hk] at h; injection h with h; subst h; exact ⟨k',by simp⟩
  | false=>rw [hk] at h; obtain ⟨m5,h2⟩:=cD h; exact ⟨m5,by simp [h2]⟩
 | .any::r,k,x,h=>by simp only [bn] at h; obtain ⟨m5,h2⟩:=cD h; exact ⟨m5,by simp [h2]⟩
 | .mT::r,k,x,h=>by simp only [bn] at h; obtain ⟨m5,h2⟩:=cD h; exact ⟨m5,by simp [h2]⟩
 | .qG _ _ _::r,k,x,h=>by simp only [bn] at h; obtain ⟨m5,h2⟩:=cD h; exact ⟨m5,by simp [h2]⟩
 | .int _ _::r,k,x,h=>by simp only [bn] at h; obtain ⟨m5,h2⟩:=cD h; exact ⟨m5,by simp [h2]⟩
 | .bool _::r,k,x,h=>by simp only [bn] at h; obtain ⟨m5,h2⟩:=cD h; exact ⟨m5,by simp [h2]⟩
 | .str _::r,k,x,h=>by simp only [bn] at h; obtain ⟨m5,h2⟩:=cD h; exact ⟨m5,by simp [h2]⟩
 | .dr::r,k,x,h=>by simp only [bn] at h; obtain ⟨m5,h2⟩:=cD h; exact ⟨m5,by simp [h2]⟩
 | .aP::r,k,x,h=>by simp only [bn] at h; obtain ⟨m5,h2⟩:=cD h; exact ⟨m5,by simp [h2]⟩
 | .iz::r,k,x,h=>by simp only [bn] at h; obtain ⟨m5,h2⟩:=cD h; exact ⟨m5,by simp [h2]⟩
 | .kS::r,k,x,h=>by simp only [bn] at h; obtain ⟨m5,h2⟩:=cD h; exact ⟨m5,by simp [h2]⟩
 | .aG::r,k,x,h=>by simp only [bn] at h; obtain ⟨m5,h2⟩:=cD h; exact ⟨m5,by simp [h2]⟩
 | .fn _ _::r,k,x,h=>by simp only [bn] at h; obtain ⟨m5,h2⟩:=cD h; exact ⟨m5,by simp [h2]⟩
 | .sl _ _::r,k,x,h=>by simp only [bn] at h; obtain ⟨m5,h2⟩:=cD h; exact ⟨m5,by simp [h2]⟩
 | .at _ _::r,k,x,h=>by simp only [bn] at h; obtain ⟨m5,h2⟩:=cD h; exact ⟨m5,by simp [h2]⟩
 | .agg _::r,k,x,h=>by simp only [bn] at h; obtain ⟨m5,h2⟩:=cD h; exact ⟨m5,by simp [h2]⟩
 | .aw _ _::r,k,x,h=>by simp only [bn] at h; obtain ⟨m5,h2⟩:=cD h; exact ⟨m5,by simp [h2]⟩
 | .cB _::r,k,x,h=>by simp only [bn] at h; obtain ⟨m5,h2⟩:=cD h; exact ⟨m5,by simp [h2]⟩
 | .omap _ _::r,k,x,h=>by simp only [bn] at h; obtain ⟨m5,h2⟩:=cD h; exact ⟨m5,by simp [h2]⟩
theorem oN {ks:KS} {l:List DV} (fM:∀k x,DV.eW k x∈l→x.bl) {p:List PS} {n:DV} (h:get (.omap ks l) p=some n) (ho:n.ah=true):p=[]∧n=.omap ks l:=by
 cases p with
 | nil=>simp [get] at h; exact ⟨rfl,h.symm⟩
 | cons s p =>
  exfalso
  simp only [get] at h
  cases s with
  | el i j=>simp [step] at h
  | key k j =>
   simp only [step] at h
   cases hm:bn l k with
   | none=>rw [hm] at h; simp at h
   | some x =>
    rw [hm] at h
    simp only at h
    cases hc:x.cells[j]? with
    | none=>rw [hc] at h; simp at h
    | some c =>
     rw [hc] at h
     simp only at h
     obtain ⟨k',yl⟩:=cD hm
     have x4:c.ah=false:=fM k' x yl c (List.mem_of_getElem? hc)
     cases p with
     | nil=>simp [get] at h; subst h; rw [x4] at ho; cases ho
     | cons s' p =>
      simp only [get] at h
      cases c <;> simp [step] at h <;> cases x4
theorem Dg {P:Program} {f:Nat} (sj:gA P f)
  (hc:∀(b:Nat) (es:Array MapEntry) (clock:Nat) (w:World),w.heap[b]?=some (.map es clock)→Calls P f #[.map (some b)] w fun e w'=>e=.returned (.map (some w.heap.size))∧w'=w.alloc (.map es clock))
  {ks:KS} {l:List DV} (fM:∀k x,DV.eW k x∈l→x.bl) :
  aO P f [.own 0 0 0 []] 1 [(0,.tree 0 0 (.omap ks l))] 1 [.own 1 0 0 []] [(0,.tree 0 0 (.omap ks l)),(1,.tree 0 0 (.omap ks l))]:=by
 refine ⟨sj,fun w G vs oH ck hr=>?_⟩
 obtain ⟨v0,rfl⟩:∃v0,vs=[v0]:=by
  match vs,hr.1 with
  | [a],_=>exact ⟨a,rfl⟩
 have h0:=hr.2 0 _ v0 rfl rfl
 have hb:=ck.box 0
 have uX:aa [(0,ar.tree 0 0 (.omap ks l))] 0=.tree 0 0 (.omap ks l):=rfl
 rw [uX] at hb
 obtain ⟨ht,hi,Kz,sd⟩:=hb
 obtain ⟨u,hu,_,m0,pf,g0,es,clock,rfl,hw,aU,ak,c9,AI⟩:=ht.2 [] _ rfl rfl
 cases h0 with | own _ _ _ _ _ hh _ =>
 rw [show aB G.H 0 0 0 []=G.H 0 0 0 [] from rfl] at hu hh
 rw [hu] at hh; injection hh with hh; subst hh
 have dj:∀i,1≤i→aa [(0,ar.tree 0 0 (.omap ks l))] i=.none:=fun i hi=>by
  rw [show aa [(0,ar.tree 0 0 (.omap ks l))] i=(bif Nat.beq 0 i then ar.tree 0 0 (.omap ks l) else .none) from rfl,beq_false (by omega)]; rfl
 let g:dD:=⟨fun b=>∃i,bL G i (aa [(0,ar.tree 0 0 (.omap ks l))] i) b,w,G.M,1,G.β,fun i p=>G.H i 0 0 p⟩
 have L7:cf g 0 (fun _=>.any) (aa [(0,ar.tree 0 0 (.omap ks l))]) { tmps:=#[],defers:=[] } w G :=
  {fit:=ck,env:=fun t=>.any _,size:=rfl,x3:=fun _ _ _=>rfl,os:=rfl,tape:=rfl,output:=rfl,grow:=Nat.le_refl _,mem:=.refl G.M,lL:=fun _ _ _=>rfl,fE:=fun i b ho=>.inr ⟨i,ho⟩,jg:=fun _ _=>rfl,pH:=fun _ _ _ _ hx=>hx,nk:=oH,r8:=⟨[],rfl,List.nodup_nil,by simp⟩ }
 refine Calls.mono (hc g0 es clock w hw) ?_
 rintro e w' ⟨rfl,rfl⟩
 have wQ:aa [(0,ar.tree 0 0 (.omap ks l)),(1,ar.tree 0 0 (.omap ks l))]=gv (aa [(0,ar.tree 0 0 (.omap ks l))]) 1 (.tree 0 0 (.omap ks l)):=by
  funext i
  match i with
  | 0=>rfl
  | 1=>rfl
  | i+2=>rfl
 obtain ⟨G',g1,g2,g3,g4⟩:=L7.oO (κ':=gv (aa [(0,ar.tree 0 0 (.omap ks l))]) 1 (.tree 0 0 (.omap ks l))) (w':=w.alloc (.map es clock)) (i:=1) (d:=.omap ks l) (fun _=>False) (fun p=>if p=[] then some (.map (some w.heap.size)) else none) (fun h=>h)
  (dj 1 (Nat.le_refl _)) (fun _ h=>h.elim) (aZ _ _ _) (fun j hj _=>ae _ _ hj)
  ⟨rfl,fun p m hp ho=>by
   obtain ⟨rfl,rfl⟩:=oN fM hp ho
   refine ⟨_,by simp,rfl,m0,pf,w.heap.size,es,clock,rfl,bY w _,aU,ak,c9,fun j e he=>?_⟩
   obtain ⟨k,x,e1,e2,e3,e4,e5,e6⟩:=AI j e he
   refine ⟨k,x,e1,e2,e3,e4,e5,fun q d hd=>?_⟩
   obtain ⟨c1,u,c2,c3⟩:=e6 q d hd
   have Tu:d.ah=false:=fM k x (pf.mem_iff.1 (List.mem_of_getElem? e1)) d (List.mem_of_getElem? hd)
   rcases c3 with ⟨c3,_⟩ | ⟨_,c3⟩
   ·rw [Tu] at c3; cases c3
   ·exact ⟨c1,u,c2,.inr ⟨Tu,c3⟩⟩⟩
  (fun p q m m' u v b e1 e2 _ _ f1 f2 _ _=>by rw [(oN fM e1 e2).1,(oN fM f1 f2).1])
  (fun b ⟨p,m,v,h1,h2,h3,h4⟩=>by
   obtain ⟨rfl,rfl⟩:=oN fM h1 h2
   simp at h3; subst h3; simp [fj] at h4; exact .inl (by omega))
  (fun b hb _=>aV w _ hb) (by simp) rfl rfl rfl
 refine ⟨_,_,_,G',rfl,⟨rfl,rfl⟩,?_⟩
 rw [wQ]
 refine ⟨g4.fit,fun i hi=>?_,?_,g4.mem,g4.jg,g4.pH,fun b hb hO=>⟨g4.x3 b hb (fun ⟨i,h⟩=>hO i h),g4.lL b hb (fun ⟨i,h⟩=>hO i h)⟩,g4.fE,g4.os,g4.tape,g4.output,g4.grow⟩
 ·rw [ae _ _ (by omega)]; exact dj i (by omega)
 ·exact .own _ _ _ _ _ ((g3 []).trans (by simp)) rfl
end Go.TM
namespace Go.TM
open Go.RowKit
variable [cu]
inductive Dh:ar→ar→Prop
 | refl (b:ar):Dh b b
 | omap (v e:Nat) (ks:KS) {m m':List DV} (h:m.Perm m'):Dh (.tree v e (.omap ks m)) (.tree v e (.omap ks m'))
def px (k k':aj):Prop:=∀i,Dh (aa k i) (aa k' i)
theorem px.refl (k:aj):px k k:=fun _=>.refl _
theorem px.nil:px [] []:=px.refl _
theorem px.cons {i:Nat} {b b':ar} {k k':aj} (h:Dh b b') (t:px k k'):px ((i,b)::k) ((i,b')::k'):=fun j=>by
 simp only [aa]
 cases Nat.beq i j with
 | true=>exact h
 | false=>exact t j
theorem zp {ks:KS} {m m':List DV} (hu:UK m) (hp:m.Perm m') (s:PS) (r:List PS):get (.omap ks m) (s::r)=get (.omap ks m') (s::r):=by
 have hs:step (.omap ks m) s=step (.omap ks m') s:=by
  cases s with
  | el i j=>rfl
  | key k j=>simp only [step,hu.kT hp k]
 simp only [get,hs]
theorem sW {ks:KS} {m m':List DV} (hu:UK m) (hp:m.Perm m') {p:List PS} {n:DV} (h:get (.omap ks m) p=some n) (hn:n.ah=true):∃n',get (.omap ks m') p=some n'∧n'.ah=true:=by
 cases p with
 | nil=>exact ⟨_,rfl,rfl⟩
 | cons s r=>exact ⟨n,by rw [←zp hu hp]; exact h,hn⟩
theorem aX.H8 {M:Mem} {w:World} {H:List PS→Option Value} {ks:KS} {m m':List DV} (h:aX M w H (.omap ks m)) (hp:m.Perm m'):UK m∧aX M w H (.omap ks m'):=by
 obtain ⟨v,h1,h2,h3⟩:=h.2 [] _ rfl rfl
 have hu:=ca.uk h3
 refine ⟨hu,rfl,fun p n hg hn=>?_⟩
 cases p with
 | nil =>
  have hg:DV.omap ks m'=n:=by simpa [get] using hg
  subst hg
  obtain ⟨m0,q,rest⟩:=h3
  exact ⟨v,h1,h2,m0,q.trans hp,rest⟩
 | cons s r =>
  rw [←zp hu hp] at hg
  exact h.2 _ n hg hn
theorem aQ.H8 {H:List PS→Option Value} {ks:KS} {m m':List DV} (hu:UK m) (hp:m.Perm m') {b:Nat} (h:aQ H (.omap ks m) b):aQ H (.omap ks m') b:=by
 obtain ⟨p,n,v,h1,h2,h3,h4⟩:=h
 obtain ⟨n',e1,e2⟩:=sW hu hp h1 h2
 exact ⟨p,n',v,e1,e2,h3,h4⟩
theorem eY.Uv {G:Gh} {w:World} {i:Nat} {b c:ar} (h:eY G w i b) (p:Dh b c):eY G w i c∧∀x,bL G i c x ↔ bL G i b x:=by
 cases p with
 | refl=>exact ⟨h,fun _=>Iff.rfl⟩
 | omap v e ks hp =>
  obtain ⟨h1,h2,h3,h4⟩:=h
  obtain ⟨hu,ht⟩:=h1.H8 hp
  have TF:=hu.perm hp
  refine ⟨⟨ht,fun p q n m u v b e1 e2 e3 e4 e5 e6 e7 e8=>?_,h3,h4⟩,fun x=>⟨fun o=>aQ.H8 TF hp.symm o,fun o=>aQ.H8 hu hp o⟩⟩
  obtain ⟨n',a1,a2⟩:=sW TF hp.symm e1 e2
  obtain ⟨m',b1,b2⟩:=sW TF hp.symm e5 e6
  exact h2 p q n' m' u v b a1 a2 e3 e4 b1 b2 e7 e8
theorem FO {P:Program} {f:Nat} {args:List AV} {m:Nat} {K:aj} {ex:Nat} {rs:List AV} {K0:aj} (h:dR P f args m K ex fun r k=>r=rs∧px k K0):aO P f args m K ex rs K0:=by
 refine ⟨h.1,fun w G vs oH ck hr=>?_⟩
 refine Calls.mono (h.2 w G vs oH ck hr) ?_
 rintro e w' ⟨v,r,k,G',rfl,⟨rfl,hp⟩,hc⟩
 have hb:=fun i=>(hc.fit.box i).Uv (hp i)
 refine ⟨v,r,K0,G',rfl,⟨rfl,rfl⟩,{ hc with fit:=⟨hc.fit.sub,fun i=>(hb i).1,fun i b o=>hc.fit.own i b (((hb i).2 b).1 o),fun i j b o o'=>hc.fit.inj i j b (((hb i).2 b).1 o) (((hb j).2 b).1 o')⟩,no:=fun i hi=>?_,mY:=fun i b o=>hc.mY i b (((hb i).2 b).1 o) }⟩
 have h1:=hc.no i hi
 have h2:=hp i
 rw [h1] at h2
 generalize aa K0 i=c at h2
 cases h2
 rfl
end Go.TM
