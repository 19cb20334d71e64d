import Derived.Test.YtpbdohkbiklflaaGreatDoorFM18
import Derived.LoopNIn
import Derived.Test.YtpbdohkbiklflaaGreatDoorFM16
set_option linter.unusedVariables false
set_option linter.unusedSimpArgs false
set_option linter.unusedSectionVars false
namespace Go.TM
open Go.RowKit
variable [cu]
theorem r8:∀(env:Env),look env=aw (fun _=>.any) env
 | []=>rfl
 | (i,b)::K=>by
  funext t
  simp only [look,aw,gC,r8 K]
  by_cases h:t=i
  ·subst h; simp
  ·rw [if_neg h]; simp [beq_false h]
def HX (P:Program) (go:gK):Prop:=∀(r:Bool) (n:Nat) (c:Code) (s:XS) (e:AX) (s':XS),go r n c s=.ok (e,s')→∀(F:Fence),fU F→(r=true→F=Fence.wide)→∀(g:dw) (a:Act) (w:World) (R:Exit→Act→World→Prop),
 MR g n s a w→(∀a w,MR g n s' a w→R (rO e) a w)→c.wpIn F 0 P R a w
section
variable {P:Program} {T:List TI} {go:gK}
theorem vV (hT:ed P T) (Bf:HX P go) (dS:∀(g:Nat) (fn:Func),P.funcs[g]?=some fn→(fn.name == "runtime.NumGoroutine")=false) (f g:Nat):GF (dK P g) (B8 P T go f g):=by
 intro args m K r hx
 unfold B8 at hx
 obtain ⟨fn,hf,hx⟩:=ad hx
 obtain ⟨c,hb,hx⟩:=ad hx
 have hf:=aO hf
 have hb:=aO hb
 unfold OJ at hx
 obtain ⟨bM,hx⟩:=aA hx
 have hx:((go true fn.ntmps c (lD m (dR 0 args) K)).bind fun q=>Ew T f m fn q)=.ok r:=by
  unfold Sq at hx
  split at hx
  ·rename_i q hq; rw [hq]; exact hx
  ·cases hx
 obtain ⟨⟨e,s'⟩,bc,hx⟩:=ad hx
 refine ⟨⟨fn,hf,dS g fn hf,by rw [hb]; rfl⟩,fun w G vs ri cB hr=>?_⟩
 refine (fL.calls (n:=0)).1 (callsIn_of_wp_marks hf hb trivial ?_)
 simp only [Bool.and_eq_true,bh.wf] at bM
 obtain ⟨hlen,U1,XW⟩:=bM
 have hlen:vs.length≤fn.ntmps:=by rw [←hr.1]; exact Nat.le_of_ble_eq_true hlen
 let g0:dw:=⟨fun b=>∃i,bI G i (aa K i) b,w,G.M,m,G.β,fun i p=>G.H i 0 0 p⟩
 have aj:bX g0 fn.ntmps (look (dR 0 args)) (aa K) { tmps:=vs.toArray++Array.replicate (fn.ntmps - vs.toArray.size) undef,defers:=[] } w G:=by
  refine { fit:=cB,env:=fun t=>?_,size:=by simp; omega,x3:=fun _ _ _=>rfl,os:=rfl,tape:=rfl,output:=rfl,grow:=Nat.le_refl _,mem:=.refl G.M,mG:=fun _ _ _=>rfl,ga:=fun i b ho=>.inr ⟨i,ho⟩,jU:=fun _ _=>rfl,rp:=fun _ _ _ _ hx=>hx,ou:=ri,ru:=⟨[],rfl,List.nodup_nil,by simp⟩ }
  rw [mY]
  simp only [Nat.zero_le,if_true,Nat.sub_zero]
  split
  ·rename_i d hd
   have ht:t<vs.length:=by rw [←hr.1]; exact (List.getElem?_eq_some_iff.1 hd).1
   have hv:vs[t]?=some (vs[t]'ht):=List.getElem?_eq_getElem ht
   have:(vs.toArray++Array.replicate (fn.ntmps - vs.toArray.size) undef).getD t undef=vs[t]'ht:=by
    rw [Array.getD_eq_getD_getElem?,Array.getElem?_append_left (by simpa using ht)]
    simp [hv]
   rw [this]
   exact hr.2 t d _ hd hv
  ·exact .any _
 have Dz:MR g0 fn.ntmps (lD m (dR 0 args) K) { tmps:=vs.toArray++Array.replicate (fn.ntmps - vs.toArray.size) undef,defers:=[] } w:=by
  refine ⟨⟨G,?_⟩,Nat.le_refl _,?_⟩
  ·simp only [lD,gw,←r8,←fC]; exact aj
  ·simp only [lD,gw,←fC]; exact fun i hi=>mU U1 hi
 refine Bf true fn.ntmps c _ e s' bc Fence.wide fL (fun _=>rfl) g0 _ w _ Dz fun a w' hs=>?_
 obtain ⟨⟨G1,fT⟩,_⟩:=hs
 have fin:((B1 T s'.ρ s'.κ fn.results.toList).bind fun iW=>J7 f m s'.κ iW)=.ok r→LeavesInM Fence.wide 0 P fn a.tmps (fun e w'=>∃v rs K' G',e=.returned v∧(rs=r.1∧K'=r.2.1)∧JF m r.2.2 (aa K) w G rs (aa K') w' G' v) a.defers .returning w':=by
  intro rB
  obtain ⟨iW,h1,h2⟩:=ad rB
  obtain ⟨D,hD,_⟩:=fT.ru
  rw [hD]
  refine bX.leave (g:=g0) (n:=fn.ntmps) (ρ:=s'.ρ) (κ:=s'.κ) (G:=G1) a.tmps (fun w2 pd=>?_) D w' (by have:=fT; rw [←hD]; exact this)
  obtain ⟨X9,us,hq,JE,dt⟩:=tX hT pd (Ap (q:=fun l=>l=iW) h1 rfl)
  subst hq
  refine ⟨_,mZ JE,?_⟩
  obtain ⟨rs,K',G',e1,e2⟩:=bX.out (g:=g0) (m:=m) (K:=K) (w0:=w) (G0:=G) rfl pd h2 dt (v:=if h:us.toArray.size=1 then us.toArray[0] else .tuple us.toArray) (fun d u _ hu=>by subst hu; rfl) (fun bD=>by rw [dif_neg (by simpa using bD)])
  exact ⟨_,rs,K',G',rfl,e1,e2⟩
 unfold Ew at hx
 cases e with
 | normal=>exact fin hx
 | ret=>exact fin hx
 | exit i=>cases hx
theorem HY (Bf:HX P go) (f:Nat):GF (rE P) (Ex go f):=by
 intro args m K r hx
 unfold Ex at hx
 split at hx
 ·rename_i rc l h0
  unfold Kh at hx
  have hh:=aA hx; clear hx; obtain ⟨eQ,hx⟩:=hh
  have hh:=ad hx; clear hx; obtain ⟨⟨e1,s1⟩,Sw,hx⟩:=hh
  intro w G vs ri cB hr
  simp only [Bool.and_eq_true] at eQ
  obtain ⟨⟨⟨Vk,Cj⟩,Hy⟩,Ed⟩:=eQ
  have Vk:=Nat.eq_of_beq_eq_true Vk
  have Hy:0<m:=by simpa using Hy
  have hb:=cB.box 0
  rw [h0] at hb
  obtain ⟨b,fn,tmps,D,jd,hw,oI⟩:=hb
  have aT:tmps.size=l.length:=by have:=oI.1; simp at this; exact this.symm
  have Ya:vs.toArray.size=rc.ps.size:=by rw [List.size_toArray,←hr.1]; exact Vk
  refine ⟨b,jd,fn,_,rc.as,rc.bd,w,run_yield hw Ya,roundIn_of_wpIn trivial ?_⟩
  have Sx:(rc.ps.zip vs.toArray).foldl (fun tm (pv:Nat × Value)=>tm.setIfInBounds pv.1 pv.2) tmps=(rc.ps.toList.zip vs).foldl (fun tm (pv:Nat × Value)=>tm.setIfInBounds pv.1 pv.2) tmps:=by
   rw [←Array.foldl_toList,Array.toList_zip]
  have Qh:(rc.ps.zip vs.toArray).foldl (fun tmps (t,a)=>tmps.setIfInBounds t a) tmps=(rc.ps.toList.zip vs).foldl (fun tm (pv:Nat × Value)=>tm.setIfInBounds pv.1 pv.2) tmps:=Sx
  let g:dw:=⟨fun b=>∃i,bI G i (aa K i) b,w,G.M,m,G.β,fun i p=>G.H i 0 0 p⟩
  have JA:∀t,aE G (look (tJ 0 l) t) (tmps.getD t undef):=fun t=>by
   have:=ym l 0 t
   rw [Nat.zero_add] at this
   rw [this]
   split
   ·rename_i v hv
    have ht:t<tmps.size:=by rw [aT]; exact (List.getElem?_eq_some_iff.1 hv).1
    refine oI.2 t v _ hv ?_
    rw [Array.getD_eq_getD_getElem?,Array.getElem?_toList,Array.getElem?_eq_getElem ht]; rfl
   ·exact .any _
  have aj:bX g l.length (look (BX rc.ps.toList args (tJ 0 l))) (aa K) { tmps:=(rc.ps.toList.zip vs).foldl (fun tm (pv:Nat × Value)=>tm.setIfInBounds pv.1 pv.2) tmps,defers:=[] } w G :=
   {fit:=cB,env:=Gk (fun p hp=>by rw [aT]; exact yn Cj p hp) hr JA,size:=by rw [←aT]; exact HG _ _,x3:=fun _ _ _=>rfl,os:=rfl,tape:=rfl,output:=rfl,grow:=Nat.le_refl _,mem:=.refl G.M,mG:=fun _ _ _=>rfl,ga:=fun i b ho=>.inr ⟨i,ho⟩,jU:=fun _ _=>rfl,rp:=fun _ _ _ _ hx=>hx,ou:=ri,ru:=⟨[],rfl,List.nodup_nil,by simp⟩ }
  rw [Qh]
  have dm:∀i,m≤i→aa K i=.none:=fun i hi=>by
   rcases fJ (K:=K) (i:=i) with h' | h'
   ·exact h'
   ·have:=c9 Ed i (List.mem_map.2 ⟨_,h',rfl⟩); omega
  have Dz:MR g l.length (lD m (BX rc.ps.toList args (tJ 0 l)) K) { tmps:=(rc.ps.toList.zip vs).foldl (fun tm (pv:Nat × Value)=>tm.setIfInBounds pv.1 pv.2) tmps,defers:=[] } w:=by
   refine ⟨⟨G,?_⟩,Nat.le_refl _,?_⟩
   ·simp only [lD,gw,←r8,←fC]; exact aj
   ·simp only [lD,gw,←fC]; exact dm
  refine Bf false l.length rc.as _ e1 s1 Sw _ (wide_round b) (fun h=>by cases h) g _ w _ Dz fun a1 w1 hs=>?_
  cases e1 with
  | ret=>cases hx
  | exit i=>cases hx
  | normal =>
   simp only at hx
   unfold Gv at hx
   split at hx
   ·rename_i Zr l1 HD
    have hh:=ad hx; clear hx; obtain ⟨⟨e2,s2⟩,Sy,hx⟩:=hh
    obtain ⟨⟨G1,mw⟩,ED,Ht⟩:=hs
    have EE:G1.β 0=some b:=by rw [mw.jU 0 Hy]; exact jd
    obtain ⟨rr,xg,OL,OM,iU,_⟩:=mw.zY HD EE
    have Vl:=run_beginRound (P:=P) xg OL
    have ON:=iU .busy
    have Sz:({ rr with state:=Bc.busy.st,pending:=Bc.busy.DK }:Loop)={ rr with state:=.busy }:=by
     have:rr.pending=none:=OM
     simp only [Bc.st,Bc.DK,←this]
    rw [Sz] at ON
    refine ⟨_,Vl,?_⟩
    refine Bf false l.length rc.bd _ e2 s2 Sy _ (wide_round b) (fun h=>by cases h) g _ _ _ ⟨⟨G1,by simp only [px]; exact ON⟩,ED,fun i hi=>by
     have h1:m≤s1.nx:=ED
     have h2:s1.nx≤i:=hi
     simp only [px]
     rw [ae _ _ (by omega)]; exact Ht i hi⟩ fun a2 w2 nT=>?_
    unfold Gu at hx
    split at hx
    ·rename_i Zs l2 Aj
     obtain ⟨⟨G2,Em⟩,_,_⟩:=nT
     have SA:G2.β 0=some b:=by rw [Em.jU 0 Hy]; exact jd
     obtain ⟨r2,Qi,_,_,SB,_⟩:=Em.zY Aj SA
     have Gg:=SB (Oq e2)
     rw [px] at hx
     obtain ⟨rs,K',G',q1,q2⟩:=bX.out (g:=g) (m:=m) (K:=K) (w0:=w) (G0:=G) rfl Gg hx (us:=[.bool (Vg e2)]) ⟨rfl,fun j d v hd hv=>by
      cases j with
      | zero=>simp at hd hv; subst hd; subst hv; exact .dv (.bool _)
      | succ j=>simp at hd⟩ (v:=.bool (Vg e2)) (fun d u _ hu=>by injection hu) (fun bD=>absurd rfl bD)
     have pf:=run_endRound (P:=P) (nS e2) Qi
     cases e2 with
     | normal=>exact ⟨_,_,pf,_,rs,K',G',rfl,q1,q2⟩
     | ret=>exact ⟨_,_,pf,_,rs,K',G',rfl,q1,q2⟩
     | exit i=>exact ⟨_,_,pf,_,rs,K',G',rfl,q1,q2⟩
    ·cases hx
   ·cases hx
 ·cases hx
end
end Go.TM
namespace Go.TM
open Go.RowKit
variable [cu]
section
variable {P:Program} {T:List TI} {go:gK}
theorem vW (hT:ed P T) (Bf:HX P go) (dS:∀(g:Nat) (fn:Func),P.funcs[g]?=some fn→(fn.name == "runtime.NumGoroutine")=false) {fuel n nx:Nat} {ρ:Nat→AV} {κ:Nat→ao} {x:Operand} {ps:Array Tmp} {as bd:Code} {f:Nat} {br:List AV} {e:AX} {s':XS}
  (h:tZ P T go fuel nx ρ (Ma κ nx (.eA ⟨ps,as,bd⟩ .ready (bt ρ 0 n))) f br=.ok (e,s')) {g:dw} {a:Act} {w:World} {R:Exit→Act→World→Prop} {G:Gh} (aj:bX g n ρ κ a w G) (dg:g.m≤nx) (hn:∀i,nx≤i→κ i=.none)
  {vs:List Value} (hx:a.eval x=.func (.func f) #[] vs.toArray) (oI:bR G br vs) (hR:∀a w,MR g n s' a w→R (rO e) a w):(Code.rangeFunc x ps as bd).wpIn Fence.wide 0 P R a w:=by
 rw [px] at h
 generalize hκ1:gC κ nx (.eA ⟨ps,as,bd⟩ .ready (bt ρ 0 n))=κ1 at h
 unfold tZ at h
 obtain ⟨q,hq,h⟩:=ad h
 unfold qC Eu Et at hq
 generalize B0 κ1 fuel (Vh none++AV.rU (.fw nx::br)) []=σ at hq
 obtain ⟨eQ,hq⟩:=aA hq
 obtain ⟨r,jZ,hq⟩:=ad hq
 unfold Es at hq
 obtain ⟨Rs,hq⟩:=aA hq
 injection hq with hq; subst hq
 have cL:=vV hT Bf dS fuel f _ _ _ r jZ
 simp only [Bool.and_eq_true] at eQ
 refine wpIn_rangeFunc fun fn _=>?_
 obtain ⟨mw,hle⟩:=aj.enterLoop (hn nx (Nat.le_refl _)) dg ⟨ps,as,bd⟩ fn
 rw [hκ1] at mw
 have Em:=mw.upto (nx+1)
 have zk:∀i,i<g.m→gC G.β nx (some (w.heap.size+1)) i=g.β i:=fun i hi=>by rw [ae _ _ (by omega)]; exact aj.jU i hi
 have Ht:∀i,nx+1≤i→κ1 i=.none:=fun i hi=>by rw [←hκ1,ae _ _ (by omega)]; exact hn i (by omega)
 have dt:bR { G with β:=gC G.β nx (some (w.heap.size+1)) } (.fw nx::br) (.func (.yield (w.heap.size+1)) #[] #[]::vs):=by
  have h1:bR { G with β:=gC G.β nx (some (w.heap.size+1)) } [.fw nx] [.func (.yield (w.heap.size+1)) #[] #[]] :=
   ⟨rfl,fun j d v hd hv=>by
    cases j with
    | zero=>simp at hd hv; subst hd; subst hv; exact .fw nx _ (aX _ _ _)
    | succ j=>simp at hd⟩
  exact h1.append (oI.mono hle)
 obtain ⟨β,_,bc⟩:=lz (hd:=none) (nx:=nx+1) (κ:=κ1) (jB P f) cL.2 Ht (by simp only [Bool.and_eq_true]; exact ⟨eQ.1.1,rfl⟩) (oa _) (vQ σ [] rfl) (fun rs K1 hr=>by obtain ⟨rfl,rfl⟩:=hr; exact Rs) (qA eQ.2) (Nat.le_refl _) Em dt (fun _ _=>rfl)
 refine ⟨w.heap.size+1,[mark w.heap.size],((w.alloc (.deferred (some []))).alloc (.loop { state:=.ready,pending:=none,fn:=fn,tmps:=a.tmps,params:=ps,assign:=as,body:=bd,defers:=w.heap.size })),⟨.fn (.func f) vs.toArray,#[.func (.yield (w.heap.size+1)) #[] #[]]⟩,((w.alloc (.deferred (some []))).alloc (.loop { state:=.ready,pending:=none,fn:=fn,tmps:=a.tmps,params:=ps,assign:=as,body:=bd,defers:=w.heap.size })),f,(Value.func (.yield (w.heap.size+1)) #[] #[]::vs).toArray,((w.alloc (.deferred (some []))).alloc (.loop { state:=.ready,pending:=none,fn:=fn,tmps:=a.tmps,params:=ps,assign:=as,body:=bd,defers:=w.heap.size })),run_enterLoop_outer fn a.tmps ps as bd,?_,fun _ _=>trivial,?_,(fun h=>by cases h),?_⟩
 ·have h0:(#[]++Array.map a.eval #[Operand.const (Value.func (Fn.yield (w.heap.size+1)) #[] #[])])=#[Value.func (Fn.yield (w.heap.size+1)) #[] #[]]:=by simp [Act.eval]
  simp only [resolve,rangeCall,hx,Deferred.ofValue,Sem.run_pure]
  rw [h0]
 ·have:(#[Value.func (.yield (w.heap.size+1)) #[] #[]]++vs.toArray)=(Value.func (.yield (w.heap.size+1)) #[] #[]::vs).toArray:=by simp
  simp only [invoke]
  rw [this]
  exact gf cL.1 _ _
 ·refine (fL.calls).2 (Calls.mono bc ?_)
  rintro e2 w2 ⟨v,rs,K2,G3,rfl,⟨rfl,rfl⟩,Gg,_⟩
  have x4:∀i,nx+1+r.2.2≤i→aw κ1 (bU (sg σ (nx+1)) (jw κ1 σ) r.2.1++jS κ1 (dz κ1 (dE (sg σ (nx+1)) dA (HI κ1 σ (.fw nx::br))) (.fw nx::br)++eg κ1 (bU (sg σ (nx+1)) dA (P3 κ1 σ 0 σ)))) i=.none:=by
   refine nr Ht (Nat.le_add_right _ _) fun p hp=>?_
   have Ei:lx (σ.length+r.2.2) r.2.1=true:=by
    have:=Rs
    simp only [gk,Bool.and_eq_true] at this
    exact this.1.1.2
   have hσ1:∀i,i∈σ→i<nx+1:=by
    have:=eQ.1.1
    simp only [gV,Bool.and_eq_true] at this
    exact (gP this.1.1.1.1.1.1).1
   rcases List.mem_append.1 hp with hp | hp
   ·obtain ⟨j,h1,h2⟩:=kE (i:=p.1) (b:=p.2) hp
    have hj:=c9 Ei j h1
    rw [h2]
    rcases Nat.lt_or_ge j σ.length with aK | dk
    ·have:=hσ1 _ (by rw [iJ aK]; exact List.getElem_mem aK:sg σ (nx+1) j∈σ); omega
    ·rw [ie dk]; omega
   ·have:=rC Ht hp; omega
  unfold Gy at h
  simp only [gw] at h
  generalize hκ3:aw κ1 (bU (sg σ (nx+1)) (jw κ1 σ) r.2.1++jS κ1 (dz κ1 (dE (sg σ (nx+1)) dA (HI κ1 σ (.fw nx::br))) (.fw nx::br)++eg κ1 (bU (sg σ (nx+1)) dA (P3 κ1 σ 0 σ))))=κ3 at *
  have xe:G3.β nx=some (w.heap.size+1):=(Gg.jU nx (Nat.lt_succ_self nx)).trans (aX _ _ _)
  have fin:∀(DC:RC) (st:Bc) (l:List AV),κ3 nx=.eA DC st l→st.st ≠ .busy→st.DK=nS e→s'=⟨nx+1+r.2.2,ρ,Ma κ3 nx .dead⟩→rangePost Fence.wide 0 P (w.heap.size+1) R { a with defers:=[mark w.heap.size]++a.defers } (.returned v) w2:=by
   intro DC st l hk hb hp dB
   obtain ⟨rr,h1,h2,h3,_,JW⟩:=Gg.zY hk xe
   have Vb:=(JW (.loop { rr with state:=.exhausted })).JV (Nat.le_succ_of_le dg) zk
   have Vc:MR g n s' { a with defers:=[mark w.heap.size]++a.defers } (w2.putObj (w.heap.size+1) (.loop { rr with state:=.exhausted })):=by
    subst dB
    exact ⟨⟨G3,by simp only [px]; exact Vb⟩,by show g.m≤nx+1+r.2.2; omega,fun i hi=>by
     have tF:nx+1+r.2.2≤i:=hi
     simp only [px]; rw [ae _ _ (by omega)]; exact x4 i tF⟩
   have my:=hR _ _ Vc
   refine ⟨rr.pending,_,run_endLoop h1 (by rw [h2]; exact hb),?_⟩
   have Be:rr.pending=nS e:=h3.trans hp
   rw [Be] at my
   rw [Be]
   cases e with
   | normal=>exact my
   | ret=>exact wpIn_ret my
   | exit i=>exact wpIn_exit my
  unfold yu at h
  split at h
  ·rename_i DC st l hk
   split at h
   ·injection h with h
    injection h with h1 h2
    exact fin DC .ready l hk (by simp [Bc.st]) (by rw [←h1]; rfl) h2.symm
   ·rename_i e'
    injection h with h
    injection h with h1 h2
    exact fin DC (.done e') l hk (by simp [Bc.st]) (by rw [←h1]; rfl) h2.symm
   ·cases h
  ·cases h
theorem HZ (hT:ed P T) (hm:P.follows .mixedOrders=true) (dS:∀(g:Nat) (fn:Func),P.funcs[g]?=some fn→(fn.name == "runtime.NumGoroutine")=false) (pol:Nat→Bool) (f:Nat) (Bf:HX P go):HX P (fD P T pol f go):=by
 intro r n c s e s' h F hF hr g a w R hs hR
 have cC:∀(ops:List Oper) (d:Bool),Ao P (fun _=>True) ops n (B6 T pol (Ki P T go f d) ops n):=fun ops d=>Kt hT (fun g=>vV hT Bf dS f g) (HY Bf f) (aq P)
 cases c with
 | skip =>
  simp only [fD] at h
  injection h with h; injection h with h1 h2; subst h1; subst h2
  exact wpIn_skip (hR a w hs)
 | region id ops draw =>
  simp only [fD] at h
  cases draw with
  | false =>
   simp only [cond_false,Gw] at h
   obtain ⟨s1,h1,h⟩:=ad h
   injection h with h; injection h with e1 e2; subst e1; subst e2
   refine wpIn_region_list ?_
   have:=vU (P:=P) (ops:=ops.toList) (g:=g) (Q:=R) (cC ops.toList false) trivial hF hR ops.toList s a w h1 hs
   simpa using this
  | true =>
   simp only [cond_true,B9] at h
   obtain ⟨⟨s1,rs⟩,h1,h⟩:=ad h
   obtain ⟨lu,h⟩:=aA h
   injection h with h; injection h with e1 e2; subst e1; subst e2
   refine wpIn_region_any hm ?_
   obtain ⟨hlen,tQ,hn,he,hk,db⟩:=tg (P:=P) (n:=n) (cC ops.toList true) (ρ0:=s.ρ) (κ0:=s.κ) (lo:=s.nx) ops.toList [] s [] rfl rfl (Nat.le_refl _) hs.2.2 rfl rfl (by simp) h1
   have pg:(fun i=>(Array.replicate ops.size false).getD i false)=fun _=>false:=by
    funext i
    simp only [Array.getD_eq_getD_getElem?,Array.getElem?_replicate]
    split <;> rfl
   have zS:St g n s.ρ s.κ a { w with drawn:=w.drawn+1 }:=by
    obtain ⟨G,h1⟩:=hs.1
    exact ⟨G,h1.drawn _⟩
   have:=yd (P:=P) (C:=fun _=>True) (ops:=ops.toList) (n:=n) (g:=g) (Q:=R) trivial hF hs.2.1 lu hlen db (fun a w aj=>hR a w ⟨by rw [he,hk]; exact aj,Nat.le_trans hs.2.1 tQ,hn⟩) ops.size (Array.replicate ops.size false) a { w with drawn:=w.drawn+1 } (by simp)
    (by have:=tU (fun i=>(Array.replicate ops.size false).getD i false) ops.toList.length; simpa using this)
    (fun i o _ hi=>by rw [congrFun pg i] at hi; cases hi)
    (by rw [pg,jx,jx]; exact zS)
   simpa using this
 | seq x y =>
  simp only [fD] at h
  obtain ⟨⟨e1,s1⟩,h1,h⟩:=ad h
  refine wpIn_seq (Bf r n x s e1 s1 h1 F hF hr g a w _ hs fun a1 w1 eZ=>?_)
  unfold Sr at h
  cases e1 with
  | normal=>exact Bf r n y s1 e s' h F hF hr g a1 w1 _ eZ hR
  | ret=>simp only at h; injection h with h; injection h with q1 q2; subst q1; subst q2; exact hR a1 w1 eZ
  | exit i=>simp only at h; injection h with h; injection h with q1 q2; subst q1; subst q2; exact hR a1 w1 eZ
 | cond x y z =>
  simp only [fD] at h
  obtain ⟨t,h1,h⟩:=ad h
  have ht:=gR (aO h1)
  obtain ⟨G,aj⟩:=hs.1
  have hv:=x9 (ρ:=s.ρ) (κ:=s.κ) (x:=x) s.ρ s.κ ⟨fun _ _=>rfl,fun _ _=>rfl⟩ g n a w G aj
  rw [ht] at hv
  generalize hx:a.eval x=v at hv
  cases hv with | dv hv=>cases hv with | bool =>
  refine wpIn_cond_split hx (fun et=>?_) (fun et=>?_)
  ·subst et; exact Bf r n y s e s' h F hF hr g a w _ hs hR
  ·subst et; exact Bf r n z s e s' h F hF hr g a w _ hs hR
 | block id c =>
  simp only [fD] at h
  obtain ⟨⟨e1,s1⟩,h1,h⟩:=ad h
  refine wpIn_block (Bf r n c s e1 s1 h1 F hF hr g a w _ hs fun a1 w1 eZ=>?_)
  unfold Kj at h
  cases e1 with
  | normal=>simp only at h; injection h with h; injection h with q1 q2; subst q1; subst q2; exact hR a1 w1 eZ
  | ret=>simp only at h; injection h with h; injection h with q1 q2; subst q1; subst q2; exact hR a1 w1 eZ
  | exit i =>
   simp only at h
   simp only [rO,Exit.inBlock]
   cases hb:Nat.beq i id with
   | true =>
    rw [hb] at h
    simp only [cond_true] at h
    injection h with h; injection h with q1 q2; subst q1; subst q2
    rw [if_pos (Nat.eq_of_beq_eq_true hb)]; exact hR a1 w1 eZ
   | false =>
    rw [hb] at h
    simp only [cond_false] at h
    injection h with h; injection h with q1 q2; subst q1; subst q2
    rw [if_neg (fun e=>by rw [e,Nat.beq_refl] at hb; cases hb)]
    exact hR a1 w1 eZ
 | exit id =>
  simp only [fD] at h
  injection h with h; injection h with h1 h2; subst h1; subst h2
  exact wpIn_exit (hR a w hs)
 | ret =>
  simp only [fD] at h
  injection h with h; injection h with h1 h2; subst h1; subst h2
  exact wpIn_ret (hR a w hs)
 | scope c =>
  simp only [fD] at h
  refine vk (Bf r n c s e s' h F hF hr g a w _ hs fun a1 w1 eZ=>?_)
  cases e with
  | normal=>exact hR a1 w1 eZ
  | ret=>exact hR a1 w1 eZ
  | exit i=>exact hR a1 w1 eZ
 | label l =>
  simp only [fD] at h
  injection h with h; injection h with h1 h2; subst h1; subst h2
  exact wpIn_label (hR a w hs)
 | loop c =>
  simp only [fD] at h
  have key:∀(k:Nat) (s:XS) (a:Act) (w:World),Gx go r n c k s=.ok (e,s')→MR g n s a w→Code.roundsIn F 0 P c R k a w:=by
   intro k
   induction k with
   | zero=>intro s a w h; cases h
   | succ k ih =>
    intro s a w h hs
    simp only [Gx] at h
    obtain ⟨⟨e1,s1⟩,h1,h⟩:=ad h
    refine Bf r n c s e1 s1 h1 F hF hr g a w _ hs fun a1 w1 eZ=>?_
    cases e1 with
    | normal=>exact ih s1 a1 w1 h eZ
    | ret=>simp only at h; injection h with h; injection h with q1 q2; subst q1; subst q2; exact hR a1 w1 eZ
    | exit i=>simp only at h; injection h with h; injection h with q1 q2; subst q1; subst q2; exact hR a1 w1 eZ
  exact wpIn_loop_rounds f (key f s a w h hs)
 | rangeFunc x ps as bd =>
  simp only [fD] at h
  have hh:=aA h; clear h; obtain ⟨UY,h⟩:=hh
  have Yb:=hr UY
  subst Yb
  obtain ⟨⟨G,aj⟩,dg,hn⟩:=hs
  have hv:=x9 (ρ:=s.ρ) (κ:=s.κ) (x:=x) s.ρ s.κ ⟨fun _ _=>rfl,fun _ _=>rfl⟩ g n a w G aj
  unfold Kk Gz at h
  generalize ev s.ρ s.κ x=vx at h hv
  generalize hx:a.eval x=y at hv
  split at h
  ·cases hv with | fn _ _ vs hl D9=>exact vW hT Bf dS h aj dg hn hx ⟨hl,D9⟩ hR
  ·split at h
   ·cases hv with | dv hd=>cases hd with | fn _ _ vs hl D9=>exact vW hT Bf dS h aj dg hn hx (gN ⟨hl,D9⟩) hR
   ·cases h
  ·cases h
 | goto l=>simp [fD] at h
 | refuse w=>simp [fD] at h
theorem Ck (hT:ed P T) (hm:P.follows .mixedOrders=true) (dS:∀(g:Nat) (fn:Func),P.funcs[g]?=some fn→(fn.name == "runtime.NumGoroutine")=false) (pol:Nat→Bool):∀f,HX P (Kl P T pol f)
 | 0=>by intro r n c s e s' h; cases h
 | f+1=>HZ hT hm dS pol f (Ck hT hm dS pol f)
theorem H0 (hT:ed P T) (hm:P.follows .mixedOrders=true) (dS:∀(g:Nat) (fn:Func),P.funcs[g]?=some fn→(fn.name == "runtime.NumGoroutine")=false) {pol:Nat→Bool} {f g:Nat} {args:List AV} {m:Nat} {K:ah} {rs:List AV} {K':ah} {ex:Nat} (h:P8 P T pol f g args m K=.ok (rs,K',ex)):bn P g args m K ex rs K' :=
 vV hT (Ck hT hm dS pol f) dS f g args m K (rs,K',ex) h
end
end Go.TM
namespace Go.TM
open Go.RowKit
variable [cu]
def Vm (r:XR (List AV × ah × Nat)):Option (List DV):=match r with
 | .ok q=>match r9 (aa q.2.1) q.1 with
  | some p=>some p.1
  | none=>none
 | .no _=>none
section
variable {P:Program} {T:List TI}
theorem Kv {G:Gh} {ds:List DV} {vs:List Value} (h:eM G.M ds vs):bR G (Aq ds) vs:=by
 refine ⟨by rw [ub]; simpa using h.1,fun j d v hd hv=>?_⟩
 rw [ub,List.getElem?_map] at hd
 cases hj:ds[j]? with
 | none=>rw [hj] at hd; cases hd
 | some x =>
  rw [hj] at hd
  simp only [Option.map_some,Option.some.injEq] at hd
  subst hd
  exact n6 (h.2 j x v hj hv)
theorem sb (hT:ed P T) (hm:P.follows .mixedOrders=true) (dS:∀(g:Nat) (fn:Func),P.funcs[g]?=some fn→(fn.name == "runtime.NumGoroutine")=false) {pol:Nat→Bool} {fuel f:Nat} {args rs:List DV} (h:Vm (P8 P T pol fuel f (Aq args) 0 [])=some rs):ct P f args rs:=by
 cases hx:P8 P T pol fuel f (Aq args) 0 [] with
 | no y=>rw [hx] at h; simp [Vm] at h
 | ok r =>
  obtain ⟨Zt,K',ex⟩:=r
  rw [hx] at h
  simp only [Vm] at h
  split at h
  ·rename_i p hp
   obtain ⟨ds,ids⟩:=p
   injection h with h
   subst h
   have hc:=H0 hT hm dS hx
   obtain ⟨jZ,cL⟩:=hc
   refine ⟨jZ,fun w M vs ek ri hr=>?_⟩
   let G0:Gh:=⟨M,fun _=>none,fun _ _ _ _=>none,fun _ _=>False⟩
   have hc:=cL w G0 vs ri ⟨ek,fun i=>⟨rfl,fun _ _ _=>rfl⟩,fun i b ho=>ho.elim,fun i j b ho=>ho.elim⟩ (Kv (G:=G0) hr)
   refine hc.mono ?_
   rintro e w' ⟨v,WK,K1,G',rfl,⟨rfl,rfl⟩,out⟩
   have dm:∀i b,bI G' i (aa K1 i) b→w.heap.size≤b:=fun i b ho=>by
    rcases out.m8 i b ho with h | ⟨j,h⟩
    ·exact h
    ·exact h.elim
   let g:dw:=⟨fun b=>∃i,bI G' i (aa K1 i) b,w',G'.M,0,fun _=>none,fun _ _=>none⟩
   have aj:bX g 0 (fun _=>.any) (aa K1) { tmps:=#[],defers:=[] } w' G':=by
    refine { fit:=out.fit,env:=fun t=>.any _,size:=rfl,x3:=fun _ _ _=>rfl,os:=rfl,tape:=rfl,output:=rfl,grow:=Nat.le_refl _,mem:=.refl _,mG:=fun _ _ _=>rfl,ga:=fun i b ho=>.inr ⟨i,ho⟩,jU:=fun i hi=>absurd hi (Nat.not_lt_zero _),rp:=fun i hi=>absurd hi (Nat.not_lt_zero _),ou:=ri.mono out.le,ru:=⟨[],rfl,List.nodup_nil,by simp⟩ }
   obtain ⟨G2,hle,_,_,_,hZ⟩:=aj.nV (κ:=aa K1) ids (fun _ _=>rfl)
   refine ⟨v,G2.M,rfl,⟨out.os,out.tape,out.output,out.size,fun b hb=>(out.frame b hb (fun i h=>h.elim)).1⟩,out.le.trans hle.mem,hZ.fit.sub,fun b hb=>?_,?_⟩
   ·have cw:b<w'.heap.size:=Nat.lt_of_lt_of_le hb out.size
    have e1:G2.M b=G'.M b:=hZ.mG b cw fun ⟨i,ho⟩=>by have:=dm i b ho; omega
    rw [e1]
    exact (out.frame b hb (fun i h=>h.elim)).2
   ·have key:∀us,bR G' WK us→eM G2.M ds us:=fun us hu=>iS (κ:=aa K1) (κ':=aa K1) (all:=ids) (fun _ _=>rfl) hle hZ.fit hp (fun _ h=>h) hu
    have hv:=out.res
    match WK,hv,key with
    | [],hv,key =>
     cases hv with | eL _ us hl hr =>
     have hd:=key us ⟨hl,hr⟩
     have:us=[]:=by simpa using hl.symm
     subst this
     have:ds=[]:=by have:=hd.1; simpa using this
     subst this
     exact ⟨[],rfl,hd⟩
    | [x],hv,key =>
     have hd:=key [v] ⟨rfl,fun j d u h1 h2=>by
      cases j with
      | zero=>simp at h1 h2; subst h1; subst h2; exact hv
      | succ j=>simp at h1⟩
     match ds,hd with
     | [],hd=>have:=hd.1; simp at this
     | [d],hd=>exact hd.2 0 d v rfl rfl
     | _::_::_,hd=>have:=hd.1; simp at this
    | x::y::r,hv,key =>
     cases hv with | eL _ us hl hr =>
     have hd:=key us ⟨hl,hr⟩
     have h2:ds.length=us.length:=hd.1
     match ds,hd,h2 with
     | [],hd,h2=>exfalso; rw [←h2] at hl; simp at hl
     | [d],hd,h2=>exfalso; rw [←h2] at hl; simp at hl
     | a::b::c,hd,h2=>exact ⟨us,rfl,hd⟩
  ·cases h
end
end Go.TM
namespace Go.TM
open Go.RowKit
variable [cu]
end Go.TM
namespace Go.TM
open Go.RowKit
variable [cu]
inductive Cl:ao→ao→Prop
 | refl (b:ao):Cl b b
 | omap (v e:Nat) (ks:KS) {m m':List DV} (h:m.Perm m'):Cl (.tree v e (.omap ks m)) (.tree v e (.omap ks m'))
def oO (k k':ah):Prop:=∀i,Cl (aa k i) (aa k' i)
theorem oO.refl (k:ah):oO k k:=fun _=>.refl _
theorem oO.nil:oO [] []:=oO.refl _
theorem oO.cons {i:Nat} {b b':ao} {k k':ah} (h:Cl b b') (t:oO k k'):oO ((i,b)::k) ((i,b')::k'):=fun j=>by
 simp only [aa]
 cases Nat.beq i j with
 | true=>exact h
 | false=>exact t j
theorem yC {ks:KS} {m m':List DV} (hu:UK m) (hp:m.Perm m') (s:PS) (r:List PS):get (.omap ks m) (s::r)=get (.omap ks m') (s::r):=by
 have hs:step (.omap ks m) s=step (.omap ks m') s:=by
  cases s with
  | el i j=>rfl
  | key k j=>simp only [step,hu.kq hp k]
 simp only [get,hs]
theorem sd {ks:KS} {m m':List DV} (hu:UK m) (hp:m.Perm m') {p:List PS} {n:DV} (h:get (.omap ks m) p=some n) (hn:n.af=true):∃n',get (.omap ks m') p=some n'∧n'.af=true:=by
 cases p with
 | nil=>exact ⟨_,rfl,rfl⟩
 | cons s r=>exact ⟨n,by rw [←yC hu hp]; exact h,hn⟩
theorem aU.GH {M:Mem} {w:World} {H:List PS→Option Value} {ks:KS} {m m':List DV} (h:aU M w H (.omap ks m)) (hp:m.Perm m'):UK m∧aU M w H (.omap ks m'):=by
 obtain ⟨v,h1,h2,h3⟩:=h.2 [] _ rfl rfl
 have hu:=bV.uk h3
 refine ⟨hu,rfl,fun p n hg hn=>?_⟩
 cases p with
 | nil =>
  have hg:DV.omap ks m'=n:=by simpa [get] using hg
  subst hg
  obtain ⟨m0,q,rest⟩:=h3
  exact ⟨v,h1,h2,m0,q.trans hp,rest⟩
 | cons s r =>
  rw [←yC hu hp] at hg
  exact h.2 _ n hg hn
theorem aP.GH {H:List PS→Option Value} {ks:KS} {m m':List DV} (hu:UK m) (hp:m.Perm m') {b:Nat} (h:aP H (.omap ks m) b):aP H (.omap ks m') b:=by
 obtain ⟨p,n,v,h1,h2,h3,h4⟩:=h
 obtain ⟨n',e1,e2⟩:=sd hu hp h1 h2
 exact ⟨p,n',v,e1,e2,h3,h4⟩
theorem fI.SC {G:Gh} {w:World} {i:Nat} {b c:ao} (h:fI G w i b) (p:Cl b c):fI G w i c∧∀x,bI G i c x ↔ bI G i b x:=by
 cases p with
 | refl=>exact ⟨h,fun _=>Iff.rfl⟩
 | omap v e ks hp =>
  obtain ⟨h1,h2,h3,h4⟩:=h
  obtain ⟨hu,ht⟩:=h1.GH hp
  have RG:=hu.perm hp
  refine ⟨⟨ht,fun p q n m u v b e1 e2 e3 e4 e5 e6 e7 e8=>?_,h3,h4⟩,fun x=>⟨fun o=>aP.GH RG hp.symm o,fun o=>aP.GH hu hp o⟩⟩
  obtain ⟨n',a1,a2⟩:=sd RG hp.symm e1 e2
  obtain ⟨m',b1,b2⟩:=sd RG hp.symm e5 e6
  exact h2 p q n' m' u v b a1 a2 e3 e4 b1 b2 e7 e8
theorem EF {P:Program} {f:Nat} {args:List AV} {m:Nat} {K:ah} {ex:Nat} {rs:List AV} {K0:ah} (h:dK P f args m K ex fun r k=>r=rs∧oO k K0):bn P f args m K ex rs K0:=by
 refine ⟨h.1,fun w G vs ri cB hr=>?_⟩
 refine Calls.mono (h.2 w G vs ri cB hr) ?_
 rintro e w' ⟨v,r,k,G',rfl,⟨rfl,hp⟩,hc⟩
 have hb:=fun i=>(hc.fit.box i).SC (hp i)
 refine ⟨v,r,K0,G',rfl,⟨rfl,rfl⟩,{ hc with fit:=⟨hc.fit.sub,fun i=>(hb i).1,fun i b o=>hc.fit.own i b (((hb i).2 b).1 o),fun i j b o o'=>hc.fit.inj i j b (((hb i).2 b).1 o) (((hb j).2 b).1 o')⟩,no:=fun i hi=>?_,m8:=fun i b o=>hc.m8 i b (((hb i).2 b).1 o) }⟩
 have h1:=hc.no i hi
 have h2:=hp i
 rw [h1] at h2
 generalize aa K0 i=c at h2
 cases h2
 rfl
end Go.TM
