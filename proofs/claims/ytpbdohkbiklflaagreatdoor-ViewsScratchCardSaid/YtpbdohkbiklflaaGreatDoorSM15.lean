import Derived.Test.YtpbdohkbiklflaaGreatDoorSM14
import Derived.RangeFuncRecord
set_option linter.unusedVariables false
set_option linter.unusedSimpArgs false
set_option linter.unusedSectionVars false
namespace Go.TM
open Go.RowKit
variable [cj]
def qH:Nat→List DV→Env
 | _,[]=>[]
 | i,d::r=>(i,wc d)::qH (i+1) r
def Kn (T:List TI) (ρ:Nat→AV) (κ:Nat→ak):ResultVar→(DV→Prop)→Prop
 | .tmp t,k=>match toArg κ (ρ t) with
  | some (d,_)=>k d
  | none=>False
 | .cell t ty,k=>bif (nth T ty).ok then match res κ (ρ t) with
  | .ptr i off=>match κ i with
   | .cells l=>bR (nth T ty).agg l off (nth T ty).size fun v=>match toArg κ v with
    | some (d,_)=>k d
    | none=>False
   | _=>False
  | _=>False
  else False
def Ak (T:List TI) (ρ:Nat→AV) (κ:Nat→ak):List ResultVar→List DV→Prop
 | [],[]=>True
 | v::r,d::ds=>Kn T ρ κ v (fun d'=>d'.Le d)∧Ak T ρ κ r ds
 | _,_=>False
def dJ:Nat→List AV→Env
 | _,[]=>[]
 | i,v::r=>(i,v)::dJ (i+1) r
def yp (T:List TI) (ρ:Nat→AV) (κ:Nat→ak):List ResultVar→(List AV→Prop)→Prop
 | [],k=>k []
 | .tmp t::r,k=>force (res κ (ρ t)) fun v=>yp T ρ κ r fun l=>k (v::l)
 | .cell t ty::r,k=>bif (nth T ty).ok then match res κ (ρ t) with
  | .ptr i off=>match κ i with
   | .cells l=>bR (nth T ty).agg l off (nth T ty).size fun v=>yp T ρ κ r fun l=>k (v::l)
   | _=>False
  | _=>False
  else False
def yq (m ex:Nat) (κ:Nat→ak) (iA rs:List AV) (K':af):Bool :=
 L5 (m+ex) (aa K') K' && AV.D5 (aa K') rs && yj (aa K') (di κ rs iA++dX κ K') && tO κ (aa K') m
def Hs (T:List TI) (fn:Func) (m ex:Nat) (R:List AV→af→Prop) (env:Env) (K:af):Prop :=
 yp T (look env) (aa K) fn.results.toList fun iA=>∃rs K',R rs K'∧yq m ex (aa K) iA rs K'=true∧dW m (aa K) (aa K') rs iA∧om m (aa K) (aa K') K'
def tT (T:List TI) (fn:Func) (m ex:Nat) (R:List AV→af→Prop) (e:AX) (_nx:Nat) (env:Env) (K:af):Prop :=
 match e with
 | .normal=>Hs T fn m ex R env K
 | .ret=>Hs T fn m ex R env K
 | .exit _=>False
def Px (T:List TI) (fn:Func) (rs:List DV) (e:AX) (_nx:Nat) (env:Env) (K:af):Prop :=
 match e with
 | .normal=>Ak T (look env) (aa K) fn.results.toList rs
 | .ret=>Ak T (look env) (aa K) fn.results.toList rs
 | .exit _=>False
section
variable {P:Program} {C:df→Prop} {T:List TI} {n:Nat} {g:df}
theorem putObj_size (w:World) (b:Nat) (o:Obj):(w.putObj b o).heap.size=w.heap.size:=by simp [World.putObj]
theorem eL (w:World) {b k:Nat} (o:Obj) (h:k ≠ b):(w.putObj b o).heap[k]?=w.heap[k]?:=by
 simp only [World.putObj]
 rw [Array.getElem?_setIfInBounds_ne (fun e=>h e.symm)]
theorem bT.shut {ρ:Nat→AV} {κ:Nat→ak} {a:Act} {w:World} {G:Gh} (h:bT g n ρ κ a w G) {D:List Nat} {r:Nat} (hD:a.defers=(r::D).map mark) :
  w.heap[r]?=some (.deferred (some []))∧bT g n ρ κ { a with defers:=D.map mark } (w.putObj r (.deferred none)) G:=by
 obtain ⟨D',h1,h2,h3⟩:=h.qn
 have U8:D'=r::D:=by
  rw [h1] at hD
  have inj:∀x y:Nat,mark x=mark y→x=y:=fun x y e=>by simp only [mark,Deferred.mk.injEq,Target.collected.injEq] at e; exact e.1
  have:∀(l l':List Nat),l.map mark=l'.map mark→l=l':=by
   intro l
   induction l with
   | nil=>intro l' e; cases l' with
    | nil=>rfl
    | cons=>simp at e
   | cons x l ih=>intro l' e; cases l' with
    | nil=>simp at e
    | cons y l'=>simp only [List.map_cons,List.cons.injEq] at e; rw [inj x y e.1,ih l' e.2]
  exact this _ _ hD
 subst U8
 obtain ⟨a1,a2,a3,a4⟩:=h3 r (by simp)
 have bA:∀i b,bE G i (κ i) b→b ≠ r:=fun i b ho e=>a2 i (e ▸ ho)
 have ea:G.M.In (w.putObj r (.deferred none)):=fun b o hb=>by
  rw [eL _ _ (fun e=>by rw [e,a3] at hb; cases hb)]; exact h.fit.sub b o hb
 refine ⟨a1,{ h with fit:=⟨ea,fun i=>(h.fit.box i).fG (.refl G) rfl (fun _=>⟨fun _ h=>h,fun _ _ _ _ h=>h⟩) (fun b hb=>eL _ _ (bA i b hb)) ea (h.fit.own i) (by rw [putObj_size]; exact Nat.le_refl _),h.fit.own,h.fit.inj⟩,wI:=fun b hb hO=>by rw [eL _ _ (by omega)]; exact h.wI b hb hO,os:=h.os,tape:=h.tape,output:=h.output,grow:=by rw [putObj_size]; exact h.grow,qn:=?_ }⟩
 refine ⟨D,rfl,(List.nodup_cons.1 h2).2,fun q hq=>?_⟩
 obtain ⟨b1,b2,b3,b4⟩:=h3 q (by simp [hq])
 have U9:q ≠ r:=fun e=>(List.nodup_cons.1 h2).1 (by rw [←e]; exact hq)
 exact ⟨by rw [eL _ _ U9]; exact b1,b2,b3,b4⟩
theorem bT.leave {ρ:Nat→AV} {κ:Nat→ak} {G:Gh} {F:Fence} {fn:Func} {R:Ending→World→Prop} (tmps:Array Value) (lS:∀w',bT g n ρ κ { tmps:=tmps,defers:=[] } w' G→∃v,(results fn tmps).run P w'=.ok v w'∧R (.returned v) w') :
  ∀(D:List Nat) (w:World),bT g n ρ κ { tmps:=tmps,defers:=D.map mark } w G→LeavesInM F 0 P fn tmps R (D.map mark) .returning w
 | [],w,h=>lS w h
 | r::D,w,h=>by
  obtain ⟨h1,h2⟩:=h.shut (D:=D) (r:=r) rfl
  exact ⟨by simp,.inl ⟨r,_,rfl,run_takeDeferred h1,bT.leave tmps lS D _ h2⟩⟩
theorem tU:∀(ds:List DV) (s t:Nat),look (qH s ds) t=if s≤t then (match ds[t - s]? with | some d=>wc d | none=>.any) else .any
 | [],s,t=>by simp [qH,look]
 | d::r,s,t=>by
  simp only [qH,look]
  rw [tU r (s+1) t]
  by_cases h1:s=t
  ·subst h1; simp
  ·have hb:Nat.beq s t=false:=by cases hb:Nat.beq s t with | false=>rfl | true=>exact absurd (Nat.eq_of_beq_eq_true hb) h1
   rw [hb]
   by_cases h2:s≤t
   ·have e:t - s=t - (s+1)+1:=by omega
    rw [if_pos h2,if_pos (by omega),e]; simp
   ·rw [if_neg h2,if_neg (by omega)]; simp
theorem Al (hT:dV P T) {ρ:Nat→AV} {κ:Nat→ak} {a:Act} {w:World} {G:Gh} (ai:bT g n ρ κ a w G) {rv:ResultVar} {q:DV→Prop} (h:Kn T ρ κ rv q) :
  ∃(d:DV) (ids:List Nat),q d∧∃v,(match rv with | .tmp t=>pure (a.tmps.getD t undef) | .cell t ty=>do loadVar ty (←asAddr (a.tmps.getD t undef)):Sem Value).run P w=.ok v w ∧
   ∀(all:List Nat) (G':Gh),(∀i,i∈ids→i∈all)→Gh.Le G G'→Fit G' w (aq κ (js κ all))→bc G'.M d v:=by
 cases rv with
 | tmp t =>
  simp only [Kn] at h
  split at h
  ·rename_i d ids hd
   refine ⟨d,ids,h,_,rfl,fun all G' hs hle jt=>mu (κ:=κ) (κ':=κ) (fun _ _=>rfl) hle jt hd hs (ai.env t)⟩
  ·exact h.elim
 | cell t ty =>
  simp only [Kn] at h
  have hh:=aE h; clear h; obtain ⟨bK,h⟩:=hh
  split at h
  ·rename_i i off hr
   split at h
   ·rename_i l hk
    obtain ⟨av,h,hp⟩:=dq h
    split at h
    ·rename_i d ids hd
     have hv:=tV ai.fit (ai.env t)
     rw [hr] at hv
     have qI:=ai.fit.box i
     rw [hk] at qI
     obtain ⟨b,c,tt,iQ,hw,aN,jL,Py⟩:=qI
     generalize hx:a.tmps.getD t undef=x at hv
     cases hv with | ptr _ _ b' cE =>
     rw [iQ] at cE; injection cE with cE; subst cE
     have hA:(⟨b,off,none⟩:Addr)=(⟨b,0,none⟩:Addr).add off:=by rw [cw]; simp
     obtain ⟨v,h1,h2⟩:=iZ (P:=P) (av:=av) (w:=w) (G:=G) (l:=l) (off:=off) hT bK ⟨b,0,none⟩ (fun j=>c.getD j undef) (fun j hj=>by
       rw [cw]
       simp [World.cell?,hw,aN,hj]) (fun j d hd=>by
       have hj:j<l.length:=(List.getElem?_eq_some_iff.1 hd).1
       exact Py j d _ hd (by simp [aN,hj])) hp
     rw [←hA] at h1
     refine ⟨d,ids,h,v,?_,fun all G' hs hle jt=>mu (κ:=κ) (κ':=κ) (fun _ _=>rfl) hle jt hd hs h2⟩
     simp only [Instr.loadAt,Instr.sureAddr,Sem.run_bind,Sem.run_pure,Result.andThen_ok] at h1
     simp only [hx,asAddr,Sem.run_bind,Sem.run_pure,Result.andThen_ok]
     exact h1
    ·exact h.elim
   ·exact h.elim
  ·exact h.elim
theorem tW (hT:dV P T) {ρ:Nat→AV} {κ:Nat→ak} {a:Act} {w:World} {G:Gh} (ai:bT g n ρ κ a w G):∀{Ht:List ResultVar} {rs:List DV},Ak T ρ κ Ht rs →
  ∃(ids:List Nat) (us:List Value),((Ht.mapM fun | .tmp t=>pure (a.tmps.getD t undef) | .cell t ty=>do loadVar ty (←asAddr (a.tmps.getD t undef))):Sem (List Value)).run P w=.ok us w ∧
   ∀(all:List Nat) (G':Gh),(∀i,i∈ids→i∈all)→Gh.Le G G'→Fit G' w (aq κ (js κ all))→eC G'.M rs us
 | [],[],_=>⟨[],[],rfl,fun _ G' _ _ _=>.nil G'.M⟩
 | [],_::_,h=>h.elim
 | _::_,[],h=>h.elim
 | rv::Ht,r::rs,⟨h1,h2⟩=>by
  obtain ⟨d,ids,hle,v,aV,hd⟩:=Al hT ai h1
  obtain ⟨Sj,us,Hu,Ce⟩:=tW hT ai h2
  refine ⟨ids++Sj,v::us,?_,fun all G' hs hm jt=>.cons (hle G'.M v (hd all G' (fun i hi=>hs i (by simp [hi])) hm jt)) (Ce all G' (fun i hi=>hs i (by simp [hi])) hm jt)⟩
  rw [List.mapM_cons]
  simp only [Sem.run_bind]
  rw [aV]
  simp only [Result.andThen_ok,Sem.run_bind,Hu,Sem.run_pure]
theorem mw:∀(ds:List AV) (s t:Nat),look (dJ s ds) t=if s≤t then (match ds[t - s]? with | some d=>d | none=>.any) else .any
 | [],s,t=>by simp [dJ,look]
 | d::r,s,t=>by
  simp only [dJ,look]
  rw [mw r (s+1) t]
  by_cases h1:s=t
  ·subst h1; simp
  ·have hb:Nat.beq s t=false:=by cases hb:Nat.beq s t with | false=>rfl | true=>exact absurd (Nat.eq_of_beq_eq_true hb) h1
   rw [hb]
   by_cases h2:s≤t
   ·have e:t - s=t - (s+1)+1:=by omega
    rw [if_pos h2,if_pos (by omega),e]; simp
   ·rw [if_neg h2,if_neg (by omega)]; simp
theorem sM (hT:dV P T) {ρ:Nat→AV} {κ:Nat→ak} {a:Act} {w:World} {G:Gh} (ai:bT g n ρ κ a w G):∀{Ht:List ResultVar} {q:List AV→Prop},yp T ρ κ Ht q →
  ∃(iA:List AV) (us:List Value),q iA∧((Ht.mapM fun | .tmp t=>pure (a.tmps.getD t undef) | .cell t ty=>do loadVar ty (←asAddr (a.tmps.getD t undef))):Sem (List Value)).run P w=.ok us w∧bJ G iA us
 | [],q,h=>⟨[],[],h,rfl,rfl,by simp⟩
 | .tmp t::Ht,q,h=>by
  simp only [yp,force_eq] at h
  obtain ⟨iA,us,hq,aV,hc⟩:=sM hT ai h
  have hv:=tV ai.fit (ai.env t)
  refine ⟨_,a.tmps.getD t undef::us,hq,?_,by simpa using hc.1,fun j d u hd hu=>?_⟩
  ·rw [List.mapM_cons]
   simp only [Sem.run_bind,Sem.run_pure,Result.andThen_ok,aV]
  ·cases j with
   | zero =>
    rw [List.getElem?_cons_zero] at hd hu
    injection hd with hd; injection hu with hu; subst hd; subst hu; exact hv
   | succ j=>exact hc.2 j d u (by simpa using hd) (by simpa using hu)
 | .cell t ty::Ht,q,h=>by
  simp only [yp] at h
  have hh:=aE h; clear h; obtain ⟨bK,h⟩:=hh
  split at h
  ·rename_i i off hr
   split at h
   ·rename_i l hk
    obtain ⟨av,h,hp⟩:=dq h
    obtain ⟨iA,us,hq,aV,hc⟩:=sM hT ai h
    have hv:=tV ai.fit (ai.env t)
    rw [hr] at hv
    have qI:=ai.fit.box i
    rw [hk] at qI
    obtain ⟨b,c,tt,iQ,hw,aN,jL,Py⟩:=qI
    generalize hx:a.tmps.getD t undef=x at hv
    cases hv with | ptr _ _ b' cE =>
    rw [iQ] at cE; injection cE with cE; subst cE
    have hA:(⟨b,off,none⟩:Addr)=(⟨b,0,none⟩:Addr).add off:=by rw [cw]; simp
    obtain ⟨v,h1,h2⟩:=iZ (P:=P) (av:=av) (w:=w) (G:=G) (l:=l) (off:=off) hT bK ⟨b,0,none⟩ (fun j=>c.getD j undef) (fun j hj=>by
      rw [cw]
      simp [World.cell?,hw,aN,hj]) (fun j d hd=>by
      have hj:j<l.length:=(List.getElem?_eq_some_iff.1 hd).1
      exact Py j d _ hd (by simp [aN,hj])) hp
    rw [←hA] at h1
    refine ⟨_,v::us,hq,?_,by simpa using hc.1,fun j d u hd hu=>?_⟩
    ·simp only [Instr.loadAt,Instr.sureAddr,Sem.run_bind,Sem.run_pure,Result.andThen_ok] at h1
     rw [List.mapM_cons]
     have Pz:((do loadVar ty (←asAddr (a.tmps.getD t undef))):Sem Value).run P w=.ok v w:=by
      simp only [hx,asAddr,Sem.run_bind,Sem.run_pure,Result.andThen_ok]; exact h1
     rw [Sem.run_bind]
     simp only
     rw [Pz]
     simp only [Result.andThen_ok,Sem.run_bind,aV,Sem.run_pure]
    ·cases j with
     | zero=>simp at hd hu; subst hd; subst hu; exact h2
     | succ j=>exact hc.2 j d u (by simpa using hd) (by simpa using hu)
   ·exact h.elim
  ·exact h.elim
theorem my {fn:Func} {tmps:Array Value} {w:World} {us:List Value} (aV:((fn.results.toList.mapM fun | .tmp t=>pure (tmps.getD t undef) | .cell t ty=>do loadVar ty (←asAddr (tmps.getD t undef))):Sem (List Value)).run P w=.ok us w) :
  (results fn tmps).run P w=.ok (if h:us.toArray.size=1 then us.toArray[0] else .tuple us.toArray) w:=by
 have ka:((fn.results.mapM fun | .tmp t=>pure (tmps.getD t undef) | .cell t ty=>do loadVar ty (←asAddr (tmps.getD t undef))):Sem (Array Value)).run P w=.ok us.toArray w:=by
  rw [Array.mapM_eq_mapM_toList,Sem.run_map,aV]
  rfl
 unfold results
 rw [Sem.run_bind]
 exact congrArg (fun r=>Result.andThen r (fun (vs:Array Value) w=>(pure (if h:vs.size=1 then vs[0] else .tuple vs):Sem Value).run P w)) ka
theorem cM (hT:dV P T) (hm:P.follows .mixedOrders=true) (hC:cK P (fun _=>True)) (Eb:gP P) {f:Nat} {fn:Func} {c:Code} {args rs:List DV} (hf:P.funcs[f]?=some fn) (hb:fn.body=some c) (dK:(fn.name == "runtime.NumGoroutine")=false)
  (bG:Nat.ble args.length fn.ntmps=true) (h:fW P T .fn fn.ntmps 0 c (Px T fn rs) 0 (qH 0 args) []):eh P f args rs:=by
 refine ⟨⟨fn,hf,dK,by rw [hb]; rfl⟩,fun w M vs ea rU hr=>?_⟩
 refine (fy.calls (n:=0)).1 (callsIn_of_wp_marks hf hb trivial ?_)
 have hlen:vs.length≤fn.ntmps:=by rw [←hr.1]; exact Nat.le_of_ble_eq_true bG
 let g:df:=⟨fun _=>False,w,M,0,fun _=>none,fun _ _=>none⟩
 let G0:Gh:=⟨M,fun _=>none,fun _ _ _ _=>none,fun _ _=>False⟩
 have ai:bT g fn.ntmps (look (qH 0 args)) (aa []) { tmps:=vs.toArray++Array.replicate (fn.ntmps - vs.toArray.size) undef,defers:=[] } w G0:=by
  refine { fit:=⟨ea,fun i=>⟨rfl,fun _ _ _=>rfl⟩,fun i b ho=>ho.elim,fun i j b ho=>ho.elim⟩,env:=fun t=>?_,size:=by simp; omega,wI:=fun _ _ _=>rfl,os:=rfl,tape:=rfl,output:=rfl,grow:=Nat.le_refl _,mem:=.refl M,lZ:=fun _ _ _=>rfl,fQ:=fun i b ho=>ho.elim,ju:=fun i hi=>absurd hi (Nat.not_lt_zero _),rE:=fun i hi=>absurd hi (Nat.not_lt_zero _),nA:=rU,qn:=⟨[],rfl,List.nodup_nil,by simp⟩ }
  rw [tU]
  simp only [Nat.zero_le,if_true,Nat.sub_zero]
  split
  ·rename_i d hd
   have ht:t<vs.length:=by rw [←hr.1]; exact (List.getElem?_eq_some_iff.1 hd).1
   have hv:vs[t]?=some (vs[t]'ht):=List.getElem?_eq_getElem ht
   have:(vs.toArray++Array.replicate (fn.ntmps - vs.toArray.size) undef).getD t undef=vs[t]'ht:=by
    rw [Array.getD_eq_getD_getElem?,Array.getElem?_append_left (by simpa using ht)]
    simp [hv]
   rw [this]
   exact nk (hr.2 t d _ hd hv)
  ·exact .any _
 refine rT (g:=g) hT hm hC Eb trivial fy (fun _=>rfl) (Nat.le_refl _) c h ⟨⟨G0,ai⟩,Nat.le_refl _,fun _ _=>rfl⟩ fun e nx env K a w' hq hs=>?_
 obtain ⟨⟨G1,fH⟩,_⟩:=hs
 have fin:Ak T (look env) (aa K) fn.results.toList rs→LeavesInM Fence.wide 0 P fn a.tmps (fun e w'=>∃v M',e=.returned v∧Below w.heap.size w w'∧Mem.Le M M'∧M'.In w'∧(∀b,b<w.heap.size→M' b=M b)∧tX M' rs v) a.defers .returning w':=by
  intro qs
  obtain ⟨D,hD,_⟩:=fH.qn
  rw [hD]
  refine bT.leave (g:=g) (n:=fn.ntmps) (ρ:=look env) (κ:=aa K) (G:=G1) a.tmps (fun w2 oo=>?_) D w' (by have:=fH; rw [←hD]; exact this)
  obtain ⟨ids,us,aV,Ce⟩:=tW hT oo qs
  obtain ⟨G2,hle,_,_,_,jt⟩:=oo.m8 (κ:=aa K) ids (fun _ _=>rfl)
  have az:=Ce ids G2 (fun i hi=>hi) hle jt.fit
  have Nq:Below w.heap.size w w2:=⟨jt.os,jt.tape,jt.output,jt.grow,fun b hb=>jt.wI b hb (fun h=>h)⟩
  refine ⟨_,my aV,_,G2.M,rfl,Nq,jt.mem,jt.fit.sub,fun b hb=>jt.lZ b hb (fun h=>h),?_⟩
  have ov:us.length=rs.length:=az.1.symm
  have many:us.length ≠ 1→∃Sk:List Value,(if h:us.toArray.size=1 then us.toArray[0] else Value.tuple us.toArray)=.tuple Sk.toArray∧eC G2.M rs Sk:=by
   intro bA
   refine ⟨us,?_,az⟩
   rw [dif_neg (by simpa using bA)]
  match rs,az,ov,many with
  | [],az,ov,many=>exact many (by simp at ov; simp [ov])
  | [d],az,ov,_ =>
   match us,ov,az with
   | [u],_,az=>exact az.2 0 d u rfl rfl
  | _::_::_,az,ov,many=>exact many (by simp at ov; omega)
 cases e with
 | normal=>exact fin hq
 | ret=>exact fin hq
 | exit i=>exact hq.elim
theorem wV {rm:RM} (WH:rm.Nf=true) (hT:dV P T) (hm:P.follows .mixedOrders=true) (hC:cK P (fun _=>True)) (Eb:gP P) {f:Nat} {fn:Func} {c:Code} {args:List AV} {m ex:Nat} {K:af} {R:List AV→af→Prop} (hf:P.funcs[f]?=some fn) (hb:fn.body=some c) (dK:(fn.name == "runtime.NumGoroutine")=false)
  (bG:(Nat.ble args.length fn.ntmps && bN.wf ⟨m,dJ 0 args,K⟩)=true) (h:fW P T rm fn.ntmps m c (tT T fn m ex R) m (dJ 0 args) K):dA P f args m K ex R:=by
 refine ⟨⟨fn,hf,dK,by rw [hb]; rfl⟩,fun w G vs rU cC hr=>?_⟩
 refine (fy.calls (n:=0)).1 (callsIn_of_wp_marks hf hb trivial ?_)
 simp only [Bool.and_eq_true,bN.wf] at bG
 obtain ⟨hlen,Sm,Va⟩:=bG
 have hlen:vs.length≤fn.ntmps:=by rw [←hr.1]; exact Nat.le_of_ble_eq_true hlen
 let g:df:=⟨fun b=>∃i,bE G i (aa K i) b,w,G.M,m,G.β,fun i p=>G.H i 0 0 p⟩
 have ai:bT g fn.ntmps (look (dJ 0 args)) (aa K) { tmps:=vs.toArray++Array.replicate (fn.ntmps - vs.toArray.size) undef,defers:=[] } w G:=by
  refine { fit:=cC,env:=fun t=>?_,size:=by simp; omega,wI:=fun _ _ _=>rfl,os:=rfl,tape:=rfl,output:=rfl,grow:=Nat.le_refl _,mem:=.refl G.M,lZ:=fun _ _ _=>rfl,fQ:=fun i b ho=>.inr ⟨i,ho⟩,ju:=fun _ _=>rfl,rE:=fun _ _ _ _ hx=>hx,nA:=rU,qn:=⟨[],rfl,List.nodup_nil,by simp⟩ }
  rw [mw]
  simp only [Nat.zero_le,if_true,Nat.sub_zero]
  split
  ·rename_i d hd
   have ht:t<vs.length:=by rw [←hr.1]; exact (List.getElem?_eq_some_iff.1 hd).1
   have hv:vs[t]?=some (vs[t]'ht):=List.getElem?_eq_getElem ht
   have:(vs.toArray++Array.replicate (fn.ntmps - vs.toArray.size) undef).getD t undef=vs[t]'ht:=by
    rw [Array.getD_eq_getD_getElem?,Array.getElem?_append_left (by simpa using ht)]
    simp [hv]
   rw [this]
   exact hr.2 t d _ hd hv
  ·exact .any _
 refine rT (g:=g) hT hm hC Eb trivial fy (fun _=>rfl) (r:=rm) (Nat.le_refl _) c h ⟨⟨G,ai⟩,Nat.le_refl _,fun i hi=>mo Sm hi⟩ fun e nx env K1 a w' hq hs=>?_
 obtain ⟨⟨G1,fH⟩,_⟩:=hs
 have fin:Hs T fn m ex R env K1→LeavesInM Fence.wide 0 P fn a.tmps (fun e w'=>∃v rs K' G',e=.returned v∧R rs K'∧Hv m ex (aa K) w G rs (aa K') w' G' v) a.defers .returning w':=by
  intro qs
  obtain ⟨D,hD,_⟩:=fH.qn
  rw [hD]
  refine bT.leave (g:=g) (n:=fn.ntmps) (ρ:=look env) (κ:=aa K1) (G:=G1) a.tmps (fun w2 oo=>?_) D w' (by have:=fH; rw [←hD]; exact this)
  obtain ⟨iA,us,⟨rs,K2,hR,eG,Vb,GD⟩,aV,dr⟩:=sM hT oo qs
  simp only [yq,Bool.and_eq_true] at eG
  obtain ⟨⟨⟨Hw,Nr⟩,jv⟩,mq⟩:=eG
  obtain ⟨G2,_,E6,Hr⟩:=oo.sub (m:=m) (Nat.le_refl _) (F:=di (aa K1) rs iA++dX (aa K1) K2) Hw (fun i hi=>List.mem_append.2 (.inr hi)) jv mq GD
  have az:=E6 rs iA us Vb Nr (fun i hi=>List.mem_append.2 (.inl hi)) dr
  have ja:=Hr (fun _=>.any) (fun _=>.any _)
  refine ⟨_,my aV,_,rs,K2,G2,rfl,hR,⟨ja.fit,fun i hi=>mo Hw hi,?_,ja.mem,ja.ju,ja.rE,fun b hb hO=>⟨ja.wI b hb (fun ⟨i,h⟩=>hO i h),ja.lZ b hb (fun ⟨i,h⟩=>hO i h)⟩,ja.fQ,ja.os,ja.tape,ja.output,ja.grow⟩⟩
  have ov:us.length=rs.length:=az.1.symm
  have many:us.length ≠ 1→aC G2 (.eJ rs) (if h:us.toArray.size=1 then us.toArray[0] else Value.tuple us.toArray):=by
   intro bA
   rw [dif_neg (by simpa using bA)]
   exact .eJ rs us az.1 az.2
  match rs,az,ov,many with
  | [],az,ov,many=>exact many (by simp at ov; simp [ov])
  | [d],az,ov,_ =>
   match us,ov,az with
   | [u],_,az=>exact az.2 0 d u rfl rfl
  | _::_::_,az,ov,many=>exact many (by simp at ov; omega)
 cases e with
 | normal=>exact fin hq
 | ret=>exact fin hq
 | exit i=>exact hq.elim
theorem wW (hT:dV P T) (hm:P.follows .mixedOrders=true) (hC:cK P (fun _=>True)) (Eb:gP P) {f:Nat} {fn:Func} {c:Code} {args:List AV} {m ex:Nat} {K:af} {R:List AV→af→Prop} (hf:P.funcs[f]?=some fn) (hb:fn.body=some c) (dK:(fn.name == "runtime.NumGoroutine")=false)
  (bG:(Nat.ble args.length fn.ntmps && bN.wf ⟨m,dJ 0 args,K⟩)=true) (h:fW P T .fn fn.ntmps m c (tT T fn m ex R) m (dJ 0 args) K):dA P f args m K ex R :=
 wV (rm:=.fn) rfl hT hm hC Eb hf hb dK bG h
theorem Cw (hT:dV P T) (hm:P.follows .mixedOrders=true) (hC:cK P (fun _=>True)) (Eb:gP P) {f:Nat} {fn:Func} {c:Code} {args:List AV} {m ex:Nat} {K:af} {R:List AV→af→Prop} (hf:P.funcs[f]?=some fn) (hb:fn.body=some c) (dK:(fn.name == "runtime.NumGoroutine")=false)
  (bG:(Nat.ble args.length fn.ntmps && bN.wf ⟨m,dJ 0 args,K⟩)=true) (h:fW P T .rel fn.ntmps m c (tT T fn m ex R) m (dJ 0 args) K):dA P f args m K ex R :=
 wV (rm:=.rel) rfl hT hm hC Eb hf hb dK bG h
theorem bk (hT:dV P T) (hm:P.follows .mixedOrders=true) (hC:cK P (fun _=>True)) (Eb:gP P) {f:Nat} {fn:Func} {c:Code} {args:List AV} {m ex:Nat} {K:af} {rs:List AV} {K':af} (hf:P.funcs[f]?=some fn) (hb:fn.body=some c) (dK:(fn.name == "runtime.NumGoroutine")=false)
  (bG:(Nat.ble args.length fn.ntmps && bN.wf ⟨m,dJ 0 args,K⟩)=true) (h:fW P T .fn fn.ntmps m c (tT T fn m ex fun r k=>r=rs∧k=K') m (dJ 0 args) K):bg P f args m K ex rs K' :=
 wW hT hm hC Eb hf hb dK bG h
theorem tY (hT:dV P T) (hm:P.follows .mixedOrders=true) (hC:cK P (fun _=>True)) (Eb:gP P) {f:Nat} {fn:Func} {c:Code} {args:List AV} {m ex:Nat} {K:af} {rs:List AV} {K':af} (hf:P.funcs[f]?=some fn) (hb:fn.body=some c) (dK:(fn.name == "runtime.NumGoroutine")=false)
  (bG:(Nat.ble args.length fn.ntmps && bN.wf ⟨m,dJ 0 args,K⟩)=true) (h:fW P T .rel fn.ntmps m c (tT T fn m ex fun r k=>r=rs∧k=K') m (dJ 0 args) K):bg P f args m K ex rs K' :=
 Cw hT hm hC Eb hf hb dK bG h
end
end Go.TM
namespace Go.TM
open Go.RowKit
variable [cj]
theorem gQ (v e:Nat):lT (0,0) v e=(v,e):=by cases v <;> simp [lT]
theorem fh:∀(K:af),aa K=aq (fun _=>.none) K
 | []=>rfl
 | (i,b)::K=>by
  funext t
  simp only [aa,aq,gl,fh K]
  by_cases h:t=i
  ·subst h; simp
  ·rw [if_neg h]; simp [beq_false h]
theorem np {r:Nat→Nat} {sh:Nat→Nat × Nat} (dk:∀i j,r i=r j→i=j) (f:Nat→ak):∀(K:af) (j:Nat),aq f (bP r sh K) (r j)=if j∈keys K then pE r sh j (aa K j) else f (r j)
 | [],j=>by simp [bP,aq,keys]
 | (i,b)::K,j=>by
  simp only [bP,aq]
  by_cases e:j=i
  ·subst e; simp [keys,aa]
  ·have:r j ≠ r i:=fun h=>e (dk _ _ h)
   rw [ad _ _ this,np dk f K j]
   simp only [aa,beq_false e,cond_false]
   by_cases hj:j∈keys K
   ·rw [if_pos hj,if_pos (by simp only [keys,List.map_cons,List.mem_cons]; exact .inr hj)]
   ·rw [if_neg hj,if_neg (by simp only [keys,List.map_cons,List.mem_cons,not_or]; exact ⟨e,hj⟩)]
theorem lH {r:Nat→Nat} {sh:Nat→Nat × Nat} (f:Nat→ak):∀(K:af) (i:Nat),(∀j,j∈keys K→r j ≠ i)→aq f (bP r sh K) i=f i
 | [],i,_=>rfl
 | (j,b)::K,i,h=>by
  simp only [bP,aq]
  rw [ad _ _ (fun e=>h j (by simp [keys]) e.symm)]
  exact lH f K i fun q hq=>h q (by simp only [keys,List.map_cons,List.mem_cons]; exact .inr hq)
theorem cV {m:Nat}:∀{K:af},kO m K=true→∀j,j∈keys K→j<m
 | [],_,j,h=>by simp [keys] at h
 | (i,b)::K,hk,j,h=>by
  simp only [kO,Bool.and_eq_true,Nat.blt_eq] at hk
  simp only [keys,List.map_cons,List.mem_cons] at h
  rcases h with rfl | h
  ·exact hk.1
  ·exact cV hk.2 j h
theorem fA:∀{K:af} {j:Nat},j ∉ keys K→aa K j=.none
 | [],_,_=>rfl
 | (i,b)::K,j,h=>by
  simp only [keys,List.map_cons,List.mem_cons,not_or] at h
  simp only [aa]
  rw [beq_false h.1]
  exact fA h.2
theorem ke {r:Nat→Nat} {sh:Nat→Nat × Nat}:∀{K:af} {i:Nat} {b:ak},(i,b)∈bP r sh K→∃j,j∈keys K∧i=r j
 | [],i,b,h=>by simp [bP] at h
 | (j,c)::K,i,b,h=>by
  simp only [bP,List.mem_cons] at h
  rcases h with h | h
  ·injection h with e1 e2; exact ⟨j,by simp [keys],e1⟩
  ·obtain ⟨q,h1,h2⟩:=ke h; exact ⟨q,by simp only [keys,List.map_cons,List.mem_cons]; exact .inr h1,h2⟩
theorem rV {γ:Type _} (f:Nat→γ):∀(l l':List (Nat × γ)),aq f (l++l')=aq (aq f l') l
 | [],_=>rfl
 | (i,x)::l,l'=>by simp only [List.cons_append,aq,rV f l l']
theorem ig:∀{σ:List Nat} {nx j:Nat} (h:j<σ.length),sg σ nx j=σ[j]
 | [],_,j,h=>by simp at h
 | i::σ,nx,0,_=>rfl
 | i::σ,nx,j+1,h=>by simp only [sg,List.getElem_cons_succ]; exact ig (by simpa using h)
theorem gR:∀{σ:List Nat} {nx j:Nat},σ.length≤j→sg σ nx j=nx+(j - σ.length)
 | [],_,j,_=>by simp [sg]
 | i::σ,nx,0,h=>by simp at h
 | i::σ,nx,j+1,h=>by
  simp only [sg,List.length_cons]
  rw [gR (by simpa using h)]
  simp
theorem gz {κ:Nat→ak}:∀{σ:List Nat} {nx:Nat},Ec κ σ nx=true→(∀i,i∈σ→i<nx)∧σ.Nodup
 | [],_,_=>⟨by simp,List.nodup_nil⟩
 | i::σ,nx,h=>by
  simp only [Ec,Bool.and_eq_true,Nat.blt_eq,Bool.not_eq_true'] at h
  obtain ⟨h1,h2⟩:=gz h.2
  exact ⟨fun j hj=>by rcases List.mem_cons.1 hj with rfl | hj; exact h.1.1; exact h1 j hj,List.nodup_cons.2 ⟨ec h.1.2,h2⟩⟩
theorem Hy {κ:Nat→ak}:∀{σ:List Nat} {j:Nat} (h:j<σ.length),iX κ σ j=Hz (κ σ[j])
 | [],j,h=>by simp at h
 | i::σ,0,_=>rfl
 | i::σ,j+1,h=>by simp only [iX,List.getElem_cons_succ]; exact Hy (by simpa using h)
theorem Ed {κ:Nat→ak}:∀{σ:List Nat} {j:Nat},σ.length≤j→iX κ σ j=(0,0)
 | [],_,_=>rfl
 | i::σ,0,h=>by simp at h
 | i::σ,j+1,h=>by simp only [iX]; exact Ed (by simpa using h)
def pos:List Nat→Nat→Option Nat
 | [],_=>none
 | x::l,i=>if x=i then some 0 else (pos l i).map (·+1)
def ij (σ:List Nat) (nx ex i:Nat):Option Nat:=match pos σ i with
 | some j=>some j
 | none=>if nx≤i∧i<nx+ex then some (σ.length+(i - nx)) else none
theorem tZ:∀{σ:List Nat} {i j:Nat},pos σ i=some j→∃h:j<σ.length,σ[j]=i
 | [],i,j,h=>by simp [pos] at h
 | x::l,i,j,h=>by
  simp only [pos] at h
  split at h
  ·rename_i e; injection h with h; subst h; exact ⟨by simp,e⟩
  ·cases hp:pos l i with
   | none=>rw [hp] at h; simp at h
   | some q=>rw [hp] at h; simp at h; subst h; obtain ⟨h1,h2⟩:=tZ hp; exact ⟨by simpa using h1,by simpa using h2⟩
theorem pos_at:∀{σ:List Nat} (hn:σ.Nodup) {j:Nat} (h:j<σ.length),pos σ σ[j]=some j
 | [],_,j,h=>by simp at h
 | x::l,hn,0,h=>by simp [pos]
 | x::l,hn,j+1,h=>by
  have BP:=List.nodup_cons.1 hn
  have hj:j<l.length:=by simpa using h
  simp only [List.getElem_cons_succ,pos]
  rw [if_neg (fun e=>BP.1 (by rw [e]; exact List.getElem_mem hj)),pos_at BP.2 hj]
  rfl
theorem HA {σ:List Nat} {i:Nat} (h:i ∉ σ):pos σ i=none:=by
 cases hp:pos σ i with
 | none=>rfl
 | some j=>obtain ⟨h1,h2⟩:=tZ hp; exact absurd (h2 ▸ List.getElem_mem h1) h
theorem HB {σ:List Nat} {nx:Nat} (h1:∀i,i∈σ→i<nx) (h2:σ.Nodup) (i j:Nat) (h:sg σ nx i=sg σ nx j):i=j:=by
 rcases Nat.lt_or_ge i σ.length with hi | hi
 ·rcases Nat.lt_or_ge j σ.length with hj | hj
  ·rw [ig hi,ig hj] at h
   have e1:=pos_at h2 hi; have e2:=pos_at h2 hj; rw [h,e2] at e1; injection e1 with e1; exact e1.symm
  ·rw [ig hi,gR hj] at h
   have:=h1 _ (List.getElem_mem hi); omega
 ·rcases Nat.lt_or_ge j σ.length with hj | hj
  ·rw [gR hi,ig hj] at h
   have:=h1 _ (List.getElem_mem hj); omega
  ·rw [gR hi,gR hj] at h; omega
theorem Ko {σ:List Nat} {nx ex:Nat} (h1:∀i,i∈σ→i<nx) (h2:σ.Nodup) {j:Nat} (hj:j<σ.length+ex):ij σ nx ex (sg σ nx j)=some j:=by
 unfold ij
 rcases Nat.lt_or_ge j σ.length with aK | db
 ·rw [ig aK,pos_at h2 aK]
 ·rw [gR db,HA (fun hm=>by have:=h1 _ hm; omega)]
  simp only
  rw [if_pos (by omega)]
  congr 1
  omega
theorem gA {σ:List Nat} {nx ex i j:Nat} (h:ij σ nx ex i=some j):j<σ.length+ex∧sg σ nx j=i:=by
 unfold ij at h
 split at h
 ·rename_i q hq
  injection h with h; subst h
  obtain ⟨h1,h2⟩:=tZ hq
  exact ⟨by omega,by rw [ig h1]; exact h2⟩
 ·split at h
  ·rename_i hr
   injection h with h; subst h
   refine ⟨by omega,?_⟩
   rw [gR (by omega)]; omega
  ·cases h
def pull (r:Nat→Nat) (G:Gh):Gh:=⟨G.M,fun j=>G.β (r j),fun j=>G.H (r j),fun j=>G.X (r j)⟩
theorem kf (r:Nat→Nat) (G:Gh) (j v e:Nat):az (pull r G).H j v e=az G.H (r j) v e:=by
 funext p; cases p <;> rfl
theorem HC {r:Nat→Nat} {G:Gh}:∀N:Nat,(∀(u:AV) (x:Value),SizeOf.sizeOf u<N→aC G (kB r dm u) x→aC (pull r G) u x) ∧
  (∀(us:List AV) (xs:List Value),SizeOf.sizeOf us<N→bJ G (du r dm us) xs→bJ (pull r G) us xs):=by
 intro N
 induction N with
 | zero=>exact ⟨fun _ _ h=>by omega,fun _ _ h=>by omega⟩
 | succ N ih =>
  refine ⟨fun u x aN hv=>?_,fun us xs aN hr=>?_⟩
  ·cases u with
   | any=>exact .any _
   | dv d=>simp only [kB] at hv; cases hv with | dv h=>exact .dv h
   | ptr i off=>simp only [kB] at hv; cases hv with | ptr _ _ b h=>exact .ptr i off b h
   | fc i=>simp only [kB] at hv; cases hv with | fc _ b h=>exact .fc i b h
   | sle i n=>simp only [kB] at hv; cases hv with | sle _ _ b h=>exact .sle i n b h
   | bM i v=>simp only [kB,dm,gQ] at hv; cases hv with | bM _ _ a n h=>exact .bM i v a n h
   | own i v e p =>
    simp only [kB,dm,gQ] at hv
    cases hv with | own _ _ _ _ _ h hc=>exact .own i v e p x (by rw [kf]; exact h) hc
   | loc i v e p a b c =>
    simp only [kB,dm,gQ] at hv
    cases hv with
    | loc _ _ _ _ _ _ _ A q q' h=>exact .loc i v e p a b c A q q' (by rw [kf]; exact h)
    | lP _ _ _ _ _ _ _ A h=>exact .lP i v e p a b c A (by rw [kf]; exact h)
   | pre i v e p a b c =>
    simp only [kB,dm,gQ] at hv
    cases hv with
    | pre _ _ _ _ _ _ _ q q' h=>exact .pre i v e p a b c q q' fun hn=>by obtain ⟨A,N,c',e1,e2⟩:=h hn; exact ⟨A,N,c',by rw [kf]; exact e1,e2⟩
   | fn f l=>simp only [kB] at hv; cases hv with | fn _ _ vs hl hr=>have:=ih.2 l vs (by simp at aN; omega) ⟨hl,hr⟩; exact .fn f l vs this.1 this.2
   | gJ f l=>simp only [kB] at hv; cases hv with | gJ _ _ vs hl hr=>have:=ih.2 l vs (by simp at aN; omega) ⟨hl,hr⟩; exact .gJ f l vs this.1 this.2
   | agg l=>simp only [kB] at hv; cases hv with | agg _ vs hl hr=>have:=ih.2 l vs (by simp at aN; omega) ⟨hl,hr⟩; exact .agg l vs this.1 this.2
   | eJ l=>simp only [kB] at hv; cases hv with | eJ _ vs hl hr=>have:=ih.2 l vs (by simp at aN; omega) ⟨hl,hr⟩; exact .eJ l vs this.1 this.2
   | opt g v=>simp only [kB] at hv; cases hv with | opt _ _ _ h hu=>exact .opt g v x (fun hg=>ih.1 v x (by simp at aN; omega) (h hg)) hu
  ·cases us with
   | nil=>exact ⟨hr.1,by simp⟩
   | cons u us =>
    simp only [du] at hr
    match xs,hr with
    | [],hr=>have:=hr.1; simp at this
    | x::xs,hr =>
     have h1:=ih.1 u x (by simp at aN; omega) (hr.2 0 _ x rfl rfl)
     have h2:=ih.2 us xs (by simp at aN; omega) ⟨by simpa using hr.1,fun q e y he hy=>hr.2 (q+1) e y (by simpa using he) (by simpa using hy)⟩
     refine ⟨by simp [h2.1],fun j d y hd hy=>?_⟩
     cases j with
     | zero=>simp at hd hy; subst hd; subst hy; exact h1
     | succ j=>exact h2.2 j d y (by simpa using hd) (by simpa using hy)
theorem mz (r:Nat→Nat) (sh:Nat→Nat × Nat):∀l,(du r sh l).length=l.length
 | []=>rfl
 | v::l=>by simp [du,mz r sh l]
theorem ua (r:Nat→Nat) (sh:Nat→Nat × Nat):∀(l:List AV) (j:Nat),(du r sh l)[j]?=(l[j]?).map (kB r sh)
 | [],j=>by simp [du]
 | v::l,0=>by simp [du]
 | v::l,j+1=>by simp [du,ua r sh l j]
theorem Cx (r:Nat→Nat) (sh:Nat→Nat × Nat) (v:AV):(kB r sh v).aj=v.aj:=by cases v <;> simp [kB,AV.aj]
theorem Kp {r:Nat→Nat} (dk:∀i j,r i=r j→i=j) {G:Gh} {w:World} {K:af} (hf:Fit G w (aa (bP r dm K))) (hk:∀j,j∈keys K→aa K j ≠ .none) (dD:∀j,j∈keys K→∀a b c d e,aa K j ≠ .iF a b c d e) (Vc:∀j,j∈keys K→aa K j ≠ .held) (hc:∀(j:Nat) (l:List AV),aa K j=.cells l→bI l=true) :
  Fit (pull r G) w (aa K)∧∀j b,bE (pull r G) j (aa K j) b→j∈keys K∧bE G (r j) (aa (bP r dm K) (r j)) b:=by
 have iH:∀j,aa (bP r dm K) (r j)=if j∈keys K then pE r dm j (aa K j) else .none:=fun j=>by
  rw [fh]; exact np dk _ K j
 have gS:∀j b,bE (pull r G) j (aa K j) b→j∈keys K∧bE G (r j) (aa (bP r dm K) (r j)) b:=by
  intro j b ho
  by_cases hj:j∈keys K
  ·refine ⟨hj,?_⟩
   rw [iH,if_pos hj]
   cases hl:aa K j with
   | cells l=>rw [hl] at ho; exact ho
   | tree v e d =>
    rw [hl] at ho
    simp only [pE,dm,gQ,bE] at ho ⊢
    rw [kf] at ho; exact ho
   | eg rc st l=>rw [hl] at ho; exact ho
   | iF a b c d e=>exact absurd hl (dD j hj a b c d e)
   | _=>rw [hl] at ho; exact ho.elim
  ·rw [fA hj] at ho; exact ho.elim
 refine ⟨⟨hf.sub,fun j=>?_,fun j b ho=>hf.own _ b (gS j b ho).2,fun i j b hi hj=>dk i j (hf.inj _ _ b (gS i b hi).2 (gS j b hj).2)⟩,gS⟩
 have hb:=hf.box (r j)
 rw [iH] at hb
 by_cases hj:j∈keys K
 ·rw [if_pos hj] at hb
  cases hl:aa K j with
  | none=>exact absurd hl (hk j hj)
  | dead=>trivial
  | cells l =>
   rw [hl] at hb
   obtain ⟨b,c,t,h1,h2,h3,h4,h5⟩:=hb
   refine ⟨b,c,t,h1,h2,by rw [h3,mz],eF (hc j l hl),fun q d v hd hv=>?_⟩
   exact (HC (r:=r) (SizeOf.sizeOf d+1)).1 d v (by omega) (h5 q _ v (by rw [ua,hd]; rfl) hv)
  | tree v e d =>
   rw [hl] at hb
   simp only [pE,dm,gQ] at hb
   simp only [fP] at hb ⊢
   rw [kf]
   exact hb
  | fz v d =>
   rw [hl] at hb
   simp only [pE,dm,gQ] at hb
   exact hb
  | eg rc st l =>
   rw [hl] at hb
   obtain ⟨b,fn,tmps,D,h1,h2,h3⟩:=hb
   exact ⟨b,fn,tmps,D,h1,h2,(HC (r:=r) (SizeOf.sizeOf l+1)).2 l tmps.toList (by omega) h3⟩
  | iF a b c d e=>exact absurd hl (dD j hj a b c d e)
  | held=>exact absurd hl (Vc j hj)
 ·rw [if_neg hj] at hb
  rw [fA hj]
  exact hb
theorem HD {G2 G3:Gh} {r:Nat→Nat} {sh:Nat→Nat × Nat} {ok:Nat→Bool} (hM:Mem.Le G2.M G3.M) (hβ:∀j b,G2.β j=some b→G3.β (r j)=some b)
  (hH:∀j v e p x,ok j=true→az G2.H j v e p=some x→az G3.H (r j) (lT (sh j) v e).1 (lT (sh j) v e).2 p=some x):∀N:Nat,
  (∀(u:AV) (x:Value),SizeOf.sizeOf u<N→AV.nm ok u=true→aC G2 u x→aC G3 (kB r sh u) x) ∧
  (∀(us:List AV) (xs:List Value),SizeOf.sizeOf us<N→AV.we ok us=true→bJ G2 us xs→bJ G3 (du r sh us) xs):=by
 intro N
 induction N with
 | zero=>exact ⟨fun _ _ h=>by omega,fun _ _ h=>by omega⟩
 | succ N ih =>
  refine ⟨fun u x aN hn hv=>?_,fun us xs aN hn hr=>?_⟩
  ·cases u with
   | any=>exact .any _
   | dv d=>cases hv with | dv h=>exact .dv (h.mono hM)
   | ptr i off=>cases hv with | ptr _ _ b h=>exact .ptr _ off b (hβ _ _ h)
   | fc i=>cases hv with | fc _ b h=>exact .fc _ b (hβ _ _ h)
   | sle i n=>cases hv with | sle _ _ b h=>exact .sle _ n b (hβ _ _ h)
   | bM i v =>
    simp only [AV.nm] at hn
    cases hv with | bM _ _ a n h=>exact .bM _ _ a n (hH i v 0 [] _ hn h)
   | own i v e p =>
    simp only [AV.nm] at hn
    cases hv with | own _ _ _ _ _ h hc=>exact .own _ _ _ p x (hH _ _ _ _ _ hn h) hc
   | loc i v e p a b c =>
    simp only [AV.nm] at hn
    cases hv with
    | loc _ _ _ _ _ _ _ A q q' h=>exact .loc _ _ _ p a b c A q q' (hH _ _ _ _ _ hn h)
    | lP _ _ _ _ _ _ _ A h=>exact .lP _ _ _ p a b c A (hH _ _ _ _ _ hn h)
   | pre i v e p a b c =>
    simp only [AV.nm] at hn
    cases hv with
    | pre _ _ _ _ _ _ _ q q' h=>exact .pre _ _ _ p a b c q q' fun hz=>by obtain ⟨A,N,c',e1,e2⟩:=h hz; exact ⟨A,N,c',hH _ _ _ _ _ hn e1,e2⟩
   | fn f l=>simp only [AV.nm] at hn; cases hv with | fn _ _ vs hl hr=>have:=ih.2 l vs (by simp at aN; omega) hn ⟨hl,hr⟩; exact .fn f _ vs this.1 this.2
   | gJ f l=>simp only [AV.nm] at hn; cases hv with | gJ _ _ vs hl hr=>have:=ih.2 l vs (by simp at aN; omega) hn ⟨hl,hr⟩; exact .gJ f _ vs this.1 this.2
   | agg l=>simp only [AV.nm] at hn; cases hv with | agg _ vs hl hr=>have:=ih.2 l vs (by simp at aN; omega) hn ⟨hl,hr⟩; exact .agg _ vs this.1 this.2
   | eJ l=>simp only [AV.nm] at hn; cases hv with | eJ _ vs hl hr=>have:=ih.2 l vs (by simp at aN; omega) hn ⟨hl,hr⟩; exact .eJ _ vs this.1 this.2
   | opt g v=>simp only [AV.nm] at hn; cases hv with | opt _ _ _ h hu=>exact .opt g _ x (fun hg=>ih.1 v x (by simp at aN; omega) hn (h hg)) hu
  ·cases us with
   | nil=>exact ⟨hr.1,by simp [du]⟩
   | cons u us =>
    simp only [AV.we,Bool.and_eq_true] at hn
    match xs,hr with
    | [],hr=>have:=hr.1; simp at this
    | x::xs,hr =>
     have h1:=ih.1 u x (by simp at aN; omega) hn.1 (hr.2 0 _ x rfl rfl)
     have h2:=ih.2 us xs (by simp at aN; omega) hn.2 ⟨by simpa using hr.1,fun q e y he hy=>hr.2 (q+1) e y (by simpa using he) (by simpa using hy)⟩
     refine ⟨by simp only [du,List.length_cons]; rw [h2.1],fun j d y hd hy=>?_⟩
     cases j with
     | zero=>simp [du] at hd hy; subst hd; subst hy; exact h1
     | succ j=>exact h2.2 j d y (by simpa [du] using hd) (by simpa using hy)
def mH (V E:Nat) (H1 H2:Nat→Nat→List PS→Option Value) (v e:Nat) (p:List PS):Option Value :=
 if v<V then H1 v e p else if V<v then H2 (v - V) e p else match p with
  | []=>if e=0 then H2 0 0 [] else H1 v e []
  | s::q=>if e<E then H1 v e (s::q) else H2 0 (e - E) (s::q)
theorem HE {V E:Nat} {H1 H2:Nat→Nat→List PS→Option Value} (v e:Nat):mH V E H1 H2 (lT (V,E) v e).1 0 []=H2 v 0 []∧∀s q,mH V E H1 H2 (lT (V,E) v e).1 (lT (V,E) v e).2 (s::q)=H2 v e (s::q):=by
 cases v with
 | zero =>
  refine ⟨by simp [lT,mH],fun s q=>?_⟩
  show mH V E H1 H2 V (E+e) (s::q)=_
  simp only [mH,Nat.lt_irrefl,if_false]
  rw [if_neg (by omega),Nat.add_sub_cancel_left]
 | succ v =>
  have h1:¬ (V+(v+1)<V):=by omega
  have h2:V<V+(v+1):=by omega
  have h3:V+(v+1) - V=v+1:=by omega
  refine ⟨?_,fun s q=>?_⟩
  ·show mH V E H1 H2 (V+(v+1)) 0 []=_
   unfold mH; rw [if_neg h1,if_pos h2,h3]
  ·show mH V E H1 H2 (V+(v+1)) e (s::q)=_
   unfold mH; rw [if_neg h1,if_pos h2,h3]
theorem Ns {V E:Nat} {H1 H2:Nat→Nat→List PS→Option Value} (h1:∀v,V<v→∀e p,H1 v e p=none) (h2:∀e,E<e→∀p,H1 V e p=none) (h3:∀x,H1 V 0 []=some x→H2 0 0 []=some x) (h4:∀s q x,H1 V E (s::q)=some x→H2 0 0 (s::q)=some x)
  {v e:Nat} {p:List PS} {x:Value} (h:H1 v e p=some x):mH V E H1 H2 v e p=some x:=by
 unfold mH
 split
 ·exact h
 ·split
  ·rename_i aK; rw [h1 v aK] at h; cases h
  ·have:v=V:=by omega
   subst this
   cases p with
   | nil =>
    simp only
    split
    ·rename_i he; subst he; exact h3 x h
    ·exact h
   | cons s q =>
    simp only
    split
    ·exact h
    ·rename_i db
     rcases Nat.lt_or_ge E e with aK | hle
     ·rw [h2 e aK] at h; cases h
     ·have:e=E:=by omega
      subst this
      rw [Nat.sub_self]; exact h4 s q x h
theorem PA {V E:Nat} {H1 H2:Nat→Nat→List PS→Option Value} {v e:Nat} (h:∀v',v<v'→∀e p,H2 v' e p=none) {v':Nat} (hv:(lT (V,E) v e).1<v') (e':Nat) (p:List PS):mH V E H1 H2 v' e' p=none:=by
 have hle:V+v≤(lT (V,E) v e).1:=by cases v <;> simp [lT]
 unfold mH
 rw [if_neg (by omega),if_pos (by omega)]
 exact h _ (by omega) e' p
theorem PB {V E:Nat} {H1 H2:Nat→Nat→List PS→Option Value} (h2:∀e,E<e→∀p,H1 V e p=none) {v e:Nat} (h:∀e',e<e'→∀p,H2 v e' p=none) {e':Nat} (he:(lT (V,E) v e).2<e') (p:List PS):mH V E H1 H2 (lT (V,E) v e).1 e' p=none:=by
 cases v with
 | zero =>
  show mH V E H1 H2 V e' p=none
  have he:E+e<e':=he
  simp only [mH,Nat.lt_irrefl,if_false]
  cases p with
  | nil=>simp only; rw [if_neg (by omega)]; exact h2 e' (by omega) []
  | cons s q=>simp only; rw [if_neg (by omega)]; exact h _ (by omega) _
 | succ v =>
  show mH V E H1 H2 (V+(v+1)) e' p=none
  have he:e<e':=he
  unfold mH
  rw [if_neg (by omega),if_pos (by omega)]
  have h3:V+(v+1) - V=v+1:=by omega
  rw [h3]; exact h e' he p
end Go.TM
namespace Go.TM
open Go.RowKit
variable [cj]
def rW (m:Nat) (b:ak) (H1 H2:Nat→Nat→List PS→Option Value) (j:Nat):Nat→Nat→List PS→Option Value :=
 if j<m then (match b with
  | .tree V E _=>mH V E H1 H2
  | .none=>H2
  | _=>H1) else H2
def cx (σ:List Nat) (nx ex:Nat) (κ:Nat→ak) (G1 G2:Gh):Gh where
 M:=G2.M
 β i:=match ij σ nx ex i with
  | some j=>G2.β j
  | none=>G1.β i
 H i:=match ij σ nx ex i with
  | some j=>rW σ.length (κ i) (G1.H i) (G2.H j) j
  | none=>G1.H i
 X i:=match ij σ nx ex i with
  | some j=>G2.X j
  | none=>G1.X i
theorem gT {κ κ':Nat→ak}:∀{m:Nat},yt κ κ' m=true→∀j,j<m →
  (∃l l',κ j=.cells l∧κ' j=.cells l') ∨ (∃rc st l BU L8 l',κ j=.eg rc st l∧κ' j=.eg BU L8 l') ∨ (∃v e d,κ j=.tree v e d∧(κ' j=.dead ∨ (∃v' e' d',κ' j=.tree v' e' d') ∨ ∃v' d',κ' j=.fz v' d')) ∨ (∃v d d',κ j=.fz v d∧κ' j=.fz 0 d')
 | 0,_,j,h=>by omega
 | m+1,hk,j,hj=>by
  simp only [yt,Bool.and_eq_true] at hk
  rcases Nat.lt_or_ge j m with aK | db
  ·exact gT hk.2 j aK
  ·have:j=m:=by omega
   subst this
   have h1:=hk.1
   split at h1
   ·rename_i l l' e1 e2; exact .inl ⟨_,_,e1,e2⟩
   ·rename_i e1 e2; exact .inr (.inl ⟨_,_,_,_,_,_,e1,e2⟩)
   ·rename_i e1 e2; exact .inr (.inr (.inl ⟨_,_,_,e1,.inr (.inl ⟨_,_,_,e2⟩)⟩))
   ·rename_i e1 e2; exact .inr (.inr (.inl ⟨_,_,_,e1,.inr (.inr ⟨_,_,e2⟩)⟩))
   ·rename_i e1 e2; exact .inr (.inr (.inl ⟨_,_,_,e1,.inl e2⟩))
   ·rename_i e1 e2; exact .inr (.inr (.inr ⟨_,_,_,e1,e2⟩))
   ·cases h1
theorem yu {ok:Nat→Bool}:∀{K:af},Rg ok K=true→∀i b,(i,b)∈K→b.PC ok=true
 | [],_,i,b,h=>by simp at h
 | (j,c)::K,hn,i,b,h=>by
  simp only [Rg,Bool.and_eq_true] at hn
  rcases List.mem_cons.1 h with h | h
  ·injection h with e1 e2; subst e2; exact hn.1
  ·exact yu hn.2 i b h
theorem Fm {σ:List Nat} {nx ex:Nat} {κ κ1:Nat→ak} {G0 G1 G2:Gh} {w w2:World} {K0 K1:af} {rs:List AV} {v:Value}
  (hσ1:∀i,i∈σ→i<nx) (hσ2:σ.Nodup) (il:∀i,nx≤i→i<nx+ex→κ1 i=.none) (JX:Fit G1 w κ1)
  (TY:∀i,i∈σ→∀V E d,κ i=.tree V E d→(∀v,V<v→∀e p,G1.H i v e p=none)∧∀e,E<e→∀p,G1.H i V e p=none)
  (wJ:∀i,i∈σ→κ i=.none→∀v e p,G1.H i v e p=none)
  (Vd:∀j,j<σ.length→∀V E d,κ (sg σ nx j)=.tree V E d→(∀x,G1.H (sg σ nx j) V 0 []=some x→G0.H j 0 0 []=some x)∧∀s q x,G1.H (sg σ nx j) V E (s::q)=some x→G0.H j 0 0 (s::q)=some x)
  (jt:∀j,j<σ.length→∀V d,κ (sg σ nx j)=.fz V d→∃x,G1.H (sg σ nx j) V 0 []=some x∧G0.H j 0 0 []=some x)
  (hβ0:∀j,j<σ.length→G0.β j=G1.β (sg σ nx j)) (TZ:G0.M=G1.M)
  (rX:∀j b,bE G0 j (aa K0 j) b→j<σ.length∧bE G1 (sg σ nx j) (κ1 (sg σ nx j)) b)
  (Ee:∀j,j<σ.length→(∀v e d,aa K0 j=.tree v e d→(∃V E d,κ (sg σ nx j)=.tree V E d) ∨ κ (sg σ nx j)=.none)∧(∀v d,aa K0 j=.fz v d→(∃V E d,κ (sg σ nx j)=.tree V E d) ∨ ∃V d,κ (sg σ nx j)=.fz V d))
  (eG:fV σ ex K0 K1 rs=true) (hC:Hv σ.length ex (aa K0) w G0 rs (aa K1) w2 G2 v) :
  GP (fun i=>∃j,ij σ nx ex i=some j) κ1 (aq κ1 (bP (sg σ nx) (iX κ σ) K1)) G1 (cx σ nx ex κ G1 G2) w w2∧(∀i,i<nx→(cx σ nx ex κ G1 G2).β i=G1.β i)∧aC (cx σ nx ex κ G1 G2) (kB (sg σ nx) (iX κ σ) (ic rs)) v:=by
 simp only [fV,Bool.and_eq_true] at eG
 obtain ⟨⟨⟨dU,Cv⟩,Rc⟩,HF⟩:=eG
 have dk:=HB hσ1 hσ2
 have OY:∀j,j<σ.length+ex→ij σ nx ex (sg σ nx j)=some j:=fun j hj=>Ko hσ1 hσ2 hj
 have Am:∀j (h:j<σ.length),sg σ nx j∈σ:=fun j h=>by rw [ig h]; exact List.getElem_mem h
 have fX:∀j,σ.length+ex≤j→G2.β j=none∧∀v e p,G2.H j v e p=none:=fun j hj=>by
  have:=hC.fit.box j; rw [hC.no j hj] at this; exact this
 have L9β:∀j,j<σ.length+ex→(cx σ nx ex κ G1 G2).β (sg σ nx j)=G2.β j:=fun j hj=>by simp only [cx,OY j hj]
 have Ve:∀j,j<σ.length+ex→(cx σ nx ex κ G1 G2).X (sg σ nx j)=G2.X j:=fun j hj=>by simp only [cx,OY j hj]
 have Fo:∀j,j<σ.length+ex→(cx σ nx ex κ G1 G2).H (sg σ nx j)=rW σ.length (κ (sg σ nx j)) (G1.H (sg σ nx j)) (G2.H j) j:=fun j hj=>by simp only [cx,OY j hj]
 have Sn:∀j (h:j<σ.length),iX κ σ j=Hz (κ (sg σ nx j)):=fun j h=>by rw [Hy h,ig h]
 have HT:∀j,j<σ.length+ex→(j<σ.length→(∃V E d,κ (sg σ nx j)=.tree V E d) ∨ κ (sg σ nx j)=.none) →
   (∀v e,az (cx σ nx ex κ G1 G2).H (sg σ nx j) (lT (iX κ σ j) v e).1 (lT (iX κ σ j) v e).2=az G2.H j v e) ∧
   (∀v e,(∀v',v<v'→∀e p,G2.H j v' e p=none)→∀v',(lT (iX κ σ j) v e).1<v'→∀e p,(cx σ nx ex κ G1 G2).H (sg σ nx j) v' e p=none) ∧
   (∀v e,(∀e',e<e'→∀p,G2.H j v e' p=none)→∀e',(lT (iX κ σ j) v e).2<e'→∀p,(cx σ nx ex κ G1 G2).H (sg σ nx j) (lT (iX κ σ j) v e).1 e' p=none):=by
  intro j hj hc
  have plain:(cx σ nx ex κ G1 G2).H (sg σ nx j)=G2.H j→iX κ σ j=(0,0)→_:=fun h1 h2 =>
   (show (∀v e,az (cx σ nx ex κ G1 G2).H (sg σ nx j) (lT (iX κ σ j) v e).1 (lT (iX κ σ j) v e).2=az G2.H j v e) ∧
   (∀v e,(∀v',v<v'→∀e p,G2.H j v' e p=none)→∀v',(lT (iX κ σ j) v e).1<v'→∀e p,(cx σ nx ex κ G1 G2).H (sg σ nx j) v' e p=none) ∧
   (∀v e,(∀e',e<e'→∀p,G2.H j v e' p=none)→∀e',(lT (iX κ σ j) v e).2<e'→∀p,(cx σ nx ex κ G1 G2).H (sg σ nx j) (lT (iX κ σ j) v e).1 e' p=none) by
    rw [h2]
    simp only [gQ]
    refine ⟨fun v e=>funext fun p=>by cases p <;> simp only [az,h1],fun v e h v' hv e p=>by rw [h1]; exact h v' hv e p,fun v e h e' he p=>by rw [h1]; exact h e' he p⟩)
  rcases Nat.lt_or_ge j σ.length with aK | db
  ·rcases hc aK with ⟨V,E,d,hk⟩ | hk
   ·have h1:(cx σ nx ex κ G1 G2).H (sg σ nx j)=mH V E (G1.H (sg σ nx j)) (G2.H j):=by rw [Fo j hj]; simp only [rW,if_pos aK,hk]
    have h2:iX κ σ j=(V,E):=by rw [Sn j aK,hk]; rfl
    obtain ⟨u1,u2⟩:=TY _ (Am j aK) V E d hk
    rw [h2]
    refine ⟨fun v e=>funext fun p=>?_,fun v e h v' hv e' p=>by rw [h1]; exact PA h hv e' p,fun v e h e' he p=>by rw [h1]; exact PB u2 h he p⟩
    cases p with
    | nil=>simp only [az,h1]; exact (HE v e).1
    | cons s q=>simp only [az,h1]; exact (HE v e).2 s q
   ·exact plain (by rw [Fo j hj]; simp only [rW,if_pos aK,hk]) (by rw [Sn j aK,hk]; rfl)
  ·exact plain (by rw [Fo j hj]; simp only [rW,if_neg (Nat.not_lt.2 db)]) (Ed db)
 have hpβ:∀j b,G2.β j=some b→(cx σ nx ex κ G1 G2).β (sg σ nx j)=some b:=by
  intro j b hb
  rcases Nat.lt_or_ge j (σ.length+ex) with aK | db
  ·rw [L9β j aK]; exact hb
  ·rw [(fX j db).1] at hb; cases hb
 have Vf:∀j v e p x,Cy σ.length (aa K0) j=true→az G2.H j v e p=some x→az (cx σ nx ex κ G1 G2).H (sg σ nx j) (lT (iX κ σ j) v e).1 (lT (iX κ σ j) v e).2 p=some x:=by
  intro j v e p x bK hx
  rcases Nat.lt_or_ge j (σ.length+ex) with aK | db
  ·rw [(HT j aK fun hj=>?_).1]
   ·exact hx
   ·simp only [Cy] at bK
    rw [show Nat.blt j σ.length=true by rw [Nat.blt_eq]; exact hj] at bK
    simp only [cond_true] at bK
    split at bK
    ·rename_i d hd; exact (Ee j hj).1 _ _ _ hd
    ·cases bK
  ·cases p with
   | nil=>simp only [az] at hx; rw [(fX j db).2] at hx; cases hx
   | cons s q=>simp only [az] at hx; rw [(fX j db).2] at hx; cases hx
 have HG:=HD (G2:=G2) (G3:=cx σ nx ex κ G1 G2) (r:=sg σ nx) (sh:=iX κ σ) (ok:=Cy σ.length (aa K0)) (Mem.Le.refl _) hpβ Vf
 have hκ3:∀j,aq κ1 (bP (sg σ nx) (iX κ σ) K1) (sg σ nx j)=if j∈keys K1 then pE (sg σ nx) (iX κ σ) j (aa K1 j) else κ1 (sg σ nx j):=fun j=>np dk _ K1 j
 have Fl:∀j,j<σ.length→j∈keys K1:=fun j hj=>by
  refine Classical.byContradiction fun hn=>?_
  have h0:=fA hn
  rcases gT dU j hj with ⟨_,_,_,h⟩ | ⟨_,_,_,_,_,_,_,h⟩ | ⟨_,_,_,_,h | ⟨_,_,_,h⟩ | ⟨_,_,h⟩⟩ | ⟨_,_,_,_,h⟩ <;> rw [h0] at h <;> cases h
 have dj:∀j,j<σ.length+ex→j ∉ keys K1→κ1 (sg σ nx j)=.none:=fun j hj hn=>by
  rcases Nat.lt_or_ge j σ.length with aK | db
  ·exact absurd (Fl j aK) hn
  ·rw [gR db]; exact il _ (by omega) (by omega)
 have ub:∀j,j<σ.length+ex→∀v e d,aa K1 j=.tree v e d→(j<σ.length→(∃V E d,κ (sg σ nx j)=.tree V E d) ∨ κ (sg σ nx j)=.none):=by
  intro j hj v e d hd aK
  rcases gT dU j aK with ⟨_,_,_,h⟩ | ⟨_,_,_,_,_,_,_,h⟩ | ⟨_,_,_,h0,_⟩ | ⟨_,_,_,_,h⟩
  ·rw [hd] at h; cases h
  ·rw [hd] at h; cases h
  ·exact (Ee j aK).1 _ _ _ h0
  ·rw [hd] at h; cases h
 have gK:∀j,j<σ.length+ex→∀b,bE (cx σ nx ex κ G1 G2) (sg σ nx j) (aq κ1 (bP (sg σ nx) (iX κ σ) K1) (sg σ nx j)) b→bE G2 j (aa K1 j) b:=by
  intro j hj b ho
  rw [hκ3] at ho
  by_cases hk:j∈keys K1
  ·rw [if_pos hk] at ho
   cases hl:aa K1 j with
   | cells l=>rw [hl] at ho; simp only [pE,bE] at ho ⊢; rw [L9β j hj] at ho; exact ho
   | tree v e d=>rw [hl] at ho; simp only [pE,bE] at ho ⊢; rw [(HT j hj (ub j hj v e d hl)).1] at ho; exact ho
   | eg rc st l=>rw [hl] at ho; simp only [pE,bE] at ho ⊢; rw [L9β j hj] at ho; exact ho
   | _=>rw [hl] at ho; exact ho.elim
  ·rw [if_neg hk,dj j hj hk] at ho; exact ho.elim
 have Vg:Gh.Le G1 (cx σ nx ex κ G1 G2):=by
  refine ⟨by have:=hC.le; rw [TZ] at this; exact this,fun i b hb=>?_,fun i v e p x hx=>?_⟩
  ·cases nE:ij σ nx ex i with
   | none=>simp only [cx,nE]; exact hb
   | some j =>
    obtain ⟨hj,rfl⟩:=gA nE
    rw [L9β j hj]
    rcases Nat.lt_or_ge j σ.length with aK | db
    ·rw [hC.ju j aK,hβ0 j aK]; exact hb
    ·have dz:=JX.box (sg σ nx j)
     rw [gR db,il _ (by omega) (by omega)] at dz
     rw [gR db,dz.1] at hb; cases hb
  ·cases nE:ij σ nx ex i with
   | none=>simp only [cx,nE]; exact hx
   | some j =>
    obtain ⟨hj,rfl⟩:=gA nE
    rw [Fo j hj]
    rcases Nat.lt_or_ge j σ.length with aK | db
    ·simp only [rW,if_pos aK]
     cases hk:κ (sg σ nx j) with
     | tree V E d =>
      obtain ⟨u1,u2⟩:=TY _ (Am j aK) V E d hk
      obtain ⟨q1,q2⟩:=Vd j aK V E d hk
      exact Ns u1 u2 (fun x h=>hC.rE j aK [] x (q1 x h)) (fun s q x h=>hC.rE j aK (s::q) x (q2 s q x h)) hx
     | none=>rw [wJ _ (Am j aK) hk] at hx; cases hx
     | _=>exact hx
    ·have dz:=JX.box (sg σ nx j)
     rw [gR db,il _ (by omega) (by omega)] at dz
     rw [gR db,dz.2] at hx; cases hx
 refine ⟨⟨Vg,fun i hi=>?_,fun i hi=>?_,fun i hi=>?_,fun b hb HH=>?_,hC.fit.sub,?_,?_,?_,hC.size,hC.os,hC.tape,hC.output⟩,fun i hi=>?_,?_⟩
 ·have:ij σ nx ex i=none:=by cases h:ij σ nx ex i with | none=>rfl | some j=>exact absurd ⟨j,h⟩ hi
  simp only [cx,this]
 ·refine lH _ K1 i fun j hj e=>hi ⟨j,?_⟩
  rw [←e]; exact OY j (cV Cv j hj)
 ·have:ij σ nx ex i=none:=by cases h:ij σ nx ex i with | none=>rfl | some j=>exact absurd ⟨j,h⟩ hi
  simp only [cx,this]
  exact ⟨fun _ h=>h,fun _ _ _ _ h=>h⟩
 ·have:=hC.frame b hb fun j ho=>by
   obtain ⟨hj,gL⟩:=rX j b ho
   exact HH _ ⟨j,OY j (by omega)⟩ gL
  rw [TZ] at this
  exact this
 ·rintro i ⟨j,nE⟩
  obtain ⟨hj,rfl⟩:=gA nE
  have cl:=hC.fit.box j
  rw [hκ3]
  by_cases hk:j∈keys K1
  ·rw [if_pos hk]
   have PD:(j,aa K1 j)∈K1 ∨ aa K1 j=.none:=(fv (K:=K1) (i:=j)).symm
   cases hl:aa K1 j with
   | none=>trivial
   | dead=>trivial
   | held=>trivial
   | iF _ _ _ _ _=>trivial
   | cells l =>
    rw [hl] at cl
    obtain ⟨b,c,t,h1,h2,h3,h4,h5⟩:=cl
    have PE:AV.we (Cy σ.length (aa K0)) l=true:=by
     rcases PD with h | h
     ·have:=yu HF j _ h; rw [hl] at this; exact this
     ·rw [hl] at h; cases h
    refine ⟨b,c,t,by rw [L9β j hj]; exact h1,h2,by rw [h3,mz],fun u hu=>?_,fun q d y hd hy=>?_⟩
    ·obtain ⟨q,hq⟩:=List.getElem?_of_mem hu
     rw [ua] at hq
     cases So:l[q]? with
     | none=>rw [So] at hq; simp at hq
     | some u0=>rw [So] at hq; simp at hq; subst hq; rw [Cx]; exact h4 u0 (List.mem_of_getElem? So)
    ·have:=(HG (SizeOf.sizeOf l+1)).2 l c.toList (by omega) PE ⟨by simp [h3],fun q d y hd hy=>h5 q d y hd (by simpa using hy)⟩
     exact this.2 q d y hd (by simpa using hy)
   | tree v e d =>
    rw [hl] at cl
    obtain ⟨q1,q2,q3⟩:=HT j hj (ub j hj v e d hl)
    refine ⟨?_,?_,q2 v e cl.2.2.1,q3 v e cl.2.2.2⟩
    ·rw [q1]; exact cl.1
    ·rw [q1]; exact cl.2.1
   | fz v d =>
    rw [hl] at cl
    obtain ⟨u,h1,h2,h3⟩:=cl
    refine ⟨u,?_,h2,h3⟩
    have Nt:(j<σ.length→(∃V E d,κ (sg σ nx j)=.tree V E d) ∨ κ (sg σ nx j)=.none)→(cx σ nx ex κ G1 G2).H (sg σ nx j) (lT (iX κ σ j) v 0).1 0 []=some u:=fun hh=>by
     have:=congrFun ((HT j hj hh).1 v 0) []
     simp only [az] at this
     rw [this]; exact h1
    rcases Nat.lt_or_ge j σ.length with aK | db
    ·rcases gT dU j aK with ⟨_,_,_,h⟩ | ⟨_,_,_,_,_,_,_,h⟩ | ⟨_,_,_,h0,_⟩ | ⟨_,_,_,h0,h⟩
     ·rw [hl] at h; cases h
     ·rw [hl] at h; cases h
     ·exact Nt fun _=>(Ee j aK).1 _ _ _ h0
     ·rw [hl] at h; injection h with e1 e2
      subst e1
      rcases (Ee j aK).2 _ _ h0 with hT | ⟨V,d',hF⟩
      ·exact Nt fun _=>.inl hT
      ·obtain ⟨x,p1,p2⟩:=jt j aK V d' hF
       have p3:=hC.rE j aK [] x p2
       rw [h1] at p3; injection p3 with p3; subst p3
       rw [Fo j hj]
       simp only [rW,if_pos aK,hF]
       rw [Sn j aK,hF]
       exact p1
    ·exact Nt fun h=>absurd h (by omega)
   | eg rc st l =>
    rw [hl] at cl
    obtain ⟨b,fn,tmps,D,h1,h2,h3⟩:=cl
    have PE:AV.we (Cy σ.length (aa K0)) l=true:=by
     rcases PD with h | h
     ·have:=yu HF j _ h; rw [hl] at this; exact this
     ·rw [hl] at h; cases h
    exact ⟨b,fn,tmps,D,by rw [L9β j hj]; exact h1,h2,(HG (SizeOf.sizeOf l+1)).2 l tmps.toList (by omega) PE h3⟩
  ·rw [if_neg hk,dj j hj hk]
   rw [fA hk] at cl
   refine ⟨by rw [L9β j hj]; exact cl.1,fun v e p=>?_⟩
   rw [Fo j hj]
   rcases Nat.lt_or_ge j σ.length with aK | db
   ·exact absurd (Fl j aK) hk
   ·simp only [rW,if_neg (Nat.not_lt.2 db)]; exact cl.2 v e p
 ·rintro i b ⟨j,nE⟩ ho
  obtain ⟨hj,rfl⟩:=gA nE
  have BQ:=gK j hj b ho
  refine ⟨?_,hC.fit.own j b BQ⟩
  rcases hC.ow j b BQ with h | ⟨q,hq⟩
  ·exact .inl h
  ·obtain ⟨h1,h2⟩:=rX q b hq
   exact .inr ⟨_,⟨q,OY q (by omega)⟩,h2⟩
 ·rintro i i' b ⟨j,nE⟩ ⟨j',Sp⟩ ho gL
  obtain ⟨hj,rfl⟩:=gA nE
  obtain ⟨nL,rfl⟩:=gA Sp
  rw [hC.fit.inj j j' b (gK j hj b ho) (gK j' nL b gL)]
 ·cases nE:ij σ nx ex i with
  | none=>simp only [cx,nE]
  | some j =>
   obtain ⟨hj,rfl⟩:=gA nE
   rw [L9β j hj]
   rcases Nat.lt_or_ge j σ.length with aK | db
   ·rw [hC.ju j aK,hβ0 j aK]
   ·rw [gR db] at hi; omega
 ·refine (HG (SizeOf.sizeOf (ic rs)+1)).1 (ic rs) v (by omega) ?_ hC.res
  match rs,Rc with
  | [],_=>rfl
  | [d],h=>simp only [AV.we,Bool.and_eq_true] at h; exact h.1
  | _::_::_,h=>exact h
end Go.TM
