import Derived.Test.YtpbdohkbiklflaaGreatDoorPM14
import Derived.RangeFuncRecord
set_option linter.unusedVariables false
set_option linter.unusedSimpArgs false
set_option linter.unusedSectionVars false
namespace Go.TM
open Go.RowKit
variable [ct]
def rN:Nat→List DV→Env
 | _,[]=>[]
 | i,d::r=>(i,vg d)::rN (i+1) r
def Mr (T:List TI) (ρ:Nat→AV) (κ:Nat→ao):ResultVar→(DV→Prop)→Prop
 | .tmp t,k=>match toArg κ (ρ t) with
  | some (d,_)=>k d
  | none=>False
 | .cell t ty,k=>bif (nth T ty).ok then match res κ (ρ t) with
  | .ptr i off=>match κ i with
   | .cells l=>bX (nth T ty).agg l off (nth T ty).size fun v=>match toArg κ v with
    | some (d,_)=>k d
    | none=>False
   | _=>False
  | _=>False
  else False
def BJ (T:List TI) (ρ:Nat→AV) (κ:Nat→ao):List ResultVar→List DV→Prop
 | [],[]=>True
 | v::r,d::ds=>Mr T ρ κ v (fun d'=>d'.Le d)∧BJ T ρ κ r ds
 | _,_=>False
def dS:Nat→List AV→Env
 | _,[]=>[]
 | i,v::r=>(i,v)::dS (i+1) r
def zM (T:List TI) (ρ:Nat→AV) (κ:Nat→ao):List ResultVar→(List AV→Prop)→Prop
 | [],k=>k []
 | .tmp t::r,k=>force (res κ (ρ t)) fun v=>zM T ρ κ r fun l=>k (v::l)
 | .cell t ty::r,k=>bif (nth T ty).ok then match res κ (ρ t) with
  | .ptr i off=>match κ i with
   | .cells l=>bX (nth T ty).agg l off (nth T ty).size fun v=>zM T ρ κ r fun l=>k (v::l)
   | _=>False
  | _=>False
  else False
def zN (m ex:Nat) (κ:Nat→ao) (iX rs:List AV) (K':ah):Bool :=
 N9 (m+ex) (aa K') K' && AV.FV (aa K') rs && zG (aa K') (dB κ rs iX++eh κ K') && u6 κ (aa K') m
def Jq (T:List TI) (fn:Func) (m ex:Nat) (R:List AV→ah→Prop) (env:Env) (K:ah):Prop :=
 zM T (look env) (aa K) fn.results.toList fun iX=>∃rs K',R rs K'∧zN m ex (aa K) iX rs K'=true∧eg m (aa K) (aa K') rs iX∧o7 m (aa K) (aa K') K'
def vh (T:List TI) (fn:Func) (m ex:Nat) (R:List AV→ah→Prop) (e:AX) (_nx:Nat) (env:Env) (K:ah):Prop :=
 match e with
 | .normal=>Jq T fn m ex R env K
 | .ret=>Jq T fn m ex R env K
 | .exit _=>False
def RO (T:List TI) (fn:Func) (rs:List DV) (e:AX) (_nx:Nat) (env:Env) (K:ah):Prop :=
 match e with
 | .normal=>BJ T (look env) (aa K) fn.results.toList rs
 | .ret=>BJ T (look env) (aa K) fn.results.toList rs
 | .exit _=>False
section
variable {P:Program} {C:dy→Prop} {T:List TI} {n:Nat} {g:dy}
theorem putObj_size (w:World) (b:Nat) (o:Obj):(w.putObj b o).heap.size=w.heap.size:=by simp [World.putObj]
theorem eX (w:World) {b k:Nat} (o:Obj) (h:k ≠ b):(w.putObj b o).heap[k]?=w.heap[k]?:=by
 simp only [World.putObj]
 rw [Array.getElem?_setIfInBounds_ne (fun e=>h e.symm)]
theorem bZ.shut {ρ:Nat→AV} {κ:Nat→ao} {a:Act} {w:World} {G:Gh} (h:bZ g n ρ κ a w G) {D:List Nat} {r:Nat} (hD:a.defers=(r::D).map mark) :
  w.heap[r]?=some (.deferred (some []))∧bZ g n ρ κ { a with defers:=D.map mark } (w.putObj r (.deferred none)) G:=by
 obtain ⟨D',h1,h2,h3⟩:=h.rn
 have XK:D'=r::D:=by
  rw [h1] at hD
  have inj:∀x y:Nat,mark x=mark y→x=y:=fun x y e=>by simp only [mark,Deferred.mk.injEq,Target.collected.injEq] at e; exact e.1
  have:∀(l l':List Nat),l.map mark=l'.map mark→l=l':=by
   intro l
   induction l with
   | nil=>intro l' e; cases l' with
    | nil=>rfl
    | cons=>simp at e
   | cons x l ih=>intro l' e; cases l' with
    | nil=>simp at e
    | cons y l'=>simp only [List.map_cons,List.cons.injEq] at e; rw [inj x y e.1,ih l' e.2]
  exact this _ _ hD
 subst XK
 obtain ⟨a1,a2,a3,a4⟩:=h3 r (by simp)
 have bD:∀i b,bI G i (κ i) b→b ≠ r:=fun i b ho e=>a2 i (e ▸ ho)
 have eo:G.M.In (w.putObj r (.deferred none)):=fun b o hb=>by
  rw [eX _ _ (fun e=>by rw [e,a3] at hb; cases hb)]; exact h.fit.sub b o hb
 refine ⟨a1,{ h with fit:=⟨eo,fun i=>(h.fit.box i).fR (.refl G) rfl (fun _=>⟨fun _ h=>h,fun _ _ _ _ h=>h⟩) (fun b hb=>eX _ _ (bD i b hb)) eo (h.fit.own i) (by rw [putObj_size]; exact Nat.le_refl _),h.fit.own,h.fit.inj⟩,xP:=fun b hb hO=>by rw [eX _ _ (by omega)]; exact h.xP b hb hO,os:=h.os,tape:=h.tape,output:=h.output,grow:=by rw [putObj_size]; exact h.grow,rn:=?_ }⟩
 refine ⟨D,rfl,(List.nodup_cons.1 h2).2,fun q hq=>?_⟩
 obtain ⟨b1,b2,b3,b4⟩:=h3 q (by simp [hq])
 have XM:q ≠ r:=fun e=>(List.nodup_cons.1 h2).1 (by rw [←e]; exact hq)
 exact ⟨by rw [eX _ _ XM]; exact b1,b2,b3,b4⟩
theorem bZ.leave {ρ:Nat→AV} {κ:Nat→ao} {G:Gh} {F:Fence} {fn:Func} {R:Ending→World→Prop} (tmps:Array Value) (mB:∀w',bZ g n ρ κ { tmps:=tmps,defers:=[] } w' G→∃v,(results fn tmps).run P w'=.ok v w'∧R (.returned v) w') :
  ∀(D:List Nat) (w:World),bZ g n ρ κ { tmps:=tmps,defers:=D.map mark } w G→LeavesInM F 0 P fn tmps R (D.map mark) .returning w
 | [],w,h=>mB w h
 | r::D,w,h=>by
  obtain ⟨h1,h2⟩:=h.shut (D:=D) (r:=r) rfl
  exact ⟨by simp,.inl ⟨r,_,rfl,run_takeDeferred h1,bZ.leave tmps mB D _ h2⟩⟩
theorem vj:∀(ds:List DV) (s t:Nat),look (rN s ds) t=if s≤t then (match ds[t - s]? with | some d=>vg d | none=>.any) else .any
 | [],s,t=>by simp [rN,look]
 | d::r,s,t=>by
  simp only [rN,look]
  rw [vj r (s+1) t]
  by_cases h1:s=t
  ·subst h1; simp
  ·have hb:Nat.beq s t=false:=by cases hb:Nat.beq s t with | false=>rfl | true=>exact absurd (Nat.eq_of_beq_eq_true hb) h1
   rw [hb]
   by_cases h2:s≤t
   ·have e:t - s=t - (s+1)+1:=by omega
    rw [if_pos h2,if_pos (by omega),e]; simp
   ·rw [if_neg h2,if_neg (by omega)]; simp
theorem BK (hT:ef P T) {ρ:Nat→AV} {κ:Nat→ao} {a:Act} {w:World} {G:Gh} (ai:bZ g n ρ κ a w G) {rv:ResultVar} {q:DV→Prop} (h:Mr T ρ κ rv q) :
  ∃(d:DV) (ids:List Nat),q d∧∃v,(match rv with | .tmp t=>pure (a.tmps.getD t undef) | .cell t ty=>do loadVar ty (←asAddr (a.tmps.getD t undef)):Sem Value).run P w=.ok v w ∧
   ∀(all:List Nat) (G':Gh),(∀i,i∈ids→i∈all)→Gh.Le G G'→Fit G' w (aw κ (jV κ all))→bk G'.M d v:=by
 cases rv with
 | tmp t =>
  simp only [Mr] at h
  split at h
  ·rename_i d ids hd
   refine ⟨d,ids,h,_,rfl,fun all G' hs hle iE=>m5 (κ:=κ) (κ':=κ) (fun _ _=>rfl) hle iE hd hs (ai.env t)⟩
  ·exact h.elim
 | cell t ty =>
  simp only [Mr] at h
  have hh:=aH h; clear h; obtain ⟨bY,h⟩:=hh
  split at h
  ·rename_i i off hr
   split at h
   ·rename_i l hk
    obtain ⟨av,h,hp⟩:=dE h
    split at h
    ·rename_i d ids hd
     have hv:=vk ai.fit (ai.env t)
     rw [hr] at hv
     have rO:=ai.fit.box i
     rw [hk] at rO
     obtain ⟨b,c,tt,jq,hw,aT,jY,RP⟩:=rO
     generalize hx:a.tmps.getD t undef=x at hv
     cases hv with | ptr _ _ b' cO =>
     rw [jq] at cO; injection cO with cO; subst cO
     have hA:(⟨b,off,none⟩:Addr)=(⟨b,0,none⟩:Addr).add off:=by rw [cE]; simp
     obtain ⟨v,h1,h2⟩:=jA (P:=P) (av:=av) (w:=w) (G:=G) (l:=l) (off:=off) hT bY ⟨b,0,none⟩ (fun j=>c.getD j undef) (fun j hj=>by
       rw [cE]
       simp [World.cell?,hw,aT,hj]) (fun j d hd=>by
       have hj:j<l.length:=(List.getElem?_eq_some_iff.1 hd).1
       exact RP j d _ hd (by simp [aT,hj])) hp
     rw [←hA] at h1
     refine ⟨d,ids,h,v,?_,fun all G' hs hle iE=>m5 (κ:=κ) (κ':=κ) (fun _ _=>rfl) hle iE hd hs h2⟩
     simp only [Instr.loadAt,Instr.sureAddr,Sem.run_bind,Sem.run_pure,Result.andThen_ok] at h1
     simp only [hx,asAddr,Sem.run_bind,Sem.run_pure,Result.andThen_ok]
     exact h1
    ·exact h.elim
   ·exact h.elim
  ·exact h.elim
theorem vl (hT:ef P T) {ρ:Nat→AV} {κ:Nat→ao} {a:Act} {w:World} {G:Gh} (ai:bZ g n ρ κ a w G):∀{Jr:List ResultVar} {rs:List DV},BJ T ρ κ Jr rs →
  ∃(ids:List Nat) (us:List Value),((Jr.mapM fun | .tmp t=>pure (a.tmps.getD t undef) | .cell t ty=>do loadVar ty (←asAddr (a.tmps.getD t undef))):Sem (List Value)).run P w=.ok us w ∧
   ∀(all:List Nat) (G':Gh),(∀i,i∈ids→i∈all)→Gh.Le G G'→Fit G' w (aw κ (jV κ all))→eQ G'.M rs us
 | [],[],_=>⟨[],[],rfl,fun _ G' _ _ _=>.nil G'.M⟩
 | [],_::_,h=>h.elim
 | _::_,[],h=>h.elim
 | rv::Jr,r::rs,⟨h1,h2⟩=>by
  obtain ⟨d,ids,hle,v,bc,hd⟩:=BK hT ai h1
  obtain ⟨UR,us,Js,DP⟩:=vl hT ai h2
  refine ⟨ids++UR,v::us,?_,fun all G' hs hm iE=>.cons (hle G'.M v (hd all G' (fun i hi=>hs i (by simp [hi])) hm iE)) (DP all G' (fun i hi=>hs i (by simp [hi])) hm iE)⟩
  rw [List.mapM_cons]
  simp only [Sem.run_bind]
  rw [bc]
  simp only [Result.andThen_ok,Sem.run_bind,Js,Sem.run_pure]
theorem m8:∀(ds:List AV) (s t:Nat),look (dS s ds) t=if s≤t then (match ds[t - s]? with | some d=>d | none=>.any) else .any
 | [],s,t=>by simp [dS,look]
 | d::r,s,t=>by
  simp only [dS,look]
  rw [m8 r (s+1) t]
  by_cases h1:s=t
  ·subst h1; simp
  ·have hb:Nat.beq s t=false:=by cases hb:Nat.beq s t with | false=>rfl | true=>exact absurd (Nat.eq_of_beq_eq_true hb) h1
   rw [hb]
   by_cases h2:s≤t
   ·have e:t - s=t - (s+1)+1:=by omega
    rw [if_pos h2,if_pos (by omega),e]; simp
   ·rw [if_neg h2,if_neg (by omega)]; simp
theorem tS (hT:ef P T) {ρ:Nat→AV} {κ:Nat→ao} {a:Act} {w:World} {G:Gh} (ai:bZ g n ρ κ a w G):∀{Jr:List ResultVar} {q:List AV→Prop},zM T ρ κ Jr q →
  ∃(iX:List AV) (us:List Value),q iX∧((Jr.mapM fun | .tmp t=>pure (a.tmps.getD t undef) | .cell t ty=>do loadVar ty (←asAddr (a.tmps.getD t undef))):Sem (List Value)).run P w=.ok us w∧bR G iX us
 | [],q,h=>⟨[],[],h,rfl,rfl,by simp⟩
 | .tmp t::Jr,q,h=>by
  simp only [zM,force_eq] at h
  obtain ⟨iX,us,hq,bc,hc⟩:=tS hT ai h
  have hv:=vk ai.fit (ai.env t)
  refine ⟨_,a.tmps.getD t undef::us,hq,?_,by simpa using hc.1,fun j d u hd hu=>?_⟩
  ·rw [List.mapM_cons]
   simp only [Sem.run_bind,Sem.run_pure,Result.andThen_ok,bc]
  ·cases j with
   | zero =>
    rw [List.getElem?_cons_zero] at hd hu
    injection hd with hd; injection hu with hu; subst hd; subst hu; exact hv
   | succ j=>exact hc.2 j d u (by simpa using hd) (by simpa using hu)
 | .cell t ty::Jr,q,h=>by
  simp only [zM] at h
  have hh:=aH h; clear h; obtain ⟨bY,h⟩:=hh
  split at h
  ·rename_i i off hr
   split at h
   ·rename_i l hk
    obtain ⟨av,h,hp⟩:=dE h
    obtain ⟨iX,us,hq,bc,hc⟩:=tS hT ai h
    have hv:=vk ai.fit (ai.env t)
    rw [hr] at hv
    have rO:=ai.fit.box i
    rw [hk] at rO
    obtain ⟨b,c,tt,jq,hw,aT,jY,RP⟩:=rO
    generalize hx:a.tmps.getD t undef=x at hv
    cases hv with | ptr _ _ b' cO =>
    rw [jq] at cO; injection cO with cO; subst cO
    have hA:(⟨b,off,none⟩:Addr)=(⟨b,0,none⟩:Addr).add off:=by rw [cE]; simp
    obtain ⟨v,h1,h2⟩:=jA (P:=P) (av:=av) (w:=w) (G:=G) (l:=l) (off:=off) hT bY ⟨b,0,none⟩ (fun j=>c.getD j undef) (fun j hj=>by
      rw [cE]
      simp [World.cell?,hw,aT,hj]) (fun j d hd=>by
      have hj:j<l.length:=(List.getElem?_eq_some_iff.1 hd).1
      exact RP j d _ hd (by simp [aT,hj])) hp
    rw [←hA] at h1
    refine ⟨_,v::us,hq,?_,by simpa using hc.1,fun j d u hd hu=>?_⟩
    ·simp only [Instr.loadAt,Instr.sureAddr,Sem.run_bind,Sem.run_pure,Result.andThen_ok] at h1
     rw [List.mapM_cons]
     have RQ:((do loadVar ty (←asAddr (a.tmps.getD t undef))):Sem Value).run P w=.ok v w:=by
      simp only [hx,asAddr,Sem.run_bind,Sem.run_pure,Result.andThen_ok]; exact h1
     rw [Sem.run_bind]
     simp only
     rw [RQ]
     simp only [Result.andThen_ok,Sem.run_bind,bc,Sem.run_pure]
    ·cases j with
     | zero=>simp at hd hu; subst hd; subst hu; exact h2
     | succ j=>exact hc.2 j d u (by simpa using hd) (by simpa using hu)
   ·exact h.elim
  ·exact h.elim
theorem m9 {fn:Func} {tmps:Array Value} {w:World} {us:List Value} (bc:((fn.results.toList.mapM fun | .tmp t=>pure (tmps.getD t undef) | .cell t ty=>do loadVar ty (←asAddr (tmps.getD t undef))):Sem (List Value)).run P w=.ok us w) :
  (results fn tmps).run P w=.ok (if h:us.toArray.size=1 then us.toArray[0] else .tuple us.toArray) w:=by
 have kJ:((fn.results.mapM fun | .tmp t=>pure (tmps.getD t undef) | .cell t ty=>do loadVar ty (←asAddr (tmps.getD t undef))):Sem (Array Value)).run P w=.ok us.toArray w:=by
  rw [Array.mapM_eq_mapM_toList,Sem.run_map,bc]
  rfl
 unfold results
 rw [Sem.run_bind]
 exact congrArg (fun r=>Result.andThen r (fun (vs:Array Value) w=>(pure (if h:vs.size=1 then vs[0] else .tuple vs):Sem Value).run P w)) kJ
theorem bE (hT:ef P T) (hm:P.follows .mixedOrders=true) (hC:cX P (fun _=>True)) (F0:ie P) {f:Nat} {fn:Func} {c:Code} {args rs:List DV} (hf:P.funcs[f]?=some fn) (hb:fn.body=some c) (dU:(fn.name == "runtime.NumGoroutine")=false)
  (bM:Nat.ble args.length fn.ntmps=true) (h:gl P T .fn fn.ntmps 0 c (RO T fn rs) 0 (rN 0 args) []):cL P f args rs:=by
 refine ⟨⟨fn,hf,dU,by rw [hb]; rfl⟩,fun w M vs eo pP hr=>?_⟩
 refine (fM.calls (n:=0)).1 (callsIn_of_wp_marks hf hb trivial ?_)
 have hlen:vs.length≤fn.ntmps:=by rw [←hr.1]; exact Nat.le_of_ble_eq_true bM
 let g:dy:=⟨fun _=>False,w,M,0,fun _=>none,fun _ _=>none⟩
 let G0:Gh:=⟨M,fun _=>none,fun _ _ _ _=>none,fun _ _=>False⟩
 have ai:bZ g fn.ntmps (look (rN 0 args)) (aa []) { tmps:=vs.toArray++Array.replicate (fn.ntmps - vs.toArray.size) undef,defers:=[] } w G0:=by
  refine { fit:=⟨eo,fun i=>⟨rfl,fun _ _ _=>rfl⟩,fun i b ho=>ho.elim,fun i j b ho=>ho.elim⟩,env:=fun t=>?_,size:=by simp; omega,xP:=fun _ _ _=>rfl,os:=rfl,tape:=rfl,output:=rfl,grow:=Nat.le_refl _,mem:=.refl M,mK:=fun _ _ _=>rfl,ga:=fun i b ho=>ho.elim,jW:=fun i hi=>absurd hi (Nat.not_lt_zero _),rj:=fun i hi=>absurd hi (Nat.not_lt_zero _),oh:=pP,rn:=⟨[],rfl,List.nodup_nil,by simp⟩ }
  rw [vj]
  simp only [Nat.zero_le,if_true,Nat.sub_zero]
  split
  ·rename_i d hd
   have ht:t<vs.length:=by rw [←hr.1]; exact (List.getElem?_eq_some_iff.1 hd).1
   have hv:vs[t]?=some (vs[t]'ht):=List.getElem?_eq_getElem ht
   have:(vs.toArray++Array.replicate (fn.ntmps - vs.toArray.size) undef).getD t undef=vs[t]'ht:=by
    rw [Array.getD_eq_getD_getElem?,Array.getElem?_append_left (by simpa using ht)]
    simp [hv]
   rw [this]
   exact nZ (hr.2 t d _ hd hv)
  ·exact .any _
 refine sW (g:=g) hT hm hC F0 trivial fM (fun _=>rfl) (Nat.le_refl _) c h ⟨⟨G0,ai⟩,Nat.le_refl _,fun _ _=>rfl⟩ fun e nx env K a w' hq hs=>?_
 obtain ⟨⟨G1,fS⟩,_⟩:=hs
 have fin:BJ T (look env) (aa K) fn.results.toList rs→LeavesInM Fence.wide 0 P fn a.tmps (fun e w'=>∃v M',e=.returned v∧Below w.heap.size w w'∧Mem.Le M M'∧M'.In w'∧(∀b,b<w.heap.size→M' b=M b)∧vm M' rs v) a.defers .returning w':=by
  intro rz
  obtain ⟨D,hD,_⟩:=fS.rn
  rw [hD]
  refine bZ.leave (g:=g) (n:=fn.ntmps) (ρ:=look env) (κ:=aa K) (G:=G1) a.tmps (fun w2 o8=>?_) D w' (by have:=fS; rw [←hD]; exact this)
  obtain ⟨ids,us,bc,DP⟩:=vl hT o8 rz
  obtain ⟨G2,hle,_,_,_,iE⟩:=o8.nS (κ:=aa K) ids (fun _ _=>rfl)
  have az:=DP ids G2 (fun i hi=>hi) hle iE.fit
  have PA:Below w.heap.size w w2:=⟨iE.os,iE.tape,iE.output,iE.grow,fun b hb=>iE.xP b hb (fun h=>h)⟩
  refine ⟨_,m9 bc,_,G2.M,rfl,PA,iE.mem,iE.fit.sub,fun b hb=>iE.mK b hb (fun h=>h),?_⟩
  have pc:us.length=rs.length:=az.1.symm
  have many:us.length ≠ 1→∃US:List Value,(if h:us.toArray.size=1 then us.toArray[0] else Value.tuple us.toArray)=.tuple US.toArray∧eQ G2.M rs US:=by
   intro bD
   refine ⟨us,?_,az⟩
   rw [dif_neg (by simpa using bD)]
  match rs,az,pc,many with
  | [],az,pc,many=>exact many (by simp at pc; simp [pc])
  | [d],az,pc,_ =>
   match us,pc,az with
   | [u],_,az=>exact az.2 0 d u rfl rfl
  | _::_::_,az,pc,many=>exact many (by simp at pc; omega)
 cases e with
 | normal=>exact fin hq
 | ret=>exact fin hq
 | exit i=>exact hq.elim
theorem x5 {rm:RM} (Zm:rm.Pr=true) (hT:ef P T) (hm:P.follows .mixedOrders=true) (hC:cX P (fun _=>True)) (F0:ie P) {f:Nat} {fn:Func} {c:Code} {args:List AV} {m ex:Nat} {K:ah} {R:List AV→ah→Prop} (hf:P.funcs[f]?=some fn) (hb:fn.body=some c) (dU:(fn.name == "runtime.NumGoroutine")=false)
  (bM:(Nat.ble args.length fn.ntmps && bo.wf ⟨m,dS 0 args,K⟩)=true) (h:gl P T rm fn.ntmps m c (vh T fn m ex R) m (dS 0 args) K):dK P f args m K ex R:=by
 refine ⟨⟨fn,hf,dU,by rw [hb]; rfl⟩,fun w G vs pP cC hr=>?_⟩
 refine (fM.calls (n:=0)).1 (callsIn_of_wp_marks hf hb trivial ?_)
 simp only [Bool.and_eq_true,bo.wf] at bM
 obtain ⟨hlen,UT,XO⟩:=bM
 have hlen:vs.length≤fn.ntmps:=by rw [←hr.1]; exact Nat.le_of_ble_eq_true hlen
 let g:dy:=⟨fun b=>∃i,bI G i (aa K i) b,w,G.M,m,G.β,fun i p=>G.H i 0 0 p⟩
 have ai:bZ g fn.ntmps (look (dS 0 args)) (aa K) { tmps:=vs.toArray++Array.replicate (fn.ntmps - vs.toArray.size) undef,defers:=[] } w G:=by
  refine { fit:=cC,env:=fun t=>?_,size:=by simp; omega,xP:=fun _ _ _=>rfl,os:=rfl,tape:=rfl,output:=rfl,grow:=Nat.le_refl _,mem:=.refl G.M,mK:=fun _ _ _=>rfl,ga:=fun i b ho=>.inr ⟨i,ho⟩,jW:=fun _ _=>rfl,rj:=fun _ _ _ _ hx=>hx,oh:=pP,rn:=⟨[],rfl,List.nodup_nil,by simp⟩ }
  rw [m8]
  simp only [Nat.zero_le,if_true,Nat.sub_zero]
  split
  ·rename_i d hd
   have ht:t<vs.length:=by rw [←hr.1]; exact (List.getElem?_eq_some_iff.1 hd).1
   have hv:vs[t]?=some (vs[t]'ht):=List.getElem?_eq_getElem ht
   have:(vs.toArray++Array.replicate (fn.ntmps - vs.toArray.size) undef).getD t undef=vs[t]'ht:=by
    rw [Array.getD_eq_getD_getElem?,Array.getElem?_append_left (by simpa using ht)]
    simp [hv]
   rw [this]
   exact hr.2 t d _ hd hv
  ·exact .any _
 refine sW (g:=g) hT hm hC F0 trivial fM (fun _=>rfl) (r:=rm) (Nat.le_refl _) c h ⟨⟨G,ai⟩,Nat.le_refl _,fun i hi=>mX UT hi⟩ fun e nx env K1 a w' hq hs=>?_
 obtain ⟨⟨G1,fS⟩,_⟩:=hs
 have fin:Jq T fn m ex R env K1→LeavesInM Fence.wide 0 P fn a.tmps (fun e w'=>∃v rs K' G',e=.returned v∧R rs K'∧Jt m ex (aa K) w G rs (aa K') w' G' v) a.defers .returning w':=by
  intro rz
  obtain ⟨D,hD,_⟩:=fS.rn
  rw [hD]
  refine bZ.leave (g:=g) (n:=fn.ntmps) (ρ:=look env) (κ:=aa K1) (G:=G1) a.tmps (fun w2 o8=>?_) D w' (by have:=fS; rw [←hD]; exact this)
  obtain ⟨iX,us,⟨rs,K2,hR,eV,XP,IE⟩,bc,du⟩:=tS hT o8 rz
  simp only [zN,Bool.and_eq_true] at eV
  obtain ⟨⟨⟨Ju,PB⟩,gI⟩,mY⟩:=eV
  obtain ⟨G2,_,G5,Jp⟩:=o8.sub (m:=m) (Nat.le_refl _) (F:=dB (aa K1) rs iX++eh (aa K1) K2) Ju (fun i hi=>List.mem_append.2 (.inr hi)) gI mY IE
  have az:=G5 rs iX us XP PB (fun i hi=>List.mem_append.2 (.inl hi)) du
  have jB:=Jp (fun _=>.any) (fun _=>.any _)
  refine ⟨_,m9 bc,_,rs,K2,G2,rfl,hR,⟨jB.fit,fun i hi=>mX Ju hi,?_,jB.mem,jB.jW,jB.rj,fun b hb hO=>⟨jB.xP b hb (fun ⟨i,h⟩=>hO i h),jB.mK b hb (fun ⟨i,h⟩=>hO i h)⟩,jB.ga,jB.os,jB.tape,jB.output,jB.grow⟩⟩
  have pc:us.length=rs.length:=az.1.symm
  have many:us.length ≠ 1→aE G2 (.eP rs) (if h:us.toArray.size=1 then us.toArray[0] else Value.tuple us.toArray):=by
   intro bD
   rw [dif_neg (by simpa using bD)]
   exact .eP rs us az.1 az.2
  match rs,az,pc,many with
  | [],az,pc,many=>exact many (by simp at pc; simp [pc])
  | [d],az,pc,_ =>
   match us,pc,az with
   | [u],_,az=>exact az.2 0 d u rfl rfl
  | _::_::_,az,pc,many=>exact many (by simp at pc; omega)
 cases e with
 | normal=>exact fin hq
 | ret=>exact fin hq
 | exit i=>exact hq.elim
theorem x6 (hT:ef P T) (hm:P.follows .mixedOrders=true) (hC:cX P (fun _=>True)) (F0:ie P) {f:Nat} {fn:Func} {c:Code} {args:List AV} {m ex:Nat} {K:ah} {R:List AV→ah→Prop} (hf:P.funcs[f]?=some fn) (hb:fn.body=some c) (dU:(fn.name == "runtime.NumGoroutine")=false)
  (bM:(Nat.ble args.length fn.ntmps && bo.wf ⟨m,dS 0 args,K⟩)=true) (h:gl P T .fn fn.ntmps m c (vh T fn m ex R) m (dS 0 args) K):dK P f args m K ex R :=
 x5 (rm:=.fn) rfl hT hm hC F0 hf hb dU bM h
theorem D8 (hT:ef P T) (hm:P.follows .mixedOrders=true) (hC:cX P (fun _=>True)) (F0:ie P) {f:Nat} {fn:Func} {c:Code} {args:List AV} {m ex:Nat} {K:ah} {R:List AV→ah→Prop} (hf:P.funcs[f]?=some fn) (hb:fn.body=some c) (dU:(fn.name == "runtime.NumGoroutine")=false)
  (bM:(Nat.ble args.length fn.ntmps && bo.wf ⟨m,dS 0 args,K⟩)=true) (h:gl P T .rel fn.ntmps m c (vh T fn m ex R) m (dS 0 args) K):dK P f args m K ex R :=
 x5 (rm:=.rel) rfl hT hm hC F0 hf hb dU bM h
theorem bl (hT:ef P T) (hm:P.follows .mixedOrders=true) (hC:cX P (fun _=>True)) (F0:ie P) {f:Nat} {fn:Func} {c:Code} {args:List AV} {m ex:Nat} {K:ah} {rs:List AV} {K':ah} (hf:P.funcs[f]?=some fn) (hb:fn.body=some c) (dU:(fn.name == "runtime.NumGoroutine")=false)
  (bM:(Nat.ble args.length fn.ntmps && bo.wf ⟨m,dS 0 args,K⟩)=true) (h:gl P T .fn fn.ntmps m c (vh T fn m ex fun r k=>r=rs∧k=K') m (dS 0 args) K):bj P f args m K ex rs K' :=
 x6 hT hm hC F0 hf hb dU bM h
theorem vn (hT:ef P T) (hm:P.follows .mixedOrders=true) (hC:cX P (fun _=>True)) (F0:ie P) {f:Nat} {fn:Func} {c:Code} {args:List AV} {m ex:Nat} {K:ah} {rs:List AV} {K':ah} (hf:P.funcs[f]?=some fn) (hb:fn.body=some c) (dU:(fn.name == "runtime.NumGoroutine")=false)
  (bM:(Nat.ble args.length fn.ntmps && bo.wf ⟨m,dS 0 args,K⟩)=true) (h:gl P T .rel fn.ntmps m c (vh T fn m ex fun r k=>r=rs∧k=K') m (dS 0 args) K):bj P f args m K ex rs K' :=
 D8 hT hm hC F0 hf hb dU bM h
end
end Go.TM
namespace Go.TM
open Go.RowKit
variable [ct]
theorem ig (v e:Nat):mC (0,0) v e=(v,e):=by cases v <;> simp [mC]
theorem fC:∀(K:ah),aa K=aw (fun _=>.none) K
 | []=>rfl
 | (i,b)::K=>by
  funext t
  simp only [aa,aw,gA,fC K]
  by_cases h:t=i
  ·subst h; simp
  ·rw [if_neg h]; simp [beq_false h]
theorem n3 {r:Nat→Nat} {sh:Nat→Nat × Nat} (dt:∀i j,r i=r j→i=j) (f:Nat→ao):∀(K:ah) (j:Nat),aw f (bV r sh K) (r j)=if j∈keys K then qp r sh j (aa K j) else f (r j)
 | [],j=>by simp [bV,aw,keys]
 | (i,b)::K,j=>by
  simp only [bV,aw]
  by_cases e:j=i
  ·subst e; simp [keys,aa]
  ·have:r j ≠ r i:=fun h=>e (dt _ _ h)
   rw [ae _ _ this,n3 dt f K j]
   simp only [aa,beq_false e,cond_false]
   by_cases hj:j∈keys K
   ·rw [if_pos hj,if_pos (by simp only [keys,List.map_cons,List.mem_cons]; exact .inr hj)]
   ·rw [if_neg hj,if_neg (by simp only [keys,List.map_cons,List.mem_cons,not_or]; exact ⟨e,hj⟩)]
theorem mj {r:Nat→Nat} {sh:Nat→Nat × Nat} (f:Nat→ao):∀(K:ah) (i:Nat),(∀j,j∈keys K→r j ≠ i)→aw f (bV r sh K) i=f i
 | [],i,_=>rfl
 | (j,b)::K,i,h=>by
  simp only [bV,aw]
  rw [ae _ _ (fun e=>h j (by simp [keys]) e.symm)]
  exact mj f K i fun q hq=>h q (by simp only [keys,List.map_cons,List.mem_cons]; exact .inr hq)
theorem db {m:Nat}:∀{K:ah},lC m K=true→∀j,j∈keys K→j<m
 | [],_,j,h=>by simp [keys] at h
 | (i,b)::K,hk,j,h=>by
  simp only [lC,Bool.and_eq_true,Nat.blt_eq] at hk
  simp only [keys,List.map_cons,List.mem_cons] at h
  rcases h with rfl | h
  ·exact hk.1
  ·exact db hk.2 j h
theorem fN:∀{K:ah} {j:Nat},j ∉ keys K→aa K j=.none
 | [],_,_=>rfl
 | (i,b)::K,j,h=>by
  simp only [keys,List.map_cons,List.mem_cons,not_or] at h
  simp only [aa]
  rw [beq_false h.1]
  exact fN h.2
theorem kK {r:Nat→Nat} {sh:Nat→Nat × Nat}:∀{K:ah} {i:Nat} {b:ao},(i,b)∈bV r sh K→∃j,j∈keys K∧i=r j
 | [],i,b,h=>by simp [bV] at h
 | (j,c)::K,i,b,h=>by
  simp only [bV,List.mem_cons] at h
  rcases h with h | h
  ·injection h with e1 e2; exact ⟨j,by simp [keys],e1⟩
  ·obtain ⟨q,h1,h2⟩:=kK h; exact ⟨q,by simp only [keys,List.map_cons,List.mem_cons]; exact .inr h1,h2⟩
theorem sX {γ:Type _} (f:Nat→γ):∀(l l':List (Nat × γ)),aw f (l++l')=aw (aw f l') l
 | [],_=>rfl
 | (i,x)::l,l'=>by simp only [List.cons_append,aw,sX f l l']
theorem iK:∀{σ:List Nat} {nx j:Nat} (h:j<σ.length),sg σ nx j=σ[j]
 | [],_,j,h=>by simp at h
 | i::σ,nx,0,_=>rfl
 | i::σ,nx,j+1,h=>by simp only [sg,List.getElem_cons_succ]; exact iK (by simpa using h)
theorem ij:∀{σ:List Nat} {nx j:Nat},σ.length≤j→sg σ nx j=nx+(j - σ.length)
 | [],_,j,_=>by simp [sg]
 | i::σ,nx,0,h=>by simp at h
 | i::σ,nx,j+1,h=>by
  simp only [sg,List.length_cons]
  rw [ij (by simpa using h)]
  simp
theorem gO {κ:Nat→ao}:∀{σ:List Nat} {nx:Nat},F1 κ σ nx=true→(∀i,i∈σ→i<nx)∧σ.Nodup
 | [],_,_=>⟨by simp,List.nodup_nil⟩
 | i::σ,nx,h=>by
  simp only [F1,Bool.and_eq_true,Nat.blt_eq,Bool.not_eq_true'] at h
  obtain ⟨h1,h2⟩:=gO h.2
  exact ⟨fun j hj=>by rcases List.mem_cons.1 hj with rfl | hj; exact h.1.1; exact h1 j hj,List.nodup_cons.2 ⟨eu h.1.2,h2⟩⟩
theorem Jv {κ:Nat→ao}:∀{σ:List Nat} {j:Nat} (h:j<σ.length),jy κ σ j=Jw (κ σ[j])
 | [],j,h=>by simp at h
 | i::σ,0,_=>rfl
 | i::σ,j+1,h=>by simp only [jy,List.getElem_cons_succ]; exact Jv (by simpa using h)
theorem F2 {κ:Nat→ao}:∀{σ:List Nat} {j:Nat},σ.length≤j→jy κ σ j=(0,0)
 | [],_,_=>rfl
 | i::σ,0,h=>by simp at h
 | i::σ,j+1,h=>by simp only [jy]; exact F2 (by simpa using h)
def pos:List Nat→Nat→Option Nat
 | [],_=>none
 | x::l,i=>if x=i then some 0 else (pos l i).map (·+1)
def iL (σ:List Nat) (nx ex i:Nat):Option Nat:=match pos σ i with
 | some j=>some j
 | none=>if nx≤i∧i<nx+ex then some (σ.length+(i - nx)) else none
theorem vp:∀{σ:List Nat} {i j:Nat},pos σ i=some j→∃h:j<σ.length,σ[j]=i
 | [],i,j,h=>by simp [pos] at h
 | x::l,i,j,h=>by
  simp only [pos] at h
  split at h
  ·rename_i e; injection h with h; subst h; exact ⟨by simp,e⟩
  ·cases hp:pos l i with
   | none=>rw [hp] at h; simp at h
   | some q=>rw [hp] at h; simp at h; subst h; obtain ⟨h1,h2⟩:=vp hp; exact ⟨by simpa using h1,by simpa using h2⟩
theorem pos_at:∀{σ:List Nat} (hn:σ.Nodup) {j:Nat} (h:j<σ.length),pos σ σ[j]=some j
 | [],_,j,h=>by simp at h
 | x::l,hn,0,h=>by simp [pos]
 | x::l,hn,j+1,h=>by
  have Dq:=List.nodup_cons.1 hn
  have hj:j<l.length:=by simpa using h
  simp only [List.getElem_cons_succ,pos]
  rw [if_neg (fun e=>Dq.1 (by rw [e]; exact List.getElem_mem hj)),pos_at Dq.2 hj]
  rfl
theorem Jx {σ:List Nat} {i:Nat} (h:i ∉ σ):pos σ i=none:=by
 cases hp:pos σ i with
 | none=>rfl
 | some j=>obtain ⟨h1,h2⟩:=vp hp; exact absurd (h2 ▸ List.getElem_mem h1) h
theorem Jy {σ:List Nat} {nx:Nat} (h1:∀i,i∈σ→i<nx) (h2:σ.Nodup) (i j:Nat) (h:sg σ nx i=sg σ nx j):i=j:=by
 rcases Nat.lt_or_ge i σ.length with hi | hi
 ·rcases Nat.lt_or_ge j σ.length with hj | hj
  ·rw [iK hi,iK hj] at h
   have e1:=pos_at h2 hi; have e2:=pos_at h2 hj; rw [h,e2] at e1; injection e1 with e1; exact e1.symm
  ·rw [iK hi,ij hj] at h
   have:=h1 _ (List.getElem_mem hi); omega
 ·rcases Nat.lt_or_ge j σ.length with hj | hj
  ·rw [ij hi,iK hj] at h
   have:=h1 _ (List.getElem_mem hj); omega
  ·rw [ij hi,ij hj] at h; omega
theorem Ms {σ:List Nat} {nx ex:Nat} (h1:∀i,i∈σ→i<nx) (h2:σ.Nodup) {j:Nat} (hj:j<σ.length+ex):iL σ nx ex (sg σ nx j)=some j:=by
 unfold iL
 rcases Nat.lt_or_ge j σ.length with aJ | dw
 ·rw [iK aJ,pos_at h2 aJ]
 ·rw [ij dw,Jx (fun hm=>by have:=h1 _ hm; omega)]
  simp only
  rw [if_pos (by omega)]
  congr 1
  omega
theorem gP {σ:List Nat} {nx ex i j:Nat} (h:iL σ nx ex i=some j):j<σ.length+ex∧sg σ nx j=i:=by
 unfold iL at h
 split at h
 ·rename_i q hq
  injection h with h; subst h
  obtain ⟨h1,h2⟩:=vp hq
  exact ⟨by omega,by rw [iK h1]; exact h2⟩
 ·split at h
  ·rename_i hr
   injection h with h; subst h
   refine ⟨by omega,?_⟩
   rw [ij (by omega)]; omega
  ·cases h
def pull (r:Nat→Nat) (G:Gh):Gh:=⟨G.M,fun j=>G.β (r j),fun j=>G.H (r j),fun j=>G.X (r j)⟩
theorem kL (r:Nat→Nat) (G:Gh) (j v e:Nat):az (pull r G).H j v e=az G.H (r j) v e:=by
 funext p; cases p <;> rfl
theorem Jz {r:Nat→Nat} {G:Gh}:∀N:Nat,(∀(u:AV) (x:Value),SizeOf.sizeOf u<N→aE G (ln r dC u) x→aE (pull r G) u x) ∧
  (∀(us:List AV) (xs:List Value),SizeOf.sizeOf us<N→bR G (dG r dC us) xs→bR (pull r G) us xs):=by
 intro N
 induction N with
 | zero=>exact ⟨fun _ _ h=>by omega,fun _ _ h=>by omega⟩
 | succ N ih =>
  refine ⟨fun u x aT hv=>?_,fun us xs aT hr=>?_⟩
  ·cases u with
   | any=>exact .any _
   | dv d=>simp only [ln] at hv; cases hv with | dv h=>exact .dv h
   | ptr i off=>simp only [ln] at hv; cases hv with | ptr _ _ b h=>exact .ptr i off b h
   | fy i=>simp only [ln] at hv; cases hv with | fy _ b h=>exact .fy i b h
   | sle i n=>simp only [ln] at hv; cases hv with | sle _ _ b h=>exact .sle i n b h
   | bT i v=>simp only [ln,dC,ig] at hv; cases hv with | bT _ _ a n h=>exact .bT i v a n h
   | own i v e p =>
    simp only [ln,dC,ig] at hv
    cases hv with | own _ _ _ _ _ h hc=>exact .own i v e p x (by rw [kL]; exact h) hc
   | loc i v e p a b c =>
    simp only [ln,dC,ig] at hv
    cases hv with
    | loc _ _ _ _ _ _ _ A q q' h=>exact .loc i v e p a b c A q q' (by rw [kL]; exact h)
    | my _ _ _ _ _ _ _ A h=>exact .my i v e p a b c A (by rw [kL]; exact h)
   | pre i v e p a b c =>
    simp only [ln,dC,ig] at hv
    cases hv with
    | pre _ _ _ _ _ _ _ q q' h=>exact .pre i v e p a b c q q' fun hn=>by obtain ⟨A,N,c',e1,e2⟩:=h hn; exact ⟨A,N,c',by rw [kL]; exact e1,e2⟩
   | fn f l=>simp only [ln] at hv; cases hv with | fn _ _ vs hl hr=>have:=ih.2 l vs (by simp at aT; omega) ⟨hl,hr⟩; exact .fn f l vs this.1 this.2
   | hJ f l=>simp only [ln] at hv; cases hv with | hJ _ _ vs hl hr=>have:=ih.2 l vs (by simp at aT; omega) ⟨hl,hr⟩; exact .hJ f l vs this.1 this.2
   | agg l=>simp only [ln] at hv; cases hv with | agg _ vs hl hr=>have:=ih.2 l vs (by simp at aT; omega) ⟨hl,hr⟩; exact .agg l vs this.1 this.2
   | eP l=>simp only [ln] at hv; cases hv with | eP _ vs hl hr=>have:=ih.2 l vs (by simp at aT; omega) ⟨hl,hr⟩; exact .eP l vs this.1 this.2
   | opt g v=>simp only [ln] at hv; cases hv with | opt _ _ _ h hu=>exact .opt g v x (fun hg=>ih.1 v x (by simp at aT; omega) (h hg)) hu
  ·cases us with
   | nil=>exact ⟨hr.1,by simp⟩
   | cons u us =>
    simp only [dG] at hr
    match xs,hr with
    | [],hr=>have:=hr.1; simp at this
    | x::xs,hr =>
     have h1:=ih.1 u x (by simp at aT; omega) (hr.2 0 _ x rfl rfl)
     have h2:=ih.2 us xs (by simp at aT; omega) ⟨by simpa using hr.1,fun q e y he hy=>hr.2 (q+1) e y (by simpa using he) (by simpa using hy)⟩
     refine ⟨by simp [h2.1],fun j d y hd hy=>?_⟩
     cases j with
     | zero=>simp at hd hy; subst hd; subst hy; exact h1
     | succ j=>exact h2.2 j d y (by simpa using hd) (by simpa using hy)
theorem na (r:Nat→Nat) (sh:Nat→Nat × Nat):∀l,(dG r sh l).length=l.length
 | []=>rfl
 | v::l=>by simp [dG,na r sh l]
theorem vq (r:Nat→Nat) (sh:Nat→Nat × Nat):∀(l:List AV) (j:Nat),(dG r sh l)[j]?=(l[j]?).map (ln r sh)
 | [],j=>by simp [dG]
 | v::l,0=>by simp [dG]
 | v::l,j+1=>by simp [dG,vq r sh l j]
theorem D9 (r:Nat→Nat) (sh:Nat→Nat × Nat) (v:AV):(ln r sh v).ak=v.ak:=by cases v <;> simp [ln,AV.ak]
theorem Mt {r:Nat→Nat} (dt:∀i j,r i=r j→i=j) {G:Gh} {w:World} {K:ah} (hf:Fit G w (aa (bV r dC K))) (hk:∀j,j∈keys K→aa K j ≠ .none) (dN:∀j,j∈keys K→∀a b c d e,aa K j ≠ .jd a b c d e) (XQ:∀j,j∈keys K→aa K j ≠ .held) (hc:∀(j:Nat) (l:List AV),aa K j=.cells l→bQ l=true) :
  Fit (pull r G) w (aa K)∧∀j b,bI (pull r G) j (aa K j) b→j∈keys K∧bI G (r j) (aa (bV r dC K) (r j)) b:=by
 have jf:∀j,aa (bV r dC K) (r j)=if j∈keys K then qp r dC j (aa K j) else .none:=fun j=>by
  rw [fC]; exact n3 dt _ K j
 have gF:∀j b,bI (pull r G) j (aa K j) b→j∈keys K∧bI G (r j) (aa (bV r dC K) (r j)) b:=by
  intro j b ho
  by_cases hj:j∈keys K
  ·refine ⟨hj,?_⟩
   rw [jf,if_pos hj]
   cases hl:aa K j with
   | cells l=>rw [hl] at ho; exact ho
   | tree v e d =>
    rw [hl] at ho
    simp only [qp,dC,ig,bI] at ho ⊢
    rw [kL] at ho; exact ho
   | eA rc st l=>rw [hl] at ho; exact ho
   | jd a b c d e=>exact absurd hl (dN j hj a b c d e)
   | _=>rw [hl] at ho; exact ho.elim
  ·rw [fN hj] at ho; exact ho.elim
 refine ⟨⟨hf.sub,fun j=>?_,fun j b ho=>hf.own _ b (gF j b ho).2,fun i j b hi hj=>dt i j (hf.inj _ _ b (gF i b hi).2 (gF j b hj).2)⟩,gF⟩
 have hb:=hf.box (r j)
 rw [jf] at hb
 by_cases hj:j∈keys K
 ·rw [if_pos hj] at hb
  cases hl:aa K j with
  | none=>exact absurd hl (hk j hj)
  | dead=>trivial
  | cells l =>
   rw [hl] at hb
   obtain ⟨b,c,t,h1,h2,h3,h4,h5⟩:=hb
   refine ⟨b,c,t,h1,h2,by rw [h3,na],eU (hc j l hl),fun q d v hd hv=>?_⟩
   exact (Jz (r:=r) (SizeOf.sizeOf d+1)).1 d v (by omega) (h5 q _ v (by rw [vq,hd]; rfl) hv)
  | tree v e d =>
   rw [hl] at hb
   simp only [qp,dC,ig] at hb
   simp only [fJ] at hb ⊢
   rw [kL]
   exact hb
  | fz v d =>
   rw [hl] at hb
   simp only [qp,dC,ig] at hb
   exact hb
  | eA rc st l =>
   rw [hl] at hb
   obtain ⟨b,fn,tmps,D,h1,h2,h3⟩:=hb
   exact ⟨b,fn,tmps,D,h1,h2,(Jz (r:=r) (SizeOf.sizeOf l+1)).2 l tmps.toList (by omega) h3⟩
  | jd a b c d e=>exact absurd hl (dN j hj a b c d e)
  | held=>exact absurd hl (XQ j hj)
 ·rw [if_neg hj] at hb
  rw [fN hj]
  exact hb
theorem JA {G2 G3:Gh} {r:Nat→Nat} {sh:Nat→Nat × Nat} {ok:Nat→Bool} (hM:Mem.Le G2.M G3.M) (hβ:∀j b,G2.β j=some b→G3.β (r j)=some b)
  (hH:∀j v e p x,ok j=true→az G2.H j v e p=some x→az G3.H (r j) (mC (sh j) v e).1 (mC (sh j) v e).2 p=some x):∀N:Nat,
  (∀(u:AV) (x:Value),SizeOf.sizeOf u<N→AV.nm ok u=true→aE G2 u x→aE G3 (ln r sh u) x) ∧
  (∀(us:List AV) (xs:List Value),SizeOf.sizeOf us<N→AV.xp ok us=true→bR G2 us xs→bR G3 (dG r sh us) xs):=by
 intro N
 induction N with
 | zero=>exact ⟨fun _ _ h=>by omega,fun _ _ h=>by omega⟩
 | succ N ih =>
  refine ⟨fun u x aT hn hv=>?_,fun us xs aT hn hr=>?_⟩
  ·cases u with
   | any=>exact .any _
   | dv d=>cases hv with | dv h=>exact .dv (h.mono hM)
   | ptr i off=>cases hv with | ptr _ _ b h=>exact .ptr _ off b (hβ _ _ h)
   | fy i=>cases hv with | fy _ b h=>exact .fy _ b (hβ _ _ h)
   | sle i n=>cases hv with | sle _ _ b h=>exact .sle _ n b (hβ _ _ h)
   | bT i v =>
    simp only [AV.nm] at hn
    cases hv with | bT _ _ a n h=>exact .bT _ _ a n (hH i v 0 [] _ hn h)
   | own i v e p =>
    simp only [AV.nm] at hn
    cases hv with | own _ _ _ _ _ h hc=>exact .own _ _ _ p x (hH _ _ _ _ _ hn h) hc
   | loc i v e p a b c =>
    simp only [AV.nm] at hn
    cases hv with
    | loc _ _ _ _ _ _ _ A q q' h=>exact .loc _ _ _ p a b c A q q' (hH _ _ _ _ _ hn h)
    | my _ _ _ _ _ _ _ A h=>exact .my _ _ _ p a b c A (hH _ _ _ _ _ hn h)
   | pre i v e p a b c =>
    simp only [AV.nm] at hn
    cases hv with
    | pre _ _ _ _ _ _ _ q q' h=>exact .pre _ _ _ p a b c q q' fun hz=>by obtain ⟨A,N,c',e1,e2⟩:=h hz; exact ⟨A,N,c',hH _ _ _ _ _ hn e1,e2⟩
   | fn f l=>simp only [AV.nm] at hn; cases hv with | fn _ _ vs hl hr=>have:=ih.2 l vs (by simp at aT; omega) hn ⟨hl,hr⟩; exact .fn f _ vs this.1 this.2
   | hJ f l=>simp only [AV.nm] at hn; cases hv with | hJ _ _ vs hl hr=>have:=ih.2 l vs (by simp at aT; omega) hn ⟨hl,hr⟩; exact .hJ f _ vs this.1 this.2
   | agg l=>simp only [AV.nm] at hn; cases hv with | agg _ vs hl hr=>have:=ih.2 l vs (by simp at aT; omega) hn ⟨hl,hr⟩; exact .agg _ vs this.1 this.2
   | eP l=>simp only [AV.nm] at hn; cases hv with | eP _ vs hl hr=>have:=ih.2 l vs (by simp at aT; omega) hn ⟨hl,hr⟩; exact .eP _ vs this.1 this.2
   | opt g v=>simp only [AV.nm] at hn; cases hv with | opt _ _ _ h hu=>exact .opt g _ x (fun hg=>ih.1 v x (by simp at aT; omega) hn (h hg)) hu
  ·cases us with
   | nil=>exact ⟨hr.1,by simp [dG]⟩
   | cons u us =>
    simp only [AV.xp,Bool.and_eq_true] at hn
    match xs,hr with
    | [],hr=>have:=hr.1; simp at this
    | x::xs,hr =>
     have h1:=ih.1 u x (by simp at aT; omega) hn.1 (hr.2 0 _ x rfl rfl)
     have h2:=ih.2 us xs (by simp at aT; omega) hn.2 ⟨by simpa using hr.1,fun q e y he hy=>hr.2 (q+1) e y (by simpa using he) (by simpa using hy)⟩
     refine ⟨by simp only [dG,List.length_cons]; rw [h2.1],fun j d y hd hy=>?_⟩
     cases j with
     | zero=>simp [dG] at hd hy; subst hd; subst hy; exact h1
     | succ j=>exact h2.2 j d y (by simpa [dG] using hd) (by simpa using hy)
def mH (V E:Nat) (H1 H2:Nat→Nat→List PS→Option Value) (v e:Nat) (p:List PS):Option Value :=
 if v<V then H1 v e p else if V<v then H2 (v - V) e p else match p with
  | []=>if e=0 then H2 0 0 [] else H1 v e []
  | s::q=>if e<E then H1 v e (s::q) else H2 0 (e - E) (s::q)
theorem JB {V E:Nat} {H1 H2:Nat→Nat→List PS→Option Value} (v e:Nat):mH V E H1 H2 (mC (V,E) v e).1 0 []=H2 v 0 []∧∀s q,mH V E H1 H2 (mC (V,E) v e).1 (mC (V,E) v e).2 (s::q)=H2 v e (s::q):=by
 cases v with
 | zero =>
  refine ⟨by simp [mC,mH],fun s q=>?_⟩
  show mH V E H1 H2 V (E+e) (s::q)=_
  simp only [mH,Nat.lt_irrefl,if_false]
  rw [if_neg (by omega),Nat.add_sub_cancel_left]
 | succ v =>
  have h1:¬ (V+(v+1)<V):=by omega
  have h2:V<V+(v+1):=by omega
  have h3:V+(v+1) - V=v+1:=by omega
  refine ⟨?_,fun s q=>?_⟩
  ·show mH V E H1 H2 (V+(v+1)) 0 []=_
   unfold mH; rw [if_neg h1,if_pos h2,h3]
  ·show mH V E H1 H2 (V+(v+1)) e (s::q)=_
   unfold mH; rw [if_neg h1,if_pos h2,h3]
theorem PC {V E:Nat} {H1 H2:Nat→Nat→List PS→Option Value} (h1:∀v,V<v→∀e p,H1 v e p=none) (h2:∀e,E<e→∀p,H1 V e p=none) (h3:∀x,H1 V 0 []=some x→H2 0 0 []=some x) (h4:∀s q x,H1 V E (s::q)=some x→H2 0 0 (s::q)=some x)
  {v e:Nat} {p:List PS} {x:Value} (h:H1 v e p=some x):mH V E H1 H2 v e p=some x:=by
 unfold mH
 split
 ·exact h
 ·split
  ·rename_i aJ; rw [h1 v aJ] at h; cases h
  ·have:v=V:=by omega
   subst this
   cases p with
   | nil =>
    simp only
    split
    ·rename_i he; subst he; exact h3 x h
    ·exact h
   | cons s q =>
    simp only
    split
    ·exact h
    ·rename_i dw
     rcases Nat.lt_or_ge E e with aJ | hle
     ·rw [h2 e aJ] at h; cases h
     ·have:e=E:=by omega
      subst this
      rw [Nat.sub_self]; exact h4 s q x h
theorem RR {V E:Nat} {H1 H2:Nat→Nat→List PS→Option Value} {v e:Nat} (h:∀v',v<v'→∀e p,H2 v' e p=none) {v':Nat} (hv:(mC (V,E) v e).1<v') (e':Nat) (p:List PS):mH V E H1 H2 v' e' p=none:=by
 have hle:V+v≤(mC (V,E) v e).1:=by cases v <;> simp [mC]
 unfold mH
 rw [if_neg (by omega),if_pos (by omega)]
 exact h _ (by omega) e' p
theorem RS {V E:Nat} {H1 H2:Nat→Nat→List PS→Option Value} (h2:∀e,E<e→∀p,H1 V e p=none) {v e:Nat} (h:∀e',e<e'→∀p,H2 v e' p=none) {e':Nat} (he:(mC (V,E) v e).2<e') (p:List PS):mH V E H1 H2 (mC (V,E) v e).1 e' p=none:=by
 cases v with
 | zero =>
  show mH V E H1 H2 V e' p=none
  have he:E+e<e':=he
  simp only [mH,Nat.lt_irrefl,if_false]
  cases p with
  | nil=>simp only; rw [if_neg (by omega)]; exact h2 e' (by omega) []
  | cons s q=>simp only; rw [if_neg (by omega)]; exact h _ (by omega) _
 | succ v =>
  show mH V E H1 H2 (V+(v+1)) e' p=none
  have he:e<e':=he
  unfold mH
  rw [if_neg (by omega),if_pos (by omega)]
  have h3:V+(v+1) - V=v+1:=by omega
  rw [h3]; exact h e' he p
end Go.TM
namespace Go.TM
open Go.RowKit
variable [ct]
def sY (m:Nat) (b:ao) (H1 H2:Nat→Nat→List PS→Option Value) (j:Nat):Nat→Nat→List PS→Option Value :=
 if j<m then (match b with
  | .tree V E _=>mH V E H1 H2
  | .none=>H2
  | _=>H1) else H2
def cF (σ:List Nat) (nx ex:Nat) (κ:Nat→ao) (G1 G2:Gh):Gh where
 M:=G2.M
 β i:=match iL σ nx ex i with
  | some j=>G2.β j
  | none=>G1.β i
 H i:=match iL σ nx ex i with
  | some j=>sY σ.length (κ i) (G1.H i) (G2.H j) j
  | none=>G1.H i
 X i:=match iL σ nx ex i with
  | some j=>G2.X j
  | none=>G1.X i
theorem ik {κ κ':Nat→ao}:∀{m:Nat},zO κ κ' m=true→∀j,j<m →
  (∃l l',κ j=.cells l∧κ' j=.cells l') ∨ (∃rc st l Dv Oc l',κ j=.eA rc st l∧κ' j=.eA Dv Oc l') ∨ (∃v e d,κ j=.tree v e d∧(κ' j=.dead ∨ (∃v' e' d',κ' j=.tree v' e' d') ∨ ∃v' d',κ' j=.fz v' d')) ∨ (∃v d d',κ j=.fz v d∧κ' j=.fz 0 d')
 | 0,_,j,h=>by omega
 | m+1,hk,j,hj=>by
  simp only [zO,Bool.and_eq_true] at hk
  rcases Nat.lt_or_ge j m with aJ | dw
  ·exact ik hk.2 j aJ
  ·have:j=m:=by omega
   subst this
   have h1:=hk.1
   split at h1
   ·rename_i l l' e1 e2; exact .inl ⟨_,_,e1,e2⟩
   ·rename_i e1 e2; exact .inr (.inl ⟨_,_,_,_,_,_,e1,e2⟩)
   ·rename_i e1 e2; exact .inr (.inr (.inl ⟨_,_,_,e1,.inr (.inl ⟨_,_,_,e2⟩)⟩))
   ·rename_i e1 e2; exact .inr (.inr (.inl ⟨_,_,_,e1,.inr (.inr ⟨_,_,e2⟩)⟩))
   ·rename_i e1 e2; exact .inr (.inr (.inl ⟨_,_,_,e1,.inl e2⟩))
   ·rename_i e1 e2; exact .inr (.inr (.inr ⟨_,_,_,e1,e2⟩))
   ·cases h1
theorem zP {ok:Nat→Bool}:∀{K:ah},TR ok K=true→∀i b,(i,b)∈K→b.RT ok=true
 | [],_,i,b,h=>by simp at h
 | (j,c)::K,hn,i,b,h=>by
  simp only [TR,Bool.and_eq_true] at hn
  rcases List.mem_cons.1 h with h | h
  ·injection h with e1 e2; subst e2; exact hn.1
  ·exact zP hn.2 i b h
theorem Hk {σ:List Nat} {nx ex:Nat} {κ κ1:Nat→ao} {G0 G1 G2:Gh} {w w2:World} {K0 K1:ah} {rs:List AV} {v:Value}
  (hσ1:∀i,i∈σ→i<nx) (hσ2:σ.Nodup) (iP:∀i,nx≤i→i<nx+ex→κ1 i=.none) (LZ:Fit G1 w κ1)
  (WA:∀i,i∈σ→∀V E d,κ i=.tree V E d→(∀v,V<v→∀e p,G1.H i v e p=none)∧∀e,E<e→∀p,G1.H i V e p=none)
  (xQ:∀i,i∈σ→κ i=.none→∀v e p,G1.H i v e p=none)
  (XT:∀j,j<σ.length→∀V E d,κ (sg σ nx j)=.tree V E d→(∀x,G1.H (sg σ nx j) V 0 []=some x→G0.H j 0 0 []=some x)∧∀s q x,G1.H (sg σ nx j) V E (s::q)=some x→G0.H j 0 0 (s::q)=some x)
  (iE:∀j,j<σ.length→∀V d,κ (sg σ nx j)=.fz V d→∃x,G1.H (sg σ nx j) V 0 []=some x∧G0.H j 0 0 []=some x)
  (hβ0:∀j,j<σ.length→G0.β j=G1.β (sg σ nx j)) (WB:G0.M=G1.M)
  (sZ:∀j b,bI G0 j (aa K0 j) b→j<σ.length∧bI G1 (sg σ nx j) (κ1 (sg σ nx j)) b)
  (F3:∀j,j<σ.length→(∀v e d,aa K0 j=.tree v e d→(∃V E d,κ (sg σ nx j)=.tree V E d) ∨ κ (sg σ nx j)=.none)∧(∀v d,aa K0 j=.fz v d→(∃V E d,κ (sg σ nx j)=.tree V E d) ∨ ∃V d,κ (sg σ nx j)=.fz V d))
  (eV:gk σ ex K0 K1 rs=true) (hC:Jt σ.length ex (aa K0) w G0 rs (aa K1) w2 G2 v) :
  IS (fun i=>∃j,iL σ nx ex i=some j) κ1 (aw κ1 (bV (sg σ nx) (jy κ σ) K1)) G1 (cF σ nx ex κ G1 G2) w w2∧(∀i,i<nx→(cF σ nx ex κ G1 G2).β i=G1.β i)∧aE (cF σ nx ex κ G1 G2) (ln (sg σ nx) (jy κ σ) (ic rs)) v:=by
 simp only [gk,Bool.and_eq_true] at eV
 obtain ⟨⟨⟨ed,D7⟩,TN⟩,JC⟩:=eV
 have dt:=Jy hσ1 hσ2
 have Rc:∀j,j<σ.length+ex→iL σ nx ex (sg σ nx j)=some j:=fun j hj=>Ms hσ1 hσ2 hj
 have BL:∀j (h:j<σ.length),sg σ nx j∈σ:=fun j h=>by rw [iK h]; exact List.getElem_mem h
 have gm:∀j,σ.length+ex≤j→G2.β j=none∧∀v e p,G2.H j v e p=none:=fun j hj=>by
  have:=hC.fit.box j; rw [hC.no j hj] at this; exact this
 have Odβ:∀j,j<σ.length+ex→(cF σ nx ex κ G1 G2).β (sg σ nx j)=G2.β j:=fun j hj=>by simp only [cF,Rc j hj]
 have XU:∀j,j<σ.length+ex→(cF σ nx ex κ G1 G2).X (sg σ nx j)=G2.X j:=fun j hj=>by simp only [cF,Rc j hj]
 have Hl:∀j,j<σ.length+ex→(cF σ nx ex κ G1 G2).H (sg σ nx j)=sY σ.length (κ (sg σ nx j)) (G1.H (sg σ nx j)) (G2.H j) j:=fun j hj=>by simp only [cF,Rc j hj]
 have UU:∀j (h:j<σ.length),jy κ σ j=Jw (κ (sg σ nx j)):=fun j h=>by rw [Jv h,iK h]
 have HT:∀j,j<σ.length+ex→(j<σ.length→(∃V E d,κ (sg σ nx j)=.tree V E d) ∨ κ (sg σ nx j)=.none) →
   (∀v e,az (cF σ nx ex κ G1 G2).H (sg σ nx j) (mC (jy κ σ j) v e).1 (mC (jy κ σ j) v e).2=az G2.H j v e) ∧
   (∀v e,(∀v',v<v'→∀e p,G2.H j v' e p=none)→∀v',(mC (jy κ σ j) v e).1<v'→∀e p,(cF σ nx ex κ G1 G2).H (sg σ nx j) v' e p=none) ∧
   (∀v e,(∀e',e<e'→∀p,G2.H j v e' p=none)→∀e',(mC (jy κ σ j) v e).2<e'→∀p,(cF σ nx ex κ G1 G2).H (sg σ nx j) (mC (jy κ σ j) v e).1 e' p=none):=by
  intro j hj hc
  have plain:(cF σ nx ex κ G1 G2).H (sg σ nx j)=G2.H j→jy κ σ j=(0,0)→_:=fun h1 h2 =>
   (show (∀v e,az (cF σ nx ex κ G1 G2).H (sg σ nx j) (mC (jy κ σ j) v e).1 (mC (jy κ σ j) v e).2=az G2.H j v e) ∧
   (∀v e,(∀v',v<v'→∀e p,G2.H j v' e p=none)→∀v',(mC (jy κ σ j) v e).1<v'→∀e p,(cF σ nx ex κ G1 G2).H (sg σ nx j) v' e p=none) ∧
   (∀v e,(∀e',e<e'→∀p,G2.H j v e' p=none)→∀e',(mC (jy κ σ j) v e).2<e'→∀p,(cF σ nx ex κ G1 G2).H (sg σ nx j) (mC (jy κ σ j) v e).1 e' p=none) by
    rw [h2]
    simp only [ig]
    refine ⟨fun v e=>funext fun p=>by cases p <;> simp only [az,h1],fun v e h v' hv e p=>by rw [h1]; exact h v' hv e p,fun v e h e' he p=>by rw [h1]; exact h e' he p⟩)
  rcases Nat.lt_or_ge j σ.length with aJ | dw
  ·rcases hc aJ with ⟨V,E,d,hk⟩ | hk
   ·have h1:(cF σ nx ex κ G1 G2).H (sg σ nx j)=mH V E (G1.H (sg σ nx j)) (G2.H j):=by rw [Hl j hj]; simp only [sY,if_pos aJ,hk]
    have h2:jy κ σ j=(V,E):=by rw [UU j aJ,hk]; rfl
    obtain ⟨u1,u2⟩:=WA _ (BL j aJ) V E d hk
    rw [h2]
    refine ⟨fun v e=>funext fun p=>?_,fun v e h v' hv e' p=>by rw [h1]; exact RR h hv e' p,fun v e h e' he p=>by rw [h1]; exact RS u2 h he p⟩
    cases p with
    | nil=>simp only [az,h1]; exact (JB v e).1
    | cons s q=>simp only [az,h1]; exact (JB v e).2 s q
   ·exact plain (by rw [Hl j hj]; simp only [sY,if_pos aJ,hk]) (by rw [UU j aJ,hk]; rfl)
  ·exact plain (by rw [Hl j hj]; simp only [sY,if_neg (Nat.not_lt.2 dw)]) (F2 dw)
 have hpβ:∀j b,G2.β j=some b→(cF σ nx ex κ G1 G2).β (sg σ nx j)=some b:=by
  intro j b hb
  rcases Nat.lt_or_ge j (σ.length+ex) with aJ | dw
  ·rw [Odβ j aJ]; exact hb
  ·rw [(gm j dw).1] at hb; cases hb
 have XW:∀j v e p x,Ea σ.length (aa K0) j=true→az G2.H j v e p=some x→az (cF σ nx ex κ G1 G2).H (sg σ nx j) (mC (jy κ σ j) v e).1 (mC (jy κ σ j) v e).2 p=some x:=by
  intro j v e p x bY hx
  rcases Nat.lt_or_ge j (σ.length+ex) with aJ | dw
  ·rw [(HT j aJ fun hj=>?_).1]
   ·exact hx
   ·simp only [Ea] at bY
    rw [show Nat.blt j σ.length=true by rw [Nat.blt_eq]; exact hj] at bY
    simp only [cond_true] at bY
    split at bY
    ·rename_i d hd; exact (F3 j hj).1 _ _ _ hd
    ·cases bY
  ·cases p with
   | nil=>simp only [az] at hx; rw [(gm j dw).2] at hx; cases hx
   | cons s q=>simp only [az] at hx; rw [(gm j dw).2] at hx; cases hx
 have JD:=JA (G2:=G2) (G3:=cF σ nx ex κ G1 G2) (r:=sg σ nx) (sh:=jy κ σ) (ok:=Ea σ.length (aa K0)) (Mem.Le.refl _) hpβ XW
 have hκ3:∀j,aw κ1 (bV (sg σ nx) (jy κ σ) K1) (sg σ nx j)=if j∈keys K1 then qp (sg σ nx) (jy κ σ) j (aa K1 j) else κ1 (sg σ nx j):=fun j=>n3 dt _ K1 j
 have zJ:∀j,j<σ.length→j∈keys K1:=fun j hj=>by
  refine Classical.byContradiction fun hn=>?_
  have h0:=fN hn
  rcases ik ed j hj with ⟨_,_,_,h⟩ | ⟨_,_,_,_,_,_,_,h⟩ | ⟨_,_,_,_,h | ⟨_,_,_,h⟩ | ⟨_,_,h⟩⟩ | ⟨_,_,_,_,h⟩ <;> rw [h0] at h <;> cases h
 have dm:∀j,j<σ.length+ex→j ∉ keys K1→κ1 (sg σ nx j)=.none:=fun j hj hn=>by
  rcases Nat.lt_or_ge j σ.length with aJ | dw
  ·exact absurd (zJ j aJ) hn
  ·rw [ij dw]; exact iP _ (by omega) (by omega)
 have qq:∀j,j<σ.length+ex→∀v e d,aa K1 j=.tree v e d→(j<σ.length→(∃V E d,κ (sg σ nx j)=.tree V E d) ∨ κ (sg σ nx j)=.none):=by
  intro j hj v e d hd aJ
  rcases ik ed j aJ with ⟨_,_,_,h⟩ | ⟨_,_,_,_,_,_,_,h⟩ | ⟨_,_,_,h0,_⟩ | ⟨_,_,_,_,h⟩
  ·rw [hd] at h; cases h
  ·rw [hd] at h; cases h
  ·exact (F3 j aJ).1 _ _ _ h0
  ·rw [hd] at h; cases h
 have hP:∀j,j<σ.length+ex→∀b,bI (cF σ nx ex κ G1 G2) (sg σ nx j) (aw κ1 (bV (sg σ nx) (jy κ σ) K1) (sg σ nx j)) b→bI G2 j (aa K1 j) b:=by
  intro j hj b ho
  rw [hκ3] at ho
  by_cases hk:j∈keys K1
  ·rw [if_pos hk] at ho
   cases hl:aa K1 j with
   | cells l=>rw [hl] at ho; simp only [qp,bI] at ho ⊢; rw [Odβ j hj] at ho; exact ho
   | tree v e d=>rw [hl] at ho; simp only [qp,bI] at ho ⊢; rw [(HT j hj (qq j hj v e d hl)).1] at ho; exact ho
   | eA rc st l=>rw [hl] at ho; simp only [qp,bI] at ho ⊢; rw [Odβ j hj] at ho; exact ho
   | _=>rw [hl] at ho; exact ho.elim
  ·rw [if_neg hk,dm j hj hk] at ho; exact ho.elim
 have XX:Gh.Le G1 (cF σ nx ex κ G1 G2):=by
  refine ⟨by have:=hC.le; rw [WB] at this; exact this,fun i b hb=>?_,fun i v e p x hx=>?_⟩
  ·cases om:iL σ nx ex i with
   | none=>simp only [cF,om]; exact hb
   | some j =>
    obtain ⟨hj,rfl⟩:=gP om
    rw [Odβ j hj]
    rcases Nat.lt_or_ge j σ.length with aJ | dw
    ·rw [hC.jW j aJ,hβ0 j aJ]; exact hb
    ·have dJ:=LZ.box (sg σ nx j)
     rw [ij dw,iP _ (by omega) (by omega)] at dJ
     rw [ij dw,dJ.1] at hb; cases hb
  ·cases om:iL σ nx ex i with
   | none=>simp only [cF,om]; exact hx
   | some j =>
    obtain ⟨hj,rfl⟩:=gP om
    rw [Hl j hj]
    rcases Nat.lt_or_ge j σ.length with aJ | dw
    ·simp only [sY,if_pos aJ]
     cases hk:κ (sg σ nx j) with
     | tree V E d =>
      obtain ⟨u1,u2⟩:=WA _ (BL j aJ) V E d hk
      obtain ⟨q1,q2⟩:=XT j aJ V E d hk
      exact PC u1 u2 (fun x h=>hC.rj j aJ [] x (q1 x h)) (fun s q x h=>hC.rj j aJ (s::q) x (q2 s q x h)) hx
     | none=>rw [xQ _ (BL j aJ) hk] at hx; cases hx
     | _=>exact hx
    ·have dJ:=LZ.box (sg σ nx j)
     rw [ij dw,iP _ (by omega) (by omega)] at dJ
     rw [ij dw,dJ.2] at hx; cases hx
 refine ⟨⟨XX,fun i hi=>?_,fun i hi=>?_,fun i hi=>?_,fun b hb JE=>?_,hC.fit.sub,?_,?_,?_,hC.size,hC.os,hC.tape,hC.output⟩,fun i hi=>?_,?_⟩
 ·have:iL σ nx ex i=none:=by cases h:iL σ nx ex i with | none=>rfl | some j=>exact absurd ⟨j,h⟩ hi
  simp only [cF,this]
 ·refine mj _ K1 i fun j hj e=>hi ⟨j,?_⟩
  rw [←e]; exact Rc j (db D7 j hj)
 ·have:iL σ nx ex i=none:=by cases h:iL σ nx ex i with | none=>rfl | some j=>exact absurd ⟨j,h⟩ hi
  simp only [cF,this]
  exact ⟨fun _ h=>h,fun _ _ _ _ h=>h⟩
 ·have:=hC.frame b hb fun j ho=>by
   obtain ⟨hj,hU⟩:=sZ j b ho
   exact JE _ ⟨j,Rc j (by omega)⟩ hU
  rw [WB] at this
  exact this
 ·rintro i ⟨j,om⟩
  obtain ⟨hj,rfl⟩:=gP om
  have cw:=hC.fit.box j
  rw [hκ3]
  by_cases hk:j∈keys K1
  ·rw [if_pos hk]
   have RU:(j,aa K1 j)∈K1 ∨ aa K1 j=.none:=(fK (K:=K1) (i:=j)).symm
   cases hl:aa K1 j with
   | none=>trivial
   | dead=>trivial
   | held=>trivial
   | jd _ _ _ _ _=>trivial
   | cells l =>
    rw [hl] at cw
    obtain ⟨b,c,t,h1,h2,h3,h4,h5⟩:=cw
    have PD:AV.xp (Ea σ.length (aa K0)) l=true:=by
     rcases RU with h | h
     ·have:=zP JC j _ h; rw [hl] at this; exact this
     ·rw [hl] at h; cases h
    refine ⟨b,c,t,by rw [Odβ j hj]; exact h1,h2,by rw [h3,na],fun u hu=>?_,fun q d y hd hy=>?_⟩
    ·obtain ⟨q,hq⟩:=List.getElem?_of_mem hu
     rw [vq] at hq
     cases UW:l[q]? with
     | none=>rw [UW] at hq; simp at hq
     | some u0=>rw [UW] at hq; simp at hq; subst hq; rw [D9]; exact h4 u0 (List.mem_of_getElem? UW)
    ·have:=(JD (SizeOf.sizeOf l+1)).2 l c.toList (by omega) PD ⟨by simp [h3],fun q d y hd hy=>h5 q d y hd (by simpa using hy)⟩
     exact this.2 q d y hd (by simpa using hy)
   | tree v e d =>
    rw [hl] at cw
    obtain ⟨q1,q2,q3⟩:=HT j hj (qq j hj v e d hl)
    refine ⟨?_,?_,q2 v e cw.2.2.1,q3 v e cw.2.2.2⟩
    ·rw [q1]; exact cw.1
    ·rw [q1]; exact cw.2.1
   | fz v d =>
    rw [hl] at cw
    obtain ⟨u,h1,h2,h3⟩:=cw
    refine ⟨u,?_,h2,h3⟩
    have PE:(j<σ.length→(∃V E d,κ (sg σ nx j)=.tree V E d) ∨ κ (sg σ nx j)=.none)→(cF σ nx ex κ G1 G2).H (sg σ nx j) (mC (jy κ σ j) v 0).1 0 []=some u:=fun hh=>by
     have:=congrFun ((HT j hj hh).1 v 0) []
     simp only [az] at this
     rw [this]; exact h1
    rcases Nat.lt_or_ge j σ.length with aJ | dw
    ·rcases ik ed j aJ with ⟨_,_,_,h⟩ | ⟨_,_,_,_,_,_,_,h⟩ | ⟨_,_,_,h0,_⟩ | ⟨_,_,_,h0,h⟩
     ·rw [hl] at h; cases h
     ·rw [hl] at h; cases h
     ·exact PE fun _=>(F3 j aJ).1 _ _ _ h0
     ·rw [hl] at h; injection h with e1 e2
      subst e1
      rcases (F3 j aJ).2 _ _ h0 with hT | ⟨V,d',hF⟩
      ·exact PE fun _=>.inl hT
      ·obtain ⟨x,p1,p2⟩:=iE j aJ V d' hF
       have p3:=hC.rj j aJ [] x p2
       rw [h1] at p3; injection p3 with p3; subst p3
       rw [Hl j hj]
       simp only [sY,if_pos aJ,hF]
       rw [UU j aJ,hF]
       exact p1
    ·exact PE fun h=>absurd h (by omega)
   | eA rc st l =>
    rw [hl] at cw
    obtain ⟨b,fn,tmps,D,h1,h2,h3⟩:=cw
    have PD:AV.xp (Ea σ.length (aa K0)) l=true:=by
     rcases RU with h | h
     ·have:=zP JC j _ h; rw [hl] at this; exact this
     ·rw [hl] at h; cases h
    exact ⟨b,fn,tmps,D,by rw [Odβ j hj]; exact h1,h2,(JD (SizeOf.sizeOf l+1)).2 l tmps.toList (by omega) PD h3⟩
  ·rw [if_neg hk,dm j hj hk]
   rw [fN hk] at cw
   refine ⟨by rw [Odβ j hj]; exact cw.1,fun v e p=>?_⟩
   rw [Hl j hj]
   rcases Nat.lt_or_ge j σ.length with aJ | dw
   ·exact absurd (zJ j aJ) hk
   ·simp only [sY,if_neg (Nat.not_lt.2 dw)]; exact cw.2 v e p
 ·rintro i b ⟨j,om⟩ ho
  obtain ⟨hj,rfl⟩:=gP om
  have Dr:=hP j hj b ho
  refine ⟨?_,hC.fit.own j b Dr⟩
  rcases hC.nc j b Dr with h | ⟨q,hq⟩
  ·exact .inl h
  ·obtain ⟨h1,h2⟩:=sZ q b hq
   exact .inr ⟨_,⟨q,Rc q (by omega)⟩,h2⟩
 ·rintro i i' b ⟨j,om⟩ ⟨j',UX⟩ ho hU
  obtain ⟨hj,rfl⟩:=gP om
  obtain ⟨oB,rfl⟩:=gP UX
  rw [hC.fit.inj j j' b (hP j hj b ho) (hP j' oB b hU)]
 ·cases om:iL σ nx ex i with
  | none=>simp only [cF,om]
  | some j =>
   obtain ⟨hj,rfl⟩:=gP om
   rw [Odβ j hj]
   rcases Nat.lt_or_ge j σ.length with aJ | dw
   ·rw [hC.jW j aJ,hβ0 j aJ]
   ·rw [ij dw] at hi; omega
 ·refine (JD (SizeOf.sizeOf (ic rs)+1)).1 (ic rs) v (by omega) ?_ hC.res
  match rs,TN with
  | [],_=>rfl
  | [d],h=>simp only [AV.xp,Bool.and_eq_true] at h; exact h.1
  | _::_::_,h=>exact h
end Go.TM
