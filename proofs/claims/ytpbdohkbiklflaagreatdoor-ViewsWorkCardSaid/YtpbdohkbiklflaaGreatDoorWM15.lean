import Derived.Test.YtpbdohkbiklflaaGreatDoorWM14
import Derived.RangeFuncRecord
set_option linter.unusedVariables false
set_option linter.unusedSimpArgs false
set_option linter.unusedSectionVars false
namespace Go.TM
open Go.RowKit
variable [ct]
def rF:Nat→List DV→Env
 | _,[]=>[]
 | i,d::r=>(i,uZ d)::rF (i+1) r
def LY (T:List TI) (ρ:Nat→AV) (κ:Nat→ao):ResultVar→(DV→Prop)→Prop
 | .tmp t,k=>match toArg κ (ρ t) with
  | some (d,_)=>k d
  | none=>False
 | .cell t ty,k=>bif (nth T ty).ok then match res κ (ρ t) with
  | .ptr i off=>match κ i with
   | .cells l=>bX (nth T ty).agg l off (nth T ty).size fun v=>match toArg κ v with
    | some (d,_)=>k d
    | none=>False
   | _=>False
  | _=>False
  else False
def Bq (T:List TI) (ρ:Nat→AV) (κ:Nat→ao):List ResultVar→List DV→Prop
 | [],[]=>True
 | v::r,d::ds=>LY T ρ κ v (fun d'=>d'.Le d)∧Bq T ρ κ r ds
 | _,_=>False
def dQ:Nat→List AV→Env
 | _,[]=>[]
 | i,v::r=>(i,v)::dQ (i+1) r
def zu (T:List TI) (ρ:Nat→AV) (κ:Nat→ao):List ResultVar→(List AV→Prop)→Prop
 | [],k=>k []
 | .tmp t::r,k=>force (res κ (ρ t)) fun v=>zu T ρ κ r fun l=>k (v::l)
 | .cell t ty::r,k=>bif (nth T ty).ok then match res κ (ρ t) with
  | .ptr i off=>match κ i with
   | .cells l=>bX (nth T ty).agg l off (nth T ty).size fun v=>zu T ρ κ r fun l=>k (v::l)
   | _=>False
  | _=>False
  else False
def zv (m ex:Nat) (κ:Nat→ao) (iT rs:List AV) (K':ah):Bool :=
 NI (m+ex) (aa K') K' && AV.Fy (aa K') rs && zn (aa K') (dA κ rs iT++ef κ K') && uU κ (aa K') m
def IY (T:List TI) (fn:Func) (m ex:Nat) (R:List AV→ah→Prop) (env:Env) (K:ah):Prop :=
 zu T (look env) (aa K) fn.results.toList fun iT=>∃rs K',R rs K'∧zv m ex (aa K) iT rs K'=true∧ed m (aa K) (aa K') rs iT∧oW m (aa K) (aa K') K'
def u4 (T:List TI) (fn:Func) (m ex:Nat) (R:List AV→ah→Prop) (e:AX) (_nx:Nat) (env:Env) (K:ah):Prop :=
 match e with
 | .normal=>IY T fn m ex R env K
 | .ret=>IY T fn m ex R env K
 | .exit _=>False
def Re (T:List TI) (fn:Func) (rs:List DV) (e:AX) (_nx:Nat) (env:Env) (K:ah):Prop :=
 match e with
 | .normal=>Bq T (look env) (aa K) fn.results.toList rs
 | .ret=>Bq T (look env) (aa K) fn.results.toList rs
 | .exit _=>False
section
variable {P:Program} {C:dx→Prop} {T:List TI} {n:Nat} {g:dx}
theorem putObj_size (w:World) (b:Nat) (o:Obj):(w.putObj b o).heap.size=w.heap.size:=by simp [World.putObj]
theorem eV (w:World) {b k:Nat} (o:Obj) (h:k ≠ b):(w.putObj b o).heap[k]?=w.heap[k]?:=by
 simp only [World.putObj]
 rw [Array.getElem?_setIfInBounds_ne (fun e=>h e.symm)]
theorem bY.shut {ρ:Nat→AV} {κ:Nat→ao} {a:Act} {w:World} {G:Gh} (h:bY g n ρ κ a w G) {D:List Nat} {r:Nat} (hD:a.defers=(r::D).map mark) :
  w.heap[r]?=some (.deferred (some []))∧bY g n ρ κ { a with defers:=D.map mark } (w.putObj r (.deferred none)) G:=by
 obtain ⟨D',h1,h2,h3⟩:=h.q7
 have W8:D'=r::D:=by
  rw [h1] at hD
  have inj:∀x y:Nat,mark x=mark y→x=y:=fun x y e=>by simp only [mark,Deferred.mk.injEq,Target.collected.injEq] at e; exact e.1
  have:∀(l l':List Nat),l.map mark=l'.map mark→l=l':=by
   intro l
   induction l with
   | nil=>intro l' e; cases l' with
    | nil=>rfl
    | cons=>simp at e
   | cons x l ih=>intro l' e; cases l' with
    | nil=>simp at e
    | cons y l'=>simp only [List.map_cons,List.cons.injEq] at e; rw [inj x y e.1,ih l' e.2]
  exact this _ _ hD
 subst W8
 obtain ⟨a1,a2,a3,a4⟩:=h3 r (by simp)
 have bB:∀i b,bG G i (κ i) b→b ≠ r:=fun i b ho e=>a2 i (e ▸ ho)
 have ei:G.M.In (w.putObj r (.deferred none)):=fun b o hb=>by
  rw [eV _ _ (fun e=>by rw [e,a3] at hb; cases hb)]; exact h.fit.sub b o hb
 refine ⟨a1,{ h with fit:=⟨ei,fun i=>(h.fit.box i).fO (.refl G) rfl (fun _=>⟨fun _ h=>h,fun _ _ _ _ h=>h⟩) (fun b hb=>eV _ _ (bB i b hb)) ei (h.fit.own i) (by rw [putObj_size]; exact Nat.le_refl _),h.fit.own,h.fit.inj⟩,xB:=fun b hb hO=>by rw [eV _ _ (by omega)]; exact h.xB b hb hO,os:=h.os,tape:=h.tape,output:=h.output,grow:=by rw [putObj_size]; exact h.grow,q7:=?_ }⟩
 refine ⟨D,rfl,(List.nodup_cons.1 h2).2,fun q hq=>?_⟩
 obtain ⟨b1,b2,b3,b4⟩:=h3 q (by simp [hq])
 have W9:q ≠ r:=fun e=>(List.nodup_cons.1 h2).1 (by rw [←e]; exact hq)
 exact ⟨by rw [eV _ _ W9]; exact b1,b2,b3,b4⟩
theorem bY.leave {ρ:Nat→AV} {κ:Nat→ao} {G:Gh} {F:Fence} {fn:Func} {R:Ending→World→Prop} (tmps:Array Value) (mr:∀w',bY g n ρ κ { tmps:=tmps,defers:=[] } w' G→∃v,(results fn tmps).run P w'=.ok v w'∧R (.returned v) w') :
  ∀(D:List Nat) (w:World),bY g n ρ κ { tmps:=tmps,defers:=D.map mark } w G→LeavesInM F 0 P fn tmps R (D.map mark) .returning w
 | [],w,h=>mr w h
 | r::D,w,h=>by
  obtain ⟨h1,h2⟩:=h.shut (D:=D) (r:=r) rfl
  exact ⟨by simp,.inl ⟨r,_,rfl,run_takeDeferred h1,bY.leave tmps mr D _ h2⟩⟩
theorem u5:∀(ds:List DV) (s t:Nat),look (rF s ds) t=if s≤t then (match ds[t - s]? with | some d=>uZ d | none=>.any) else .any
 | [],s,t=>by simp [rF,look]
 | d::r,s,t=>by
  simp only [rF,look]
  rw [u5 r (s+1) t]
  by_cases h1:s=t
  ·subst h1; simp
  ·have hb:Nat.beq s t=false:=by cases hb:Nat.beq s t with | false=>rfl | true=>exact absurd (Nat.eq_of_beq_eq_true hb) h1
   rw [hb]
   by_cases h2:s≤t
   ·have e:t - s=t - (s+1)+1:=by omega
    rw [if_pos h2,if_pos (by omega),e]; simp
   ·rw [if_neg h2,if_neg (by omega)]; simp
theorem Br (hT:ec P T) {ρ:Nat→AV} {κ:Nat→ao} {a:Act} {w:World} {G:Gh} (aj:bY g n ρ κ a w G) {rv:ResultVar} {q:DV→Prop} (h:LY T ρ κ rv q) :
  ∃(d:DV) (ids:List Nat),q d∧∃v,(match rv with | .tmp t=>pure (a.tmps.getD t undef) | .cell t ty=>do loadVar ty (←asAddr (a.tmps.getD t undef)):Sem Value).run P w=.ok v w ∧
   ∀(all:List Nat) (G':Gh),(∀i,i∈ids→i∈all)→Gh.Le G G'→Fit G' w (aw κ (jQ κ all))→bj G'.M d v:=by
 cases rv with
 | tmp t =>
  simp only [LY] at h
  split at h
  ·rename_i d ids hd
   refine ⟨d,ids,h,_,rfl,fun all G' hs hle iC=>mU (κ:=κ) (κ':=κ) (fun _ _=>rfl) hle iC hd hs (aj.env t)⟩
  ·exact h.elim
 | cell t ty =>
  simp only [LY] at h
  have hh:=aH h; clear h; obtain ⟨bU,h⟩:=hh
  split at h
  ·rename_i i off hr
   split at h
   ·rename_i l hk
    obtain ⟨av,h,hp⟩:=dD h
    split at h
    ·rename_i d ids hd
     have hv:=u6 aj.fit (aj.env t)
     rw [hr] at hv
     have rG:=aj.fit.box i
     rw [hk] at rG
     obtain ⟨b,c,tt,jm,hw,aT,j7,Rf⟩:=rG
     generalize hx:a.tmps.getD t undef=x at hv
     cases hv with | ptr _ _ b' cM =>
     rw [jm] at cM; injection cM with cM; subst cM
     have hA:(⟨b,off,none⟩:Addr)=(⟨b,0,none⟩:Addr).add off:=by rw [cD]; simp
     obtain ⟨v,h1,h2⟩:=jw (P:=P) (av:=av) (w:=w) (G:=G) (l:=l) (off:=off) hT bU ⟨b,0,none⟩ (fun j=>c.getD j undef) (fun j hj=>by
       rw [cD]
       simp [World.cell?,hw,aT,hj]) (fun j d hd=>by
       have hj:j<l.length:=(List.getElem?_eq_some_iff.1 hd).1
       exact Rf j d _ hd (by simp [aT,hj])) hp
     rw [←hA] at h1
     refine ⟨d,ids,h,v,?_,fun all G' hs hle iC=>mU (κ:=κ) (κ':=κ) (fun _ _=>rfl) hle iC hd hs h2⟩
     simp only [Instr.loadAt,Instr.sureAddr,Sem.run_bind,Sem.run_pure,Result.andThen_ok] at h1
     simp only [hx,asAddr,Sem.run_bind,Sem.run_pure,Result.andThen_ok]
     exact h1
    ·exact h.elim
   ·exact h.elim
  ·exact h.elim
theorem u7 (hT:ec P T) {ρ:Nat→AV} {κ:Nat→ao} {a:Act} {w:World} {G:Gh} (aj:bY g n ρ κ a w G):∀{IZ:List ResultVar} {rs:List DV},Bq T ρ κ IZ rs →
  ∃(ids:List Nat) (us:List Value),((IZ.mapM fun | .tmp t=>pure (a.tmps.getD t undef) | .cell t ty=>do loadVar ty (←asAddr (a.tmps.getD t undef))):Sem (List Value)).run P w=.ok us w ∧
   ∀(all:List Nat) (G':Gh),(∀i,i∈ids→i∈all)→Gh.Le G G'→Fit G' w (aw κ (jQ κ all))→eL G'.M rs us
 | [],[],_=>⟨[],[],rfl,fun _ G' _ _ _=>.nil G'.M⟩
 | [],_::_,h=>h.elim
 | _::_,[],h=>h.elim
 | rv::IZ,r::rs,⟨h1,h2⟩=>by
  obtain ⟨d,ids,hle,v,aZ,hd⟩:=Br hT aj h1
  obtain ⟨Uc,us,I0,Dr⟩:=u7 hT aj h2
  refine ⟨ids++Uc,v::us,?_,fun all G' hs hm iC=>.cons (hle G'.M v (hd all G' (fun i hi=>hs i (by simp [hi])) hm iC)) (Dr all G' (fun i hi=>hs i (by simp [hi])) hm iC)⟩
  rw [List.mapM_cons]
  simp only [Sem.run_bind]
  rw [aZ]
  simp only [Result.andThen_ok,Sem.run_bind,I0,Sem.run_pure]
theorem mV:∀(ds:List AV) (s t:Nat),look (dQ s ds) t=if s≤t then (match ds[t - s]? with | some d=>d | none=>.any) else .any
 | [],s,t=>by simp [dQ,look]
 | d::r,s,t=>by
  simp only [dQ,look]
  rw [mV r (s+1) t]
  by_cases h1:s=t
  ·subst h1; simp
  ·have hb:Nat.beq s t=false:=by cases hb:Nat.beq s t with | false=>rfl | true=>exact absurd (Nat.eq_of_beq_eq_true hb) h1
   rw [hb]
   by_cases h2:s≤t
   ·have e:t - s=t - (s+1)+1:=by omega
    rw [if_pos h2,if_pos (by omega),e]; simp
   ·rw [if_neg h2,if_neg (by omega)]; simp
theorem tL (hT:ec P T) {ρ:Nat→AV} {κ:Nat→ao} {a:Act} {w:World} {G:Gh} (aj:bY g n ρ κ a w G):∀{IZ:List ResultVar} {q:List AV→Prop},zu T ρ κ IZ q →
  ∃(iT:List AV) (us:List Value),q iT∧((IZ.mapM fun | .tmp t=>pure (a.tmps.getD t undef) | .cell t ty=>do loadVar ty (←asAddr (a.tmps.getD t undef))):Sem (List Value)).run P w=.ok us w∧bP G iT us
 | [],q,h=>⟨[],[],h,rfl,rfl,by simp⟩
 | .tmp t::IZ,q,h=>by
  simp only [zu,force_eq] at h
  obtain ⟨iT,us,hq,aZ,hc⟩:=tL hT aj h
  have hv:=u6 aj.fit (aj.env t)
  refine ⟨_,a.tmps.getD t undef::us,hq,?_,by simpa using hc.1,fun j d u hd hu=>?_⟩
  ·rw [List.mapM_cons]
   simp only [Sem.run_bind,Sem.run_pure,Result.andThen_ok,aZ]
  ·cases j with
   | zero =>
    rw [List.getElem?_cons_zero] at hd hu
    injection hd with hd; injection hu with hu; subst hd; subst hu; exact hv
   | succ j=>exact hc.2 j d u (by simpa using hd) (by simpa using hu)
 | .cell t ty::IZ,q,h=>by
  simp only [zu] at h
  have hh:=aH h; clear h; obtain ⟨bU,h⟩:=hh
  split at h
  ·rename_i i off hr
   split at h
   ·rename_i l hk
    obtain ⟨av,h,hp⟩:=dD h
    obtain ⟨iT,us,hq,aZ,hc⟩:=tL hT aj h
    have hv:=u6 aj.fit (aj.env t)
    rw [hr] at hv
    have rG:=aj.fit.box i
    rw [hk] at rG
    obtain ⟨b,c,tt,jm,hw,aT,j7,Rf⟩:=rG
    generalize hx:a.tmps.getD t undef=x at hv
    cases hv with | ptr _ _ b' cM =>
    rw [jm] at cM; injection cM with cM; subst cM
    have hA:(⟨b,off,none⟩:Addr)=(⟨b,0,none⟩:Addr).add off:=by rw [cD]; simp
    obtain ⟨v,h1,h2⟩:=jw (P:=P) (av:=av) (w:=w) (G:=G) (l:=l) (off:=off) hT bU ⟨b,0,none⟩ (fun j=>c.getD j undef) (fun j hj=>by
      rw [cD]
      simp [World.cell?,hw,aT,hj]) (fun j d hd=>by
      have hj:j<l.length:=(List.getElem?_eq_some_iff.1 hd).1
      exact Rf j d _ hd (by simp [aT,hj])) hp
    rw [←hA] at h1
    refine ⟨_,v::us,hq,?_,by simpa using hc.1,fun j d u hd hu=>?_⟩
    ·simp only [Instr.loadAt,Instr.sureAddr,Sem.run_bind,Sem.run_pure,Result.andThen_ok] at h1
     rw [List.mapM_cons]
     have Rg:((do loadVar ty (←asAddr (a.tmps.getD t undef))):Sem Value).run P w=.ok v w:=by
      simp only [hx,asAddr,Sem.run_bind,Sem.run_pure,Result.andThen_ok]; exact h1
     rw [Sem.run_bind]
     simp only
     rw [Rg]
     simp only [Result.andThen_ok,Sem.run_bind,aZ,Sem.run_pure]
    ·cases j with
     | zero=>simp at hd hu; subst hd; subst hu; exact h2
     | succ j=>exact hc.2 j d u (by simpa using hd) (by simpa using hu)
   ·exact h.elim
  ·exact h.elim
theorem mW {fn:Func} {tmps:Array Value} {w:World} {us:List Value} (aZ:((fn.results.toList.mapM fun | .tmp t=>pure (tmps.getD t undef) | .cell t ty=>do loadVar ty (←asAddr (tmps.getD t undef))):Sem (List Value)).run P w=.ok us w) :
  (results fn tmps).run P w=.ok (if h:us.toArray.size=1 then us.toArray[0] else .tuple us.toArray) w:=by
 have kD:((fn.results.mapM fun | .tmp t=>pure (tmps.getD t undef) | .cell t ty=>do loadVar ty (←asAddr (tmps.getD t undef))):Sem (Array Value)).run P w=.ok us.toArray w:=by
  rw [Array.mapM_eq_mapM_toList,Sem.run_map,aZ]
  rfl
 unfold results
 rw [Sem.run_bind]
 exact congrArg (fun r=>Result.andThen r (fun (vs:Array Value) w=>(pure (if h:vs.size=1 then vs[0] else .tuple vs):Sem Value).run P w)) kD
theorem bI (hT:ec P T) (hm:P.follows .mixedOrders=true) (hC:cU P (fun _=>True)) (FD:hZ P) {f:Nat} {fn:Func} {c:Code} {args rs:List DV} (hf:P.funcs[f]?=some fn) (hb:fn.body=some c) (dR:(fn.name == "runtime.NumGoroutine")=false)
  (bK:Nat.ble args.length fn.ntmps=true) (h:gf P T .fn fn.ntmps 0 c (Re T fn rs) 0 (rF 0 args) []):cP P f args rs:=by
 refine ⟨⟨fn,hf,dR,by rw [hb]; rfl⟩,fun w M vs ei qX hr=>?_⟩
 refine (fI.calls (n:=0)).1 (callsIn_of_wp_marks hf hb trivial ?_)
 have hlen:vs.length≤fn.ntmps:=by rw [←hr.1]; exact Nat.le_of_ble_eq_true bK
 let g:dx:=⟨fun _=>False,w,M,0,fun _=>none,fun _ _=>none⟩
 let G0:Gh:=⟨M,fun _=>none,fun _ _ _ _=>none,fun _ _=>False⟩
 have aj:bY g fn.ntmps (look (rF 0 args)) (aa []) { tmps:=vs.toArray++Array.replicate (fn.ntmps - vs.toArray.size) undef,defers:=[] } w G0:=by
  refine { fit:=⟨ei,fun i=>⟨rfl,fun _ _ _=>rfl⟩,fun i b ho=>ho.elim,fun i j b ho=>ho.elim⟩,env:=fun t=>?_,size:=by simp; omega,xB:=fun _ _ _=>rfl,os:=rfl,tape:=rfl,output:=rfl,grow:=Nat.le_refl _,mem:=.refl M,mD:=fun _ _ _=>rfl,fV:=fun i b ho=>ho.elim,jR:=fun i hi=>absurd hi (Nat.not_lt_zero _),q6:=fun i hi=>absurd hi (Nat.not_lt_zero _),oa:=qX,q7:=⟨[],rfl,List.nodup_nil,by simp⟩ }
  rw [u5]
  simp only [Nat.zero_le,if_true,Nat.sub_zero]
  split
  ·rename_i d hd
   have ht:t<vs.length:=by rw [←hr.1]; exact (List.getElem?_eq_some_iff.1 hd).1
   have hv:vs[t]?=some (vs[t]'ht):=List.getElem?_eq_getElem ht
   have:(vs.toArray++Array.replicate (fn.ntmps - vs.toArray.size) undef).getD t undef=vs[t]'ht:=by
    rw [Array.getD_eq_getD_getElem?,Array.getElem?_append_left (by simpa using ht)]
    simp [hv]
   rw [this]
   exact nU (hr.2 t d _ hd hv)
  ·exact .any _
 refine sR (g:=g) hT hm hC FD trivial fI (fun _=>rfl) (Nat.le_refl _) c h ⟨⟨G0,aj⟩,Nat.le_refl _,fun _ _=>rfl⟩ fun e nx env K a w' hq hs=>?_
 obtain ⟨⟨G1,fP⟩,_⟩:=hs
 have fin:Bq T (look env) (aa K) fn.results.toList rs→LeavesInM Fence.wide 0 P fn a.tmps (fun e w'=>∃v M',e=.returned v∧Below w.heap.size w w'∧Mem.Le M M'∧M'.In w'∧(∀b,b<w.heap.size→M' b=M b)∧u9 M' rs v) a.defers .returning w':=by
  intro rb
  obtain ⟨D,hD,_⟩:=fP.q7
  rw [hD]
  refine bY.leave (g:=g) (n:=fn.ntmps) (ρ:=look env) (κ:=aa K) (G:=G1) a.tmps (fun w2 oX=>?_) D w' (by have:=fP; rw [←hD]; exact this)
  obtain ⟨ids,us,aZ,Dr⟩:=u7 hT oX rb
  obtain ⟨G2,hle,_,_,_,iC⟩:=oX.nN (κ:=aa K) ids (fun _ _=>rfl)
  have aA:=Dr ids G2 (fun i hi=>hi) hle iC.fit
  have O5:Below w.heap.size w w2:=⟨iC.os,iC.tape,iC.output,iC.grow,fun b hb=>iC.xB b hb (fun h=>h)⟩
  refine ⟨_,mW aZ,_,G2.M,rfl,O5,iC.mem,iC.fit.sub,fun b hb=>iC.mD b hb (fun h=>h),?_⟩
  have o3:us.length=rs.length:=aA.1.symm
  have many:us.length ≠ 1→∃Ud:List Value,(if h:us.toArray.size=1 then us.toArray[0] else Value.tuple us.toArray)=.tuple Ud.toArray∧eL G2.M rs Ud:=by
   intro bB
   refine ⟨us,?_,aA⟩
   rw [dif_neg (by simpa using bB)]
  match rs,aA,o3,many with
  | [],aA,o3,many=>exact many (by simp at o3; simp [o3])
  | [d],aA,o3,_ =>
   match us,o3,aA with
   | [u],_,aA=>exact aA.2 0 d u rfl rfl
  | _::_::_,aA,o3,many=>exact many (by simp at o3; omega)
 cases e with
 | normal=>exact fin hq
 | ret=>exact fin hq
 | exit i=>exact hq.elim
theorem xP {rm:RM} (YK:rm.OX=true) (hT:ec P T) (hm:P.follows .mixedOrders=true) (hC:cU P (fun _=>True)) (FD:hZ P) {f:Nat} {fn:Func} {c:Code} {args:List AV} {m ex:Nat} {K:ah} {R:List AV→ah→Prop} (hf:P.funcs[f]?=some fn) (hb:fn.body=some c) (dR:(fn.name == "runtime.NumGoroutine")=false)
  (bK:(Nat.ble args.length fn.ntmps && br.wf ⟨m,dQ 0 args,K⟩)=true) (h:gf P T rm fn.ntmps m c (u4 T fn m ex R) m (dQ 0 args) K):dJ P f args m K ex R:=by
 refine ⟨⟨fn,hf,dR,by rw [hb]; rfl⟩,fun w G vs qX cB hr=>?_⟩
 refine (fI.calls (n:=0)).1 (callsIn_of_wp_marks hf hb trivial ?_)
 simp only [Bool.and_eq_true,br.wf] at bK
 obtain ⟨hlen,Ue,Xa⟩:=bK
 have hlen:vs.length≤fn.ntmps:=by rw [←hr.1]; exact Nat.le_of_ble_eq_true hlen
 let g:dx:=⟨fun b=>∃i,bG G i (aa K i) b,w,G.M,m,G.β,fun i p=>G.H i 0 0 p⟩
 have aj:bY g fn.ntmps (look (dQ 0 args)) (aa K) { tmps:=vs.toArray++Array.replicate (fn.ntmps - vs.toArray.size) undef,defers:=[] } w G:=by
  refine { fit:=cB,env:=fun t=>?_,size:=by simp; omega,xB:=fun _ _ _=>rfl,os:=rfl,tape:=rfl,output:=rfl,grow:=Nat.le_refl _,mem:=.refl G.M,mD:=fun _ _ _=>rfl,fV:=fun i b ho=>.inr ⟨i,ho⟩,jR:=fun _ _=>rfl,q6:=fun _ _ _ _ hx=>hx,oa:=qX,q7:=⟨[],rfl,List.nodup_nil,by simp⟩ }
  rw [mV]
  simp only [Nat.zero_le,if_true,Nat.sub_zero]
  split
  ·rename_i d hd
   have ht:t<vs.length:=by rw [←hr.1]; exact (List.getElem?_eq_some_iff.1 hd).1
   have hv:vs[t]?=some (vs[t]'ht):=List.getElem?_eq_getElem ht
   have:(vs.toArray++Array.replicate (fn.ntmps - vs.toArray.size) undef).getD t undef=vs[t]'ht:=by
    rw [Array.getD_eq_getD_getElem?,Array.getElem?_append_left (by simpa using ht)]
    simp [hv]
   rw [this]
   exact hr.2 t d _ hd hv
  ·exact .any _
 refine sR (g:=g) hT hm hC FD trivial fI (fun _=>rfl) (r:=rm) (Nat.le_refl _) c h ⟨⟨G,aj⟩,Nat.le_refl _,fun i hi=>mR Ue hi⟩ fun e nx env K1 a w' hq hs=>?_
 obtain ⟨⟨G1,fP⟩,_⟩:=hs
 have fin:IY T fn m ex R env K1→LeavesInM Fence.wide 0 P fn a.tmps (fun e w'=>∃v rs K' G',e=.returned v∧R rs K'∧I1 m ex (aa K) w G rs (aa K') w' G' v) a.defers .returning w':=by
  intro rb
  obtain ⟨D,hD,_⟩:=fP.q7
  rw [hD]
  refine bY.leave (g:=g) (n:=fn.ntmps) (ρ:=look env) (κ:=aa K1) (G:=G1) a.tmps (fun w2 oX=>?_) D w' (by have:=fP; rw [←hD]; exact this)
  obtain ⟨iT,us,⟨rs,K2,hR,eP,Xb,Ic⟩,aZ,dt⟩:=tL hT oX rb
  simp only [zv,Bool.and_eq_true] at eP
  obtain ⟨⟨⟨I2,O6⟩,gI⟩,mS⟩:=eP
  obtain ⟨G2,_,GB,IX⟩:=oX.sub (m:=m) (Nat.le_refl _) (F:=dA (aa K1) rs iT++ef (aa K1) K2) I2 (fun i hi=>List.mem_append.2 (.inr hi)) gI mS Ic
  have aA:=GB rs iT us Xb O6 (fun i hi=>List.mem_append.2 (.inl hi)) dt
  have jx:=IX (fun _=>.any) (fun _=>.any _)
  refine ⟨_,mW aZ,_,rs,K2,G2,rfl,hR,⟨jx.fit,fun i hi=>mR I2 hi,?_,jx.mem,jx.jR,jx.q6,fun b hb hO=>⟨jx.xB b hb (fun ⟨i,h⟩=>hO i h),jx.mD b hb (fun ⟨i,h⟩=>hO i h)⟩,jx.fV,jx.os,jx.tape,jx.output,jx.grow⟩⟩
  have o3:us.length=rs.length:=aA.1.symm
  have many:us.length ≠ 1→aD G2 (.eK rs) (if h:us.toArray.size=1 then us.toArray[0] else Value.tuple us.toArray):=by
   intro bB
   rw [dif_neg (by simpa using bB)]
   exact .eK rs us aA.1 aA.2
  match rs,aA,o3,many with
  | [],aA,o3,many=>exact many (by simp at o3; simp [o3])
  | [d],aA,o3,_ =>
   match us,o3,aA with
   | [u],_,aA=>exact aA.2 0 d u rfl rfl
  | _::_::_,aA,o3,many=>exact many (by simp at o3; omega)
 cases e with
 | normal=>exact fin hq
 | ret=>exact fin hq
 | exit i=>exact hq.elim
theorem xQ (hT:ec P T) (hm:P.follows .mixedOrders=true) (hC:cU P (fun _=>True)) (FD:hZ P) {f:Nat} {fn:Func} {c:Code} {args:List AV} {m ex:Nat} {K:ah} {R:List AV→ah→Prop} (hf:P.funcs[f]?=some fn) (hb:fn.body=some c) (dR:(fn.name == "runtime.NumGoroutine")=false)
  (bK:(Nat.ble args.length fn.ntmps && br.wf ⟨m,dQ 0 args,K⟩)=true) (h:gf P T .fn fn.ntmps m c (u4 T fn m ex R) m (dQ 0 args) K):dJ P f args m K ex R :=
 xP (rm:=.fn) rfl hT hm hC FD hf hb dR bK h
theorem DJ (hT:ec P T) (hm:P.follows .mixedOrders=true) (hC:cU P (fun _=>True)) (FD:hZ P) {f:Nat} {fn:Func} {c:Code} {args:List AV} {m ex:Nat} {K:ah} {R:List AV→ah→Prop} (hf:P.funcs[f]?=some fn) (hb:fn.body=some c) (dR:(fn.name == "runtime.NumGoroutine")=false)
  (bK:(Nat.ble args.length fn.ntmps && br.wf ⟨m,dQ 0 args,K⟩)=true) (h:gf P T .rel fn.ntmps m c (u4 T fn m ex R) m (dQ 0 args) K):dJ P f args m K ex R :=
 xP (rm:=.rel) rfl hT hm hC FD hf hb dR bK h
theorem bn (hT:ec P T) (hm:P.follows .mixedOrders=true) (hC:cU P (fun _=>True)) (FD:hZ P) {f:Nat} {fn:Func} {c:Code} {args:List AV} {m ex:Nat} {K:ah} {rs:List AV} {K':ah} (hf:P.funcs[f]?=some fn) (hb:fn.body=some c) (dR:(fn.name == "runtime.NumGoroutine")=false)
  (bK:(Nat.ble args.length fn.ntmps && br.wf ⟨m,dQ 0 args,K⟩)=true) (h:gf P T .fn fn.ntmps m c (u4 T fn m ex fun r k=>r=rs∧k=K') m (dQ 0 args) K):bl P f args m K ex rs K' :=
 xQ hT hm hC FD hf hb dR bK h
theorem vd (hT:ec P T) (hm:P.follows .mixedOrders=true) (hC:cU P (fun _=>True)) (FD:hZ P) {f:Nat} {fn:Func} {c:Code} {args:List AV} {m ex:Nat} {K:ah} {rs:List AV} {K':ah} (hf:P.funcs[f]?=some fn) (hb:fn.body=some c) (dR:(fn.name == "runtime.NumGoroutine")=false)
  (bK:(Nat.ble args.length fn.ntmps && br.wf ⟨m,dQ 0 args,K⟩)=true) (h:gf P T .rel fn.ntmps m c (u4 T fn m ex fun r k=>r=rs∧k=K') m (dQ 0 args) K):bl P f args m K ex rs K' :=
 DJ hT hm hC FD hf hb dR bK h
end
end Go.TM
namespace Go.TM
open Go.RowKit
variable [ct]
theorem ia (v e:Nat):mu (0,0) v e=(v,e):=by cases v <;> simp [mu]
theorem fy:∀(K:ah),aa K=aw (fun _=>.none) K
 | []=>rfl
 | (i,b)::K=>by
  funext t
  simp only [aa,aw,gx,fy K]
  by_cases h:t=i
  ·subst h; simp
  ·rw [if_neg h]; simp [beq_false h]
theorem nV {r:Nat→Nat} {sh:Nat→Nat × Nat} (dr:∀i j,r i=r j→i=j) (f:Nat→ao):∀(K:ah) (j:Nat),aw f (bV r sh K) (r j)=if j∈keys K then qg r sh j (aa K j) else f (r j)
 | [],j=>by simp [bV,aw,keys]
 | (i,b)::K,j=>by
  simp only [bV,aw]
  by_cases e:j=i
  ·subst e; simp [keys,aa]
  ·have:r j ≠ r i:=fun h=>e (dr _ _ h)
   rw [ae _ _ this,nV dr f K j]
   simp only [aa,beq_false e,cond_false]
   by_cases hj:j∈keys K
   ·rw [if_pos hj,if_pos (by simp only [keys,List.map_cons,List.mem_cons]; exact .inr hj)]
   ·rw [if_neg hj,if_neg (by simp only [keys,List.map_cons,List.mem_cons,not_or]; exact ⟨e,hj⟩)]
theorem ma {r:Nat→Nat} {sh:Nat→Nat × Nat} (f:Nat→ao):∀(K:ah) (i:Nat),(∀j,j∈keys K→r j ≠ i)→aw f (bV r sh K) i=f i
 | [],i,_=>rfl
 | (j,b)::K,i,h=>by
  simp only [bV,aw]
  rw [ae _ _ (fun e=>h j (by simp [keys]) e.symm)]
  exact ma f K i fun q hq=>h q (by simp only [keys,List.map_cons,List.mem_cons]; exact .inr hq)
theorem c9 {m:Nat}:∀{K:ah},lr m K=true→∀j,j∈keys K→j<m
 | [],_,j,h=>by simp [keys] at h
 | (i,b)::K,hk,j,h=>by
  simp only [lr,Bool.and_eq_true,Nat.blt_eq] at hk
  simp only [keys,List.map_cons,List.mem_cons] at h
  rcases h with rfl | h
  ·exact hk.1
  ·exact c9 hk.2 j h
theorem fJ:∀{K:ah} {j:Nat},j ∉ keys K→aa K j=.none
 | [],_,_=>rfl
 | (i,b)::K,j,h=>by
  simp only [keys,List.map_cons,List.mem_cons,not_or] at h
  simp only [aa]
  rw [beq_false h.1]
  exact fJ h.2
theorem kE {r:Nat→Nat} {sh:Nat→Nat × Nat}:∀{K:ah} {i:Nat} {b:ao},(i,b)∈bV r sh K→∃j,j∈keys K∧i=r j
 | [],i,b,h=>by simp [bV] at h
 | (j,c)::K,i,b,h=>by
  simp only [bV,List.mem_cons] at h
  rcases h with h | h
  ·injection h with e1 e2; exact ⟨j,by simp [keys],e1⟩
  ·obtain ⟨q,h1,h2⟩:=kE h; exact ⟨q,by simp only [keys,List.map_cons,List.mem_cons]; exact .inr h1,h2⟩
theorem sS {γ:Type _} (f:Nat→γ):∀(l l':List (Nat × γ)),aw f (l++l')=aw (aw f l') l
 | [],_=>rfl
 | (i,x)::l,l'=>by simp only [List.cons_append,aw,sS f l l']
theorem iH:∀{σ:List Nat} {nx j:Nat} (h:j<σ.length),sg σ nx j=σ[j]
 | [],_,j,h=>by simp at h
 | i::σ,nx,0,_=>rfl
 | i::σ,nx,j+1,h=>by simp only [sg,List.getElem_cons_succ]; exact iH (by simpa using h)
theorem ib:∀{σ:List Nat} {nx j:Nat},σ.length≤j→sg σ nx j=nx+(j - σ.length)
 | [],_,j,_=>by simp [sg]
 | i::σ,nx,0,h=>by simp at h
 | i::σ,nx,j+1,h=>by
  simp only [sg,List.length_cons]
  rw [ib (by simpa using h)]
  simp
theorem gL {κ:Nat→ao}:∀{σ:List Nat} {nx:Nat},FE κ σ nx=true→(∀i,i∈σ→i<nx)∧σ.Nodup
 | [],_,_=>⟨by simp,List.nodup_nil⟩
 | i::σ,nx,h=>by
  simp only [FE,Bool.and_eq_true,Nat.blt_eq,Bool.not_eq_true'] at h
  obtain ⟨h1,h2⟩:=gL h.2
  exact ⟨fun j hj=>by rcases List.mem_cons.1 hj with rfl | hj; exact h.1.1; exact h1 j hj,List.nodup_cons.2 ⟨eo h.1.2,h2⟩⟩
theorem I3 {κ:Nat→ao}:∀{σ:List Nat} {j:Nat} (h:j<σ.length),ju κ σ j=I4 (κ σ[j])
 | [],j,h=>by simp at h
 | i::σ,0,_=>rfl
 | i::σ,j+1,h=>by simp only [ju,List.getElem_cons_succ]; exact I3 (by simpa using h)
theorem FF {κ:Nat→ao}:∀{σ:List Nat} {j:Nat},σ.length≤j→ju κ σ j=(0,0)
 | [],_,_=>rfl
 | i::σ,0,h=>by simp at h
 | i::σ,j+1,h=>by simp only [ju]; exact FF (by simpa using h)
def pos:List Nat→Nat→Option Nat
 | [],_=>none
 | x::l,i=>if x=i then some 0 else (pos l i).map (·+1)
def iI (σ:List Nat) (nx ex i:Nat):Option Nat:=match pos σ i with
 | some j=>some j
 | none=>if nx≤i∧i<nx+ex then some (σ.length+(i - nx)) else none
theorem vf:∀{σ:List Nat} {i j:Nat},pos σ i=some j→∃h:j<σ.length,σ[j]=i
 | [],i,j,h=>by simp [pos] at h
 | x::l,i,j,h=>by
  simp only [pos] at h
  split at h
  ·rename_i e; injection h with h; subst h; exact ⟨by simp,e⟩
  ·cases hp:pos l i with
   | none=>rw [hp] at h; simp at h
   | some q=>rw [hp] at h; simp at h; subst h; obtain ⟨h1,h2⟩:=vf hp; exact ⟨by simpa using h1,by simpa using h2⟩
theorem pos_at:∀{σ:List Nat} (hn:σ.Nodup) {j:Nat} (h:j<σ.length),pos σ σ[j]=some j
 | [],_,j,h=>by simp at h
 | x::l,hn,0,h=>by simp [pos]
 | x::l,hn,j+1,h=>by
  have C1:=List.nodup_cons.1 hn
  have hj:j<l.length:=by simpa using h
  simp only [List.getElem_cons_succ,pos]
  rw [if_neg (fun e=>C1.1 (by rw [e]; exact List.getElem_mem hj)),pos_at C1.2 hj]
  rfl
theorem I5 {σ:List Nat} {i:Nat} (h:i ∉ σ):pos σ i=none:=by
 cases hp:pos σ i with
 | none=>rfl
 | some j=>obtain ⟨h1,h2⟩:=vf hp; exact absurd (h2 ▸ List.getElem_mem h1) h
theorem I6 {σ:List Nat} {nx:Nat} (h1:∀i,i∈σ→i<nx) (h2:σ.Nodup) (i j:Nat) (h:sg σ nx i=sg σ nx j):i=j:=by
 rcases Nat.lt_or_ge i σ.length with hi | hi
 ·rcases Nat.lt_or_ge j σ.length with hj | hj
  ·rw [iH hi,iH hj] at h
   have e1:=pos_at h2 hi; have e2:=pos_at h2 hj; rw [h,e2] at e1; injection e1 with e1; exact e1.symm
  ·rw [iH hi,ib hj] at h
   have:=h1 _ (List.getElem_mem hi); omega
 ·rcases Nat.lt_or_ge j σ.length with hj | hj
  ·rw [ib hi,iH hj] at h
   have:=h1 _ (List.getElem_mem hj); omega
  ·rw [ib hi,ib hj] at h; omega
theorem LZ {σ:List Nat} {nx ex:Nat} (h1:∀i,i∈σ→i<nx) (h2:σ.Nodup) {j:Nat} (hj:j<σ.length+ex):iI σ nx ex (sg σ nx j)=some j:=by
 unfold iI
 rcases Nat.lt_or_ge j σ.length with aJ | du
 ·rw [iH aJ,pos_at h2 aJ]
 ·rw [ib du,I5 (fun hm=>by have:=h1 _ hm; omega)]
  simp only
  rw [if_pos (by omega)]
  congr 1
  omega
theorem gM {σ:List Nat} {nx ex i j:Nat} (h:iI σ nx ex i=some j):j<σ.length+ex∧sg σ nx j=i:=by
 unfold iI at h
 split at h
 ·rename_i q hq
  injection h with h; subst h
  obtain ⟨h1,h2⟩:=vf hq
  exact ⟨by omega,by rw [iH h1]; exact h2⟩
 ·split at h
  ·rename_i hr
   injection h with h; subst h
   refine ⟨by omega,?_⟩
   rw [ib (by omega)]; omega
  ·cases h
def pull (r:Nat→Nat) (G:Gh):Gh:=⟨G.M,fun j=>G.β (r j),fun j=>G.H (r j),fun j=>G.X (r j)⟩
theorem kF (r:Nat→Nat) (G:Gh) (j v e:Nat):aA (pull r G).H j v e=aA G.H (r j) v e:=by
 funext p; cases p <;> rfl
theorem I7 {r:Nat→Nat} {G:Gh}:∀N:Nat,(∀(u:AV) (x:Value),SizeOf.sizeOf u<N→aD G (kZ r dB u) x→aD (pull r G) u x) ∧
  (∀(us:List AV) (xs:List Value),SizeOf.sizeOf us<N→bP G (dF r dB us) xs→bP (pull r G) us xs):=by
 intro N
 induction N with
 | zero=>exact ⟨fun _ _ h=>by omega,fun _ _ h=>by omega⟩
 | succ N ih =>
  refine ⟨fun u x aT hv=>?_,fun us xs aT hr=>?_⟩
  ·cases u with
   | any=>exact .any _
   | dv d=>simp only [kZ] at hv; cases hv with | dv h=>exact .dv h
   | ptr i off=>simp only [kZ] at hv; cases hv with | ptr _ _ b h=>exact .ptr i off b h
   | fq i=>simp only [kZ] at hv; cases hv with | fq _ b h=>exact .fq i b h
   | sle i n=>simp only [kZ] at hv; cases hv with | sle _ _ b h=>exact .sle i n b h
   | bS i v=>simp only [kZ,dB,ia] at hv; cases hv with | bS _ _ a n h=>exact .bS i v a n h
   | own i v e p =>
    simp only [kZ,dB,ia] at hv
    cases hv with | own _ _ _ _ _ h hc=>exact .own i v e p x (by rw [kF]; exact h) hc
   | loc i v e p a b c =>
    simp only [kZ,dB,ia] at hv
    cases hv with
    | loc _ _ _ _ _ _ _ A q q' h=>exact .loc i v e p a b c A q q' (by rw [kF]; exact h)
    | mn _ _ _ _ _ _ _ A h=>exact .mn i v e p a b c A (by rw [kF]; exact h)
   | pre i v e p a b c =>
    simp only [kZ,dB,ia] at hv
    cases hv with
    | pre _ _ _ _ _ _ _ q q' h=>exact .pre i v e p a b c q q' fun hn=>by obtain ⟨A,N,c',e1,e2⟩:=h hn; exact ⟨A,N,c',by rw [kF]; exact e1,e2⟩
   | fn f l=>simp only [kZ] at hv; cases hv with | fn _ _ vs hl hr=>have:=ih.2 l vs (by simp at aT; omega) ⟨hl,hr⟩; exact .fn f l vs this.1 this.2
   | gV f l=>simp only [kZ] at hv; cases hv with | gV _ _ vs hl hr=>have:=ih.2 l vs (by simp at aT; omega) ⟨hl,hr⟩; exact .gV f l vs this.1 this.2
   | agg l=>simp only [kZ] at hv; cases hv with | agg _ vs hl hr=>have:=ih.2 l vs (by simp at aT; omega) ⟨hl,hr⟩; exact .agg l vs this.1 this.2
   | eK l=>simp only [kZ] at hv; cases hv with | eK _ vs hl hr=>have:=ih.2 l vs (by simp at aT; omega) ⟨hl,hr⟩; exact .eK l vs this.1 this.2
   | opt g v=>simp only [kZ] at hv; cases hv with | opt _ _ _ h hu=>exact .opt g v x (fun hg=>ih.1 v x (by simp at aT; omega) (h hg)) hu
  ·cases us with
   | nil=>exact ⟨hr.1,by simp⟩
   | cons u us =>
    simp only [dF] at hr
    match xs,hr with
    | [],hr=>have:=hr.1; simp at this
    | x::xs,hr =>
     have h1:=ih.1 u x (by simp at aT; omega) (hr.2 0 _ x rfl rfl)
     have h2:=ih.2 us xs (by simp at aT; omega) ⟨by simpa using hr.1,fun q e y he hy=>hr.2 (q+1) e y (by simpa using he) (by simpa using hy)⟩
     refine ⟨by simp [h2.1],fun j d y hd hy=>?_⟩
     cases j with
     | zero=>simp at hd hy; subst hd; subst hy; exact h1
     | succ j=>exact h2.2 j d y (by simpa using hd) (by simpa using hy)
theorem mX (r:Nat→Nat) (sh:Nat→Nat × Nat):∀l,(dF r sh l).length=l.length
 | []=>rfl
 | v::l=>by simp [dF,mX r sh l]
theorem vg (r:Nat→Nat) (sh:Nat→Nat × Nat):∀(l:List AV) (j:Nat),(dF r sh l)[j]?=(l[j]?).map (kZ r sh)
 | [],j=>by simp [dF]
 | v::l,0=>by simp [dF]
 | v::l,j+1=>by simp [dF,vg r sh l j]
theorem DK (r:Nat→Nat) (sh:Nat→Nat × Nat) (v:AV):(kZ r sh v).ak=v.ak:=by cases v <;> simp [kZ,AV.ak]
theorem L0 {r:Nat→Nat} (dr:∀i j,r i=r j→i=j) {G:Gh} {w:World} {K:ah} (hf:Fit G w (aa (bV r dB K))) (hk:∀j,j∈keys K→aa K j ≠ .none) (dL:∀j,j∈keys K→∀a b c d e,aa K j ≠ .iZ a b c d e) (Xc:∀j,j∈keys K→aa K j ≠ .held) (hc:∀(j:Nat) (l:List AV),aa K j=.cells l→bN l=true) :
  Fit (pull r G) w (aa K)∧∀j b,bG (pull r G) j (aa K j) b→j∈keys K∧bG G (r j) (aa (bV r dB K) (r j)) b:=by
 have jb:∀j,aa (bV r dB K) (r j)=if j∈keys K then qg r dB j (aa K j) else .none:=fun j=>by
  rw [fy]; exact nV dr _ K j
 have gB:∀j b,bG (pull r G) j (aa K j) b→j∈keys K∧bG G (r j) (aa (bV r dB K) (r j)) b:=by
  intro j b ho
  by_cases hj:j∈keys K
  ·refine ⟨hj,?_⟩
   rw [jb,if_pos hj]
   cases hl:aa K j with
   | cells l=>rw [hl] at ho; exact ho
   | tree v e d =>
    rw [hl] at ho
    simp only [qg,dB,ia,bG] at ho ⊢
    rw [kF] at ho; exact ho
   | ey rc st l=>rw [hl] at ho; exact ho
   | iZ a b c d e=>exact absurd hl (dL j hj a b c d e)
   | _=>rw [hl] at ho; exact ho.elim
  ·rw [fJ hj] at ho; exact ho.elim
 refine ⟨⟨hf.sub,fun j=>?_,fun j b ho=>hf.own _ b (gB j b ho).2,fun i j b hi hj=>dr i j (hf.inj _ _ b (gB i b hi).2 (gB j b hj).2)⟩,gB⟩
 have hb:=hf.box (r j)
 rw [jb] at hb
 by_cases hj:j∈keys K
 ·rw [if_pos hj] at hb
  cases hl:aa K j with
  | none=>exact absurd hl (hk j hj)
  | dead=>trivial
  | cells l =>
   rw [hl] at hb
   obtain ⟨b,c,t,h1,h2,h3,h4,h5⟩:=hb
   refine ⟨b,c,t,h1,h2,by rw [h3,mX],eO (hc j l hl),fun q d v hd hv=>?_⟩
   exact (I7 (r:=r) (SizeOf.sizeOf d+1)).1 d v (by omega) (h5 q _ v (by rw [vg,hd]; rfl) hv)
  | tree v e d =>
   rw [hl] at hb
   simp only [qg,dB,ia] at hb
   simp only [fF] at hb ⊢
   rw [kF]
   exact hb
  | fz v d =>
   rw [hl] at hb
   simp only [qg,dB,ia] at hb
   exact hb
  | ey rc st l =>
   rw [hl] at hb
   obtain ⟨b,fn,tmps,D,h1,h2,h3⟩:=hb
   exact ⟨b,fn,tmps,D,h1,h2,(I7 (r:=r) (SizeOf.sizeOf l+1)).2 l tmps.toList (by omega) h3⟩
  | iZ a b c d e=>exact absurd hl (dL j hj a b c d e)
  | held=>exact absurd hl (Xc j hj)
 ·rw [if_neg hj] at hb
  rw [fJ hj]
  exact hb
theorem I8 {G2 G3:Gh} {r:Nat→Nat} {sh:Nat→Nat × Nat} {ok:Nat→Bool} (hM:Mem.Le G2.M G3.M) (hβ:∀j b,G2.β j=some b→G3.β (r j)=some b)
  (hH:∀j v e p x,ok j=true→aA G2.H j v e p=some x→aA G3.H (r j) (mu (sh j) v e).1 (mu (sh j) v e).2 p=some x):∀N:Nat,
  (∀(u:AV) (x:Value),SizeOf.sizeOf u<N→AV.nm ok u=true→aD G2 u x→aD G3 (kZ r sh u) x) ∧
  (∀(us:List AV) (xs:List Value),SizeOf.sizeOf us<N→AV.w9 ok us=true→bP G2 us xs→bP G3 (dF r sh us) xs):=by
 intro N
 induction N with
 | zero=>exact ⟨fun _ _ h=>by omega,fun _ _ h=>by omega⟩
 | succ N ih =>
  refine ⟨fun u x aT hn hv=>?_,fun us xs aT hn hr=>?_⟩
  ·cases u with
   | any=>exact .any _
   | dv d=>cases hv with | dv h=>exact .dv (h.mono hM)
   | ptr i off=>cases hv with | ptr _ _ b h=>exact .ptr _ off b (hβ _ _ h)
   | fq i=>cases hv with | fq _ b h=>exact .fq _ b (hβ _ _ h)
   | sle i n=>cases hv with | sle _ _ b h=>exact .sle _ n b (hβ _ _ h)
   | bS i v =>
    simp only [AV.nm] at hn
    cases hv with | bS _ _ a n h=>exact .bS _ _ a n (hH i v 0 [] _ hn h)
   | own i v e p =>
    simp only [AV.nm] at hn
    cases hv with | own _ _ _ _ _ h hc=>exact .own _ _ _ p x (hH _ _ _ _ _ hn h) hc
   | loc i v e p a b c =>
    simp only [AV.nm] at hn
    cases hv with
    | loc _ _ _ _ _ _ _ A q q' h=>exact .loc _ _ _ p a b c A q q' (hH _ _ _ _ _ hn h)
    | mn _ _ _ _ _ _ _ A h=>exact .mn _ _ _ p a b c A (hH _ _ _ _ _ hn h)
   | pre i v e p a b c =>
    simp only [AV.nm] at hn
    cases hv with
    | pre _ _ _ _ _ _ _ q q' h=>exact .pre _ _ _ p a b c q q' fun hz=>by obtain ⟨A,N,c',e1,e2⟩:=h hz; exact ⟨A,N,c',hH _ _ _ _ _ hn e1,e2⟩
   | fn f l=>simp only [AV.nm] at hn; cases hv with | fn _ _ vs hl hr=>have:=ih.2 l vs (by simp at aT; omega) hn ⟨hl,hr⟩; exact .fn f _ vs this.1 this.2
   | gV f l=>simp only [AV.nm] at hn; cases hv with | gV _ _ vs hl hr=>have:=ih.2 l vs (by simp at aT; omega) hn ⟨hl,hr⟩; exact .gV f _ vs this.1 this.2
   | agg l=>simp only [AV.nm] at hn; cases hv with | agg _ vs hl hr=>have:=ih.2 l vs (by simp at aT; omega) hn ⟨hl,hr⟩; exact .agg _ vs this.1 this.2
   | eK l=>simp only [AV.nm] at hn; cases hv with | eK _ vs hl hr=>have:=ih.2 l vs (by simp at aT; omega) hn ⟨hl,hr⟩; exact .eK _ vs this.1 this.2
   | opt g v=>simp only [AV.nm] at hn; cases hv with | opt _ _ _ h hu=>exact .opt g _ x (fun hg=>ih.1 v x (by simp at aT; omega) hn (h hg)) hu
  ·cases us with
   | nil=>exact ⟨hr.1,by simp [dF]⟩
   | cons u us =>
    simp only [AV.w9,Bool.and_eq_true] at hn
    match xs,hr with
    | [],hr=>have:=hr.1; simp at this
    | x::xs,hr =>
     have h1:=ih.1 u x (by simp at aT; omega) hn.1 (hr.2 0 _ x rfl rfl)
     have h2:=ih.2 us xs (by simp at aT; omega) hn.2 ⟨by simpa using hr.1,fun q e y he hy=>hr.2 (q+1) e y (by simpa using he) (by simpa using hy)⟩
     refine ⟨by simp only [dF,List.length_cons]; rw [h2.1],fun j d y hd hy=>?_⟩
     cases j with
     | zero=>simp [dF] at hd hy; subst hd; subst hy; exact h1
     | succ j=>exact h2.2 j d y (by simpa [dF] using hd) (by simpa using hy)
def mH (V E:Nat) (H1 H2:Nat→Nat→List PS→Option Value) (v e:Nat) (p:List PS):Option Value :=
 if v<V then H1 v e p else if V<v then H2 (v - V) e p else match p with
  | []=>if e=0 then H2 0 0 [] else H1 v e []
  | s::q=>if e<E then H1 v e (s::q) else H2 0 (e - E) (s::q)
theorem I9 {V E:Nat} {H1 H2:Nat→Nat→List PS→Option Value} (v e:Nat):mH V E H1 H2 (mu (V,E) v e).1 0 []=H2 v 0 []∧∀s q,mH V E H1 H2 (mu (V,E) v e).1 (mu (V,E) v e).2 (s::q)=H2 v e (s::q):=by
 cases v with
 | zero =>
  refine ⟨by simp [mu,mH],fun s q=>?_⟩
  show mH V E H1 H2 V (E+e) (s::q)=_
  simp only [mH,Nat.lt_irrefl,if_false]
  rw [if_neg (by omega),Nat.add_sub_cancel_left]
 | succ v =>
  have h1:¬ (V+(v+1)<V):=by omega
  have h2:V<V+(v+1):=by omega
  have h3:V+(v+1) - V=v+1:=by omega
  refine ⟨?_,fun s q=>?_⟩
  ·show mH V E H1 H2 (V+(v+1)) 0 []=_
   unfold mH; rw [if_neg h1,if_pos h2,h3]
  ·show mH V E H1 H2 (V+(v+1)) e (s::q)=_
   unfold mH; rw [if_neg h1,if_pos h2,h3]
theorem O7 {V E:Nat} {H1 H2:Nat→Nat→List PS→Option Value} (h1:∀v,V<v→∀e p,H1 v e p=none) (h2:∀e,E<e→∀p,H1 V e p=none) (h3:∀x,H1 V 0 []=some x→H2 0 0 []=some x) (h4:∀s q x,H1 V E (s::q)=some x→H2 0 0 (s::q)=some x)
  {v e:Nat} {p:List PS} {x:Value} (h:H1 v e p=some x):mH V E H1 H2 v e p=some x:=by
 unfold mH
 split
 ·exact h
 ·split
  ·rename_i aJ; rw [h1 v aJ] at h; cases h
  ·have:v=V:=by omega
   subst this
   cases p with
   | nil =>
    simp only
    split
    ·rename_i he; subst he; exact h3 x h
    ·exact h
   | cons s q =>
    simp only
    split
    ·exact h
    ·rename_i du
     rcases Nat.lt_or_ge E e with aJ | hle
     ·rw [h2 e aJ] at h; cases h
     ·have:e=E:=by omega
      subst this
      rw [Nat.sub_self]; exact h4 s q x h
theorem Rh {V E:Nat} {H1 H2:Nat→Nat→List PS→Option Value} {v e:Nat} (h:∀v',v<v'→∀e p,H2 v' e p=none) {v':Nat} (hv:(mu (V,E) v e).1<v') (e':Nat) (p:List PS):mH V E H1 H2 v' e' p=none:=by
 have hle:V+v≤(mu (V,E) v e).1:=by cases v <;> simp [mu]
 unfold mH
 rw [if_neg (by omega),if_pos (by omega)]
 exact h _ (by omega) e' p
theorem Ri {V E:Nat} {H1 H2:Nat→Nat→List PS→Option Value} (h2:∀e,E<e→∀p,H1 V e p=none) {v e:Nat} (h:∀e',e<e'→∀p,H2 v e' p=none) {e':Nat} (he:(mu (V,E) v e).2<e') (p:List PS):mH V E H1 H2 (mu (V,E) v e).1 e' p=none:=by
 cases v with
 | zero =>
  show mH V E H1 H2 V e' p=none
  have he:E+e<e':=he
  simp only [mH,Nat.lt_irrefl,if_false]
  cases p with
  | nil=>simp only; rw [if_neg (by omega)]; exact h2 e' (by omega) []
  | cons s q=>simp only; rw [if_neg (by omega)]; exact h _ (by omega) _
 | succ v =>
  show mH V E H1 H2 (V+(v+1)) e' p=none
  have he:e<e':=he
  unfold mH
  rw [if_neg (by omega),if_pos (by omega)]
  have h3:V+(v+1) - V=v+1:=by omega
  rw [h3]; exact h e' he p
end Go.TM
namespace Go.TM
open Go.RowKit
variable [ct]
def sU (m:Nat) (b:ao) (H1 H2:Nat→Nat→List PS→Option Value) (j:Nat):Nat→Nat→List PS→Option Value :=
 if j<m then (match b with
  | .tree V E _=>mH V E H1 H2
  | .none=>H2
  | _=>H1) else H2
def cE (σ:List Nat) (nx ex:Nat) (κ:Nat→ao) (G1 G2:Gh):Gh where
 M:=G2.M
 β i:=match iI σ nx ex i with
  | some j=>G2.β j
  | none=>G1.β i
 H i:=match iI σ nx ex i with
  | some j=>sU σ.length (κ i) (G1.H i) (G2.H j) j
  | none=>G1.H i
 X i:=match iI σ nx ex i with
  | some j=>G2.X j
  | none=>G1.X i
theorem ic {κ κ':Nat→ao}:∀{m:Nat},zw κ κ' m=true→∀j,j<m →
  (∃l l',κ j=.cells l∧κ' j=.cells l') ∨ (∃rc st l C6 NL l',κ j=.ey rc st l∧κ' j=.ey C6 NL l') ∨ (∃v e d,κ j=.tree v e d∧(κ' j=.dead ∨ (∃v' e' d',κ' j=.tree v' e' d') ∨ ∃v' d',κ' j=.fz v' d')) ∨ (∃v d d',κ j=.fz v d∧κ' j=.fz 0 d')
 | 0,_,j,h=>by omega
 | m+1,hk,j,hj=>by
  simp only [zw,Bool.and_eq_true] at hk
  rcases Nat.lt_or_ge j m with aJ | du
  ·exact ic hk.2 j aJ
  ·have:j=m:=by omega
   subst this
   have h1:=hk.1
   split at h1
   ·rename_i l l' e1 e2; exact .inl ⟨_,_,e1,e2⟩
   ·rename_i e1 e2; exact .inr (.inl ⟨_,_,_,_,_,_,e1,e2⟩)
   ·rename_i e1 e2; exact .inr (.inr (.inl ⟨_,_,_,e1,.inr (.inl ⟨_,_,_,e2⟩)⟩))
   ·rename_i e1 e2; exact .inr (.inr (.inl ⟨_,_,_,e1,.inr (.inr ⟨_,_,e2⟩)⟩))
   ·rename_i e1 e2; exact .inr (.inr (.inl ⟨_,_,_,e1,.inl e2⟩))
   ·rename_i e1 e2; exact .inr (.inr (.inr ⟨_,_,_,e1,e2⟩))
   ·cases h1
theorem zx {ok:Nat→Bool}:∀{K:ah},Td ok K=true→∀i b,(i,b)∈K→b.Rj ok=true
 | [],_,i,b,h=>by simp at h
 | (j,c)::K,hn,i,b,h=>by
  simp only [Td,Bool.and_eq_true] at hn
  rcases List.mem_cons.1 h with h | h
  ·injection h with e1 e2; subst e2; exact hn.1
  ·exact zx hn.2 i b h
theorem GR {σ:List Nat} {nx ex:Nat} {κ κ1:Nat→ao} {G0 G1 G2:Gh} {w w2:World} {K0 K1:ah} {rs:List AV} {v:Value}
  (hσ1:∀i,i∈σ→i<nx) (hσ2:σ.Nodup) (iM:∀i,nx≤i→i<nx+ex→κ1 i=.none) (Lt:Fit G1 w κ1)
  (VT:∀i,i∈σ→∀V E d,κ i=.tree V E d→(∀v,V<v→∀e p,G1.H i v e p=none)∧∀e,E<e→∀p,G1.H i V e p=none)
  (xC:∀i,i∈σ→κ i=.none→∀v e p,G1.H i v e p=none)
  (Xd:∀j,j<σ.length→∀V E d,κ (sg σ nx j)=.tree V E d→(∀x,G1.H (sg σ nx j) V 0 []=some x→G0.H j 0 0 []=some x)∧∀s q x,G1.H (sg σ nx j) V E (s::q)=some x→G0.H j 0 0 (s::q)=some x)
  (iC:∀j,j<σ.length→∀V d,κ (sg σ nx j)=.fz V d→∃x,G1.H (sg σ nx j) V 0 []=some x∧G0.H j 0 0 []=some x)
  (hβ0:∀j,j<σ.length→G0.β j=G1.β (sg σ nx j)) (VU:G0.M=G1.M)
  (sV:∀j b,bG G0 j (aa K0 j) b→j<σ.length∧bG G1 (sg σ nx j) (κ1 (sg σ nx j)) b)
  (FG:∀j,j<σ.length→(∀v e d,aa K0 j=.tree v e d→(∃V E d,κ (sg σ nx j)=.tree V E d) ∨ κ (sg σ nx j)=.none)∧(∀v d,aa K0 j=.fz v d→(∃V E d,κ (sg σ nx j)=.tree V E d) ∨ ∃V d,κ (sg σ nx j)=.fz V d))
  (eP:ga σ ex K0 K1 rs=true) (hC:I1 σ.length ex (aa K0) w G0 rs (aa K1) w2 G2 v) :
  Im (fun i=>∃j,iI σ nx ex i=some j) κ1 (aw κ1 (bV (sg σ nx) (ju κ σ) K1)) G1 (cE σ nx ex κ G1 G2) w w2∧(∀i,i<nx→(cE σ nx ex κ G1 G2).β i=G1.β i)∧aD (cE σ nx ex κ G1 G2) (kZ (sg σ nx) (ju κ σ) (hU rs)) v:=by
 simp only [ga,Bool.and_eq_true] at eP
 obtain ⟨⟨⟨eb,DI⟩,S9⟩,Ja⟩:=eP
 have dr:=I6 hσ1 hσ2
 have QG:∀j,j<σ.length+ex→iI σ nx ex (sg σ nx j)=some j:=fun j hj=>LZ hσ1 hσ2 hj
 have Bs:∀j (h:j<σ.length),sg σ nx j∈σ:=fun j h=>by rw [iH h]; exact List.getElem_mem h
 have gh:∀j,σ.length+ex≤j→G2.β j=none∧∀v e p,G2.H j v e p=none:=fun j hj=>by
  have:=hC.fit.box j; rw [hC.no j hj] at this; exact this
 have NMβ:∀j,j<σ.length+ex→(cE σ nx ex κ G1 G2).β (sg σ nx j)=G2.β j:=fun j hj=>by simp only [cE,QG j hj]
 have Xe:∀j,j<σ.length+ex→(cE σ nx ex κ G1 G2).X (sg σ nx j)=G2.X j:=fun j hj=>by simp only [cE,QG j hj]
 have GS:∀j,j<σ.length+ex→(cE σ nx ex κ G1 G2).H (sg σ nx j)=sU σ.length (κ (sg σ nx j)) (G1.H (sg σ nx j)) (G2.H j) j:=fun j hj=>by simp only [cE,QG j hj]
 have Uf:∀j (h:j<σ.length),ju κ σ j=I4 (κ (sg σ nx j)):=fun j h=>by rw [I3 h,iH h]
 have HT:∀j,j<σ.length+ex→(j<σ.length→(∃V E d,κ (sg σ nx j)=.tree V E d) ∨ κ (sg σ nx j)=.none) →
   (∀v e,aA (cE σ nx ex κ G1 G2).H (sg σ nx j) (mu (ju κ σ j) v e).1 (mu (ju κ σ j) v e).2=aA G2.H j v e) ∧
   (∀v e,(∀v',v<v'→∀e p,G2.H j v' e p=none)→∀v',(mu (ju κ σ j) v e).1<v'→∀e p,(cE σ nx ex κ G1 G2).H (sg σ nx j) v' e p=none) ∧
   (∀v e,(∀e',e<e'→∀p,G2.H j v e' p=none)→∀e',(mu (ju κ σ j) v e).2<e'→∀p,(cE σ nx ex κ G1 G2).H (sg σ nx j) (mu (ju κ σ j) v e).1 e' p=none):=by
  intro j hj hc
  have plain:(cE σ nx ex κ G1 G2).H (sg σ nx j)=G2.H j→ju κ σ j=(0,0)→_:=fun h1 h2 =>
   (show (∀v e,aA (cE σ nx ex κ G1 G2).H (sg σ nx j) (mu (ju κ σ j) v e).1 (mu (ju κ σ j) v e).2=aA G2.H j v e) ∧
   (∀v e,(∀v',v<v'→∀e p,G2.H j v' e p=none)→∀v',(mu (ju κ σ j) v e).1<v'→∀e p,(cE σ nx ex κ G1 G2).H (sg σ nx j) v' e p=none) ∧
   (∀v e,(∀e',e<e'→∀p,G2.H j v e' p=none)→∀e',(mu (ju κ σ j) v e).2<e'→∀p,(cE σ nx ex κ G1 G2).H (sg σ nx j) (mu (ju κ σ j) v e).1 e' p=none) by
    rw [h2]
    simp only [ia]
    refine ⟨fun v e=>funext fun p=>by cases p <;> simp only [aA,h1],fun v e h v' hv e p=>by rw [h1]; exact h v' hv e p,fun v e h e' he p=>by rw [h1]; exact h e' he p⟩)
  rcases Nat.lt_or_ge j σ.length with aJ | du
  ·rcases hc aJ with ⟨V,E,d,hk⟩ | hk
   ·have h1:(cE σ nx ex κ G1 G2).H (sg σ nx j)=mH V E (G1.H (sg σ nx j)) (G2.H j):=by rw [GS j hj]; simp only [sU,if_pos aJ,hk]
    have h2:ju κ σ j=(V,E):=by rw [Uf j aJ,hk]; rfl
    obtain ⟨u1,u2⟩:=VT _ (Bs j aJ) V E d hk
    rw [h2]
    refine ⟨fun v e=>funext fun p=>?_,fun v e h v' hv e' p=>by rw [h1]; exact Rh h hv e' p,fun v e h e' he p=>by rw [h1]; exact Ri u2 h he p⟩
    cases p with
    | nil=>simp only [aA,h1]; exact (I9 v e).1
    | cons s q=>simp only [aA,h1]; exact (I9 v e).2 s q
   ·exact plain (by rw [GS j hj]; simp only [sU,if_pos aJ,hk]) (by rw [Uf j aJ,hk]; rfl)
  ·exact plain (by rw [GS j hj]; simp only [sU,if_neg (Nat.not_lt.2 du)]) (FF du)
 have hpβ:∀j b,G2.β j=some b→(cE σ nx ex κ G1 G2).β (sg σ nx j)=some b:=by
  intro j b hb
  rcases Nat.lt_or_ge j (σ.length+ex) with aJ | du
  ·rw [NMβ j aJ]; exact hb
  ·rw [(gh j du).1] at hb; cases hb
 have Xf:∀j v e p x,DL σ.length (aa K0) j=true→aA G2.H j v e p=some x→aA (cE σ nx ex κ G1 G2).H (sg σ nx j) (mu (ju κ σ j) v e).1 (mu (ju κ σ j) v e).2 p=some x:=by
  intro j v e p x bU hx
  rcases Nat.lt_or_ge j (σ.length+ex) with aJ | du
  ·rw [(HT j aJ fun hj=>?_).1]
   ·exact hx
   ·simp only [DL] at bU
    rw [show Nat.blt j σ.length=true by rw [Nat.blt_eq]; exact hj] at bU
    simp only [cond_true] at bU
    split at bU
    ·rename_i d hd; exact (FG j hj).1 _ _ _ hd
    ·cases bU
  ·cases p with
   | nil=>simp only [aA] at hx; rw [(gh j du).2] at hx; cases hx
   | cons s q=>simp only [aA] at hx; rw [(gh j du).2] at hx; cases hx
 have Jb:=I8 (G2:=G2) (G3:=cE σ nx ex κ G1 G2) (r:=sg σ nx) (sh:=ju κ σ) (ok:=DL σ.length (aa K0)) (Mem.Le.refl _) hpβ Xf
 have hκ3:∀j,aw κ1 (bV (sg σ nx) (ju κ σ) K1) (sg σ nx j)=if j∈keys K1 then qg (sg σ nx) (ju κ σ) j (aa K1 j) else κ1 (sg σ nx j):=fun j=>nV dr _ K1 j
 have zq:∀j,j<σ.length→j∈keys K1:=fun j hj=>by
  refine Classical.byContradiction fun hn=>?_
  have h0:=fJ hn
  rcases ic eb j hj with ⟨_,_,_,h⟩ | ⟨_,_,_,_,_,_,_,h⟩ | ⟨_,_,_,_,h | ⟨_,_,_,h⟩ | ⟨_,_,h⟩⟩ | ⟨_,_,_,_,h⟩ <;> rw [h0] at h <;> cases h
 have dk:∀j,j<σ.length+ex→j ∉ keys K1→κ1 (sg σ nx j)=.none:=fun j hj hn=>by
  rcases Nat.lt_or_ge j σ.length with aJ | du
  ·exact absurd (zq j aJ) hn
  ·rw [ib du]; exact iM _ (by omega) (by omega)
 have qh:∀j,j<σ.length+ex→∀v e d,aa K1 j=.tree v e d→(j<σ.length→(∃V E d,κ (sg σ nx j)=.tree V E d) ∨ κ (sg σ nx j)=.none):=by
  intro j hj v e d hd aJ
  rcases ic eb j aJ with ⟨_,_,_,h⟩ | ⟨_,_,_,_,_,_,_,h⟩ | ⟨_,_,_,h0,_⟩ | ⟨_,_,_,_,h⟩
  ·rw [hd] at h; cases h
  ·rw [hd] at h; cases h
  ·exact (FG j aJ).1 _ _ _ h0
  ·rw [hd] at h; cases h
 have gW:∀j,j<σ.length+ex→∀b,bG (cE σ nx ex κ G1 G2) (sg σ nx j) (aw κ1 (bV (sg σ nx) (ju κ σ) K1) (sg σ nx j)) b→bG G2 j (aa K1 j) b:=by
  intro j hj b ho
  rw [hκ3] at ho
  by_cases hk:j∈keys K1
  ·rw [if_pos hk] at ho
   cases hl:aa K1 j with
   | cells l=>rw [hl] at ho; simp only [qg,bG] at ho ⊢; rw [NMβ j hj] at ho; exact ho
   | tree v e d=>rw [hl] at ho; simp only [qg,bG] at ho ⊢; rw [(HT j hj (qh j hj v e d hl)).1] at ho; exact ho
   | ey rc st l=>rw [hl] at ho; simp only [qg,bG] at ho ⊢; rw [NMβ j hj] at ho; exact ho
   | _=>rw [hl] at ho; exact ho.elim
  ·rw [if_neg hk,dk j hj hk] at ho; exact ho.elim
 have Xg:Gh.Le G1 (cE σ nx ex κ G1 G2):=by
  refine ⟨by have:=hC.le; rw [VU] at this; exact this,fun i b hb=>?_,fun i v e p x hx=>?_⟩
  ·cases oe:iI σ nx ex i with
   | none=>simp only [cE,oe]; exact hb
   | some j =>
    obtain ⟨hj,rfl⟩:=gM oe
    rw [NMβ j hj]
    rcases Nat.lt_or_ge j σ.length with aJ | du
    ·rw [hC.jR j aJ,hβ0 j aJ]; exact hb
    ·have dI:=Lt.box (sg σ nx j)
     rw [ib du,iM _ (by omega) (by omega)] at dI
     rw [ib du,dI.1] at hb; cases hb
  ·cases oe:iI σ nx ex i with
   | none=>simp only [cE,oe]; exact hx
   | some j =>
    obtain ⟨hj,rfl⟩:=gM oe
    rw [GS j hj]
    rcases Nat.lt_or_ge j σ.length with aJ | du
    ·simp only [sU,if_pos aJ]
     cases hk:κ (sg σ nx j) with
     | tree V E d =>
      obtain ⟨u1,u2⟩:=VT _ (Bs j aJ) V E d hk
      obtain ⟨q1,q2⟩:=Xd j aJ V E d hk
      exact O7 u1 u2 (fun x h=>hC.q6 j aJ [] x (q1 x h)) (fun s q x h=>hC.q6 j aJ (s::q) x (q2 s q x h)) hx
     | none=>rw [xC _ (Bs j aJ) hk] at hx; cases hx
     | _=>exact hx
    ·have dI:=Lt.box (sg σ nx j)
     rw [ib du,iM _ (by omega) (by omega)] at dI
     rw [ib du,dI.2] at hx; cases hx
 refine ⟨⟨Xg,fun i hi=>?_,fun i hi=>?_,fun i hi=>?_,fun b hb Jc=>?_,hC.fit.sub,?_,?_,?_,hC.size,hC.os,hC.tape,hC.output⟩,fun i hi=>?_,?_⟩
 ·have:iI σ nx ex i=none:=by cases h:iI σ nx ex i with | none=>rfl | some j=>exact absurd ⟨j,h⟩ hi
  simp only [cE,this]
 ·refine ma _ K1 i fun j hj e=>hi ⟨j,?_⟩
  rw [←e]; exact QG j (c9 DI j hj)
 ·have:iI σ nx ex i=none:=by cases h:iI σ nx ex i with | none=>rfl | some j=>exact absurd ⟨j,h⟩ hi
  simp only [cE,this]
  exact ⟨fun _ h=>h,fun _ _ _ _ h=>h⟩
 ·have:=hC.frame b hb fun j ho=>by
   obtain ⟨hj,gX⟩:=sV j b ho
   exact Jc _ ⟨j,QG j (by omega)⟩ gX
  rw [VU] at this
  exact this
 ·rintro i ⟨j,oe⟩
  obtain ⟨hj,rfl⟩:=gM oe
  have cw:=hC.fit.box j
  rw [hκ3]
  by_cases hk:j∈keys K1
  ·rw [if_pos hk]
   have Rm:(j,aa K1 j)∈K1 ∨ aa K1 j=.none:=(fG (K:=K1) (i:=j)).symm
   cases hl:aa K1 j with
   | none=>trivial
   | dead=>trivial
   | held=>trivial
   | iZ _ _ _ _ _=>trivial
   | cells l =>
    rw [hl] at cw
    obtain ⟨b,c,t,h1,h2,h3,h4,h5⟩:=cw
    have O8:AV.w9 (DL σ.length (aa K0)) l=true:=by
     rcases Rm with h | h
     ·have:=zx Ja j _ h; rw [hl] at this; exact this
     ·rw [hl] at h; cases h
    refine ⟨b,c,t,by rw [NMβ j hj]; exact h1,h2,by rw [h3,mX],fun u hu=>?_,fun q d y hd hy=>?_⟩
    ·obtain ⟨q,hq⟩:=List.getElem?_of_mem hu
     rw [vg] at hq
     cases Ug:l[q]? with
     | none=>rw [Ug] at hq; simp at hq
     | some u0=>rw [Ug] at hq; simp at hq; subst hq; rw [DK]; exact h4 u0 (List.mem_of_getElem? Ug)
    ·have:=(Jb (SizeOf.sizeOf l+1)).2 l c.toList (by omega) O8 ⟨by simp [h3],fun q d y hd hy=>h5 q d y hd (by simpa using hy)⟩
     exact this.2 q d y hd (by simpa using hy)
   | tree v e d =>
    rw [hl] at cw
    obtain ⟨q1,q2,q3⟩:=HT j hj (qh j hj v e d hl)
    refine ⟨?_,?_,q2 v e cw.2.2.1,q3 v e cw.2.2.2⟩
    ·rw [q1]; exact cw.1
    ·rw [q1]; exact cw.2.1
   | fz v d =>
    rw [hl] at cw
    obtain ⟨u,h1,h2,h3⟩:=cw
    refine ⟨u,?_,h2,h3⟩
    have O9:(j<σ.length→(∃V E d,κ (sg σ nx j)=.tree V E d) ∨ κ (sg σ nx j)=.none)→(cE σ nx ex κ G1 G2).H (sg σ nx j) (mu (ju κ σ j) v 0).1 0 []=some u:=fun hh=>by
     have:=congrFun ((HT j hj hh).1 v 0) []
     simp only [aA] at this
     rw [this]; exact h1
    rcases Nat.lt_or_ge j σ.length with aJ | du
    ·rcases ic eb j aJ with ⟨_,_,_,h⟩ | ⟨_,_,_,_,_,_,_,h⟩ | ⟨_,_,_,h0,_⟩ | ⟨_,_,_,h0,h⟩
     ·rw [hl] at h; cases h
     ·rw [hl] at h; cases h
     ·exact O9 fun _=>(FG j aJ).1 _ _ _ h0
     ·rw [hl] at h; injection h with e1 e2
      subst e1
      rcases (FG j aJ).2 _ _ h0 with hT | ⟨V,d',hF⟩
      ·exact O9 fun _=>.inl hT
      ·obtain ⟨x,p1,p2⟩:=iC j aJ V d' hF
       have p3:=hC.q6 j aJ [] x p2
       rw [h1] at p3; injection p3 with p3; subst p3
       rw [GS j hj]
       simp only [sU,if_pos aJ,hF]
       rw [Uf j aJ,hF]
       exact p1
    ·exact O9 fun h=>absurd h (by omega)
   | ey rc st l =>
    rw [hl] at cw
    obtain ⟨b,fn,tmps,D,h1,h2,h3⟩:=cw
    have O8:AV.w9 (DL σ.length (aa K0)) l=true:=by
     rcases Rm with h | h
     ·have:=zx Ja j _ h; rw [hl] at this; exact this
     ·rw [hl] at h; cases h
    exact ⟨b,fn,tmps,D,by rw [NMβ j hj]; exact h1,h2,(Jb (SizeOf.sizeOf l+1)).2 l tmps.toList (by omega) O8 h3⟩
  ·rw [if_neg hk,dk j hj hk]
   rw [fJ hk] at cw
   refine ⟨by rw [NMβ j hj]; exact cw.1,fun v e p=>?_⟩
   rw [GS j hj]
   rcases Nat.lt_or_ge j σ.length with aJ | du
   ·exact absurd (zq j aJ) hk
   ·simp only [sU,if_neg (Nat.not_lt.2 du)]; exact cw.2 v e p
 ·rintro i b ⟨j,oe⟩ ho
  obtain ⟨hj,rfl⟩:=gM oe
  have C2:=gW j hj b ho
  refine ⟨?_,hC.fit.own j b C2⟩
  rcases hC.mY j b C2 with h | ⟨q,hq⟩
  ·exact .inl h
  ·obtain ⟨h1,h2⟩:=sV q b hq
   exact .inr ⟨_,⟨q,QG q (by omega)⟩,h2⟩
 ·rintro i i' b ⟨j,oe⟩ ⟨j',Uh⟩ ho gX
  obtain ⟨hj,rfl⟩:=gM oe
  obtain ⟨oq,rfl⟩:=gM Uh
  rw [hC.fit.inj j j' b (gW j hj b ho) (gW j' oq b gX)]
 ·cases oe:iI σ nx ex i with
  | none=>simp only [cE,oe]
  | some j =>
   obtain ⟨hj,rfl⟩:=gM oe
   rw [NMβ j hj]
   rcases Nat.lt_or_ge j σ.length with aJ | du
   ·rw [hC.jR j aJ,hβ0 j aJ]
   ·rw [ib du] at hi; omega
 ·refine (Jb (SizeOf.sizeOf (hU rs)+1)).1 (hU rs) v (by omega) ?_ hC.res
  match rs,S9 with
  | [],_=>rfl
  | [d],h=>simp only [AV.w9,Bool.and_eq_true] at h; exact h.1
  | _::_::_,h=>exact h
end Go.TM
