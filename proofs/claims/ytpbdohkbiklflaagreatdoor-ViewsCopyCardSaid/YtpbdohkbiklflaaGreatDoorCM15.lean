import Derived.Test.YtpbdohkbiklflaaGreatDoorCM14
import Derived.RangeFuncRecord
set_option linter.unusedVariables false
set_option linter.unusedSimpArgs false
set_option linter.unusedSectionVars false
namespace Go.TM
open Go.RowKit
variable [cu]
def sE:Nat→List DV→Env
 | _,[]=>[]
 | i,d::r=>(i,wg d)::sE (i+1) r
def Oi (T:List TI) (ρ:Nat→AV) (κ:Nat→ar):ResultVar→(DV→Prop)→Prop
 | .tmp t,k=>match toArg κ (ρ t) with
  | some (d,_)=>k d
  | none=>False
 | .cell t ty,k=>bif (nth T ty).ok then match res κ (ρ t) with
  | .ptr i off=>match κ i with
   | .cells l=>cd (nth T ty).agg l off (nth T ty).size fun v=>match toArg κ v with
    | some (d,_)=>k d
    | none=>False
   | _=>False
  | _=>False
  else False
def CN (T:List TI) (ρ:Nat→AV) (κ:Nat→ar):List ResultVar→List DV→Prop
 | [],[]=>True
 | v::r,d::ds=>Oi T ρ κ v (fun d'=>d'.Le d)∧CN T ρ κ r ds
 | _,_=>False
def ea:Nat→List AV→Env
 | _,[]=>[]
 | i,v::r=>(i,v)::ea (i+1) r
def AM (T:List TI) (ρ:Nat→AV) (κ:Nat→ar):List ResultVar→(List AV→Prop)→Prop
 | [],k=>k []
 | .tmp t::r,k=>force (res κ (ρ t)) fun v=>AM T ρ κ r fun l=>k (v::l)
 | .cell t ty::r,k=>bif (nth T ty).ok then match res κ (ρ t) with
  | .ptr i off=>match κ i with
   | .cells l=>cd (nth T ty).agg l off (nth T ty).size fun v=>AM T ρ κ r fun l=>k (v::l)
   | _=>False
  | _=>False
  else False
def AN (m ex:Nat) (κ:Nat→ar) (jq rs:List AV) (K':aj):Bool :=
 P9 (m+ex) (aa K') K' && AV.Ht (aa K') rs && AF (aa K') (dG κ rs jq++ey κ K') && v7 κ (aa K') m
def K9 (T:List TI) (fn:Func) (m ex:Nat) (R:List AV→aj→Prop) (env:Env) (K:aj):Prop :=
 AM T (look env) (aa K) fn.results.toList fun jq=>∃rs K',R rs K'∧AN m ex (aa K) jq rs K'=true∧eu m (aa K) (aa K') rs jq∧pT m (aa K) (aa K') K'
def wh (T:List TI) (fn:Func) (m ex:Nat) (R:List AV→aj→Prop) (e:AX) (_nx:Nat) (env:Env) (K:aj):Prop :=
 match e with
 | .normal=>K9 T fn m ex R env K
 | .ret=>K9 T fn m ex R env K
 | .exit _=>False
def TX (T:List TI) (fn:Func) (rs:List DV) (e:AX) (_nx:Nat) (env:Env) (K:aj):Prop :=
 match e with
 | .normal=>CN T (look env) (aa K) fn.results.toList rs
 | .ret=>CN T (look env) (aa K) fn.results.toList rs
 | .exit _=>False
section
variable {P:Program} {C:dD→Prop} {T:List TI} {n:Nat} {g:dD}
theorem putObj_size (w:World) (b:Nat) (o:Obj):(w.putObj b o).heap.size=w.heap.size:=by simp [World.putObj]
theorem fm (w:World) {b k:Nat} (o:Obj) (h:k ≠ b):(w.putObj b o).heap[k]?=w.heap[k]?:=by
 simp only [World.putObj]
 rw [Array.getElem?_setIfInBounds_ne (fun e=>h e.symm)]
theorem cf.shut {ρ:Nat→AV} {κ:Nat→ar} {a:Act} {w:World} {G:Gh} (h:cf g n ρ κ a w G) {D:List Nat} {r:Nat} (hD:a.defers=(r::D).map mark) :
  w.heap[r]?=some (.deferred (some []))∧cf g n ρ κ { a with defers:=D.map mark } (w.putObj r (.deferred none)) G:=by
 obtain ⟨D',h1,h2,h3⟩:=h.r8
 have ZY:D'=r::D:=by
  rw [h1] at hD
  have inj:∀x y:Nat,mark x=mark y→x=y:=fun x y e=>by simp only [mark,Deferred.mk.injEq,Target.collected.injEq] at e; exact e.1
  have:∀(l l':List Nat),l.map mark=l'.map mark→l=l':=by
   intro l
   induction l with
   | nil=>intro l' e; cases l' with
    | nil=>rfl
    | cons=>simp at e
   | cons x l ih=>intro l' e; cases l' with
    | nil=>simp at e
    | cons y l'=>simp only [List.map_cons,List.cons.injEq] at e; rw [inj x y e.1,ih l' e.2]
  exact this _ _ hD
 subst ZY
 obtain ⟨a1,a2,a3,a4⟩:=h3 r (by simp)
 have bJ:∀i b,bL G i (κ i) b→b ≠ r:=fun i b ho e=>a2 i (e ▸ ho)
 have eB:G.M.In (w.putObj r (.deferred none)):=fun b o hb=>by
  rw [fm _ _ (fun e=>by rw [e,a3] at hb; cases hb)]; exact h.fit.sub b o hb
 refine ⟨a1,{ h with fit:=⟨eB,fun i=>(h.fit.box i).gm (.refl G) rfl (fun _=>⟨fun _ h=>h,fun _ _ _ _ h=>h⟩) (fun b hb=>fm _ _ (bJ i b hb)) eB (h.fit.own i) (by rw [putObj_size]; exact Nat.le_refl _),h.fit.own,h.fit.inj⟩,x3:=fun b hb hO=>by rw [fm _ _ (by omega)]; exact h.x3 b hb hO,os:=h.os,tape:=h.tape,output:=h.output,grow:=by rw [putObj_size]; exact h.grow,r8:=?_ }⟩
 refine ⟨D,rfl,(List.nodup_cons.1 h2).2,fun q hq=>?_⟩
 obtain ⟨b1,b2,b3,b4⟩:=h3 q (by simp [hq])
 have ZZ:q ≠ r:=fun e=>(List.nodup_cons.1 h2).1 (by rw [←e]; exact hq)
 exact ⟨by rw [fm _ _ ZZ]; exact b1,b2,b3,b4⟩
theorem cf.leave {ρ:Nat→AV} {κ:Nat→ar} {G:Gh} {F:Fence} {fn:Func} {R:Ending→World→Prop} (tmps:Array Value) (kL:∀w',cf g n ρ κ { tmps:=tmps,defers:=[] } w' G→∃v,(results fn tmps).run P w'=.ok v w'∧R (.returned v) w') :
  ∀(D:List Nat) (w:World),cf g n ρ κ { tmps:=tmps,defers:=D.map mark } w G→LeavesInM F 0 P fn tmps R (D.map mark) .returning w
 | [],w,h=>kL w h
 | r::D,w,h=>by
  obtain ⟨h1,h2⟩:=h.shut (D:=D) (r:=r) rfl
  exact ⟨by simp,.inl ⟨r,_,rfl,run_takeDeferred h1,cf.leave tmps kL D _ h2⟩⟩
theorem wi:∀(ds:List DV) (s t:Nat),look (sE s ds) t=if s≤t then (match ds[t - s]? with | some d=>wg d | none=>.any) else .any
 | [],s,t=>by simp [sE,look]
 | d::r,s,t=>by
  simp only [sE,look]
  rw [wi r (s+1) t]
  by_cases h1:s=t
  ·subst h1; simp
  ·have hb:Nat.beq s t=false:=by cases hb:Nat.beq s t with | false=>rfl | true=>exact absurd (Nat.eq_of_beq_eq_true hb) h1
   rw [hb]
   by_cases h2:s≤t
   ·have e:t - s=t - (s+1)+1:=by omega
    rw [if_pos h2,if_pos (by omega),e]; simp
   ·rw [if_neg h2,if_neg (by omega)]; simp
theorem CO (hT:er P T) {ρ:Nat→AV} {κ:Nat→ar} {a:Act} {w:World} {G:Gh} (ak:cf g n ρ κ a w G) {rv:ResultVar} {q:DV→Prop} (h:Oi T ρ κ rv q) :
  ∃(d:DV) (ids:List Nat),q d∧∃v,(match rv with | .tmp t=>pure (a.tmps.getD t undef) | .cell t ty=>do loadVar ty (←asAddr (a.tmps.getD t undef)):Sem Value).run P w=.ok v w ∧
   ∀(all:List Nat) (G':Gh),(∀i,i∈ids→i∈all)→Gh.Le G G'→Fit G' w (az κ (kg κ all))→bo G'.M d v:=by
 cases rv with
 | tmp t =>
  simp only [Oi] at h
  split at h
  ·rename_i d ids hd
   refine ⟨d,ids,h,_,rfl,fun all G' hs hle iF=>nH (κ:=κ) (κ':=κ) (fun _ _=>rfl) hle iF hd hs (ak.env t)⟩
  ·exact h.elim
 | cell t ty =>
  simp only [Oi] at h
  have hh:=aM h; clear h; obtain ⟨bK,h⟩:=hh
  split at h
  ·rename_i i off hr
   split at h
   ·rename_i l hk
    obtain ⟨av,h,hp⟩:=dJ h
    split at h
    ·rename_i d ids hd
     have hv:=wj ak.fit (ak.env t)
     rw [hr] at hv
     have sF:=ak.fit.box i
     rw [hk] at sF
     obtain ⟨b,c,tt,jy,hw,aU,fM,TY⟩:=sF
     generalize hx:a.tmps.getD t undef=x at hv
     cases hv with | ptr _ _ b' cL =>
     rw [jy] at cL; injection cL with cL; subst cL
     have hA:(⟨b,off,none⟩:Addr)=(⟨b,0,none⟩:Addr).add off:=by rw [cO]; simp
     obtain ⟨v,h1,h2⟩:=jS (P:=P) (av:=av) (w:=w) (G:=G) (l:=l) (off:=off) hT bK ⟨b,0,none⟩ (fun j=>c.getD j undef) (fun j hj=>by
       rw [cO]
       simp [World.cell?,hw,aU,hj]) (fun j d hd=>by
       have hj:j<l.length:=(List.getElem?_eq_some_iff.1 hd).1
       exact TY j d _ hd (by simp [aU,hj])) hp
     rw [←hA] at h1
     refine ⟨d,ids,h,v,?_,fun all G' hs hle iF=>nH (κ:=κ) (κ':=κ) (fun _ _=>rfl) hle iF hd hs h2⟩
     simp only [Instr.loadAt,Instr.sureAddr,Sem.run_bind,Sem.run_pure,Result.andThen_ok] at h1
     simp only [hx,asAddr,Sem.run_bind,Sem.run_pure,Result.andThen_ok]
     exact h1
    ·exact h.elim
   ·exact h.elim
  ·exact h.elim
theorem wm (hT:er P T) {ρ:Nat→AV} {κ:Nat→ar} {a:Act} {w:World} {G:Gh} (ak:cf g n ρ κ a w G):∀{La:List ResultVar} {rs:List DV},CN T ρ κ La rs →
  ∃(ids:List Nat) (us:List Value),((La.mapM fun | .tmp t=>pure (a.tmps.getD t undef) | .cell t ty=>do loadVar ty (←asAddr (a.tmps.getD t undef))):Sem (List Value)).run P w=.ok us w ∧
   ∀(all:List Nat) (G':Gh),(∀i,i∈ids→i∈all)→Gh.Le G G'→Fit G' w (az κ (kg κ all))→eX G'.M rs us
 | [],[],_=>⟨[],[],rfl,fun _ G' _ _ _=>.nil G'.M⟩
 | [],_::_,h=>h.elim
 | _::_,[],h=>h.elim
 | rv::La,r::rs,⟨h1,h2⟩=>by
  obtain ⟨d,ids,hle,v,bj,hd⟩:=CO hT ak h1
  obtain ⟨WW,us,Lb,E4⟩:=wm hT ak h2
  refine ⟨ids++WW,v::us,?_,fun all G' hs hm iF=>.cons (hle G'.M v (hd all G' (fun i hi=>hs i (by simp [hi])) hm iF)) (E4 all G' (fun i hi=>hs i (by simp [hi])) hm iF)⟩
  rw [List.mapM_cons]
  simp only [Sem.run_bind]
  rw [bj]
  simp only [Result.andThen_ok,Sem.run_bind,Lb,Sem.run_pure]
theorem nI:∀(ds:List AV) (s t:Nat),look (ea s ds) t=if s≤t then (match ds[t - s]? with | some d=>d | none=>.any) else .any
 | [],s,t=>by simp [ea,look]
 | d::r,s,t=>by
  simp only [ea,look]
  rw [nI r (s+1) t]
  by_cases h1:s=t
  ·subst h1; simp
  ·have hb:Nat.beq s t=false:=by cases hb:Nat.beq s t with | false=>rfl | true=>exact absurd (Nat.eq_of_beq_eq_true hb) h1
   rw [hb]
   by_cases h2:s≤t
   ·have e:t - s=t - (s+1)+1:=by omega
    rw [if_pos h2,if_pos (by omega),e]; simp
   ·rw [if_neg h2,if_neg (by omega)]; simp
theorem uS (hT:er P T) {ρ:Nat→AV} {κ:Nat→ar} {a:Act} {w:World} {G:Gh} (ak:cf g n ρ κ a w G):∀{La:List ResultVar} {q:List AV→Prop},AM T ρ κ La q →
  ∃(jq:List AV) (us:List Value),q jq∧((La.mapM fun | .tmp t=>pure (a.tmps.getD t undef) | .cell t ty=>do loadVar ty (←asAddr (a.tmps.getD t undef))):Sem (List Value)).run P w=.ok us w∧bU G jq us
 | [],q,h=>⟨[],[],h,rfl,rfl,by simp⟩
 | .tmp t::La,q,h=>by
  simp only [AM,force_eq] at h
  obtain ⟨jq,us,hq,bj,hc⟩:=uS hT ak h
  have hv:=wj ak.fit (ak.env t)
  refine ⟨_,a.tmps.getD t undef::us,hq,?_,by simpa using hc.1,fun j d u hd hu=>?_⟩
  ·rw [List.mapM_cons]
   simp only [Sem.run_bind,Sem.run_pure,Result.andThen_ok,bj]
  ·cases j with
   | zero =>
    rw [List.getElem?_cons_zero] at hd hu
    injection hd with hd; injection hu with hu; subst hd; subst hu; exact hv
   | succ j=>exact hc.2 j d u (by simpa using hd) (by simpa using hu)
 | .cell t ty::La,q,h=>by
  simp only [AM] at h
  have hh:=aM h; clear h; obtain ⟨bK,h⟩:=hh
  split at h
  ·rename_i i off hr
   split at h
   ·rename_i l hk
    obtain ⟨av,h,hp⟩:=dJ h
    obtain ⟨jq,us,hq,bj,hc⟩:=uS hT ak h
    have hv:=wj ak.fit (ak.env t)
    rw [hr] at hv
    have sF:=ak.fit.box i
    rw [hk] at sF
    obtain ⟨b,c,tt,jy,hw,aU,fM,TY⟩:=sF
    generalize hx:a.tmps.getD t undef=x at hv
    cases hv with | ptr _ _ b' cL =>
    rw [jy] at cL; injection cL with cL; subst cL
    have hA:(⟨b,off,none⟩:Addr)=(⟨b,0,none⟩:Addr).add off:=by rw [cO]; simp
    obtain ⟨v,h1,h2⟩:=jS (P:=P) (av:=av) (w:=w) (G:=G) (l:=l) (off:=off) hT bK ⟨b,0,none⟩ (fun j=>c.getD j undef) (fun j hj=>by
      rw [cO]
      simp [World.cell?,hw,aU,hj]) (fun j d hd=>by
      have hj:j<l.length:=(List.getElem?_eq_some_iff.1 hd).1
      exact TY j d _ hd (by simp [aU,hj])) hp
    rw [←hA] at h1
    refine ⟨_,v::us,hq,?_,by simpa using hc.1,fun j d u hd hu=>?_⟩
    ·simp only [Instr.loadAt,Instr.sureAddr,Sem.run_bind,Sem.run_pure,Result.andThen_ok] at h1
     rw [List.mapM_cons]
     have Qc:((do loadVar ty (←asAddr (a.tmps.getD t undef))):Sem Value).run P w=.ok v w:=by
      simp only [hx,asAddr,Sem.run_bind,Sem.run_pure,Result.andThen_ok]; exact h1
     rw [Sem.run_bind]
     simp only
     rw [Qc]
     simp only [Result.andThen_ok,Sem.run_bind,bj,Sem.run_pure]
    ·cases j with
     | zero=>simp at hd hu; subst hd; subst hu; exact h2
     | succ j=>exact hc.2 j d u (by simpa using hd) (by simpa using hu)
   ·exact h.elim
  ·exact h.elim
theorem nJ {fn:Func} {tmps:Array Value} {w:World} {us:List Value} (bj:((fn.results.toList.mapM fun | .tmp t=>pure (tmps.getD t undef) | .cell t ty=>do loadVar ty (←asAddr (tmps.getD t undef))):Sem (List Value)).run P w=.ok us w) :
  (results fn tmps).run P w=.ok (if h:us.toArray.size=1 then us.toArray[0] else .tuple us.toArray) w:=by
 have ld:((fn.results.mapM fun | .tmp t=>pure (tmps.getD t undef) | .cell t ty=>do loadVar ty (←asAddr (tmps.getD t undef))):Sem (Array Value)).run P w=.ok us.toArray w:=by
  rw [Array.mapM_eq_mapM_toList,Sem.run_map,bj]
  rfl
 unfold results
 rw [Sem.run_bind]
 exact congrArg (fun r=>Result.andThen r (fun (vs:Array Value) w=>(pure (if h:vs.size=1 then vs[0] else .tuple vs):Sem Value).run P w)) ld
theorem bq (hT:er P T) (hm:P.follows .mixedOrders=true) (hC:c5 P (fun _=>True)) (Hz:iG P) {f:Nat} {fn:Func} {c:Code} {args rs:List DV} (hf:P.funcs[f]?=some fn) (hb:fn.body=some c) (eb:(fn.name == "runtime.NumGoroutine")=false)
  (bM:Nat.ble args.length fn.ntmps=true) (h:gF P T .fn fn.ntmps 0 c (TX T fn rs) 0 (sE 0 args) []):cr P f args rs:=by
 refine ⟨⟨fn,hf,eb,by rw [hb]; rfl⟩,fun w M vs eB oH hr=>?_⟩
 refine (fZ.calls (n:=0)).1 (callsIn_of_wp_marks hf hb trivial ?_)
 have hlen:vs.length≤fn.ntmps:=by rw [←hr.1]; exact Nat.le_of_ble_eq_true bM
 let g:dD:=⟨fun _=>False,w,M,0,fun _=>none,fun _ _=>none⟩
 let G0:Gh:=⟨M,fun _=>none,fun _ _ _ _=>none,fun _ _=>False⟩
 have ak:cf g fn.ntmps (look (sE 0 args)) (aa []) { tmps:=vs.toArray++Array.replicate (fn.ntmps - vs.toArray.size) undef,defers:=[] } w G0:=by
  refine { fit:=⟨eB,fun i=>⟨rfl,fun _ _ _=>rfl⟩,fun i b ho=>ho.elim,fun i j b ho=>ho.elim⟩,env:=fun t=>?_,size:=by simp; omega,x3:=fun _ _ _=>rfl,os:=rfl,tape:=rfl,output:=rfl,grow:=Nat.le_refl _,mem:=.refl M,lL:=fun _ _ _=>rfl,fE:=fun i b ho=>ho.elim,jg:=fun i hi=>absurd hi (Nat.not_lt_zero _),pH:=fun i hi=>absurd hi (Nat.not_lt_zero _),nk:=oH,r8:=⟨[],rfl,List.nodup_nil,by simp⟩ }
  rw [wi]
  simp only [Nat.zero_le,if_true,Nat.sub_zero]
  split
  ·rename_i d hd
   have ht:t<vs.length:=by rw [←hr.1]; exact (List.getElem?_eq_some_iff.1 hd).1
   have hv:vs[t]?=some (vs[t]'ht):=List.getElem?_eq_getElem ht
   have:(vs.toArray++Array.replicate (fn.ntmps - vs.toArray.size) undef).getD t undef=vs[t]'ht:=by
    rw [Array.getD_eq_getD_getElem?,Array.getElem?_append_left (by simpa using ht)]
    simp [hv]
   rw [this]
   exact oI (hr.2 t d _ hd hv)
  ·exact .any _
 refine tO (g:=g) hT hm hC Hz trivial fZ (fun _=>rfl) (Nat.le_refl _) c h ⟨⟨G0,ak⟩,Nat.le_refl _,fun _ _=>rfl⟩ fun e nx env K a w' hq hs=>?_
 obtain ⟨⟨G1,gn⟩,_⟩:=hs
 have fin:CN T (look env) (aa K) fn.results.toList rs→LeavesInM Fence.wide 0 P fn a.tmps (fun e w'=>∃v M',e=.returned v∧Below w.heap.size w w'∧Mem.Le M M'∧M'.In w'∧(∀b,b<w.heap.size→M' b=M b)∧wo M' rs v) a.defers .returning w':=by
  intro sm
  obtain ⟨D,hD,_⟩:=gn.r8
  rw [hD]
  refine cf.leave (g:=g) (n:=fn.ntmps) (ρ:=look env) (κ:=aa K) (G:=G1) a.tmps (fun w2 pU=>?_) D w' (by have:=gn; rw [←hD]; exact this)
  obtain ⟨ids,us,bj,E4⟩:=wm hT pU sm
  obtain ⟨G2,hle,_,_,_,iF⟩:=pU.oA (κ:=aa K) ids (fun _ _=>rfl)
  have aB:=E4 ids G2 (fun i hi=>hi) hle iF.fit
  have Rz:Below w.heap.size w w2:=⟨iF.os,iF.tape,iF.output,iF.grow,fun b hb=>iF.x3 b hb (fun h=>h)⟩
  refine ⟨_,nJ bj,_,G2.M,rfl,Rz,iF.mem,iF.fit.sub,fun b hb=>iF.lL b hb (fun h=>h),?_⟩
  have pY:us.length=rs.length:=aB.1.symm
  have many:us.length ≠ 1→∃WX:List Value,(if h:us.toArray.size=1 then us.toArray[0] else Value.tuple us.toArray)=.tuple WX.toArray∧eX G2.M rs WX:=by
   intro bJ
   refine ⟨us,?_,aB⟩
   rw [dif_neg (by simpa using bJ)]
  match rs,aB,pY,many with
  | [],aB,pY,many=>exact many (by simp at pY; simp [pY])
  | [d],aB,pY,_ =>
   match us,pY,aB with
   | [u],_,aB=>exact aB.2 0 d u rfl rfl
  | _::_::_,aB,pY,many=>exact many (by simp at pY; omega)
 cases e with
 | normal=>exact fin hq
 | ret=>exact fin hq
 | exit i=>exact hq.elim
theorem y1 {rm:RM} (hrm:rm.Rq=true) (hT:er P T) (hm:P.follows .mixedOrders=true) (hC:c5 P (fun _=>True)) (Hz:iG P) {f:Nat} {fn:Func} {c:Code} {args:List AV} {m ex:Nat} {K:aj} {R:List AV→aj→Prop} (hf:P.funcs[f]?=some fn) (hb:fn.body=some c) (eb:(fn.name == "runtime.NumGoroutine")=false)
  (bM:(Nat.ble args.length fn.ntmps && aY.wf ⟨m,ea 0 args,K⟩)=true) (h:gF P T rm fn.ntmps m c (wh T fn m ex R) m (ea 0 args) K):dR P f args m K ex R:=by
 refine ⟨⟨fn,hf,eb,by rw [hb]; rfl⟩,fun w G vs oH ck hr=>?_⟩
 refine (fZ.calls (n:=0)).1 (callsIn_of_wp_marks hf hb trivial ?_)
 simp only [Bool.and_eq_true,aY.wf] at bM
 obtain ⟨hlen,WY,Z0⟩:=bM
 have hlen:vs.length≤fn.ntmps:=by rw [←hr.1]; exact Nat.le_of_ble_eq_true hlen
 let g:dD:=⟨fun b=>∃i,bL G i (aa K i) b,w,G.M,m,G.β,fun i p=>G.H i 0 0 p⟩
 have ak:cf g fn.ntmps (look (ea 0 args)) (aa K) { tmps:=vs.toArray++Array.replicate (fn.ntmps - vs.toArray.size) undef,defers:=[] } w G:=by
  refine { fit:=ck,env:=fun t=>?_,size:=by simp; omega,x3:=fun _ _ _=>rfl,os:=rfl,tape:=rfl,output:=rfl,grow:=Nat.le_refl _,mem:=.refl G.M,lL:=fun _ _ _=>rfl,fE:=fun i b ho=>.inr ⟨i,ho⟩,jg:=fun _ _=>rfl,pH:=fun _ _ _ _ hx=>hx,nk:=oH,r8:=⟨[],rfl,List.nodup_nil,by simp⟩ }
  rw [nI]
  simp only [Nat.zero_le,if_true,Nat.sub_zero]
  split
  ·rename_i d hd
   have ht:t<vs.length:=by rw [←hr.1]; exact (List.getElem?_eq_some_iff.1 hd).1
   have hv:vs[t]?=some (vs[t]'ht):=List.getElem?_eq_getElem ht
   have:(vs.toArray++Array.replicate (fn.ntmps - vs.toArray.size) undef).getD t undef=vs[t]'ht:=by
    rw [Array.getD_eq_getD_getElem?,Array.getElem?_append_left (by simpa using ht)]
    simp [hv]
   rw [this]
   exact hr.2 t d _ hd hv
  ·exact .any _
 refine tO (g:=g) hT hm hC Hz trivial fZ (fun _=>rfl) (r:=rm) (Nat.le_refl _) c h ⟨⟨G,ak⟩,Nat.le_refl _,fun i hi=>nE WY hi⟩ fun e nx env K1 a w' hq hs=>?_
 obtain ⟨⟨G1,gn⟩,_⟩:=hs
 have fin:K9 T fn m ex R env K1→LeavesInM Fence.wide 0 P fn a.tmps (fun e w'=>∃v rs K' G',e=.returned v∧R rs K'∧Lc m ex (aa K) w G rs (aa K') w' G' v) a.defers .returning w':=by
  intro sm
  obtain ⟨D,hD,_⟩:=gn.r8
  rw [hD]
  refine cf.leave (g:=g) (n:=fn.ntmps) (ρ:=look env) (κ:=aa K1) (G:=G1) a.tmps (fun w2 pU=>?_) D w' (by have:=gn; rw [←hD]; exact this)
  obtain ⟨jq,us,⟨rs,K2,hR,fc,Z1,Kk⟩,bj,dg⟩:=uS hT pU sm
  simp only [AN,Bool.and_eq_true] at fc
  obtain ⟨⟨⟨Ld,RA⟩,fA⟩,nF⟩:=fc
  obtain ⟨G2,_,IL,K8⟩:=pU.sub (m:=m) (Nat.le_refl _) (F:=dG (aa K1) rs jq++ey (aa K1) K2) Ld (fun i hi=>List.mem_append.2 (.inr hi)) fA nF Kk
  have aB:=IL rs jq us Z1 RA (fun i hi=>List.mem_append.2 (.inl hi)) dg
  have jT:=K8 (fun _=>.any) (fun _=>.any _)
  refine ⟨_,nJ bj,_,rs,K2,G2,rfl,hR,⟨jT.fit,fun i hi=>nE Ld hi,?_,jT.mem,jT.jg,jT.pH,fun b hb hO=>⟨jT.x3 b hb (fun ⟨i,h⟩=>hO i h),jT.lL b hb (fun ⟨i,h⟩=>hO i h)⟩,jT.fE,jT.os,jT.tape,jT.output,jT.grow⟩⟩
  have pY:us.length=rs.length:=aB.1.symm
  have many:us.length ≠ 1→aH G2 (.eV rs) (if h:us.toArray.size=1 then us.toArray[0] else Value.tuple us.toArray):=by
   intro bJ
   rw [dif_neg (by simpa using bJ)]
   exact .eV rs us aB.1 aB.2
  match rs,aB,pY,many with
  | [],aB,pY,many=>exact many (by simp at pY; simp [pY])
  | [d],aB,pY,_ =>
   match us,pY,aB with
   | [u],_,aB=>exact aB.2 0 d u rfl rfl
  | _::_::_,aB,pY,many=>exact many (by simp at pY; omega)
 cases e with
 | normal=>exact fin hq
 | ret=>exact fin hq
 | exit i=>exact hq.elim
theorem y2 (hT:er P T) (hm:P.follows .mixedOrders=true) (hC:c5 P (fun _=>True)) (Hz:iG P) {f:Nat} {fn:Func} {c:Code} {args:List AV} {m ex:Nat} {K:aj} {R:List AV→aj→Prop} (hf:P.funcs[f]?=some fn) (hb:fn.body=some c) (eb:(fn.name == "runtime.NumGoroutine")=false)
  (bM:(Nat.ble args.length fn.ntmps && aY.wf ⟨m,ea 0 args,K⟩)=true) (h:gF P T .fn fn.ntmps m c (wh T fn m ex R) m (ea 0 args) K):dR P f args m K ex R :=
 y1 (rm:=.fn) rfl hT hm hC Hz hf hb eb bM h
theorem Fm (hT:er P T) (hm:P.follows .mixedOrders=true) (hC:c5 P (fun _=>True)) (Hz:iG P) {f:Nat} {fn:Func} {c:Code} {args:List AV} {m ex:Nat} {K:aj} {R:List AV→aj→Prop} (hf:P.funcs[f]?=some fn) (hb:fn.body=some c) (eb:(fn.name == "runtime.NumGoroutine")=false)
  (bM:(Nat.ble args.length fn.ntmps && aY.wf ⟨m,ea 0 args,K⟩)=true) (h:gF P T .rel fn.ntmps m c (wh T fn m ex R) m (ea 0 args) K):dR P f args m K ex R :=
 y1 (rm:=.rel) rfl hT hm hC Hz hf hb eb bM h
theorem aJ (hT:er P T) (hm:P.follows .mixedOrders=true) (hC:c5 P (fun _=>True)) (Hz:iG P) {f:Nat} {fn:Func} {c:Code} {args:List AV} {m ex:Nat} {K:aj} {rs:List AV} {K':aj} (hf:P.funcs[f]?=some fn) (hb:fn.body=some c) (eb:(fn.name == "runtime.NumGoroutine")=false)
  (bM:(Nat.ble args.length fn.ntmps && aY.wf ⟨m,ea 0 args,K⟩)=true) (h:gF P T .fn fn.ntmps m c (wh T fn m ex fun r k=>r=rs∧k=K') m (ea 0 args) K):aO P f args m K ex rs K' :=
 y2 hT hm hC Hz hf hb eb bM h
theorem wq (hT:er P T) (hm:P.follows .mixedOrders=true) (hC:c5 P (fun _=>True)) (Hz:iG P) {f:Nat} {fn:Func} {c:Code} {args:List AV} {m ex:Nat} {K:aj} {rs:List AV} {K':aj} (hf:P.funcs[f]?=some fn) (hb:fn.body=some c) (eb:(fn.name == "runtime.NumGoroutine")=false)
  (bM:(Nat.ble args.length fn.ntmps && aY.wf ⟨m,ea 0 args,K⟩)=true) (h:gF P T .rel fn.ntmps m c (wh T fn m ex fun r k=>r=rs∧k=K') m (ea 0 args) K):aO P f args m K ex rs K' :=
 Fm hT hm hC Hz hf hb eb bM h
end
end Go.TM
namespace Go.TM
open Go.RowKit
variable [cu]
theorem iH (v e:Nat):mX (0,0) v e=(v,e):=by cases v <;> simp [mX]
theorem fQ:∀(K:aj),aa K=az (fun _=>.none) K
 | []=>rfl
 | (i,b)::K=>by
  funext t
  simp only [aa,az,gv,fQ K]
  by_cases h:t=i
  ·subst h; simp
  ·rw [if_neg h]; simp [beq_false h]
theorem oJ {r:Nat→Nat} {sh:Nat→Nat × Nat} (dB:∀i j,r i=r j→i=j) (f:Nat→ar):∀(K:aj) (j:Nat),az f (bZ r sh K) (r j)=if j∈keys K then ra r sh j (aa K j) else f (r j)
 | [],j=>by simp [bZ,az,keys]
 | (i,b)::K,j=>by
  simp only [bZ,az]
  by_cases e:j=i
  ·subst e; simp [keys,aa]
  ·have:r j ≠ r i:=fun h=>e (dB _ _ h)
   rw [ae _ _ this,oJ dB f K j]
   simp only [aa,beq_false e,cond_false]
   by_cases hj:j∈keys K
   ·rw [if_pos hj,if_pos (by simp only [keys,List.map_cons,List.mem_cons]; exact .inr hj)]
   ·rw [if_neg hj,if_neg (by simp only [keys,List.map_cons,List.mem_cons,not_or]; exact ⟨e,hj⟩)]
theorem mM {r:Nat→Nat} {sh:Nat→Nat × Nat} (f:Nat→ar):∀(K:aj) (i:Nat),(∀j,j∈keys K→r j ≠ i)→az f (bZ r sh K) i=f i
 | [],i,_=>rfl
 | (j,b)::K,i,h=>by
  simp only [bZ,az]
  rw [ae _ _ (fun e=>h j (by simp [keys]) e.symm)]
  exact mM f K i fun q hq=>h q (by simp only [keys,List.map_cons,List.mem_cons]; exact .inr hq)
theorem di {m:Nat}:∀{K:aj},lU m K=true→∀j,j∈keys K→j<m
 | [],_,j,h=>by simp [keys] at h
 | (i,b)::K,hk,j,h=>by
  simp only [lU,Bool.and_eq_true,Nat.blt_eq] at hk
  simp only [keys,List.map_cons,List.mem_cons] at h
  rcases h with rfl | h
  ·exact hk.1
  ·exact di hk.2 j h
theorem ga:∀{K:aj} {j:Nat},j ∉ keys K→aa K j=.none
 | [],_,_=>rfl
 | (i,b)::K,j,h=>by
  simp only [keys,List.map_cons,List.mem_cons,not_or] at h
  simp only [aa]
  rw [beq_false h.1]
  exact ga h.2
theorem lg {r:Nat→Nat} {sh:Nat→Nat × Nat}:∀{K:aj} {i:Nat} {b:ar},(i,b)∈bZ r sh K→∃j,j∈keys K∧i=r j
 | [],i,b,h=>by simp [bZ] at h
 | (j,c)::K,i,b,h=>by
  simp only [bZ,List.mem_cons] at h
  rcases h with h | h
  ·injection h with e1 e2; exact ⟨j,by simp [keys],e1⟩
  ·obtain ⟨q,h1,h2⟩:=lg h; exact ⟨q,by simp only [keys,List.map_cons,List.mem_cons]; exact .inr h1,h2⟩
theorem tP {γ:Type _} (f:Nat→γ):∀(l l':List (Nat × γ)),az f (l++l')=az (az f l') l
 | [],_=>rfl
 | (i,x)::l,l'=>by simp only [List.cons_append,az,tP f l l']
theorem jc:∀{σ:List Nat} {nx j:Nat} (h:j<σ.length),sg σ nx j=σ[j]
 | [],_,j,h=>by simp at h
 | i::σ,nx,0,_=>rfl
 | i::σ,nx,j+1,h=>by simp only [sg,List.getElem_cons_succ]; exact jc (by simpa using h)
theorem iI:∀{σ:List Nat} {nx j:Nat},σ.length≤j→sg σ nx j=nx+(j - σ.length)
 | [],_,j,_=>by simp [sg]
 | i::σ,nx,0,h=>by simp at h
 | i::σ,nx,j+1,h=>by
  simp only [sg,List.length_cons]
  rw [iI (by simpa using h)]
  simp
theorem hZ {κ:Nat→ar}:∀{σ:List Nat} {nx:Nat},HA κ σ nx=true→(∀i,i∈σ→i<nx)∧σ.Nodup
 | [],_,_=>⟨by simp,List.nodup_nil⟩
 | i::σ,nx,h=>by
  simp only [HA,Bool.and_eq_true,Nat.blt_eq,Bool.not_eq_true'] at h
  obtain ⟨h1,h2⟩:=hZ h.2
  exact ⟨fun j hj=>by rcases List.mem_cons.1 hj with rfl | hj; exact h.1.1; exact h1 j hj,List.nodup_cons.2 ⟨eD h.1.2,h2⟩⟩
theorem Lf {κ:Nat→ar}:∀{σ:List Nat} {j:Nat} (h:j<σ.length),jP κ σ j=Lg (κ σ[j])
 | [],j,h=>by simp at h
 | i::σ,0,_=>rfl
 | i::σ,j+1,h=>by simp only [jP,List.getElem_cons_succ]; exact Lf (by simpa using h)
theorem HB {κ:Nat→ar}:∀{σ:List Nat} {j:Nat},σ.length≤j→jP κ σ j=(0,0)
 | [],_,_=>rfl
 | i::σ,0,h=>by simp at h
 | i::σ,j+1,h=>by simp only [jP]; exact HB (by simpa using h)
def pos:List Nat→Nat→Option Nat
 | [],_=>none
 | x::l,i=>if x=i then some 0 else (pos l i).map (·+1)
def jd (σ:List Nat) (nx ex i:Nat):Option Nat:=match pos σ i with
 | some j=>some j
 | none=>if nx≤i∧i<nx+ex then some (σ.length+(i - nx)) else none
theorem wu:∀{σ:List Nat} {i j:Nat},pos σ i=some j→∃h:j<σ.length,σ[j]=i
 | [],i,j,h=>by simp [pos] at h
 | x::l,i,j,h=>by
  simp only [pos] at h
  split at h
  ·rename_i e; injection h with h; subst h; exact ⟨by simp,e⟩
  ·cases hp:pos l i with
   | none=>rw [hp] at h; simp at h
   | some q=>rw [hp] at h; simp at h; subst h; obtain ⟨h1,h2⟩:=wu hp; exact ⟨by simpa using h1,by simpa using h2⟩
theorem pos_at:∀{σ:List Nat} (hn:σ.Nodup) {j:Nat} (h:j<σ.length),pos σ σ[j]=some j
 | [],_,j,h=>by simp at h
 | x::l,hn,0,h=>by simp [pos]
 | x::l,hn,j+1,h=>by
  have yN:=List.nodup_cons.1 hn
  have hj:j<l.length:=by simpa using h
  simp only [List.getElem_cons_succ,pos]
  rw [if_neg (fun e=>yN.1 (by rw [e]; exact List.getElem_mem hj)),pos_at yN.2 hj]
  rfl
theorem Lh {σ:List Nat} {i:Nat} (h:i ∉ σ):pos σ i=none:=by
 cases hp:pos σ i with
 | none=>rfl
 | some j=>obtain ⟨h1,h2⟩:=wu hp; exact absurd (h2 ▸ List.getElem_mem h1) h
theorem Li {σ:List Nat} {nx:Nat} (h1:∀i,i∈σ→i<nx) (h2:σ.Nodup) (i j:Nat) (h:sg σ nx i=sg σ nx j):i=j:=by
 rcases Nat.lt_or_ge i σ.length with hi | hi
 ·rcases Nat.lt_or_ge j σ.length with hj | hj
  ·rw [jc hi,jc hj] at h
   have e1:=pos_at h2 hi; have e2:=pos_at h2 hj; rw [h,e2] at e1; injection e1 with e1; exact e1.symm
  ·rw [jc hi,iI hj] at h
   have:=h1 _ (List.getElem_mem hi); omega
 ·rcases Nat.lt_or_ge j σ.length with hj | hj
  ·rw [iI hi,jc hj] at h
   have:=h1 _ (List.getElem_mem hj); omega
  ·rw [iI hi,iI hj] at h; omega
theorem Oj {σ:List Nat} {nx ex:Nat} (h1:∀i,i∈σ→i<nx) (h2:σ.Nodup) {j:Nat} (hj:j<σ.length+ex):jd σ nx ex (sg σ nx j)=some j:=by
 unfold jd
 rcases Nat.lt_or_ge j σ.length with aK | dy
 ·rw [jc aK,pos_at h2 aK]
 ·rw [iI dy,Lh (fun hm=>by have:=h1 _ hm; omega)]
  simp only
  rw [if_pos (by omega)]
  congr 1
  omega
theorem ia {σ:List Nat} {nx ex i j:Nat} (h:jd σ nx ex i=some j):j<σ.length+ex∧sg σ nx j=i:=by
 unfold jd at h
 split at h
 ·rename_i q hq
  injection h with h; subst h
  obtain ⟨h1,h2⟩:=wu hq
  exact ⟨by omega,by rw [jc h1]; exact h2⟩
 ·split at h
  ·rename_i hr
   injection h with h; subst h
   refine ⟨by omega,?_⟩
   rw [iI (by omega)]; omega
  ·cases h
def pull (r:Nat→Nat) (G:Gh):Gh:=⟨G.M,fun j=>G.β (r j),fun j=>G.H (r j),fun j=>G.X (r j)⟩
theorem lh (r:Nat→Nat) (G:Gh) (j v e:Nat):aB (pull r G).H j v e=aB G.H (r j) v e:=by
 funext p; cases p <;> rfl
theorem Lj {r:Nat→Nat} {G:Gh}:∀N:Nat,(∀(u:AV) (x:Value),SizeOf.sizeOf u<N→aH G (lK r dH u) x→aH (pull r G) u x) ∧
  (∀(us:List AV) (xs:List Value),SizeOf.sizeOf us<N→bU G (dL r dH us) xs→bU (pull r G) us xs):=by
 intro N
 induction N with
 | zero=>exact ⟨fun _ _ h=>by omega,fun _ _ h=>by omega⟩
 | succ N ih =>
  refine ⟨fun u x aU hv=>?_,fun us xs aU hr=>?_⟩
  ·cases u with
   | any=>exact .any _
   | dv d=>simp only [lK] at hv; cases hv with | dv h=>exact .dv h
   | ptr i off=>simp only [lK] at hv; cases hv with | ptr _ _ b h=>exact .ptr i off b h
   | fN i=>simp only [lK] at hv; cases hv with | fN _ b h=>exact .fN i b h
   | sle i n=>simp only [lK] at hv; cases hv with | sle _ _ b h=>exact .sle i n b h
   | bX i v=>simp only [lK,dH,iH] at hv; cases hv with | bX _ _ a n h=>exact .bX i v a n h
   | own i v e p =>
    simp only [lK,dH,iH] at hv
    cases hv with | own _ _ _ _ _ h hc=>exact .own i v e p x (by rw [lh]; exact h) hc
   | loc i v e p a b c =>
    simp only [lK,dH,iH] at hv
    cases hv with
    | loc _ _ _ _ _ _ _ A q q' h=>exact .loc i v e p a b c A q q' (by rw [lh]; exact h)
    | mU _ _ _ _ _ _ _ A h=>exact .mU i v e p a b c A (by rw [lh]; exact h)
   | pre i v e p a b c =>
    simp only [lK,dH,iH] at hv
    cases hv with
    | pre _ _ _ _ _ _ _ q q' h=>exact .pre i v e p a b c q q' fun hn=>by obtain ⟨A,N,c',e1,e2⟩:=h hn; exact ⟨A,N,c',by rw [lh]; exact e1,e2⟩
   | fn f l=>simp only [lK] at hv; cases hv with | fn _ _ vs hl hr=>have:=ih.2 l vs (by simp at aU; omega) ⟨hl,hr⟩; exact .fn f l vs this.1 this.2
   | iA f l=>simp only [lK] at hv; cases hv with | iA _ _ vs hl hr=>have:=ih.2 l vs (by simp at aU; omega) ⟨hl,hr⟩; exact .iA f l vs this.1 this.2
   | agg l=>simp only [lK] at hv; cases hv with | agg _ vs hl hr=>have:=ih.2 l vs (by simp at aU; omega) ⟨hl,hr⟩; exact .agg l vs this.1 this.2
   | eV l=>simp only [lK] at hv; cases hv with | eV _ vs hl hr=>have:=ih.2 l vs (by simp at aU; omega) ⟨hl,hr⟩; exact .eV l vs this.1 this.2
   | opt g v=>simp only [lK] at hv; cases hv with | opt _ _ _ h hu=>exact .opt g v x (fun hg=>ih.1 v x (by simp at aU; omega) (h hg)) hu
  ·cases us with
   | nil=>exact ⟨hr.1,by simp⟩
   | cons u us =>
    simp only [dL] at hr
    match xs,hr with
    | [],hr=>have:=hr.1; simp at this
    | x::xs,hr =>
     have h1:=ih.1 u x (by simp at aU; omega) (hr.2 0 _ x rfl rfl)
     have h2:=ih.2 us xs (by simp at aU; omega) ⟨by simpa using hr.1,fun q e y he hy=>hr.2 (q+1) e y (by simpa using he) (by simpa using hy)⟩
     refine ⟨by simp [h2.1],fun j d y hd hy=>?_⟩
     cases j with
     | zero=>simp at hd hy; subst hd; subst hy; exact h1
     | succ j=>exact h2.2 j d y (by simpa using hd) (by simpa using hy)
theorem nL (r:Nat→Nat) (sh:Nat→Nat × Nat):∀l,(dL r sh l).length=l.length
 | []=>rfl
 | v::l=>by simp [dL,nL r sh l]
theorem wv (r:Nat→Nat) (sh:Nat→Nat × Nat):∀(l:List AV) (j:Nat),(dL r sh l)[j]?=(l[j]?).map (lK r sh)
 | [],j=>by simp [dL]
 | v::l,0=>by simp [dL]
 | v::l,j+1=>by simp [dL,wv r sh l j]
theorem Fo (r:Nat→Nat) (sh:Nat→Nat × Nat) (v:AV):(lK r sh v).aq=v.aq:=by cases v <;> simp [lK,AV.aq]
theorem Ok {r:Nat→Nat} (dB:∀i j,r i=r j→i=j) {G:Gh} {w:World} {K:aj} (hf:Fit G w (aa (bZ r dH K))) (hk:∀j,j∈keys K→aa K j ≠ .none) (dV:∀j,j∈keys K→∀a b c d e,aa K j ≠ .jw a b c d e) (Z2:∀j,j∈keys K→aa K j ≠ .held) (hc:∀(j:Nat) (l:List AV),aa K j=.cells l→bV l=true) :
  Fit (pull r G) w (aa K)∧∀j b,bL (pull r G) j (aa K j) b→j∈keys K∧bL G (r j) (aa (bZ r dH K) (r j)) b:=by
 have jz:∀j,aa (bZ r dH K) (r j)=if j∈keys K then ra r dH j (aa K j) else .none:=fun j=>by
  rw [fQ]; exact oJ dB _ K j
 have fo:∀j b,bL (pull r G) j (aa K j) b→j∈keys K∧bL G (r j) (aa (bZ r dH K) (r j)) b:=by
  intro j b ho
  by_cases hj:j∈keys K
  ·refine ⟨hj,?_⟩
   rw [jz,if_pos hj]
   cases hl:aa K j with
   | cells l=>rw [hl] at ho; exact ho
   | tree v e d =>
    rw [hl] at ho
    simp only [ra,dH,iH,bL] at ho ⊢
    rw [lh] at ho; exact ho
   | eI rc st l=>rw [hl] at ho; exact ho
   | jw a b c d e=>exact absurd hl (dV j hj a b c d e)
   | _=>rw [hl] at ho; exact ho.elim
  ·rw [ga hj] at ho; exact ho.elim
 refine ⟨⟨hf.sub,fun j=>?_,fun j b ho=>hf.own _ b (fo j b ho).2,fun i j b hi hj=>dB i j (hf.inj _ _ b (fo i b hi).2 (fo j b hj).2)⟩,fo⟩
 have hb:=hf.box (r j)
 rw [jz] at hb
 by_cases hj:j∈keys K
 ·rw [if_pos hj] at hb
  cases hl:aa K j with
  | none=>exact absurd hl (hk j hj)
  | dead=>trivial
  | cells l =>
   rw [hl] at hb
   obtain ⟨b,c,t,h1,h2,h3,h4,h5⟩:=hb
   refine ⟨b,c,t,h1,h2,by rw [h3,nL],fb (hc j l hl),fun q d v hd hv=>?_⟩
   exact (Lj (r:=r) (SizeOf.sizeOf d+1)).1 d v (by omega) (h5 q _ v (by rw [wv,hd]; rfl) hv)
  | tree v e d =>
   rw [hl] at hb
   simp only [ra,dH,iH] at hb
   simp only [eY] at hb ⊢
   rw [lh]
   exact hb
  | fz v d =>
   rw [hl] at hb
   simp only [ra,dH,iH] at hb
   exact hb
  | eI rc st l =>
   rw [hl] at hb
   obtain ⟨b,fn,tmps,D,h1,h2,h3⟩:=hb
   exact ⟨b,fn,tmps,D,h1,h2,(Lj (r:=r) (SizeOf.sizeOf l+1)).2 l tmps.toList (by omega) h3⟩
  | jw a b c d e=>exact absurd hl (dV j hj a b c d e)
  | held=>exact absurd hl (Z2 j hj)
 ·rw [if_neg hj] at hb
  rw [ga hj]
  exact hb
theorem Lk {G2 G3:Gh} {r:Nat→Nat} {sh:Nat→Nat × Nat} {ok:Nat→Bool} (hM:Mem.Le G2.M G3.M) (hβ:∀j b,G2.β j=some b→G3.β (r j)=some b)
  (hH:∀j v e p x,ok j=true→aB G2.H j v e p=some x→aB G3.H (r j) (mX (sh j) v e).1 (mX (sh j) v e).2 p=some x):∀N:Nat,
  (∀(u:AV) (x:Value),SizeOf.sizeOf u<N→AV.nm ok u=true→aH G2 u x→aH G3 (lK r sh u) x) ∧
  (∀(us:List AV) (xs:List Value),SizeOf.sizeOf us<N→AV.yk ok us=true→bU G2 us xs→bU G3 (dL r sh us) xs):=by
 intro N
 induction N with
 | zero=>exact ⟨fun _ _ h=>by omega,fun _ _ h=>by omega⟩
 | succ N ih =>
  refine ⟨fun u x aU hn hv=>?_,fun us xs aU hn hr=>?_⟩
  ·cases u with
   | any=>exact .any _
   | dv d=>cases hv with | dv h=>exact .dv (h.mono hM)
   | ptr i off=>cases hv with | ptr _ _ b h=>exact .ptr _ off b (hβ _ _ h)
   | fN i=>cases hv with | fN _ b h=>exact .fN _ b (hβ _ _ h)
   | sle i n=>cases hv with | sle _ _ b h=>exact .sle _ n b (hβ _ _ h)
   | bX i v =>
    simp only [AV.nm] at hn
    cases hv with | bX _ _ a n h=>exact .bX _ _ a n (hH i v 0 [] _ hn h)
   | own i v e p =>
    simp only [AV.nm] at hn
    cases hv with | own _ _ _ _ _ h hc=>exact .own _ _ _ p x (hH _ _ _ _ _ hn h) hc
   | loc i v e p a b c =>
    simp only [AV.nm] at hn
    cases hv with
    | loc _ _ _ _ _ _ _ A q q' h=>exact .loc _ _ _ p a b c A q q' (hH _ _ _ _ _ hn h)
    | mU _ _ _ _ _ _ _ A h=>exact .mU _ _ _ p a b c A (hH _ _ _ _ _ hn h)
   | pre i v e p a b c =>
    simp only [AV.nm] at hn
    cases hv with
    | pre _ _ _ _ _ _ _ q q' h=>exact .pre _ _ _ p a b c q q' fun hz=>by obtain ⟨A,N,c',e1,e2⟩:=h hz; exact ⟨A,N,c',hH _ _ _ _ _ hn e1,e2⟩
   | fn f l=>simp only [AV.nm] at hn; cases hv with | fn _ _ vs hl hr=>have:=ih.2 l vs (by simp at aU; omega) hn ⟨hl,hr⟩; exact .fn f _ vs this.1 this.2
   | iA f l=>simp only [AV.nm] at hn; cases hv with | iA _ _ vs hl hr=>have:=ih.2 l vs (by simp at aU; omega) hn ⟨hl,hr⟩; exact .iA f _ vs this.1 this.2
   | agg l=>simp only [AV.nm] at hn; cases hv with | agg _ vs hl hr=>have:=ih.2 l vs (by simp at aU; omega) hn ⟨hl,hr⟩; exact .agg _ vs this.1 this.2
   | eV l=>simp only [AV.nm] at hn; cases hv with | eV _ vs hl hr=>have:=ih.2 l vs (by simp at aU; omega) hn ⟨hl,hr⟩; exact .eV _ vs this.1 this.2
   | opt g v=>simp only [AV.nm] at hn; cases hv with | opt _ _ _ h hu=>exact .opt g _ x (fun hg=>ih.1 v x (by simp at aU; omega) hn (h hg)) hu
  ·cases us with
   | nil=>exact ⟨hr.1,by simp [dL]⟩
   | cons u us =>
    simp only [AV.yk,Bool.and_eq_true] at hn
    match xs,hr with
    | [],hr=>have:=hr.1; simp at this
    | x::xs,hr =>
     have h1:=ih.1 u x (by simp at aU; omega) hn.1 (hr.2 0 _ x rfl rfl)
     have h2:=ih.2 us xs (by simp at aU; omega) hn.2 ⟨by simpa using hr.1,fun q e y he hy=>hr.2 (q+1) e y (by simpa using he) (by simpa using hy)⟩
     refine ⟨by simp only [dL,List.length_cons]; rw [h2.1],fun j d y hd hy=>?_⟩
     cases j with
     | zero=>simp [dL] at hd hy; subst hd; subst hy; exact h1
     | succ j=>exact h2.2 j d y (by simpa [dL] using hd) (by simpa using hy)
def mH (V E:Nat) (H1 H2:Nat→Nat→List PS→Option Value) (v e:Nat) (p:List PS):Option Value :=
 if v<V then H1 v e p else if V<v then H2 (v - V) e p else match p with
  | []=>if e=0 then H2 0 0 [] else H1 v e []
  | s::q=>if e<E then H1 v e (s::q) else H2 0 (e - E) (s::q)
theorem Ll {V E:Nat} {H1 H2:Nat→Nat→List PS→Option Value} (v e:Nat):mH V E H1 H2 (mX (V,E) v e).1 0 []=H2 v 0 []∧∀s q,mH V E H1 H2 (mX (V,E) v e).1 (mX (V,E) v e).2 (s::q)=H2 v e (s::q):=by
 cases v with
 | zero =>
  refine ⟨by simp [mX,mH],fun s q=>?_⟩
  show mH V E H1 H2 V (E+e) (s::q)=_
  simp only [mH,Nat.lt_irrefl,if_false]
  rw [if_neg (by omega),Nat.add_sub_cancel_left]
 | succ v =>
  have h1:¬ (V+(v+1)<V):=by omega
  have h2:V<V+(v+1):=by omega
  have h3:V+(v+1) - V=v+1:=by omega
  refine ⟨?_,fun s q=>?_⟩
  ·show mH V E H1 H2 (V+(v+1)) 0 []=_
   unfold mH; rw [if_neg h1,if_pos h2,h3]
  ·show mH V E H1 H2 (V+(v+1)) e (s::q)=_
   unfold mH; rw [if_neg h1,if_pos h2,h3]
theorem RB {V E:Nat} {H1 H2:Nat→Nat→List PS→Option Value} (h1:∀v,V<v→∀e p,H1 v e p=none) (h2:∀e,E<e→∀p,H1 V e p=none) (h3:∀x,H1 V 0 []=some x→H2 0 0 []=some x) (h4:∀s q x,H1 V E (s::q)=some x→H2 0 0 (s::q)=some x)
  {v e:Nat} {p:List PS} {x:Value} (h:H1 v e p=some x):mH V E H1 H2 v e p=some x:=by
 unfold mH
 split
 ·exact h
 ·split
  ·rename_i aK; rw [h1 v aK] at h; cases h
  ·have:v=V:=by omega
   subst this
   cases p with
   | nil =>
    simp only
    split
    ·rename_i he; subst he; exact h3 x h
    ·exact h
   | cons s q =>
    simp only
    split
    ·exact h
    ·rename_i dy
     rcases Nat.lt_or_ge E e with aK | hle
     ·rw [h2 e aK] at h; cases h
     ·have:e=E:=by omega
      subst this
      rw [Nat.sub_self]; exact h4 s q x h
theorem TZ {V E:Nat} {H1 H2:Nat→Nat→List PS→Option Value} {v e:Nat} (h:∀v',v<v'→∀e p,H2 v' e p=none) {v':Nat} (hv:(mX (V,E) v e).1<v') (e':Nat) (p:List PS):mH V E H1 H2 v' e' p=none:=by
 have hle:V+v≤(mX (V,E) v e).1:=by cases v <;> simp [mX]
 unfold mH
 rw [if_neg (by omega),if_pos (by omega)]
 exact h _ (by omega) e' p
theorem T0 {V E:Nat} {H1 H2:Nat→Nat→List PS→Option Value} (h2:∀e,E<e→∀p,H1 V e p=none) {v e:Nat} (h:∀e',e<e'→∀p,H2 v e' p=none) {e':Nat} (he:(mX (V,E) v e).2<e') (p:List PS):mH V E H1 H2 (mX (V,E) v e).1 e' p=none:=by
 cases v with
 | zero =>
  show mH V E H1 H2 V e' p=none
  have he:E+e<e':=he
  simp only [mH,Nat.lt_irrefl,if_false]
  cases p with
  | nil=>simp only; rw [if_neg (by omega)]; exact h2 e' (by omega) []
  | cons s q=>simp only; rw [if_neg (by omega)]; exact h _ (by omega) _
 | succ v =>
  show mH V E H1 H2 (V+(v+1)) e' p=none
  have he:e<e':=he
  unfold mH
  rw [if_neg (by omega),if_pos (by omega)]
  have h3:V+(v+1) - V=v+1:=by omega
  rw [h3]; exact h e' he p
end Go.TM
namespace Go.TM
open Go.RowKit
variable [cu]
def tQ (m:Nat) (b:ar) (H1 H2:Nat→Nat→List PS→Option Value) (j:Nat):Nat→Nat→List PS→Option Value :=
 if j<m then (match b with
  | .tree V E _=>mH V E H1 H2
  | .none=>H2
  | _=>H1) else H2
def cP (σ:List Nat) (nx ex:Nat) (κ:Nat→ar) (G1 G2:Gh):Gh where
 M:=G2.M
 β i:=match jd σ nx ex i with
  | some j=>G2.β j
  | none=>G1.β i
 H i:=match jd σ nx ex i with
  | some j=>tQ σ.length (κ i) (G1.H i) (G2.H j) j
  | none=>G1.H i
 X i:=match jd σ nx ex i with
  | some j=>G2.X j
  | none=>G1.X i
theorem iJ {κ κ':Nat→ar}:∀{m:Nat},AO κ κ' m=true→∀j,j<m →
  (∃l l',κ j=.cells l∧κ' j=.cells l') ∨ (∃rc st l EH Qd l',κ j=.eI rc st l∧κ' j=.eI EH Qd l') ∨ (∃v e d,κ j=.tree v e d∧(κ' j=.dead ∨ (∃v' e' d',κ' j=.tree v' e' d') ∨ ∃v' d',κ' j=.fz v' d')) ∨ (∃v d d',κ j=.fz v d∧κ' j=.fz 0 d')
 | 0,_,j,h=>by omega
 | m+1,hk,j,hj=>by
  simp only [AO,Bool.and_eq_true] at hk
  rcases Nat.lt_or_ge j m with aK | dy
  ·exact iJ hk.2 j aK
  ·have:j=m:=by omega
   subst this
   have h1:=hk.1
   split at h1
   ·rename_i l l' e1 e2; exact .inl ⟨_,_,e1,e2⟩
   ·rename_i e1 e2; exact .inr (.inl ⟨_,_,_,_,_,_,e1,e2⟩)
   ·rename_i e1 e2; exact .inr (.inr (.inl ⟨_,_,_,e1,.inr (.inl ⟨_,_,_,e2⟩)⟩))
   ·rename_i e1 e2; exact .inr (.inr (.inl ⟨_,_,_,e1,.inr (.inr ⟨_,_,e2⟩)⟩))
   ·rename_i e1 e2; exact .inr (.inr (.inl ⟨_,_,_,e1,.inl e2⟩))
   ·rename_i e1 e2; exact .inr (.inr (.inr ⟨_,_,_,e1,e2⟩))
   ·cases h1
theorem AP {ok:Nat→Bool}:∀{K:aj},VY ok K=true→∀i b,(i,b)∈K→b.T1 ok=true
 | [],_,i,b,h=>by simp at h
 | (j,c)::K,hn,i,b,h=>by
  simp only [VY,Bool.and_eq_true] at hn
  rcases List.mem_cons.1 h with h | h
  ·injection h with e1 e2; subst e2; exact hn.1
  ·exact AP hn.2 i b h
theorem I3 {σ:List Nat} {nx ex:Nat} {κ κ1:Nat→ar} {G0 G1 G2:Gh} {w w2:World} {K0 K1:aj} {rs:List AV} {v:Value}
  (hσ1:∀i,i∈σ→i<nx) (hσ2:σ.Nodup) (jh:∀i,nx≤i→i<nx+ex→κ1 i=.none) (Kz:Fit G1 w κ1)
  (YL:∀i,i∈σ→∀V E d,κ i=.tree V E d→(∀v,V<v→∀e p,G1.H i v e p=none)∧∀e,E<e→∀p,G1.H i V e p=none)
  (yO:∀i,i∈σ→κ i=.none→∀v e p,G1.H i v e p=none)
  (Z3:∀j,j<σ.length→∀V E d,κ (sg σ nx j)=.tree V E d→(∀x,G1.H (sg σ nx j) V 0 []=some x→G0.H j 0 0 []=some x)∧∀s q x,G1.H (sg σ nx j) V E (s::q)=some x→G0.H j 0 0 (s::q)=some x)
  (iF:∀j,j<σ.length→∀V d,κ (sg σ nx j)=.fz V d→∃x,G1.H (sg σ nx j) V 0 []=some x∧G0.H j 0 0 []=some x)
  (hβ0:∀j,j<σ.length→G0.β j=G1.β (sg σ nx j)) (YM:G0.M=G1.M)
  (tR:∀j b,bL G0 j (aa K0 j) b→j<σ.length∧bL G1 (sg σ nx j) (κ1 (sg σ nx j)) b)
  (HC:∀j,j<σ.length→(∀v e d,aa K0 j=.tree v e d→(∃V E d,κ (sg σ nx j)=.tree V E d) ∨ κ (sg σ nx j)=.none)∧(∀v d,aa K0 j=.fz v d→(∃V E d,κ (sg σ nx j)=.tree V E d) ∨ ∃V d,κ (sg σ nx j)=.fz V d))
  (fc:gE σ ex K0 K1 rs=true) (hC:Lc σ.length ex (aa K0) w G0 rs (aa K1) w2 G2 v) :
  Kt (fun i=>∃j,jd σ nx ex i=some j) κ1 (az κ1 (bZ (sg σ nx) (jP κ σ) K1)) G1 (cP σ nx ex κ G1 G2) w w2∧(∀i,i<nx→(cP σ nx ex κ G1 G2).β i=G1.β i)∧aH (cP σ nx ex κ G1 G2) (lK (sg σ nx) (jP κ σ) (hU rs)) v:=by
 simp only [gE,Bool.and_eq_true] at fc
 obtain ⟨⟨⟨eo,Fl⟩,VU⟩,Lm⟩:=fc
 have dB:=Li hσ1 hσ2
 have Tq:∀j,j<σ.length+ex→jd σ nx ex (sg σ nx j)=some j:=fun j hj=>Oj hσ1 hσ2 hj
 have yl:∀j (h:j<σ.length),sg σ nx j∈σ:=fun j h=>by rw [jc h]; exact List.getElem_mem h
 have gG:∀j,σ.length+ex≤j→G2.β j=none∧∀v e p,G2.H j v e p=none:=fun j hj=>by
  have:=hC.fit.box j; rw [hC.no j hj] at this; exact this
 have Qeβ:∀j,j<σ.length+ex→(cP σ nx ex κ G1 G2).β (sg σ nx j)=G2.β j:=fun j hj=>by simp only [cP,Tq j hj]
 have Z4:∀j,j<σ.length+ex→(cP σ nx ex κ G1 G2).X (sg σ nx j)=G2.X j:=fun j hj=>by simp only [cP,Tq j hj]
 have I4:∀j,j<σ.length+ex→(cP σ nx ex κ G1 G2).H (sg σ nx j)=tQ σ.length (κ (sg σ nx j)) (G1.H (sg σ nx j)) (G2.H j) j:=fun j hj=>by simp only [cP,Tq j hj]
 have WZ:∀j (h:j<σ.length),jP κ σ j=Lg (κ (sg σ nx j)):=fun j h=>by rw [Lf h,jc h]
 have HT:∀j,j<σ.length+ex→(j<σ.length→(∃V E d,κ (sg σ nx j)=.tree V E d) ∨ κ (sg σ nx j)=.none) →
   (∀v e,aB (cP σ nx ex κ G1 G2).H (sg σ nx j) (mX (jP κ σ j) v e).1 (mX (jP κ σ j) v e).2=aB G2.H j v e) ∧
   (∀v e,(∀v',v<v'→∀e p,G2.H j v' e p=none)→∀v',(mX (jP κ σ j) v e).1<v'→∀e p,(cP σ nx ex κ G1 G2).H (sg σ nx j) v' e p=none) ∧
   (∀v e,(∀e',e<e'→∀p,G2.H j v e' p=none)→∀e',(mX (jP κ σ j) v e).2<e'→∀p,(cP σ nx ex κ G1 G2).H (sg σ nx j) (mX (jP κ σ j) v e).1 e' p=none):=by
  intro j hj hc
  have plain:(cP σ nx ex κ G1 G2).H (sg σ nx j)=G2.H j→jP κ σ j=(0,0)→_:=fun h1 h2 =>
   (show (∀v e,aB (cP σ nx ex κ G1 G2).H (sg σ nx j) (mX (jP κ σ j) v e).1 (mX (jP κ σ j) v e).2=aB G2.H j v e) ∧
   (∀v e,(∀v',v<v'→∀e p,G2.H j v' e p=none)→∀v',(mX (jP κ σ j) v e).1<v'→∀e p,(cP σ nx ex κ G1 G2).H (sg σ nx j) v' e p=none) ∧
   (∀v e,(∀e',e<e'→∀p,G2.H j v e' p=none)→∀e',(mX (jP κ σ j) v e).2<e'→∀p,(cP σ nx ex κ G1 G2).H (sg σ nx j) (mX (jP κ σ j) v e).1 e' p=none) by
    rw [h2]
    simp only [iH]
    refine ⟨fun v e=>funext fun p=>by cases p <;> simp only [aB,h1],fun v e h v' hv e p=>by rw [h1]; exact h v' hv e p,fun v e h e' he p=>by rw [h1]; exact h e' he p⟩)
  rcases Nat.lt_or_ge j σ.length with aK | dy
  ·rcases hc aK with ⟨V,E,d,hk⟩ | hk
   ·have h1:(cP σ nx ex κ G1 G2).H (sg σ nx j)=mH V E (G1.H (sg σ nx j)) (G2.H j):=by rw [I4 j hj]; simp only [tQ,if_pos aK,hk]
    have h2:jP κ σ j=(V,E):=by rw [WZ j aK,hk]; rfl
    obtain ⟨u1,u2⟩:=YL _ (yl j aK) V E d hk
    rw [h2]
    refine ⟨fun v e=>funext fun p=>?_,fun v e h v' hv e' p=>by rw [h1]; exact TZ h hv e' p,fun v e h e' he p=>by rw [h1]; exact T0 u2 h he p⟩
    cases p with
    | nil=>simp only [aB,h1]; exact (Ll v e).1
    | cons s q=>simp only [aB,h1]; exact (Ll v e).2 s q
   ·exact plain (by rw [I4 j hj]; simp only [tQ,if_pos aK,hk]) (by rw [WZ j aK,hk]; rfl)
  ·exact plain (by rw [I4 j hj]; simp only [tQ,if_neg (Nat.not_lt.2 dy)]) (HB dy)
 have hpβ:∀j b,G2.β j=some b→(cP σ nx ex κ G1 G2).β (sg σ nx j)=some b:=by
  intro j b hb
  rcases Nat.lt_or_ge j (σ.length+ex) with aK | dy
  ·rw [Qeβ j aK]; exact hb
  ·rw [(gG j dy).1] at hb; cases hb
 have Z5:∀j v e p x,Fp σ.length (aa K0) j=true→aB G2.H j v e p=some x→aB (cP σ nx ex κ G1 G2).H (sg σ nx j) (mX (jP κ σ j) v e).1 (mX (jP κ σ j) v e).2 p=some x:=by
  intro j v e p x bK hx
  rcases Nat.lt_or_ge j (σ.length+ex) with aK | dy
  ·rw [(HT j aK fun hj=>?_).1]
   ·exact hx
   ·simp only [Fp] at bK
    rw [show Nat.blt j σ.length=true by rw [Nat.blt_eq]; exact hj] at bK
    simp only [cond_true] at bK
    split at bK
    ·rename_i d hd; exact (HC j hj).1 _ _ _ hd
    ·cases bK
  ·cases p with
   | nil=>simp only [aB] at hx; rw [(gG j dy).2] at hx; cases hx
   | cons s q=>simp only [aB] at hx; rw [(gG j dy).2] at hx; cases hx
 have Ln:=Lk (G2:=G2) (G3:=cP σ nx ex κ G1 G2) (r:=sg σ nx) (sh:=jP κ σ) (ok:=Fp σ.length (aa K0)) (Mem.Le.refl _) hpβ Z5
 have hκ3:∀j,az κ1 (bZ (sg σ nx) (jP κ σ) K1) (sg σ nx j)=if j∈keys K1 then ra (sg σ nx) (jP κ σ) j (aa K1 j) else κ1 (sg σ nx j):=fun j=>oJ dB _ K1 j
 have AJ:∀j,j<σ.length→j∈keys K1:=fun j hj=>by
  refine Classical.byContradiction fun hn=>?_
  have h0:=ga hn
  rcases iJ eo j hj with ⟨_,_,_,h⟩ | ⟨_,_,_,_,_,_,_,h⟩ | ⟨_,_,_,_,h | ⟨_,_,_,h⟩ | ⟨_,_,h⟩⟩ | ⟨_,_,_,_,h⟩ <;> rw [h0] at h <;> cases h
 have dj:∀j,j<σ.length+ex→j ∉ keys K1→κ1 (sg σ nx j)=.none:=fun j hj hn=>by
  rcases Nat.lt_or_ge j σ.length with aK | dy
  ·exact absurd (AJ j aK) hn
  ·rw [iI dy]; exact jh _ (by omega) (by omega)
 have rb:∀j,j<σ.length+ex→∀v e d,aa K1 j=.tree v e d→(j<σ.length→(∃V E d,κ (sg σ nx j)=.tree V E d) ∨ κ (sg σ nx j)=.none):=by
  intro j hj v e d hd aK
  rcases iJ eo j aK with ⟨_,_,_,h⟩ | ⟨_,_,_,_,_,_,_,h⟩ | ⟨_,_,_,h0,_⟩ | ⟨_,_,_,_,h⟩
  ·rw [hd] at h; cases h
  ·rw [hd] at h; cases h
  ·exact (HC j aK).1 _ _ _ h0
  ·rw [hd] at h; cases h
 have iB:∀j,j<σ.length+ex→∀b,bL (cP σ nx ex κ G1 G2) (sg σ nx j) (az κ1 (bZ (sg σ nx) (jP κ σ) K1) (sg σ nx j)) b→bL G2 j (aa K1 j) b:=by
  intro j hj b ho
  rw [hκ3] at ho
  by_cases hk:j∈keys K1
  ·rw [if_pos hk] at ho
   cases hl:aa K1 j with
   | cells l=>rw [hl] at ho; simp only [ra,bL] at ho ⊢; rw [Qeβ j hj] at ho; exact ho
   | tree v e d=>rw [hl] at ho; simp only [ra,bL] at ho ⊢; rw [(HT j hj (rb j hj v e d hl)).1] at ho; exact ho
   | eI rc st l=>rw [hl] at ho; simp only [ra,bL] at ho ⊢; rw [Qeβ j hj] at ho; exact ho
   | _=>rw [hl] at ho; exact ho.elim
  ·rw [if_neg hk,dj j hj hk] at ho; exact ho.elim
 have Z6:Gh.Le G1 (cP σ nx ex κ G1 G2):=by
  refine ⟨by have:=hC.le; rw [YM] at this; exact this,fun i b hb=>?_,fun i v e p x hx=>?_⟩
  ·cases nc:jd σ nx ex i with
   | none=>simp only [cP,nc]; exact hb
   | some j =>
    obtain ⟨hj,rfl⟩:=ia nc
    rw [Qeβ j hj]
    rcases Nat.lt_or_ge j σ.length with aK | dy
    ·rw [hC.jg j aK,hβ0 j aK]; exact hb
    ·have dQ:=Kz.box (sg σ nx j)
     rw [iI dy,jh _ (by omega) (by omega)] at dQ
     rw [iI dy,dQ.1] at hb; cases hb
  ·cases nc:jd σ nx ex i with
   | none=>simp only [cP,nc]; exact hx
   | some j =>
    obtain ⟨hj,rfl⟩:=ia nc
    rw [I4 j hj]
    rcases Nat.lt_or_ge j σ.length with aK | dy
    ·simp only [tQ,if_pos aK]
     cases hk:κ (sg σ nx j) with
     | tree V E d =>
      obtain ⟨u1,u2⟩:=YL _ (yl j aK) V E d hk
      obtain ⟨q1,q2⟩:=Z3 j aK V E d hk
      exact RB u1 u2 (fun x h=>hC.pH j aK [] x (q1 x h)) (fun s q x h=>hC.pH j aK (s::q) x (q2 s q x h)) hx
     | none=>rw [yO _ (yl j aK) hk] at hx; cases hx
     | _=>exact hx
    ·have dQ:=Kz.box (sg σ nx j)
     rw [iI dy,jh _ (by omega) (by omega)] at dQ
     rw [iI dy,dQ.2] at hx; cases hx
 refine ⟨⟨Z6,fun i hi=>?_,fun i hi=>?_,fun i hi=>?_,fun b hb Lo=>?_,hC.fit.sub,?_,?_,?_,hC.size,hC.os,hC.tape,hC.output⟩,fun i hi=>?_,?_⟩
 ·have:jd σ nx ex i=none:=by cases h:jd σ nx ex i with | none=>rfl | some j=>exact absurd ⟨j,h⟩ hi
  simp only [cP,this]
 ·refine mM _ K1 i fun j hj e=>hi ⟨j,?_⟩
  rw [←e]; exact Tq j (di Fl j hj)
 ·have:jd σ nx ex i=none:=by cases h:jd σ nx ex i with | none=>rfl | some j=>exact absurd ⟨j,h⟩ hi
  simp only [cP,this]
  exact ⟨fun _ h=>h,fun _ _ _ _ h=>h⟩
 ·have:=hC.frame b hb fun j ho=>by
   obtain ⟨hj,iC⟩:=tR j b ho
   exact Lo _ ⟨j,Tq j (by omega)⟩ iC
  rw [YM] at this
  exact this
 ·rintro i ⟨j,nc⟩
  obtain ⟨hj,rfl⟩:=ia nc
  have cy:=hC.fit.box j
  rw [hκ3]
  by_cases hk:j∈keys K1
  ·rw [if_pos hk]
   have T2:(j,aa K1 j)∈K1 ∨ aa K1 j=.none:=(fX (K:=K1) (i:=j)).symm
   cases hl:aa K1 j with
   | none=>trivial
   | dead=>trivial
   | held=>trivial
   | jw _ _ _ _ _=>trivial
   | cells l =>
    rw [hl] at cy
    obtain ⟨b,c,t,h1,h2,h3,h4,h5⟩:=cy
    have RD:AV.yk (Fp σ.length (aa K0)) l=true:=by
     rcases T2 with h | h
     ·have:=AP Lm j _ h; rw [hl] at this; exact this
     ·rw [hl] at h; cases h
    refine ⟨b,c,t,by rw [Qeβ j hj]; exact h1,h2,by rw [h3,nL],fun u hu=>?_,fun q d y hd hy=>?_⟩
    ·obtain ⟨q,hq⟩:=List.getElem?_of_mem hu
     rw [wv] at hq
     cases W0:l[q]? with
     | none=>rw [W0] at hq; simp at hq
     | some u0=>rw [W0] at hq; simp at hq; subst hq; rw [Fo]; exact h4 u0 (List.mem_of_getElem? W0)
    ·have:=(Ln (SizeOf.sizeOf l+1)).2 l c.toList (by omega) RD ⟨by simp [h3],fun q d y hd hy=>h5 q d y hd (by simpa using hy)⟩
     exact this.2 q d y hd (by simpa using hy)
   | tree v e d =>
    rw [hl] at cy
    obtain ⟨q1,q2,q3⟩:=HT j hj (rb j hj v e d hl)
    refine ⟨?_,?_,q2 v e cy.2.2.1,q3 v e cy.2.2.2⟩
    ·rw [q1]; exact cy.1
    ·rw [q1]; exact cy.2.1
   | fz v d =>
    rw [hl] at cy
    obtain ⟨u,h1,h2,h3⟩:=cy
    refine ⟨u,?_,h2,h3⟩
    have RE:(j<σ.length→(∃V E d,κ (sg σ nx j)=.tree V E d) ∨ κ (sg σ nx j)=.none)→(cP σ nx ex κ G1 G2).H (sg σ nx j) (mX (jP κ σ j) v 0).1 0 []=some u:=fun hh=>by
     have:=congrFun ((HT j hj hh).1 v 0) []
     simp only [aB] at this
     rw [this]; exact h1
    rcases Nat.lt_or_ge j σ.length with aK | dy
    ·rcases iJ eo j aK with ⟨_,_,_,h⟩ | ⟨_,_,_,_,_,_,_,h⟩ | ⟨_,_,_,h0,_⟩ | ⟨_,_,_,h0,h⟩
     ·rw [hl] at h; cases h
     ·rw [hl] at h; cases h
     ·exact RE fun _=>(HC j aK).1 _ _ _ h0
     ·rw [hl] at h; injection h with e1 e2
      subst e1
      rcases (HC j aK).2 _ _ h0 with hT | ⟨V,d',hF⟩
      ·exact RE fun _=>.inl hT
      ·obtain ⟨x,p1,p2⟩:=iF j aK V d' hF
       have p3:=hC.pH j aK [] x p2
       rw [h1] at p3; injection p3 with p3; subst p3
       rw [I4 j hj]
       simp only [tQ,if_pos aK,hF]
       rw [WZ j aK,hF]
       exact p1
    ·exact RE fun h=>absurd h (by omega)
   | eI rc st l =>
    rw [hl] at cy
    obtain ⟨b,fn,tmps,D,h1,h2,h3⟩:=cy
    have RD:AV.yk (Fp σ.length (aa K0)) l=true:=by
     rcases T2 with h | h
     ·have:=AP Lm j _ h; rw [hl] at this; exact this
     ·rw [hl] at h; cases h
    exact ⟨b,fn,tmps,D,by rw [Qeβ j hj]; exact h1,h2,(Ln (SizeOf.sizeOf l+1)).2 l tmps.toList (by omega) RD h3⟩
  ·rw [if_neg hk,dj j hj hk]
   rw [ga hk] at cy
   refine ⟨by rw [Qeβ j hj]; exact cy.1,fun v e p=>?_⟩
   rw [I4 j hj]
   rcases Nat.lt_or_ge j σ.length with aK | dy
   ·exact absurd (AJ j aK) hk
   ·simp only [tQ,if_neg (Nat.not_lt.2 dy)]; exact cy.2 v e p
 ·rintro i b ⟨j,nc⟩ ho
  obtain ⟨hj,rfl⟩:=ia nc
  have ED:=iB j hj b ho
  refine ⟨?_,hC.fit.own j b ED⟩
  rcases hC.mY j b ED with h | ⟨q,hq⟩
  ·exact .inl h
  ·obtain ⟨h1,h2⟩:=tR q b hq
   exact .inr ⟨_,⟨q,Tq q (by omega)⟩,h2⟩
 ·rintro i i' b ⟨j,nc⟩ ⟨j',W3⟩ ho iC
  obtain ⟨hj,rfl⟩:=ia nc
  obtain ⟨na,rfl⟩:=ia W3
  rw [hC.fit.inj j j' b (iB j hj b ho) (iB j' na b iC)]
 ·cases nc:jd σ nx ex i with
  | none=>simp only [cP,nc]
  | some j =>
   obtain ⟨hj,rfl⟩:=ia nc
   rw [Qeβ j hj]
   rcases Nat.lt_or_ge j σ.length with aK | dy
   ·rw [hC.jg j aK,hβ0 j aK]
   ·rw [iI dy] at hi; omega
 ·refine (Ln (SizeOf.sizeOf (hU rs)+1)).1 (hU rs) v (by omega) ?_ hC.res
  match rs,VU with
  | [],_=>rfl
  | [d],h=>simp only [AV.yk,Bool.and_eq_true] at h; exact h.1
  | _::_::_,h=>exact h
end Go.TM
