import Derived.Test.YtpbdohkbiklflaaGreatDoorNM14
import Derived.RangeFuncRecord
set_option linter.unusedVariables false
set_option linter.unusedSimpArgs false
set_option linter.unusedSectionVars false
namespace Go.TM
open Go.RowKit
variable [Glob]
def entryE:Nat→List DV→Env
 | _,[]=>[]
 | i,d::r=>(i,ofD d)::entryE (i+1) r
def resD (T:List TI) (ρ:Nat→AV) (κ:Nat→Box):ResultVar→(DV→Prop)→Prop
 | .tmp t,k=>match toArg κ (ρ t) with
  | some (d,_)=>k d
  | none=>False
 | .cell t ty,k=>bif (nth T ty).ok then match res κ (ρ t) with
  | .ptr i off=>match κ i with
   | .cells l=>pickCells (nth T ty).agg l off (nth T ty).size fun v=>match toArg κ v with
    | some (d,_)=>k d
    | none=>False
   | _=>False
  | _=>False
  else False
def resOk (T:List TI) (ρ:Nat→AV) (κ:Nat→Box):List ResultVar→List DV→Prop
 | [],[]=>True
 | v::r,d::ds=>resD T ρ κ v (fun d'=>d'.Le d)∧resOk T ρ κ r ds
 | _,_=>False
def entryA:Nat→List AV→Env
 | _,[]=>[]
 | i,v::r=>(i,v)::entryA (i+1) r
def resA (T:List TI) (ρ:Nat→AV) (κ:Nat→Box):List ResultVar→(List AV→Prop)→Prop
 | [],k=>k []
 | .tmp t::r,k=>force (res κ (ρ t)) fun v=>resA T ρ κ r fun l=>k (v::l)
 | .cell t ty::r,k=>bif (nth T ty).ok then match res κ (ρ t) with
  | .ptr i off=>match κ i with
   | .cells l=>pickCells (nth T ty).agg l off (nth T ty).size fun v=>resA T ρ κ r fun l=>k (v::l)
   | _=>False
  | _=>False
  else False
def outChk (m ex:Nat) (κ:Nat→Box) (avs rs:List AV) (K':Boxes):Bool :=
 wfB (m+ex) (lookB K') K' && AV.scs (lookB K') rs && frOk (lookB K') (fidws κ rs avs++fidsB κ K') && fullB κ (lookB K') m
def outOk (T:List TI) (fn:Func) (m ex:Nat) (R:List AV→Boxes→Prop) (env:Env) (K:Boxes):Prop :=
 resA T (look env) (lookB K) fn.results.toList fun avs=>∃rs K',R rs K'∧outChk m ex (lookB K) avs rs K'=true∧subWs m (lookB K) (lookB K') rs avs∧subB m (lookB K) (lookB K') K'
def fpostC (T:List TI) (fn:Func) (m ex:Nat) (R:List AV→Boxes→Prop) (e:AX) (_nx:Nat) (env:Env) (K:Boxes):Prop :=
 match e with
 | .normal=>outOk T fn m ex R env K
 | .ret=>outOk T fn m ex R env K
 | .exit _=>False
def fpost (T:List TI) (fn:Func) (rs:List DV) (e:AX) (_nx:Nat) (env:Env) (K:Boxes):Prop :=
 match e with
 | .normal=>resOk T (look env) (lookB K) fn.results.toList rs
 | .ret=>resOk T (look env) (lookB K) fn.results.toList rs
 | .exit _=>False
section
variable {P:Program} {C:Org→Prop} {T:List TI} {n:Nat} {g:Org}
theorem putObj_size (w:World) (b:Nat) (o:Obj):(w.putObj b o).heap.size=w.heap.size:=by simp [World.putObj]
theorem putObj_other (w:World) {b k:Nat} (o:Obj) (h:k ≠ b):(w.putObj b o).heap[k]?=w.heap[k]?:=by
 simp only [World.putObj]
 rw [Array.getElem?_setIfInBounds_ne (fun e=>h e.symm)]
theorem StM.shut {ρ:Nat→AV} {κ:Nat→Box} {a:Act} {w:World} {G:Gh} (h:StM g n ρ κ a w G) {D:List Nat} {r:Nat} (hD:a.defers=(r::D).map mark) :
  w.heap[r]?=some (.deferred (some []))∧StM g n ρ κ { a with defers:=D.map mark } (w.putObj r (.deferred none)) G:=by
 obtain ⟨D',h1,h2,h3⟩:=h.dfr
 have hDD:D'=r::D:=by
  rw [h1] at hD
  have inj:∀x y:Nat,mark x=mark y→x=y:=fun x y e=>by simp only [mark,Deferred.mk.injEq,Target.collected.injEq] at e; exact e.1
  have:∀(l l':List Nat),l.map mark=l'.map mark→l=l':=by
   intro l
   induction l with
   | nil=>intro l' e; cases l' with
    | nil=>rfl
    | cons=>simp at e
   | cons x l ih=>intro l' e; cases l' with
    | nil=>simp at e
    | cons y l'=>simp only [List.map_cons,List.cons.injEq] at e; rw [inj x y e.1,ih l' e.2]
  exact this _ _ hD
 subst hDD
 obtain ⟨a1,a2,a3,a4⟩:=h3 r (by simp)
 have hne:∀i b,Own G i (κ i) b→b ≠ r:=fun i b ho e=>a2 i (e ▸ ho)
 have hin:G.M.In (w.putObj r (.deferred none)):=fun b o hb=>by
  rw [putObj_other _ _ (fun e=>by rw [e,a3] at hb; cases hb)]; exact h.fit.sub b o hb
 refine ⟨a1,{ h with fit:=⟨hin,fun i=>(h.fit.box i).keep (.refl G) rfl (fun _=>⟨fun _ h=>h,fun _ _ _ _ h=>h⟩) (fun b hb=>putObj_other _ _ (hne i b hb)) hin (h.fit.own i) (by rw [putObj_size]; exact Nat.le_refl _),h.fit.own,h.fit.inj⟩,bel:=fun b hb hO=>by rw [putObj_other _ _ (by omega)]; exact h.bel b hb hO,os:=h.os,tape:=h.tape,output:=h.output,grow:=by rw [putObj_size]; exact h.grow,dfr:=?_ }⟩
 refine ⟨D,rfl,(List.nodup_cons.1 h2).2,fun q hq=>?_⟩
 obtain ⟨b1,b2,b3,b4⟩:=h3 q (by simp [hq])
 have hqr:q ≠ r:=fun e=>(List.nodup_cons.1 h2).1 (by rw [←e]; exact hq)
 exact ⟨by rw [putObj_other _ _ hqr]; exact b1,b2,b3,b4⟩
theorem StM.leave {ρ:Nat→AV} {κ:Nat→Box} {G:Gh} {F:Fence} {fn:Func} {R:Ending→World→Prop} (tmps:Array Value) (hfin:∀w',StM g n ρ κ { tmps:=tmps,defers:=[] } w' G→∃v,(results fn tmps).run P w'=.ok v w'∧R (.returned v) w') :
  ∀(D:List Nat) (w:World),StM g n ρ κ { tmps:=tmps,defers:=D.map mark } w G→LeavesInM F 0 P fn tmps R (D.map mark) .returning w
 | [],w,h=>hfin w h
 | r::D,w,h=>by
  obtain ⟨h1,h2⟩:=h.shut (D:=D) (r:=r) rfl
  exact ⟨by simp,.inl ⟨r,_,rfl,run_takeDeferred h1,StM.leave tmps hfin D _ h2⟩⟩
theorem entry_look:∀(ds:List DV) (s t:Nat),look (entryE s ds) t=if s≤t then (match ds[t - s]? with | some d=>ofD d | none=>.any) else .any
 | [],s,t=>by simp [entryE,look]
 | d::r,s,t=>by
  simp only [entryE,look]
  rw [entry_look r (s+1) t]
  by_cases h1:s=t
  ·subst h1; simp
  ·have hb:Nat.beq s t=false:=by cases hb:Nat.beq s t with | false=>rfl | true=>exact absurd (Nat.eq_of_beq_eq_true hb) h1
   rw [hb]
   by_cases h2:s≤t
   ·have e:t - s=t - (s+1)+1:=by omega
    rw [if_pos h2,if_pos (by omega),e]; simp
   ·rw [if_neg h2,if_neg (by omega)]; simp
theorem load_result (hT:TOk P T) {ρ:Nat→AV} {κ:Nat→Box} {a:Act} {w:World} {G:Gh} (hst:StM g n ρ κ a w G) {rv:ResultVar} {q:DV→Prop} (h:resD T ρ κ rv q) :
  ∃(d:DV) (ids:List Nat),q d∧∃v,(match rv with | .tmp t=>pure (a.tmps.getD t undef) | .cell t ty=>do loadVar ty (←asAddr (a.tmps.getD t undef)):Sem Value).run P w=.ok v w ∧
   ∀(all:List Nat) (G':Gh),(∀i,i∈ids→i∈all)→Gh.Le G G'→Fit G' w (updl κ (frz κ all))→DRel G'.M d v:=by
 cases rv with
 | tmp t =>
  simp only [resD] at h
  split at h
  ·rename_i d ids hd
   refine ⟨d,ids,h,_,rfl,fun all G' hs hle hfz=>toArg_sound (κ:=κ) (κ':=κ) (fun _ _=>rfl) hle hfz hd hs (hst.env t)⟩
  ·exact h.elim
 | cell t ty =>
  simp only [resD] at h
  have hh:=bif_true h; clear h; obtain ⟨hok,h⟩:=hh
  split at h
  ·rename_i i off hr
   split at h
   ·rename_i l hk
    obtain ⟨av,h,hp⟩:=pickCells_sound h
    split at h
    ·rename_i d ids hd
     have hv:=res_ok hst.fit (hst.env t)
     rw [hr] at hv
     have hbox:=hst.fit.box i
     rw [hk] at hbox
     obtain ⟨b,c,tt,hb0,hw,hsz,hcl,hrr⟩:=hbox
     generalize hx:a.tmps.getD t undef=x at hv
     cases hv with | ptr _ _ b' hb' =>
     rw [hb0] at hb'; injection hb' with hb'; subst hb'
     have hA:(⟨b,off,none⟩:Addr)=(⟨b,0,none⟩:Addr).add off:=by rw [add_at]; simp
     obtain ⟨v,h1,h2⟩:=load_known (P:=P) (av:=av) (w:=w) (G:=G) (l:=l) (off:=off) hT hok ⟨b,0,none⟩ (fun j=>c.getD j undef) (fun j hj=>by
       rw [add_at]
       simp [World.cell?,hw,hsz,hj]) (fun j d hd=>by
       have hj:j<l.length:=(List.getElem?_eq_some_iff.1 hd).1
       exact hrr j d _ hd (by simp [hsz,hj])) hp
     rw [←hA] at h1
     refine ⟨d,ids,h,v,?_,fun all G' hs hle hfz=>toArg_sound (κ:=κ) (κ':=κ) (fun _ _=>rfl) hle hfz hd hs h2⟩
     simp only [Instr.loadAt,Instr.sureAddr,Sem.run_bind,Sem.run_pure,Result.andThen_ok] at h1
     simp only [hx,asAddr,Sem.run_bind,Sem.run_pure,Result.andThen_ok]
     exact h1
    ·exact h.elim
   ·exact h.elim
  ·exact h.elim
theorem results_ok (hT:TOk P T) {ρ:Nat→AV} {κ:Nat→Box} {a:Act} {w:World} {G:Gh} (hst:StM g n ρ κ a w G):∀{rvs:List ResultVar} {rs:List DV},resOk T ρ κ rvs rs →
  ∃(ids:List Nat) (us:List Value),((rvs.mapM fun | .tmp t=>pure (a.tmps.getD t undef) | .cell t ty=>do loadVar ty (←asAddr (a.tmps.getD t undef))):Sem (List Value)).run P w=.ok us w ∧
   ∀(all:List Nat) (G':Gh),(∀i,i∈ids→i∈all)→Gh.Le G G'→Fit G' w (updl κ (frz κ all))→DRels G'.M rs us
 | [],[],_=>⟨[],[],rfl,fun _ G' _ _ _=>.nil G'.M⟩
 | [],_::_,h=>h.elim
 | _::_,[],h=>h.elim
 | rv::rvs,r::rs,⟨h1,h2⟩=>by
  obtain ⟨d,ids,hle,v,hrun,hd⟩:=load_result hT hst h1
  obtain ⟨ids',us,hrun',hds⟩:=results_ok hT hst h2
  refine ⟨ids++ids',v::us,?_,fun all G' hs hm hfz=>.cons (hle G'.M v (hd all G' (fun i hi=>hs i (by simp [hi])) hm hfz)) (hds all G' (fun i hi=>hs i (by simp [hi])) hm hfz)⟩
  rw [List.mapM_cons]
  simp only [Sem.run_bind]
  rw [hrun]
  simp only [Result.andThen_ok,Sem.run_bind,hrun',Sem.run_pure]
theorem entryA_look:∀(ds:List AV) (s t:Nat),look (entryA s ds) t=if s≤t then (match ds[t - s]? with | some d=>d | none=>.any) else .any
 | [],s,t=>by simp [entryA,look]
 | d::r,s,t=>by
  simp only [entryA,look]
  rw [entryA_look r (s+1) t]
  by_cases h1:s=t
  ·subst h1; simp
  ·have hb:Nat.beq s t=false:=by cases hb:Nat.beq s t with | false=>rfl | true=>exact absurd (Nat.eq_of_beq_eq_true hb) h1
   rw [hb]
   by_cases h2:s≤t
   ·have e:t - s=t - (s+1)+1:=by omega
    rw [if_pos h2,if_pos (by omega),e]; simp
   ·rw [if_neg h2,if_neg (by omega)]; simp
theorem resA_ok (hT:TOk P T) {ρ:Nat→AV} {κ:Nat→Box} {a:Act} {w:World} {G:Gh} (hst:StM g n ρ κ a w G):∀{rvs:List ResultVar} {q:List AV→Prop},resA T ρ κ rvs q →
  ∃(avs:List AV) (us:List Value),q avs∧((rvs.mapM fun | .tmp t=>pure (a.tmps.getD t undef) | .cell t ty=>do loadVar ty (←asAddr (a.tmps.getD t undef))):Sem (List Value)).run P w=.ok us w∧CRel G avs us
 | [],q,h=>⟨[],[],h,rfl,rfl,by simp⟩
 | .tmp t::rvs,q,h=>by
  simp only [resA,force_eq] at h
  obtain ⟨avs,us,hq,hrun,hc⟩:=resA_ok hT hst h
  have hv:=res_ok hst.fit (hst.env t)
  refine ⟨_,a.tmps.getD t undef::us,hq,?_,by simpa using hc.1,fun j d u hd hu=>?_⟩
  ·rw [List.mapM_cons]
   simp only [Sem.run_bind,Sem.run_pure,Result.andThen_ok,hrun]
  ·cases j with
   | zero =>
    rw [List.getElem?_cons_zero] at hd hu
    injection hd with hd; injection hu with hu; subst hd; subst hu; exact hv
   | succ j=>exact hc.2 j d u (by simpa using hd) (by simpa using hu)
 | .cell t ty::rvs,q,h=>by
  simp only [resA] at h
  have hh:=bif_true h; clear h; obtain ⟨hok,h⟩:=hh
  split at h
  ·rename_i i off hr
   split at h
   ·rename_i l hk
    obtain ⟨av,h,hp⟩:=pickCells_sound h
    obtain ⟨avs,us,hq,hrun,hc⟩:=resA_ok hT hst h
    have hv:=res_ok hst.fit (hst.env t)
    rw [hr] at hv
    have hbox:=hst.fit.box i
    rw [hk] at hbox
    obtain ⟨b,c,tt,hb0,hw,hsz,hcl,hrr⟩:=hbox
    generalize hx:a.tmps.getD t undef=x at hv
    cases hv with | ptr _ _ b' hb' =>
    rw [hb0] at hb'; injection hb' with hb'; subst hb'
    have hA:(⟨b,off,none⟩:Addr)=(⟨b,0,none⟩:Addr).add off:=by rw [add_at]; simp
    obtain ⟨v,h1,h2⟩:=load_known (P:=P) (av:=av) (w:=w) (G:=G) (l:=l) (off:=off) hT hok ⟨b,0,none⟩ (fun j=>c.getD j undef) (fun j hj=>by
      rw [add_at]
      simp [World.cell?,hw,hsz,hj]) (fun j d hd=>by
      have hj:j<l.length:=(List.getElem?_eq_some_iff.1 hd).1
      exact hrr j d _ hd (by simp [hsz,hj])) hp
    rw [←hA] at h1
    refine ⟨_,v::us,hq,?_,by simpa using hc.1,fun j d u hd hu=>?_⟩
    ·simp only [Instr.loadAt,Instr.sureAddr,Sem.run_bind,Sem.run_pure,Result.andThen_ok] at h1
     rw [List.mapM_cons]
     have h1':((do loadVar ty (←asAddr (a.tmps.getD t undef))):Sem Value).run P w=.ok v w:=by
      simp only [hx,asAddr,Sem.run_bind,Sem.run_pure,Result.andThen_ok]; exact h1
     rw [Sem.run_bind]
     simp only
     rw [h1']
     simp only [Result.andThen_ok,Sem.run_bind,hrun,Sem.run_pure]
    ·cases j with
     | zero=>simp at hd hu; subst hd; subst hu; exact h2
     | succ j=>exact hc.2 j d u (by simpa using hd) (by simpa using hu)
   ·exact h.elim
  ·exact h.elim
theorem run_results {fn:Func} {tmps:Array Value} {w:World} {us:List Value} (hrun:((fn.results.toList.mapM fun | .tmp t=>pure (tmps.getD t undef) | .cell t ty=>do loadVar ty (←asAddr (tmps.getD t undef))):Sem (List Value)).run P w=.ok us w) :
  (results fn tmps).run P w=.ok (if h:us.toArray.size=1 then us.toArray[0] else .tuple us.toArray) w:=by
 have hmap:((fn.results.mapM fun | .tmp t=>pure (tmps.getD t undef) | .cell t ty=>do loadVar ty (←asAddr (tmps.getD t undef))):Sem (Array Value)).run P w=.ok us.toArray w:=by
  rw [Array.mapM_eq_mapM_toList,Sem.run_map,hrun]
  rfl
 unfold results
 rw [Sem.run_bind]
 exact congrArg (fun r=>Result.andThen r (fun (vs:Array Value) w=>(pure (if h:vs.size=1 then vs[0] else .tuple vs):Sem Value).run P w)) hmap
theorem pspec_of (hT:TOk P T) (hm:P.follows .mixedOrders=true) (hC:CallsSnd P (fun _=>True)) (hRF:RangeSnd P) {f:Nat} {fn:Func} {c:Code} {args rs:List DV} (hf:P.funcs[f]?=some fn) (hb:fn.body=some c) (hname:(fn.name == "runtime.NumGoroutine")=false)
  (hargs:Nat.ble args.length fn.ntmps=true) (h:acode P T .fn fn.ntmps 0 c (fpost T fn rs) 0 (entryE 0 args) []):PSpec P f args rs:=by
 refine ⟨⟨fn,hf,hname,by rw [hb]; rfl⟩,fun w M vs hin hgl hr=>?_⟩
 refine (wide_wide.calls (n:=0)).1 (callsIn_of_wp_marks hf hb trivial ?_)
 have hlen:vs.length≤fn.ntmps:=by rw [←hr.1]; exact Nat.le_of_ble_eq_true hargs
 let g:Org:=⟨fun _=>False,w,M,0,fun _=>none,fun _ _=>none⟩
 let G0:Gh:=⟨M,fun _=>none,fun _ _ _ _=>none,fun _ _=>False⟩
 have hst:StM g fn.ntmps (look (entryE 0 args)) (lookB []) { tmps:=vs.toArray++Array.replicate (fn.ntmps - vs.toArray.size) undef,defers:=[] } w G0:=by
  refine { fit:=⟨hin,fun i=>⟨rfl,fun _ _ _=>rfl⟩,fun i b ho=>ho.elim,fun i j b ho=>ho.elim⟩,env:=fun t=>?_,size:=by simp; omega,bel:=fun _ _ _=>rfl,os:=rfl,tape:=rfl,output:=rfl,grow:=Nat.le_refl _,mem:=.refl M,mlow:=fun _ _ _=>rfl,ownhi:=fun i b ho=>ho.elim,bet:=fun i hi=>absurd hi (Nat.not_lt_zero _),hed:=fun i hi=>absurd hi (Nat.not_lt_zero _),glob:=hgl,dfr:=⟨[],rfl,List.nodup_nil,by simp⟩ }
  rw [entry_look]
  simp only [Nat.zero_le,if_true,Nat.sub_zero]
  split
  ·rename_i d hd
   have ht:t<vs.length:=by rw [←hr.1]; exact (List.getElem?_eq_some_iff.1 hd).1
   have hv:vs[t]?=some (vs[t]'ht):=List.getElem?_eq_getElem ht
   have:(vs.toArray++Array.replicate (fn.ntmps - vs.toArray.size) undef).getD t undef=vs[t]'ht:=by
    rw [Array.getD_eq_getD_getElem?,Array.getElem?_append_left (by simpa using ht)]
    simp [hv]
   rw [this]
   exact ofD_rel (hr.2 t d _ hd hv)
  ·exact .any _
 refine acode_sound (g:=g) hT hm hC hRF trivial wide_wide (fun _=>rfl) (Nat.le_refl _) c h ⟨⟨G0,hst⟩,Nat.le_refl _,fun _ _=>rfl⟩ fun e nx env K a w' hq hs=>?_
 obtain ⟨⟨G1,hst'⟩,_⟩:=hs
 have fin:resOk T (look env) (lookB K) fn.results.toList rs→LeavesInM Fence.wide 0 P fn a.tmps (fun e w'=>∃v M',e=.returned v∧Below w.heap.size w w'∧Mem.Le M M'∧M'.In w'∧(∀b,b<w.heap.size→M' b=M b)∧ResRel M' rs v) a.defers .returning w':=by
  intro hres
  obtain ⟨D,hD,_⟩:=hst'.dfr
  rw [hD]
  refine StM.leave (g:=g) (n:=fn.ntmps) (ρ:=look env) (κ:=lookB K) (G:=G1) a.tmps (fun w2 hst2=>?_) D w' (by have:=hst'; rw [←hD]; exact this)
  obtain ⟨ids,us,hrun,hds⟩:=results_ok hT hst2 hres
  obtain ⟨G2,hle,_,_,_,hfz⟩:=hst2.freezes (κ:=lookB K) ids (fun _ _=>rfl)
  have hdr:=hds ids G2 (fun i hi=>hi) hle hfz.fit
  have hbelow:Below w.heap.size w w2:=⟨hfz.os,hfz.tape,hfz.output,hfz.grow,fun b hb=>hfz.bel b hb (fun h=>h)⟩
  refine ⟨_,run_results hrun,_,G2.M,rfl,hbelow,hfz.mem,hfz.fit.sub,fun b hb=>hfz.mlow b hb (fun h=>h),?_⟩
  have hul:us.length=rs.length:=hdr.1.symm
  have many:us.length ≠ 1→∃us':List Value,(if h:us.toArray.size=1 then us.toArray[0] else Value.tuple us.toArray)=.tuple us'.toArray∧DRels G2.M rs us':=by
   intro hne
   refine ⟨us,?_,hdr⟩
   rw [dif_neg (by simpa using hne)]
  match rs,hdr,hul,many with
  | [],hdr,hul,many=>exact many (by simp at hul; simp [hul])
  | [d],hdr,hul,_ =>
   match us,hul,hdr with
   | [u],_,hdr=>exact hdr.2 0 d u rfl rfl
  | _::_::_,hdr,hul,many=>exact many (by simp at hul; omega)
 cases e with
 | normal=>exact fin hq
 | ret=>exact fin hq
 | exit i=>exact hq.elim
theorem cspecX_of {rm:RM} (hrm:rm.isFn=true) (hT:TOk P T) (hm:P.follows .mixedOrders=true) (hC:CallsSnd P (fun _=>True)) (hRF:RangeSnd P) {f:Nat} {fn:Func} {c:Code} {args:List AV} {m ex:Nat} {K:Boxes} {R:List AV→Boxes→Prop} (hf:P.funcs[f]?=some fn) (hb:fn.body=some c) (hname:(fn.name == "runtime.NumGoroutine")=false)
  (hargs:(Nat.ble args.length fn.ntmps && AState.wf ⟨m,entryA 0 args,K⟩)=true) (h:acode P T rm fn.ntmps m c (fpostC T fn m ex R) m (entryA 0 args) K):CSpecR P f args m K ex R:=by
 refine ⟨⟨fn,hf,hname,by rw [hb]; rfl⟩,fun w G vs hgl hfit hr=>?_⟩
 refine (wide_wide.calls (n:=0)).1 (callsIn_of_wp_marks hf hb trivial ?_)
 simp only [Bool.and_eq_true,AState.wf] at hargs
 obtain ⟨hlen,hwB,hwE⟩:=hargs
 have hlen:vs.length≤fn.ntmps:=by rw [←hr.1]; exact Nat.le_of_ble_eq_true hlen
 let g:Org:=⟨fun b=>∃i,Own G i (lookB K i) b,w,G.M,m,G.β,fun i p=>G.H i 0 0 p⟩
 have hst:StM g fn.ntmps (look (entryA 0 args)) (lookB K) { tmps:=vs.toArray++Array.replicate (fn.ntmps - vs.toArray.size) undef,defers:=[] } w G:=by
  refine { fit:=hfit,env:=fun t=>?_,size:=by simp; omega,bel:=fun _ _ _=>rfl,os:=rfl,tape:=rfl,output:=rfl,grow:=Nat.le_refl _,mem:=.refl G.M,mlow:=fun _ _ _=>rfl,ownhi:=fun i b ho=>.inr ⟨i,ho⟩,bet:=fun _ _=>rfl,hed:=fun _ _ _ _ hx=>hx,glob:=hgl,dfr:=⟨[],rfl,List.nodup_nil,by simp⟩ }
  rw [entryA_look]
  simp only [Nat.zero_le,if_true,Nat.sub_zero]
  split
  ·rename_i d hd
   have ht:t<vs.length:=by rw [←hr.1]; exact (List.getElem?_eq_some_iff.1 hd).1
   have hv:vs[t]?=some (vs[t]'ht):=List.getElem?_eq_getElem ht
   have:(vs.toArray++Array.replicate (fn.ntmps - vs.toArray.size) undef).getD t undef=vs[t]'ht:=by
    rw [Array.getD_eq_getD_getElem?,Array.getElem?_append_left (by simpa using ht)]
    simp [hv]
   rw [this]
   exact hr.2 t d _ hd hv
  ·exact .any _
 refine acode_sound (g:=g) hT hm hC hRF trivial wide_wide (fun _=>rfl) (r:=rm) (Nat.le_refl _) c h ⟨⟨G,hst⟩,Nat.le_refl _,fun i hi=>wfB_none hwB hi⟩ fun e nx env K1 a w' hq hs=>?_
 obtain ⟨⟨G1,hst'⟩,_⟩:=hs
 have fin:outOk T fn m ex R env K1→LeavesInM Fence.wide 0 P fn a.tmps (fun e w'=>∃v rs K' G',e=.returned v∧R rs K'∧COut m ex (lookB K) w G rs (lookB K') w' G' v) a.defers .returning w':=by
  intro hres
  obtain ⟨D,hD,_⟩:=hst'.dfr
  rw [hD]
  refine StM.leave (g:=g) (n:=fn.ntmps) (ρ:=look env) (κ:=lookB K1) (G:=G1) a.tmps (fun w2 hst2=>?_) D w' (by have:=hst'; rw [←hD]; exact this)
  obtain ⟨avs,us,⟨rs,K2,hR,hchk,hsV,hsB⟩,hrun,hrel⟩:=resA_ok hT hst2 hres
  simp only [outChk,Bool.and_eq_true] at hchk
  obtain ⟨⟨⟨hwf2,hscr⟩,hfr⟩,hfull⟩:=hchk
  obtain ⟨G2,_,hvs,hst3⟩:=hst2.sub (m:=m) (Nat.le_refl _) (F:=fidws (lookB K1) rs avs++fidsB (lookB K1) K2) hwf2 (fun i hi=>List.mem_append.2 (.inr hi)) hfr hfull hsB
  have hdr:=hvs rs avs us hsV hscr (fun i hi=>List.mem_append.2 (.inl hi)) hrel
  have hst4:=hst3 (fun _=>.any) (fun _=>.any _)
  refine ⟨_,run_results hrun,_,rs,K2,G2,rfl,hR,⟨hst4.fit,fun i hi=>wfB_none hwf2 hi,?_,hst4.mem,hst4.bet,hst4.hed,fun b hb hO=>⟨hst4.bel b hb (fun ⟨i,h⟩=>hO i h),hst4.mlow b hb (fun ⟨i,h⟩=>hO i h)⟩,hst4.ownhi,hst4.os,hst4.tape,hst4.output,hst4.grow⟩⟩
  have hul:us.length=rs.length:=hdr.1.symm
  have many:us.length ≠ 1→VRel G2 (.tup rs) (if h:us.toArray.size=1 then us.toArray[0] else Value.tuple us.toArray):=by
   intro hne
   rw [dif_neg (by simpa using hne)]
   exact .tup rs us hdr.1 hdr.2
  match rs,hdr,hul,many with
  | [],hdr,hul,many=>exact many (by simp at hul; simp [hul])
  | [d],hdr,hul,_ =>
   match us,hul,hdr with
   | [u],_,hdr=>exact hdr.2 0 d u rfl rfl
  | _::_::_,hdr,hul,many=>exact many (by simp at hul; omega)
 cases e with
 | normal=>exact fin hq
 | ret=>exact fin hq
 | exit i=>exact hq.elim
theorem cspecR_of (hT:TOk P T) (hm:P.follows .mixedOrders=true) (hC:CallsSnd P (fun _=>True)) (hRF:RangeSnd P) {f:Nat} {fn:Func} {c:Code} {args:List AV} {m ex:Nat} {K:Boxes} {R:List AV→Boxes→Prop} (hf:P.funcs[f]?=some fn) (hb:fn.body=some c) (hname:(fn.name == "runtime.NumGoroutine")=false)
  (hargs:(Nat.ble args.length fn.ntmps && AState.wf ⟨m,entryA 0 args,K⟩)=true) (h:acode P T .fn fn.ntmps m c (fpostC T fn m ex R) m (entryA 0 args) K):CSpecR P f args m K ex R :=
 cspecX_of (rm:=.fn) rfl hT hm hC hRF hf hb hname hargs h
theorem cspecRX_of (hT:TOk P T) (hm:P.follows .mixedOrders=true) (hC:CallsSnd P (fun _=>True)) (hRF:RangeSnd P) {f:Nat} {fn:Func} {c:Code} {args:List AV} {m ex:Nat} {K:Boxes} {R:List AV→Boxes→Prop} (hf:P.funcs[f]?=some fn) (hb:fn.body=some c) (hname:(fn.name == "runtime.NumGoroutine")=false)
  (hargs:(Nat.ble args.length fn.ntmps && AState.wf ⟨m,entryA 0 args,K⟩)=true) (h:acode P T .rel fn.ntmps m c (fpostC T fn m ex R) m (entryA 0 args) K):CSpecR P f args m K ex R :=
 cspecX_of (rm:=.rel) rfl hT hm hC hRF hf hb hname hargs h
theorem cspec_of (hT:TOk P T) (hm:P.follows .mixedOrders=true) (hC:CallsSnd P (fun _=>True)) (hRF:RangeSnd P) {f:Nat} {fn:Func} {c:Code} {args:List AV} {m ex:Nat} {K:Boxes} {rs:List AV} {K':Boxes} (hf:P.funcs[f]?=some fn) (hb:fn.body=some c) (hname:(fn.name == "runtime.NumGoroutine")=false)
  (hargs:(Nat.ble args.length fn.ntmps && AState.wf ⟨m,entryA 0 args,K⟩)=true) (h:acode P T .fn fn.ntmps m c (fpostC T fn m ex fun r k=>r=rs∧k=K') m (entryA 0 args) K):CSpec P f args m K ex rs K' :=
 cspecR_of hT hm hC hRF hf hb hname hargs h
theorem cspecXX_of (hT:TOk P T) (hm:P.follows .mixedOrders=true) (hC:CallsSnd P (fun _=>True)) (hRF:RangeSnd P) {f:Nat} {fn:Func} {c:Code} {args:List AV} {m ex:Nat} {K:Boxes} {rs:List AV} {K':Boxes} (hf:P.funcs[f]?=some fn) (hb:fn.body=some c) (hname:(fn.name == "runtime.NumGoroutine")=false)
  (hargs:(Nat.ble args.length fn.ntmps && AState.wf ⟨m,entryA 0 args,K⟩)=true) (h:acode P T .rel fn.ntmps m c (fpostC T fn m ex fun r k=>r=rs∧k=K') m (entryA 0 args) K):CSpec P f args m K ex rs K' :=
 cspecRX_of hT hm hC hRF hf hb hname hargs h
end
end Go.TM
namespace Go.TM
open Go.RowKit
variable [Glob]
theorem shv_zero (v e:Nat):shv (0,0) v e=(v,e):=by cases v <;> simp [shv]
theorem lookB_updl:∀(K:Boxes),lookB K=updl (fun _=>.none) K
 | []=>rfl
 | (i,b)::K=>by
  funext t
  simp only [lookB,updl,upd,lookB_updl K]
  by_cases h:t=i
  ·subst h; simp
  ·rw [if_neg h]; simp [beq_false h]
theorem updl_renK {r:Nat→Nat} {sh:Nat→Nat × Nat} (hinj:∀i j,r i=r j→i=j) (f:Nat→Box):∀(K:Boxes) (j:Nat),updl f (renK r sh K) (r j)=if j∈keys K then renB r sh j (lookB K j) else f (r j)
 | [],j=>by simp [renK,updl,keys]
 | (i,b)::K,j=>by
  simp only [renK,updl]
  by_cases e:j=i
  ·subst e; simp [keys,lookB]
  ·have:r j ≠ r i:=fun h=>e (hinj _ _ h)
   rw [upd_other _ _ this,updl_renK hinj f K j]
   simp only [lookB,beq_false e,cond_false]
   by_cases hj:j∈keys K
   ·rw [if_pos hj,if_pos (by simp only [keys,List.map_cons,List.mem_cons]; exact .inr hj)]
   ·rw [if_neg hj,if_neg (by simp only [keys,List.map_cons,List.mem_cons,not_or]; exact ⟨e,hj⟩)]
theorem updl_renK_other {r:Nat→Nat} {sh:Nat→Nat × Nat} (f:Nat→Box):∀(K:Boxes) (i:Nat),(∀j,j∈keys K→r j ≠ i)→updl f (renK r sh K) i=f i
 | [],i,_=>rfl
 | (j,b)::K,i,h=>by
  simp only [renK,updl]
  rw [upd_other _ _ (fun e=>h j (by simp [keys]) e.symm)]
  exact updl_renK_other f K i fun q hq=>h q (by simp only [keys,List.map_cons,List.mem_cons]; exact .inr hq)
theorem keysLt_mem {m:Nat}:∀{K:Boxes},keysLt m K=true→∀j,j∈keys K→j<m
 | [],_,j,h=>by simp [keys] at h
 | (i,b)::K,hk,j,h=>by
  simp only [keysLt,Bool.and_eq_true,Nat.blt_eq] at hk
  simp only [keys,List.map_cons,List.mem_cons] at h
  rcases h with rfl | h
  ·exact hk.1
  ·exact keysLt_mem hk.2 j h
theorem lookB_nokey:∀{K:Boxes} {j:Nat},j ∉ keys K→lookB K j=.none
 | [],_,_=>rfl
 | (i,b)::K,j,h=>by
  simp only [keys,List.map_cons,List.mem_cons,not_or] at h
  simp only [lookB]
  rw [beq_false h.1]
  exact lookB_nokey h.2
theorem mem_renK {r:Nat→Nat} {sh:Nat→Nat × Nat}:∀{K:Boxes} {i:Nat} {b:Box},(i,b)∈renK r sh K→∃j,j∈keys K∧i=r j
 | [],i,b,h=>by simp [renK] at h
 | (j,c)::K,i,b,h=>by
  simp only [renK,List.mem_cons] at h
  rcases h with h | h
  ·injection h with e1 e2; exact ⟨j,by simp [keys],e1⟩
  ·obtain ⟨q,h1,h2⟩:=mem_renK h; exact ⟨q,by simp only [keys,List.map_cons,List.mem_cons]; exact .inr h1,h2⟩
theorem updl_append {γ:Type _} (f:Nat→γ):∀(l l':List (Nat × γ)),updl f (l++l')=updl (updl f l') l
 | [],_=>rfl
 | (i,x)::l,l'=>by simp only [List.cons_append,updl,updl_append f l l']
theorem sg_lt:∀{σ:List Nat} {nx j:Nat} (h:j<σ.length),sg σ nx j=σ[j]
 | [],_,j,h=>by simp at h
 | i::σ,nx,0,_=>rfl
 | i::σ,nx,j+1,h=>by simp only [sg,List.getElem_cons_succ]; exact sg_lt (by simpa using h)
theorem sg_ge:∀{σ:List Nat} {nx j:Nat},σ.length≤j→sg σ nx j=nx+(j - σ.length)
 | [],_,j,_=>by simp [sg]
 | i::σ,nx,0,h=>by simp at h
 | i::σ,nx,j+1,h=>by
  simp only [sg,List.length_cons]
  rw [sg_ge (by simpa using h)]
  simp
theorem sigOk_spec {κ:Nat→Box}:∀{σ:List Nat} {nx:Nat},sigOk κ σ nx=true→(∀i,i∈σ→i<nx)∧σ.Nodup
 | [],_,_=>⟨by simp,List.nodup_nil⟩
 | i::σ,nx,h=>by
  simp only [sigOk,Bool.and_eq_true,Nat.blt_eq,Bool.not_eq_true'] at h
  obtain ⟨h1,h2⟩:=sigOk_spec h.2
  exact ⟨fun j hj=>by rcases List.mem_cons.1 hj with rfl | hj; exact h.1.1; exact h1 j hj,List.nodup_cons.2 ⟨memN_false h.1.2,h2⟩⟩
theorem shs_at {κ:Nat→Box}:∀{σ:List Nat} {j:Nat} (h:j<σ.length),shs κ σ j=verOf (κ σ[j])
 | [],j,h=>by simp at h
 | i::σ,0,_=>rfl
 | i::σ,j+1,h=>by simp only [shs,List.getElem_cons_succ]; exact shs_at (by simpa using h)
theorem shs_out {κ:Nat→Box}:∀{σ:List Nat} {j:Nat},σ.length≤j→shs κ σ j=(0,0)
 | [],_,_=>rfl
 | i::σ,0,h=>by simp at h
 | i::σ,j+1,h=>by simp only [shs]; exact shs_out (by simpa using h)
def pos:List Nat→Nat→Option Nat
 | [],_=>none
 | x::l,i=>if x=i then some 0 else (pos l i).map (·+1)
def backN (σ:List Nat) (nx ex i:Nat):Option Nat:=match pos σ i with
 | some j=>some j
 | none=>if nx≤i∧i<nx+ex then some (σ.length+(i - nx)) else none
theorem pos_some:∀{σ:List Nat} {i j:Nat},pos σ i=some j→∃h:j<σ.length,σ[j]=i
 | [],i,j,h=>by simp [pos] at h
 | x::l,i,j,h=>by
  simp only [pos] at h
  split at h
  ·rename_i e; injection h with h; subst h; exact ⟨by simp,e⟩
  ·cases hp:pos l i with
   | none=>rw [hp] at h; simp at h
   | some q=>rw [hp] at h; simp at h; subst h; obtain ⟨h1,h2⟩:=pos_some hp; exact ⟨by simpa using h1,by simpa using h2⟩
theorem pos_at:∀{σ:List Nat} (hn:σ.Nodup) {j:Nat} (h:j<σ.length),pos σ σ[j]=some j
 | [],_,j,h=>by simp at h
 | x::l,hn,0,h=>by simp [pos]
 | x::l,hn,j+1,h=>by
  have hn':=List.nodup_cons.1 hn
  have hj:j<l.length:=by simpa using h
  simp only [List.getElem_cons_succ,pos]
  rw [if_neg (fun e=>hn'.1 (by rw [e]; exact List.getElem_mem hj)),pos_at hn'.2 hj]
  rfl
theorem pos_none {σ:List Nat} {i:Nat} (h:i ∉ σ):pos σ i=none:=by
 cases hp:pos σ i with
 | none=>rfl
 | some j=>obtain ⟨h1,h2⟩:=pos_some hp; exact absurd (h2 ▸ List.getElem_mem h1) h
theorem sg_inj {σ:List Nat} {nx:Nat} (h1:∀i,i∈σ→i<nx) (h2:σ.Nodup) (i j:Nat) (h:sg σ nx i=sg σ nx j):i=j:=by
 rcases Nat.lt_or_ge i σ.length with hi | hi
 ·rcases Nat.lt_or_ge j σ.length with hj | hj
  ·rw [sg_lt hi,sg_lt hj] at h
   have e1:=pos_at h2 hi; have e2:=pos_at h2 hj; rw [h,e2] at e1; injection e1 with e1; exact e1.symm
  ·rw [sg_lt hi,sg_ge hj] at h
   have:=h1 _ (List.getElem_mem hi); omega
 ·rcases Nat.lt_or_ge j σ.length with hj | hj
  ·rw [sg_ge hi,sg_lt hj] at h
   have:=h1 _ (List.getElem_mem hj); omega
  ·rw [sg_ge hi,sg_ge hj] at h; omega
theorem back_sg {σ:List Nat} {nx ex:Nat} (h1:∀i,i∈σ→i<nx) (h2:σ.Nodup) {j:Nat} (hj:j<σ.length+ex):backN σ nx ex (sg σ nx j)=some j:=by
 unfold backN
 rcases Nat.lt_or_ge j σ.length with hlt | hge
 ·rw [sg_lt hlt,pos_at h2 hlt]
 ·rw [sg_ge hge,pos_none (fun hm=>by have:=h1 _ hm; omega)]
  simp only
  rw [if_pos (by omega)]
  congr 1
  omega
theorem back_some {σ:List Nat} {nx ex i j:Nat} (h:backN σ nx ex i=some j):j<σ.length+ex∧sg σ nx j=i:=by
 unfold backN at h
 split at h
 ·rename_i q hq
  injection h with h; subst h
  obtain ⟨h1,h2⟩:=pos_some hq
  exact ⟨by omega,by rw [sg_lt h1]; exact h2⟩
 ·split at h
  ·rename_i hr
   injection h with h; subst h
   refine ⟨by omega,?_⟩
   rw [sg_ge (by omega)]; omega
  ·cases h
def pull (r:Nat→Nat) (G:Gh):Gh:=⟨G.M,fun j=>G.β (r j),fun j=>G.H (r j),fun j=>G.X (r j)⟩
theorem hdr_pull (r:Nat→Nat) (G:Gh) (j v e:Nat):hdr (pull r G).H j v e=hdr G.H (r j) v e:=by
 funext p; cases p <;> rfl
theorem unren {r:Nat→Nat} {G:Gh}:∀N:Nat,(∀(u:AV) (x:Value),SizeOf.sizeOf u<N→VRel G (ren r zsh u) x→VRel (pull r G) u x) ∧
  (∀(us:List AV) (xs:List Value),SizeOf.sizeOf us<N→CRel G (rens r zsh us) xs→CRel (pull r G) us xs):=by
 intro N
 induction N with
 | zero=>exact ⟨fun _ _ h=>by omega,fun _ _ h=>by omega⟩
 | succ N ih =>
  refine ⟨fun u x hsz hv=>?_,fun us xs hsz hr=>?_⟩
  ·cases u with
   | any=>exact .any _
   | dv d=>simp only [ren] at hv; cases hv with | dv h=>exact .dv h
   | ptr i off=>simp only [ren] at hv; cases hv with | ptr _ _ b h=>exact .ptr i off b h
   | yld i=>simp only [ren] at hv; cases hv with | yld _ b h=>exact .yld i b h
   | sle i n=>simp only [ren] at hv; cases hv with | sle _ _ b h=>exact .sle i n b h
   | ownf i v=>simp only [ren,zsh,shv_zero] at hv; cases hv with | ownf _ _ a n h=>exact .ownf i v a n h
   | own i v e p =>
    simp only [ren,zsh,shv_zero] at hv
    cases hv with | own _ _ _ _ _ h hc=>exact .own i v e p x (by rw [hdr_pull]; exact h) hc
   | loc i v e p a b c =>
    simp only [ren,zsh,shv_zero] at hv
    cases hv with
    | loc _ _ _ _ _ _ _ A q q' h=>exact .loc i v e p a b c A q q' (by rw [hdr_pull]; exact h)
    | locp _ _ _ _ _ _ _ A h=>exact .locp i v e p a b c A (by rw [hdr_pull]; exact h)
   | pre i v e p a b c =>
    simp only [ren,zsh,shv_zero] at hv
    cases hv with
    | pre _ _ _ _ _ _ _ q q' h=>exact .pre i v e p a b c q q' fun hn=>by obtain ⟨A,N,c',e1,e2⟩:=h hn; exact ⟨A,N,c',by rw [hdr_pull]; exact e1,e2⟩
   | fn f l=>simp only [ren] at hv; cases hv with | fn _ _ vs hl hr=>have:=ih.2 l vs (by simp at hsz; omega) ⟨hl,hr⟩; exact .fn f l vs this.1 this.2
   | bfn f l=>simp only [ren] at hv; cases hv with | bfn _ _ vs hl hr=>have:=ih.2 l vs (by simp at hsz; omega) ⟨hl,hr⟩; exact .bfn f l vs this.1 this.2
   | agg l=>simp only [ren] at hv; cases hv with | agg _ vs hl hr=>have:=ih.2 l vs (by simp at hsz; omega) ⟨hl,hr⟩; exact .agg l vs this.1 this.2
   | tup l=>simp only [ren] at hv; cases hv with | tup _ vs hl hr=>have:=ih.2 l vs (by simp at hsz; omega) ⟨hl,hr⟩; exact .tup l vs this.1 this.2
   | opt g v=>simp only [ren] at hv; cases hv with | opt _ _ _ h hu=>exact .opt g v x (fun hg=>ih.1 v x (by simp at hsz; omega) (h hg)) hu
  ·cases us with
   | nil=>exact ⟨hr.1,by simp⟩
   | cons u us =>
    simp only [rens] at hr
    match xs,hr with
    | [],hr=>have:=hr.1; simp at this
    | x::xs,hr =>
     have h1:=ih.1 u x (by simp at hsz; omega) (hr.2 0 _ x rfl rfl)
     have h2:=ih.2 us xs (by simp at hsz; omega) ⟨by simpa using hr.1,fun q e y he hy=>hr.2 (q+1) e y (by simpa using he) (by simpa using hy)⟩
     refine ⟨by simp [h2.1],fun j d y hd hy=>?_⟩
     cases j with
     | zero=>simp at hd hy; subst hd; subst hy; exact h1
     | succ j=>exact h2.2 j d y (by simpa using hd) (by simpa using hy)
theorem rens_length (r:Nat→Nat) (sh:Nat→Nat × Nat):∀l,(rens r sh l).length=l.length
 | []=>rfl
 | v::l=>by simp [rens,rens_length r sh l]
theorem rens_get (r:Nat→Nat) (sh:Nat→Nat × Nat):∀(l:List AV) (j:Nat),(rens r sh l)[j]?=(l[j]?).map (ren r sh)
 | [],j=>by simp [rens]
 | v::l,0=>by simp [rens]
 | v::l,j+1=>by simp [rens,rens_get r sh l j]
theorem ren_isCell (r:Nat→Nat) (sh:Nat→Nat × Nat) (v:AV):(ren r sh v).isCell=v.isCell:=by cases v <;> simp [ren,AV.isCell]
theorem pullFit {r:Nat→Nat} (hinj:∀i j,r i=r j→i=j) {G:Gh} {w:World} {K:Boxes} (hf:Fit G w (lookB (renK r zsh K))) (hk:∀j,j∈keys K→lookB K j ≠ .none) (hki:∀j,j∈keys K→∀a b c d e,lookB K j ≠ .itr a b c d e) (hkh:∀j,j∈keys K→lookB K j ≠ .held) (hc:∀(j:Nat) (l:List AV),lookB K j=.cells l→allCell l=true) :
  Fit (pull r G) w (lookB K)∧∀j b,Own (pull r G) j (lookB K j) b→j∈keys K∧Own G (r j) (lookB (renK r zsh K) (r j)) b:=by
 have hat:∀j,lookB (renK r zsh K) (r j)=if j∈keys K then renB r zsh j (lookB K j) else .none:=fun j=>by
  rw [lookB_updl]; exact updl_renK hinj _ K j
 have hown:∀j b,Own (pull r G) j (lookB K j) b→j∈keys K∧Own G (r j) (lookB (renK r zsh K) (r j)) b:=by
  intro j b ho
  by_cases hj:j∈keys K
  ·refine ⟨hj,?_⟩
   rw [hat,if_pos hj]
   cases hl:lookB K j with
   | cells l=>rw [hl] at ho; exact ho
   | tree v e d =>
    rw [hl] at ho
    simp only [renB,zsh,shv_zero,Own] at ho ⊢
    rw [hdr_pull] at ho; exact ho
   | rcd rc st l=>rw [hl] at ho; exact ho
   | itr a b c d e=>exact absurd hl (hki j hj a b c d e)
   | _=>rw [hl] at ho; exact ho.elim
  ·rw [lookB_nokey hj] at ho; exact ho.elim
 refine ⟨⟨hf.sub,fun j=>?_,fun j b ho=>hf.own _ b (hown j b ho).2,fun i j b hi hj=>hinj i j (hf.inj _ _ b (hown i b hi).2 (hown j b hj).2)⟩,hown⟩
 have hb:=hf.box (r j)
 rw [hat] at hb
 by_cases hj:j∈keys K
 ·rw [if_pos hj] at hb
  cases hl:lookB K j with
  | none=>exact absurd hl (hk j hj)
  | dead=>trivial
  | cells l =>
   rw [hl] at hb
   obtain ⟨b,c,t,h1,h2,h3,h4,h5⟩:=hb
   refine ⟨b,c,t,h1,h2,by rw [h3,rens_length],allCell_mem (hc j l hl),fun q d v hd hv=>?_⟩
   exact (unren (r:=r) (SizeOf.sizeOf d+1)).1 d v (by omega) (h5 q _ v (by rw [rens_get,hd]; rfl) hv)
  | tree v e d =>
   rw [hl] at hb
   simp only [renB,zsh,shv_zero] at hb
   simp only [BoxAt] at hb ⊢
   rw [hdr_pull]
   exact hb
  | fz v d =>
   rw [hl] at hb
   simp only [renB,zsh,shv_zero] at hb
   exact hb
  | rcd rc st l =>
   rw [hl] at hb
   obtain ⟨b,fn,tmps,D,h1,h2,h3⟩:=hb
   exact ⟨b,fn,tmps,D,h1,h2,(unren (r:=r) (SizeOf.sizeOf l+1)).2 l tmps.toList (by omega) h3⟩
  | itr a b c d e=>exact absurd hl (hki j hj a b c d e)
  | held=>exact absurd hl (hkh j hj)
 ·rw [if_neg hj] at hb
  rw [lookB_nokey hj]
  exact hb
theorem push_rel {G2 G3:Gh} {r:Nat→Nat} {sh:Nat→Nat × Nat} {ok:Nat→Bool} (hM:Mem.Le G2.M G3.M) (hβ:∀j b,G2.β j=some b→G3.β (r j)=some b)
  (hH:∀j v e p x,ok j=true→hdr G2.H j v e p=some x→hdr G3.H (r j) (shv (sh j) v e).1 (shv (sh j) v e).2 p=some x):∀N:Nat,
  (∀(u:AV) (x:Value),SizeOf.sizeOf u<N→AV.nm ok u=true→VRel G2 u x→VRel G3 (ren r sh u) x) ∧
  (∀(us:List AV) (xs:List Value),SizeOf.sizeOf us<N→AV.nms ok us=true→CRel G2 us xs→CRel G3 (rens r sh us) xs):=by
 intro N
 induction N with
 | zero=>exact ⟨fun _ _ h=>by omega,fun _ _ h=>by omega⟩
 | succ N ih =>
  refine ⟨fun u x hsz hn hv=>?_,fun us xs hsz hn hr=>?_⟩
  ·cases u with
   | any=>exact .any _
   | dv d=>cases hv with | dv h=>exact .dv (h.mono hM)
   | ptr i off=>cases hv with | ptr _ _ b h=>exact .ptr _ off b (hβ _ _ h)
   | yld i=>cases hv with | yld _ b h=>exact .yld _ b (hβ _ _ h)
   | sle i n=>cases hv with | sle _ _ b h=>exact .sle _ n b (hβ _ _ h)
   | ownf i v =>
    simp only [AV.nm] at hn
    cases hv with | ownf _ _ a n h=>exact .ownf _ _ a n (hH i v 0 [] _ hn h)
   | own i v e p =>
    simp only [AV.nm] at hn
    cases hv with | own _ _ _ _ _ h hc=>exact .own _ _ _ p x (hH _ _ _ _ _ hn h) hc
   | loc i v e p a b c =>
    simp only [AV.nm] at hn
    cases hv with
    | loc _ _ _ _ _ _ _ A q q' h=>exact .loc _ _ _ p a b c A q q' (hH _ _ _ _ _ hn h)
    | locp _ _ _ _ _ _ _ A h=>exact .locp _ _ _ p a b c A (hH _ _ _ _ _ hn h)
   | pre i v e p a b c =>
    simp only [AV.nm] at hn
    cases hv with
    | pre _ _ _ _ _ _ _ q q' h=>exact .pre _ _ _ p a b c q q' fun hz=>by obtain ⟨A,N,c',e1,e2⟩:=h hz; exact ⟨A,N,c',hH _ _ _ _ _ hn e1,e2⟩
   | fn f l=>simp only [AV.nm] at hn; cases hv with | fn _ _ vs hl hr=>have:=ih.2 l vs (by simp at hsz; omega) hn ⟨hl,hr⟩; exact .fn f _ vs this.1 this.2
   | bfn f l=>simp only [AV.nm] at hn; cases hv with | bfn _ _ vs hl hr=>have:=ih.2 l vs (by simp at hsz; omega) hn ⟨hl,hr⟩; exact .bfn f _ vs this.1 this.2
   | agg l=>simp only [AV.nm] at hn; cases hv with | agg _ vs hl hr=>have:=ih.2 l vs (by simp at hsz; omega) hn ⟨hl,hr⟩; exact .agg _ vs this.1 this.2
   | tup l=>simp only [AV.nm] at hn; cases hv with | tup _ vs hl hr=>have:=ih.2 l vs (by simp at hsz; omega) hn ⟨hl,hr⟩; exact .tup _ vs this.1 this.2
   | opt g v=>simp only [AV.nm] at hn; cases hv with | opt _ _ _ h hu=>exact .opt g _ x (fun hg=>ih.1 v x (by simp at hsz; omega) hn (h hg)) hu
  ·cases us with
   | nil=>exact ⟨hr.1,by simp [rens]⟩
   | cons u us =>
    simp only [AV.nms,Bool.and_eq_true] at hn
    match xs,hr with
    | [],hr=>have:=hr.1; simp at this
    | x::xs,hr =>
     have h1:=ih.1 u x (by simp at hsz; omega) hn.1 (hr.2 0 _ x rfl rfl)
     have h2:=ih.2 us xs (by simp at hsz; omega) hn.2 ⟨by simpa using hr.1,fun q e y he hy=>hr.2 (q+1) e y (by simpa using he) (by simpa using hy)⟩
     refine ⟨by simp only [rens,List.length_cons]; rw [h2.1],fun j d y hd hy=>?_⟩
     cases j with
     | zero=>simp [rens] at hd hy; subst hd; subst hy; exact h1
     | succ j=>exact h2.2 j d y (by simpa [rens] using hd) (by simpa using hy)
def mH (V E:Nat) (H1 H2:Nat→Nat→List PS→Option Value) (v e:Nat) (p:List PS):Option Value :=
 if v<V then H1 v e p else if V<v then H2 (v - V) e p else match p with
  | []=>if e=0 then H2 0 0 [] else H1 v e []
  | s::q=>if e<E then H1 v e (s::q) else H2 0 (e - E) (s::q)
theorem mH_new {V E:Nat} {H1 H2:Nat→Nat→List PS→Option Value} (v e:Nat):mH V E H1 H2 (shv (V,E) v e).1 0 []=H2 v 0 []∧∀s q,mH V E H1 H2 (shv (V,E) v e).1 (shv (V,E) v e).2 (s::q)=H2 v e (s::q):=by
 cases v with
 | zero =>
  refine ⟨by simp [shv,mH],fun s q=>?_⟩
  show mH V E H1 H2 V (E+e) (s::q)=_
  simp only [mH,Nat.lt_irrefl,if_false]
  rw [if_neg (by omega),Nat.add_sub_cancel_left]
 | succ v =>
  have h1:¬ (V+(v+1)<V):=by omega
  have h2:V<V+(v+1):=by omega
  have h3:V+(v+1) - V=v+1:=by omega
  refine ⟨?_,fun s q=>?_⟩
  ·show mH V E H1 H2 (V+(v+1)) 0 []=_
   unfold mH; rw [if_neg h1,if_pos h2,h3]
  ·show mH V E H1 H2 (V+(v+1)) e (s::q)=_
   unfold mH; rw [if_neg h1,if_pos h2,h3]
theorem mH_old {V E:Nat} {H1 H2:Nat→Nat→List PS→Option Value} (h1:∀v,V<v→∀e p,H1 v e p=none) (h2:∀e,E<e→∀p,H1 V e p=none) (h3:∀x,H1 V 0 []=some x→H2 0 0 []=some x) (h4:∀s q x,H1 V E (s::q)=some x→H2 0 0 (s::q)=some x)
  {v e:Nat} {p:List PS} {x:Value} (h:H1 v e p=some x):mH V E H1 H2 v e p=some x:=by
 unfold mH
 split
 ·exact h
 ·split
  ·rename_i hlt; rw [h1 v hlt] at h; cases h
  ·have:v=V:=by omega
   subst this
   cases p with
   | nil =>
    simp only
    split
    ·rename_i he; subst he; exact h3 x h
    ·exact h
   | cons s q =>
    simp only
    split
    ·exact h
    ·rename_i hge
     rcases Nat.lt_or_ge E e with hlt | hle
     ·rw [h2 e hlt] at h; cases h
     ·have:e=E:=by omega
      subst this
      rw [Nat.sub_self]; exact h4 s q x h
theorem mH_hi {V E:Nat} {H1 H2:Nat→Nat→List PS→Option Value} {v e:Nat} (h:∀v',v<v'→∀e p,H2 v' e p=none) {v':Nat} (hv:(shv (V,E) v e).1<v') (e':Nat) (p:List PS):mH V E H1 H2 v' e' p=none:=by
 have hle:V+v≤(shv (V,E) v e).1:=by cases v <;> simp [shv]
 unfold mH
 rw [if_neg (by omega),if_pos (by omega)]
 exact h _ (by omega) e' p
theorem mH_he {V E:Nat} {H1 H2:Nat→Nat→List PS→Option Value} (h2:∀e,E<e→∀p,H1 V e p=none) {v e:Nat} (h:∀e',e<e'→∀p,H2 v e' p=none) {e':Nat} (he:(shv (V,E) v e).2<e') (p:List PS):mH V E H1 H2 (shv (V,E) v e).1 e' p=none:=by
 cases v with
 | zero =>
  show mH V E H1 H2 V e' p=none
  have he:E+e<e':=he
  simp only [mH,Nat.lt_irrefl,if_false]
  cases p with
  | nil=>simp only; rw [if_neg (by omega)]; exact h2 e' (by omega) []
  | cons s q=>simp only; rw [if_neg (by omega)]; exact h _ (by omega) _
 | succ v =>
  show mH V E H1 H2 (V+(v+1)) e' p=none
  have he:e<e':=he
  unfold mH
  rw [if_neg (by omega),if_pos (by omega)]
  have h3:V+(v+1) - V=v+1:=by omega
  rw [h3]; exact h e' he p
end Go.TM
namespace Go.TM
open Go.RowKit
variable [Glob]
def pushH (m:Nat) (b:Box) (H1 H2:Nat→Nat→List PS→Option Value) (j:Nat):Nat→Nat→List PS→Option Value :=
 if j<m then (match b with
  | .tree V E _=>mH V E H1 H2
  | .none=>H2
  | _=>H1) else H2
def pushGh (σ:List Nat) (nx ex:Nat) (κ:Nat→Box) (G1 G2:Gh):Gh where
 M:=G2.M
 β i:=match backN σ nx ex i with
  | some j=>G2.β j
  | none=>G1.β i
 H i:=match backN σ nx ex i with
  | some j=>pushH σ.length (κ i) (G1.H i) (G2.H j) j
  | none=>G1.H i
 X i:=match backN σ nx ex i with
  | some j=>G2.X j
  | none=>G1.X i
theorem keepOk_spec {κ κ':Nat→Box}:∀{m:Nat},keepOk κ κ' m=true→∀j,j<m →
  (∃l l',κ j=.cells l∧κ' j=.cells l') ∨ (∃rc st l rc' st' l',κ j=.rcd rc st l∧κ' j=.rcd rc' st' l') ∨ (∃v e d,κ j=.tree v e d∧(κ' j=.dead ∨ (∃v' e' d',κ' j=.tree v' e' d') ∨ ∃v' d',κ' j=.fz v' d')) ∨ (∃v d d',κ j=.fz v d∧κ' j=.fz 0 d')
 | 0,_,j,h=>by omega
 | m+1,hk,j,hj=>by
  simp only [keepOk,Bool.and_eq_true] at hk
  rcases Nat.lt_or_ge j m with hlt | hge
  ·exact keepOk_spec hk.2 j hlt
  ·have:j=m:=by omega
   subst this
   have h1:=hk.1
   split at h1
   ·rename_i l l' e1 e2; exact .inl ⟨_,_,e1,e2⟩
   ·rename_i e1 e2; exact .inr (.inl ⟨_,_,_,_,_,_,e1,e2⟩)
   ·rename_i e1 e2; exact .inr (.inr (.inl ⟨_,_,_,e1,.inr (.inl ⟨_,_,_,e2⟩)⟩))
   ·rename_i e1 e2; exact .inr (.inr (.inl ⟨_,_,_,e1,.inr (.inr ⟨_,_,e2⟩)⟩))
   ·rename_i e1 e2; exact .inr (.inr (.inl ⟨_,_,_,e1,.inl e2⟩))
   ·rename_i e1 e2; exact .inr (.inr (.inr ⟨_,_,_,e1,e2⟩))
   ·cases h1
theorem nmB_mem {ok:Nat→Bool}:∀{K:Boxes},nmB ok K=true→∀i b,(i,b)∈K→b.nmc ok=true
 | [],_,i,b,h=>by simp at h
 | (j,c)::K,hn,i,b,h=>by
  simp only [nmB,Bool.and_eq_true] at hn
  rcases List.mem_cons.1 h with h | h
  ·injection h with e1 e2; subst e2; exact hn.1
  ·exact nmB_mem hn.2 i b h
theorem push_turn {σ:List Nat} {nx ex:Nat} {κ κ1:Nat→Box} {G0 G1 G2:Gh} {w w2:World} {K0 K1:Boxes} {rs:List AV} {v:Value}
  (hσ1:∀i,i∈σ→i<nx) (hσ2:σ.Nodup) (hnew:∀i,nx≤i→i<nx+ex→κ1 i=.none) (hf1:Fit G1 w κ1)
  (hup:∀i,i∈σ→∀V E d,κ i=.tree V E d→(∀v,V<v→∀e p,G1.H i v e p=none)∧∀e,E<e→∀p,G1.H i V e p=none)
  (hnone:∀i,i∈σ→κ i=.none→∀v e p,G1.H i v e p=none)
  (h00:∀j,j<σ.length→∀V E d,κ (sg σ nx j)=.tree V E d→(∀x,G1.H (sg σ nx j) V 0 []=some x→G0.H j 0 0 []=some x)∧∀s q x,G1.H (sg σ nx j) V E (s::q)=some x→G0.H j 0 0 (s::q)=some x)
  (hfz:∀j,j<σ.length→∀V d,κ (sg σ nx j)=.fz V d→∃x,G1.H (sg σ nx j) V 0 []=some x∧G0.H j 0 0 []=some x)
  (hβ0:∀j,j<σ.length→G0.β j=G1.β (sg σ nx j)) (hM0:G0.M=G1.M)
  (hown0:∀j b,Own G0 j (lookB K0 j) b→j<σ.length∧Own G1 (sg σ nx j) (κ1 (sg σ nx j)) b)
  (hkind:∀j,j<σ.length→(∀v e d,lookB K0 j=.tree v e d→(∃V E d,κ (sg σ nx j)=.tree V E d) ∨ κ (sg σ nx j)=.none)∧(∀v d,lookB K0 j=.fz v d→(∃V E d,κ (sg σ nx j)=.tree V E d) ∨ ∃V d,κ (sg σ nx j)=.fz V d))
  (hchk:outKChk σ ex K0 K1 rs=true) (hC:COut σ.length ex (lookB K0) w G0 rs (lookB K1) w2 G2 v) :
  Turn (fun i=>∃j,backN σ nx ex i=some j) κ1 (updl κ1 (renK (sg σ nx) (shs κ σ) K1)) G1 (pushGh σ nx ex κ G1 G2) w w2∧(∀i,i<nx→(pushGh σ nx ex κ G1 G2).β i=G1.β i)∧VRel (pushGh σ nx ex κ G1 G2) (ren (sg σ nx) (shs κ σ) (resC rs)) v:=by
 simp only [outKChk,Bool.and_eq_true] at hchk
 obtain ⟨⟨⟨hkeep,hkl⟩,hnr⟩,hnk⟩:=hchk
 have hinj:=sg_inj hσ1 hσ2
 have hbk:∀j,j<σ.length+ex→backN σ nx ex (sg σ nx j)=some j:=fun j hj=>back_sg hσ1 hσ2 hj
 have hmem:∀j (h:j<σ.length),sg σ nx j∈σ:=fun j h=>by rw [sg_lt h]; exact List.getElem_mem h
 have hout:∀j,σ.length+ex≤j→G2.β j=none∧∀v e p,G2.H j v e p=none:=fun j hj=>by
  have:=hC.fit.box j; rw [hC.no j hj] at this; exact this
 have hG3β:∀j,j<σ.length+ex→(pushGh σ nx ex κ G1 G2).β (sg σ nx j)=G2.β j:=fun j hj=>by simp only [pushGh,hbk j hj]
 have hG3X:∀j,j<σ.length+ex→(pushGh σ nx ex κ G1 G2).X (sg σ nx j)=G2.X j:=fun j hj=>by simp only [pushGh,hbk j hj]
 have hG3H:∀j,j<σ.length+ex→(pushGh σ nx ex κ G1 G2).H (sg σ nx j)=pushH σ.length (κ (sg σ nx j)) (G1.H (sg σ nx j)) (G2.H j) j:=fun j hj=>by simp only [pushGh,hbk j hj]
 have hsh:∀j (h:j<σ.length),shs κ σ j=verOf (κ (sg σ nx j)):=fun j h=>by rw [shs_at h,sg_lt h]
 have HT:∀j,j<σ.length+ex→(j<σ.length→(∃V E d,κ (sg σ nx j)=.tree V E d) ∨ κ (sg σ nx j)=.none) →
   (∀v e,hdr (pushGh σ nx ex κ G1 G2).H (sg σ nx j) (shv (shs κ σ j) v e).1 (shv (shs κ σ j) v e).2=hdr G2.H j v e) ∧
   (∀v e,(∀v',v<v'→∀e p,G2.H j v' e p=none)→∀v',(shv (shs κ σ j) v e).1<v'→∀e p,(pushGh σ nx ex κ G1 G2).H (sg σ nx j) v' e p=none) ∧
   (∀v e,(∀e',e<e'→∀p,G2.H j v e' p=none)→∀e',(shv (shs κ σ j) v e).2<e'→∀p,(pushGh σ nx ex κ G1 G2).H (sg σ nx j) (shv (shs κ σ j) v e).1 e' p=none):=by
  intro j hj hc
  have plain:(pushGh σ nx ex κ G1 G2).H (sg σ nx j)=G2.H j→shs κ σ j=(0,0)→_:=fun h1 h2 =>
   (show (∀v e,hdr (pushGh σ nx ex κ G1 G2).H (sg σ nx j) (shv (shs κ σ j) v e).1 (shv (shs κ σ j) v e).2=hdr G2.H j v e) ∧
   (∀v e,(∀v',v<v'→∀e p,G2.H j v' e p=none)→∀v',(shv (shs κ σ j) v e).1<v'→∀e p,(pushGh σ nx ex κ G1 G2).H (sg σ nx j) v' e p=none) ∧
   (∀v e,(∀e',e<e'→∀p,G2.H j v e' p=none)→∀e',(shv (shs κ σ j) v e).2<e'→∀p,(pushGh σ nx ex κ G1 G2).H (sg σ nx j) (shv (shs κ σ j) v e).1 e' p=none) by
    rw [h2]
    simp only [shv_zero]
    refine ⟨fun v e=>funext fun p=>by cases p <;> simp only [hdr,h1],fun v e h v' hv e p=>by rw [h1]; exact h v' hv e p,fun v e h e' he p=>by rw [h1]; exact h e' he p⟩)
  rcases Nat.lt_or_ge j σ.length with hlt | hge
  ·rcases hc hlt with ⟨V,E,d,hk⟩ | hk
   ·have h1:(pushGh σ nx ex κ G1 G2).H (sg σ nx j)=mH V E (G1.H (sg σ nx j)) (G2.H j):=by rw [hG3H j hj]; simp only [pushH,if_pos hlt,hk]
    have h2:shs κ σ j=(V,E):=by rw [hsh j hlt,hk]; rfl
    obtain ⟨u1,u2⟩:=hup _ (hmem j hlt) V E d hk
    rw [h2]
    refine ⟨fun v e=>funext fun p=>?_,fun v e h v' hv e' p=>by rw [h1]; exact mH_hi h hv e' p,fun v e h e' he p=>by rw [h1]; exact mH_he u2 h he p⟩
    cases p with
    | nil=>simp only [hdr,h1]; exact (mH_new v e).1
    | cons s q=>simp only [hdr,h1]; exact (mH_new v e).2 s q
   ·exact plain (by rw [hG3H j hj]; simp only [pushH,if_pos hlt,hk]) (by rw [hsh j hlt,hk]; rfl)
  ·exact plain (by rw [hG3H j hj]; simp only [pushH,if_neg (Nat.not_lt.2 hge)]) (shs_out hge)
 have hpβ:∀j b,G2.β j=some b→(pushGh σ nx ex κ G1 G2).β (sg σ nx j)=some b:=by
  intro j b hb
  rcases Nat.lt_or_ge j (σ.length+ex) with hlt | hge
  ·rw [hG3β j hlt]; exact hb
  ·rw [(hout j hge).1] at hb; cases hb
 have hpH:∀j v e p x,trOk σ.length (lookB K0) j=true→hdr G2.H j v e p=some x→hdr (pushGh σ nx ex κ G1 G2).H (sg σ nx j) (shv (shs κ σ j) v e).1 (shv (shs κ σ j) v e).2 p=some x:=by
  intro j v e p x hok hx
  rcases Nat.lt_or_ge j (σ.length+ex) with hlt | hge
  ·rw [(HT j hlt fun hj=>?_).1]
   ·exact hx
   ·simp only [trOk] at hok
    rw [show Nat.blt j σ.length=true by rw [Nat.blt_eq]; exact hj] at hok
    simp only [cond_true] at hok
    split at hok
    ·rename_i d hd; exact (hkind j hj).1 _ _ _ hd
    ·cases hok
  ·cases p with
   | nil=>simp only [hdr] at hx; rw [(hout j hge).2] at hx; cases hx
   | cons s q=>simp only [hdr] at hx; rw [(hout j hge).2] at hx; cases hx
 have hpush:=push_rel (G2:=G2) (G3:=pushGh σ nx ex κ G1 G2) (r:=sg σ nx) (sh:=shs κ σ) (ok:=trOk σ.length (lookB K0)) (Mem.Le.refl _) hpβ hpH
 have hκ3:∀j,updl κ1 (renK (sg σ nx) (shs κ σ) K1) (sg σ nx j)=if j∈keys K1 then renB (sg σ nx) (shs κ σ) j (lookB K1 j) else κ1 (sg σ nx j):=fun j=>updl_renK hinj _ K1 j
 have hkey:∀j,j<σ.length→j∈keys K1:=fun j hj=>by
  refine Classical.byContradiction fun hn=>?_
  have h0:=lookB_nokey hn
  rcases keepOk_spec hkeep j hj with ⟨_,_,_,h⟩ | ⟨_,_,_,_,_,_,_,h⟩ | ⟨_,_,_,_,h | ⟨_,_,_,h⟩ | ⟨_,_,h⟩⟩ | ⟨_,_,_,_,h⟩ <;> rw [h0] at h <;> cases h
 have hno:∀j,j<σ.length+ex→j ∉ keys K1→κ1 (sg σ nx j)=.none:=fun j hj hn=>by
  rcases Nat.lt_or_ge j σ.length with hlt | hge
  ·exact absurd (hkey j hlt) hn
  ·rw [sg_ge hge]; exact hnew _ (by omega) (by omega)
 have htree:∀j,j<σ.length+ex→∀v e d,lookB K1 j=.tree v e d→(j<σ.length→(∃V E d,κ (sg σ nx j)=.tree V E d) ∨ κ (sg σ nx j)=.none):=by
  intro j hj v e d hd hlt
  rcases keepOk_spec hkeep j hlt with ⟨_,_,_,h⟩ | ⟨_,_,_,_,_,_,_,h⟩ | ⟨_,_,_,h0,_⟩ | ⟨_,_,_,_,h⟩
  ·rw [hd] at h; cases h
  ·rw [hd] at h; cases h
  ·exact (hkind j hlt).1 _ _ _ h0
  ·rw [hd] at h; cases h
 have hback:∀j,j<σ.length+ex→∀b,Own (pushGh σ nx ex κ G1 G2) (sg σ nx j) (updl κ1 (renK (sg σ nx) (shs κ σ) K1) (sg σ nx j)) b→Own G2 j (lookB K1 j) b:=by
  intro j hj b ho
  rw [hκ3] at ho
  by_cases hk:j∈keys K1
  ·rw [if_pos hk] at ho
   cases hl:lookB K1 j with
   | cells l=>rw [hl] at ho; simp only [renB,Own] at ho ⊢; rw [hG3β j hj] at ho; exact ho
   | tree v e d=>rw [hl] at ho; simp only [renB,Own] at ho ⊢; rw [(HT j hj (htree j hj v e d hl)).1] at ho; exact ho
   | rcd rc st l=>rw [hl] at ho; simp only [renB,Own] at ho ⊢; rw [hG3β j hj] at ho; exact ho
   | _=>rw [hl] at ho; exact ho.elim
  ·rw [if_neg hk,hno j hj hk] at ho; exact ho.elim
 have hLe:Gh.Le G1 (pushGh σ nx ex κ G1 G2):=by
  refine ⟨by have:=hC.le; rw [hM0] at this; exact this,fun i b hb=>?_,fun i v e p x hx=>?_⟩
  ·cases hbi:backN σ nx ex i with
   | none=>simp only [pushGh,hbi]; exact hb
   | some j =>
    obtain ⟨hj,rfl⟩:=back_some hbi
    rw [hG3β j hj]
    rcases Nat.lt_or_ge j σ.length with hlt | hge
    ·rw [hC.bet j hlt,hβ0 j hlt]; exact hb
    ·have hbx:=hf1.box (sg σ nx j)
     rw [sg_ge hge,hnew _ (by omega) (by omega)] at hbx
     rw [sg_ge hge,hbx.1] at hb; cases hb
  ·cases hbi:backN σ nx ex i with
   | none=>simp only [pushGh,hbi]; exact hx
   | some j =>
    obtain ⟨hj,rfl⟩:=back_some hbi
    rw [hG3H j hj]
    rcases Nat.lt_or_ge j σ.length with hlt | hge
    ·simp only [pushH,if_pos hlt]
     cases hk:κ (sg σ nx j) with
     | tree V E d =>
      obtain ⟨u1,u2⟩:=hup _ (hmem j hlt) V E d hk
      obtain ⟨q1,q2⟩:=h00 j hlt V E d hk
      exact mH_old u1 u2 (fun x h=>hC.hed j hlt [] x (q1 x h)) (fun s q x h=>hC.hed j hlt (s::q) x (q2 s q x h)) hx
     | none=>rw [hnone _ (hmem j hlt) hk] at hx; cases hx
     | _=>exact hx
    ·have hbx:=hf1.box (sg σ nx j)
     rw [sg_ge hge,hnew _ (by omega) (by omega)] at hbx
     rw [sg_ge hge,hbx.2] at hx; cases hx
 refine ⟨⟨hLe,fun i hi=>?_,fun i hi=>?_,fun i hi=>?_,fun b hb hno'=>?_,hC.fit.sub,?_,?_,?_,hC.size,hC.os,hC.tape,hC.output⟩,fun i hi=>?_,?_⟩
 ·have:backN σ nx ex i=none:=by cases h:backN σ nx ex i with | none=>rfl | some j=>exact absurd ⟨j,h⟩ hi
  simp only [pushGh,this]
 ·refine updl_renK_other _ K1 i fun j hj e=>hi ⟨j,?_⟩
  rw [←e]; exact hbk j (keysLt_mem hkl j hj)
 ·have:backN σ nx ex i=none:=by cases h:backN σ nx ex i with | none=>rfl | some j=>exact absurd ⟨j,h⟩ hi
  simp only [pushGh,this]
  exact ⟨fun _ h=>h,fun _ _ _ _ h=>h⟩
 ·have:=hC.frame b hb fun j ho=>by
   obtain ⟨hj,ho'⟩:=hown0 j b ho
   exact hno' _ ⟨j,hbk j (by omega)⟩ ho'
  rw [hM0] at this
  exact this
 ·rintro i ⟨j,hbi⟩
  obtain ⟨hj,rfl⟩:=back_some hbi
  have hb2:=hC.fit.box j
  rw [hκ3]
  by_cases hk:j∈keys K1
  ·rw [if_pos hk]
   have hkin:(j,lookB K1 j)∈K1 ∨ lookB K1 j=.none:=(lookB_mem (K:=K1) (i:=j)).symm
   cases hl:lookB K1 j with
   | none=>trivial
   | dead=>trivial
   | held=>trivial
   | itr _ _ _ _ _=>trivial
   | cells l =>
    rw [hl] at hb2
    obtain ⟨b,c,t,h1,h2,h3,h4,h5⟩:=hb2
    have hnm:AV.nms (trOk σ.length (lookB K0)) l=true:=by
     rcases hkin with h | h
     ·have:=nmB_mem hnk j _ h; rw [hl] at this; exact this
     ·rw [hl] at h; cases h
    refine ⟨b,c,t,by rw [hG3β j hj]; exact h1,h2,by rw [h3,rens_length],fun u hu=>?_,fun q d y hd hy=>?_⟩
    ·obtain ⟨q,hq⟩:=List.getElem?_of_mem hu
     rw [rens_get] at hq
     cases hlq:l[q]? with
     | none=>rw [hlq] at hq; simp at hq
     | some u0=>rw [hlq] at hq; simp at hq; subst hq; rw [ren_isCell]; exact h4 u0 (List.mem_of_getElem? hlq)
    ·have:=(hpush (SizeOf.sizeOf l+1)).2 l c.toList (by omega) hnm ⟨by simp [h3],fun q d y hd hy=>h5 q d y hd (by simpa using hy)⟩
     exact this.2 q d y hd (by simpa using hy)
   | tree v e d =>
    rw [hl] at hb2
    obtain ⟨q1,q2,q3⟩:=HT j hj (htree j hj v e d hl)
    refine ⟨?_,?_,q2 v e hb2.2.2.1,q3 v e hb2.2.2.2⟩
    ·rw [q1]; exact hb2.1
    ·rw [q1]; exact hb2.2.1
   | fz v d =>
    rw [hl] at hb2
    obtain ⟨u,h1,h2,h3⟩:=hb2
    refine ⟨u,?_,h2,h3⟩
    have viaT:(j<σ.length→(∃V E d,κ (sg σ nx j)=.tree V E d) ∨ κ (sg σ nx j)=.none)→(pushGh σ nx ex κ G1 G2).H (sg σ nx j) (shv (shs κ σ j) v 0).1 0 []=some u:=fun hh=>by
     have:=congrFun ((HT j hj hh).1 v 0) []
     simp only [hdr] at this
     rw [this]; exact h1
    rcases Nat.lt_or_ge j σ.length with hlt | hge
    ·rcases keepOk_spec hkeep j hlt with ⟨_,_,_,h⟩ | ⟨_,_,_,_,_,_,_,h⟩ | ⟨_,_,_,h0,_⟩ | ⟨_,_,_,h0,h⟩
     ·rw [hl] at h; cases h
     ·rw [hl] at h; cases h
     ·exact viaT fun _=>(hkind j hlt).1 _ _ _ h0
     ·rw [hl] at h; injection h with e1 e2
      subst e1
      rcases (hkind j hlt).2 _ _ h0 with hT | ⟨V,d',hF⟩
      ·exact viaT fun _=>.inl hT
      ·obtain ⟨x,p1,p2⟩:=hfz j hlt V d' hF
       have p3:=hC.hed j hlt [] x p2
       rw [h1] at p3; injection p3 with p3; subst p3
       rw [hG3H j hj]
       simp only [pushH,if_pos hlt,hF]
       rw [hsh j hlt,hF]
       exact p1
    ·exact viaT fun h=>absurd h (by omega)
   | rcd rc st l =>
    rw [hl] at hb2
    obtain ⟨b,fn,tmps,D,h1,h2,h3⟩:=hb2
    have hnm:AV.nms (trOk σ.length (lookB K0)) l=true:=by
     rcases hkin with h | h
     ·have:=nmB_mem hnk j _ h; rw [hl] at this; exact this
     ·rw [hl] at h; cases h
    exact ⟨b,fn,tmps,D,by rw [hG3β j hj]; exact h1,h2,(hpush (SizeOf.sizeOf l+1)).2 l tmps.toList (by omega) hnm h3⟩
  ·rw [if_neg hk,hno j hj hk]
   rw [lookB_nokey hk] at hb2
   refine ⟨by rw [hG3β j hj]; exact hb2.1,fun v e p=>?_⟩
   rw [hG3H j hj]
   rcases Nat.lt_or_ge j σ.length with hlt | hge
   ·exact absurd (hkey j hlt) hk
   ·simp only [pushH,if_neg (Nat.not_lt.2 hge)]; exact hb2.2 v e p
 ·rintro i b ⟨j,hbi⟩ ho
  obtain ⟨hj,rfl⟩:=back_some hbi
  have ho2:=hback j hj b ho
  refine ⟨?_,hC.fit.own j b ho2⟩
  rcases hC.nown j b ho2 with h | ⟨q,hq⟩
  ·exact .inl h
  ·obtain ⟨h1,h2⟩:=hown0 q b hq
   exact .inr ⟨_,⟨q,hbk q (by omega)⟩,h2⟩
 ·rintro i i' b ⟨j,hbi⟩ ⟨j',hbi'⟩ ho ho'
  obtain ⟨hj,rfl⟩:=back_some hbi
  obtain ⟨hj',rfl⟩:=back_some hbi'
  rw [hC.fit.inj j j' b (hback j hj b ho) (hback j' hj' b ho')]
 ·cases hbi:backN σ nx ex i with
  | none=>simp only [pushGh,hbi]
  | some j =>
   obtain ⟨hj,rfl⟩:=back_some hbi
   rw [hG3β j hj]
   rcases Nat.lt_or_ge j σ.length with hlt | hge
   ·rw [hC.bet j hlt,hβ0 j hlt]
   ·rw [sg_ge hge] at hi; omega
 ·refine (hpush (SizeOf.sizeOf (resC rs)+1)).1 (resC rs) v (by omega) ?_ hC.res
  match rs,hnr with
  | [],_=>rfl
  | [d],h=>simp only [AV.nms,Bool.and_eq_true] at h; exact h.1
  | _::_::_,h=>exact h
end Go.TM
