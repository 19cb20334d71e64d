import Derived.Test.YtpbdohkbiklflaaGreatDoorFM14
import Derived.RangeFuncRecord
set_option linter.unusedVariables false
set_option linter.unusedSimpArgs false
set_option linter.unusedSectionVars false
namespace Go.TM
open Go.RowKit
variable [cu]
def rP:Nat→List DV→Env
 | _,[]=>[]
 | i,d::r=>(i,tI d)::rP (i+1) r
def Mz (T:List TI) (ρ:Nat→AV) (κ:Nat→ao):ResultVar→(DV→Prop)→Prop
 | .tmp t,k=>match toArg κ (ρ t) with
  | some (d,_)=>k d
  | none=>False
 | .cell t ty,k=>bif (nth T ty).ok then match res κ (ρ t) with
  | .ptr i off=>match κ i with
   | .cells l=>bW (nth T ty).agg l off (nth T ty).size fun v=>match toArg κ v with
    | some (d,_)=>k d
    | none=>False
   | _=>False
  | _=>False
  else False
def BQ (T:List TI) (ρ:Nat→AV) (κ:Nat→ao):List ResultVar→List DV→Prop
 | [],[]=>True
 | v::r,d::ds=>Mz T ρ κ v (fun d'=>d'.Le d)∧BQ T ρ κ r ds
 | _,_=>False
def dR:Nat→List AV→Env
 | _,[]=>[]
 | i,v::r=>(i,v)::dR (i+1) r
def zT (T:List TI) (ρ:Nat→AV) (κ:Nat→ao):List ResultVar→(List AV→Prop)→Prop
 | [],k=>k []
 | .tmp t::r,k=>force (res κ (ρ t)) fun v=>zT T ρ κ r fun l=>k (v::l)
 | .cell t ty::r,k=>bif (nth T ty).ok then match res κ (ρ t) with
  | .ptr i off=>match κ i with
   | .cells l=>bW (nth T ty).agg l off (nth T ty).size fun v=>zT T ρ κ r fun l=>k (v::l)
   | _=>False
  | _=>False
  else False
def zU (m ex:Nat) (κ:Nat→ao) (iW rs:List AV) (K':ah):Bool :=
 Oi (m+ex) (aa K') K' && AV.F5 (aa K') rs && zN (aa K') (dz κ rs iW++eg κ K') && vh κ (aa K') m
def JC (T:List TI) (fn:Func) (m ex:Nat) (R:List AV→ah→Prop) (env:Env) (K:ah):Prop :=
 zT T (look env) (aa K) fn.results.toList fun iW=>∃rs K',R rs K'∧zU m ex (aa K) iW rs K'=true∧ef m (aa K) (aa K') rs iW∧pc m (aa K) (aa K') K'
def vn (T:List TI) (fn:Func) (m ex:Nat) (R:List AV→ah→Prop) (e:AX) (_nx:Nat) (env:Env) (K:ah):Prop :=
 match e with
 | .normal=>JC T fn m ex R env K
 | .ret=>JC T fn m ex R env K
 | .exit _=>False
def RZ (T:List TI) (fn:Func) (rs:List DV) (e:AX) (_nx:Nat) (env:Env) (K:ah):Prop :=
 match e with
 | .normal=>BQ T (look env) (aa K) fn.results.toList rs
 | .ret=>BQ T (look env) (aa K) fn.results.toList rs
 | .exit _=>False
section
variable {P:Program} {C:dw→Prop} {T:List TI} {n:Nat} {g:dw}
theorem putObj_size (w:World) (b:Nat) (o:Obj):(w.putObj b o).heap.size=w.heap.size:=by simp [World.putObj]
theorem eU (w:World) {b k:Nat} (o:Obj) (h:k ≠ b):(w.putObj b o).heap[k]?=w.heap[k]?:=by
 simp only [World.putObj]
 rw [Array.getElem?_setIfInBounds_ne (fun e=>h e.symm)]
theorem bX.shut {ρ:Nat→AV} {κ:Nat→ao} {a:Act} {w:World} {G:Gh} (h:bX g n ρ κ a w G) {D:List Nat} {r:Nat} (hD:a.defers=(r::D).map mark) :
  w.heap[r]?=some (.deferred (some []))∧bX g n ρ κ { a with defers:=D.map mark } (w.putObj r (.deferred none)) G:=by
 obtain ⟨D',h1,h2,h3⟩:=h.ru
 have XT:D'=r::D:=by
  rw [h1] at hD
  have inj:∀x y:Nat,mark x=mark y→x=y:=fun x y e=>by simp only [mark,Deferred.mk.injEq,Target.collected.injEq] at e; exact e.1
  have:∀(l l':List Nat),l.map mark=l'.map mark→l=l':=by
   intro l
   induction l with
   | nil=>intro l' e; cases l' with
    | nil=>rfl
    | cons=>simp at e
   | cons x l ih=>intro l' e; cases l' with
    | nil=>simp at e
    | cons y l'=>simp only [List.map_cons,List.cons.injEq] at e; rw [inj x y e.1,ih l' e.2]
  exact this _ _ hD
 subst XT
 obtain ⟨a1,a2,a3,a4⟩:=h3 r (by simp)
 have bD:∀i b,bI G i (κ i) b→b ≠ r:=fun i b ho e=>a2 i (e ▸ ho)
 have ek:G.M.In (w.putObj r (.deferred none)):=fun b o hb=>by
  rw [eU _ _ (fun e=>by rw [e,a3] at hb; cases hb)]; exact h.fit.sub b o hb
 refine ⟨a1,{ h with fit:=⟨ek,fun i=>(h.fit.box i).fR (.refl G) rfl (fun _=>⟨fun _ h=>h,fun _ _ _ _ h=>h⟩) (fun b hb=>eU _ _ (bD i b hb)) ek (h.fit.own i) (by rw [putObj_size]; exact Nat.le_refl _),h.fit.own,h.fit.inj⟩,x3:=fun b hb hO=>by rw [eU _ _ (by omega)]; exact h.x3 b hb hO,os:=h.os,tape:=h.tape,output:=h.output,grow:=by rw [putObj_size]; exact h.grow,ru:=?_ }⟩
 refine ⟨D,rfl,(List.nodup_cons.1 h2).2,fun q hq=>?_⟩
 obtain ⟨b1,b2,b3,b4⟩:=h3 q (by simp [hq])
 have XU:q ≠ r:=fun e=>(List.nodup_cons.1 h2).1 (by rw [←e]; exact hq)
 exact ⟨by rw [eU _ _ XU]; exact b1,b2,b3,b4⟩
theorem bX.leave {ρ:Nat→AV} {κ:Nat→ao} {G:Gh} {F:Fence} {fn:Func} {R:Ending→World→Prop} (tmps:Array Value) (my:∀w',bX g n ρ κ { tmps:=tmps,defers:=[] } w' G→∃v,(results fn tmps).run P w'=.ok v w'∧R (.returned v) w') :
  ∀(D:List Nat) (w:World),bX g n ρ κ { tmps:=tmps,defers:=D.map mark } w G→LeavesInM F 0 P fn tmps R (D.map mark) .returning w
 | [],w,h=>my w h
 | r::D,w,h=>by
  obtain ⟨h1,h2⟩:=h.shut (D:=D) (r:=r) rfl
  exact ⟨by simp,.inl ⟨r,_,rfl,run_takeDeferred h1,bX.leave tmps my D _ h2⟩⟩
theorem vp:∀(ds:List DV) (s t:Nat),look (rP s ds) t=if s≤t then (match ds[t - s]? with | some d=>tI d | none=>.any) else .any
 | [],s,t=>by simp [rP,look]
 | d::r,s,t=>by
  simp only [rP,look]
  rw [vp r (s+1) t]
  by_cases h1:s=t
  ·subst h1; simp
  ·have hb:Nat.beq s t=false:=by cases hb:Nat.beq s t with | false=>rfl | true=>exact absurd (Nat.eq_of_beq_eq_true hb) h1
   rw [hb]
   by_cases h2:s≤t
   ·have e:t - s=t - (s+1)+1:=by omega
    rw [if_pos h2,if_pos (by omega),e]; simp
   ·rw [if_neg h2,if_neg (by omega)]; simp
theorem BR (hT:ed P T) {ρ:Nat→AV} {κ:Nat→ao} {a:Act} {w:World} {G:Gh} (aj:bX g n ρ κ a w G) {rv:ResultVar} {q:DV→Prop} (h:Mz T ρ κ rv q) :
  ∃(d:DV) (ids:List Nat),q d∧∃v,(match rv with | .tmp t=>pure (a.tmps.getD t undef) | .cell t ty=>do loadVar ty (←asAddr (a.tmps.getD t undef)):Sem Value).run P w=.ok v w ∧
   ∀(all:List Nat) (G':Gh),(∀i,i∈ids→i∈all)→Gh.Le G G'→Fit G' w (aw κ (jS κ all))→bj G'.M d v:=by
 cases rv with
 | tmp t =>
  simp only [Mz] at h
  split at h
  ·rename_i d ids hd
   refine ⟨d,ids,h,_,rfl,fun all G' hs hle hZ=>mX (κ:=κ) (κ':=κ) (fun _ _=>rfl) hle hZ hd hs (aj.env t)⟩
  ·exact h.elim
 | cell t ty =>
  simp only [Mz] at h
  have hh:=aI h; clear h; obtain ⟨bJ,h⟩:=hh
  split at h
  ·rename_i i off hr
   split at h
   ·rename_i l hk
    obtain ⟨av,h,hp⟩:=dC h
    split at h
    ·rename_i d ids hd
     have hv:=vq aj.fit (aj.env t)
     rw [hr] at hv
     have rQ:=aj.fit.box i
     rw [hk] at rQ
     obtain ⟨b,c,tt,jd,hw,aT,j9,R1⟩:=rQ
     generalize hx:a.tmps.getD t undef=x at hv
     cases hv with | ptr _ _ b' cO =>
     rw [jd] at cO; injection cO with cO; subst cO
     have hA:(⟨b,off,none⟩:Addr)=(⟨b,0,none⟩:Addr).add off:=by rw [cE]; simp
     obtain ⟨v,h1,h2⟩:=jz (P:=P) (av:=av) (w:=w) (G:=G) (l:=l) (off:=off) hT bJ ⟨b,0,none⟩ (fun j=>c.getD j undef) (fun j hj=>by
       rw [cE]
       simp [World.cell?,hw,aT,hj]) (fun j d hd=>by
       have hj:j<l.length:=(List.getElem?_eq_some_iff.1 hd).1
       exact R1 j d _ hd (by simp [aT,hj])) hp
     rw [←hA] at h1
     refine ⟨d,ids,h,v,?_,fun all G' hs hle hZ=>mX (κ:=κ) (κ':=κ) (fun _ _=>rfl) hle hZ hd hs h2⟩
     simp only [Instr.loadAt,Instr.sureAddr,Sem.run_bind,Sem.run_pure,Result.andThen_ok] at h1
     simp only [hx,asAddr,Sem.run_bind,Sem.run_pure,Result.andThen_ok]
     exact h1
    ·exact h.elim
   ·exact h.elim
  ·exact h.elim
theorem vu (hT:ed P T) {ρ:Nat→AV} {κ:Nat→ao} {a:Act} {w:World} {G:Gh} (aj:bX g n ρ κ a w G):∀{JD:List ResultVar} {rs:List DV},BQ T ρ κ JD rs →
  ∃(ids:List Nat) (us:List Value),((JD.mapM fun | .tmp t=>pure (a.tmps.getD t undef) | .cell t ty=>do loadVar ty (←asAddr (a.tmps.getD t undef))):Sem (List Value)).run P w=.ok us w ∧
   ∀(all:List Nat) (G':Gh),(∀i,i∈ids→i∈all)→Gh.Le G G'→Fit G' w (aw κ (jS κ all))→eM G'.M rs us
 | [],[],_=>⟨[],[],rfl,fun _ G' _ _ _=>.nil G'.M⟩
 | [],_::_,h=>h.elim
 | _::_,[],h=>h.elim
 | rv::JD,r::rs,⟨h1,h2⟩=>by
  obtain ⟨d,ids,hle,v,bc,hd⟩:=BR hT aj h1
  obtain ⟨UZ,us,JE,DW⟩:=vu hT aj h2
  refine ⟨ids++UZ,v::us,?_,fun all G' hs hm hZ=>.cons (hle G'.M v (hd all G' (fun i hi=>hs i (by simp [hi])) hm hZ)) (DW all G' (fun i hi=>hs i (by simp [hi])) hm hZ)⟩
  rw [List.mapM_cons]
  simp only [Sem.run_bind]
  rw [bc]
  simp only [Result.andThen_ok,Sem.run_bind,JE,Sem.run_pure]
theorem mY:∀(ds:List AV) (s t:Nat),look (dR s ds) t=if s≤t then (match ds[t - s]? with | some d=>d | none=>.any) else .any
 | [],s,t=>by simp [dR,look]
 | d::r,s,t=>by
  simp only [dR,look]
  rw [mY r (s+1) t]
  by_cases h1:s=t
  ·subst h1; simp
  ·have hb:Nat.beq s t=false:=by cases hb:Nat.beq s t with | false=>rfl | true=>exact absurd (Nat.eq_of_beq_eq_true hb) h1
   rw [hb]
   by_cases h2:s≤t
   ·have e:t - s=t - (s+1)+1:=by omega
    rw [if_pos h2,if_pos (by omega),e]; simp
   ·rw [if_neg h2,if_neg (by omega)]; simp
theorem tX (hT:ed P T) {ρ:Nat→AV} {κ:Nat→ao} {a:Act} {w:World} {G:Gh} (aj:bX g n ρ κ a w G):∀{JD:List ResultVar} {q:List AV→Prop},zT T ρ κ JD q →
  ∃(iW:List AV) (us:List Value),q iW∧((JD.mapM fun | .tmp t=>pure (a.tmps.getD t undef) | .cell t ty=>do loadVar ty (←asAddr (a.tmps.getD t undef))):Sem (List Value)).run P w=.ok us w∧bR G iW us
 | [],q,h=>⟨[],[],h,rfl,rfl,by simp⟩
 | .tmp t::JD,q,h=>by
  simp only [zT,force_eq] at h
  obtain ⟨iW,us,hq,bc,hc⟩:=tX hT aj h
  have hv:=vq aj.fit (aj.env t)
  refine ⟨_,a.tmps.getD t undef::us,hq,?_,by simpa using hc.1,fun j d u hd hu=>?_⟩
  ·rw [List.mapM_cons]
   simp only [Sem.run_bind,Sem.run_pure,Result.andThen_ok,bc]
  ·cases j with
   | zero =>
    rw [List.getElem?_cons_zero] at hd hu
    injection hd with hd; injection hu with hu; subst hd; subst hu; exact hv
   | succ j=>exact hc.2 j d u (by simpa using hd) (by simpa using hu)
 | .cell t ty::JD,q,h=>by
  simp only [zT] at h
  have hh:=aI h; clear h; obtain ⟨bJ,h⟩:=hh
  split at h
  ·rename_i i off hr
   split at h
   ·rename_i l hk
    obtain ⟨av,h,hp⟩:=dC h
    obtain ⟨iW,us,hq,bc,hc⟩:=tX hT aj h
    have hv:=vq aj.fit (aj.env t)
    rw [hr] at hv
    have rQ:=aj.fit.box i
    rw [hk] at rQ
    obtain ⟨b,c,tt,jd,hw,aT,j9,R1⟩:=rQ
    generalize hx:a.tmps.getD t undef=x at hv
    cases hv with | ptr _ _ b' cO =>
    rw [jd] at cO; injection cO with cO; subst cO
    have hA:(⟨b,off,none⟩:Addr)=(⟨b,0,none⟩:Addr).add off:=by rw [cE]; simp
    obtain ⟨v,h1,h2⟩:=jz (P:=P) (av:=av) (w:=w) (G:=G) (l:=l) (off:=off) hT bJ ⟨b,0,none⟩ (fun j=>c.getD j undef) (fun j hj=>by
      rw [cE]
      simp [World.cell?,hw,aT,hj]) (fun j d hd=>by
      have hj:j<l.length:=(List.getElem?_eq_some_iff.1 hd).1
      exact R1 j d _ hd (by simp [aT,hj])) hp
    rw [←hA] at h1
    refine ⟨_,v::us,hq,?_,by simpa using hc.1,fun j d u hd hu=>?_⟩
    ·simp only [Instr.loadAt,Instr.sureAddr,Sem.run_bind,Sem.run_pure,Result.andThen_ok] at h1
     rw [List.mapM_cons]
     have R2:((do loadVar ty (←asAddr (a.tmps.getD t undef))):Sem Value).run P w=.ok v w:=by
      simp only [hx,asAddr,Sem.run_bind,Sem.run_pure,Result.andThen_ok]; exact h1
     rw [Sem.run_bind]
     simp only
     rw [R2]
     simp only [Result.andThen_ok,Sem.run_bind,bc,Sem.run_pure]
    ·cases j with
     | zero=>simp at hd hu; subst hd; subst hu; exact h2
     | succ j=>exact hc.2 j d u (by simpa using hd) (by simpa using hu)
   ·exact h.elim
  ·exact h.elim
theorem mZ {fn:Func} {tmps:Array Value} {w:World} {us:List Value} (bc:((fn.results.toList.mapM fun | .tmp t=>pure (tmps.getD t undef) | .cell t ty=>do loadVar ty (←asAddr (tmps.getD t undef))):Sem (List Value)).run P w=.ok us w) :
  (results fn tmps).run P w=.ok (if h:us.toArray.size=1 then us.toArray[0] else .tuple us.toArray) w:=by
 have kD:((fn.results.mapM fun | .tmp t=>pure (tmps.getD t undef) | .cell t ty=>do loadVar ty (←asAddr (tmps.getD t undef))):Sem (Array Value)).run P w=.ok us.toArray w:=by
  rw [Array.mapM_eq_mapM_toList,Sem.run_map,bc]
  rfl
 unfold results
 rw [Sem.run_bind]
 exact congrArg (fun r=>Result.andThen r (fun (vs:Array Value) w=>(pure (if h:vs.size=1 then vs[0] else .tuple vs):Sem Value).run P w)) kD
theorem bp (hT:ed P T) (hm:P.follows .mixedOrders=true) (hC:cV P (fun _=>True)) (Ga:ib P) {f:Nat} {fn:Func} {c:Code} {args rs:List DV} (hf:P.funcs[f]?=some fn) (hb:fn.body=some c) (dS:(fn.name == "runtime.NumGoroutine")=false)
  (bM:Nat.ble args.length fn.ntmps=true) (h:gl P T .fn fn.ntmps 0 c (RZ T fn rs) 0 (rP 0 args) []):ct P f args rs:=by
 refine ⟨⟨fn,hf,dS,by rw [hb]; rfl⟩,fun w M vs ek ri hr=>?_⟩
 refine (fL.calls (n:=0)).1 (callsIn_of_wp_marks hf hb trivial ?_)
 have hlen:vs.length≤fn.ntmps:=by rw [←hr.1]; exact Nat.le_of_ble_eq_true bM
 let g:dw:=⟨fun _=>False,w,M,0,fun _=>none,fun _ _=>none⟩
 let G0:Gh:=⟨M,fun _=>none,fun _ _ _ _=>none,fun _ _=>False⟩
 have aj:bX g fn.ntmps (look (rP 0 args)) (aa []) { tmps:=vs.toArray++Array.replicate (fn.ntmps - vs.toArray.size) undef,defers:=[] } w G0:=by
  refine { fit:=⟨ek,fun i=>⟨rfl,fun _ _ _=>rfl⟩,fun i b ho=>ho.elim,fun i j b ho=>ho.elim⟩,env:=fun t=>?_,size:=by simp; omega,x3:=fun _ _ _=>rfl,os:=rfl,tape:=rfl,output:=rfl,grow:=Nat.le_refl _,mem:=.refl M,mG:=fun _ _ _=>rfl,ga:=fun i b ho=>ho.elim,jU:=fun i hi=>absurd hi (Nat.not_lt_zero _),rp:=fun i hi=>absurd hi (Nat.not_lt_zero _),ou:=ri,ru:=⟨[],rfl,List.nodup_nil,by simp⟩ }
  rw [vp]
  simp only [Nat.zero_le,if_true,Nat.sub_zero]
  split
  ·rename_i d hd
   have ht:t<vs.length:=by rw [←hr.1]; exact (List.getElem?_eq_some_iff.1 hd).1
   have hv:vs[t]?=some (vs[t]'ht):=List.getElem?_eq_getElem ht
   have:(vs.toArray++Array.replicate (fn.ntmps - vs.toArray.size) undef).getD t undef=vs[t]'ht:=by
    rw [Array.getD_eq_getD_getElem?,Array.getElem?_append_left (by simpa using ht)]
    simp [hv]
   rw [this]
   exact n6 (hr.2 t d _ hd hv)
  ·exact .any _
 refine s6 (g:=g) hT hm hC Ga trivial fL (fun _=>rfl) (Nat.le_refl _) c h ⟨⟨G0,aj⟩,Nat.le_refl _,fun _ _=>rfl⟩ fun e nx env K a w' hq hs=>?_
 obtain ⟨⟨G1,fT⟩,_⟩:=hs
 have fin:BQ T (look env) (aa K) fn.results.toList rs→LeavesInM Fence.wide 0 P fn a.tmps (fun e w'=>∃v M',e=.returned v∧Below w.heap.size w w'∧Mem.Le M M'∧M'.In w'∧(∀b,b<w.heap.size→M' b=M b)∧vw M' rs v) a.defers .returning w':=by
  intro rB
  obtain ⟨D,hD,_⟩:=fT.ru
  rw [hD]
  refine bX.leave (g:=g) (n:=fn.ntmps) (ρ:=look env) (κ:=aa K) (G:=G1) a.tmps (fun w2 pd=>?_) D w' (by have:=fT; rw [←hD]; exact this)
  obtain ⟨ids,us,bc,DW⟩:=vu hT pd rB
  obtain ⟨G2,hle,_,_,_,hZ⟩:=pd.nV (κ:=aa K) ids (fun _ _=>rfl)
  have aB:=DW ids G2 (fun i hi=>hi) hle hZ.fit
  have PK:Below w.heap.size w w2:=⟨hZ.os,hZ.tape,hZ.output,hZ.grow,fun b hb=>hZ.x3 b hb (fun h=>h)⟩
  refine ⟨_,mZ bc,_,G2.M,rfl,PK,hZ.mem,hZ.fit.sub,fun b hb=>hZ.mG b hb (fun h=>h),?_⟩
  have ph:us.length=rs.length:=aB.1.symm
  have many:us.length ≠ 1→∃U0:List Value,(if h:us.toArray.size=1 then us.toArray[0] else Value.tuple us.toArray)=.tuple U0.toArray∧eM G2.M rs U0:=by
   intro bD
   refine ⟨us,?_,aB⟩
   rw [dif_neg (by simpa using bD)]
  match rs,aB,ph,many with
  | [],aB,ph,many=>exact many (by simp at ph; simp [ph])
  | [d],aB,ph,_ =>
   match us,ph,aB with
   | [u],_,aB=>exact aB.2 0 d u rfl rfl
  | _::_::_,aB,ph,many=>exact many (by simp at ph; omega)
 cases e with
 | normal=>exact fin hq
 | ret=>exact fin hq
 | exit i=>exact hq.elim
theorem yg {rm:RM} (Zq:rm.PC=true) (hT:ed P T) (hm:P.follows .mixedOrders=true) (hC:cV P (fun _=>True)) (Ga:ib P) {f:Nat} {fn:Func} {c:Code} {args:List AV} {m ex:Nat} {K:ah} {R:List AV→ah→Prop} (hf:P.funcs[f]?=some fn) (hb:fn.body=some c) (dS:(fn.name == "runtime.NumGoroutine")=false)
  (bM:(Nat.ble args.length fn.ntmps && bh.wf ⟨m,dR 0 args,K⟩)=true) (h:gl P T rm fn.ntmps m c (vn T fn m ex R) m (dR 0 args) K):dK P f args m K ex R:=by
 refine ⟨⟨fn,hf,dS,by rw [hb]; rfl⟩,fun w G vs ri cB hr=>?_⟩
 refine (fL.calls (n:=0)).1 (callsIn_of_wp_marks hf hb trivial ?_)
 simp only [Bool.and_eq_true,bh.wf] at bM
 obtain ⟨hlen,U1,XW⟩:=bM
 have hlen:vs.length≤fn.ntmps:=by rw [←hr.1]; exact Nat.le_of_ble_eq_true hlen
 let g:dw:=⟨fun b=>∃i,bI G i (aa K i) b,w,G.M,m,G.β,fun i p=>G.H i 0 0 p⟩
 have aj:bX g fn.ntmps (look (dR 0 args)) (aa K) { tmps:=vs.toArray++Array.replicate (fn.ntmps - vs.toArray.size) undef,defers:=[] } w G:=by
  refine { fit:=cB,env:=fun t=>?_,size:=by simp; omega,x3:=fun _ _ _=>rfl,os:=rfl,tape:=rfl,output:=rfl,grow:=Nat.le_refl _,mem:=.refl G.M,mG:=fun _ _ _=>rfl,ga:=fun i b ho=>.inr ⟨i,ho⟩,jU:=fun _ _=>rfl,rp:=fun _ _ _ _ hx=>hx,ou:=ri,ru:=⟨[],rfl,List.nodup_nil,by simp⟩ }
  rw [mY]
  simp only [Nat.zero_le,if_true,Nat.sub_zero]
  split
  ·rename_i d hd
   have ht:t<vs.length:=by rw [←hr.1]; exact (List.getElem?_eq_some_iff.1 hd).1
   have hv:vs[t]?=some (vs[t]'ht):=List.getElem?_eq_getElem ht
   have:(vs.toArray++Array.replicate (fn.ntmps - vs.toArray.size) undef).getD t undef=vs[t]'ht:=by
    rw [Array.getD_eq_getD_getElem?,Array.getElem?_append_left (by simpa using ht)]
    simp [hv]
   rw [this]
   exact hr.2 t d _ hd hv
  ·exact .any _
 refine s6 (g:=g) hT hm hC Ga trivial fL (fun _=>rfl) (r:=rm) (Nat.le_refl _) c h ⟨⟨G,aj⟩,Nat.le_refl _,fun i hi=>mU U1 hi⟩ fun e nx env K1 a w' hq hs=>?_
 obtain ⟨⟨G1,fT⟩,_⟩:=hs
 have fin:JC T fn m ex R env K1→LeavesInM Fence.wide 0 P fn a.tmps (fun e w'=>∃v rs K' G',e=.returned v∧R rs K'∧JF m ex (aa K) w G rs (aa K') w' G' v) a.defers .returning w':=by
  intro rB
  obtain ⟨D,hD,_⟩:=fT.ru
  rw [hD]
  refine bX.leave (g:=g) (n:=fn.ntmps) (ρ:=look env) (κ:=aa K1) (G:=G1) a.tmps (fun w2 pd=>?_) D w' (by have:=fT; rw [←hD]; exact this)
  obtain ⟨iW,us,⟨rs,K2,hR,eQ,XX,IV⟩,bc,dt⟩:=tX hT pd rB
  simp only [zU,Bool.and_eq_true] at eQ
  obtain ⟨⟨⟨JG,PL⟩,fy⟩,mV⟩:=eQ
  obtain ⟨G2,_,Hj,JB⟩:=pd.sub (m:=m) (Nat.le_refl _) (F:=dz (aa K1) rs iW++eg (aa K1) K2) JG (fun i hi=>List.mem_append.2 (.inr hi)) fy mV IV
  have aB:=Hj rs iW us XX PL (fun i hi=>List.mem_append.2 (.inl hi)) dt
  have jA:=JB (fun _=>.any) (fun _=>.any _)
  refine ⟨_,mZ bc,_,rs,K2,G2,rfl,hR,⟨jA.fit,fun i hi=>mU JG hi,?_,jA.mem,jA.jU,jA.rp,fun b hb hO=>⟨jA.x3 b hb (fun ⟨i,h⟩=>hO i h),jA.mG b hb (fun ⟨i,h⟩=>hO i h)⟩,jA.ga,jA.os,jA.tape,jA.output,jA.grow⟩⟩
  have ph:us.length=rs.length:=aB.1.symm
  have many:us.length ≠ 1→aE G2 (.eL rs) (if h:us.toArray.size=1 then us.toArray[0] else Value.tuple us.toArray):=by
   intro bD
   rw [dif_neg (by simpa using bD)]
   exact .eL rs us aB.1 aB.2
  match rs,aB,ph,many with
  | [],aB,ph,many=>exact many (by simp at ph; simp [ph])
  | [d],aB,ph,_ =>
   match us,ph,aB with
   | [u],_,aB=>exact aB.2 0 d u rfl rfl
  | _::_::_,aB,ph,many=>exact many (by simp at ph; omega)
 cases e with
 | normal=>exact fin hq
 | ret=>exact fin hq
 | exit i=>exact hq.elim
theorem yh (hT:ed P T) (hm:P.follows .mixedOrders=true) (hC:cV P (fun _=>True)) (Ga:ib P) {f:Nat} {fn:Func} {c:Code} {args:List AV} {m ex:Nat} {K:ah} {R:List AV→ah→Prop} (hf:P.funcs[f]?=some fn) (hb:fn.body=some c) (dS:(fn.name == "runtime.NumGoroutine")=false)
  (bM:(Nat.ble args.length fn.ntmps && bh.wf ⟨m,dR 0 args,K⟩)=true) (h:gl P T .fn fn.ntmps m c (vn T fn m ex R) m (dR 0 args) K):dK P f args m K ex R :=
 yg (rm:=.fn) rfl hT hm hC Ga hf hb dS bM h
theorem Ee (hT:ed P T) (hm:P.follows .mixedOrders=true) (hC:cV P (fun _=>True)) (Ga:ib P) {f:Nat} {fn:Func} {c:Code} {args:List AV} {m ex:Nat} {K:ah} {R:List AV→ah→Prop} (hf:P.funcs[f]?=some fn) (hb:fn.body=some c) (dS:(fn.name == "runtime.NumGoroutine")=false)
  (bM:(Nat.ble args.length fn.ntmps && bh.wf ⟨m,dR 0 args,K⟩)=true) (h:gl P T .rel fn.ntmps m c (vn T fn m ex R) m (dR 0 args) K):dK P f args m K ex R :=
 yg (rm:=.rel) rfl hT hm hC Ga hf hb dS bM h
theorem bl (hT:ed P T) (hm:P.follows .mixedOrders=true) (hC:cV P (fun _=>True)) (Ga:ib P) {f:Nat} {fn:Func} {c:Code} {args:List AV} {m ex:Nat} {K:ah} {rs:List AV} {K':ah} (hf:P.funcs[f]?=some fn) (hb:fn.body=some c) (dS:(fn.name == "runtime.NumGoroutine")=false)
  (bM:(Nat.ble args.length fn.ntmps && bh.wf ⟨m,dR 0 args,K⟩)=true) (h:gl P T .fn fn.ntmps m c (vn T fn m ex fun r k=>r=rs∧k=K') m (dR 0 args) K):bn P f args m K ex rs K' :=
 yh hT hm hC Ga hf hb dS bM h
theorem vz (hT:ed P T) (hm:P.follows .mixedOrders=true) (hC:cV P (fun _=>True)) (Ga:ib P) {f:Nat} {fn:Func} {c:Code} {args:List AV} {m ex:Nat} {K:ah} {rs:List AV} {K':ah} (hf:P.funcs[f]?=some fn) (hb:fn.body=some c) (dS:(fn.name == "runtime.NumGoroutine")=false)
  (bM:(Nat.ble args.length fn.ntmps && bh.wf ⟨m,dR 0 args,K⟩)=true) (h:gl P T .rel fn.ntmps m c (vn T fn m ex fun r k=>r=rs∧k=K') m (dR 0 args) K):bn P f args m K ex rs K' :=
 Ee hT hm hC Ga hf hb dS bM h
end
end Go.TM
namespace Go.TM
open Go.RowKit
variable [cu]
theorem ic (v e:Nat):mz (0,0) v e=(v,e):=by cases v <;> simp [mz]
theorem fC:∀(K:ah),aa K=aw (fun _=>.none) K
 | []=>rfl
 | (i,b)::K=>by
  funext t
  simp only [aa,aw,gC,fC K]
  by_cases h:t=i
  ·subst h; simp
  ·rw [if_neg h]; simp [beq_false h]
theorem n7 {r:Nat→Nat} {sh:Nat→Nat × Nat} (dr:∀i j,r i=r j→i=j) (f:Nat→ao):∀(K:ah) (j:Nat),aw f (bU r sh K) (r j)=if j∈keys K then qv r sh j (aa K j) else f (r j)
 | [],j=>by simp [bU,aw,keys]
 | (i,b)::K,j=>by
  simp only [bU,aw]
  by_cases e:j=i
  ·subst e; simp [keys,aa]
  ·have:r j ≠ r i:=fun h=>e (dr _ _ h)
   rw [ae _ _ this,n7 dr f K j]
   simp only [aa,beq_false e,cond_false]
   by_cases hj:j∈keys K
   ·rw [if_pos hj,if_pos (by simp only [keys,List.map_cons,List.mem_cons]; exact .inr hj)]
   ·rw [if_neg hj,if_neg (by simp only [keys,List.map_cons,List.mem_cons,not_or]; exact ⟨e,hj⟩)]
theorem mf {r:Nat→Nat} {sh:Nat→Nat × Nat} (f:Nat→ao):∀(K:ah) (i:Nat),(∀j,j∈keys K→r j ≠ i)→aw f (bU r sh K) i=f i
 | [],i,_=>rfl
 | (j,b)::K,i,h=>by
  simp only [bU,aw]
  rw [ae _ _ (fun e=>h j (by simp [keys]) e.symm)]
  exact mf f K i fun q hq=>h q (by simp only [keys,List.map_cons,List.mem_cons]; exact .inr hq)
theorem c9 {m:Nat}:∀{K:ah},lx m K=true→∀j,j∈keys K→j<m
 | [],_,j,h=>by simp [keys] at h
 | (i,b)::K,hk,j,h=>by
  simp only [lx,Bool.and_eq_true,Nat.blt_eq] at hk
  simp only [keys,List.map_cons,List.mem_cons] at h
  rcases h with rfl | h
  ·exact hk.1
  ·exact c9 hk.2 j h
theorem fM:∀{K:ah} {j:Nat},j ∉ keys K→aa K j=.none
 | [],_,_=>rfl
 | (i,b)::K,j,h=>by
  simp only [keys,List.map_cons,List.mem_cons,not_or] at h
  simp only [aa]
  rw [beq_false h.1]
  exact fM h.2
theorem kE {r:Nat→Nat} {sh:Nat→Nat × Nat}:∀{K:ah} {i:Nat} {b:ao},(i,b)∈bU r sh K→∃j,j∈keys K∧i=r j
 | [],i,b,h=>by simp [bU] at h
 | (j,c)::K,i,b,h=>by
  simp only [bU,List.mem_cons] at h
  rcases h with h | h
  ·injection h with e1 e2; exact ⟨j,by simp [keys],e1⟩
  ·obtain ⟨q,h1,h2⟩:=kE h; exact ⟨q,by simp only [keys,List.map_cons,List.mem_cons]; exact .inr h1,h2⟩
theorem s7 {γ:Type _} (f:Nat→γ):∀(l l':List (Nat × γ)),aw f (l++l')=aw (aw f l') l
 | [],_=>rfl
 | (i,x)::l,l'=>by simp only [List.cons_append,aw,s7 f l l']
theorem iJ:∀{σ:List Nat} {nx j:Nat} (h:j<σ.length),sg σ nx j=σ[j]
 | [],_,j,h=>by simp at h
 | i::σ,nx,0,_=>rfl
 | i::σ,nx,j+1,h=>by simp only [sg,List.getElem_cons_succ]; exact iJ (by simpa using h)
theorem ie:∀{σ:List Nat} {nx j:Nat},σ.length≤j→sg σ nx j=nx+(j - σ.length)
 | [],_,j,_=>by simp [sg]
 | i::σ,nx,0,h=>by simp at h
 | i::σ,nx,j+1,h=>by
  simp only [sg,List.length_cons]
  rw [ie (by simpa using h)]
  simp
theorem gP {κ:Nat→ao}:∀{σ:List Nat} {nx:Nat},Gb κ σ nx=true→(∀i,i∈σ→i<nx)∧σ.Nodup
 | [],_,_=>⟨by simp,List.nodup_nil⟩
 | i::σ,nx,h=>by
  simp only [Gb,Bool.and_eq_true,Nat.blt_eq,Bool.not_eq_true'] at h
  obtain ⟨h1,h2⟩:=gP h.2
  exact ⟨fun j hj=>by rcases List.mem_cons.1 hj with rfl | hj; exact h.1.1; exact h1 j hj,List.nodup_cons.2 ⟨er h.1.2,h2⟩⟩
theorem JH {κ:Nat→ao}:∀{σ:List Nat} {j:Nat} (h:j<σ.length),jw κ σ j=JI (κ σ[j])
 | [],j,h=>by simp at h
 | i::σ,0,_=>rfl
 | i::σ,j+1,h=>by simp only [jw,List.getElem_cons_succ]; exact JH (by simpa using h)
theorem Gc {κ:Nat→ao}:∀{σ:List Nat} {j:Nat},σ.length≤j→jw κ σ j=(0,0)
 | [],_,_=>rfl
 | i::σ,0,h=>by simp at h
 | i::σ,j+1,h=>by simp only [jw]; exact Gc (by simpa using h)
def pos:List Nat→Nat→Option Nat
 | [],_=>none
 | x::l,i=>if x=i then some 0 else (pos l i).map (·+1)
def iK (σ:List Nat) (nx ex i:Nat):Option Nat:=match pos σ i with
 | some j=>some j
 | none=>if nx≤i∧i<nx+ex then some (σ.length+(i - nx)) else none
theorem vA:∀{σ:List Nat} {i j:Nat},pos σ i=some j→∃h:j<σ.length,σ[j]=i
 | [],i,j,h=>by simp [pos] at h
 | x::l,i,j,h=>by
  simp only [pos] at h
  split at h
  ·rename_i e; injection h with h; subst h; exact ⟨by simp,e⟩
  ·cases hp:pos l i with
   | none=>rw [hp] at h; simp at h
   | some q=>rw [hp] at h; simp at h; subst h; obtain ⟨h1,h2⟩:=vA hp; exact ⟨by simpa using h1,by simpa using h2⟩
theorem pos_at:∀{σ:List Nat} (hn:σ.Nodup) {j:Nat} (h:j<σ.length),pos σ σ[j]=some j
 | [],_,j,h=>by simp at h
 | x::l,hn,0,h=>by simp [pos]
 | x::l,hn,j+1,h=>by
  have Bo:=List.nodup_cons.1 hn
  have hj:j<l.length:=by simpa using h
  simp only [List.getElem_cons_succ,pos]
  rw [if_neg (fun e=>Bo.1 (by rw [e]; exact List.getElem_mem hj)),pos_at Bo.2 hj]
  rfl
theorem JJ {σ:List Nat} {i:Nat} (h:i ∉ σ):pos σ i=none:=by
 cases hp:pos σ i with
 | none=>rfl
 | some j=>obtain ⟨h1,h2⟩:=vA hp; exact absurd (h2 ▸ List.getElem_mem h1) h
theorem JK {σ:List Nat} {nx:Nat} (h1:∀i,i∈σ→i<nx) (h2:σ.Nodup) (i j:Nat) (h:sg σ nx i=sg σ nx j):i=j:=by
 rcases Nat.lt_or_ge i σ.length with hi | hi
 ·rcases Nat.lt_or_ge j σ.length with hj | hj
  ·rw [iJ hi,iJ hj] at h
   have e1:=pos_at h2 hi; have e2:=pos_at h2 hj; rw [h,e2] at e1; injection e1 with e1; exact e1.symm
  ·rw [iJ hi,ie hj] at h
   have:=h1 _ (List.getElem_mem hi); omega
 ·rcases Nat.lt_or_ge j σ.length with hj | hj
  ·rw [ie hi,iJ hj] at h
   have:=h1 _ (List.getElem_mem hj); omega
  ·rw [ie hi,ie hj] at h; omega
theorem MA {σ:List Nat} {nx ex:Nat} (h1:∀i,i∈σ→i<nx) (h2:σ.Nodup) {j:Nat} (hj:j<σ.length+ex):iK σ nx ex (sg σ nx j)=some j:=by
 unfold iK
 rcases Nat.lt_or_ge j σ.length with aK | dk
 ·rw [iJ aK,pos_at h2 aK]
 ·rw [ie dk,JJ (fun hm=>by have:=h1 _ hm; omega)]
  simp only
  rw [if_pos (by omega)]
  congr 1
  omega
theorem gQ {σ:List Nat} {nx ex i j:Nat} (h:iK σ nx ex i=some j):j<σ.length+ex∧sg σ nx j=i:=by
 unfold iK at h
 split at h
 ·rename_i q hq
  injection h with h; subst h
  obtain ⟨h1,h2⟩:=vA hq
  exact ⟨by omega,by rw [iJ h1]; exact h2⟩
 ·split at h
  ·rename_i hr
   injection h with h; subst h
   refine ⟨by omega,?_⟩
   rw [ie (by omega)]; omega
  ·cases h
def pull (r:Nat→Nat) (G:Gh):Gh:=⟨G.M,fun j=>G.β (r j),fun j=>G.H (r j),fun j=>G.X (r j)⟩
theorem kF (r:Nat→Nat) (G:Gh) (j v e:Nat):aB (pull r G).H j v e=aB G.H (r j) v e:=by
 funext p; cases p <;> rfl
theorem JL {r:Nat→Nat} {G:Gh}:∀N:Nat,(∀(u:AV) (x:Value),SizeOf.sizeOf u<N→aE G (ld r dA u) x→aE (pull r G) u x) ∧
  (∀(us:List AV) (xs:List Value),SizeOf.sizeOf us<N→bR G (dE r dA us) xs→bR (pull r G) us xs):=by
 intro N
 induction N with
 | zero=>exact ⟨fun _ _ h=>by omega,fun _ _ h=>by omega⟩
 | succ N ih =>
  refine ⟨fun u x aT hv=>?_,fun us xs aT hr=>?_⟩
  ·cases u with
   | any=>exact .any _
   | dv d=>simp only [ld] at hv; cases hv with | dv h=>exact .dv h
   | ptr i off=>simp only [ld] at hv; cases hv with | ptr _ _ b h=>exact .ptr i off b h
   | fw i=>simp only [ld] at hv; cases hv with | fw _ b h=>exact .fw i b h
   | sle i n=>simp only [ld] at hv; cases hv with | sle _ _ b h=>exact .sle i n b h
   | bS i v=>simp only [ld,dA,ic] at hv; cases hv with | bS _ _ a n h=>exact .bS i v a n h
   | own i v e p =>
    simp only [ld,dA,ic] at hv
    cases hv with | own _ _ _ _ _ h hc=>exact .own i v e p x (by rw [kF]; exact h) hc
   | loc i v e p a b c =>
    simp only [ld,dA,ic] at hv
    cases hv with
    | loc _ _ _ _ _ _ _ A q q' h=>exact .loc i v e p a b c A q q' (by rw [kF]; exact h)
    | mr _ _ _ _ _ _ _ A h=>exact .mr i v e p a b c A (by rw [kF]; exact h)
   | pre i v e p a b c =>
    simp only [ld,dA,ic] at hv
    cases hv with
    | pre _ _ _ _ _ _ _ q q' h=>exact .pre i v e p a b c q q' fun hn=>by obtain ⟨A,N,c',e1,e2⟩:=h hn; exact ⟨A,N,c',by rw [kF]; exact e1,e2⟩
   | fn f l=>simp only [ld] at hv; cases hv with | fn _ _ vs hl hr=>have:=ih.2 l vs (by simp at aT; omega) ⟨hl,hr⟩; exact .fn f l vs this.1 this.2
   | gY f l=>simp only [ld] at hv; cases hv with | gY _ _ vs hl hr=>have:=ih.2 l vs (by simp at aT; omega) ⟨hl,hr⟩; exact .gY f l vs this.1 this.2
   | agg l=>simp only [ld] at hv; cases hv with | agg _ vs hl hr=>have:=ih.2 l vs (by simp at aT; omega) ⟨hl,hr⟩; exact .agg l vs this.1 this.2
   | eL l=>simp only [ld] at hv; cases hv with | eL _ vs hl hr=>have:=ih.2 l vs (by simp at aT; omega) ⟨hl,hr⟩; exact .eL l vs this.1 this.2
   | opt g v=>simp only [ld] at hv; cases hv with | opt _ _ _ h hu=>exact .opt g v x (fun hg=>ih.1 v x (by simp at aT; omega) (h hg)) hu
  ·cases us with
   | nil=>exact ⟨hr.1,by simp⟩
   | cons u us =>
    simp only [dE] at hr
    match xs,hr with
    | [],hr=>have:=hr.1; simp at this
    | x::xs,hr =>
     have h1:=ih.1 u x (by simp at aT; omega) (hr.2 0 _ x rfl rfl)
     have h2:=ih.2 us xs (by simp at aT; omega) ⟨by simpa using hr.1,fun q e y he hy=>hr.2 (q+1) e y (by simpa using he) (by simpa using hy)⟩
     refine ⟨by simp [h2.1],fun j d y hd hy=>?_⟩
     cases j with
     | zero=>simp at hd hy; subst hd; subst hy; exact h1
     | succ j=>exact h2.2 j d y (by simpa using hd) (by simpa using hy)
theorem m5 (r:Nat→Nat) (sh:Nat→Nat × Nat):∀l,(dE r sh l).length=l.length
 | []=>rfl
 | v::l=>by simp [dE,m5 r sh l]
theorem vB (r:Nat→Nat) (sh:Nat→Nat × Nat):∀(l:List AV) (j:Nat),(dE r sh l)[j]?=(l[j]?).map (ld r sh)
 | [],j=>by simp [dE]
 | v::l,0=>by simp [dE]
 | v::l,j+1=>by simp [dE,vB r sh l j]
theorem Ef (r:Nat→Nat) (sh:Nat→Nat × Nat) (v:AV):(ld r sh v).ak=v.ak:=by cases v <;> simp [ld,AV.ak]
theorem MB {r:Nat→Nat} (dr:∀i j,r i=r j→i=j) {G:Gh} {w:World} {K:ah} (hf:Fit G w (aa (bU r dA K))) (hk:∀j,j∈keys K→aa K j ≠ .none) (dM:∀j,j∈keys K→∀a b c d e,aa K j ≠ .jb a b c d e) (XY:∀j,j∈keys K→aa K j ≠ .held) (hc:∀(j:Nat) (l:List AV),aa K j=.cells l→bP l=true) :
  Fit (pull r G) w (aa K)∧∀j b,bI (pull r G) j (aa K j) b→j∈keys K∧bI G (r j) (aa (bU r dA K) (r j)) b:=by
 have je:∀j,aa (bU r dA K) (r j)=if j∈keys K then qv r dA j (aa K j) else .none:=fun j=>by
  rw [fC]; exact n7 dr _ K j
 have gG:∀j b,bI (pull r G) j (aa K j) b→j∈keys K∧bI G (r j) (aa (bU r dA K) (r j)) b:=by
  intro j b ho
  by_cases hj:j∈keys K
  ·refine ⟨hj,?_⟩
   rw [je,if_pos hj]
   cases hl:aa K j with
   | cells l=>rw [hl] at ho; exact ho
   | tree v e d =>
    rw [hl] at ho
    simp only [qv,dA,ic,bI] at ho ⊢
    rw [kF] at ho; exact ho
   | eA rc st l=>rw [hl] at ho; exact ho
   | jb a b c d e=>exact absurd hl (dM j hj a b c d e)
   | _=>rw [hl] at ho; exact ho.elim
  ·rw [fM hj] at ho; exact ho.elim
 refine ⟨⟨hf.sub,fun j=>?_,fun j b ho=>hf.own _ b (gG j b ho).2,fun i j b hi hj=>dr i j (hf.inj _ _ b (gG i b hi).2 (gG j b hj).2)⟩,gG⟩
 have hb:=hf.box (r j)
 rw [je] at hb
 by_cases hj:j∈keys K
 ·rw [if_pos hj] at hb
  cases hl:aa K j with
  | none=>exact absurd hl (hk j hj)
  | dead=>trivial
  | cells l =>
   rw [hl] at hb
   obtain ⟨b,c,t,h1,h2,h3,h4,h5⟩:=hb
   refine ⟨b,c,t,h1,h2,by rw [h3,m5],eP (hc j l hl),fun q d v hd hv=>?_⟩
   exact (JL (r:=r) (SizeOf.sizeOf d+1)).1 d v (by omega) (h5 q _ v (by rw [vB,hd]; rfl) hv)
  | tree v e d =>
   rw [hl] at hb
   simp only [qv,dA,ic] at hb
   simp only [fI] at hb ⊢
   rw [kF]
   exact hb
  | fz v d =>
   rw [hl] at hb
   simp only [qv,dA,ic] at hb
   exact hb
  | eA rc st l =>
   rw [hl] at hb
   obtain ⟨b,fn,tmps,D,h1,h2,h3⟩:=hb
   exact ⟨b,fn,tmps,D,h1,h2,(JL (r:=r) (SizeOf.sizeOf l+1)).2 l tmps.toList (by omega) h3⟩
  | jb a b c d e=>exact absurd hl (dM j hj a b c d e)
  | held=>exact absurd hl (XY j hj)
 ·rw [if_neg hj] at hb
  rw [fM hj]
  exact hb
theorem JM {G2 G3:Gh} {r:Nat→Nat} {sh:Nat→Nat × Nat} {ok:Nat→Bool} (hM:Mem.Le G2.M G3.M) (hβ:∀j b,G2.β j=some b→G3.β (r j)=some b)
  (hH:∀j v e p x,ok j=true→aB G2.H j v e p=some x→aB G3.H (r j) (mz (sh j) v e).1 (mz (sh j) v e).2 p=some x):∀N:Nat,
  (∀(u:AV) (x:Value),SizeOf.sizeOf u<N→AV.nm ok u=true→aE G2 u x→aE G3 (ld r sh u) x) ∧
  (∀(us:List AV) (xs:List Value),SizeOf.sizeOf us<N→AV.xD ok us=true→bR G2 us xs→bR G3 (dE r sh us) xs):=by
 intro N
 induction N with
 | zero=>exact ⟨fun _ _ h=>by omega,fun _ _ h=>by omega⟩
 | succ N ih =>
  refine ⟨fun u x aT hn hv=>?_,fun us xs aT hn hr=>?_⟩
  ·cases u with
   | any=>exact .any _
   | dv d=>cases hv with | dv h=>exact .dv (h.mono hM)
   | ptr i off=>cases hv with | ptr _ _ b h=>exact .ptr _ off b (hβ _ _ h)
   | fw i=>cases hv with | fw _ b h=>exact .fw _ b (hβ _ _ h)
   | sle i n=>cases hv with | sle _ _ b h=>exact .sle _ n b (hβ _ _ h)
   | bS i v =>
    simp only [AV.nm] at hn
    cases hv with | bS _ _ a n h=>exact .bS _ _ a n (hH i v 0 [] _ hn h)
   | own i v e p =>
    simp only [AV.nm] at hn
    cases hv with | own _ _ _ _ _ h hc=>exact .own _ _ _ p x (hH _ _ _ _ _ hn h) hc
   | loc i v e p a b c =>
    simp only [AV.nm] at hn
    cases hv with
    | loc _ _ _ _ _ _ _ A q q' h=>exact .loc _ _ _ p a b c A q q' (hH _ _ _ _ _ hn h)
    | mr _ _ _ _ _ _ _ A h=>exact .mr _ _ _ p a b c A (hH _ _ _ _ _ hn h)
   | pre i v e p a b c =>
    simp only [AV.nm] at hn
    cases hv with
    | pre _ _ _ _ _ _ _ q q' h=>exact .pre _ _ _ p a b c q q' fun hz=>by obtain ⟨A,N,c',e1,e2⟩:=h hz; exact ⟨A,N,c',hH _ _ _ _ _ hn e1,e2⟩
   | fn f l=>simp only [AV.nm] at hn; cases hv with | fn _ _ vs hl hr=>have:=ih.2 l vs (by simp at aT; omega) hn ⟨hl,hr⟩; exact .fn f _ vs this.1 this.2
   | gY f l=>simp only [AV.nm] at hn; cases hv with | gY _ _ vs hl hr=>have:=ih.2 l vs (by simp at aT; omega) hn ⟨hl,hr⟩; exact .gY f _ vs this.1 this.2
   | agg l=>simp only [AV.nm] at hn; cases hv with | agg _ vs hl hr=>have:=ih.2 l vs (by simp at aT; omega) hn ⟨hl,hr⟩; exact .agg _ vs this.1 this.2
   | eL l=>simp only [AV.nm] at hn; cases hv with | eL _ vs hl hr=>have:=ih.2 l vs (by simp at aT; omega) hn ⟨hl,hr⟩; exact .eL _ vs this.1 this.2
   | opt g v=>simp only [AV.nm] at hn; cases hv with | opt _ _ _ h hu=>exact .opt g _ x (fun hg=>ih.1 v x (by simp at aT; omega) hn (h hg)) hu
  ·cases us with
   | nil=>exact ⟨hr.1,by simp [dE]⟩
   | cons u us =>
    simp only [AV.xD,Bool.and_eq_true] at hn
    match xs,hr with
    | [],hr=>have:=hr.1; simp at this
    | x::xs,hr =>
     have h1:=ih.1 u x (by simp at aT; omega) hn.1 (hr.2 0 _ x rfl rfl)
     have h2:=ih.2 us xs (by simp at aT; omega) hn.2 ⟨by simpa using hr.1,fun q e y he hy=>hr.2 (q+1) e y (by simpa using he) (by simpa using hy)⟩
     refine ⟨by simp only [dE,List.length_cons]; rw [h2.1],fun j d y hd hy=>?_⟩
     cases j with
     | zero=>simp [dE] at hd hy; subst hd; subst hy; exact h1
     | succ j=>exact h2.2 j d y (by simpa [dE] using hd) (by simpa using hy)
def mH (V E:Nat) (H1 H2:Nat→Nat→List PS→Option Value) (v e:Nat) (p:List PS):Option Value :=
 if v<V then H1 v e p else if V<v then H2 (v - V) e p else match p with
  | []=>if e=0 then H2 0 0 [] else H1 v e []
  | s::q=>if e<E then H1 v e (s::q) else H2 0 (e - E) (s::q)
theorem JN {V E:Nat} {H1 H2:Nat→Nat→List PS→Option Value} (v e:Nat):mH V E H1 H2 (mz (V,E) v e).1 0 []=H2 v 0 []∧∀s q,mH V E H1 H2 (mz (V,E) v e).1 (mz (V,E) v e).2 (s::q)=H2 v e (s::q):=by
 cases v with
 | zero =>
  refine ⟨by simp [mz,mH],fun s q=>?_⟩
  show mH V E H1 H2 V (E+e) (s::q)=_
  simp only [mH,Nat.lt_irrefl,if_false]
  rw [if_neg (by omega),Nat.add_sub_cancel_left]
 | succ v =>
  have h1:¬ (V+(v+1)<V):=by omega
  have h2:V<V+(v+1):=by omega
  have h3:V+(v+1) - V=v+1:=by omega
  refine ⟨?_,fun s q=>?_⟩
  ·show mH V E H1 H2 (V+(v+1)) 0 []=_
   unfold mH; rw [if_neg h1,if_pos h2,h3]
  ·show mH V E H1 H2 (V+(v+1)) e (s::q)=_
   unfold mH; rw [if_neg h1,if_pos h2,h3]
theorem PM {V E:Nat} {H1 H2:Nat→Nat→List PS→Option Value} (h1:∀v,V<v→∀e p,H1 v e p=none) (h2:∀e,E<e→∀p,H1 V e p=none) (h3:∀x,H1 V 0 []=some x→H2 0 0 []=some x) (h4:∀s q x,H1 V E (s::q)=some x→H2 0 0 (s::q)=some x)
  {v e:Nat} {p:List PS} {x:Value} (h:H1 v e p=some x):mH V E H1 H2 v e p=some x:=by
 unfold mH
 split
 ·exact h
 ·split
  ·rename_i aK; rw [h1 v aK] at h; cases h
  ·have:v=V:=by omega
   subst this
   cases p with
   | nil =>
    simp only
    split
    ·rename_i he; subst he; exact h3 x h
    ·exact h
   | cons s q =>
    simp only
    split
    ·exact h
    ·rename_i dk
     rcases Nat.lt_or_ge E e with aK | hle
     ·rw [h2 e aK] at h; cases h
     ·have:e=E:=by omega
      subst this
      rw [Nat.sub_self]; exact h4 s q x h
theorem R3 {V E:Nat} {H1 H2:Nat→Nat→List PS→Option Value} {v e:Nat} (h:∀v',v<v'→∀e p,H2 v' e p=none) {v':Nat} (hv:(mz (V,E) v e).1<v') (e':Nat) (p:List PS):mH V E H1 H2 v' e' p=none:=by
 have hle:V+v≤(mz (V,E) v e).1:=by cases v <;> simp [mz]
 unfold mH
 rw [if_neg (by omega),if_pos (by omega)]
 exact h _ (by omega) e' p
theorem R4 {V E:Nat} {H1 H2:Nat→Nat→List PS→Option Value} (h2:∀e,E<e→∀p,H1 V e p=none) {v e:Nat} (h:∀e',e<e'→∀p,H2 v e' p=none) {e':Nat} (he:(mz (V,E) v e).2<e') (p:List PS):mH V E H1 H2 (mz (V,E) v e).1 e' p=none:=by
 cases v with
 | zero =>
  show mH V E H1 H2 V e' p=none
  have he:E+e<e':=he
  simp only [mH,Nat.lt_irrefl,if_false]
  cases p with
  | nil=>simp only; rw [if_neg (by omega)]; exact h2 e' (by omega) []
  | cons s q=>simp only; rw [if_neg (by omega)]; exact h _ (by omega) _
 | succ v =>
  show mH V E H1 H2 (V+(v+1)) e' p=none
  have he:e<e':=he
  unfold mH
  rw [if_neg (by omega),if_pos (by omega)]
  have h3:V+(v+1) - V=v+1:=by omega
  rw [h3]; exact h e' he p
end Go.TM
namespace Go.TM
open Go.RowKit
variable [cu]
def s8 (m:Nat) (b:ao) (H1 H2:Nat→Nat→List PS→Option Value) (j:Nat):Nat→Nat→List PS→Option Value :=
 if j<m then (match b with
  | .tree V E _=>mH V E H1 H2
  | .none=>H2
  | _=>H1) else H2
def cF (σ:List Nat) (nx ex:Nat) (κ:Nat→ao) (G1 G2:Gh):Gh where
 M:=G2.M
 β i:=match iK σ nx ex i with
  | some j=>G2.β j
  | none=>G1.β i
 H i:=match iK σ nx ex i with
  | some j=>s8 σ.length (κ i) (G1.H i) (G2.H j) j
  | none=>G1.H i
 X i:=match iK σ nx ex i with
  | some j=>G2.X j
  | none=>G1.X i
theorem ig {κ κ':Nat→ao}:∀{m:Nat},zV κ κ' m=true→∀j,j<m →
  (∃l l',κ j=.cells l∧κ' j=.cells l') ∨ (∃rc st l DC Ol l',κ j=.eA rc st l∧κ' j=.eA DC Ol l') ∨ (∃v e d,κ j=.tree v e d∧(κ' j=.dead ∨ (∃v' e' d',κ' j=.tree v' e' d') ∨ ∃v' d',κ' j=.fz v' d')) ∨ (∃v d d',κ j=.fz v d∧κ' j=.fz 0 d')
 | 0,_,j,h=>by omega
 | m+1,hk,j,hj=>by
  simp only [zV,Bool.and_eq_true] at hk
  rcases Nat.lt_or_ge j m with aK | dk
  ·exact ig hk.2 j aK
  ·have:j=m:=by omega
   subst this
   have h1:=hk.1
   split at h1
   ·rename_i l l' e1 e2; exact .inl ⟨_,_,e1,e2⟩
   ·rename_i e1 e2; exact .inr (.inl ⟨_,_,_,_,_,_,e1,e2⟩)
   ·rename_i e1 e2; exact .inr (.inr (.inl ⟨_,_,_,e1,.inr (.inl ⟨_,_,_,e2⟩)⟩))
   ·rename_i e1 e2; exact .inr (.inr (.inl ⟨_,_,_,e1,.inr (.inr ⟨_,_,e2⟩)⟩))
   ·rename_i e1 e2; exact .inr (.inr (.inl ⟨_,_,_,e1,.inl e2⟩))
   ·rename_i e1 e2; exact .inr (.inr (.inr ⟨_,_,_,e1,e2⟩))
   ·cases h1
theorem zW {ok:Nat→Bool}:∀{K:ah},T0 ok K=true→∀i b,(i,b)∈K→b.R5 ok=true
 | [],_,i,b,h=>by simp at h
 | (j,c)::K,hn,i,b,h=>by
  simp only [T0,Bool.and_eq_true] at hn
  rcases List.mem_cons.1 h with h | h
  ·injection h with e1 e2; subst e2; exact hn.1
  ·exact zW hn.2 i b h
theorem Hz {σ:List Nat} {nx ex:Nat} {κ κ1:Nat→ao} {G0 G1 G2:Gh} {w w2:World} {K0 K1:ah} {rs:List AV} {v:Value}
  (hσ1:∀i,i∈σ→i<nx) (hσ2:σ.Nodup) (iP:∀i,nx≤i→i<nx+ex→κ1 i=.none) (L8:Fit G1 w κ1)
  (WD:∀i,i∈σ→∀V E d,κ i=.tree V E d→(∀v,V<v→∀e p,G1.H i v e p=none)∧∀e,E<e→∀p,G1.H i V e p=none)
  (x4:∀i,i∈σ→κ i=.none→∀v e p,G1.H i v e p=none)
  (XZ:∀j,j<σ.length→∀V E d,κ (sg σ nx j)=.tree V E d→(∀x,G1.H (sg σ nx j) V 0 []=some x→G0.H j 0 0 []=some x)∧∀s q x,G1.H (sg σ nx j) V E (s::q)=some x→G0.H j 0 0 (s::q)=some x)
  (hZ:∀j,j<σ.length→∀V d,κ (sg σ nx j)=.fz V d→∃x,G1.H (sg σ nx j) V 0 []=some x∧G0.H j 0 0 []=some x)
  (hβ0:∀j,j<σ.length→G0.β j=G1.β (sg σ nx j)) (WE:G0.M=G1.M)
  (s9:∀j b,bI G0 j (aa K0 j) b→j<σ.length∧bI G1 (sg σ nx j) (κ1 (sg σ nx j)) b)
  (Gd:∀j,j<σ.length→(∀v e d,aa K0 j=.tree v e d→(∃V E d,κ (sg σ nx j)=.tree V E d) ∨ κ (sg σ nx j)=.none)∧(∀v d,aa K0 j=.fz v d→(∃V E d,κ (sg σ nx j)=.tree V E d) ∨ ∃V d,κ (sg σ nx j)=.fz V d))
  (eQ:gk σ ex K0 K1 rs=true) (hC:JF σ.length ex (aa K0) w G0 rs (aa K1) w2 G2 v) :
  I3 (fun i=>∃j,iK σ nx ex i=some j) κ1 (aw κ1 (bU (sg σ nx) (jw κ σ) K1)) G1 (cF σ nx ex κ G1 G2) w w2∧(∀i,i<nx→(cF σ nx ex κ G1 G2).β i=G1.β i)∧aE (cF σ nx ex κ G1 G2) (ld (sg σ nx) (jw κ σ) (ia rs)) v:=by
 simp only [gk,Bool.and_eq_true] at eQ
 obtain ⟨⟨⟨ec,Ed⟩,TW⟩,JO⟩:=eQ
 have dr:=JK hσ1 hσ2
 have Rq:∀j,j<σ.length+ex→iK σ nx ex (sg σ nx j)=some j:=fun j hj=>MA hσ1 hσ2 hj
 have BS:∀j (h:j<σ.length),sg σ nx j∈σ:=fun j h=>by rw [iJ h]; exact List.getElem_mem h
 have gm:∀j,σ.length+ex≤j→G2.β j=none∧∀v e p,G2.H j v e p=none:=fun j hj=>by
  have:=hC.fit.box j; rw [hC.no j hj] at this; exact this
 have Omβ:∀j,j<σ.length+ex→(cF σ nx ex κ G1 G2).β (sg σ nx j)=G2.β j:=fun j hj=>by simp only [cF,Rq j hj]
 have X0:∀j,j<σ.length+ex→(cF σ nx ex κ G1 G2).X (sg σ nx j)=G2.X j:=fun j hj=>by simp only [cF,Rq j hj]
 have HA:∀j,j<σ.length+ex→(cF σ nx ex κ G1 G2).H (sg σ nx j)=s8 σ.length (κ (sg σ nx j)) (G1.H (sg σ nx j)) (G2.H j) j:=fun j hj=>by simp only [cF,Rq j hj]
 have U2:∀j (h:j<σ.length),jw κ σ j=JI (κ (sg σ nx j)):=fun j h=>by rw [JH h,iJ h]
 have HT:∀j,j<σ.length+ex→(j<σ.length→(∃V E d,κ (sg σ nx j)=.tree V E d) ∨ κ (sg σ nx j)=.none) →
   (∀v e,aB (cF σ nx ex κ G1 G2).H (sg σ nx j) (mz (jw κ σ j) v e).1 (mz (jw κ σ j) v e).2=aB G2.H j v e) ∧
   (∀v e,(∀v',v<v'→∀e p,G2.H j v' e p=none)→∀v',(mz (jw κ σ j) v e).1<v'→∀e p,(cF σ nx ex κ G1 G2).H (sg σ nx j) v' e p=none) ∧
   (∀v e,(∀e',e<e'→∀p,G2.H j v e' p=none)→∀e',(mz (jw κ σ j) v e).2<e'→∀p,(cF σ nx ex κ G1 G2).H (sg σ nx j) (mz (jw κ σ j) v e).1 e' p=none):=by
  intro j hj hc
  have plain:(cF σ nx ex κ G1 G2).H (sg σ nx j)=G2.H j→jw κ σ j=(0,0)→_:=fun h1 h2 =>
   (show (∀v e,aB (cF σ nx ex κ G1 G2).H (sg σ nx j) (mz (jw κ σ j) v e).1 (mz (jw κ σ j) v e).2=aB G2.H j v e) ∧
   (∀v e,(∀v',v<v'→∀e p,G2.H j v' e p=none)→∀v',(mz (jw κ σ j) v e).1<v'→∀e p,(cF σ nx ex κ G1 G2).H (sg σ nx j) v' e p=none) ∧
   (∀v e,(∀e',e<e'→∀p,G2.H j v e' p=none)→∀e',(mz (jw κ σ j) v e).2<e'→∀p,(cF σ nx ex κ G1 G2).H (sg σ nx j) (mz (jw κ σ j) v e).1 e' p=none) by
    rw [h2]
    simp only [ic]
    refine ⟨fun v e=>funext fun p=>by cases p <;> simp only [aB,h1],fun v e h v' hv e p=>by rw [h1]; exact h v' hv e p,fun v e h e' he p=>by rw [h1]; exact h e' he p⟩)
  rcases Nat.lt_or_ge j σ.length with aK | dk
  ·rcases hc aK with ⟨V,E,d,hk⟩ | hk
   ·have h1:(cF σ nx ex κ G1 G2).H (sg σ nx j)=mH V E (G1.H (sg σ nx j)) (G2.H j):=by rw [HA j hj]; simp only [s8,if_pos aK,hk]
    have h2:jw κ σ j=(V,E):=by rw [U2 j aK,hk]; rfl
    obtain ⟨u1,u2⟩:=WD _ (BS j aK) V E d hk
    rw [h2]
    refine ⟨fun v e=>funext fun p=>?_,fun v e h v' hv e' p=>by rw [h1]; exact R3 h hv e' p,fun v e h e' he p=>by rw [h1]; exact R4 u2 h he p⟩
    cases p with
    | nil=>simp only [aB,h1]; exact (JN v e).1
    | cons s q=>simp only [aB,h1]; exact (JN v e).2 s q
   ·exact plain (by rw [HA j hj]; simp only [s8,if_pos aK,hk]) (by rw [U2 j aK,hk]; rfl)
  ·exact plain (by rw [HA j hj]; simp only [s8,if_neg (Nat.not_lt.2 dk)]) (Gc dk)
 have hpβ:∀j b,G2.β j=some b→(cF σ nx ex κ G1 G2).β (sg σ nx j)=some b:=by
  intro j b hb
  rcases Nat.lt_or_ge j (σ.length+ex) with aK | dk
  ·rw [Omβ j aK]; exact hb
  ·rw [(gm j dk).1] at hb; cases hb
 have X1:∀j v e p x,Eg σ.length (aa K0) j=true→aB G2.H j v e p=some x→aB (cF σ nx ex κ G1 G2).H (sg σ nx j) (mz (jw κ σ j) v e).1 (mz (jw κ σ j) v e).2 p=some x:=by
  intro j v e p x bJ hx
  rcases Nat.lt_or_ge j (σ.length+ex) with aK | dk
  ·rw [(HT j aK fun hj=>?_).1]
   ·exact hx
   ·simp only [Eg] at bJ
    rw [show Nat.blt j σ.length=true by rw [Nat.blt_eq]; exact hj] at bJ
    simp only [cond_true] at bJ
    split at bJ
    ·rename_i d hd; exact (Gd j hj).1 _ _ _ hd
    ·cases bJ
  ·cases p with
   | nil=>simp only [aB] at hx; rw [(gm j dk).2] at hx; cases hx
   | cons s q=>simp only [aB] at hx; rw [(gm j dk).2] at hx; cases hx
 have JP:=JM (G2:=G2) (G3:=cF σ nx ex κ G1 G2) (r:=sg σ nx) (sh:=jw κ σ) (ok:=Eg σ.length (aa K0)) (Mem.Le.refl _) hpβ X1
 have hκ3:∀j,aw κ1 (bU (sg σ nx) (jw κ σ) K1) (sg σ nx j)=if j∈keys K1 then qv (sg σ nx) (jw κ σ) j (aa K1 j) else κ1 (sg σ nx j):=fun j=>n7 dr _ K1 j
 have zQ:∀j,j<σ.length→j∈keys K1:=fun j hj=>by
  refine Classical.byContradiction fun hn=>?_
  have h0:=fM hn
  rcases ig ec j hj with ⟨_,_,_,h⟩ | ⟨_,_,_,_,_,_,_,h⟩ | ⟨_,_,_,_,h | ⟨_,_,_,h⟩ | ⟨_,_,h⟩⟩ | ⟨_,_,_,_,h⟩ <;> rw [h0] at h <;> cases h
 have dm:∀j,j<σ.length+ex→j ∉ keys K1→κ1 (sg σ nx j)=.none:=fun j hj hn=>by
  rcases Nat.lt_or_ge j σ.length with aK | dk
  ·exact absurd (zQ j aK) hn
  ·rw [ie dk]; exact iP _ (by omega) (by omega)
 have qw:∀j,j<σ.length+ex→∀v e d,aa K1 j=.tree v e d→(j<σ.length→(∃V E d,κ (sg σ nx j)=.tree V E d) ∨ κ (sg σ nx j)=.none):=by
  intro j hj v e d hd aK
  rcases ig ec j aK with ⟨_,_,_,h⟩ | ⟨_,_,_,_,_,_,_,h⟩ | ⟨_,_,_,h0,_⟩ | ⟨_,_,_,_,h⟩
  ·rw [hd] at h; cases h
  ·rw [hd] at h; cases h
  ·exact (Gd j aK).1 _ _ _ h0
  ·rw [hd] at h; cases h
 have gZ:∀j,j<σ.length+ex→∀b,bI (cF σ nx ex κ G1 G2) (sg σ nx j) (aw κ1 (bU (sg σ nx) (jw κ σ) K1) (sg σ nx j)) b→bI G2 j (aa K1 j) b:=by
  intro j hj b ho
  rw [hκ3] at ho
  by_cases hk:j∈keys K1
  ·rw [if_pos hk] at ho
   cases hl:aa K1 j with
   | cells l=>rw [hl] at ho; simp only [qv,bI] at ho ⊢; rw [Omβ j hj] at ho; exact ho
   | tree v e d=>rw [hl] at ho; simp only [qv,bI] at ho ⊢; rw [(HT j hj (qw j hj v e d hl)).1] at ho; exact ho
   | eA rc st l=>rw [hl] at ho; simp only [qv,bI] at ho ⊢; rw [Omβ j hj] at ho; exact ho
   | _=>rw [hl] at ho; exact ho.elim
  ·rw [if_neg hk,dm j hj hk] at ho; exact ho.elim
 have X2:Gh.Le G1 (cF σ nx ex κ G1 G2):=by
  refine ⟨by have:=hC.le; rw [WE] at this; exact this,fun i b hb=>?_,fun i v e p x hx=>?_⟩
  ·cases oz:iK σ nx ex i with
   | none=>simp only [cF,oz]; exact hb
   | some j =>
    obtain ⟨hj,rfl⟩:=gQ oz
    rw [Omβ j hj]
    rcases Nat.lt_or_ge j σ.length with aK | dk
    ·rw [hC.jU j aK,hβ0 j aK]; exact hb
    ·have dJ:=L8.box (sg σ nx j)
     rw [ie dk,iP _ (by omega) (by omega)] at dJ
     rw [ie dk,dJ.1] at hb; cases hb
  ·cases oz:iK σ nx ex i with
   | none=>simp only [cF,oz]; exact hx
   | some j =>
    obtain ⟨hj,rfl⟩:=gQ oz
    rw [HA j hj]
    rcases Nat.lt_or_ge j σ.length with aK | dk
    ·simp only [s8,if_pos aK]
     cases hk:κ (sg σ nx j) with
     | tree V E d =>
      obtain ⟨u1,u2⟩:=WD _ (BS j aK) V E d hk
      obtain ⟨q1,q2⟩:=XZ j aK V E d hk
      exact PM u1 u2 (fun x h=>hC.rp j aK [] x (q1 x h)) (fun s q x h=>hC.rp j aK (s::q) x (q2 s q x h)) hx
     | none=>rw [x4 _ (BS j aK) hk] at hx; cases hx
     | _=>exact hx
    ·have dJ:=L8.box (sg σ nx j)
     rw [ie dk,iP _ (by omega) (by omega)] at dJ
     rw [ie dk,dJ.2] at hx; cases hx
 refine ⟨⟨X2,fun i hi=>?_,fun i hi=>?_,fun i hi=>?_,fun b hb JQ=>?_,hC.fit.sub,?_,?_,?_,hC.size,hC.os,hC.tape,hC.output⟩,fun i hi=>?_,?_⟩
 ·have:iK σ nx ex i=none:=by cases h:iK σ nx ex i with | none=>rfl | some j=>exact absurd ⟨j,h⟩ hi
  simp only [cF,this]
 ·refine mf _ K1 i fun j hj e=>hi ⟨j,?_⟩
  rw [←e]; exact Rq j (c9 Ed j hj)
 ·have:iK σ nx ex i=none:=by cases h:iK σ nx ex i with | none=>rfl | some j=>exact absurd ⟨j,h⟩ hi
  simp only [cF,this]
  exact ⟨fun _ h=>h,fun _ _ _ _ h=>h⟩
 ·have:=hC.frame b hb fun j ho=>by
   obtain ⟨hj,g9⟩:=s9 j b ho
   exact JQ _ ⟨j,Rq j (by omega)⟩ g9
  rw [WE] at this
  exact this
 ·rintro i ⟨j,oz⟩
  obtain ⟨hj,rfl⟩:=gQ oz
  have cw:=hC.fit.box j
  rw [hκ3]
  by_cases hk:j∈keys K1
  ·rw [if_pos hk]
   have R6:(j,aa K1 j)∈K1 ∨ aa K1 j=.none:=(fJ (K:=K1) (i:=j)).symm
   cases hl:aa K1 j with
   | none=>trivial
   | dead=>trivial
   | held=>trivial
   | jb _ _ _ _ _=>trivial
   | cells l =>
    rw [hl] at cw
    obtain ⟨b,c,t,h1,h2,h3,h4,h5⟩:=cw
    have PN:AV.xD (Eg σ.length (aa K0)) l=true:=by
     rcases R6 with h | h
     ·have:=zW JO j _ h; rw [hl] at this; exact this
     ·rw [hl] at h; cases h
    refine ⟨b,c,t,by rw [Omβ j hj]; exact h1,h2,by rw [h3,m5],fun u hu=>?_,fun q d y hd hy=>?_⟩
    ·obtain ⟨q,hq⟩:=List.getElem?_of_mem hu
     rw [vB] at hq
     cases U3:l[q]? with
     | none=>rw [U3] at hq; simp at hq
     | some u0=>rw [U3] at hq; simp at hq; subst hq; rw [Ef]; exact h4 u0 (List.mem_of_getElem? U3)
    ·have:=(JP (SizeOf.sizeOf l+1)).2 l c.toList (by omega) PN ⟨by simp [h3],fun q d y hd hy=>h5 q d y hd (by simpa using hy)⟩
     exact this.2 q d y hd (by simpa using hy)
   | tree v e d =>
    rw [hl] at cw
    obtain ⟨q1,q2,q3⟩:=HT j hj (qw j hj v e d hl)
    refine ⟨?_,?_,q2 v e cw.2.2.1,q3 v e cw.2.2.2⟩
    ·rw [q1]; exact cw.1
    ·rw [q1]; exact cw.2.1
   | fz v d =>
    rw [hl] at cw
    obtain ⟨u,h1,h2,h3⟩:=cw
    refine ⟨u,?_,h2,h3⟩
    have PO:(j<σ.length→(∃V E d,κ (sg σ nx j)=.tree V E d) ∨ κ (sg σ nx j)=.none)→(cF σ nx ex κ G1 G2).H (sg σ nx j) (mz (jw κ σ j) v 0).1 0 []=some u:=fun hh=>by
     have:=congrFun ((HT j hj hh).1 v 0) []
     simp only [aB] at this
     rw [this]; exact h1
    rcases Nat.lt_or_ge j σ.length with aK | dk
    ·rcases ig ec j aK with ⟨_,_,_,h⟩ | ⟨_,_,_,_,_,_,_,h⟩ | ⟨_,_,_,h0,_⟩ | ⟨_,_,_,h0,h⟩
     ·rw [hl] at h; cases h
     ·rw [hl] at h; cases h
     ·exact PO fun _=>(Gd j aK).1 _ _ _ h0
     ·rw [hl] at h; injection h with e1 e2
      subst e1
      rcases (Gd j aK).2 _ _ h0 with hT | ⟨V,d',hF⟩
      ·exact PO fun _=>.inl hT
      ·obtain ⟨x,p1,p2⟩:=hZ j aK V d' hF
       have p3:=hC.rp j aK [] x p2
       rw [h1] at p3; injection p3 with p3; subst p3
       rw [HA j hj]
       simp only [s8,if_pos aK,hF]
       rw [U2 j aK,hF]
       exact p1
    ·exact PO fun h=>absurd h (by omega)
   | eA rc st l =>
    rw [hl] at cw
    obtain ⟨b,fn,tmps,D,h1,h2,h3⟩:=cw
    have PN:AV.xD (Eg σ.length (aa K0)) l=true:=by
     rcases R6 with h | h
     ·have:=zW JO j _ h; rw [hl] at this; exact this
     ·rw [hl] at h; cases h
    exact ⟨b,fn,tmps,D,by rw [Omβ j hj]; exact h1,h2,(JP (SizeOf.sizeOf l+1)).2 l tmps.toList (by omega) PN h3⟩
  ·rw [if_neg hk,dm j hj hk]
   rw [fM hk] at cw
   refine ⟨by rw [Omβ j hj]; exact cw.1,fun v e p=>?_⟩
   rw [HA j hj]
   rcases Nat.lt_or_ge j σ.length with aK | dk
   ·exact absurd (zQ j aK) hk
   ·simp only [s8,if_neg (Nat.not_lt.2 dk)]; exact cw.2 v e p
 ·rintro i b ⟨j,oz⟩ ho
  obtain ⟨hj,rfl⟩:=gQ oz
  have Dy:=gZ j hj b ho
  refine ⟨?_,hC.fit.own j b Dy⟩
  rcases hC.m8 j b Dy with h | ⟨q,hq⟩
  ·exact .inl h
  ·obtain ⟨h1,h2⟩:=s9 q b hq
   exact .inr ⟨_,⟨q,Rq q (by omega)⟩,h2⟩
 ·rintro i i' b ⟨j,oz⟩ ⟨j',U4⟩ ho g9
  obtain ⟨hj,rfl⟩:=gQ oz
  obtain ⟨oG,rfl⟩:=gQ U4
  rw [hC.fit.inj j j' b (gZ j hj b ho) (gZ j' oG b g9)]
 ·cases oz:iK σ nx ex i with
  | none=>simp only [cF,oz]
  | some j =>
   obtain ⟨hj,rfl⟩:=gQ oz
   rw [Omβ j hj]
   rcases Nat.lt_or_ge j σ.length with aK | dk
   ·rw [hC.jU j aK,hβ0 j aK]
   ·rw [ie dk] at hi; omega
 ·refine (JP (SizeOf.sizeOf (ia rs)+1)).1 (ia rs) v (by omega) ?_ hC.res
  match rs,TW with
  | [],_=>rfl
  | [d],h=>simp only [AV.xD,Bool.and_eq_true] at h; exact h.1
  | _::_::_,h=>exact h
end Go.TM
