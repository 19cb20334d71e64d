import Derived.Test.YtfcfbfkjdenpdaaK3M9
set_option linter.unusedVariables false
set_option linter.unusedSimpArgs false
set_option linter.unusedSectionVars false
namespace Go.TM
open Go.RowKit
variable [Glob]
theorem slots_length (ρ:Nat→AV):∀(k s:Nat),(slots ρ s k).length=k
 | 0,_=>rfl
 | k+1,s=>by simp [slots,slots_length ρ k]
theorem slots_get (ρ:Nat→AV):∀(k s j:Nat) (v:AV),(slots ρ s k)[j]?=some v→v=ρ (s+j)
 | 0,_,j,v,h=>by simp [slots] at h
 | k+1,s,0,v,h=>by simp [slots] at h; exact h.symm
 | k+1,s,j+1,v,h=>by
  simp only [slots,List.getElem?_cons_succ] at h
  rw [slots_get ρ k (s+1) j v h,Nat.add_right_comm,Nat.add_assoc]
section
variable {g:Org} {n:Nat} {ρ:Nat→AV} {κ:Nat→Box} {a:Act} {w:World} {G:Gh}
theorem StM.putOwn (h:StM g n ρ κ a w G) {i b:Nat} {o:Obj} {bx:Box} (hown:Own G i (κ i) b) (honly:∀c,Own G i bx c→c=b) (hbox:BoxAt G (w.putObj b o) i bx) :
  StM g n ρ (upd κ i bx) a (w.putObj b o) G:=by
 have hlt:b<w.heap.size:=hown.lt h.fit
 have hMl:G.M b=none:=h.fit.own i b hown
 refine h.turn (C:=fun j=>j=i) ⟨.refl G,fun _ _=>rfl,fun j hj=>upd_other _ _ hj,fun _ _=>⟨fun _ q=>q,fun _ _ _ _ q=>q⟩,fun c hc hno=>⟨putObj_other _ _ (fun e=>hno i rfl (by rw [e]; exact hown)),rfl⟩,fun c o' hc=>?_,?_,?_,fun _ _ _ h1 h2 _ _=>h1.trans h2.symm,by rw [putObj_size]; exact Nat.le_refl _,rfl,rfl,rfl⟩ (fun _ _=>rfl)
 ·rw [putObj_other _ _ (fun e=>by rw [e,hMl] at hc; cases hc)]; exact h.fit.sub c o' hc
 ·rintro j rfl
  rw [upd_same]; exact hbox
 ·rintro j c rfl ho
  rw [upd_same] at ho
  have:=honly c ho
  subst this
  exact ⟨.inr ⟨j,rfl,hown⟩,hMl⟩
theorem StM.setRcd (h:StM g n ρ κ a w G) {i b:Nat} {rc:RC} {st:RSt} {l:List AV} (hi:κ i=.rcd rc st l) (hb:G.β i=some b) :
  ∃r:Loop,w.heap[b]?=some (.loop r)∧r.state=st.st∧r.pending=st.pend∧(∀st':RSt,StM g n ρ (upd κ i (.rcd rc st' l)) a (w.putObj b (.loop { r with state:=st'.st,pending:=st'.pend })) G) ∧
   ∀o,StM g n ρ (upd κ i .dead) a (w.putObj b o) G:=by
 have hx:=h.fit.box i
 rw [hi] at hx
 obtain ⟨b',fn,tmps,D,h1,h2,h3⟩:=hx
 rw [hb] at h1; injection h1 with h1; subst h1
 have hlt:b<w.heap.size:=(Array.getElem?_eq_some_iff.1 h2).1
 have hown:Own G i (κ i) b:=by rw [hi]; exact hb
 refine ⟨_,h2,rfl,rfl,fun st'=>h.putOwn hown (fun c hc=>?_) ⟨b,fn,tmps,D,hb,World.putObj_heap_same hlt,h3⟩,fun o=>h.putOwn hown (fun c hc=>hc.elim) trivial⟩
 have hc':G.β i=some c:=hc
 rw [hb] at hc'; injection hc' with hc'; exact hc'.symm
def Org.upto (g:Org) (m:Nat) (β:Nat→Option Nat):Org:={ g with m:=m,β:=β,H:=fun i p=>if i<g.m then g.H i p else none }
theorem StM.upto (h:StM g n ρ κ a w G) (m:Nat):StM (g.upto m G.β) n ρ κ a w G:=by
 refine ⟨h.fit,h.env,h.size,h.bel,h.os,h.tape,h.output,h.grow,h.mem,h.mlow,h.ownhi,fun _ _=>rfl,fun i _ p x hx=>?_,h.glob,h.dfr⟩
 have hx':(if i<g.m then g.H i p else none)=some x:=hx
 split at hx'
 ·rename_i hi; exact h.hed i hi p x hx'
 ·cases hx'
theorem StM.downto {β:Nat→Option Nat} {m:Nat} (h:StM (g.upto m β) n ρ κ a w G) (hm:g.m≤m) (hβ:∀i,i<g.m→β i=g.β i):StM g n ρ κ a w G:=by
 refine ⟨h.fit,h.env,h.size,h.bel,h.os,h.tape,h.output,h.grow,h.mem,h.mlow,h.ownhi,fun i hi=>(h.bet i (Nat.lt_of_lt_of_le hi hm)).trans (hβ i hi),fun i hi p x hx=>h.hed i (Nat.lt_of_lt_of_le hi hm) p x ?_,h.glob,h.dfr⟩
 show (if i<g.m then g.H i p else none)=some x
 rw [if_pos hi]; exact hx
theorem StM.enterLoop (h:StM g n ρ κ a w G) {nx:Nat} (hn:κ nx=.none) (hgm:g.m≤nx) (rc:RC) (fn:FuncId) :
  StM g n ρ (upd κ nx (.rcd rc .ready (slots ρ 0 n))) { a with defers:=mark w.heap.size::a.defers } ((w.alloc (.deferred (some []))).alloc (.loop { state:=.ready,pending:=none,fn:=fn,tmps:=a.tmps,params:=rc.ps,assign:=rc.as,body:=rc.bd,defers:=w.heap.size })) { G with β:=upd G.β nx (some (w.heap.size+1)) } ∧
   Gh.Le G { G with β:=upd G.β nx (some (w.heap.size+1)) }:=by
 have hbn:=h.fit.box nx
 rw [hn] at hbn
 generalize hr:({ state:=.ready,pending:=none,fn:=fn,tmps:=a.tmps,params:=rc.ps,assign:=rc.as,body:=rc.bd,defers:=w.heap.size }:Loop)=r
 have hle:Gh.Le G { G with β:=upd G.β nx (some (w.heap.size+1)) } :=
  ⟨Mem.Le.refl _,fun i b hb=>by
   by_cases e:i=nx
   ·subst e; rw [hbn.1] at hb; cases hb
   ·show upd G.β nx _ i=some b
    rw [upd_other _ _ e]; exact hb,fun _ _ _ _ _ q=>q⟩
 have hsz:((w.alloc (.deferred (some []))).alloc (.loop r)).heap.size=w.heap.size+2:=by rw [World.size_alloc,World.size_alloc]
 have hlow:∀b,b<w.heap.size→((w.alloc (.deferred (some []))).alloc (.loop r)).heap[b]?=w.heap[b]?:=fun b hb=>by
  rw [heap_alloc_lt _ _ (by rw [World.size_alloc]; omega),heap_alloc_lt _ _ hb]
 have hat0:((w.alloc (.deferred (some []))).alloc (.loop r)).heap[w.heap.size]?=some (.deferred (some [])):=by
  rw [heap_alloc_lt _ _ (by rw [World.size_alloc]; omega)]; exact heap_alloc_at _ _
 have hat1:((w.alloc (.deferred (some []))).alloc (.loop r)).heap[w.heap.size+1]?=some (.loop r):=by
  have:=heap_alloc_at (w.alloc (.deferred (some []))) (.loop r)
  rwa [World.size_alloc] at this
 have hMin:G.M.In ((w.alloc (.deferred (some []))).alloc (.loop r)):=(h.fit.sub.alloc _).alloc _
 have hMhi:∀b,w.heap.size≤b→G.M b=none:=fun b hb=>Mem.In.none_of h.fit.sub hb
 have hcr:CRel { G with β:=upd G.β nx (some (w.heap.size+1)) } (slots ρ 0 n) a.tmps.toList:=by
  refine ⟨by rw [slots_length]; simp [h.size],fun j d v hd hv=>?_⟩
  have:=slots_get ρ n 0 j d hd
  rw [Nat.zero_add] at this
  subst this
  have he:=(h.env j).mono hle
  have hv':a.tmps.getD j undef=v:=by
   rw [Array.getD_eq_getD_getElem?]
   rw [Array.getElem?_toList] at hv
   rw [hv]; rfl
  rw [hv'] at he; exact he
 have st:=h.turn (κ':=upd κ nx (.rcd rc .ready (slots ρ 0 n))) (G':={ G with β:=upd G.β nx (some (w.heap.size+1)) }) (w':=(w.alloc (.deferred (some []))).alloc (.loop r)) (C:=fun j=>j=nx)
  ⟨hle,fun _ _=>rfl,fun j hj=>upd_other _ _ hj,fun j hj=>⟨fun x hx=>by
    have:upd G.β nx (some (w.heap.size+1)) j=some x:=hx
    rwa [upd_other _ _ hj] at this,fun _ _ _ _ q=>q⟩,fun b hb _=>⟨hlow b hb,rfl⟩,hMin,by
    rintro j rfl
    rw [upd_same]
    exact ⟨w.heap.size+1,fn,a.tmps,w.heap.size,upd_same _ _ _,by rw [hat1,←hr]; rfl,hcr⟩,by
    rintro j b rfl ho
    rw [upd_same] at ho
    have hb:some (w.heap.size+1)=some b:=by
     have:upd G.β j (some (w.heap.size+1)) j=some b:=ho
     rwa [upd_same] at this
    injection hb with hb
    exact ⟨.inl (by omega),hMhi b (by omega)⟩,fun _ _ _ h1 h2 _ _=>h1.trans h2.symm,by rw [hsz]; omega,rfl,rfl,rfl⟩
  (fun i hi=>by
   show upd G.β nx _ i=G.β i
   exact upd_other _ _ (by omega))
 refine ⟨{ st with dfr:=?_ },hle⟩
 obtain ⟨D,h1,h2,h3⟩:=h.dfr
 have hDlt:∀q,q∈D→q<w.heap.size:=fun q hq=>(Array.getElem?_eq_some_iff.1 (h3 q hq).1).1
 have key:∀i,∀q,q≤w.heap.size→Own { G with β:=upd G.β nx (some (w.heap.size+1)) } i (upd κ nx (.rcd rc .ready (slots ρ 0 n)) i) q→Own G i (κ i) q:=by
  intro i q hq ho
  by_cases e:i=nx
  ·subst e
   rw [upd_same] at ho
   have:upd G.β i (some (w.heap.size+1)) i=some q:=ho
   rw [upd_same] at this
   injection this with this
   omega
  ·rw [upd_other _ _ e] at ho
   cases hk:κ i with
   | cells l=>rw [hk] at ho; have:upd G.β nx (some (w.heap.size+1)) i=some q:=ho; rwa [upd_other _ _ e] at this
   | rcd rc st l=>rw [hk] at ho; have:upd G.β nx (some (w.heap.size+1)) i=some q:=ho; rwa [upd_other _ _ e] at this
   | _=>rw [hk] at ho; exact ho
 refine ⟨w.heap.size::D,by rw [List.map_cons,←h1],List.nodup_cons.2 ⟨fun hm=>Nat.lt_irrefl _ (hDlt _ hm),h2⟩,fun q hq=>?_⟩
 rcases List.mem_cons.1 hq with rfl | hq
 ·exact ⟨hat0,fun i ho=>Nat.lt_irrefl _ ((key i _ (Nat.le_refl _) ho).lt h.fit),hMhi _ (Nat.le_refl _),h.grow⟩
 ·obtain ⟨a1,a2,a3,a4⟩:=h3 q hq
  exact ⟨by rw [hlow q (hDlt q hq)]; exact a1,fun i ho=>a2 i (key i q (Nat.le_of_lt (hDlt q hq)) ho),a3,a4⟩
end
end Go.TM
namespace Go.TM
open Go.RowKit
variable [Glob]
theorem lookB_cons (i:Nat) (b:Box) (K:Boxes):lookB ((i,b)::K)=upd (lookB K) i b:=by
 funext t
 simp only [lookB,upd]
 by_cases h:t=i
 ·subst h; simp
 ·rw [if_neg h]; simp [beq_false h]
theorem neK_spec {κ:Nat→Box}:∀{m:Nat},neK κ m=true→∀j,j<m→(match κ j with | .none=>false | .dead=>false | _=>true)=true
 | 0,_,j,hj=>by omega
 | m+1,h,j,hj=>by
  simp only [neK,Bool.and_eq_true] at h
  rcases Nat.lt_or_ge j m with hlt | hge
  ·exact neK_spec h.2 j hlt
  ·have:j=m:=by omega
   subst this; exact h.1
theorem range_snd (P:Program):RangeSnd P:=by
 intro g n nx env K a w x ps assign body Q R h hs hR
 obtain ⟨rc,rfl,h⟩:=h
 obtain ⟨⟨G,hst⟩,hgm,hn⟩:=hs
 have core:∀(f:Nat) (caps:List AV) (vs:List Value),a.eval x=.func (.func f) #[] vs.toArray→CRel G caps vs →
   arangeF P nx env ((nx,.rcd ⟨ps,assign,body⟩ .ready (slots (look env) 0 n))::K) f caps Q→(Code.rangeFunc x ps assign body).wpIn Fence.wide 0 P R a w:=by
  intro f caps vs hx hcr hh
  obtain ⟨σ,args0,K0,ex,R0,hspec,hchk,hsW,hsB,hout⟩:=hh
  refine wpIn_rangeFunc fun fn _=>?_
  obtain ⟨st1,hle⟩:=hst.enterLoop (hn nx (Nat.le_refl _)) hgm ⟨ps,assign,body⟩ fn
  rw [←lookB_cons] at st1
  have st2:=st1.upto (nx+1)
  have hbet:∀i,i<g.m→upd G.β nx (some (w.heap.size+1)) i=g.β i:=fun i hi=>by rw [upd_other _ _ (by omega)]; exact hst.bet i hi
  simp only [Bool.and_eq_true] at hchk
  have hrel:CRel { G with β:=upd G.β nx (some (w.heap.size+1)) } (.yld nx::caps) (.func (.yield (w.heap.size+1)) #[] #[]::vs):=by
   have h1:CRel { G with β:=upd G.β nx (some (w.heap.size+1)) } [.yld nx] [.func (.yield (w.heap.size+1)) #[] #[]] :=
    ⟨rfl,fun j d v hd hv=>by
     cases j with
     | zero=>simp at hd hv; subst hd; subst hv; exact .yld nx _ (upd_same _ _ _)
     | succ j=>simp at hd⟩
   exact h1.append (hcr.mono hle)
  obtain ⟨β,_,hrun⟩:=callR_core (hd:=none) (nx:=nx+1) (κ:=lookB ((nx,.rcd ⟨ps,assign,body⟩ .ready (slots (look env) 0 n))::K)) (callF_mono P f) hspec.2
   (fun i hi=>by rw [lookB_cons,upd_other _ _ (by omega)]; exact hn i (by omega)) (by simp only [Bool.and_eq_true]; exact ⟨hchk.1,rfl⟩) hsW hsB (fun rs K1 hr=>(hout rs K1 hr).1) (neK_spec hchk.2) (Nat.le_refl _) st2 hrel (fun _ _=>rfl)
  refine ⟨w.heap.size+1,[mark w.heap.size],((w.alloc (.deferred (some []))).alloc (.loop { state:=.ready,pending:=none,fn:=fn,tmps:=a.tmps,params:=ps,assign:=assign,body:=body,defers:=w.heap.size })),⟨.fn (.func f) vs.toArray,#[.func (.yield (w.heap.size+1)) #[] #[]]⟩,((w.alloc (.deferred (some []))).alloc (.loop { state:=.ready,pending:=none,fn:=fn,tmps:=a.tmps,params:=ps,assign:=assign,body:=body,defers:=w.heap.size })),f,(Value.func (.yield (w.heap.size+1)) #[] #[]::vs).toArray,((w.alloc (.deferred (some []))).alloc (.loop { state:=.ready,pending:=none,fn:=fn,tmps:=a.tmps,params:=ps,assign:=assign,body:=body,defers:=w.heap.size })),run_enterLoop_outer fn a.tmps ps assign body,?_,fun _ _=>trivial,?_,(fun h=>by cases h),?_⟩
  ·have h0:(#[]++Array.map a.eval #[Operand.const (Value.func (Fn.yield (w.heap.size+1)) #[] #[])])=#[Value.func (Fn.yield (w.heap.size+1)) #[] #[]]:=by simp [Act.eval]
   simp only [resolve,rangeCall,hx,Deferred.ofValue,Sem.run_pure]
   rw [h0]
  ·have:(#[Value.func (.yield (w.heap.size+1)) #[] #[]]++vs.toArray)=(Value.func (.yield (w.heap.size+1)) #[] #[]::vs).toArray:=by simp
   simp only [invoke]
   rw [this]
   exact callable_run hspec.1 _ _
  ·refine (wide_wide.calls).2 (Calls.mono hrun ?_)
   rintro e w2 ⟨v,rs,K2,G3,rfl,hr0,st3,_⟩
   obtain ⟨hko,hq⟩:=hout rs K2 hr0
   rw [forceK_eq] at hq
   rw [←lookB_addB] at st3
   have hnone:∀i,nx+1+ex≤i→lookB (addB (renK (sg σ (nx+1)) (shs (lookB ((nx,.rcd ⟨ps,assign,body⟩ .ready (slots (look env) 0 n))::K)) σ) K2++frz (lookB ((nx,.rcd ⟨ps,assign,body⟩ .ready (slots (look env) 0 n))::K)) (fidws (lookB ((nx,.rcd ⟨ps,assign,body⟩ .ready (slots (look env) 0 n))::K)) (rens (sg σ (nx+1)) zsh args0) (.yld nx::caps)++fidsB (lookB ((nx,.rcd ⟨ps,assign,body⟩ .ready (slots (look env) 0 n))::K)) (renK (sg σ (nx+1)) zsh K0))) ((nx,.rcd ⟨ps,assign,body⟩ .ready (slots (look env) 0 n))::K)) i=.none:=by
    have hn1:∀i,nx+1≤i→lookB ((nx,.rcd ⟨ps,assign,body⟩ .ready (slots (look env) 0 n))::K) i=.none:=fun i hi=>by rw [lookB_cons,upd_other _ _ (by omega)]; exact hn i (by omega)
    refine none_after hn1 (Nat.le_add_right _ _) fun p hp=>?_
    have hkl1:keysLt (σ.length+ex) K2=true:=by
     have:=hko
     simp only [outKChk,Bool.and_eq_true] at this
     exact this.1.1.2
    have hσ1:∀i,i∈σ→i<nx+1:=by
     have:=hchk.1
     simp only [callChk,Bool.and_eq_true] at this
     exact (sigOk_spec this.1.1.1.1.1.1).1
    rcases List.mem_append.1 hp with hp | hp
    ·obtain ⟨j,h1,h2⟩:=mem_renK (i:=p.1) (b:=p.2) hp
     have hj:=keysLt_mem hkl1 j h1
     rw [h2]
     rcases Nat.lt_or_ge j σ.length with hlt | hge
     ·have:=hσ1 _ (by rw [sg_lt hlt]; exact List.getElem_mem hlt:sg σ (nx+1) j∈σ); omega
     ·rw [sg_ge hge]; omega
    ·have:=frz_lt hn1 hp; omega
   generalize hK3:addB (renK (sg σ (nx+1)) (shs (lookB ((nx,.rcd ⟨ps,assign,body⟩ .ready (slots (look env) 0 n))::K)) σ) K2++frz (lookB ((nx,.rcd ⟨ps,assign,body⟩ .ready (slots (look env) 0 n))::K)) (fidws (lookB ((nx,.rcd ⟨ps,assign,body⟩ .ready (slots (look env) 0 n))::K)) (rens (sg σ (nx+1)) zsh args0) (.yld nx::caps)++fidsB (lookB ((nx,.rcd ⟨ps,assign,body⟩ .ready (slots (look env) 0 n))::K)) (renK (sg σ (nx+1)) zsh K0))) ((nx,.rcd ⟨ps,assign,body⟩ .ready (slots (look env) 0 n))::K)=K3 at *
   have hb3:G3.β nx=some (w.heap.size+1):=(st3.bet nx (Nat.lt_succ_self nx)).trans (upd_same _ _ _)
   have fin:∀(rc':RC) (st:RSt) (l:List AV) (e:AX),lookB K3 nx=.rcd rc' st l→st.st ≠ .busy→st.pend=endCode e→Q e (nx+1+ex) env ((nx,.dead)::K3)→rangePost Fence.wide 0 P (w.heap.size+1) R { a with defers:=[mark w.heap.size]++a.defers } (.returned v) w2:=by
    intro rc' st l e hk hb hp hq
    obtain ⟨r,h1,h2,h3,_,hkill⟩:=st3.setRcd hk hb3
    have st4:=(hkill (.loop { r with state:=.exhausted })).downto (Nat.le_succ_of_le hgm) hbet
    have hs4:StL g n (nx+1+ex) env ((nx,.dead)::K3) { a with defers:=[mark w.heap.size]++a.defers } (w2.putObj (w.heap.size+1) (.loop { r with state:=.exhausted })) :=
     ⟨⟨G3,by rw [lookB_cons]; exact st4⟩,by omega,fun i hi=>by rw [lookB_cons,upd_other _ _ (by omega)]; exact hnone i hi⟩
    have hfin:=hR e _ _ _ _ _ hq hs4
    refine ⟨r.pending,_,run_endLoop h1 (by rw [h2]; exact hb),?_⟩
    have hpe:r.pending=endCode e:=h3.trans hp
    rw [hpe] at hfin
    rw [hpe]
    cases e with
    | normal=>exact hfin
    | ret=>exact wpIn_ret hfin
    | exit i=>exact wpIn_exit hfin
   unfold rangeEnd at hq
   split at hq
   ·rename_i rc' l hk; exact fin rc' .ready l .normal hk (by simp [RSt.st]) rfl hq
   ·rename_i rc' e l hk; exact fin rc' (.done e) l e hk (by simp [RSt.st]) rfl hq
   ·exact hq.elim
 have hv:=ev_ok (ρ:=look env) (κ:=lookB K) (x:=x) (look env) (lookB K) ⟨fun _ _=>rfl,fun _ _=>rfl⟩ g n a w G hst
 generalize hx:a.eval x=y at hv
 split at h
 ·rename_i f caps he
  rw [he] at hv
  cases hv with | fn _ _ vs hl hr=>exact core f caps vs hx ⟨hl,hr⟩ h
 ·rename_i f caps he
  rw [he] at hv
  cases hv with | dv hd=>cases hd with | fn _ _ vs hl hr=>exact core f _ vs hx (vrels_dvs ⟨hl,hr⟩) h
 ·exact h.elim
end Go.TM
namespace Go.TM
open Go.RowKit
variable [Glob]
def envL:Nat→List AV→Env
 | _,[]=>[]
 | s,.any::r=>envL (s+1) r
 | s,v::r=>(s,v)::envL (s+1) r
theorem envL_lt:∀(l:List AV) (s t:Nat),t<s→look (envL s l) t=.any
 | [],_,_,_=>rfl
 | v::r,s,t,h=>by
  have ih:=envL_lt r (s+1) t (by omega)
  cases v <;> simp only [envL,look] <;> first | exact ih | (rw [beq_false (by omega)]; exact ih)
theorem envL_look:∀(l:List AV) (s j:Nat),look (envL s l) (s+j)=match l[j]? with | some v=>v | none=>.any
 | [],s,j=>by simp [envL,look]
 | v::r,s,0=>by
  have h0:=envL_lt r (s+1) s (by omega)
  cases v <;> simp only [envL,look,Nat.add_zero,Nat.beq_refl,cond_true,List.getElem?_cons_zero] <;> exact h0
 | v::r,s,j+1=>by
  have ih:=envL_look r (s+1) j
  have e:s+(j+1)=s+1+j:=by omega
  cases v <;> simp only [envL,look,List.getElem?_cons_succ] <;> rw [e] <;> first | exact ih | (rw [beq_false (by omega)]; exact ih)
def parE:List Nat→List AV→Env→Env
 | p::ps,v::vs,env=>parE ps vs ((p,v)::env)
 | _,_,env=>env
def ltAll (n:Nat):List Nat→Bool
 | []=>true
 | p::r=>Nat.blt p n && ltAll n r
theorem ltAll_mem {n:Nat}:∀{l:List Nat},ltAll n l=true→∀p,p∈l→p<n
 | [],_,p,h=>by simp at h
 | q::r,h,p,hp=>by
  simp only [ltAll,Bool.and_eq_true,Nat.blt_eq] at h
  rcases List.mem_cons.1 hp with rfl | hp
  ·exact h.1
  ·exact ltAll_mem h.2 p hp
theorem par_rel {G:Gh}:∀{ps:List Nat} {avs:List AV} {vs:List Value} {env:Env} {tmps:Array Value},(∀p,p∈ps→p<tmps.size)→CRel G avs vs→(∀t,VRel G (look env t) (tmps.getD t undef)) →
  ∀t,VRel G (look (parE ps avs env) t) (((ps.zip vs).foldl (fun tm (pv:Nat × Value)=>tm.setIfInBounds pv.1 pv.2) tmps).getD t undef)
 | [],avs,vs,env,tmps,_,_,h,t=>by cases avs <;> simpa [parE] using h t
 | p::ps,[],vs,env,tmps,_,hr,h,t=>by
  have:vs=[]:=by have:=hr.1; simpa using this.symm
  subst this
  simpa [parE] using h t
 | p::ps,v::avs,[],env,tmps,_,hr,h,t=>by have:=hr.1; simp at this
 | p::ps,v::avs,x::vs,env,tmps,hp,hr,h,t=>by
  simp only [parE,List.zip_cons_cons,List.foldl_cons]
  refine par_rel (fun q hq=>by rw [Array.size_setIfInBounds]; exact hp q (by simp [hq])) ⟨by simpa using hr.1,fun j d y hd hy=>hr.2 (j+1) d y (by simpa using hd) (by simpa using hy)⟩ (fun t=>?_) t
  simp only [look]
  by_cases e:t=p
  ·subst e
   have:=hp t (by simp)
   simp only [Nat.beq_refl,cond_true,Array.getD_eq_getD_getElem?]
   rw [Array.getElem?_setIfInBounds_self_of_lt this]
   exact hr.2 0 v x rfl rfl
  ·rw [beq_false e,Array.getD_eq_getD_getElem?,Array.getElem?_setIfInBounds_ne (fun h=>e h.symm),←Array.getD_eq_getD_getElem?]
   exact h t
theorem fold_size (ps:List (Nat × Value)):∀(tmps:Array Value),((ps.foldl (fun tm (pv:Nat × Value)=>tm.setIfInBounds pv.1 pv.2) tmps)).size=tmps.size:=by
 induction ps with
 | nil=>intro t; rfl
 | cons p r ih=>intro t; simp only [List.foldl_cons]; rw [ih,Array.size_setIfInBounds]
def isN:AX→Bool
 | .normal=>true
 | _=>false
def finSt:AX→RSt
 | .normal=>.ready
 | e=>.done e
def yPost2 (m ex:Nat) (R:List AV→Boxes→Prop) (e:AX) (_nx:Nat) (_env:Env) (K:Boxes):Prop:=match lookB K 0 with
 | .rcd rc .busy l=>∃rs K',R rs K'∧outChk m ex (lookB ((0,.rcd rc (finSt e) l)::K)) [.dv (.bool (isN e))] rs K'=true ∧
   subWs m (lookB ((0,.rcd rc (finSt e) l)::K)) (lookB K') rs [.dv (.bool (isN e))]∧subB m (lookB ((0,.rcd rc (finSt e) l)::K)) (lookB K') K'
 | _=>False
def yPost1 (P:Program) (T:List TI) (n m ex:Nat) (bd:Code) (R:List AV→Boxes→Prop) (e:AX) (nx:Nat) (env:Env) (K:Boxes):Prop:=match e with
 | .normal=>match lookB K 0 with
  | .rcd rc .ready l=>acode P T false n m bd (yPost2 m ex R) nx env ((0,.rcd rc .busy l)::K)
  | _=>False
 | _=>False
section
variable {P:Program} {T:List TI}
theorem yspecR_of (hT:TOk P T) (hm:P.follows .mixedOrders=true) {rc:RC} {l args:List AV} {m ex:Nat} {K:Boxes} {R:List AV→Boxes→Prop} (h0:lookB K 0=.rcd rc .ready l)
  (hchk:(Nat.beq args.length rc.ps.size && ltAll l.length rc.ps.toList && Nat.blt 0 m && keysLt m K)=true) (h:acode P T false l.length m rc.as (yPost1 P T l.length m ex rc.bd R) m (parE rc.ps.toList args (envL 0 l)) K) :
  YSpecR P args m K ex R:=by
 intro w G vs hgl hfit hr
 simp only [Bool.and_eq_true] at hchk
 obtain ⟨⟨⟨hal,hps⟩,hm0⟩,hkl⟩:=hchk
 have hal:=Nat.eq_of_beq_eq_true hal
 have hm0:0<m:=by simpa using hm0
 have hb:=hfit.box 0
 rw [h0] at hb
 obtain ⟨b,fn,tmps,D,hb0,hw,hcr⟩:=hb
 have hsz:tmps.size=l.length:=by have:=hcr.1; simp at this; exact this.symm
 have hvl:vs.toArray.size=rc.ps.size:=by rw [List.size_toArray,←hr.1]; exact hal
 refine ⟨b,hb0,fn,_,rc.as,rc.bd,w,run_yield hw hvl,roundIn_of_wpIn trivial ?_⟩
 have hfold:(rc.ps.zip vs.toArray).foldl (fun tm (pv:Nat × Value)=>tm.setIfInBounds pv.1 pv.2) tmps=(rc.ps.toList.zip vs).foldl (fun tm (pv:Nat × Value)=>tm.setIfInBounds pv.1 pv.2) tmps:=by
  rw [←Array.foldl_toList,Array.toList_zip]
 have hfold':(rc.ps.zip vs.toArray).foldl (fun tmps (t,a)=>tmps.setIfInBounds t a) tmps=(rc.ps.toList.zip vs).foldl (fun tm (pv:Nat × Value)=>tm.setIfInBounds pv.1 pv.2) tmps:=hfold
 let g:Org:=⟨fun b=>∃i,Own G i (lookB K i) b,w,G.M,m,G.β,fun i p=>G.H i 0 0 p⟩
 have henv:∀t,VRel G (look (envL 0 l) t) (tmps.getD t undef):=fun t=>by
  have:=envL_look l 0 t
  rw [Nat.zero_add] at this
  rw [this]
  split
  ·rename_i v hv
   have ht:t<tmps.size:=by rw [hsz]; exact (List.getElem?_eq_some_iff.1 hv).1
   refine hcr.2 t v _ hv ?_
   rw [Array.getD_eq_getD_getElem?,Array.getElem?_toList,Array.getElem?_eq_getElem ht]; rfl
  ·exact .any _
 have hst:StM g l.length (look (parE rc.ps.toList args (envL 0 l))) (lookB K) { tmps:=(rc.ps.toList.zip vs).foldl (fun tm (pv:Nat × Value)=>tm.setIfInBounds pv.1 pv.2) tmps,defers:=[] } w G :=
  {fit:=hfit,env:=par_rel (fun p hp=>by rw [hsz]; exact ltAll_mem hps p hp) hr henv,size:=by rw [←hsz]; exact fold_size _ _,bel:=fun _ _ _=>rfl,os:=rfl,tape:=rfl,output:=rfl,grow:=Nat.le_refl _,mem:=.refl G.M,mlow:=fun _ _ _=>rfl,ownhi:=fun i b ho=>.inr ⟨i,ho⟩,bet:=fun _ _=>rfl,hed:=fun _ _ _ _ hx=>hx,glob:=hgl,dfr:=⟨[],rfl,List.nodup_nil,by simp⟩ }
 rw [hfold']
 have hno:∀i,m≤i→lookB K i=.none:=fun i hi=>by
  rcases lookB_mem (K:=K) (i:=i) with h' | h'
  ·exact h'
  ·have:=keysLt_mem hkl i (List.mem_map.2 ⟨_,h',rfl⟩); omega
 refine acode_sound (g:=g) (C:=fun _=>True) hT hm (calls_snd P) (range_snd P) trivial (wide_round b) (r:=false) (fun h=>by cases h) (m:=m) (Nat.le_refl _) rc.as h ⟨⟨G,hst⟩,Nat.le_refl _,hno⟩ fun e nx env1 K1 a1 w1 hq hs=>?_
 cases e with
 | ret=>exact hq.elim
 | exit i=>exact hq.elim
 | normal =>
  simp only [yPost1] at hq
  split at hq
  ·rename_i rc1 l1 hk1
   obtain ⟨⟨G1,st1⟩,hnx,hn1⟩:=hs
   have hl1:G1.β 0=some b:=by rw [st1.bet 0 hm0]; exact hb0
   obtain ⟨r,hw1,hr1,hr2,hset,_⟩:=st1.setRcd hk1 hl1
   have hbeg:=run_beginRound (P:=P) hw1 hr1
   have hset1:=hset .busy
   have hloop:({ r with state:=RSt.busy.st,pending:=RSt.busy.pend }:Loop)={ r with state:=.busy }:=by
    have:r.pending=none:=hr2
    simp only [RSt.st,RSt.pend,←this]
   rw [hloop] at hset1
   refine ⟨_,hbeg,?_⟩
   refine acode_sound (g:=g) (C:=fun _=>True) hT hm (calls_snd P) (range_snd P) trivial (wide_round b) (r:=false) (fun h=>by cases h) (m:=m) (Nat.le_refl _) rc.bd hq ⟨⟨G1,by rw [lookB_cons]; exact hset1⟩,hnx,fun i hi=>by
    have:m≤nx:=hnx
    rw [lookB_cons,upd_other _ _ (by omega)]; exact hn1 i hi⟩ fun e nx2 env2 K2 a2 w2 hq hs=>?_
   simp only [yPost2] at hq
   split at hq
   ·rename_i rc2 l2 hk2
    obtain ⟨rs,K3,hR,hout,hsV,hsB⟩:=hq
    obtain ⟨⟨G2,st2⟩,_,_⟩:=hs
    have hl2:G2.β 0=some b:=by rw [st2.bet 0 hm0]; exact hb0
    obtain ⟨r2,hw2,_,_,hset2,_⟩:=st2.setRcd hk2 hl2
    have st3:=hset2 (finSt e)
    rw [←lookB_cons] at st3
    simp only [outChk,Bool.and_eq_true] at hout
    obtain ⟨⟨⟨hwf2,hscr⟩,hfr⟩,hfull⟩:=hout
    obtain ⟨G3,_,hvs,hst4⟩:=st3.sub (m:=m) (Nat.le_refl _) (F:=fidws (lookB ((0,.rcd rc2 (finSt e) l2)::K2)) rs [.dv (.bool (isN e))]++fidsB (lookB ((0,.rcd rc2 (finSt e) l2)::K2)) K3) hwf2 (fun i hi=>List.mem_append.2 (.inr hi)) hfr hfull hsB
    have hdr:=hvs rs [.dv (.bool (isN e))] [.bool (isN e)] hsV hscr (fun i hi=>List.mem_append.2 (.inl hi)) ⟨rfl,fun j d v hd hv=>by
     cases j with
     | zero=>simp at hd hv; subst hd; subst hv; exact .dv (.bool _)
     | succ j=>simp at hd⟩
    have st5:=hst4 (fun _=>.any) (fun _=>.any _)
    have fin:∃v rs K' G',Ending.returned (.bool (isN e))=.returned v∧R rs K'∧COut m ex (lookB K) w G rs (lookB K') (w2.putObj b (.loop { r2 with state:=(finSt e).st,pending:=(finSt e).pend })) G' v:=by
     refine ⟨_,rs,K3,G3,rfl,hR,⟨st5.fit,fun i hi=>wfB_none hwf2 hi,?_,st5.mem,st5.bet,st5.hed,fun b hb hO=>⟨st5.bel b hb (fun ⟨i,h⟩=>hO i h),st5.mlow b hb (fun ⟨i,h⟩=>hO i h)⟩,st5.ownhi,st5.os,st5.tape,st5.output,st5.grow⟩⟩
     match rs,hdr with
     | [d],hdr=>exact hdr.2 0 d _ rfl rfl
     | [],hdr=>have:=hdr.1; simp at this
     | _::_::_,hdr=>have:=hdr.1; simp at this
    have hend:=run_endRound (P:=P) (endCode e) hw2
    cases e with
    | normal=>exact ⟨_,_,hend,fin⟩
    | ret=>exact ⟨_,_,hend,fin⟩
    | exit i=>exact ⟨_,_,hend,fin⟩
   ·exact hq.elim
  ·exact hq.elim
end
end Go.TM
