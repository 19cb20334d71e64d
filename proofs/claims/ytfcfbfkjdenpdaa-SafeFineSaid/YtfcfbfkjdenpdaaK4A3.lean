import Derived.Test.YtfcfbfkjdenpdaaK4A2
set_option linter.unusedVariables false
set_option linter.unusedSimpArgs false
set_option linter.unusedSectionVars false
namespace Go.Proofs.Ytfcfbfkjdenpdaa
open Go.TM
def spoilSta (s:Sta) (how n:Int):Sta :=
 if how=0 then { s with wait:=n } else if how=1 then { s with late:=n } else if how=2 then { s with final:=!s.final }
 else if how=3 then { s with gives:=[⟨n,0,1⟩] } else if how=4 then { s with gives:=[⟨0,n,1⟩] }
 else if how=5 then { s with opts:=s.opts++[⟨n,0,[]⟩] } else if how=6 then { s with opts:=s.opts++[⟨0,n,[]⟩] }
 else { s with opts:=s.opts++[⟨0,0,[(0,n)]⟩] }
def spoilt (d:Dea) (at' how n:Int):Dea :=
 match d.states[(around at' d.states.length).toNat]? with
 | some s=>{ d with states:=d.states.set (around at' d.states.length).toNat (spoilSta s (around how 8) n) }
 | none=>d
theorem spo_fz (nm:ByteArray) (f:Bool) (M:List DV) (w la:Int) (os:List Opt) (gs:List DV) (hM:M=os.map eOpt):fzD (.agg [.str nm,B f,.osl 3 M,I w,I la,.sl 3 gs])=.agg [.str nm,B f,.sl 3 (os.map eOpt),I w,I la,.sl 3 gs]:=by
 show DV.agg [.str nm,B f,.sl 3 (fzL M),I w,I la,.sl 3 gs]=_
 rw [hM,fzL_map (e:=eOpt) fun _=>rfl]
theorem fz_set (L:List Sta) (k:Nat) (s:Sta) (e:DV) (he:fzD e=eSta s):fzL ((L.map eSta).set k e)=(L.set k s).map eSta:=by
 rw [fzL_eq,List.map_set,he,List.map_map,List.map_set]
 congr 1
set_option maxHeartbeats 4000000 in
theorem spoilt_spec (d:Dea) (hs:Small d) (at' how n:Int) (ha:InI at') (hh:InI how):PSpec Try.prog 28 [eDea d,I at',I how,I n] [eDea (spoilt d at' how n)]:=by
 have hsm:=hs.states
 refine pspec_of tab_ok mixed (calls_snd _) (range_snd _) Try.func28 rfl (by kernel_rfl) rfl ?_
 refine .inr ⟨d.states.map eSta,ELes.refl _,(by rw [by37]; simp; omega),(by simp; omega),fun h=>?_,fun h=>?_⟩
 ·have hd:d.states=[]:=List.eq_nil_of_length_eq_zero (by simpa using h)
  refine ⟨DV.Le.of_eq ?_,tv⟩
  have:spoilt d at' how n=d:=by unfold spoilt; rw [hd]; rfl
  rw [this]
  rfl
 ·have hd:d.states.length ≠ 0:=by simpa using h
  clear h
  have hb:=around_bd at' d.states.length (by omega)
  generalize hk:around at' d.states.length=k at *
  have hlt:k.toNat<d.states.length:=by omega
  generalize hx:d.states[k.toNat]=x
  have hx':d.states[k.toNat]?=some x:=by rw [List.getElem?_eq_getElem hlt,hx]
  have hol:x.opts.length≤1000:=hs.opts x (List.mem_of_getElem? hx')
  have har:CallOk Try.prog 9 [I at',I ((d.states.map eSta).length)] [I k]:=by
   rw [←hk]
   simp only [List.length_map]
   exact (around_spec at' d.states.length ha (by omega)).ok
  refine .inl ⟨_,fun _=>har,?_⟩
  refine ⟨fun _=>⟨by omega,by simp; omega⟩,eSta x,fun _=>(by simp [hx']),?_⟩
  refine .inr ⟨x.opts.map eOpt,ELes.refl _,(by rw [by91]; simp; omega),(by simp; omega),?_⟩
  refine .inl ⟨_,fun _=>(around_spec how 8 hh (by omega)).ok,?_⟩
  have hb8:=around_bd how 8 (by omega)
  generalize hhw:around how 8=hw at *
  have hsp:spoilt d at' how n={ d with states:=d.states.set k.toNat (spoilSta x hw n) }:=by
   unfold spoilt
   rw [hk,hx',hhw]
  rw [hsp]
  refine ⟨fun h=>?_,fun h=>?_⟩
  ·have h0:hw=0:=by simpa using h
   subst h0
   clear h
   refine ⟨fun _=>⟨by omega,by simp; omega⟩,[.str x.name,B (x.final),.osl 3 (x.opts.map eOpt),I (n),I (x.late),.sl 3 (x.gives.map eGiv)],⟨rf,rf,rfl,rf,rf,rf,tv⟩,eSta x,(by simp [hx']),?_⟩
   refine ⟨DV.Le.of_eq ?_,tv⟩
   show DV.agg [.str d.name,.sl 1 (d.parties.map .str),.sl 6 (fzL ((d.states.map eSta).set k.toNat (.agg [.str x.name,B (x.final),.osl 3 (x.opts.map eOpt),I (n),I (x.late),.sl 3 (x.gives.map eGiv)])))]=_
   rw [fz_set d.states k.toNat (spoilSta x (0) n) _ (by rw [spo_fz (hM:=rfl)]; rfl)]
   rfl
  have h0:hw ≠ 0:=by simpa using h
  clear h
  refine ⟨fun h=>?_,fun h=>?_⟩
  ·have h0:hw=1:=by simpa using h
   subst h0
   clear h
   refine ⟨fun _=>⟨by omega,by simp; omega⟩,[.str x.name,B (x.final),.osl 3 (x.opts.map eOpt),I (x.wait),I (n),.sl 3 (x.gives.map eGiv)],⟨rf,rf,rfl,rf,rf,rf,tv⟩,eSta x,(by simp [hx']),?_⟩
   refine ⟨DV.Le.of_eq ?_,tv⟩
   show DV.agg [.str d.name,.sl 1 (d.parties.map .str),.sl 6 (fzL ((d.states.map eSta).set k.toNat (.agg [.str x.name,B (x.final),.osl 3 (x.opts.map eOpt),I (x.wait),I (n),.sl 3 (x.gives.map eGiv)])))]=_
   rw [fz_set d.states k.toNat (spoilSta x (1) n) _ (by rw [spo_fz (hM:=rfl)]; rfl)]
   rfl
  have h1:hw ≠ 1:=by simpa using h
  clear h
  refine ⟨fun h=>?_,fun h=>?_⟩
  ·have h0:hw=2:=by simpa using h
   subst h0
   clear h
   refine ⟨fun _=>⟨by omega,by simp; omega⟩,[.str x.name,B (!x.final),.osl 3 (x.opts.map eOpt),I (x.wait),I (x.late),.sl 3 (x.gives.map eGiv)],⟨rf,rf,rfl,rf,rf,rf,tv⟩,eSta x,(by simp [hx']),?_⟩
   refine ⟨DV.Le.of_eq ?_,tv⟩
   show DV.agg [.str d.name,.sl 1 (d.parties.map .str),.sl 6 (fzL ((d.states.map eSta).set k.toNat (.agg [.str x.name,B (!x.final),.osl 3 (x.opts.map eOpt),I (x.wait),I (x.late),.sl 3 (x.gives.map eGiv)])))]=_
   rw [fz_set d.states k.toNat (spoilSta x (2) n) _ (by rw [spo_fz (hM:=rfl)]; rfl)]
   rfl
  have h2:hw ≠ 2:=by simpa using h
  clear h
  refine ⟨fun h=>?_,fun h=>?_⟩
  ·have h0:hw=3:=by simpa using h
   subst h0
   clear h
   refine .inl ⟨[eGiv ⟨n,0,1⟩],rfl,⟨rf,rf,rf,tv⟩,fun y hy=>(by rcases List.mem_singleton.1 hy with rfl; rfl),?_⟩
   refine ⟨fun _=>⟨by omega,by simp; omega⟩,[.str x.name,B (x.final),.osl 3 (x.opts.map eOpt),I (x.wait),I (x.late),.sl 3 ([eGiv ⟨n,0,1⟩])],⟨rf,rf,rfl,rf,rf,rf,tv⟩,eSta x,(by simp [hx']),?_⟩
   refine ⟨DV.Le.of_eq ?_,tv⟩
   show DV.agg [.str d.name,.sl 1 (d.parties.map .str),.sl 6 (fzL ((d.states.map eSta).set k.toNat (.agg [.str x.name,B (x.final),.osl 3 (x.opts.map eOpt),I (x.wait),I (x.late),.sl 3 ([eGiv ⟨n,0,1⟩])])))]=_
   rw [fz_set d.states k.toNat (spoilSta x (3) n) _ (by rw [spo_fz (hM:=rfl)]; rfl)]
   rfl
  have h3:hw ≠ 3:=by simpa using h
  clear h
  refine ⟨fun h=>?_,fun h=>?_⟩
  ·have h0:hw=4:=by simpa using h
   subst h0
   clear h
   refine .inl ⟨[eGiv ⟨0,n,1⟩],rfl,⟨rf,rf,rf,tv⟩,fun y hy=>(by rcases List.mem_singleton.1 hy with rfl; rfl),?_⟩
   refine ⟨fun _=>⟨by omega,by simp; omega⟩,[.str x.name,B (x.final),.osl 3 (x.opts.map eOpt),I (x.wait),I (x.late),.sl 3 ([eGiv ⟨0,n,1⟩])],⟨rf,rf,rfl,rf,rf,rf,tv⟩,eSta x,(by simp [hx']),?_⟩
   refine ⟨DV.Le.of_eq ?_,tv⟩
   show DV.agg [.str d.name,.sl 1 (d.parties.map .str),.sl 6 (fzL ((d.states.map eSta).set k.toNat (.agg [.str x.name,B (x.final),.osl 3 (x.opts.map eOpt),I (x.wait),I (x.late),.sl 3 ([eGiv ⟨0,n,1⟩])])))]=_
   rw [fz_set d.states k.toNat (spoilSta x (4) n) _ (by rw [spo_fz (hM:=rfl)]; rfl)]
   rfl
  have h4:hw ≠ 4:=by simpa using h
  clear h
  refine ⟨fun h=>?_,fun h=>?_⟩
  ·have h0:hw=5:=by simpa using h
   subst h0
   clear h
   refine .inl ⟨[eOpt ⟨n,0,[]⟩],rfl,⟨rf,rf,DV.nils_le 2,tv⟩,fun y hy=>(by rcases List.mem_singleton.1 hy with rfl; rfl),?_⟩
   refine .inr ⟨[eOpt ⟨n,0,[]⟩],ELes.refl _,(by rw [by91]; simp; omega),(by simp; omega),?_⟩
   refine ⟨fun _=>⟨by omega,by simp; omega⟩,[.str x.name,B (x.final),.osl 3 (x.opts.map eOpt++[eOpt ⟨n,0,[]⟩]),I (x.wait),I (x.late),.sl 3 (x.gives.map eGiv)],⟨rf,rf,rfl,rf,rf,rf,tv⟩,eSta x,(by simp [hx']),?_⟩
   refine ⟨DV.Le.of_eq ?_,tv⟩
   show DV.agg [.str d.name,.sl 1 (d.parties.map .str),.sl 6 (fzL ((d.states.map eSta).set k.toNat (.agg [.str x.name,B (x.final),.osl 3 (x.opts.map eOpt++[eOpt ⟨n,0,[]⟩]),I (x.wait),I (x.late),.sl 3 (x.gives.map eGiv)])))]=_
   rw [fz_set d.states k.toNat (spoilSta x (5) n) _ (by rw [spo_fz (os:=x.opts++[⟨n,0,[]⟩]) (hM:=by simp)]; rfl)]
   rfl
  have h5:hw ≠ 5:=by simpa using h
  clear h
  refine ⟨fun h=>?_,fun h=>?_⟩
  ·have h0:hw=6:=by simpa using h
   subst h0
   clear h
   refine .inl ⟨[eOpt ⟨0,n,[]⟩],rfl,⟨rf,rf,DV.nils_le 2,tv⟩,fun y hy=>(by rcases List.mem_singleton.1 hy with rfl; rfl),?_⟩
   refine .inr ⟨[eOpt ⟨0,n,[]⟩],ELes.refl _,(by rw [by91]; simp; omega),(by simp; omega),?_⟩
   refine ⟨fun _=>⟨by omega,by simp; omega⟩,[.str x.name,B (x.final),.osl 3 (x.opts.map eOpt++[eOpt ⟨0,n,[]⟩]),I (x.wait),I (x.late),.sl 3 (x.gives.map eGiv)],⟨rf,rf,rfl,rf,rf,rf,tv⟩,eSta x,(by simp [hx']),?_⟩
   refine ⟨DV.Le.of_eq ?_,tv⟩
   show DV.agg [.str d.name,.sl 1 (d.parties.map .str),.sl 6 (fzL ((d.states.map eSta).set k.toNat (.agg [.str x.name,B (x.final),.osl 3 (x.opts.map eOpt++[eOpt ⟨0,n,[]⟩]),I (x.wait),I (x.late),.sl 3 (x.gives.map eGiv)])))]=_
   rw [fz_set d.states k.toNat (spoilSta x (6) n) _ (by rw [spo_fz (os:=x.opts++[⟨0,n,[]⟩]) (hM:=by simp)]; rfl)]
   rfl
  have h6:hw ≠ 6:=by simpa using h
  clear h
  have h7:hw=7:=by omega
  subst h7
  refine .inl ⟨[eAmt (0,n)],rfl,⟨rf,rf,tv⟩,fun y hy=>(by rcases List.mem_singleton.1 hy with rfl; rfl),?_⟩
  refine .inl ⟨[eOpt ⟨0,0,[(0,n)]⟩],rfl,⟨rf,rf,rf,tv⟩,fun y hy=>(by rcases List.mem_singleton.1 hy with rfl; rfl),?_⟩
  refine .inr ⟨[eOpt ⟨0,0,[(0,n)]⟩],ELes.refl _,(by rw [by91]; simp; omega),(by simp; omega),?_⟩
  refine ⟨fun _=>⟨by omega,by simp; omega⟩,[.str x.name,B (x.final),.osl 3 (x.opts.map eOpt++[eOpt ⟨0,0,[(0,n)]⟩]),I (x.wait),I (x.late),.sl 3 (x.gives.map eGiv)],⟨rf,rf,rfl,rf,rf,rf,tv⟩,eSta x,(by simp [hx']),?_⟩
  refine ⟨DV.Le.of_eq ?_,tv⟩
  show DV.agg [.str d.name,.sl 1 (d.parties.map .str),.sl 6 (fzL ((d.states.map eSta).set k.toNat (.agg [.str x.name,B (x.final),.osl 3 (x.opts.map eOpt++[eOpt ⟨0,0,[(0,n)]⟩]),I (x.wait),I (x.late),.sl 3 (x.gives.map eGiv)])))]=_
  rw [fz_set d.states k.toNat (spoilSta x (7) n) _ (by rw [spo_fz (os:=x.opts++[⟨0,0,[(0,n)]⟩]) (hM:=by simp)]; rfl)]
  rfl
end Go.Proofs.Ytfcfbfkjdenpdaa
namespace Go.Proofs.Ytfcfbfkjdenpdaa
open Go.TM
inductive Edge (d:Dea):Int→Int→Int→Prop
 | opt (s:Int) (x:Sta) (k:Nat) (o:Opt) (h0:0≤s) (hx:d.states[s.toNat]?=some x) (hf:x.final=false) (ho:x.opts[k]?=some o) (hn:okNext d o.next=true):Edge d s k o.next
 | late (s:Int) (x:Sta) (h0:0≤s) (hx:d.states[s.toNat]?=some x) (hf:x.final=false) (hw:0<x.wait) (hn:okNext d x.late=true):Edge d s (-1) x.late
inductive Path (d:Dea):Int→List Int→Int→Prop
 | nil (s:Int):Path d s [] s
 | cons {s a t u:Int} {w:List Int}:Edge d s a t→Path d t w u→Path d s (a::w) u
theorem Path.snoc {d:Dea} {s t u a:Int} {w:List Int} (h:Path d s w t) (e:Edge d t a u):Path d s (w++[a]) u:=by
 induction h with
 | nil s=>exact .cons e (.nil _)
 | cons e' _ ih=>exact .cons e' (ih e)
theorem optSteps_edge {d:Dea} {s:Int} {x:Sta} (h0:0≤s) (hx:d.states[s.toNat]?=some x) (hf:x.final=false):∀(k:Nat) (t:Stp),t∈optSteps d x k→Edge d s t.label t.next
 | 0,t,h=>by simp [optSteps] at h
 | k+1,t,h=>by
  simp only [optSteps] at h
  split at h
  ·rename_i o ho
   split at h
   ·rename_i hok
    rcases List.mem_append.1 h with h | h
    ·exact optSteps_edge h0 hx hf k t h
    ·rcases List.mem_singleton.1 h with rfl
     exact .opt s x k o h0 hx hf ho hok
   ·exact optSteps_edge h0 hx hf k t h
  ·exact optSteps_edge h0 hx hf k t h
theorem stepsOf_edge {d:Dea} {s:Int} {x:Sta} (h0:0≤s) (hx:d.states[s.toNat]?=some x) {t:Stp} (h:t∈stepsOf d x):Edge d s t.label t.next:=by
 unfold stepsOf at h
 rcases List.mem_append.1 h with h | h
 ·split at h
  ·simp at h
  ·rename_i hf
   exact optSteps_edge h0 hx (by simpa using hf) _ t h
 ·split at h
  ·rename_i hc
   rcases List.mem_singleton.1 h with rfl
   simp only [Bool.and_eq_true,Bool.not_eq_true',decide_eq_true_eq] at hc
   exact .late s x h0 hx hc.1.1 hc.1.2 hc.2
  ·simp at h
def Leads (d:Dea) (w:Bfs):Prop:=∀(j:Nat) (s:Int) (v:List Int),w.order[j]?=some s→w.ways[j]?=some v→Path d 0 v s
theorem leads_add {d:Dea} {w:Bfs} (hl:w.ways.length=w.order.length) (h:Leads d w) {way:List Int} {s:Int} (hp:Path d 0 way s) {t:Stp} (e:Edge d s t.label t.next):Leads d (addStep way w t):=by
 unfold addStep
 split
 ·exact h
 ·intro j u v hu hv
  by_cases hj:j<w.order.length
  ·rw [List.getElem?_append_left hj] at hu
   rw [List.getElem?_append_left (by omega)] at hv
   exact h j u v hu hv
  ·rw [List.getElem?_append_right (by omega)] at hu hv
   have hz:j - w.order.length=0:=by
    by_cases hz:j - w.order.length=0
    ·exact hz
    ·rw [List.getElem?_eq_none (by simp; omega)] at hu
     cases hu
   rw [hl] at hv
   rw [hz] at hu hv
   simp at hu hv
   subst hu; subst hv
   exact hp.snoc e
theorem leads_fold {d:Dea} {way:List Int} {s:Int} (hp:Path d 0 way s):∀(l:List Stp) {w:Bfs},w.ways.length=w.order.length→Leads d w→(∀t,t∈l→Edge d s t.label t.next)→Leads d (l.foldl (addStep way) w)
 | [],w,_,h,_=>h
 | t::l,w,hl,h,he=>by
  refine leads_fold hp l (w:=addStep way w t) ?_ (leads_add hl h hp (he t (by simp))) fun u hu=>he u (by simp [hu])
  unfold addStep
  split
  ·exact hl
  ·simp [hl]
theorem leads_at (d:Dea) (hd:d.states ≠ []):∀i,Leads d (bfsAt d i)
 | 0=>by
  intro j s v hs hv
  match j with
  | 0 =>
   simp [bfsAt] at hs hv
   subst hs; subst hv
   exact .nil _
  | j+1=>simp [bfsAt] at hs
 | i+1=>by
  have ih:=leads_at d hd i
  have hb:=bfsAt_ok d hd i
  show Leads d (proc d i (bfsAt d i))
  unfold proc
  split
  ·rename_i s way h1 h2
   split
   ·rename_i x hx
    exact leads_fold (ih i s way h1 h2) _ hb.len ih fun t ht=>stepsOf_edge (hb.rng s (List.mem_of_getElem? h1)).1 hx ht
   ·exact ih
  ·exact ih
theorem leads_disc (d:Dea):Leads d (disc d):=by
 unfold disc
 split
 ·intro j s v hs; simp at hs
 ·rename_i h
  exact leads_at d (fun e=>h e) _
end Go.Proofs.Ytfcfbfkjdenpdaa
namespace Go.Proofs.Ytfcfbfkjdenpdaa
open Go.TM
theorem bw_f {b:Bool} (h:b=false):bw b false=true:=by subst h; rfl
theorem bw_and {a b:Bool} (h:a=true) (h2:b=true):(a && bw b true)=true:=by subst h; subst h2; rfl
theorem bw_andf {a b:Bool} (h:a=true) (h2:b=false):(a && bw b false)=true:=by subst h; subst h2; rfl
theorem Path.head {d:Dea} {s t a:Int} {w:List Int} (h:Path d s (a::w) t):∃u,Edge d s a u∧Path d u w t:=by
 cases h with | cons e h=>exact ⟨_,e,h⟩
theorem Edge.inv {d:Dea} {s a u:Int} (h:Edge d s a u):∃x,0≤s∧d.states[s.toNat]?=some x∧x.final=false∧(0≤u∧u<d.states.length)∧((∃o,0≤a∧x.opts[a.toNat]?=some o∧o.next=u) ∨ (a=-1∧0<x.wait∧x.late=u)):=by
 cases h with
 | opt x k o h0 hx hf ho hn =>
  simp only [okNext,Bool.and_eq_true,decide_eq_true_eq] at hn
  exact ⟨x,h0,hx,hf,hn,.inl ⟨o,by omega,by simpa using ho,rfl⟩⟩
 | late x h0 hx hf hw hn =>
  simp only [okNext,Bool.and_eq_true,decide_eq_true_eq] at hn
  exact ⟨x,h0,hx,hf,hn,.inr ⟨rfl,hw,rfl⟩⟩
end Go.Proofs.Ytfcfbfkjdenpdaa
