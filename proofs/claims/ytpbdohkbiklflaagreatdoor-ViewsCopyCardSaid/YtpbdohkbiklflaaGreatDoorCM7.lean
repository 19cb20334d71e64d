import Derived.Test.YtpbdohkbiklflaaGreatDoorCM6
set_option linter.unusedVariables false
set_option linter.unusedSimpArgs false
set_option linter.unusedSectionVars false
namespace Go.TM
open Go.RowKit
variable [cu]
section
variable {g:dD} {n:Nat} {ρ:Nat→AV} {κ κ':Nat→ar} {a:Act} {w w':World} {G:Gh}
theorem cf.Ke (h:cf g n ρ κ a w G) {i b:Nat} {l l':List AV} {vs:Array Value} {t:TypeId} (hi:κ i=.cells l) (hb:G.β i=some b) (jn:κ' i=.cells l') (q8:∀j,j ≠ i→κ' j=κ j)
  (hw:w'.heap[b]?=some (.cells vs t (0,0))) (hl:bU G l' vs.toList) (hc:∀v,v∈l'→v.aq=true) (aU:w.heap.size≤w'.heap.size) (eo:∀k,k<w.heap.size→k ≠ b→w'.heap[k]?=w.heap[k]?)
  (OF:w'.os=w.os) (OG:w'.tape=w.tape) (gG:w'.output=w.output):cf g n ρ κ' a w' G:=by
 have fo:bL G i (κ i) b:=by rw [hi]; exact hb
 refine h.pI (C:=fun j=>j=i) ⟨Gh.Le.refl G,fun _ _=>rfl,q8,fun j _=>⟨fun _ q=>q,fun _ _ _ _ q=>q⟩,fun k hk dj=>⟨eo k hk fun e=>dj i rfl (by rw [e]; exact fo),rfl⟩,fun k o hk=>?_,?_,?_,fun j j' k e1 e2 _ _=>by rw [e1,e2],aU,OF,OG,gG⟩ (fun _ _=>rfl)
 ·have h1:=h.fit.sub k o hk
  rw [eo k (Array.getElem?_eq_some_iff.1 h1).1 fun e=>?_]
  ·exact h1
  ·rw [e] at hk; rw [h.fit.own i b fo] at hk; cases hk
 ·rintro j rfl
  rw [jn]
  exact ⟨b,vs,t,hb,hw,by have:=hl.1; simp at this; omega,hc,fun j d v hd hv=>hl.2 j d v hd (by simpa using hv)⟩
 ·rintro j k rfl ho
  rw [jn] at ho
  have:bL G j (κ j) k:=by rw [hi]; exact ho
  exact ⟨.inr ⟨j,rfl,this⟩,h.fit.own j k this⟩
theorem cf.oO (h:cf g n ρ κ a w G) {i:Nat} {d:DV} (D:Nat→Prop) (h':List PS→Option Value) (hDi:¬ D i) (hi:κ i=.none) (pW:∀j,D j→κ' j=.dead) (jn:κ' i=.tree 0 0 d) (q8:∀j,j ≠ i→¬ D j→κ' j=κ j)
  (ht:aX G.M w' h' d) (dB:fk h' d) (fo:∀b,aQ h' d b→w.heap.size≤b ∨ ∃j,D j∧bL G j (κ j) b) (eo:∀b,b<w.heap.size→(∀j,D j→¬ bL G j (κ j) b)→w'.heap[b]?=w.heap[b]?)
  (aU:w.heap.size≤w'.heap.size) (OF:w'.os=w.os) (OG:w'.tape=w.tape) (gG:w'.output=w.output) :
  ∃G',Gh.Le G G'∧G'.M=G.M∧(∀p,aB G'.H i 0 0 p=h' p)∧cf g n ρ κ' a w' G':=by
 have hb:=h.fit.box i
 rw [hi] at hb
 obtain ⟨G',h1,h2,_,h4,_,_,h7⟩:=h.kl (κ':=κ') (i:=i) (ver:=0) (ep:=0) (d:=d) D h' hDi (.inl hi) pW jn q8 (fun p x hx=>by cases p <;> simp [aB,hb.2] at hx) ht dB
  (fun b cL=>(fo b cL).imp id fun h=>.inr h) (fun b cL _ hD=>eo b cL hD) (fun b cL=>by
   rcases cL with h1 | ⟨j,_,h1⟩
   ·rw [hi] at h1; exact h1.elim
   ·exact h.fit.own j b h1) aU OF OG gG
 exact ⟨G',h1,h2,h4,h7⟩
end
section
variable {P:Program} {C:dD→Prop} {T:List TI} {ops:List Oper} {n:Nat} {o:Oper} {nx:Nat} {ρ:Nat→AV} {κ:Nat→ar} {k:jH→Nat→Prop} {gd:Bool}
theorem kB {w:World} (e:TypeId) (c:Array Value):(newRow e c).run P w=.ok ⟨w.heap.size,0,none⟩ (w.alloc (.cells c e)):=by
 simp [newRow,run_newObj]
theorem xV (G:Gh) {t:Nat} {ti:TI} {i:TypeInfo} {u:TypeDesc} {z:Value} (tf:fD P t ti i u z):bU G (iU ti.zero) z.cells.toList∧∀v,v∈iU ti.zero→v.aq=true:=by
 obtain ⟨h3,h4⟩:=ed (M:=G.M) tf.zc
 refine ⟨hJ h3,fun v hv=>?_⟩
 rw [xO] at hv
 obtain ⟨d,hd,rfl⟩:=List.mem_map.1 hv
 exact (h4 d hd).1
theorem KK (hT:er P T) {t:Nat} (hg:bR ρ ops o.guard=some gd) (ho:o.op=.alloc t) (bK:(nth T t).ok=true) (om:κ nx=.none)
  (hk:dE n o (nx+1) k (.ptr nx 0) [(nx,.cells (iU (nth T t).zero))] [nx]):Good P C ops n o nx ρ κ k:=by
 obtain ⟨i,u,z,tf⟩:=hT.facts bK
 refine cY (fun c=>by rw [ho]; simp) hg hk (by omega) (by simp) fun ρ' κ' ax g a w G dq ak aR=>?_
 have fA:κ' nx=.none:=(ax.reads nx (by simp)).trans om
 obtain ⟨hz,hc⟩:=xV G tf
 obtain ⟨G',h1,h2,h3⟩:=ak.vz fA dq t hz hc
 refine ⟨.pointer (some ⟨w.heap.size,0,none⟩),w.alloc (.cells z.cells t),G',.inl ?_,h2,.ptr nx 0 _ h3⟩
 simp [execOp,ho,Instr.alloc,tf.rX w,newVar,kB]
theorem Rc {t:Nat} {x:Operand} {av:AV} (hg:bR ρ ops o.guard=some gd) (ho:o.op=.box t x) (om:κ nx=.none) (hc:bV (cellsOf av)=true)
  (hk:dE n o (nx+1) k (.ptr nx 0) [(nx,.cells (cellsOf av))] [nx]) (bB:bu ρ κ gd x av):Good P C ops n o nx ρ κ k:=by
 refine cY (fun c=>by rw [ho]; simp) hg hk (by omega) (by simp) fun ρ' κ' ax g a w G dq ak aR=>?_
 have fA:κ' nx=.none:=(ax.reads nx (by simp)).trans om
 have hv:=bB ρ' κ' (ax.op (by rw [ho]; simp [Op.operands])) g n a w G ak aR
 obtain ⟨G',h1,h2,h3⟩:=ak.vz (vs:=(a.eval x).cells) fA dq t (lE hv hc) (fb hc)
 refine ⟨.pointer (some ⟨w.heap.size,0,none⟩),w.alloc (.cells (a.eval x).cells t),G',.inl ?_,h2,.ptr nx 0 _ h3⟩
 simp [execOp,ho,Instr.box,newVar,kB]
theorem Ar (hT:er P T) {t i off:Nat} {x y:Operand} {av:AV} {l:List AV} (hg:bR ρ ops o.guard=some gd) (ho:o.op=.store t x y) (bK:(nth T t).ok=true) (hb:κ i=.cells l)
  (aU:(cellsOf av).length=(nth T t).size) (hc:bV (cellsOf av)=true) (hle:off+(nth T t).size≤l.length)
  (hk:dE n o nx k .any [(i,.cells (gC l off (cellsOf av)))] [i]) (eB:i<nx) (bB:bu ρ κ gd x (.ptr i off)) (Hl:bu ρ κ gd y av):Good P C ops n o nx ρ κ k:=by
 obtain ⟨ti,u,z,tf⟩:=hT.facts bK
 refine cY (fun c=>by rw [ho]; simp) hg hk (Nat.le_refl _) (by simpa using eB) fun ρ' κ' ax g a w G dq ak aR=>?_
 have dV:κ' i=.cells l:=(ax.reads i (by simp)).trans hb
 have hv:=bB ρ' κ' (ax.op (by rw [ho]; simp [Op.operands])) g n a w G ak aR
 have fe:=Hl ρ' κ' (ax.op (by rw [ho]; simp [Op.operands])) g n a w G ak aR
 have pk:=lE fe hc
 have sF:=ak.fit.box i
 rw [dV] at sF
 obtain ⟨b,c,tt,Wm,hw,Q2,fM,hr⟩:=sF
 generalize hx:a.eval x=v at hv
 cases hv with
 | ptr _ _ b' AK =>
 rw [Wm] at AK; injection AK with AK; subst AK
 have hlen:(a.eval y).cells.toList.length=(nth T t).size:=by rw [←pk.1,aU]
 have gn:=run_storeCells_at P b off tt (a.eval y).cells.toList 0 c w hw (by rw [hlen]; omega) (pk.cT hc)
 simp only [Nat.add_zero] at gn
 have hold:bU G l c.toList:=⟨by simp [Q2],fun j d v hd hv=>hr j d v hd (by simpa using hv)⟩
 refine ⟨undef,w.setRow b (c.toList.take off++(a.eval y).cells.toList++c.toList.drop (off+(a.eval y).cells.toList.length)).toArray,G,.inr ⟨?_,rfl⟩,
  ak.Ke (l':=gC l off (cellsOf av)) (t:=tt) dV Wm (by simp [az]) (fun j hj=>by simp [az,ae _ _ hj]) (setRow_heap w b c _ tt _ hw) ?_ ?_ (by simp) (fun k _ bJ=>setRow_other w b k _ bJ) rfl rfl rfl,.any _⟩
 ·have fh:(a.eval y).cells.size=(nth T t).size:=by simpa using hlen
  simp only [execOp,ho,hx,Instr.storeAt,Instr.sureAddr,Sem.run_bind,Sem.run_pure,Result.andThen_ok,storeVar,tf.eZ w,fh,ne_eq,not_true_eq_false,if_false]
  rw [gn]
  rfl
 ·simpa using hold.gC pk off (by rw [aU]; exact hle)
 ·intro v hv
  unfold gC at hv
  rcases List.mem_append.1 hv with hv | hv
  ·rcases List.mem_append.1 hv with hv | hv
   ·exact fM v (List.mem_of_mem_take hv)
   ·exact fb hc v hv
  ·exact fM v (List.mem_of_mem_drop hv)
theorem kW {i:Nat}:∀{l:List Nat},gu i l=true→i∈l
 | [],h=>by simp [gu] at h
 | j::r,h=>by
  simp only [gu,Bool.or_eq_true] at h
  rcases h with h | h
  ·rw [Nat.eq_of_beq_eq_true h]; simp
  ·exact List.mem_cons_of_mem _ (kW h)
theorem eD {i:Nat}:∀{l:List Nat},gu i l=false→i ∉ l
 | [],_=>by simp
 | j::r,h=>by
  simp only [gu,Bool.or_eq_false_iff] at h
  have h2:=eD h.2
  intro hm
  rcases List.mem_cons.1 hm with rfl | hm
  ·have:=h.1
   simp [Nat.beq_refl] at this
  ·exact h2 hm
theorem cX {γ:Nat→ar}:∀{ids:List Nat} (j:Nat),az γ (ec ids) j=if j∈ids then .dead else γ j
 | [],j=>by simp [ec,az]
 | i::r,j=>by
  simp only [ec,az]
  by_cases e:j=i
  ·subst e; simp
  ·rw [ae _ _ e,cX j]; simp [e]
theorem ji {v:AV} {q:(sz:Nat)→List DV→List Nat→List Nat→Prop} {nl:Prop} (h:nQ κ v q nl) :
  (v=.dv .aG∧nl) ∨ ∃(sz:Nat) (ys:List DV) (rd kill:List Nat),q sz ys rd kill∧(∀j,j∈rd→∃v e d,κ j=.tree v e d)∧(∀j,j∈kill→j∈rd) ∧
   ∀κ' G w x,(∀i,i∈rd→κ' i=κ i)→Fit G w κ'→aH G v x→∃hs,Src G.M w x sz ys hs∧∀b,aQ hs (.aw sz ys) b→∃j,j∈kill∧bL G j (κ' j) b:=by
 unfold nQ at h
 split at h
 ·rename_i sz l
  refine .inr ⟨sz,l,[],[],h,by simp,by simp,fun κ' G w x _ hf hv=>⟨fun _=>none,?_,?_⟩⟩
  ·cases hv with | dv hv =>
   refine .closed ((pa.Vw hf.sub hv).mono rfl fun i x y hx hy=>?_) rfl
   rw [hx] at hy; injection hy with hy; subst hy
   refine ⟨rfl,fun j d e u hd he ES hS=>?_⟩
   rw [hd] at he; injection he with he; subst he
   exact ⟨ES,hS.dO,hS⟩
  ·rintro b ⟨_,_,_,_,_,q,_⟩; cases q
 ·exact .inl ⟨rfl,h⟩
 ·rename_i i ver ep p
  split at h
  ·rename_i bg bN d dV
   cases hb:Nat.beq ver bg && (emp p || Nat.beq ep bN) with
   | false=>rw [hb] at h; exact h.elim
   | true =>
    rw [hb] at h
    simp only [cond_true] at h
    obtain ⟨rfl,dx⟩:=dt hb
    obtain ⟨nd,h,c9⟩:=bG h
    have c9:=c9 rfl
    cases nd with
    | aw sz l =>
     have VA:∀{G:Gh} {κ':Nat→ar} {w:World} {x:Value},κ' i=κ i→Fit G w κ'→aH G (.own i ver ep p) x→aB G.H i ver bN p=some x:=by
      intro G κ' w x he hf hv
      cases hv with | own _ _ _ _ _ hh hc=>rw [←cU dx]; exact hh
     rcases h with ⟨fM,h⟩ | ⟨rfl,hq⟩
     ·refine .inr ⟨sz,l,[i],[],h,by simp [dV],by simp,fun κ' G w x ax hf hv=>⟨fun _=>none,?_,?_⟩⟩
      ·have he:=ax i (by simp)
       have hx:=VA he hf hv
       obtain ⟨u,h1,h2,h3⟩:=hf.node (he.trans dV) c9 rfl
       rw [hx] at h1; injection h1 with h1; subst h1
       refine .closed ?_ rfl
       have h4:o9 w x sz l fun i j d u=>d.ah=false∧bo G.M d u:=by
        rcases kf.1 h3 with h3 | ⟨g,o,cap,c,t,a1,a2,a3,a4,a5⟩
        ·exact .inl h3
        ·refine .inr ⟨g,o,cap,c,t,a1,a2,a3,a4,fun i y hy=>⟨(a5 i y hy).1,fun j d hd=>?_⟩⟩
         obtain ⟨b1,u,b2,b3⟩:=(a5 i y hy).2 j d hd
         have ES:=fM y (List.mem_of_getElem? hy) d (List.mem_of_getElem? hd)
         refine ⟨b1,u,b2,ES,?_⟩
         rcases b3 with ⟨c1,_⟩ | ⟨_,c2⟩
         ·rw [ES] at c1; cases c1
         ·exact c2
       exact pa.Nx h4 fun i j d u hr hc=>hr.2.cT hc
      ·rintro b ⟨_,_,_,_,_,q,_⟩; cases q
     ·refine .inr ⟨sz,l,[i],[i],hq,by simp [dV],by simp,fun κ' G w x ax hf hv=>?_⟩
      have he:=ax i (by simp)
      have hx:=VA he hf hv
      have dQ:=hf.box i
      rw [he,dV] at dQ
      simp [get] at c9
      subst c9
      refine ⟨aB G.H i ver bN,.tree dQ.1 dQ.2.1 hx,fun b hb=>⟨i,by simp,?_⟩⟩
      rw [he,dV]; exact hb
    | _=>exact h.elim
  ·exact h.elim
 ·rename_i i ver ep p sz lo m
  split at h
  ·rename_i bg bN d dV
   cases hb:Nat.beq ver bg && (emp p || Nat.beq ep bN) with
   | false=>rw [hb] at h; exact h.elim
   | true =>
    rw [hb] at h
    simp only [cond_true] at h
    obtain ⟨rfl,dx⟩:=dt hb
    obtain ⟨nd,h,c9⟩:=bG h
    have c9:=c9 rfl
    cases nd with
    | aw pO l =>
     simp only at h
     cases hz:Nat.beq sz pO with
     | false=>rw [hz] at h; exact h.elim
     | true =>
     rw [hz] at h
     have:=Nat.eq_of_beq_eq_true hz
     subst this
     obtain ⟨hlen,fM,h⟩:=h
     refine .inr ⟨sz,(l.drop lo).take m,[i],[],h,by simp [dV],by simp,fun κ' G w x ax hf hv=>⟨fun _=>none,?_,?_⟩⟩
     ·have he:=ax i (by simp)
      obtain ⟨u,h1,h2,h3⟩:=hf.node (he.trans dV) c9 rfl
      have Ss:((l.drop lo).take m).length=m:=by simp; omega
      refine .closed ?_ rfl
      cases hv with | pre _ _ _ _ _ _ _ q cp hh =>
      by_cases hm:m=0
      ·subst hm
       cases q with
       | none=>exact .inl ⟨cp,rfl,by simp⟩
       | some A=>exact .inr ⟨A,cp,fun _ _=>undef,by simp,fun i x hx=>by simp at hx⟩
      ·obtain ⟨A,N,c',gR,rfl⟩:=hh hm
       rw [cU dx,h1] at gR
       injection gR with gR
       rcases kf.1 h3 with ⟨rfl,_⟩ | ⟨g,o,cap,c,t,rfl,a2,a3,a4,a5⟩
       ·simp at hlen; omega
       injection gR with hA _ _
       injection hA with hA
       subst hA
       refine .inr ⟨_,cp,fun a b=>c.getD (o+(lo+a) * sz+b) undef,by rw [Ss],fun a y hy=>?_⟩
       have Zs:l[lo+a]?=some y:=by
        rw [List.getElem?_take] at hy
        split at hy
        ·rwa [List.getElem?_drop] at hy
        ·cases hy
       obtain ⟨b1,b2⟩:=a5 _ y Zs
       refine ⟨b1,fun j d hd=>?_⟩
       obtain ⟨d1,u,d2,d3⟩:=b2 j d hd
       have e:c.getD (o+(lo+a) * sz+j) undef=u:=by rw [Array.getD_eq_getD_getElem?,d2]; rfl
       have ES:=fM y (List.mem_of_getElem? Zs) d (List.mem_of_getElem? hd)
       have hr:bo G.M d u:=by
        rcases d3 with ⟨c1,_⟩ | ⟨_,c2⟩
        ·rw [ES] at c1; cases c1
        ·exact c2
       refine ⟨d1,?_,?_,ES,?_⟩
       ·rw [cF,cO]
        simp only [World.cell?,a3]
        rw [show o+(lo * sz+(a * sz+j))=o+(lo+a) * sz+j by rw [Nat.add_mul]; omega,e]
        simpa using d2
       ·show (c.getD (o+(lo+a) * sz+j) undef).oneCell'=true
        rw [e]; exact hr.cT d1
       ·show bo G.M d (c.getD (o+(lo+a) * sz+j) undef)
        rw [e]; exact hr
     ·rintro b ⟨_,_,_,_,_,q,_⟩; cases q
    | _=>exact h.elim
  ·exact h.elim
 ·exact h.elim
theorem dU {c:Call} {s x:Operand} {t:Nat} {a:Act} {w w':World} {v':Value} (ho:o.op=.call c) (hc:c.callee=.builtin .append) (ha:c.args.toList=[s,x]) (jz:c.argTypes.toList=[t,t])
  (h:(Builtin.append_ #[t,t] o.type #[a.eval s,a.eval x]).run P w=.ok v' w'):(execOp a.eval o).run P w=.ok (.value v') w':=by
 have bM:c.args=#[s,x]:=Array.ext' (by simpa using ha)
 have GW:c.argTypes=#[t,t]:=Array.ext' (by simpa using jz)
 simp [execOp,ho,resolve,hc,bM,GW,invoke,builtin,h]
theorem cf.append (hT:er P T) {t ty:TypeId} (bK:(nth T t).ok=true) (gX:(nth T t).isSl=true) (fJ:(nth T (nth T t).elem).ok=true) (eQ:0<(nth T (nth T t).elem).size)
  {g:dD} {κ' κ2:Nat→ar} {a:Act} {w:World} {G:Gh} (ak:cf g n ρ κ' a w G) {i bg:Nat} {l ys zs:List DV} {kill:List Nat} {h hs:List PS→Option Value} {v x:Value}
  (ht:aX G.M w h (.aw (nth T (nth T t).elem).size l)) (hi:fk h (.aw (nth T (nth T t).elem).size l)) (hv:h []=some v)
  (hk:(κ' i=.none∧bg=0∧∀b,¬ aQ h (.aw (nth T (nth T t).elem).size l) b) ∨ ∃ver ep,κ' i=.tree ver ep (.aw (nth T (nth T t).elem).size l)∧bg=ver+1∧h=aB G.H i ver ep)
  (gT:Src G.M w x (nth T (nth T t).elem).size ys hs) (G4:∀b,aQ hs (.aw (nth T (nth T t).elem).size ys) b→∃j,j∈kill∧bL G j (κ' j) b) (zv:i ∉ kill) (hle:dm ys zs)
  (GY:l.length+zs.length≤9223372036854775807) (zw:(l.length+zs.length) * (nth T (nth T t).elem).bytes≤140737488355328)
  (h1:κ2 i=.tree bg 0 (.aw (nth T (nth T t).elem).size (l++zs))) (h2:∀j,j∈kill→κ2 j=.dead) (h3:∀j,j ≠ i→j ∉ kill→κ2 j=κ' j) :
  ∃v' w' G',(Builtin.append_ #[t,t] ty #[v,x]).run P w=.ok v' w'∧cf g n ρ κ2 a w' G'∧aH G' (.own i bg 0 []) v':=by
 have G5:∀b,aQ h (.aw (nth T (nth T t).elem).size l) b→bL G i (κ' i) b:=fun b hb=>by
  rcases hk with ⟨_,_,h0⟩ | ⟨ver,ep,dV,_,rfl⟩
  ·exact absurd hb (h0 b)
  ·rw [dV]; exact hb
 obtain ⟨v',w',bj,lF,qM,t1,t2,t3⟩:=Es (P:=P) (ty:=ty) hT bK gX fJ eQ ht hi hv gT
  (fun b hb cL=>by obtain ⟨j,hj,ho⟩:=G4 b cL; exact zv (ak.fit.inj i j b (G5 b hb) ho ▸ hj))
  (fun b hb=>by obtain ⟨j,_,ho⟩:=G4 b hb; exact ho.lt ak.fit) hle GY zw
 have VB:∀b,fj v=some b→aQ h (.aw (nth T (nth T t).elem).size l) b:=fun b hb=>⟨[],_,v,rfl,rfl,hv,hb⟩
 obtain ⟨G',g1,g2,_,g4,_,_,g7⟩:=ak.kl (κ':=κ2) (i:=i) (ver:=bg) (ep:=0) (d:=.aw (nth T (nth T t).elem).size (l++zs)) (fun j=>j∈kill) (r5 l.length v' h hs) zv
  (by
   rcases hk with ⟨dV,_,_⟩ | ⟨ver,ep,dV,rfl,_⟩
   ·exact .inl dV
   ·exact .inr ⟨ver,ep,_,dV,by omega,by omega⟩)
  h2 h1 h3
  (fun p y hy=>by
   have hb:=ak.fit.box i
   rcases hk with ⟨dV,rfl,_⟩ | ⟨ver,ep,dV,rfl,_⟩
   ·rw [dV] at hb; cases p <;> simp [aB,hb.2] at hy
   ·rw [dV] at hb; cases p <;> simp [aB,hb.2.2.1 (ver+1) (by omega)] at hy)
  t1 t2
  (fun b hb=>by
   rcases t3 b hb with h5 | h5 | h5
   ·exact .inr (.inl (G5 b h5))
   ·exact .inr (.inr (G4 b h5))
   ·exact .inl h5)
  (fun b hb dj _=>lF.block b hb fun e=>dj (G5 b (VB b e.symm)))
  (fun b hb=>by
   rcases hb with h5 | ⟨j,_,h5⟩
   ·exact ak.fit.own i b h5
   ·exact ak.fit.own j b h5)
  lF.size lF.os lF.tape lF.output
 exact ⟨v',w',G',bj,g7,.own _ _ _ _ _ ((g4 []).trans rfl) qM⟩
theorem IX (hT:er P T) {t:Nat} {s x:Operand} {c:Call} {sv xv:AV} (hg:bR ρ ops o.guard=some gd) (ho:o.op=.call c) (hc:c.callee=.builtin .append) (ha:c.args.toList=[s,x]) (jz:c.argTypes.toList=[t,t])
  (hn:∀i,nx≤i→κ i=.none) (h:mc T n o nx κ k t sv xv) (uP:bu ρ κ gd s sv) (hex:bu ρ κ gd x xv):Good P C ops n o nx ρ κ k:=by
 have c9:∀c',o.op ≠ .defer c':=fun c'=>by rw [ho]; simp
 have bM:c.args=#[s,x]:=Array.ext' (by simpa using ha)
 have ms:s∈o.op.operands:=by rw [ho]; simp [Op.operands,Call.operands,hc,bM]
 have mx:x∈o.op.operands:=by rw [ho]; simp [Op.operands,Call.operands,hc,bM]
 unfold mc at h
 simp only at h
 cases jy:(nth T t).ok && (nth T t).isSl && (nth T (nth T t).elem).ok && Nat.blt 0 (nth T (nth T t).elem).size with
 | false=>rw [jy] at h; exact h.elim
 | true =>
 rw [jy] at h
 simp only [cond_true] at h
 simp only [Bool.and_eq_true,Nat.blt_eq] at jy
 obtain ⟨⟨⟨bK,gX⟩,fJ⟩,eQ⟩:=jy
 have Eu:∀j,(∃v e d,κ j=.tree v e d)→j<nx:=fun j ⟨v,e,d,hj⟩=>by
  rcases Nat.lt_or_ge j nx with h | h
  ·exact h
  ·rw [hn j h] at hj; cases hj
 have G6:∀{kill:List Nat} {dK:Nat},(∀j,j∈kill→∃v e d,κ j=.tree v e d)→nx≤dK→∀p,p∈ec kill→p.1<dK:=by
  intro kill dK hk hle p hp
  have:p.1∈kill:=by
   clear hk
   induction kill with
   | nil=>simp [ec] at hp
   | cons i r ih=>simp only [ec] at hp; rcases List.mem_cons.1 hp with rfl | hp; exact List.mem_cons_self; exact List.mem_cons_of_mem _ (ih hp)
  have:=Eu _ (hk _ this); omega
 have nothing:∀{v:Value} {w:World},((∃l ob gb cap,v=.slice (some ⟨gb,ob,none⟩) l cap∧l≤cap) ∨ v=.slice none 0 0)→(Builtin.append_ #[t,t] o.type #[v,.slice none 0 0]).run P w=.ok v w:=by
  intro v w hv
  obtain ⟨i,u,z,tf⟩:=hT.facts bK
  obtain ⟨te,ue,ze,iT⟩:=hT.facts fJ
  rcases hv with ⟨l,ob,gb,cap,rfl,eA⟩ | rfl
  ·simp [Builtin.append_,run_underlying (tf.slice gX),sizeOf,typeInfo,iT.info,Builtin.lenOf,Builtin.firstCells,eA,storeCells]
  ·simp [Builtin.append_,run_underlying (tf.slice gX),sizeOf,typeInfo,iT.info,Builtin.lenOf,Builtin.firstCells]
 split at h
 ·-- a nil slice
  rcases ji h with ⟨rfl,hk⟩ | ⟨sz,ys,rd,kill,hk,Kw,N1,gT⟩
  ·refine cY c9 hg hk (Nat.le_refl _) (by simp) fun ρ' κ' ax g a w G dq ak aR=>?_
   have hv:=uP ρ' κ' (ax.op ms) g n a w G ak aR
   have fe:=hex ρ' κ' (ax.op mx) g n a w G ak aR
   generalize hx:a.eval s=v at hv
   generalize hi:a.eval x=vi at fe
   cases hv with | dv hv=>cases hv with | aG=>cases fe with | dv fe=>cases fe with | aG =>
   refine ⟨_,w,G,.inl (dU ho hc ha jz (by rw [hx,hi]; exact nothing (.inr rfl))),ak,.dv .aG⟩
  ·cases aU:Nat.beq sz (nth T (nth T t).elem).size with
   | false=>rw [aU] at hk; exact hk.elim
   | true =>
   rw [aU] at hk
   have:=Nat.eq_of_beq_eq_true aU
   subst this
   obtain ⟨zs,hle,zw,GY,hk⟩:=hk
   refine cY c9 hg hk (by omega) (fun p hp=>?_) fun ρ' κ' ax g a w G dq ak aR=>?_
   ·rcases List.mem_cons.1 hp with rfl | hp
    ·simp
    ·exact G6 (fun j hj=>Kw j (N1 j hj)) (by omega) p hp
   ·have fA:κ' nx=.none:=(ax.reads nx (by simp)).trans (hn nx (Nat.le_refl _))
    have hv:=uP ρ' κ' (ax.op ms) g n a w G ak aR
    have fe:=hex ρ' κ' (ax.op mx) g n a w G ak aR
    obtain ⟨hs,Kx,VC⟩:=gT κ' G w _ (fun i hi=>ax.reads i (by simp [hi])) ak.fit fe
    have Lm:nx ∉ kill:=fun hm=>by have:=Eu nx (Kw nx (N1 nx hm)); omega
    generalize hx:a.eval s=v at hv
    cases hv with | dv hv=>cases hv with | aG =>
    obtain ⟨v',w',G',r1,r2,r3⟩:=ak.append (κ2:=az κ' ((nx,.tree 0 0 (.aw (nth T (nth T t).elem).size zs))::ec kill)) (ty:=o.type) (i:=nx) (bg:=0) (l:=[]) hT bK gX fJ eQ (vB _ _ _) (Ai _) rfl (.inl ⟨fA,rfl,fun b hb=>jk hb⟩) Kx VC Lm hle (by simpa using GY) (by simpa using zw)
     (by simp [az]) (fun j hj=>by simp only [az]; rw [ae _ _ (by rintro rfl; exact Lm hj),cX,if_pos hj]) (fun j h1 h2=>by simp only [az]; rw [ae _ _ h1,cX,if_neg h2])
    exact ⟨v',w',G',.inl (dU ho hc ha jz (by rw [hx]; exact r1)),r2,r3⟩
 ·-- a slice aai aaj ZN array
  rename_i i ver ep p
  split at h
  ·rename_i bg bN d dV
   cases hb:Nat.beq ver bg && (emp p || Nat.beq ep bN) with
   | false=>rw [hb] at h; exact h.elim
   | true =>
   rw [hb] at h
   simp only [cond_true] at h
   obtain ⟨rfl,dx⟩:=dt hb
   obtain ⟨nd,h,Cm⟩:=bG h
   have wK:=Cm rfl
   have se:i<nx:=Eu i ⟨_,_,_,dV⟩
   cases nd with
   | aw sz l =>
    simp only at h
    cases aU:Nat.beq sz (nth T (nth T t).elem).size with
    | false=>rw [aU] at h; exact h.elim
    | true =>
    rw [aU] at h
    simp only [cond_true] at h
    have:=Nat.eq_of_beq_eq_true aU
    subst this
    have PX:∀{g:dD} {a:Act} {G:Gh} {κ':Nat→ar} {w:World},aH G (.own i ver ep p) (a.eval s)→aB G.H i ver bN p=some (a.eval s):=by
     intro g a G κ' w hv
     generalize a.eval s=v at hv ⊢
     cases hv with | own _ _ _ _ _ hh il=>rw [←cU dx]; exact hh
    rcases ji h with ⟨rfl,hk⟩ | ⟨pO,ys,rd,kill,hk,Kw,N1,gT⟩
    ·-- nothing comes in
     have node:∀{G:Gh} {w:World} {κ':Nat→ar},κ' i=κ i→Fit G w κ'→∀{v:Value},aB G.H i ver bN p=some v→((∃l ob gb cap,v=.slice (some ⟨gb,ob,none⟩) l cap∧l≤cap) ∨ v=.slice none 0 0):=by
      intro G w κ' he hf v hv
      obtain ⟨u,h1,_,h3⟩:=hf.node (he.trans dV) wK rfl
      rw [hv] at h1; injection h1 with h1; subst h1
      rcases h3 with ⟨_,rfl⟩ | ⟨gb,ob,cap,c,t,rfl,eA,_⟩
      ·exact .inr rfl
      ·exact .inl ⟨_,_,_,_,rfl,eA⟩
     cases p with
     | nil =>
      simp [get] at wK
      subst wK
      refine cY c9 hg hk (Nat.le_refl _) (by simpa using se) fun ρ' κ' ax g a w G dq ak aR=>?_
      have he:=ax.reads i (by simp)
      have hv:=uP ρ' κ' (ax.op ms) g n a w G ak aR
      have fe:=hex ρ' κ' (ax.op mx) g n a w G ak aR
      have hx:=PX (g:=g) (κ':=κ') (w:=w) hv
      generalize hi:a.eval x=vi at fe
      cases fe with | dv fe=>cases fe with | aG =>
      have dQ:=ak.fit.box i
      rw [he,dV] at dQ
      obtain ⟨G',g1,g2,_,g4,_,_,g7⟩:=ak.kl (κ':=az κ' [(i,.tree (ver+1) 0 (.aw (nth T (nth T t).elem).size l))]) (w':=w) (i:=i) (ver:=ver+1) (ep:=0) (d:=.aw (nth T (nth T t).elem).size l) (fun _=>False) (aB G.H i ver bN) (fun h=>h.elim) (.inr ⟨ver,bN,_,he.trans dV,by omega,by omega⟩) (fun _ h=>h.elim) (by simp [az]) (fun j hj _=>by simp [az,ae _ _ hj])
       (fun q y hy=>by cases q <;> simp [aB,dQ.2.2.1 (ver+1) (by omega)] at hy) dQ.1 dQ.2.1 (fun b hb=>.inr (.inl (by rw [he,dV]; exact hb))) (fun _ _ _ _=>rfl) (fun b hb=>by
        rcases hb with h5 | ⟨_,h5,_⟩
        ·exact ak.fit.own i b h5
        ·exact h5.elim) (Nat.le_refl _) rfl rfl rfl
      have qM:(a.eval s).oneCell'=true:=by rcases node he ak.fit hx with ⟨_,_,_,_,e,_⟩ | e <;> rw [e] <;> rfl
      exact ⟨a.eval s,w,G',.inl (dU ho hc ha jz (by rw [hi]; exact nothing (node he ak.fit hx))),g7,.own _ _ _ _ _ ((g4 []).trans hx) qM⟩
     | cons ps pr =>
      obtain ⟨hk,_⟩:=eC hk
      refine cY c9 hg hk (by omega) (fun q hq=>by
       rcases List.mem_cons.1 hq with rfl | hq
       ·simp
       ·simp at hq; subst hq; simp; omega) fun ρ' κ' ax g a w G dq ak aR=>?_
      have he:=ax.reads i (by simp)
      have fA:κ' nx=.none:=(ax.reads nx (by simp)).trans (hn nx (Nat.le_refl _))
      have hv:=uP ρ' κ' (ax.op ms) g n a w G ak aR
      have fe:=hex ρ' κ' (ax.op mx) g n a w G ak aR
      have hx:=PX (g:=g) (κ':=κ') (w:=w) hv
      generalize hi:a.eval x=vi at fe
      cases fe with | dv fe=>cases fe with | aG =>
      obtain ⟨G',g1,g2,_,g4,g7⟩:=ak.split (κ':=az κ' [(nx,.tree 0 0 (.aw (nth T (nth T t).elem).size l)),(i,.tree ver (bN+1) (bP d (ps::pr) .any))]) (i:=i) (nx:=nx) (he.trans dV) fA wK rfl (by simp) (by simp only [az]; rw [ae _ _ (by omega)]; simp) (by simp [az]) (fun j h1 h2=>by simp only [az]; rw [ae _ _ h2,ae _ _ h1])
      have qM:(a.eval s).oneCell'=true:=by rcases node he ak.fit hx with ⟨_,_,_,_,e,_⟩ | e <;> rw [e] <;> rfl
      refine ⟨a.eval s,w,G',.inl (dU ho hc ha jz (by rw [hi]; exact nothing (node he ak.fit hx))),g7,.own _ _ _ _ _ ((g4 []).trans ?_) qM⟩
      rw [List.append_nil]; exact hx
    ·cases cy:Nat.beq pO (nth T (nth T t).elem).size && !gu i rd with
     | false=>rw [cy] at hk; exact hk.elim
     | true =>
     rw [cy] at hk
     simp only [cond_true] at hk
     simp only [Bool.and_eq_true,Bool.not_eq_true'] at cy
     have:=Nat.eq_of_beq_eq_true cy.1
     subst this
     have VD:=eD cy.2
     have zv:i ∉ kill:=fun hm=>VD (N1 i hm)
     obtain ⟨zs,hle,zw,GY,hk⟩:=hk
     cases p with
     | nil =>
      simp [get] at wK
      subst wK
      refine cY c9 hg hk (Nat.le_refl _) (fun q hq=>by
       rcases List.mem_cons.1 hq with rfl | hq
       ·exact se
       ·exact G6 (fun j hj=>Kw j (N1 j hj)) (Nat.le_refl _) q hq) fun ρ' κ' ax g a w G dq ak aR=>?_
      have he:=ax.reads i (by simp)
      have hv:=uP ρ' κ' (ax.op ms) g n a w G ak aR
      have fe:=hex ρ' κ' (ax.op mx) g n a w G ak aR
      have hx:=PX (g:=g) (κ':=κ') (w:=w) hv
      obtain ⟨hs,Kx,VC⟩:=gT κ' G w _ (fun i hi=>ax.reads i (by simp [hi])) ak.fit fe
      have dQ:=ak.fit.box i
      rw [he,dV] at dQ
      obtain ⟨v',w',G',r1,r2,r3⟩:=ak.append (κ2:=az κ' ((i,.tree (ver+1) 0 (.aw (nth T (nth T t).elem).size (l++zs)))::ec kill)) (ty:=o.type) (i:=i) (bg:=ver+1) hT bK gX fJ eQ dQ.1 dQ.2.1 hx (.inr ⟨ver,bN,he.trans dV,rfl,rfl⟩) Kx VC zv hle GY zw
       (by simp [az]) (fun j hj=>by simp only [az]; rw [ae _ _ (by rintro rfl; exact zv hj),cX,if_pos hj]) (fun j h1 h2=>by simp only [az]; rw [ae _ _ h1,cX,if_neg h2])
      exact ⟨v',w',G',.inl (dU ho hc ha jz r1),r2,r3⟩
     | cons ps pr =>
      obtain ⟨hk,_⟩:=eC hk
      refine cY c9 hg hk (by omega) (fun q hq=>by
       rcases List.mem_cons.1 hq with rfl | hq
       ·simp
       ·rcases List.mem_cons.1 hq with rfl | hq
        ·show i<nx+1; omega
        ·exact G6 (fun j hj=>Kw j (N1 j hj)) (by omega) q hq) fun ρ' κ' ax g a w G dq ak aR=>?_
      have he:=ax.reads i (by simp)
      have fA:κ' nx=.none:=(ax.reads nx (by simp)).trans (hn nx (Nat.le_refl _))
      have hv:=uP ρ' κ' (ax.op ms) g n a w G ak aR
      have fe:=hex ρ' κ' (ax.op mx) g n a w G ak aR
      have hx:=PX (g:=g) (κ':=κ') (w:=w) hv
      have Lm:nx ∉ kill:=fun hm=>by have:=Eu nx (Kw nx (N1 nx hm)); omega
      have Yn:nx ∉ rd:=fun hm=>by have:=Eu nx (Kw nx hm); omega
      obtain ⟨G1,g1,g2,_,g4,g7⟩:=ak.split (κ':=az κ' [(nx,.tree 0 0 (.aw (nth T (nth T t).elem).size l)),(i,.tree ver (bN+1) (bP d (ps::pr) .any))]) (i:=i) (nx:=nx) (he.trans dV) fA wK rfl (by simp) (by simp only [az]; rw [ae _ _ (by omega)]; simp) (by simp [az]) (fun j h1 h2=>by simp only [az]; rw [ae _ _ h2,ae _ _ h1])
      obtain ⟨hs,Kx,VC⟩:=gT (az κ' [(nx,.tree 0 0 (.aw (nth T (nth T t).elem).size l)),(i,.tree ver (bN+1) (bP d (ps::pr) .any))]) G1 w _ (fun j hj=>by simp only [az]; rw [ae _ _ (by rintro rfl; exact Yn hj),ae _ _ (by rintro rfl; exact VD hj)]; exact ax.reads j (by simp [hj])) g7.fit (fe.mono g1)
      have dQ:=g7.fit.box nx
      have o7:az κ' [(nx,.tree 0 0 (.aw (nth T (nth T t).elem).size l)),(i,.tree ver (bN+1) (bP d (ps::pr) .any))] nx=.tree 0 0 (.aw (nth T (nth T t).elem).size l):=by simp [az]
      rw [o7] at dQ
      obtain ⟨v',w',G',r1,r2,r3⟩:=g7.append (κ2:=az κ' ((nx,.tree 1 0 (.aw (nth T (nth T t).elem).size (l++zs)))::(i,.tree ver (bN+1) (bP d (ps::pr) .any))::ec kill)) (ty:=o.type) (i:=nx) (bg:=1) hT bK gX fJ eQ dQ.1 dQ.2.1 (v:=a.eval s) (by rw [g4 [],List.append_nil]; exact hx) (.inr ⟨0,0,o7,rfl,rfl⟩) Kx VC Lm hle GY zw
       (by simp [az]) (fun j hj=>by simp only [az]; rw [ae _ _ (by rintro rfl; exact Lm hj),ae _ _ (by rintro rfl; exact zv hj),cX,if_pos hj]) (fun j h1 h2=>by
        simp only [az]
        rw [ae _ _ h1,ae _ _ h1]
        by_cases e:j=i
        ·subst e; simp
        ·rw [ae _ _ e,ae _ _ e,cX,if_neg h2])
      exact ⟨v',w',G',.inl (dU ho hc ha jz r1),r2,r3⟩
   | _=>exact h.elim
  ·exact h.elim
 ·exact h.elim
end
end Go.TM
namespace Go.TM
open Go.RowKit
variable [cu]
structure TC (G:Gh) (w:World) (κ:Nat→ar) (ids:List Nat) (ds:List DV) (us:List Value) (hs:Nat→List PS→Option Value) (id:Nat→Nat):Prop where
 len:ds.length=us.length
 cell:∀(j:Nat) (d:DV) (u:Value),ds[j]?=some d→us[j]?=some u→(d.ah=false∧bo G.M d u) ∨
  (d.ah=true∧id j∈ids∧aX G.M w (hs j) d∧fk (hs j) d∧hs j []=some u∧∀b,aQ (hs j) d b→bL G (id j) (κ (id j)) b)
 ne:∀(j j':Nat) (d d':DV),ds[j]?=some d→ds[j']?=some d'→d.ah=true→d'.ah=true→id j=id j'→j=j'
theorem tK {i:Nat} {r:List Nat} (h:eP (i::r)=true):i ∉ r∧eP r=true:=by
 simp only [eP,Bool.and_eq_true,Bool.not_eq_true'] at h
 exact ⟨eD h.1,h.2⟩
theorem G7 {κ κ':Nat→ar} {G:Gh} {w:World} {v:AV} {d:DV} {ids:List Nat} (h:OI κ v=some (d,ids)) (ax:∀i,i∈ids→κ' i=κ i) (hf:Fit G w κ') {u:Value} (hv:aH G v u) :
  (ids=[]∧d.ah=false∧bo G.M d u) ∨ ∃i ver ep,ids=[i]∧κ' i=.tree ver ep d∧d.ah=true∧aB G.H i ver ep []=some u:=by
 unfold OI at h
 split at h
 ·injection h with h; injection h with e1 e2; subst e1; subst e2
  cases hv with | dv hv=>exact .inl ⟨rfl,hv.dO,hv⟩
 ·rename_i i ver ep
  split at h
  ·rename_i bg bN d' hk
   cases hb:Nat.beq ver bg with
   | false=>rw [hb] at h; cases h
   | true =>
    rw [hb] at h
    have:=Nat.eq_of_beq_eq_true hb
    subst this
    simp only [cond_true,Option.some.injEq,Prod.mk.injEq] at h
    obtain ⟨rfl,rfl⟩:=h
    have dV:κ' i=.tree ver bN d':=(ax i (by simp)).trans hk
    have dQ:=hf.box i
    rw [dV] at dQ
    cases hv with | own _ _ _ _ _ hh hc=>exact .inr ⟨i,ver,bN,rfl,dV,dQ.1.1,hh⟩
  ·cases h
 ·injection h with h; injection h with e1 e2; subst e1; subst e2
  cases hv with | fn _ _ vs hl hr =>
  have:vs=[]:=by simpa using hl.symm
  subst this
  exact .inl ⟨rfl,rfl,.fn _ [] [] rfl (by simp)⟩
 ·cases h
theorem Kf {κ κ':Nat→ar} {G:Gh} {w:World} {v:AV} {d:DV} {ids:List Nat} (h:V4 κ v=some (d,ids)) (ax:∀i,i∈ids→κ' i=κ i) (hf:Fit G w κ') {u:Value} (hv:aH G v u) :
  (ids=[]∧d.ah=false∧bo G.M d u) ∨ ∃i ver ep,ids=[i]∧κ' i=.tree ver ep d∧d.ah=true∧aB G.H i ver ep []=some u:=G7 (v:=dn v) h ax hf (yS hv)
theorem mG {κ κ':Nat→ar} {G:Gh} {w:World} (hf:Fit G w κ'):∀{vs:List AV} {ds:List DV} {ids:List Nat} {us:List Value},rp κ vs=some (ds,ids)→eP ids=true→(∀i,i∈ids→κ' i=κ i)→bU G vs us→∃hs id,TC G w κ' ids ds us hs id
 | [],ds,ids,us,h,_,_,hr=>by
  simp [rp] at h
  obtain ⟨rfl,rfl⟩:=h
  have:us=[]:=by have:=hr.1; simpa using this.symm
  subst this
  exact ⟨fun _ _=>none,fun _=>0,rfl,by simp,by simp⟩
 | v::vs,ds,ids,us,h,c9,ax,hr=>by
  simp only [rp] at h
  split at h
  ·rename_i d i l j h1 h2
   simp only [Option.some.injEq,Prod.mk.injEq] at h
   obtain ⟨rfl,rfl⟩:=h
   match us,hr with
   | [],hr=>have:=hr.1; simp at this
   | u::us,hr =>
    have pV:eP j=true∧∀q,q∈i→q ∉ j:=by
     clear h1 h2 hr ax
     induction i with
     | nil=>exact ⟨c9,by simp⟩
     | cons q i ih =>
      obtain ⟨a1,a2⟩:=tK c9
      obtain ⟨b1,b2⟩:=ih a2
      refine ⟨b1,fun q' ER=>?_⟩
      rcases List.mem_cons.1 ER with rfl | ER
      ·exact fun hm=>a1 (List.mem_append.2 (.inr hm))
      ·exact b2 q' ER
    obtain ⟨hs,id,eB⟩:=mG hf h2 pV.1 (fun q hq=>ax q (List.mem_append.2 (.inr hq))) (us:=us) ⟨by simpa using hr.1,fun q e y he hy=>hr.2 (q+1) e y (by simpa using he) (by simpa using hy)⟩
    have h0:=Kf h1 (fun q hq=>ax q (List.mem_append.2 (.inl hq))) hf (hr.2 0 v u rfl rfl)
    rcases h0 with ⟨rfl,h3,h4⟩ | ⟨q,ver,ep,rfl,h3,h4,h5⟩
    ·refine ⟨fun n=>match n with | 0=>fun _=>none | n+1=>hs n,fun n=>match n with | 0=>0 | n+1=>id n,⟨by simp [eB.len],fun n e y he hy=>?_,fun n n' e e' he zL ho iC heq=>?_⟩⟩
     ·cases n with
      | zero=>simp at he hy; subst he; subst hy; exact .inl ⟨h3,h4⟩
      | succ n=>simp at he hy; simpa using eB.cell n e y he hy
     ·cases n with
      | zero=>simp at he; subst he; rw [h3] at ho; cases ho
      | succ n =>
       cases n' with
       | zero=>simp at zL; subst zL; rw [h3] at iC; cases iC
       | succ n'=>simp at he zL; rw [eB.ne n n' e e' he zL ho iC heq]
    ·have dQ:=hf.box q
     rw [h3] at dQ
     refine ⟨fun n=>match n with | 0=>aB G.H q ver ep | n+1=>hs n,fun n=>match n with | 0=>q | n+1=>id n,⟨by simp [eB.len],fun n e y he hy=>?_,fun n n' e e' he zL ho iC heq=>?_⟩⟩
     ·cases n with
      | zero=>simp at he hy; subst he; subst hy; exact .inr ⟨h4,by simp,dQ.1,dQ.2.1,h5,fun b hb=>by rw [h3]; exact hb⟩
      | succ n =>
       simp at he hy
       rcases eB.cell n e y he hy with h6 | ⟨a1,a2,a3⟩
       ·exact .inl h6
       ·exact .inr ⟨a1,by simp [a2],a3⟩
     ·have inj:∀n e,l[n]?=some e→e.ah=true→id n∈j:=by
       intro n e he ho
       have hn:n<us.length:=by rw [←eB.len]; exact (List.getElem?_eq_some_iff.1 he).1
       rcases eB.cell n e _ he (List.getElem?_eq_getElem hn) with ⟨a1,_⟩ | ⟨_,a2,_⟩
       ·rw [ho] at a1; cases a1
       ·exact a2
      cases n with
      | zero =>
       cases n' with
       | zero=>rfl
       | succ n'=>simp at zL heq; exact absurd (inj n' e' zL iC) (heq ▸ pV.2 q (by simp))
      | succ n =>
       cases n' with
       | zero=>simp at he heq; exact absurd (inj n e he ho) (heq ▸ pV.2 q (by simp))
       | succ n'=>simp at he zL; rw [eB.ne n n' e e' he zL ho iC heq]
  ·cases h
theorem TC.le {G:Gh} {w:World} {κ:Nat→ar} {ids:List Nat} {ds uc:List DV} {us:List Value} {hs:Nat→List PS→Option Value} {id:Nat→Nat} (h:TC G w κ ids ds us hs id) (hle:kO ds uc) (h1:∀u,u∈us→u.oneCell'=true):TC G w κ ids uc us hs id∧∀d,d∈uc→d.aq=true:=by
 have key:∀(j:Nat) (d':DV) (u:Value),uc[j]?=some d'→us[j]?=some u→∃d,ds[j]?=some d∧((d.ah=true∧d=d') ∨ (d.ah=false∧bo G.M d' u)):=by
  intro j d' u jx hu
  have hj:j<ds.length:=by rw [hle.length]; exact (List.getElem?_eq_some_iff.1 jx).1
  refine ⟨ds[j],List.getElem?_eq_getElem hj,?_⟩
  rcases hle.at j _ d' (List.getElem?_eq_getElem hj) jx with h2 | ⟨h2,h3⟩
  ·exact .inl h2
  ·rcases h.cell j _ u (List.getElem?_eq_getElem hj) hu with ⟨_,h4⟩ | ⟨h4,_⟩
   ·exact .inr ⟨h2,h3 G.M u h4⟩
   ·rw [h2] at h4; cases h4
 have hlen:uc.length=us.length:=by rw [←hle.length]; exact h.len
 refine ⟨⟨hlen,fun j d' u jx hu=>?_,fun j j' d d' hd jx ho iC heq=>?_⟩,fun d' jx=>?_⟩
 ·obtain ⟨d,hd,hc⟩:=key j d' u jx hu
  rcases hc with ⟨_,rfl⟩ | ⟨_,h3⟩
  ·exact h.cell j d u hd hu
  ·exact .inl ⟨h3.dO,h3⟩
 ·have q:∀(j:Nat) (d:DV),uc[j]?=some d→d.ah=true→ds[j]?=some d:=by
   intro j d hd ho
   have hj:j<us.length:=by rw [←hlen]; exact (List.getElem?_eq_some_iff.1 hd).1
   obtain ⟨d0,h2,hc⟩:=key j d _ hd (List.getElem?_eq_getElem hj)
   rcases hc with ⟨_,rfl⟩ | ⟨_,h3⟩
   ·exact h2
   ·rw [h3.dO] at ho; cases ho
  exact h.ne j j' d d' (q j d hd ho) (q j' d' jx iC) ho iC heq
 ·obtain ⟨j,hj⟩:=List.getElem?_of_mem jx
  have Ev:j<us.length:=by rw [←hlen]; exact (List.getElem?_eq_some_iff.1 hj).1
  obtain ⟨d,_,hc⟩:=key j d' _ hj (List.getElem?_eq_getElem Ev)
  rcases hc with ⟨h2,rfl⟩ | ⟨_,h3⟩
  ·exact ek h2
  ·exact h3.aq (h1 _ (List.getElem_mem Ev))
theorem uw {x:DV} {off:Nat} {ds:List DV} {K:DV→Prop} (h:zk x off ds K):∃y,K y∧((∀d,d∈ds→d.aq=true)→off+ds.length≤x.cells.length∧y.cells=lY x.cells off ds∧y.isAgg=x.isAgg):=by
 unfold zk at h
 split at h
 ·rename_i l
  cases hb:Nat.ble (off+ds.length) l.length with
  | false=>rw [hb] at h; exact h.elim
  | true=>rw [hb] at h; exact ⟨_,h,fun _=>⟨Nat.le_of_ble_eq_true hb,rfl,rfl⟩⟩
 ·rename_i bJ
  split at h
  ·rename_i d
   refine ⟨d,h,fun hc=>?_⟩
   have hd:=hc d (by simp)
   refine ⟨?_,?_,?_⟩
   ·cases x <;> first | exact (bJ _ rfl).elim | simp [DV.cells]
   ·cases d <;> cases x <;> first | exact (bJ _ rfl).elim | (cases hd; done) | rfl
   ·cases d <;> cases x <;> first | exact (bJ _ rfl).elim | (cases hd; done) | rfl
  ·exact h.elim
theorem mI {l ds:List DV} {off j:Nat} (hle:off+ds.length≤l.length):(lY l off ds)[j]?=if off≤j∧j<off+ds.length then ds[j - off]? else l[j]?:=by
 unfold lY
 rw [List.append_assoc,List.getElem?_append]
 simp only [List.length_take]
 rw [show min off l.length=off by omega]
 by_cases h1:j<off
 ·rw [if_pos h1,if_neg (by omega),List.getElem?_take,if_pos h1]
 ·rw [if_neg h1,List.getElem?_append]
  by_cases h2:j - off<ds.length
  ·rw [if_pos h2,if_pos (by omega)]
  ·rw [if_neg h2,if_neg (by omega),List.getElem?_drop]
   congr 1; omega
theorem oo {l ds:List DV} {off:Nat} (hle:off+ds.length≤l.length):(lY l off ds).length=l.length:=by simp [lY]; omega
theorem xW {l us:List Value} {off j:Nat} (hle:off+us.length≤l.length):(l.take off++us++l.drop (off+us.length))[j]?=if off≤j∧j<off+us.length then us[j - off]? else l[j]?:=by
 rw [List.append_assoc,List.getElem?_append]
 simp only [List.length_take]
 rw [show min off l.length=off by omega]
 by_cases h1:j<off
 ·rw [if_pos h1,if_neg (by omega),List.getElem?_take,if_pos h1]
 ·rw [if_neg h1,List.getElem?_append]
  by_cases h2:j - off<us.length
  ·rw [if_pos h2,if_pos (by omega)]
  ·rw [if_neg h2,if_neg (by omega),List.getElem?_drop]
   congr 1; omega
theorem Ew {sz idx off:Nat} {nd:DV} {ds:List DV} {K:List DV→DV→Prop} (h:C9 sz idx off nd ds K) :
  ∃yg D6,K yg D6∧nd.ah=true∧((∀d,d∈ds→d.aq=true)→nd.ah=true∧D6.ah=true ∧
   (∀s c,step D6 s=some c→(∃j,s=.el idx j∧off≤j∧j<off+ds.length∧ds[j - off]?=some c) ∨ ((∀j,s=.el idx j→¬ (off≤j∧j<off+ds.length))∧step nd s=some c)) ∧
   (∀j c,step nd (.el idx j)=some c→off≤j→j<off+ds.length→c∈yg) ∧
   ∀(M:Mem) (w:World) (v:Value) (il:PS→Option Value),ca M w v il nd→∃g o c t,fj v=some g∧w.heap[g]?=some (.cells c t (0,0))∧o+ds.length≤c.size ∧
    (∀A,(v=.pointer (some A) ∨ ∃m q,v=.slice (some A) m q)→A.add (idx * sz+off)=⟨g,o,none⟩) ∧
    ∀(us:List Value) (mV:PS→Option Value) (w':World),us.length=ds.length→w'.heap[g]?=some (.cells (c.toList.take o++us++c.toList.drop (o+us.length)).toArray t (0,0)) →
     (∀s,(∀j,s=.el idx j→¬ (off≤j∧j<off+ds.length))→mV s=il s)→(∀(j:Nat) (d:DV) (u:Value),ds[j]?=some d→us[j]?=some u→db M (mV (.el idx (off+j))) d u)→ca M w' v mV D6):=by
 unfold C9 at h
 split at h
 ·rename_i pO l
  cases hb:Nat.beq sz pO with
  | false=>rw [hb] at h; exact h.elim
  | true =>
   rw [hb] at h
   have:=Nat.eq_of_beq_eq_true hb
   subst this
   obtain ⟨x,hx,h⟩:=h
   obtain ⟨y,h,ND⟩:=uw h
   have MB:idx<l.length:=(List.getElem?_eq_some_iff.1 hx).1
   refine ⟨_,_,h,rfl,fun hc=>?_⟩
   obtain ⟨hle,hy,_⟩:=ND hc
   refine ⟨rfl,rfl,fun s c hs=>?_,fun j c hs h1 h2=>?_,fun M w v il bf=>?_⟩
   ·cases s with
    | key=>simp [step] at hs
    | el i j =>
     simp only [step] at hs
     by_cases e:idx=i
     ·subst e
      rw [List.getElem?_set_self MB] at hs
      simp only [hy] at hs
      rw [mI hle] at hs
      split at hs
      ·rename_i hr; exact .inl ⟨j,rfl,hr.1,hr.2,hs⟩
      ·rename_i hr
       refine .inr ⟨fun j' e'=>?_,by simp only [step,hx]; exact hs⟩
       injection e' with _ e'; subst e'; exact hr
     ·rw [List.getElem?_set_ne e] at hs
      refine .inr ⟨fun j' e'=>?_,hs⟩
      injection e' with e' _; exact absurd e'.symm e
   ·simp only [step,hx] at hs
    refine List.mem_of_getElem? (i:=j - off) ?_
    rw [List.getElem?_take,if_pos (by omega),List.getElem?_drop,show off+(j - off)=j by omega]
    exact hs
   ·rcases bf with ⟨rfl,_⟩ | ⟨g,o,cap,c,t,rfl,eA,hw,aU,o7⟩
    ·simp at hx
    ·obtain ⟨a1,a2⟩:=o7 idx x hx
     have ck:o+idx * sz+off+ds.length≤c.size:=by
      have:(idx+1) * sz≤cap * sz:=Nat.mul_le_mul_right _ (by omega)
      rw [Nat.add_mul] at this
      omega
     refine ⟨g,o+idx * sz+off,c,t,rfl,hw,ck,fun A hA=>?_,fun us mV w' pY Oh mS jh=>?_⟩
     ·rcases hA with hA | ⟨_,_,hA⟩
      ·cases hA
      ·injection hA with hA; injection hA with hA; subst hA; rw [cO]; congr 1; omega
     ·refine .inr ⟨g,o,cap,_,t,by simp,by simpa using eA,Oh,by simp [pY]; omega,fun i z hz=>?_⟩
      have bt:∀q,(c.toList.take (o+idx * sz+off)++us++c.toList.drop (o+idx * sz+off+us.length)).toArray[q]?=if o+idx * sz+off≤q∧q<o+idx * sz+off+us.length then us[q - (o+idx * sz+off)]? else c[q]?:=fun q=>by
       rw [List.getElem?_toArray,xW (by simp; omega)]
       simp
      by_cases e:idx=i
      ·subst e
       rw [List.getElem?_set_self MB] at hz
       injection hz with hz
       subst hz
       rw [hy,oo hle]
       refine ⟨a1,fun j d hd=>?_⟩
       rw [mI hle] at hd
       split at hd
       ·rename_i hr
        have Ev:j - off<us.length:=by omega
        refine ⟨hc d (List.mem_of_getElem? hd),us[j - off],?_,?_⟩
        ·rw [bt,if_pos (by omega),show o+idx * sz+j - (o+idx * sz+off)=j - off by omega]; exact List.getElem?_eq_getElem Ev
        ·have:=jh (j - off) d _ hd (List.getElem?_eq_getElem Ev)
         rwa [show off+(j - off)=j by omega] at this
       ·rename_i hr
        obtain ⟨b1,u,b2,b3⟩:=a2 j d hd
        refine ⟨b1,u,by rw [bt,if_neg (by omega)]; exact b2,?_⟩
        rw [mS (.el idx j) (fun j' e'=>by injection e' with _ e'; subst e'; exact hr)]; exact b3
      ·rw [List.getElem?_set_ne e] at hz
       obtain ⟨b1,b2⟩:=o7 i z hz
       refine ⟨b1,fun j d hd=>?_⟩
       obtain ⟨c1,u,c2,c3⟩:=b2 j d hd
       have hj:j<sz:=by rw [←b1]; exact (List.getElem?_eq_some_iff.1 hd).1
       refine ⟨c1,u,?_,?_⟩
       ·rw [bt,if_neg ?_]; exact c2
        rintro ⟨q1,q2⟩
        rw [pY] at q2
        have Nw:off+ds.length≤sz:=by rw [←a1]; exact hle
        rcases Nat.lt_or_ge i idx with aK | dy
        ·have:=Nat.mul_le_mul_right sz (show i+1≤idx from aK); rw [Nat.add_mul] at this; omega
        ·have:=Nat.mul_le_mul_right sz (show idx+1≤i by omega); rw [Nat.add_mul] at this; omega
       ·rw [mS (.el i j) (fun j' e'=>by injection e' with e' _; exact absurd e'.symm e)]; exact c3
 ·rename_i x
  cases hb:Nat.beq idx 0 with
  | false=>rw [hb] at h; exact h.elim
  | true =>
   rw [hb] at h
   have:=Nat.eq_of_beq_eq_true hb
   subst this
   simp only [cond_true] at h
   obtain ⟨y,h,ND⟩:=uw h
   refine ⟨_,_,h,rfl,fun hc=>?_⟩
   obtain ⟨hle,hy,_⟩:=ND hc
   refine ⟨rfl,rfl,fun s c hs=>?_,fun j c hs h1 h2=>?_,fun M w v il bf=>?_⟩
   ·cases s with
    | key=>simp [step] at hs
    | el i j =>
     simp only [step] at hs
     cases nc:Nat.beq i 0 with
     | false=>rw [nc] at hs; cases hs
     | true =>
      rw [nc] at hs
      have:=Nat.eq_of_beq_eq_true nc
      subst this
      simp only [cond_true,hy] at hs
      rw [mI hle] at hs
      split at hs
      ·rename_i hr; exact .inl ⟨j,rfl,hr.1,hr.2,hs⟩
      ·rename_i hr
       refine .inr ⟨fun j' e'=>?_,by simp [step]; exact hs⟩
       injection e' with _ e'; subst e'; exact hr
   ·simp [step] at hs
    refine List.mem_of_getElem? (i:=j - off) ?_
    rw [List.getElem?_take,if_pos (by omega),List.getElem?_drop,show off+(j - off)=j by omega]
    exact hs
   ·obtain ⟨g,c,t,rfl,hw,aU,o7⟩:=bf
    refine ⟨g,off,c,t,rfl,hw,by omega,fun A hA=>?_,fun us mV w' pY Oh mS jh=>?_⟩
    ·rcases hA with hA | ⟨_,_,hA⟩
     ·injection hA with hA; injection hA with hA; subst hA; rw [cO]; congr 1; omega
     ·cases hA
    ·refine ⟨g,_,t,rfl,Oh,by rw [hy,oo hle]; simp [pY]; omega,fun j d hd=>?_⟩
     have bt:∀q,(c.toList.take off++us++c.toList.drop (off+us.length)).toArray[q]?=if off≤q∧q<off+us.length then us[q - off]? else c[q]?:=fun q=>by
      rw [List.getElem?_toArray,xW (by simp; omega)]
      simp
     rw [hy,mI hle] at hd
     split at hd
     ·rename_i hr
      have Ev:j - off<us.length:=by omega
      refine ⟨hc d (List.mem_of_getElem? hd),us[j - off],by rw [bt,if_pos (by omega)]; exact List.getElem?_eq_getElem Ev,?_⟩
      have:=jh (j - off) d _ hd (List.getElem?_eq_getElem Ev)
      rwa [show off+(j - off)=j by omega] at this
     ·rename_i hr
      obtain ⟨b1,u,b2,b3⟩:=o7 j d hd
      refine ⟨b1,u,by rw [bt,if_neg (by omega)]; exact b2,?_⟩
      rw [mS (.el 0 j) (fun j' e'=>by injection e' with _ e'; subst e'; exact hr)]; exact b3
 ·exact h.elim
end Go.TM
