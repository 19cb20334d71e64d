import Derived.Test.YtpbdohkbiklflaaGreatDoorSM6
set_option linter.unusedVariables false
set_option linter.unusedSimpArgs false
set_option linter.unusedSectionVars false
namespace Go.TM
open Go.RowKit
variable [cj]
section
variable {g:df} {n:Nat} {ρ:Nat→AV} {κ κ':Nat→ak} {a:Act} {w w':World} {G:Gh}
theorem bT.Gx (h:bT g n ρ κ a w G) {i b:Nat} {l l':List AV} {vs:Array Value} {t:TypeId} (hi:κ i=.cells l) (hb:G.β i=some b) (iy:κ' i=.cells l') (pC:∀j,j ≠ i→κ' j=κ j)
  (hw:w'.heap[b]?=some (.cells vs t (0,0))) (hl:bJ G l' vs.toList) (hc:∀v,v∈l'→v.aj=true) (aN:w.heap.size≤w'.heap.size) (dU:∀k,k<w.heap.size→k ≠ b→w'.heap[k]?=w.heap[k]?)
  (KK:w'.os=w.os) (KL:w'.tape=w.tape) (fX:w'.output=w.output):bT g n ρ κ' a w' G:=by
 have gS:bE G i (κ i) b:=by rw [hi]; exact hb
 refine h.n3 (C:=fun j=>j=i) ⟨Gh.Le.refl G,fun _ _=>rfl,pC,fun j _=>⟨fun _ q=>q,fun _ _ _ _ q=>q⟩,fun k hk dj=>⟨dU k hk fun e=>dj i rfl (by rw [e]; exact gS),rfl⟩,fun k o hk=>?_,?_,?_,fun j j' k e1 e2 _ _=>by rw [e1,e2],aN,KK,KL,fX⟩ (fun _ _=>rfl)
 ·have h1:=h.fit.sub k o hk
  rw [dU k (Array.getElem?_eq_some_iff.1 h1).1 fun e=>?_]
  ·exact h1
  ·rw [e] at hk; rw [h.fit.own i b gS] at hk; cases hk
 ·rintro j rfl
  rw [iy]
  exact ⟨b,vs,t,hb,hw,by have:=hl.1; simp at this; omega,hc,fun j d v hd hv=>hl.2 j d v hd (by simpa using hv)⟩
 ·rintro j k rfl ho
  rw [iy] at ho
  have:bE G j (κ j) k:=by rw [hi]; exact ho
  exact ⟨.inr ⟨j,rfl,this⟩,h.fit.own j k this⟩
theorem bT.qk (h:bT g n ρ κ a w G) {i:Nat} {d:DV} (D:Nat→Prop) (h':List PS→Option Value) (Wi:¬ D i) (hi:κ i=.none) (ot:∀j,D j→κ' j=.dead) (iy:κ' i=.tree 0 0 d) (pC:∀j,j ≠ i→¬ D j→κ' j=κ j)
  (ht:aO G.M w' h' d) (dk:eX h' d) (gS:∀b,aJ h' d b→w.heap.size≤b ∨ ∃j,D j∧bE G j (κ j) b) (dU:∀b,b<w.heap.size→(∀j,D j→¬ bE G j (κ j) b)→w'.heap[b]?=w.heap[b]?)
  (aN:w.heap.size≤w'.heap.size) (KK:w'.os=w.os) (KL:w'.tape=w.tape) (fX:w'.output=w.output) :
  ∃G',Gh.Le G G'∧G'.M=G.M∧(∀p,az G'.H i 0 0 p=h' p)∧bT g n ρ κ' a w' G':=by
 have hb:=h.fit.box i
 rw [hi] at hb
 obtain ⟨G',h1,h2,_,h4,_,_,h7⟩:=h.jz (κ':=κ') (i:=i) (ver:=0) (ep:=0) (d:=d) D h' Wi (.inl hi) ot iy pC (fun p x hx=>by cases p <;> simp [az,hb.2] at hx) ht dk
  (fun b cE=>(gS b cE).imp id fun h=>.inr h) (fun b cE _ hD=>dU b cE hD) (fun b cE=>by
   rcases cE with h1 | ⟨j,_,h1⟩
   ·rw [hi] at h1; exact h1.elim
   ·exact h.fit.own j b h1) aN KK KL fX
 exact ⟨G',h1,h2,h4,h7⟩
end
section
variable {P:Program} {C:df→Prop} {T:List TI} {ops:List Oper} {n:Nat} {o:Oper} {nx:Nat} {ρ:Nat→AV} {κ:Nat→ak} {k:iP→Nat→Prop} {gd:Bool}
theorem jJ {w:World} (e:TypeId) (c:Array Value):(newRow e c).run P w=.ok ⟨w.heap.size,0,none⟩ (w.alloc (.cells c e)):=by
 simp [newRow,run_newObj]
theorem vF (G:Gh) {t:Nat} {ti:TI} {i:TypeInfo} {u:TypeDesc} {z:Value} (tf:eV P t ti i u z):bJ G (j4 ti.zero) z.cells.toList∧∀v,v∈j4 ti.zero→v.aj=true:=by
 obtain ⟨h3,h4⟩:=dN (M:=G.M) tf.zc
 refine ⟨gx h3,fun v hv=>?_⟩
 rw [vu] at hv
 obtain ⟨d,hd,rfl⟩:=List.mem_map.1 hv
 exact (h4 d hd).1
theorem G8 (hT:dV P T) {t:Nat} (hg:bF ρ ops o.guard=some gd) (ho:o.op=.alloc t) (bK:(nth T t).ok=true) (mT:κ nx=.none)
  (hk:dg n o (nx+1) k (.ptr nx 0) [(nx,.cells (j4 (nth T t).zero))] [nx]):Good P C ops n o nx ρ κ k:=by
 obtain ⟨i,u,z,tf⟩:=hT.facts bK
 refine cI (fun c=>by rw [ho]; simp) hg hk (by omega) (by simp) fun ρ' κ' ao g a w G c5 ai aI=>?_
 have jv:κ' nx=.none:=(ao.reads nx (by simp)).trans mT
 obtain ⟨hz,hc⟩:=vF G tf
 obtain ⟨G',h1,h2,h3⟩:=ai.ta jv c5 t hz hc
 refine ⟨.pointer (some ⟨w.heap.size,0,none⟩),w.alloc (.cells z.cells t),G',.inl ?_,h2,.ptr nx 0 _ h3⟩
 simp [execOp,ho,Instr.alloc,tf.qe w,newVar,jJ]
theorem M0 {t:Nat} {x:Operand} {av:AV} (hg:bF ρ ops o.guard=some gd) (ho:o.op=.box t x) (mT:κ nx=.none) (hc:bI (cellsOf av)=true)
  (hk:dg n o (nx+1) k (.ptr nx 0) [(nx,.cells (cellsOf av))] [nx]) (bj:bf ρ κ gd x av):Good P C ops n o nx ρ κ k:=by
 refine cI (fun c=>by rw [ho]; simp) hg hk (by omega) (by simp) fun ρ' κ' ao g a w G c5 ai aI=>?_
 have jv:κ' nx=.none:=(ao.reads nx (by simp)).trans mT
 have hv:=bj ρ' κ' (ao.op (by rw [ho]; simp [Op.operands])) g n a w G ai aI
 obtain ⟨G',h1,h2,h3⟩:=ai.ta (vs:=(a.eval x).cells) jv c5 t (kp hv hc) (eF hc)
 refine ⟨.pointer (some ⟨w.heap.size,0,none⟩),w.alloc (.cells (a.eval x).cells t),G',.inl ?_,h2,.ptr nx 0 _ h3⟩
 simp [execOp,ho,Instr.box,newVar,jJ]
theorem x6 (hT:dV P T) {t i off:Nat} {x y:Operand} {av:AV} {l:List AV} (hg:bF ρ ops o.guard=some gd) (ho:o.op=.store t x y) (bK:(nth T t).ok=true) (hb:κ i=.cells l)
  (aN:(cellsOf av).length=(nth T t).size) (hc:bI (cellsOf av)=true) (hle:off+(nth T t).size≤l.length)
  (hk:dg n o nx k .any [(i,.cells (fT l off (cellsOf av)))] [i]) (ea:i<nx) (bj:bf ρ κ gd x (.ptr i off)) (DX:bf ρ κ gd y av):Good P C ops n o nx ρ κ k:=by
 obtain ⟨ti,u,z,tf⟩:=hT.facts bK
 refine cI (fun c=>by rw [ho]; simp) hg hk (Nat.le_refl _) (by simpa using ea) fun ρ' κ' ao g a w G c5 ai aI=>?_
 have dD:κ' i=.cells l:=(ao.reads i (by simp)).trans hb
 have hv:=bj ρ' κ' (ao.op (by rw [ho]; simp [Op.operands])) g n a w G ai aI
 have eH:=DX ρ' κ' (ao.op (by rw [ho]; simp [Op.operands])) g n a w G ai aI
 have nN:=kp eH hc
 have qI:=ai.fit.box i
 rw [dD] at qI
 obtain ⟨b,c,tt,RJ,hw,MQ,jL,hr⟩:=qI
 generalize hx:a.eval x=v at hv
 cases hv with
 | ptr _ _ b' ym =>
 rw [RJ] at ym; injection ym with ym; subst ym
 have hlen:(a.eval y).cells.toList.length=(nth T t).size:=by rw [←nN.1,aN]
 have fH:=run_storeCells_at P b off tt (a.eval y).cells.toList 0 c w hw (by rw [hlen]; omega) (nN.cA hc)
 simp only [Nat.add_zero] at fH
 have hold:bJ G l c.toList:=⟨by simp [MQ],fun j d v hd hv=>hr j d v hd (by simpa using hv)⟩
 refine ⟨undef,w.setRow b (c.toList.take off++(a.eval y).cells.toList++c.toList.drop (off+(a.eval y).cells.toList.length)).toArray,G,.inr ⟨?_,rfl⟩,
  ai.Gx (l':=fT l off (cellsOf av)) (t:=tt) dD RJ (by simp [aq]) (fun j hj=>by simp [aq,ad _ _ hj]) (setRow_heap w b c _ tt _ hw) ?_ ?_ (by simp) (fun k _ bA=>setRow_other w b k _ bA) rfl rfl rfl,.any _⟩
 ·have eT:(a.eval y).cells.size=(nth T t).size:=by simpa using hlen
  simp only [execOp,ho,hx,Instr.storeAt,Instr.sureAddr,Sem.run_bind,Sem.run_pure,Result.andThen_ok,storeVar,tf.eD w,eT,ne_eq,not_true_eq_false,if_false]
  rw [fH]
  rfl
 ·simpa using hold.fT nN off (by rw [aN]; exact hle)
 ·intro v hv
  unfold fT at hv
  rcases List.mem_append.1 hv with hv | hv
  ·rcases List.mem_append.1 hv with hv | hv
   ·exact jL v (List.mem_of_mem_take hv)
   ·exact eF hc v hv
  ·exact jL v (List.mem_of_mem_drop hv)
theorem j6 {i:Nat}:∀{l:List Nat},fJ i l=true→i∈l
 | [],h=>by simp [fJ] at h
 | j::r,h=>by
  simp only [fJ,Bool.or_eq_true] at h
  rcases h with h | h
  ·rw [Nat.eq_of_beq_eq_true h]; simp
  ·exact List.mem_cons_of_mem _ (j6 h)
theorem ec {i:Nat}:∀{l:List Nat},fJ i l=false→i ∉ l
 | [],_=>by simp
 | j::r,h=>by
  simp only [fJ,Bool.or_eq_false_iff] at h
  have h2:=ec h.2
  intro hm
  rcases List.mem_cons.1 hm with rfl | hm
  ·have:=h.1
   simp [Nat.beq_refl] at this
  ·exact h2 hm
theorem cH {γ:Nat→ak}:∀{ids:List Nat} (j:Nat),aq γ (dM ids) j=if j∈ids then .dead else γ j
 | [],j=>by simp [dM,aq]
 | i::r,j=>by
  simp only [dM,aq]
  by_cases e:j=i
  ·subst e; simp
  ·rw [ad _ _ e,cH j]; simp [e]
theorem iq {v:AV} {q:(sz:Nat)→List DV→List Nat→List Nat→Prop} {nl:Prop} (h:mE κ v q nl) :
  (v=.dv .aD∧nl) ∨ ∃(sz:Nat) (ys:List DV) (rd kill:List Nat),q sz ys rd kill∧(∀j,j∈rd→∃v e d,κ j=.tree v e d)∧(∀j,j∈kill→j∈rd) ∧
   ∀κ' G w x,(∀i,i∈rd→κ' i=κ i)→Fit G w κ'→aC G v x→∃hs,Src G.M w x sz ys hs∧∀b,aJ hs (.ar sz ys) b→∃j,j∈kill∧bE G j (κ' j) b:=by
 unfold mE at h
 split at h
 ·rename_i sz l
  refine .inr ⟨sz,l,[],[],h,by simp,by simp,fun κ' G w x _ hf hv=>⟨fun _=>none,?_,?_⟩⟩
  ·cases hv with | dv hv =>
   refine .closed ((nG.QN hf.sub hv).mono rfl fun i x y hx hy=>?_) rfl
   rw [hx] at hy; injection hy with hy; subst hy
   refine ⟨rfl,fun j d e u hd he B1 hS=>?_⟩
   rw [hd] at he; injection he with he; subst he
   exact ⟨B1,hS.dZ,hS⟩
  ·rintro b ⟨_,_,_,_,_,q,_⟩; cases q
 ·exact .inl ⟨rfl,h⟩
 ·rename_i i ver ep p
  split at h
  ·rename_i aT bz d dD
   cases hb:Nat.beq ver aT && (emp p || Nat.beq ep bz) with
   | false=>rw [hb] at h; exact h.elim
   | true =>
    rw [hb] at h
    simp only [cond_true] at h
    obtain ⟨rfl,c9⟩:=c6 hb
    obtain ⟨nd,h,cT⟩:=bp h
    have cT:=cT rfl
    cases nd with
    | ar sz l =>
     have QR:∀{G:Gh} {κ':Nat→ak} {w:World} {x:Value},κ' i=κ i→Fit G w κ'→aC G (.own i ver ep p) x→az G.H i ver bz p=some x:=by
      intro G κ' w x he hf hv
      cases hv with | own _ _ _ _ _ hh hc=>rw [←cB c9]; exact hh
     rcases h with ⟨jL,h⟩ | ⟨rfl,hq⟩
     ·refine .inr ⟨sz,l,[i],[],h,by simp [dD],by simp,fun κ' G w x ao hf hv=>⟨fun _=>none,?_,?_⟩⟩
      ·have he:=ao i (by simp)
       have hx:=QR he hf hv
       obtain ⟨u,h1,h2,h3⟩:=hf.node (he.trans dD) cT rfl
       rw [hx] at h1; injection h1 with h1; subst h1
       refine .closed ?_ rfl
       have h4:nF w x sz l fun i j d u=>d.ae=false∧bc G.M d u:=by
        rcases jr.1 h3 with h3 | ⟨g,o,cap,c,t,a1,a2,a3,a4,a5⟩
        ·exact .inl h3
        ·refine .inr ⟨g,o,cap,c,t,a1,a2,a3,a4,fun i y hy=>⟨(a5 i y hy).1,fun j d hd=>?_⟩⟩
         obtain ⟨b1,u,b2,b3⟩:=(a5 i y hy).2 j d hd
         have B1:=jL y (List.mem_of_getElem? hy) d (List.mem_of_getElem? hd)
         refine ⟨b1,u,b2,B1,?_⟩
         rcases b3 with ⟨c1,_⟩ | ⟨_,c2⟩
         ·rw [B1] at c1; cases c1
         ·exact c2
       exact nG.JH h4 fun i j d u hr hc=>hr.2.cA hc
      ·rintro b ⟨_,_,_,_,_,q,_⟩; cases q
     ·refine .inr ⟨sz,l,[i],[i],hq,by simp [dD],by simp,fun κ' G w x ao hf hv=>?_⟩
      have he:=ao i (by simp)
      have hx:=QR he hf hv
      have dz:=hf.box i
      rw [he,dD] at dz
      simp [get] at cT
      subst cT
      refine ⟨az G.H i ver bz,.tree dz.1 dz.2.1 hx,fun b hb=>⟨i,by simp,?_⟩⟩
      rw [he,dD]; exact hb
    | _=>exact h.elim
  ·exact h.elim
 ·rename_i i ver ep p sz lo m
  split at h
  ·rename_i aT bz d dD
   cases hb:Nat.beq ver aT && (emp p || Nat.beq ep bz) with
   | false=>rw [hb] at h; exact h.elim
   | true =>
    rw [hb] at h
    simp only [cond_true] at h
    obtain ⟨rfl,c9⟩:=c6 hb
    obtain ⟨nd,h,cT⟩:=bp h
    have cT:=cT rfl
    cases nd with
    | ar oe l =>
     simp only at h
     cases hz:Nat.beq sz oe with
     | false=>rw [hz] at h; exact h.elim
     | true =>
     rw [hz] at h
     have:=Nat.eq_of_beq_eq_true hz
     subst this
     obtain ⟨hlen,jL,h⟩:=h
     refine .inr ⟨sz,(l.drop lo).take m,[i],[],h,by simp [dD],by simp,fun κ' G w x ao hf hv=>⟨fun _=>none,?_,?_⟩⟩
     ·have he:=ao i (by simp)
      obtain ⟨u,h1,h2,h3⟩:=hf.node (he.trans dD) cT rfl
      have Ob:((l.drop lo).take m).length=m:=by simp; omega
      refine .closed ?_ rfl
      cases hv with | pre _ _ _ _ _ _ _ q cp hh =>
      by_cases hm:m=0
      ·subst hm
       cases q with
       | none=>exact .inl ⟨cp,rfl,by simp⟩
       | some A=>exact .inr ⟨A,cp,fun _ _=>undef,by simp,fun i x hx=>by simp at hx⟩
      ·obtain ⟨A,N,c',fL,rfl⟩:=hh hm
       rw [cB c9,h1] at fL
       injection fL with fL
       rcases jr.1 h3 with ⟨rfl,_⟩ | ⟨g,o,cap,c,t,rfl,a2,a3,a4,a5⟩
       ·simp at hlen; omega
       injection fL with hA _ _
       injection hA with hA
       subst hA
       refine .inr ⟨_,cp,fun a b=>c.getD (o+(lo+a) * sz+b) undef,by rw [Ob],fun a y hy=>?_⟩
       have Uz:l[lo+a]?=some y:=by
        rw [List.getElem?_take] at hy
        split at hy
        ·rwa [List.getElem?_drop] at hy
        ·cases hy
       obtain ⟨b1,b2⟩:=a5 _ y Uz
       refine ⟨b1,fun j d hd=>?_⟩
       obtain ⟨d1,u,d2,d3⟩:=b2 j d hd
       have e:c.getD (o+(lo+a) * sz+j) undef=u:=by rw [Array.getD_eq_getD_getElem?,d2]; rfl
       have B1:=jL y (List.mem_of_getElem? Uz) d (List.mem_of_getElem? hd)
       have hr:bc G.M d u:=by
        rcases d3 with ⟨c1,_⟩ | ⟨_,c2⟩
        ·rw [B1] at c1; cases c1
        ·exact c2
       refine ⟨d1,?_,?_,B1,?_⟩
       ·rw [cq,cw]
        simp only [World.cell?,a3]
        rw [show o+(lo * sz+(a * sz+j))=o+(lo+a) * sz+j by rw [Nat.add_mul]; omega,e]
        simpa using d2
       ·show (c.getD (o+(lo+a) * sz+j) undef).oneCell'=true
        rw [e]; exact hr.cA d1
       ·show bc G.M d (c.getD (o+(lo+a) * sz+j) undef)
        rw [e]; exact hr
     ·rintro b ⟨_,_,_,_,_,q,_⟩; cases q
    | _=>exact h.elim
  ·exact h.elim
 ·exact h.elim
theorem dC {c:Call} {s x:Operand} {t:Nat} {a:Act} {w w':World} {v':Value} (ho:o.op=.call c) (hc:c.callee=.builtin .append) (ha:c.args.toList=[s,x]) (iH:c.argTypes.toList=[t,t])
  (h:(Builtin.append_ #[t,t] o.type #[a.eval s,a.eval x]).run P w=.ok v' w'):(execOp a.eval o).run P w=.ok (.value v') w':=by
 have bG:c.args=#[s,x]:=Array.ext' (by simpa using ha)
 have DC:c.argTypes=#[t,t]:=Array.ext' (by simpa using iH)
 simp [execOp,ho,resolve,hc,bG,DC,invoke,builtin,h]
theorem bT.append (hT:dV P T) {t ty:TypeId} (bK:(nth T t).ok=true) (im:(nth T t).isSl=true) (m5:(nth T (nth T t).elem).ok=true) (eK:0<(nth T (nth T t).elem).size)
  {g:df} {κ' κ2:Nat→ak} {a:Act} {w:World} {G:Gh} (ai:bT g n ρ κ' a w G) {i aT:Nat} {l ys zs:List DV} {kill:List Nat} {h hs:List PS→Option Value} {v x:Value}
  (ht:aO G.M w h (.ar (nth T (nth T t).elem).size l)) (hi:eX h (.ar (nth T (nth T t).elem).size l)) (hv:h []=some v)
  (hk:(κ' i=.none∧aT=0∧∀b,¬ aJ h (.ar (nth T (nth T t).elem).size l) b) ∨ ∃ver ep,κ' i=.tree ver ep (.ar (nth T (nth T t).elem).size l)∧aT=ver+1∧h=az G.H i ver ep)
  (gn:Src G.M w x (nth T (nth T t).elem).size ys hs) (DG:∀b,aJ hs (.ar (nth T (nth T t).elem).size ys) b→∃j,j∈kill∧bE G j (κ' j) b) (xm:i ∉ kill) (hle:fK ys zs)
  (DE:l.length+zs.length≤9223372036854775807) (xp:(l.length+zs.length) * (nth T (nth T t).elem).bytes≤140737488355328)
  (h1:κ2 i=.tree aT 0 (.ar (nth T (nth T t).elem).size (l++zs))) (h2:∀j,j∈kill→κ2 j=.dead) (h3:∀j,j ≠ i→j ∉ kill→κ2 j=κ' j) :
  ∃v' w' G',(Builtin.append_ #[t,t] ty #[v,x]).run P w=.ok v' w'∧bT g n ρ κ2 a w' G'∧aC G' (.own i aT 0 []) v':=by
 have DH:∀b,aJ h (.ar (nth T (nth T t).elem).size l) b→bE G i (κ' i) b:=fun b hb=>by
  rcases hk with ⟨_,_,h0⟩ | ⟨ver,ep,dD,_,rfl⟩
  ·exact absurd hb (h0 b)
  ·rw [dD]; exact hb
 obtain ⟨v',w',aV,kq,o9,t1,t2,t3⟩:=BE (P:=P) (ty:=ty) hT bK im m5 eK ht hi hv gn
  (fun b hb cE=>by obtain ⟨j,hj,ho⟩:=DG b cE; exact xm (ai.fit.inj i j b (DH b hb) ho ▸ hj))
  (fun b hb=>by obtain ⟨j,_,ho⟩:=DG b hb; exact ho.lt ai.fit) hle DE xp
 have QS:∀b,eW v=some b→aJ h (.ar (nth T (nth T t).elem).size l) b:=fun b hb=>⟨[],_,v,rfl,rfl,hv,hb⟩
 obtain ⟨G',g1,g2,_,g4,_,_,g7⟩:=ai.jz (κ':=κ2) (i:=i) (ver:=aT) (ep:=0) (d:=.ar (nth T (nth T t).elem).size (l++zs)) (fun j=>j∈kill) (qi l.length v' h hs) xm
  (by
   rcases hk with ⟨dD,_,_⟩ | ⟨ver,ep,dD,rfl,_⟩
   ·exact .inl dD
   ·exact .inr ⟨ver,ep,_,dD,by omega,by omega⟩)
  h2 h1 h3
  (fun p y hy=>by
   have hb:=ai.fit.box i
   rcases hk with ⟨dD,rfl,_⟩ | ⟨ver,ep,dD,rfl,_⟩
   ·rw [dD] at hb; cases p <;> simp [az,hb.2] at hy
   ·rw [dD] at hb; cases p <;> simp [az,hb.2.2.1 (ver+1) (by omega)] at hy)
  t1 t2
  (fun b hb=>by
   rcases t3 b hb with h5 | h5 | h5
   ·exact .inr (.inl (DH b h5))
   ·exact .inr (.inr (DG b h5))
   ·exact .inl h5)
  (fun b hb dj _=>kq.block b hb fun e=>dj (DH b (QS b e.symm)))
  (fun b hb=>by
   rcases hb with h5 | ⟨j,_,h5⟩
   ·exact ai.fit.own i b h5
   ·exact ai.fit.own j b h5)
  kq.size kq.os kq.tape kq.output
 exact ⟨v',w',G',aV,g7,.own _ _ _ _ _ ((g4 []).trans rfl) o9⟩
theorem Ff (hT:dV P T) {t:Nat} {s x:Operand} {c:Call} {sv xv:AV} (hg:bF ρ ops o.guard=some gd) (ho:o.op=.call c) (hc:c.callee=.builtin .append) (ha:c.args.toList=[s,x]) (iH:c.argTypes.toList=[t,t])
  (hn:∀i,nx≤i→κ i=.none) (h:kZ T n o nx κ k t sv xv) (sK:bf ρ κ gd s sv) (hex:bf ρ κ gd x xv):Good P C ops n o nx ρ κ k:=by
 have cT:∀c',o.op ≠ .defer c':=fun c'=>by rw [ho]; simp
 have bG:c.args=#[s,x]:=Array.ext' (by simpa using ha)
 have ms:s∈o.op.operands:=by rw [ho]; simp [Op.operands,Call.operands,hc,bG]
 have mx:x∈o.op.operands:=by rw [ho]; simp [Op.operands,Call.operands,hc,bG]
 unfold kZ at h
 simp only at h
 cases iQ:(nth T t).ok && (nth T t).isSl && (nth T (nth T t).elem).ok && Nat.blt 0 (nth T (nth T t).elem).size with
 | false=>rw [iQ] at h; exact h.elim
 | true =>
 rw [iQ] at h
 simp only [cond_true] at h
 simp only [Bool.and_eq_true,Nat.blt_eq] at iQ
 obtain ⟨⟨⟨bK,im⟩,m5⟩,eK⟩:=iQ
 have BG:∀j,(∃v e d,κ j=.tree v e d)→j<nx:=fun j ⟨v,e,d,hj⟩=>by
  rcases Nat.lt_or_ge j nx with h | h
  ·exact h
  ·rw [hn j h] at hj; cases hj
 have DI:∀{kill:List Nat} {dt:Nat},(∀j,j∈kill→∃v e d,κ j=.tree v e d)→nx≤dt→∀p,p∈dM kill→p.1<dt:=by
  intro kill dt hk hle p hp
  have:p.1∈kill:=by
   clear hk
   induction kill with
   | nil=>simp [dM] at hp
   | cons i r ih=>simp only [dM] at hp; rcases List.mem_cons.1 hp with rfl | hp; exact List.mem_cons_self; exact List.mem_cons_of_mem _ (ih hp)
  have:=BG _ (hk _ this); omega
 have nothing:∀{v:Value} {w:World},((∃l ob gb cap,v=.slice (some ⟨gb,ob,none⟩) l cap∧l≤cap) ∨ v=.slice none 0 0)→(Builtin.append_ #[t,t] o.type #[v,.slice none 0 0]).run P w=.ok v w:=by
  intro v w hv
  obtain ⟨i,u,z,tf⟩:=hT.facts bK
  obtain ⟨te,ue,ze,hJ⟩:=hT.facts m5
  rcases hv with ⟨l,ob,gb,cap,rfl,dY⟩ | rfl
  ·simp [Builtin.append_,run_underlying (tf.slice im),sizeOf,typeInfo,hJ.info,Builtin.lenOf,Builtin.firstCells,dY,storeCells]
  ·simp [Builtin.append_,run_underlying (tf.slice im),sizeOf,typeInfo,hJ.info,Builtin.lenOf,Builtin.firstCells]
 split at h
 ·-- a nil slice
  rcases iq h with ⟨rfl,hk⟩ | ⟨sz,ys,rd,kill,hk,J6,J7,gn⟩
  ·refine cI cT hg hk (Nat.le_refl _) (by simp) fun ρ' κ' ao g a w G c5 ai aI=>?_
   have hv:=sK ρ' κ' (ao.op ms) g n a w G ai aI
   have eH:=hex ρ' κ' (ao.op mx) g n a w G ai aI
   generalize hx:a.eval s=v at hv
   generalize hi:a.eval x=vi at eH
   cases hv with | dv hv=>cases hv with | aD=>cases eH with | dv eH=>cases eH with | aD =>
   refine ⟨_,w,G,.inl (dC ho hc ha iH (by rw [hx,hi]; exact nothing (.inr rfl))),ai,.dv .aD⟩
  ·cases aN:Nat.beq sz (nth T (nth T t).elem).size with
   | false=>rw [aN] at hk; exact hk.elim
   | true =>
   rw [aN] at hk
   have:=Nat.eq_of_beq_eq_true aN
   subst this
   obtain ⟨zs,hle,xp,DE,hk⟩:=hk
   refine cI cT hg hk (by omega) (fun p hp=>?_) fun ρ' κ' ao g a w G c5 ai aI=>?_
   ·rcases List.mem_cons.1 hp with rfl | hp
    ·simp
    ·exact DI (fun j hj=>J6 j (J7 j hj)) (by omega) p hp
   ·have jv:κ' nx=.none:=(ao.reads nx (by simp)).trans (hn nx (Nat.le_refl _))
    have hv:=sK ρ' κ' (ao.op ms) g n a w G ai aI
    have eH:=hex ρ' κ' (ao.op mx) g n a w G ai aI
    obtain ⟨hs,GS,QT⟩:=gn κ' G w _ (fun i hi=>ao.reads i (by simp [hi])) ai.fit eH
    have HF:nx ∉ kill:=fun hm=>by have:=BG nx (J6 nx (J7 nx hm)); omega
    generalize hx:a.eval s=v at hv
    cases hv with | dv hv=>cases hv with | aD =>
    obtain ⟨v',w',G',r1,r2,r3⟩:=ai.append (κ2:=aq κ' ((nx,.tree 0 0 (.ar (nth T (nth T t).elem).size zs))::dM kill)) (ty:=o.type) (i:=nx) (aT:=0) (l:=[]) hT bK im m5 eK (td _ _ _) (xT _) rfl (.inl ⟨jv,rfl,fun b hb=>ir hb⟩) GS QT HF hle (by simpa using DE) (by simpa using xp)
     (by simp [aq]) (fun j hj=>by simp only [aq]; rw [ad _ _ (by rintro rfl; exact HF hj),cH,if_pos hj]) (fun j h1 h2=>by simp only [aq]; rw [ad _ _ h1,cH,if_neg h2])
    exact ⟨v',w',G',.inl (dC ho hc ha iH (by rw [hx]; exact r1)),r2,r3⟩
 ·-- a slice Wj Wk UX array
  rename_i i ver ep p
  split at h
  ·rename_i aT bz d dD
   cases hb:Nat.beq ver aT && (emp p || Nat.beq ep bz) with
   | false=>rw [hb] at h; exact h.elim
   | true =>
   rw [hb] at h
   simp only [cond_true] at h
   obtain ⟨rfl,c9⟩:=c6 hb
   obtain ⟨nd,h,zN⟩:=bp h
   have uA:=zN rfl
   have qo:i<nx:=BG i ⟨_,_,_,dD⟩
   cases nd with
   | ar sz l =>
    simp only at h
    cases aN:Nat.beq sz (nth T (nth T t).elem).size with
    | false=>rw [aN] at h; exact h.elim
    | true =>
    rw [aN] at h
    simp only [cond_true] at h
    have:=Nat.eq_of_beq_eq_true aN
    subst this
    have LU:∀{g:df} {a:Act} {G:Gh} {κ':Nat→ak} {w:World},aC G (.own i ver ep p) (a.eval s)→az G.H i ver bz p=some (a.eval s):=by
     intro g a G κ' w hv
     generalize a.eval s=v at hv ⊢
     cases hv with | own _ _ _ _ _ hh hU=>rw [←cB c9]; exact hh
    rcases iq h with ⟨rfl,hk⟩ | ⟨oe,ys,rd,kill,hk,J6,J7,gn⟩
    ·-- nothing comes in
     have node:∀{G:Gh} {w:World} {κ':Nat→ak},κ' i=κ i→Fit G w κ'→∀{v:Value},az G.H i ver bz p=some v→((∃l ob gb cap,v=.slice (some ⟨gb,ob,none⟩) l cap∧l≤cap) ∨ v=.slice none 0 0):=by
      intro G w κ' he hf v hv
      obtain ⟨u,h1,_,h3⟩:=hf.node (he.trans dD) uA rfl
      rw [hv] at h1; injection h1 with h1; subst h1
      rcases h3 with ⟨_,rfl⟩ | ⟨gb,ob,cap,c,t,rfl,dY,_⟩
      ·exact .inr rfl
      ·exact .inl ⟨_,_,_,_,rfl,dY⟩
     cases p with
     | nil =>
      simp [get] at uA
      subst uA
      refine cI cT hg hk (Nat.le_refl _) (by simpa using qo) fun ρ' κ' ao g a w G c5 ai aI=>?_
      have he:=ao.reads i (by simp)
      have hv:=sK ρ' κ' (ao.op ms) g n a w G ai aI
      have eH:=hex ρ' κ' (ao.op mx) g n a w G ai aI
      have hx:=LU (g:=g) (κ':=κ') (w:=w) hv
      generalize hi:a.eval x=vi at eH
      cases eH with | dv eH=>cases eH with | aD =>
      have dz:=ai.fit.box i
      rw [he,dD] at dz
      obtain ⟨G',g1,g2,_,g4,_,_,g7⟩:=ai.jz (κ':=aq κ' [(i,.tree (ver+1) 0 (.ar (nth T (nth T t).elem).size l))]) (w':=w) (i:=i) (ver:=ver+1) (ep:=0) (d:=.ar (nth T (nth T t).elem).size l) (fun _=>False) (az G.H i ver bz) (fun h=>h.elim) (.inr ⟨ver,bz,_,he.trans dD,by omega,by omega⟩) (fun _ h=>h.elim) (by simp [aq]) (fun j hj _=>by simp [aq,ad _ _ hj])
       (fun q y hy=>by cases q <;> simp [az,dz.2.2.1 (ver+1) (by omega)] at hy) dz.1 dz.2.1 (fun b hb=>.inr (.inl (by rw [he,dD]; exact hb))) (fun _ _ _ _=>rfl) (fun b hb=>by
        rcases hb with h5 | ⟨_,h5,_⟩
        ·exact ai.fit.own i b h5
        ·exact h5.elim) (Nat.le_refl _) rfl rfl rfl
      have o9:(a.eval s).oneCell'=true:=by rcases node he ai.fit hx with ⟨_,_,_,_,e,_⟩ | e <;> rw [e] <;> rfl
      exact ⟨a.eval s,w,G',.inl (dC ho hc ha iH (by rw [hi]; exact nothing (node he ai.fit hx))),g7,.own _ _ _ _ _ ((g4 []).trans hx) o9⟩
     | cons ps pr =>
      obtain ⟨hk,_⟩:=eb hk
      refine cI cT hg hk (by omega) (fun q hq=>by
       rcases List.mem_cons.1 hq with rfl | hq
       ·simp
       ·simp at hq; subst hq; simp; omega) fun ρ' κ' ao g a w G c5 ai aI=>?_
      have he:=ao.reads i (by simp)
      have jv:κ' nx=.none:=(ao.reads nx (by simp)).trans (hn nx (Nat.le_refl _))
      have hv:=sK ρ' κ' (ao.op ms) g n a w G ai aI
      have eH:=hex ρ' κ' (ao.op mx) g n a w G ai aI
      have hx:=LU (g:=g) (κ':=κ') (w:=w) hv
      generalize hi:a.eval x=vi at eH
      cases eH with | dv eH=>cases eH with | aD =>
      obtain ⟨G',g1,g2,_,g4,g7⟩:=ai.split (κ':=aq κ' [(nx,.tree 0 0 (.ar (nth T (nth T t).elem).size l)),(i,.tree ver (bz+1) (bH d (ps::pr) .any))]) (i:=i) (nx:=nx) (he.trans dD) jv uA rfl (by simp) (by simp only [aq]; rw [ad _ _ (by omega)]; simp) (by simp [aq]) (fun j h1 h2=>by simp only [aq]; rw [ad _ _ h2,ad _ _ h1])
      have o9:(a.eval s).oneCell'=true:=by rcases node he ai.fit hx with ⟨_,_,_,_,e,_⟩ | e <;> rw [e] <;> rfl
      refine ⟨a.eval s,w,G',.inl (dC ho hc ha iH (by rw [hi]; exact nothing (node he ai.fit hx))),g7,.own _ _ _ _ _ ((g4 []).trans ?_) o9⟩
      rw [List.append_nil]; exact hx
    ·cases cl:Nat.beq oe (nth T (nth T t).elem).size && !fJ i rd with
     | false=>rw [cl] at hk; exact hk.elim
     | true =>
     rw [cl] at hk
     simp only [cond_true] at hk
     simp only [Bool.and_eq_true,Bool.not_eq_true'] at cl
     have:=Nat.eq_of_beq_eq_true cl.1
     subst this
     have QU:=ec cl.2
     have xm:i ∉ kill:=fun hm=>QU (J7 i hm)
     obtain ⟨zs,hle,xp,DE,hk⟩:=hk
     cases p with
     | nil =>
      simp [get] at uA
      subst uA
      refine cI cT hg hk (Nat.le_refl _) (fun q hq=>by
       rcases List.mem_cons.1 hq with rfl | hq
       ·exact qo
       ·exact DI (fun j hj=>J6 j (J7 j hj)) (Nat.le_refl _) q hq) fun ρ' κ' ao g a w G c5 ai aI=>?_
      have he:=ao.reads i (by simp)
      have hv:=sK ρ' κ' (ao.op ms) g n a w G ai aI
      have eH:=hex ρ' κ' (ao.op mx) g n a w G ai aI
      have hx:=LU (g:=g) (κ':=κ') (w:=w) hv
      obtain ⟨hs,GS,QT⟩:=gn κ' G w _ (fun i hi=>ao.reads i (by simp [hi])) ai.fit eH
      have dz:=ai.fit.box i
      rw [he,dD] at dz
      obtain ⟨v',w',G',r1,r2,r3⟩:=ai.append (κ2:=aq κ' ((i,.tree (ver+1) 0 (.ar (nth T (nth T t).elem).size (l++zs)))::dM kill)) (ty:=o.type) (i:=i) (aT:=ver+1) hT bK im m5 eK dz.1 dz.2.1 hx (.inr ⟨ver,bz,he.trans dD,rfl,rfl⟩) GS QT xm hle DE xp
       (by simp [aq]) (fun j hj=>by simp only [aq]; rw [ad _ _ (by rintro rfl; exact xm hj),cH,if_pos hj]) (fun j h1 h2=>by simp only [aq]; rw [ad _ _ h1,cH,if_neg h2])
      exact ⟨v',w',G',.inl (dC ho hc ha iH r1),r2,r3⟩
     | cons ps pr =>
      obtain ⟨hk,_⟩:=eb hk
      refine cI cT hg hk (by omega) (fun q hq=>by
       rcases List.mem_cons.1 hq with rfl | hq
       ·simp
       ·rcases List.mem_cons.1 hq with rfl | hq
        ·show i<nx+1; omega
        ·exact DI (fun j hj=>J6 j (J7 j hj)) (by omega) q hq) fun ρ' κ' ao g a w G c5 ai aI=>?_
      have he:=ao.reads i (by simp)
      have jv:κ' nx=.none:=(ao.reads nx (by simp)).trans (hn nx (Nat.le_refl _))
      have hv:=sK ρ' κ' (ao.op ms) g n a w G ai aI
      have eH:=hex ρ' κ' (ao.op mx) g n a w G ai aI
      have hx:=LU (g:=g) (κ':=κ') (w:=w) hv
      have HF:nx ∉ kill:=fun hm=>by have:=BG nx (J6 nx (J7 nx hm)); omega
      have Tx:nx ∉ rd:=fun hm=>by have:=BG nx (J6 nx hm); omega
      obtain ⟨G1,g1,g2,_,g4,g7⟩:=ai.split (κ':=aq κ' [(nx,.tree 0 0 (.ar (nth T (nth T t).elem).size l)),(i,.tree ver (bz+1) (bH d (ps::pr) .any))]) (i:=i) (nx:=nx) (he.trans dD) jv uA rfl (by simp) (by simp only [aq]; rw [ad _ _ (by omega)]; simp) (by simp [aq]) (fun j h1 h2=>by simp only [aq]; rw [ad _ _ h2,ad _ _ h1])
      obtain ⟨hs,GS,QT⟩:=gn (aq κ' [(nx,.tree 0 0 (.ar (nth T (nth T t).elem).size l)),(i,.tree ver (bz+1) (bH d (ps::pr) .any))]) G1 w _ (fun j hj=>by simp only [aq]; rw [ad _ _ (by rintro rfl; exact Tx hj),ad _ _ (by rintro rfl; exact QU hj)]; exact ao.reads j (by simp [hj])) g7.fit (eH.mono g1)
      have dz:=g7.fit.box nx
      have nC:aq κ' [(nx,.tree 0 0 (.ar (nth T (nth T t).elem).size l)),(i,.tree ver (bz+1) (bH d (ps::pr) .any))] nx=.tree 0 0 (.ar (nth T (nth T t).elem).size l):=by simp [aq]
      rw [nC] at dz
      obtain ⟨v',w',G',r1,r2,r3⟩:=g7.append (κ2:=aq κ' ((nx,.tree 1 0 (.ar (nth T (nth T t).elem).size (l++zs)))::(i,.tree ver (bz+1) (bH d (ps::pr) .any))::dM kill)) (ty:=o.type) (i:=nx) (aT:=1) hT bK im m5 eK dz.1 dz.2.1 (v:=a.eval s) (by rw [g4 [],List.append_nil]; exact hx) (.inr ⟨0,0,nC,rfl,rfl⟩) GS QT HF hle DE xp
       (by simp [aq]) (fun j hj=>by simp only [aq]; rw [ad _ _ (by rintro rfl; exact HF hj),ad _ _ (by rintro rfl; exact xm hj),cH,if_pos hj]) (fun j h1 h2=>by
        simp only [aq]
        rw [ad _ _ h1,ad _ _ h1]
        by_cases e:j=i
        ·subst e; simp
        ·rw [ad _ _ e,ad _ _ e,cH,if_neg h2])
      exact ⟨v',w',G',.inl (dC ho hc ha iH r1),r2,r3⟩
   | _=>exact h.elim
  ·exact h.elim
 ·exact h.elim
end
end Go.TM
namespace Go.TM
open Go.RowKit
variable [cj]
structure Pd (G:Gh) (w:World) (κ:Nat→ak) (ids:List Nat) (ds:List DV) (us:List Value) (hs:Nat→List PS→Option Value) (id:Nat→Nat):Prop where
 len:ds.length=us.length
 cell:∀(j:Nat) (d:DV) (u:Value),ds[j]?=some d→us[j]?=some u→(d.ae=false∧bc G.M d u) ∨
  (d.ae=true∧id j∈ids∧aO G.M w (hs j) d∧eX (hs j) d∧hs j []=some u∧∀b,aJ (hs j) d b→bE G (id j) (κ (id j)) b)
 ne:∀(j j':Nat) (d d':DV),ds[j]?=some d→ds[j']?=some d'→d.ae=true→d'.ae=true→id j=id j'→j=j'
theorem rP {i:Nat} {r:List Nat} (h:ey (i::r)=true):i ∉ r∧ey r=true:=by
 simp only [ey,Bool.and_eq_true,Bool.not_eq_true'] at h
 exact ⟨ec h.1,h.2⟩
theorem DJ {κ κ':Nat→ak} {G:Gh} {w:World} {v:AV} {d:DV} {ids:List Nat} (h:KN κ v=some (d,ids)) (ao:∀i,i∈ids→κ' i=κ i) (hf:Fit G w κ') {u:Value} (hv:aC G v u) :
  (ids=[]∧d.ae=false∧bc G.M d u) ∨ ∃i ver ep,ids=[i]∧κ' i=.tree ver ep d∧d.ae=true∧az G.H i ver ep []=some u:=by
 unfold KN at h
 split at h
 ·injection h with h; injection h with e1 e2; subst e1; subst e2
  cases hv with | dv hv=>exact .inl ⟨rfl,hv.dZ,hv⟩
 ·rename_i i ver ep
  split at h
  ·rename_i aT bz d' hk
   cases hb:Nat.beq ver aT with
   | false=>rw [hb] at h; cases h
   | true =>
    rw [hb] at h
    have:=Nat.eq_of_beq_eq_true hb
    subst this
    simp only [cond_true,Option.some.injEq,Prod.mk.injEq] at h
    obtain ⟨rfl,rfl⟩:=h
    have dD:κ' i=.tree ver bz d':=(ao i (by simp)).trans hk
    have dz:=hf.box i
    rw [dD] at dz
    cases hv with | own _ _ _ _ _ hh hc=>exact .inr ⟨i,ver,bz,rfl,dD,dz.1.1,hh⟩
  ·cases h
 ·injection h with h; injection h with e1 e2; subst e1; subst e2
  cases hv with | fn _ _ vs hl hr =>
  have:vs=[]:=by simpa using hl.symm
  subst this
  exact .inl ⟨rfl,rfl,.fn _ [] [] rfl (by simp)⟩
 ·cases h
theorem Gy {κ κ':Nat→ak} {G:Gh} {w:World} {v:AV} {d:DV} {ids:List Nat} (h:Ro κ v=some (d,ids)) (ao:∀i,i∈ids→κ' i=κ i) (hf:Fit G w κ') {u:Value} (hv:aC G v u) :
  (ids=[]∧d.ae=false∧bc G.M d u) ∨ ∃i ver ep,ids=[i]∧κ' i=.tree ver ep d∧d.ae=true∧az G.H i ver ep []=some u:=DJ (v:=dn v) h ao hf (wN hv)
theorem lC {κ κ':Nat→ak} {G:Gh} {w:World} (hf:Fit G w κ'):∀{vs:List AV} {ds:List DV} {ids:List Nat} {us:List Value},pJ κ vs=some (ds,ids)→ey ids=true→(∀i,i∈ids→κ' i=κ i)→bJ G vs us→∃hs id,Pd G w κ' ids ds us hs id
 | [],ds,ids,us,h,_,_,hr=>by
  simp [pJ] at h
  obtain ⟨rfl,rfl⟩:=h
  have:us=[]:=by have:=hr.1; simpa using this.symm
  subst this
  exact ⟨fun _ _=>none,fun _=>0,rfl,by simp,by simp⟩
 | v::vs,ds,ids,us,h,cT,ao,hr=>by
  simp only [pJ] at h
  split at h
  ·rename_i d i l j h1 h2
   simp only [Option.some.injEq,Prod.mk.injEq] at h
   obtain ⟨rfl,rfl⟩:=h
   match us,hr with
   | [],hr=>have:=hr.1; simp at this
   | u::us,hr =>
    have oq:ey j=true∧∀q,q∈i→q ∉ j:=by
     clear h1 h2 hr ao
     induction i with
     | nil=>exact ⟨cT,by simp⟩
     | cons q i ih =>
      obtain ⟨a1,a2⟩:=rP cT
      obtain ⟨b1,b2⟩:=ih a2
      refine ⟨b1,fun q' B0=>?_⟩
      rcases List.mem_cons.1 B0 with rfl | B0
      ·exact fun hm=>a1 (List.mem_append.2 (.inr hm))
      ·exact b2 q' B0
    obtain ⟨hs,id,ea⟩:=lC hf h2 oq.1 (fun q hq=>ao q (List.mem_append.2 (.inr hq))) (us:=us) ⟨by simpa using hr.1,fun q e y he hy=>hr.2 (q+1) e y (by simpa using he) (by simpa using hy)⟩
    have h0:=Gy h1 (fun q hq=>ao q (List.mem_append.2 (.inl hq))) hf (hr.2 0 v u rfl rfl)
    rcases h0 with ⟨rfl,h3,h4⟩ | ⟨q,ver,ep,rfl,h3,h4,h5⟩
    ·refine ⟨fun n=>match n with | 0=>fun _=>none | n+1=>hs n,fun n=>match n with | 0=>0 | n+1=>id n,⟨by simp [ea.len],fun n e y he hy=>?_,fun n n' e e' he xD ho gL heq=>?_⟩⟩
     ·cases n with
      | zero=>simp at he hy; subst he; subst hy; exact .inl ⟨h3,h4⟩
      | succ n=>simp at he hy; simpa using ea.cell n e y he hy
     ·cases n with
      | zero=>simp at he; subst he; rw [h3] at ho; cases ho
      | succ n =>
       cases n' with
       | zero=>simp at xD; subst xD; rw [h3] at gL; cases gL
       | succ n'=>simp at he xD; rw [ea.ne n n' e e' he xD ho gL heq]
    ·have dz:=hf.box q
     rw [h3] at dz
     refine ⟨fun n=>match n with | 0=>az G.H q ver ep | n+1=>hs n,fun n=>match n with | 0=>q | n+1=>id n,⟨by simp [ea.len],fun n e y he hy=>?_,fun n n' e e' he xD ho gL heq=>?_⟩⟩
     ·cases n with
      | zero=>simp at he hy; subst he; subst hy; exact .inr ⟨h4,by simp,dz.1,dz.2.1,h5,fun b hb=>by rw [h3]; exact hb⟩
      | succ n =>
       simp at he hy
       rcases ea.cell n e y he hy with h6 | ⟨a1,a2,a3⟩
       ·exact .inl h6
       ·exact .inr ⟨a1,by simp [a2],a3⟩
     ·have inj:∀n e,l[n]?=some e→e.ae=true→id n∈j:=by
       intro n e he ho
       have hn:n<us.length:=by rw [←ea.len]; exact (List.getElem?_eq_some_iff.1 he).1
       rcases ea.cell n e _ he (List.getElem?_eq_getElem hn) with ⟨a1,_⟩ | ⟨_,a2,_⟩
       ·rw [ho] at a1; cases a1
       ·exact a2
      cases n with
      | zero =>
       cases n' with
       | zero=>rfl
       | succ n'=>simp at xD heq; exact absurd (inj n' e' xD gL) (heq ▸ oq.2 q (by simp))
      | succ n =>
       cases n' with
       | zero=>simp at he heq; exact absurd (inj n e he ho) (heq ▸ oq.2 q (by simp))
       | succ n'=>simp at he xD; rw [ea.ne n n' e e' he xD ho gL heq]
  ·cases h
theorem Pd.le {G:Gh} {w:World} {κ:Nat→ak} {ids:List Nat} {ds Gl:List DV} {us:List Value} {hs:Nat→List PS→Option Value} {id:Nat→Nat} (h:Pd G w κ ids ds us hs id) (hle:jV ds Gl) (h1:∀u,u∈us→u.oneCell'=true):Pd G w κ ids Gl us hs id∧∀d,d∈Gl→d.aj=true:=by
 have key:∀(j:Nat) (d':DV) (u:Value),Gl[j]?=some d'→us[j]?=some u→∃d,ds[j]?=some d∧((d.ae=true∧d=d') ∨ (d.ae=false∧bc G.M d' u)):=by
  intro j d' u iG hu
  have hj:j<ds.length:=by rw [hle.length]; exact (List.getElem?_eq_some_iff.1 iG).1
  refine ⟨ds[j],List.getElem?_eq_getElem hj,?_⟩
  rcases hle.at j _ d' (List.getElem?_eq_getElem hj) iG with h2 | ⟨h2,h3⟩
  ·exact .inl h2
  ·rcases h.cell j _ u (List.getElem?_eq_getElem hj) hu with ⟨_,h4⟩ | ⟨h4,_⟩
   ·exact .inr ⟨h2,h3 G.M u h4⟩
   ·rw [h2] at h4; cases h4
 have hlen:Gl.length=us.length:=by rw [←hle.length]; exact h.len
 refine ⟨⟨hlen,fun j d' u iG hu=>?_,fun j j' d d' hd iG ho gL heq=>?_⟩,fun d' iG=>?_⟩
 ·obtain ⟨d,hd,hc⟩:=key j d' u iG hu
  rcases hc with ⟨_,rfl⟩ | ⟨_,h3⟩
  ·exact h.cell j d u hd hu
  ·exact .inl ⟨h3.dZ,h3⟩
 ·have q:∀(j:Nat) (d:DV),Gl[j]?=some d→d.ae=true→ds[j]?=some d:=by
   intro j d hd ho
   have hj:j<us.length:=by rw [←hlen]; exact (List.getElem?_eq_some_iff.1 hd).1
   obtain ⟨d0,h2,hc⟩:=key j d _ hd (List.getElem?_eq_getElem hj)
   rcases hc with ⟨_,rfl⟩ | ⟨_,h3⟩
   ·exact h2
   ·rw [h3.dZ] at ho; cases ho
  exact h.ne j j' d d' (q j d hd ho) (q j' d' iG gL) ho gL heq
 ·obtain ⟨j,hj⟩:=List.getElem?_of_mem iG
  have BH:j<us.length:=by rw [←hlen]; exact (List.getElem?_eq_some_iff.1 hj).1
  obtain ⟨d,_,hc⟩:=key j d' _ hj (List.getElem?_eq_getElem BH)
  rcases hc with ⟨h2,rfl⟩ | ⟨_,h3⟩
  ·exact dS h2
  ·exact h3.aj (h1 _ (List.getElem_mem BH))
theorem ss {x:DV} {off:Nat} {ds:List DV} {K:DV→Prop} (h:xc x off ds K):∃y,K y∧((∀d,d∈ds→d.aj=true)→off+ds.length≤x.cells.length∧y.cells=kT x.cells off ds∧y.isAgg=x.isAgg):=by
 unfold xc at h
 split at h
 ·rename_i l
  cases hb:Nat.ble (off+ds.length) l.length with
  | false=>rw [hb] at h; exact h.elim
  | true=>rw [hb] at h; exact ⟨_,h,fun _=>⟨Nat.le_of_ble_eq_true hb,rfl,rfl⟩⟩
 ·rename_i bA
  split at h
  ·rename_i d
   refine ⟨d,h,fun hc=>?_⟩
   have hd:=hc d (by simp)
   refine ⟨?_,?_,?_⟩
   ·cases x <;> first | exact (bA _ rfl).elim | simp [DV.cells]
   ·cases d <;> cases x <;> first | exact (bA _ rfl).elim | (cases hd; done) | rfl
   ·cases d <;> cases x <;> first | exact (bA _ rfl).elim | (cases hd; done) | rfl
  ·exact h.elim
theorem lD {l ds:List DV} {off j:Nat} (hle:off+ds.length≤l.length):(kT l off ds)[j]?=if off≤j∧j<off+ds.length then ds[j - off]? else l[j]?:=by
 unfold kT
 rw [List.append_assoc,List.getElem?_append]
 simp only [List.length_take]
 rw [show min off l.length=off by omega]
 by_cases h1:j<off
 ·rw [if_pos h1,if_neg (by omega),List.getElem?_take,if_pos h1]
 ·rw [if_neg h1,List.getElem?_append]
  by_cases h2:j - off<ds.length
  ·rw [if_pos h2,if_pos (by omega)]
  ·rw [if_neg h2,if_neg (by omega),List.getElem?_drop]
   congr 1; omega
theorem mU {l ds:List DV} {off:Nat} (hle:off+ds.length≤l.length):(kT l off ds).length=l.length:=by simp [kT]; omega
theorem vG {l us:List Value} {off j:Nat} (hle:off+us.length≤l.length):(l.take off++us++l.drop (off+us.length))[j]?=if off≤j∧j<off+us.length then us[j - off]? else l[j]?:=by
 rw [List.append_assoc,List.getElem?_append]
 simp only [List.length_take]
 rw [show min off l.length=off by omega]
 by_cases h1:j<off
 ·rw [if_pos h1,if_neg (by omega),List.getElem?_take,if_pos h1]
 ·rw [if_neg h1,List.getElem?_append]
  by_cases h2:j - off<us.length
  ·rw [if_pos h2,if_pos (by omega)]
  ·rw [if_neg h2,if_neg (by omega),List.getElem?_drop]
   congr 1; omega
theorem BI {sz idx off:Nat} {nd:DV} {ds:List DV} {K:List DV→DV→Prop} (h:AI sz idx off nd ds K) :
  ∃vZ Bt,K vZ Bt∧nd.ae=true∧((∀d,d∈ds→d.aj=true)→nd.ae=true∧Bt.ae=true ∧
   (∀s c,step Bt s=some c→(∃j,s=.el idx j∧off≤j∧j<off+ds.length∧ds[j - off]?=some c) ∨ ((∀j,s=.el idx j→¬ (off≤j∧j<off+ds.length))∧step nd s=some c)) ∧
   (∀j c,step nd (.el idx j)=some c→off≤j→j<off+ds.length→c∈vZ) ∧
   ∀(M:Mem) (w:World) (v:Value) (hU:PS→Option Value),bQ M w v hU nd→∃g o c t,eW v=some g∧w.heap[g]?=some (.cells c t (0,0))∧o+ds.length≤c.size ∧
    (∀A,(v=.pointer (some A) ∨ ∃m q,v=.slice (some A) m q)→A.add (idx * sz+off)=⟨g,o,none⟩) ∧
    ∀(us:List Value) (lQ:PS→Option Value) (w':World),us.length=ds.length→w'.heap[g]?=some (.cells (c.toList.take o++us++c.toList.drop (o+us.length)).toArray t (0,0)) →
     (∀s,(∀j,s=.el idx j→¬ (off≤j∧j<off+ds.length))→lQ s=hU s)→(∀(j:Nat) (d:DV) (u:Value),ds[j]?=some d→us[j]?=some u→cW M (lQ (.el idx (off+j))) d u)→bQ M w' v lQ Bt):=by
 unfold AI at h
 split at h
 ·rename_i oe l
  cases hb:Nat.beq sz oe with
  | false=>rw [hb] at h; exact h.elim
  | true =>
   rw [hb] at h
   have:=Nat.eq_of_beq_eq_true hb
   subst this
   obtain ⟨x,hx,h⟩:=h
   obtain ⟨y,h,JN⟩:=ss h
   have I1:idx<l.length:=(List.getElem?_eq_some_iff.1 hx).1
   refine ⟨_,_,h,rfl,fun hc=>?_⟩
   obtain ⟨hle,hy,_⟩:=JN hc
   refine ⟨rfl,rfl,fun s c hs=>?_,fun j c hs h1 h2=>?_,fun M w v hU aS=>?_⟩
   ·cases s with
    | key=>simp [step] at hs
    | el i j =>
     simp only [step] at hs
     by_cases e:idx=i
     ·subst e
      rw [List.getElem?_set_self I1] at hs
      simp only [hy] at hs
      rw [lD hle] at hs
      split at hs
      ·rename_i hr; exact .inl ⟨j,rfl,hr.1,hr.2,hs⟩
      ·rename_i hr
       refine .inr ⟨fun j' e'=>?_,by simp only [step,hx]; exact hs⟩
       injection e' with _ e'; subst e'; exact hr
     ·rw [List.getElem?_set_ne e] at hs
      refine .inr ⟨fun j' e'=>?_,hs⟩
      injection e' with e' _; exact absurd e'.symm e
   ·simp only [step,hx] at hs
    refine List.mem_of_getElem? (i:=j - off) ?_
    rw [List.getElem?_take,if_pos (by omega),List.getElem?_drop,show off+(j - off)=j by omega]
    exact hs
   ·rcases aS with ⟨rfl,_⟩ | ⟨g,o,cap,c,t,rfl,dY,hw,aN,nC⟩
    ·simp at hx
    ·obtain ⟨a1,a2⟩:=nC idx x hx
     have cC:o+idx * sz+off+ds.length≤c.size:=by
      have:(idx+1) * sz≤cap * sz:=Nat.mul_le_mul_right _ (by omega)
      rw [Nat.add_mul] at this
      omega
     refine ⟨g,o+idx * sz+off,c,t,rfl,hw,cC,fun A hA=>?_,fun us lQ w' ov Km lO il=>?_⟩
     ·rcases hA with hA | ⟨_,_,hA⟩
      ·cases hA
      ·injection hA with hA; injection hA with hA; subst hA; rw [cw]; congr 1; omega
     ·refine .inr ⟨g,o,cap,_,t,by simp,by simpa using dY,Km,by simp [ov]; omega,fun i z hz=>?_⟩
      have bs:∀q,(c.toList.take (o+idx * sz+off)++us++c.toList.drop (o+idx * sz+off+us.length)).toArray[q]?=if o+idx * sz+off≤q∧q<o+idx * sz+off+us.length then us[q - (o+idx * sz+off)]? else c[q]?:=fun q=>by
       rw [List.getElem?_toArray,vG (by simp; omega)]
       simp
      by_cases e:idx=i
      ·subst e
       rw [List.getElem?_set_self I1] at hz
       injection hz with hz
       subst hz
       rw [hy,mU hle]
       refine ⟨a1,fun j d hd=>?_⟩
       rw [lD hle] at hd
       split at hd
       ·rename_i hr
        have BH:j - off<us.length:=by omega
        refine ⟨hc d (List.mem_of_getElem? hd),us[j - off],?_,?_⟩
        ·rw [bs,if_pos (by omega),show o+idx * sz+j - (o+idx * sz+off)=j - off by omega]; exact List.getElem?_eq_getElem BH
        ·have:=il (j - off) d _ hd (List.getElem?_eq_getElem BH)
         rwa [show off+(j - off)=j by omega] at this
       ·rename_i hr
        obtain ⟨b1,u,b2,b3⟩:=a2 j d hd
        refine ⟨b1,u,by rw [bs,if_neg (by omega)]; exact b2,?_⟩
        rw [lO (.el idx j) (fun j' e'=>by injection e' with _ e'; subst e'; exact hr)]; exact b3
      ·rw [List.getElem?_set_ne e] at hz
       obtain ⟨b1,b2⟩:=nC i z hz
       refine ⟨b1,fun j d hd=>?_⟩
       obtain ⟨c1,u,c2,c3⟩:=b2 j d hd
       have hj:j<sz:=by rw [←b1]; exact (List.getElem?_eq_some_iff.1 hd).1
       refine ⟨c1,u,?_,?_⟩
       ·rw [bs,if_neg ?_]; exact c2
        rintro ⟨q1,q2⟩
        rw [ov] at q2
        have JG:off+ds.length≤sz:=by rw [←a1]; exact hle
        rcases Nat.lt_or_ge i idx with aK | db
        ·have:=Nat.mul_le_mul_right sz (show i+1≤idx from aK); rw [Nat.add_mul] at this; omega
        ·have:=Nat.mul_le_mul_right sz (show idx+1≤i by omega); rw [Nat.add_mul] at this; omega
       ·rw [lO (.el i j) (fun j' e'=>by injection e' with e' _; exact absurd e'.symm e)]; exact c3
 ·rename_i x
  cases hb:Nat.beq idx 0 with
  | false=>rw [hb] at h; exact h.elim
  | true =>
   rw [hb] at h
   have:=Nat.eq_of_beq_eq_true hb
   subst this
   simp only [cond_true] at h
   obtain ⟨y,h,JN⟩:=ss h
   refine ⟨_,_,h,rfl,fun hc=>?_⟩
   obtain ⟨hle,hy,_⟩:=JN hc
   refine ⟨rfl,rfl,fun s c hs=>?_,fun j c hs h1 h2=>?_,fun M w v hU aS=>?_⟩
   ·cases s with
    | key=>simp [step] at hs
    | el i j =>
     simp only [step] at hs
     cases nE:Nat.beq i 0 with
     | false=>rw [nE] at hs; cases hs
     | true =>
      rw [nE] at hs
      have:=Nat.eq_of_beq_eq_true nE
      subst this
      simp only [cond_true,hy] at hs
      rw [lD hle] at hs
      split at hs
      ·rename_i hr; exact .inl ⟨j,rfl,hr.1,hr.2,hs⟩
      ·rename_i hr
       refine .inr ⟨fun j' e'=>?_,by simp [step]; exact hs⟩
       injection e' with _ e'; subst e'; exact hr
   ·simp [step] at hs
    refine List.mem_of_getElem? (i:=j - off) ?_
    rw [List.getElem?_take,if_pos (by omega),List.getElem?_drop,show off+(j - off)=j by omega]
    exact hs
   ·obtain ⟨g,c,t,rfl,hw,aN,nC⟩:=aS
    refine ⟨g,off,c,t,rfl,hw,by omega,fun A hA=>?_,fun us lQ w' ov Km lO il=>?_⟩
    ·rcases hA with hA | ⟨_,_,hA⟩
     ·injection hA with hA; injection hA with hA; subst hA; rw [cw]; congr 1; omega
     ·cases hA
    ·refine ⟨g,_,t,rfl,Km,by rw [hy,mU hle]; simp [ov]; omega,fun j d hd=>?_⟩
     have bs:∀q,(c.toList.take off++us++c.toList.drop (off+us.length)).toArray[q]?=if off≤q∧q<off+us.length then us[q - off]? else c[q]?:=fun q=>by
      rw [List.getElem?_toArray,vG (by simp; omega)]
      simp
     rw [hy,lD hle] at hd
     split at hd
     ·rename_i hr
      have BH:j - off<us.length:=by omega
      refine ⟨hc d (List.mem_of_getElem? hd),us[j - off],by rw [bs,if_pos (by omega)]; exact List.getElem?_eq_getElem BH,?_⟩
      have:=il (j - off) d _ hd (List.getElem?_eq_getElem BH)
      rwa [show off+(j - off)=j by omega] at this
     ·rename_i hr
      obtain ⟨b1,u,b2,b3⟩:=nC j d hd
      refine ⟨b1,u,by rw [bs,if_neg (by omega)]; exact b2,?_⟩
      rw [lO (.el 0 j) (fun j' e'=>by injection e' with _ e'; subst e'; exact hr)]; exact b3
 ·exact h.elim
end Go.TM
