import Derived.Test.YtpbdohkbiklflaaGreatDoorPM6
set_option linter.unusedVariables false
set_option linter.unusedSimpArgs false
set_option linter.unusedSectionVars false
namespace Go.TM
open Go.RowKit
variable [ct]
section
variable {g:dy} {n:Nat} {ρ:Nat→AV} {κ κ':Nat→ao} {a:Act} {w w':World} {G:Gh}
theorem bZ.Iy (h:bZ g n ρ κ a w G) {i b:Nat} {l l':List AV} {vs:Array Value} {t:TypeId} (hi:κ i=.cells l) (hb:G.β i=some b) (iV:κ' i=.cells l') (qn:∀j,j ≠ i→κ' j=κ j)
  (hw:w'.heap[b]?=some (.cells vs t (0,0))) (hl:bR G l' vs.toList) (hc:∀v,v∈l'→v.ak=true) (aT:w.heap.size≤w'.heap.size) (ed:∀k,k<w.heap.size→k ≠ b→w'.heap[k]?=w.heap[k]?)
  (MM:w'.os=w.os) (MN:w'.tape=w.tape) (gm:w'.output=w.output):bZ g n ρ κ' a w' G:=by
 have gF:bI G i (κ i) b:=by rw [hi]; exact hb
 refine h.oS (C:=fun j=>j=i) ⟨Gh.Le.refl G,fun _ _=>rfl,qn,fun j _=>⟨fun _ q=>q,fun _ _ _ _ q=>q⟩,fun k hk dm=>⟨ed k hk fun e=>dm i rfl (by rw [e]; exact gF),rfl⟩,fun k o hk=>?_,?_,?_,fun j j' k e1 e2 _ _=>by rw [e1,e2],aT,MM,MN,gm⟩ (fun _ _=>rfl)
 ·have h1:=h.fit.sub k o hk
  rw [ed k (Array.getElem?_eq_some_iff.1 h1).1 fun e=>?_]
  ·exact h1
  ·rw [e] at hk; rw [h.fit.own i b gF] at hk; cases hk
 ·rintro j rfl
  rw [iV]
  exact ⟨b,vs,t,hb,hw,by have:=hl.1; simp at this; omega,hc,fun j d v hd hv=>hl.2 j d v hd (by simpa using hv)⟩
 ·rintro j k rfl ho
  rw [iV] at ho
  have:bI G j (κ j) k:=by rw [hi]; exact ho
  exact ⟨.inr ⟨j,rfl,this⟩,h.fit.own j k this⟩
theorem bZ.q9 (h:bZ g n ρ κ a w G) {i:Nat} {d:DV} (D:Nat→Prop) (h':List PS→Option Value) (YY:¬ D i) (hi:κ i=.none) (pa:∀j,D j→κ' j=.dead) (iV:κ' i=.tree 0 0 d) (qn:∀j,j ≠ i→¬ D j→κ' j=κ j)
  (ht:aS G.M w' h' d) (dt:fh h' d) (gF:∀b,aO h' d b→w.heap.size≤b ∨ ∃j,D j∧bI G j (κ j) b) (ed:∀b,b<w.heap.size→(∀j,D j→¬ bI G j (κ j) b)→w'.heap[b]?=w.heap[b]?)
  (aT:w.heap.size≤w'.heap.size) (MM:w'.os=w.os) (MN:w'.tape=w.tape) (gm:w'.output=w.output) :
  ∃G',Gh.Le G G'∧G'.M=G.M∧(∀p,az G'.H i 0 0 p=h' p)∧bZ g n ρ κ' a w' G':=by
 have hb:=h.fit.box i
 rw [hi] at hb
 obtain ⟨G',h1,h2,_,h4,_,_,h7⟩:=h.jZ (κ':=κ') (i:=i) (ver:=0) (ep:=0) (d:=d) D h' YY (.inl hi) pa iV qn (fun p x hx=>by cases p <;> simp [az,hb.2] at hx) ht dt
  (fun b cO=>(gF b cO).imp id fun h=>.inr h) (fun b cO _ hD=>ed b cO hD) (fun b cO=>by
   rcases cO with h1 | ⟨j,_,h1⟩
   ·rw [hi] at h1; exact h1.elim
   ·exact h.fit.own j b h1) aT MM MN gm
 exact ⟨G',h1,h2,h4,h7⟩
end
section
variable {P:Program} {C:dy→Prop} {T:List TI} {ops:List Oper} {n:Nat} {o:Oper} {nx:Nat} {ρ:Nat→AV} {κ:Nat→ao} {k:jo→Nat→Prop} {gd:Bool}
theorem kf {w:World} (e:TypeId) (c:Array Value):(newRow e c).run P w=.ok ⟨w.heap.size,0,none⟩ (w.alloc (.cells c e)):=by
 simp [newRow,run_newObj]
theorem wV (G:Gh) {t:Nat} {ti:TI} {i:TypeInfo} {u:TypeDesc} {z:Value} (tf:fk P t ti i u z):bR G (jU ti.zero) z.cells.toList∧∀v,v∈jU ti.zero→v.ak=true:=by
 obtain ⟨h3,h4⟩:=dW (M:=G.M) tf.zc
 refine ⟨gM h3,fun v hv=>?_⟩
 rw [wO] at hv
 obtain ⟨d,hd,rfl⟩:=List.mem_map.1 hv
 exact (h4 d hd).1
theorem I6 (hT:ef P T) {t:Nat} (hg:bL ρ ops o.guard=some gd) (ho:o.op=.alloc t) (bY:(nth T t).ok=true) (nL:κ nx=.none)
  (hk:dz n o (nx+1) k (.ptr nx 0) [(nx,.cells (jU (nth T t).zero))] [nx]):Good P C ops n o nx ρ κ k:=by
 obtain ⟨i,u,z,tf⟩:=hT.facts bY
 refine cU (fun c=>by rw [ho]; simp) hg hk (by omega) (by simp) fun ρ' κ' au g a w G dh ai aN=>?_
 have gI:κ' nx=.none:=(au.reads nx (by simp)).trans nL
 obtain ⟨hz,hc⟩:=wV G tf
 obtain ⟨G',h1,h2,h3⟩:=ai.uB gI dh t hz hc
 refine ⟨.pointer (some ⟨w.heap.size,0,none⟩),w.alloc (.cells z.cells t),G',.inl ?_,h2,.ptr nx 0 _ h3⟩
 simp [execOp,ho,Instr.alloc,tf.qZ w,newVar,kf]
theorem Pd {t:Nat} {x:Operand} {av:AV} (hg:bL ρ ops o.guard=some gd) (ho:o.op=.box t x) (nL:κ nx=.none) (hc:bQ (cellsOf av)=true)
  (hk:dz n o (nx+1) k (.ptr nx 0) [(nx,.cells (cellsOf av))] [nx]) (br:bn ρ κ gd x av):Good P C ops n o nx ρ κ k:=by
 refine cU (fun c=>by rw [ho]; simp) hg hk (by omega) (by simp) fun ρ' κ' au g a w G dh ai aN=>?_
 have gI:κ' nx=.none:=(au.reads nx (by simp)).trans nL
 have hv:=br ρ' κ' (au.op (by rw [ho]; simp [Op.operands])) g n a w G ai aN
 obtain ⟨G',h1,h2,h3⟩:=ai.uB (vs:=(a.eval x).cells) gI dh t (la hv hc) (eU hc)
 refine ⟨.pointer (some ⟨w.heap.size,0,none⟩),w.alloc (.cells (a.eval x).cells t),G',.inl ?_,h2,.ptr nx 0 _ h3⟩
 simp [execOp,ho,Instr.box,newVar,kf]
theorem zr (hT:ef P T) {t i off:Nat} {x y:Operand} {av:AV} {l:List AV} (hg:bL ρ ops o.guard=some gd) (ho:o.op=.store t x y) (bY:(nth T t).ok=true) (hb:κ i=.cells l)
  (aT:(cellsOf av).length=(nth T t).size) (hc:bQ (cellsOf av)=true) (hle:off+(nth T t).size≤l.length)
  (hk:dz n o nx k .any [(i,.cells (gi l off (cellsOf av)))] [i]) (eo:i<nx) (br:bn ρ κ gd x (.ptr i off)) (FM:bn ρ κ gd y av):Good P C ops n o nx ρ κ k:=by
 obtain ⟨ti,u,z,tf⟩:=hT.facts bY
 refine cU (fun c=>by rw [ho]; simp) hg hk (Nat.le_refl _) (by simpa using eo) fun ρ' κ' au g a w G dh ai aN=>?_
 have dN:κ' i=.cells l:=(au.reads i (by simp)).trans hb
 have hv:=br ρ' κ' (au.op (by rw [ho]; simp [Op.operands])) g n a w G ai aN
 have eW:=FM ρ' κ' (au.op (by rw [ho]; simp [Op.operands])) g n a w G ai aN
 have oE:=la eW hc
 have rO:=ai.fit.box i
 rw [dN] at rO
 obtain ⟨b,c,tt,Ui,hw,O2,jY,hr⟩:=rO
 generalize hx:a.eval x=v at hv
 cases hv with
 | ptr _ _ b' zK =>
 rw [Ui] at zK; injection zK with zK; subst zK
 have hlen:(a.eval y).cells.toList.length=(nth T t).size:=by rw [←oE.1,aT]
 have fS:=run_storeCells_at P b off tt (a.eval y).cells.toList 0 c w hw (by rw [hlen]; omega) (oE.cJ hc)
 simp only [Nat.add_zero] at fS
 have hold:bR G l c.toList:=⟨by simp [O2],fun j d v hd hv=>hr j d v hd (by simpa using hv)⟩
 refine ⟨undef,w.setRow b (c.toList.take off++(a.eval y).cells.toList++c.toList.drop (off+(a.eval y).cells.toList.length)).toArray,G,.inr ⟨?_,rfl⟩,
  ai.Iy (l':=gi l off (cellsOf av)) (t:=tt) dN Ui (by simp [aw]) (fun j hj=>by simp [aw,ae _ _ hj]) (setRow_heap w b c _ tt _ hw) ?_ ?_ (by simp) (fun k _ bD=>setRow_other w b k _ bD) rfl rfl rfl,.any _⟩
 ·have fb:(a.eval y).cells.size=(nth T t).size:=by simpa using hlen
  simp only [execOp,ho,hx,Instr.storeAt,Instr.sureAddr,Sem.run_bind,Sem.run_pure,Result.andThen_ok,storeVar,tf.eS w,fb,ne_eq,not_true_eq_false,if_false]
  rw [fS]
  rfl
 ·simpa using hold.gi oE off (by rw [aT]; exact hle)
 ·intro v hv
  unfold gi at hv
  rcases List.mem_append.1 hv with hv | hv
  ·rcases List.mem_append.1 hv with hv | hv
   ·exact jY v (List.mem_of_mem_take hv)
   ·exact eU hc v hv
  ·exact jY v (List.mem_of_mem_drop hv)
theorem kF {i:Nat}:∀{l:List Nat},fU i l=true→i∈l
 | [],h=>by simp [fU] at h
 | j::r,h=>by
  simp only [fU,Bool.or_eq_true] at h
  rcases h with h | h
  ·rw [Nat.eq_of_beq_eq_true h]; simp
  ·exact List.mem_cons_of_mem _ (kF h)
theorem eu {i:Nat}:∀{l:List Nat},fU i l=false→i ∉ l
 | [],_=>by simp
 | j::r,h=>by
  simp only [fU,Bool.or_eq_false_iff] at h
  have h2:=eu h.2
  intro hm
  rcases List.mem_cons.1 hm with rfl | hm
  ·have:=h.1
   simp [Nat.beq_refl] at this
  ·exact h2 hm
theorem cR {γ:Nat→ao}:∀{ids:List Nat} (j:Nat),aw γ (dV ids) j=if j∈ids then .dead else γ j
 | [],j=>by simp [dV,aw]
 | i::r,j=>by
  simp only [dV,aw]
  by_cases e:j=i
  ·subst e; simp
  ·rw [ae _ _ e,cR j]; simp [e]
theorem iR {v:AV} {q:(sz:Nat)→List DV→List Nat→List Nat→Prop} {nl:Prop} (h:np κ v q nl) :
  (v=.dv .aG∧nl) ∨ ∃(sz:Nat) (ys:List DV) (rd kill:List Nat),q sz ys rd kill∧(∀j,j∈rd→∃v e d,κ j=.tree v e d)∧(∀j,j∈kill→j∈rd) ∧
   ∀κ' G w x,(∀i,i∈rd→κ' i=κ i)→Fit G w κ'→aE G v x→∃hs,Src G.M w x sz ys hs∧∀b,aO hs (.ay sz ys) b→∃j,j∈kill∧bI G j (κ' j) b:=by
 unfold np at h
 split at h
 ·rename_i sz l
  refine .inr ⟨sz,l,[],[],h,by simp,by simp,fun κ' G w x _ hf hv=>⟨fun _=>none,?_,?_⟩⟩
  ·cases hv with | dv hv =>
   refine .closed ((oq.Tn hf.sub hv).mono rfl fun i x y hx hy=>?_) rfl
   rw [hx] at hy; injection hy with hy; subst hy
   refine ⟨rfl,fun j d e u hd he DC hS=>?_⟩
   rw [hd] at he; injection he with he; subst he
   exact ⟨DC,hS.dH,hS⟩
  ·rintro b ⟨_,_,_,_,_,q,_⟩; cases q
 ·exact .inl ⟨rfl,h⟩
 ·rename_i i ver ep p
  split at h
  ·rename_i aY bG d dN
   cases hb:Nat.beq ver aY && (emp p || Nat.beq ep bG) with
   | false=>rw [hb] at h; exact h.elim
   | true =>
    rw [hb] at h
    simp only [cond_true] at h
    obtain ⟨rfl,dk⟩:=di hb
    obtain ⟨nd,h,c8⟩:=bB h
    have c8:=c8 rfl
    cases nd with
    | ay sz l =>
     have Tr:∀{G:Gh} {κ':Nat→ao} {w:World} {x:Value},κ' i=κ i→Fit G w κ'→aE G (.own i ver ep p) x→az G.H i ver bG p=some x:=by
      intro G κ' w x he hf hv
      cases hv with | own _ _ _ _ _ hh hc=>rw [←cK dk]; exact hh
     rcases h with ⟨jY,h⟩ | ⟨rfl,hq⟩
     ·refine .inr ⟨sz,l,[i],[],h,by simp [dN],by simp,fun κ' G w x au hf hv=>⟨fun _=>none,?_,?_⟩⟩
      ·have he:=au i (by simp)
       have hx:=Tr he hf hv
       obtain ⟨u,h1,h2,h3⟩:=hf.node (he.trans dN) c8 rfl
       rw [hx] at h1; injection h1 with h1; subst h1
       refine .closed ?_ rfl
       have h4:oo w x sz l fun i j d u=>d.af=false∧bk G.M d u:=by
        rcases jT.1 h3 with h3 | ⟨g,o,cap,c,t,a1,a2,a3,a4,a5⟩
        ·exact .inl h3
        ·refine .inr ⟨g,o,cap,c,t,a1,a2,a3,a4,fun i y hy=>⟨(a5 i y hy).1,fun j d hd=>?_⟩⟩
         obtain ⟨b1,u,b2,b3⟩:=(a5 i y hy).2 j d hd
         have DC:=jY y (List.mem_of_getElem? hy) d (List.mem_of_getElem? hd)
         refine ⟨b1,u,b2,DC,?_⟩
         rcases b3 with ⟨c1,_⟩ | ⟨_,c2⟩
         ·rw [DC] at c1; cases c1
         ·exact c2
       exact oq.LI h4 fun i j d u hr hc=>hr.2.cJ hc
      ·rintro b ⟨_,_,_,_,_,q,_⟩; cases q
     ·refine .inr ⟨sz,l,[i],[i],hq,by simp [dN],by simp,fun κ' G w x au hf hv=>?_⟩
      have he:=au i (by simp)
      have hx:=Tr he hf hv
      have dJ:=hf.box i
      rw [he,dN] at dJ
      simp [get] at c8
      subst c8
      refine ⟨az G.H i ver bG,.tree dJ.1 dJ.2.1 hx,fun b hb=>⟨i,by simp,?_⟩⟩
      rw [he,dN]; exact hb
    | _=>exact h.elim
  ·exact h.elim
 ·rename_i i ver ep p sz lo m
  split at h
  ·rename_i aY bG d dN
   cases hb:Nat.beq ver aY && (emp p || Nat.beq ep bG) with
   | false=>rw [hb] at h; exact h.elim
   | true =>
    rw [hb] at h
    simp only [cond_true] at h
    obtain ⟨rfl,dk⟩:=di hb
    obtain ⟨nd,h,c8⟩:=bB h
    have c8:=c8 rfl
    cases nd with
    | ay oZ l =>
     simp only at h
     cases hz:Nat.beq sz oZ with
     | false=>rw [hz] at h; exact h.elim
     | true =>
     rw [hz] at h
     have:=Nat.eq_of_beq_eq_true hz
     subst this
     obtain ⟨hlen,jY,h⟩:=h
     refine .inr ⟨sz,(l.drop lo).take m,[i],[],h,by simp [dN],by simp,fun κ' G w x au hf hv=>⟨fun _=>none,?_,?_⟩⟩
     ·have he:=au i (by simp)
      obtain ⟨u,h1,h2,h3⟩:=hf.node (he.trans dN) c8 rfl
      have Qq:((l.drop lo).take m).length=m:=by simp; omega
      refine .closed ?_ rfl
      cases hv with | pre _ _ _ _ _ _ _ q cp hh =>
      by_cases hm:m=0
      ·subst hm
       cases q with
       | none=>exact .inl ⟨cp,rfl,by simp⟩
       | some A=>exact .inr ⟨A,cp,fun _ _=>undef,by simp,fun i x hx=>by simp at hx⟩
      ·obtain ⟨A,N,c',gC,rfl⟩:=hh hm
       rw [cK dk,h1] at gC
       injection gC with gC
       rcases jT.1 h3 with ⟨rfl,_⟩ | ⟨g,o,cap,c,t,rfl,a2,a3,a4,a5⟩
       ·simp at hlen; omega
       injection gC with hA _ _
       injection hA with hA
       subst hA
       refine .inr ⟨_,cp,fun a b=>c.getD (o+(lo+a) * sz+b) undef,by rw [Qq],fun a y hy=>?_⟩
       have Xe:l[lo+a]?=some y:=by
        rw [List.getElem?_take] at hy
        split at hy
        ·rwa [List.getElem?_drop] at hy
        ·cases hy
       obtain ⟨b1,b2⟩:=a5 _ y Xe
       refine ⟨b1,fun j d hd=>?_⟩
       obtain ⟨d1,u,d2,d3⟩:=b2 j d hd
       have e:c.getD (o+(lo+a) * sz+j) undef=u:=by rw [Array.getD_eq_getD_getElem?,d2]; rfl
       have DC:=jY y (List.mem_of_getElem? Xe) d (List.mem_of_getElem? hd)
       have hr:bk G.M d u:=by
        rcases d3 with ⟨c1,_⟩ | ⟨_,c2⟩
        ·rw [DC] at c1; cases c1
        ·exact c2
       refine ⟨d1,?_,?_,DC,?_⟩
       ·rw [cy,cE]
        simp only [World.cell?,a3]
        rw [show o+(lo * sz+(a * sz+j))=o+(lo+a) * sz+j by rw [Nat.add_mul]; omega,e]
        simpa using d2
       ·show (c.getD (o+(lo+a) * sz+j) undef).oneCell'=true
        rw [e]; exact hr.cJ d1
       ·show bk G.M d (c.getD (o+(lo+a) * sz+j) undef)
        rw [e]; exact hr
     ·rintro b ⟨_,_,_,_,_,q,_⟩; cases q
    | _=>exact h.elim
  ·exact h.elim
 ·exact h.elim
theorem dM {c:Call} {s x:Operand} {t:Nat} {a:Act} {w w':World} {v':Value} (ho:o.op=.call c) (hc:c.callee=.builtin .append) (ha:c.args.toList=[s,x]) (jf:c.argTypes.toList=[t,t])
  (h:(Builtin.append_ #[t,t] o.type #[a.eval s,a.eval x]).run P w=.ok v' w'):(execOp a.eval o).run P w=.ok (.value v') w':=by
 have bM:c.args=#[s,x]:=Array.ext' (by simpa using ha)
 have Fs:c.argTypes=#[t,t]:=Array.ext' (by simpa using jf)
 simp [execOp,ho,resolve,hc,bM,Fs,invoke,builtin,h]
theorem bZ.append (hT:ef P T) {t ty:TypeId} (bY:(nth T t).ok=true) (iJ:(nth T t).isSl=true) (iQ:(nth T (nth T t).elem).ok=true) (eJ:0<(nth T (nth T t).elem).size)
  {g:dy} {κ' κ2:Nat→ao} {a:Act} {w:World} {G:Gh} (ai:bZ g n ρ κ' a w G) {i aY:Nat} {l ys zs:List DV} {kill:List Nat} {h hs:List PS→Option Value} {v x:Value}
  (ht:aS G.M w h (.ay (nth T (nth T t).elem).size l)) (hi:fh h (.ay (nth T (nth T t).elem).size l)) (hv:h []=some v)
  (hk:(κ' i=.none∧aY=0∧∀b,¬ aO h (.ay (nth T (nth T t).elem).size l) b) ∨ ∃ver ep,κ' i=.tree ver ep (.ay (nth T (nth T t).elem).size l)∧aY=ver+1∧h=az G.H i ver ep)
  (gE:Src G.M w x (nth T (nth T t).elem).size ys hs) (Fw:∀b,aO hs (.ay (nth T (nth T t).elem).size ys) b→∃j,j∈kill∧bI G j (κ' j) b) (yw:i ∉ kill) (hle:eO ys zs)
  (Fu:l.length+zs.length≤9223372036854775807) (yz:(l.length+zs.length) * (nth T (nth T t).elem).bytes≤140737488355328)
  (h1:κ2 i=.tree aY 0 (.ay (nth T (nth T t).elem).size (l++zs))) (h2:∀j,j∈kill→κ2 j=.dead) (h3:∀j,j ≠ i→j ∉ kill→κ2 j=κ' j) :
  ∃v' w' G',(Builtin.append_ #[t,t] ty #[v,x]).run P w=.ok v' w'∧bZ g n ρ κ2 a w' G'∧aE G' (.own i aY 0 []) v':=by
 have Fx:∀b,aO h (.ay (nth T (nth T t).elem).size l) b→bI G i (κ' i) b:=fun b hb=>by
  rcases hk with ⟨_,_,h0⟩ | ⟨ver,ep,dN,_,rfl⟩
  ·exact absurd hb (h0 b)
  ·rw [dN]; exact hb
 obtain ⟨v',w',bc,ld,pX,t1,t2,t3⟩:=De (P:=P) (ty:=ty) hT bY iJ iQ eJ ht hi hv gE
  (fun b hb cO=>by obtain ⟨j,hj,ho⟩:=Fw b cO; exact yw (ai.fit.inj i j b (Fx b hb) ho ▸ hj))
  (fun b hb=>by obtain ⟨j,_,ho⟩:=Fw b hb; exact ho.lt ai.fit) hle Fu yz
 have Ts:∀b,fm v=some b→aO h (.ay (nth T (nth T t).elem).size l) b:=fun b hb=>⟨[],_,v,rfl,rfl,hv,hb⟩
 obtain ⟨G',g1,g2,_,g4,_,_,g7⟩:=ai.jZ (κ':=κ2) (i:=i) (ver:=aY) (ep:=0) (d:=.ay (nth T (nth T t).elem).size (l++zs)) (fun j=>j∈kill) (q7 l.length v' h hs) yw
  (by
   rcases hk with ⟨dN,_,_⟩ | ⟨ver,ep,dN,rfl,_⟩
   ·exact .inl dN
   ·exact .inr ⟨ver,ep,_,dN,by omega,by omega⟩)
  h2 h1 h3
  (fun p y hy=>by
   have hb:=ai.fit.box i
   rcases hk with ⟨dN,rfl,_⟩ | ⟨ver,ep,dN,rfl,_⟩
   ·rw [dN] at hb; cases p <;> simp [az,hb.2] at hy
   ·rw [dN] at hb; cases p <;> simp [az,hb.2.2.1 (ver+1) (by omega)] at hy)
  t1 t2
  (fun b hb=>by
   rcases t3 b hb with h5 | h5 | h5
   ·exact .inr (.inl (Fx b h5))
   ·exact .inr (.inr (Fw b h5))
   ·exact .inl h5)
  (fun b hb dm _=>ld.block b hb fun e=>dm (Fx b (Ts b e.symm)))
  (fun b hb=>by
   rcases hb with h5 | ⟨j,_,h5⟩
   ·exact ai.fit.own i b h5
   ·exact ai.fit.own j b h5)
  ld.size ld.os ld.tape ld.output
 exact ⟨v',w',G',bc,g7,.own _ _ _ _ _ ((g4 []).trans rfl) pX⟩
theorem He (hT:ef P T) {t:Nat} {s x:Operand} {c:Call} {sv xv:AV} (hg:bL ρ ops o.guard=some gd) (ho:o.op=.call c) (hc:c.callee=.builtin .append) (ha:c.args.toList=[s,x]) (jf:c.argTypes.toList=[t,t])
  (hn:∀i,nx≤i→κ i=.none) (h:lM T n o nx κ k t sv xv) (tQ:bn ρ κ gd s sv) (hex:bn ρ κ gd x xv):Good P C ops n o nx ρ κ k:=by
 have c8:∀c',o.op ≠ .defer c':=fun c'=>by rw [ho]; simp
 have bM:c.args=#[s,x]:=Array.ext' (by simpa using ha)
 have ms:s∈o.op.operands:=by rw [ho]; simp [Op.operands,Call.operands,hc,bM]
 have mx:x∈o.op.operands:=by rw [ho]; simp [Op.operands,Call.operands,hc,bM]
 unfold lM at h
 simp only at h
 cases jq:(nth T t).ok && (nth T t).isSl && (nth T (nth T t).elem).ok && Nat.blt 0 (nth T (nth T t).elem).size with
 | false=>rw [jq] at h; exact h.elim
 | true =>
 rw [jq] at h
 simp only [cond_true] at h
 simp only [Bool.and_eq_true,Nat.blt_eq] at jq
 obtain ⟨⟨⟨bY,iJ⟩,iQ⟩,eJ⟩:=jq
 have Dg:∀j,(∃v e d,κ j=.tree v e d)→j<nx:=fun j ⟨v,e,d,hj⟩=>by
  rcases Nat.lt_or_ge j nx with h | h
  ·exact h
  ·rw [hn j h] at hj; cases hj
 have Fy:∀{kill:List Nat} {dF:Nat},(∀j,j∈kill→∃v e d,κ j=.tree v e d)→nx≤dF→∀p,p∈dV kill→p.1<dF:=by
  intro kill dF hk hle p hp
  have:p.1∈kill:=by
   clear hk
   induction kill with
   | nil=>simp [dV] at hp
   | cons i r ih=>simp only [dV] at hp; rcases List.mem_cons.1 hp with rfl | hp; exact List.mem_cons_self; exact List.mem_cons_of_mem _ (ih hp)
  have:=Dg _ (hk _ this); omega
 have nothing:∀{v:Value} {w:World},((∃l ob gb cap,v=.slice (some ⟨gb,ob,none⟩) l cap∧l≤cap) ∨ v=.slice none 0 0)→(Builtin.append_ #[t,t] o.type #[v,.slice none 0 0]).run P w=.ok v w:=by
  intro v w hv
  obtain ⟨i,u,z,tf⟩:=hT.facts bY
  obtain ⟨te,ue,ze,iz⟩:=hT.facts iQ
  rcases hv with ⟨l,ob,gb,cap,rfl,ek⟩ | rfl
  ·simp [Builtin.append_,run_underlying (tf.slice iJ),sizeOf,typeInfo,iz.info,Builtin.lenOf,Builtin.firstCells,ek,storeCells]
  ·simp [Builtin.append_,run_underlying (tf.slice iJ),sizeOf,typeInfo,iz.info,Builtin.lenOf,Builtin.firstCells]
 split at h
 ·-- a nil slice
  rcases iR h with ⟨rfl,hk⟩ | ⟨sz,ys,rd,kill,hk,Ma,Mb,gE⟩
  ·refine cU c8 hg hk (Nat.le_refl _) (by simp) fun ρ' κ' au g a w G dh ai aN=>?_
   have hv:=tQ ρ' κ' (au.op ms) g n a w G ai aN
   have eW:=hex ρ' κ' (au.op mx) g n a w G ai aN
   generalize hx:a.eval s=v at hv
   generalize hi:a.eval x=vi at eW
   cases hv with | dv hv=>cases hv with | aG=>cases eW with | dv eW=>cases eW with | aG =>
   refine ⟨_,w,G,.inl (dM ho hc ha jf (by rw [hx,hi]; exact nothing (.inr rfl))),ai,.dv .aG⟩
  ·cases aT:Nat.beq sz (nth T (nth T t).elem).size with
   | false=>rw [aT] at hk; exact hk.elim
   | true =>
   rw [aT] at hk
   have:=Nat.eq_of_beq_eq_true aT
   subst this
   obtain ⟨zs,hle,yz,Fu,hk⟩:=hk
   refine cU c8 hg hk (by omega) (fun p hp=>?_) fun ρ' κ' au g a w G dh ai aN=>?_
   ·rcases List.mem_cons.1 hp with rfl | hp
    ·simp
    ·exact Fy (fun j hj=>Ma j (Mb j hj)) (by omega) p hp
   ·have gI:κ' nx=.none:=(au.reads nx (by simp)).trans (hn nx (Nat.le_refl _))
    have hv:=tQ ρ' κ' (au.op ms) g n a w G ai aN
    have eW:=hex ρ' κ' (au.op mx) g n a w G ai aN
    obtain ⟨hs,IV,Tt⟩:=gE κ' G w _ (fun i hi=>au.reads i (by simp [hi])) ai.fit eW
    have JC:nx ∉ kill:=fun hm=>by have:=Dg nx (Ma nx (Mb nx hm)); omega
    generalize hx:a.eval s=v at hv
    cases hv with | dv hv=>cases hv with | aG =>
    obtain ⟨v',w',G',r1,r2,r3⟩:=ai.append (κ2:=aw κ' ((nx,.tree 0 0 (.ay (nth T (nth T t).elem).size zs))::dV kill)) (ty:=o.type) (i:=nx) (aY:=0) (l:=[]) hT bY iJ iQ eJ (uD _ _ _) (zd _) rfl (.inl ⟨gI,rfl,fun b hb=>iS hb⟩) IV Tt JC hle (by simpa using Fu) (by simpa using yz)
     (by simp [aw]) (fun j hj=>by simp only [aw]; rw [ae _ _ (by rintro rfl; exact JC hj),cR,if_pos hj]) (fun j h1 h2=>by simp only [aw]; rw [ae _ _ h1,cR,if_neg h2])
    exact ⟨v',w',G',.inl (dM ho hc ha jf (by rw [hx]; exact r1)),r2,r3⟩
 ·-- a slice YZ Y0 Xy array
  rename_i i ver ep p
  split at h
  ·rename_i aY bG d dN
   cases hb:Nat.beq ver aY && (emp p || Nat.beq ep bG) with
   | false=>rw [hb] at h; exact h.elim
   | true =>
   rw [hb] at h
   simp only [cond_true] at h
   obtain ⟨rfl,dk⟩:=di hb
   obtain ⟨nd,h,Bj⟩:=bB h
   have vM:=Bj rfl
   have rp:i<nx:=Dg i ⟨_,_,_,dN⟩
   cases nd with
   | ay sz l =>
    simp only at h
    cases aT:Nat.beq sz (nth T (nth T t).elem).size with
    | false=>rw [aT] at h; exact h.elim
    | true =>
    rw [aT] at h
    simp only [cond_true] at h
    have:=Nat.eq_of_beq_eq_true aT
    subst this
    have NY:∀{g:dy} {a:Act} {G:Gh} {κ':Nat→ao} {w:World},aE G (.own i ver ep p) (a.eval s)→az G.H i ver bG p=some (a.eval s):=by
     intro g a G κ' w hv
     generalize a.eval s=v at hv ⊢
     cases hv with | own _ _ _ _ _ hh gU=>rw [←cK dk]; exact hh
    rcases iR h with ⟨rfl,hk⟩ | ⟨oZ,ys,rd,kill,hk,Ma,Mb,gE⟩
    ·-- nothing comes in
     have node:∀{G:Gh} {w:World} {κ':Nat→ao},κ' i=κ i→Fit G w κ'→∀{v:Value},az G.H i ver bG p=some v→((∃l ob gb cap,v=.slice (some ⟨gb,ob,none⟩) l cap∧l≤cap) ∨ v=.slice none 0 0):=by
      intro G w κ' he hf v hv
      obtain ⟨u,h1,_,h3⟩:=hf.node (he.trans dN) vM rfl
      rw [hv] at h1; injection h1 with h1; subst h1
      rcases h3 with ⟨_,rfl⟩ | ⟨gb,ob,cap,c,t,rfl,ek,_⟩
      ·exact .inr rfl
      ·exact .inl ⟨_,_,_,_,rfl,ek⟩
     cases p with
     | nil =>
      simp [get] at vM
      subst vM
      refine cU c8 hg hk (Nat.le_refl _) (by simpa using rp) fun ρ' κ' au g a w G dh ai aN=>?_
      have he:=au.reads i (by simp)
      have hv:=tQ ρ' κ' (au.op ms) g n a w G ai aN
      have eW:=hex ρ' κ' (au.op mx) g n a w G ai aN
      have hx:=NY (g:=g) (κ':=κ') (w:=w) hv
      generalize hi:a.eval x=vi at eW
      cases eW with | dv eW=>cases eW with | aG =>
      have dJ:=ai.fit.box i
      rw [he,dN] at dJ
      obtain ⟨G',g1,g2,_,g4,_,_,g7⟩:=ai.jZ (κ':=aw κ' [(i,.tree (ver+1) 0 (.ay (nth T (nth T t).elem).size l))]) (w':=w) (i:=i) (ver:=ver+1) (ep:=0) (d:=.ay (nth T (nth T t).elem).size l) (fun _=>False) (az G.H i ver bG) (fun h=>h.elim) (.inr ⟨ver,bG,_,he.trans dN,by omega,by omega⟩) (fun _ h=>h.elim) (by simp [aw]) (fun j hj _=>by simp [aw,ae _ _ hj])
       (fun q y hy=>by cases q <;> simp [az,dJ.2.2.1 (ver+1) (by omega)] at hy) dJ.1 dJ.2.1 (fun b hb=>.inr (.inl (by rw [he,dN]; exact hb))) (fun _ _ _ _=>rfl) (fun b hb=>by
        rcases hb with h5 | ⟨_,h5,_⟩
        ·exact ai.fit.own i b h5
        ·exact h5.elim) (Nat.le_refl _) rfl rfl rfl
      have pX:(a.eval s).oneCell'=true:=by rcases node he ai.fit hx with ⟨_,_,_,_,e,_⟩ | e <;> rw [e] <;> rfl
      exact ⟨a.eval s,w,G',.inl (dM ho hc ha jf (by rw [hi]; exact nothing (node he ai.fit hx))),g7,.own _ _ _ _ _ ((g4 []).trans hx) pX⟩
     | cons ps pr =>
      obtain ⟨hk,_⟩:=er hk
      refine cU c8 hg hk (by omega) (fun q hq=>by
       rcases List.mem_cons.1 hq with rfl | hq
       ·simp
       ·simp at hq; subst hq; simp; omega) fun ρ' κ' au g a w G dh ai aN=>?_
      have he:=au.reads i (by simp)
      have gI:κ' nx=.none:=(au.reads nx (by simp)).trans (hn nx (Nat.le_refl _))
      have hv:=tQ ρ' κ' (au.op ms) g n a w G ai aN
      have eW:=hex ρ' κ' (au.op mx) g n a w G ai aN
      have hx:=NY (g:=g) (κ':=κ') (w:=w) hv
      generalize hi:a.eval x=vi at eW
      cases eW with | dv eW=>cases eW with | aG =>
      obtain ⟨G',g1,g2,_,g4,g7⟩:=ai.split (κ':=aw κ' [(nx,.tree 0 0 (.ay (nth T (nth T t).elem).size l)),(i,.tree ver (bG+1) (bO d (ps::pr) .any))]) (i:=i) (nx:=nx) (he.trans dN) gI vM rfl (by simp) (by simp only [aw]; rw [ae _ _ (by omega)]; simp) (by simp [aw]) (fun j h1 h2=>by simp only [aw]; rw [ae _ _ h2,ae _ _ h1])
      have pX:(a.eval s).oneCell'=true:=by rcases node he ai.fit hx with ⟨_,_,_,_,e,_⟩ | e <;> rw [e] <;> rfl
      refine ⟨a.eval s,w,G',.inl (dM ho hc ha jf (by rw [hi]; exact nothing (node he ai.fit hx))),g7,.own _ _ _ _ _ ((g4 []).trans ?_) pX⟩
      rw [List.append_nil]; exact hx
    ·cases cw:Nat.beq oZ (nth T (nth T t).elem).size && !fU i rd with
     | false=>rw [cw] at hk; exact hk.elim
     | true =>
     rw [cw] at hk
     simp only [cond_true] at hk
     simp only [Bool.and_eq_true,Bool.not_eq_true'] at cw
     have:=Nat.eq_of_beq_eq_true cw.1
     subst this
     have Tu:=eu cw.2
     have yw:i ∉ kill:=fun hm=>Tu (Mb i hm)
     obtain ⟨zs,hle,yz,Fu,hk⟩:=hk
     cases p with
     | nil =>
      simp [get] at vM
      subst vM
      refine cU c8 hg hk (Nat.le_refl _) (fun q hq=>by
       rcases List.mem_cons.1 hq with rfl | hq
       ·exact rp
       ·exact Fy (fun j hj=>Ma j (Mb j hj)) (Nat.le_refl _) q hq) fun ρ' κ' au g a w G dh ai aN=>?_
      have he:=au.reads i (by simp)
      have hv:=tQ ρ' κ' (au.op ms) g n a w G ai aN
      have eW:=hex ρ' κ' (au.op mx) g n a w G ai aN
      have hx:=NY (g:=g) (κ':=κ') (w:=w) hv
      obtain ⟨hs,IV,Tt⟩:=gE κ' G w _ (fun i hi=>au.reads i (by simp [hi])) ai.fit eW
      have dJ:=ai.fit.box i
      rw [he,dN] at dJ
      obtain ⟨v',w',G',r1,r2,r3⟩:=ai.append (κ2:=aw κ' ((i,.tree (ver+1) 0 (.ay (nth T (nth T t).elem).size (l++zs)))::dV kill)) (ty:=o.type) (i:=i) (aY:=ver+1) hT bY iJ iQ eJ dJ.1 dJ.2.1 hx (.inr ⟨ver,bG,he.trans dN,rfl,rfl⟩) IV Tt yw hle Fu yz
       (by simp [aw]) (fun j hj=>by simp only [aw]; rw [ae _ _ (by rintro rfl; exact yw hj),cR,if_pos hj]) (fun j h1 h2=>by simp only [aw]; rw [ae _ _ h1,cR,if_neg h2])
      exact ⟨v',w',G',.inl (dM ho hc ha jf r1),r2,r3⟩
     | cons ps pr =>
      obtain ⟨hk,_⟩:=er hk
      refine cU c8 hg hk (by omega) (fun q hq=>by
       rcases List.mem_cons.1 hq with rfl | hq
       ·simp
       ·rcases List.mem_cons.1 hq with rfl | hq
        ·show i<nx+1; omega
        ·exact Fy (fun j hj=>Ma j (Mb j hj)) (by omega) q hq) fun ρ' κ' au g a w G dh ai aN=>?_
      have he:=au.reads i (by simp)
      have gI:κ' nx=.none:=(au.reads nx (by simp)).trans (hn nx (Nat.le_refl _))
      have hv:=tQ ρ' κ' (au.op ms) g n a w G ai aN
      have eW:=hex ρ' κ' (au.op mx) g n a w G ai aN
      have hx:=NY (g:=g) (κ':=κ') (w:=w) hv
      have JC:nx ∉ kill:=fun hm=>by have:=Dg nx (Ma nx (Mb nx hm)); omega
      have Wa:nx ∉ rd:=fun hm=>by have:=Dg nx (Ma nx hm); omega
      obtain ⟨G1,g1,g2,_,g4,g7⟩:=ai.split (κ':=aw κ' [(nx,.tree 0 0 (.ay (nth T (nth T t).elem).size l)),(i,.tree ver (bG+1) (bO d (ps::pr) .any))]) (i:=i) (nx:=nx) (he.trans dN) gI vM rfl (by simp) (by simp only [aw]; rw [ae _ _ (by omega)]; simp) (by simp [aw]) (fun j h1 h2=>by simp only [aw]; rw [ae _ _ h2,ae _ _ h1])
      obtain ⟨hs,IV,Tt⟩:=gE (aw κ' [(nx,.tree 0 0 (.ay (nth T (nth T t).elem).size l)),(i,.tree ver (bG+1) (bO d (ps::pr) .any))]) G1 w _ (fun j hj=>by simp only [aw]; rw [ae _ _ (by rintro rfl; exact Wa hj),ae _ _ (by rintro rfl; exact Tu hj)]; exact au.reads j (by simp [hj])) g7.fit (eW.mono g1)
      have dJ:=g7.fit.box nx
      have oi:aw κ' [(nx,.tree 0 0 (.ay (nth T (nth T t).elem).size l)),(i,.tree ver (bG+1) (bO d (ps::pr) .any))] nx=.tree 0 0 (.ay (nth T (nth T t).elem).size l):=by simp [aw]
      rw [oi] at dJ
      obtain ⟨v',w',G',r1,r2,r3⟩:=g7.append (κ2:=aw κ' ((nx,.tree 1 0 (.ay (nth T (nth T t).elem).size (l++zs)))::(i,.tree ver (bG+1) (bO d (ps::pr) .any))::dV kill)) (ty:=o.type) (i:=nx) (aY:=1) hT bY iJ iQ eJ dJ.1 dJ.2.1 (v:=a.eval s) (by rw [g4 [],List.append_nil]; exact hx) (.inr ⟨0,0,oi,rfl,rfl⟩) IV Tt JC hle Fu yz
       (by simp [aw]) (fun j hj=>by simp only [aw]; rw [ae _ _ (by rintro rfl; exact JC hj),ae _ _ (by rintro rfl; exact yw hj),cR,if_pos hj]) (fun j h1 h2=>by
        simp only [aw]
        rw [ae _ _ h1,ae _ _ h1]
        by_cases e:j=i
        ·subst e; simp
        ·rw [ae _ _ e,ae _ _ e,cR,if_neg h2])
      exact ⟨v',w',G',.inl (dM ho hc ha jf r1),r2,r3⟩
   | _=>exact h.elim
  ·exact h.elim
 ·exact h.elim
end
end Go.TM
namespace Go.TM
open Go.RowKit
variable [ct]
structure Rt (G:Gh) (w:World) (κ:Nat→ao) (ids:List Nat) (ds:List DV) (us:List Value) (hs:Nat→List PS→Option Value) (id:Nat→Nat):Prop where
 len:ds.length=us.length
 cell:∀(j:Nat) (d:DV) (u:Value),ds[j]?=some d→us[j]?=some u→(d.af=false∧bk G.M d u) ∨
  (d.af=true∧id j∈ids∧aS G.M w (hs j) d∧fh (hs j) d∧hs j []=some u∧∀b,aO (hs j) d b→bI G (id j) (κ (id j)) b)
 ne:∀(j j':Nat) (d d':DV),ds[j]?=some d→ds[j']?=some d'→d.af=true→d'.af=true→id j=id j'→j=j'
theorem sR {i:Nat} {r:List Nat} (h:eI (i::r)=true):i ∉ r∧eI r=true:=by
 simp only [eI,Bool.and_eq_true,Bool.not_eq_true'] at h
 exact ⟨eu h.1,h.2⟩
theorem Fz {κ κ':Nat→ao} {G:Gh} {w:World} {v:AV} {d:DV} {ids:List Nat} (h:MP κ v=some (d,ids)) (au:∀i,i∈ids→κ' i=κ i) (hf:Fit G w κ') {u:Value} (hv:aE G v u) :
  (ids=[]∧d.af=false∧bk G.M d u) ∨ ∃i ver ep,ids=[i]∧κ' i=.tree ver ep d∧d.af=true∧az G.H i ver ep []=some u:=by
 unfold MP at h
 split at h
 ·injection h with h; injection h with e1 e2; subst e1; subst e2
  cases hv with | dv hv=>exact .inl ⟨rfl,hv.dH,hv⟩
 ·rename_i i ver ep
  split at h
  ·rename_i aY bG d' hk
   cases hb:Nat.beq ver aY with
   | false=>rw [hb] at h; cases h
   | true =>
    rw [hb] at h
    have:=Nat.eq_of_beq_eq_true hb
    subst this
    simp only [cond_true,Option.some.injEq,Prod.mk.injEq] at h
    obtain ⟨rfl,rfl⟩:=h
    have dN:κ' i=.tree ver bG d':=(au i (by simp)).trans hk
    have dJ:=hf.box i
    rw [dN] at dJ
    cases hv with | own _ _ _ _ _ hh hc=>exact .inr ⟨i,ver,bG,rfl,dN,dJ.1.1,hh⟩
  ·cases h
 ·injection h with h; injection h with e1 e2; subst e1; subst e2
  cases hv with | fn _ _ vs hl hr =>
  have:vs=[]:=by simpa using hl.symm
  subst this
  exact .inl ⟨rfl,rfl,.fn _ [] [] rfl (by simp)⟩
 ·cases h
theorem Iz {κ κ':Nat→ao} {G:Gh} {w:World} {v:AV} {d:DV} {ids:List Nat} (h:TX κ v=some (d,ids)) (au:∀i,i∈ids→κ' i=κ i) (hf:Fit G w κ') {u:Value} (hv:aE G v u) :
  (ids=[]∧d.af=false∧bk G.M d u) ∨ ∃i ver ep,ids=[i]∧κ' i=.tree ver ep d∧d.af=true∧az G.H i ver ep []=some u:=Fz (v:=dn v) h au hf (xU hv)
theorem mc {κ κ':Nat→ao} {G:Gh} {w:World} (hf:Fit G w κ'):∀{vs:List AV} {ds:List DV} {ids:List Nat} {us:List Value},qx κ vs=some (ds,ids)→eI ids=true→(∀i,i∈ids→κ' i=κ i)→bR G vs us→∃hs id,Rt G w κ' ids ds us hs id
 | [],ds,ids,us,h,_,_,hr=>by
  simp [qx] at h
  obtain ⟨rfl,rfl⟩:=h
  have:us=[]:=by have:=hr.1; simpa using this.symm
  subst this
  exact ⟨fun _ _=>none,fun _=>0,rfl,by simp,by simp⟩
 | v::vs,ds,ids,us,h,c8,au,hr=>by
  simp only [qx] at h
  split at h
  ·rename_i d i l j h1 h2
   simp only [Option.some.injEq,Prod.mk.injEq] at h
   obtain ⟨rfl,rfl⟩:=h
   match us,hr with
   | [],hr=>have:=hr.1; simp at this
   | u::us,hr =>
    have o9:eI j=true∧∀q,q∈i→q ∉ j:=by
     clear h1 h2 hr au
     induction i with
     | nil=>exact ⟨c8,by simp⟩
     | cons q i ih =>
      obtain ⟨a1,a2⟩:=sR c8
      obtain ⟨b1,b2⟩:=ih a2
      refine ⟨b1,fun q' DB=>?_⟩
      rcases List.mem_cons.1 DB with rfl | DB
      ·exact fun hm=>a1 (List.mem_append.2 (.inr hm))
      ·exact b2 q' DB
    obtain ⟨hs,id,eo⟩:=mc hf h2 o9.1 (fun q hq=>au q (List.mem_append.2 (.inr hq))) (us:=us) ⟨by simpa using hr.1,fun q e y he hy=>hr.2 (q+1) e y (by simpa using he) (by simpa using hy)⟩
    have h0:=Iz h1 (fun q hq=>au q (List.mem_append.2 (.inl hq))) hf (hr.2 0 v u rfl rfl)
    rcases h0 with ⟨rfl,h3,h4⟩ | ⟨q,ver,ep,rfl,h3,h4,h5⟩
    ·refine ⟨fun n=>match n with | 0=>fun _=>none | n+1=>hs n,fun n=>match n with | 0=>0 | n+1=>id n,⟨by simp [eo.len],fun n e y he hy=>?_,fun n n' e e' he yO ho hU heq=>?_⟩⟩
     ·cases n with
      | zero=>simp at he hy; subst he; subst hy; exact .inl ⟨h3,h4⟩
      | succ n=>simp at he hy; simpa using eo.cell n e y he hy
     ·cases n with
      | zero=>simp at he; subst he; rw [h3] at ho; cases ho
      | succ n =>
       cases n' with
       | zero=>simp at yO; subst yO; rw [h3] at hU; cases hU
       | succ n'=>simp at he yO; rw [eo.ne n n' e e' he yO ho hU heq]
    ·have dJ:=hf.box q
     rw [h3] at dJ
     refine ⟨fun n=>match n with | 0=>az G.H q ver ep | n+1=>hs n,fun n=>match n with | 0=>q | n+1=>id n,⟨by simp [eo.len],fun n e y he hy=>?_,fun n n' e e' he yO ho hU heq=>?_⟩⟩
     ·cases n with
      | zero=>simp at he hy; subst he; subst hy; exact .inr ⟨h4,by simp,dJ.1,dJ.2.1,h5,fun b hb=>by rw [h3]; exact hb⟩
      | succ n =>
       simp at he hy
       rcases eo.cell n e y he hy with h6 | ⟨a1,a2,a3⟩
       ·exact .inl h6
       ·exact .inr ⟨a1,by simp [a2],a3⟩
     ·have inj:∀n e,l[n]?=some e→e.af=true→id n∈j:=by
       intro n e he ho
       have hn:n<us.length:=by rw [←eo.len]; exact (List.getElem?_eq_some_iff.1 he).1
       rcases eo.cell n e _ he (List.getElem?_eq_getElem hn) with ⟨a1,_⟩ | ⟨_,a2,_⟩
       ·rw [ho] at a1; cases a1
       ·exact a2
      cases n with
      | zero =>
       cases n' with
       | zero=>rfl
       | succ n'=>simp at yO heq; exact absurd (inj n' e' yO hU) (heq ▸ o9.2 q (by simp))
      | succ n =>
       cases n' with
       | zero=>simp at he heq; exact absurd (inj n e he ho) (heq ▸ o9.2 q (by simp))
       | succ n'=>simp at he yO; rw [eo.ne n n' e e' he yO ho hU heq]
  ·cases h
theorem Rt.le {G:Gh} {w:World} {κ:Nat→ao} {ids:List Nat} {ds Io:List DV} {us:List Value} {hs:Nat→List PS→Option Value} {id:Nat→Nat} (h:Rt G w κ ids ds us hs id) (hle:ku ds Io) (h1:∀u,u∈us→u.oneCell'=true):Rt G w κ ids Io us hs id∧∀d,d∈Io→d.ak=true:=by
 have key:∀(j:Nat) (d':DV) (u:Value),Io[j]?=some d'→us[j]?=some u→∃d,ds[j]?=some d∧((d.af=true∧d=d') ∨ (d.af=false∧bk G.M d' u)):=by
  intro j d' u je hu
  have hj:j<ds.length:=by rw [hle.length]; exact (List.getElem?_eq_some_iff.1 je).1
  refine ⟨ds[j],List.getElem?_eq_getElem hj,?_⟩
  rcases hle.at j _ d' (List.getElem?_eq_getElem hj) je with h2 | ⟨h2,h3⟩
  ·exact .inl h2
  ·rcases h.cell j _ u (List.getElem?_eq_getElem hj) hu with ⟨_,h4⟩ | ⟨h4,_⟩
   ·exact .inr ⟨h2,h3 G.M u h4⟩
   ·rw [h2] at h4; cases h4
 have hlen:Io.length=us.length:=by rw [←hle.length]; exact h.len
 refine ⟨⟨hlen,fun j d' u je hu=>?_,fun j j' d d' hd je ho hU heq=>?_⟩,fun d' je=>?_⟩
 ·obtain ⟨d,hd,hc⟩:=key j d' u je hu
  rcases hc with ⟨_,rfl⟩ | ⟨_,h3⟩
  ·exact h.cell j d u hd hu
  ·exact .inl ⟨h3.dH,h3⟩
 ·have q:∀(j:Nat) (d:DV),Io[j]?=some d→d.af=true→ds[j]?=some d:=by
   intro j d hd ho
   have hj:j<us.length:=by rw [←hlen]; exact (List.getElem?_eq_some_iff.1 hd).1
   obtain ⟨d0,h2,hc⟩:=key j d _ hd (List.getElem?_eq_getElem hj)
   rcases hc with ⟨_,rfl⟩ | ⟨_,h3⟩
   ·exact h2
   ·rw [h3.dH] at ho; cases ho
  exact h.ne j j' d d' (q j d hd ho) (q j' d' je hU) ho hU heq
 ·obtain ⟨j,hj⟩:=List.getElem?_of_mem je
  have Dh:j<us.length:=by rw [←hlen]; exact (List.getElem?_eq_some_iff.1 hj).1
  obtain ⟨d,_,hc⟩:=key j d' _ hj (List.getElem?_eq_getElem Dh)
  rcases hc with ⟨h2,rfl⟩ | ⟨_,h3⟩
  ·exact ec h2
  ·exact h3.ak (h1 _ (List.getElem_mem Dh))
theorem tz {x:DV} {off:Nat} {ds:List DV} {K:DV→Prop} (h:yk x off ds K):∃y,K y∧((∀d,d∈ds→d.ak=true)→off+ds.length≤x.cells.length∧y.cells=lG x.cells off ds∧y.isAgg=x.isAgg):=by
 unfold yk at h
 split at h
 ·rename_i l
  cases hb:Nat.ble (off+ds.length) l.length with
  | false=>rw [hb] at h; exact h.elim
  | true=>rw [hb] at h; exact ⟨_,h,fun _=>⟨Nat.le_of_ble_eq_true hb,rfl,rfl⟩⟩
 ·rename_i bD
  split at h
  ·rename_i d
   refine ⟨d,h,fun hc=>?_⟩
   have hd:=hc d (by simp)
   refine ⟨?_,?_,?_⟩
   ·cases x <;> first | exact (bD _ rfl).elim | simp [DV.cells]
   ·cases d <;> cases x <;> first | exact (bD _ rfl).elim | (cases hd; done) | rfl
   ·cases d <;> cases x <;> first | exact (bD _ rfl).elim | (cases hd; done) | rfl
  ·exact h.elim
theorem me {l ds:List DV} {off j:Nat} (hle:off+ds.length≤l.length):(lG l off ds)[j]?=if off≤j∧j<off+ds.length then ds[j - off]? else l[j]?:=by
 unfold lG
 rw [List.append_assoc,List.getElem?_append]
 simp only [List.length_take]
 rw [show min off l.length=off by omega]
 by_cases h1:j<off
 ·rw [if_pos h1,if_neg (by omega),List.getElem?_take,if_pos h1]
 ·rw [if_neg h1,List.getElem?_append]
  by_cases h2:j - off<ds.length
  ·rw [if_pos h2,if_pos (by omega)]
  ·rw [if_neg h2,if_neg (by omega),List.getElem?_drop]
   congr 1; omega
theorem nM {l ds:List DV} {off:Nat} (hle:off+ds.length≤l.length):(lG l off ds).length=l.length:=by simp [lG]; omega
theorem wW {l us:List Value} {off j:Nat} (hle:off+us.length≤l.length):(l.take off++us++l.drop (off+us.length))[j]?=if off≤j∧j<off+us.length then us[j - off]? else l[j]?:=by
 rw [List.append_assoc,List.getElem?_append]
 simp only [List.length_take]
 rw [show min off l.length=off by omega]
 by_cases h1:j<off
 ·rw [if_pos h1,if_neg (by omega),List.getElem?_take,if_pos h1]
 ·rw [if_neg h1,List.getElem?_append]
  by_cases h2:j - off<us.length
  ·rw [if_pos h2,if_pos (by omega)]
  ·rw [if_neg h2,if_neg (by omega),List.getElem?_drop]
   congr 1; omega
theorem Di {sz idx off:Nat} {nd:DV} {ds:List DV} {K:List DV→DV→Prop} (h:B6 sz idx off nd ds K) :
  ∃xi CY,K xi CY∧nd.af=true∧((∀d,d∈ds→d.ak=true)→nd.af=true∧CY.af=true ∧
   (∀s c,step CY s=some c→(∃j,s=.el idx j∧off≤j∧j<off+ds.length∧ds[j - off]?=some c) ∨ ((∀j,s=.el idx j→¬ (off≤j∧j<off+ds.length))∧step nd s=some c)) ∧
   (∀j c,step nd (.el idx j)=some c→off≤j→j<off+ds.length→c∈xi) ∧
   ∀(M:Mem) (w:World) (v:Value) (gU:PS→Option Value),bW M w v gU nd→∃g o c t,fm v=some g∧w.heap[g]?=some (.cells c t (0,0))∧o+ds.length≤c.size ∧
    (∀A,(v=.pointer (some A) ∨ ∃m q,v=.slice (some A) m q)→A.add (idx * sz+off)=⟨g,o,none⟩) ∧
    ∀(us:List Value) (mz:PS→Option Value) (w':World),us.length=ds.length→w'.heap[g]?=some (.cells (c.toList.take o++us++c.toList.drop (o+us.length)).toArray t (0,0)) →
     (∀s,(∀j,s=.el idx j→¬ (off≤j∧j<off+ds.length))→mz s=gU s)→(∀(j:Nat) (d:DV) (u:Value),ds[j]?=some d→us[j]?=some u→de M (mz (.el idx (off+j))) d u)→bW M w' v mz CY):=by
 unfold B6 at h
 split at h
 ·rename_i oZ l
  cases hb:Nat.beq sz oZ with
  | false=>rw [hb] at h; exact h.elim
  | true =>
   rw [hb] at h
   have:=Nat.eq_of_beq_eq_true hb
   subst this
   obtain ⟨x,hx,h⟩:=h
   obtain ⟨y,h,LO⟩:=tz h
   have KO:idx<l.length:=(List.getElem?_eq_some_iff.1 hx).1
   refine ⟨_,_,h,rfl,fun hc=>?_⟩
   obtain ⟨hle,hy,_⟩:=LO hc
   refine ⟨rfl,rfl,fun s c hs=>?_,fun j c hs h1 h2=>?_,fun M w v gU aX=>?_⟩
   ·cases s with
    | key=>simp [step] at hs
    | el i j =>
     simp only [step] at hs
     by_cases e:idx=i
     ·subst e
      rw [List.getElem?_set_self KO] at hs
      simp only [hy] at hs
      rw [me hle] at hs
      split at hs
      ·rename_i hr; exact .inl ⟨j,rfl,hr.1,hr.2,hs⟩
      ·rename_i hr
       refine .inr ⟨fun j' e'=>?_,by simp only [step,hx]; exact hs⟩
       injection e' with _ e'; subst e'; exact hr
     ·rw [List.getElem?_set_ne e] at hs
      refine .inr ⟨fun j' e'=>?_,hs⟩
      injection e' with e' _; exact absurd e'.symm e
   ·simp only [step,hx] at hs
    refine List.mem_of_getElem? (i:=j - off) ?_
    rw [List.getElem?_take,if_pos (by omega),List.getElem?_drop,show off+(j - off)=j by omega]
    exact hs
   ·rcases aX with ⟨rfl,_⟩ | ⟨g,o,cap,c,t,rfl,ek,hw,aT,oi⟩
    ·simp at hx
    ·obtain ⟨a1,a2⟩:=oi idx x hx
     have cC:o+idx * sz+off+ds.length≤c.size:=by
      have:(idx+1) * sz≤cap * sz:=Nat.mul_le_mul_right _ (by omega)
      rw [Nat.add_mul] at this
      omega
     refine ⟨g,o+idx * sz+off,c,t,rfl,hw,cC,fun A hA=>?_,fun us mz w' pc Mq mw iP=>?_⟩
     ·rcases hA with hA | ⟨_,_,hA⟩
      ·cases hA
      ·injection hA with hA; injection hA with hA; subst hA; rw [cE]; congr 1; omega
     ·refine .inr ⟨g,o,cap,_,t,by simp,by simpa using ek,Mq,by simp [pc]; omega,fun i z hz=>?_⟩
      have bp:∀q,(c.toList.take (o+idx * sz+off)++us++c.toList.drop (o+idx * sz+off+us.length)).toArray[q]?=if o+idx * sz+off≤q∧q<o+idx * sz+off+us.length then us[q - (o+idx * sz+off)]? else c[q]?:=fun q=>by
       rw [List.getElem?_toArray,wW (by simp; omega)]
       simp
      by_cases e:idx=i
      ·subst e
       rw [List.getElem?_set_self KO] at hz
       injection hz with hz
       subst hz
       rw [hy,nM hle]
       refine ⟨a1,fun j d hd=>?_⟩
       rw [me hle] at hd
       split at hd
       ·rename_i hr
        have Dh:j - off<us.length:=by omega
        refine ⟨hc d (List.mem_of_getElem? hd),us[j - off],?_,?_⟩
        ·rw [bp,if_pos (by omega),show o+idx * sz+j - (o+idx * sz+off)=j - off by omega]; exact List.getElem?_eq_getElem Dh
        ·have:=iP (j - off) d _ hd (List.getElem?_eq_getElem Dh)
         rwa [show off+(j - off)=j by omega] at this
       ·rename_i hr
        obtain ⟨b1,u,b2,b3⟩:=a2 j d hd
        refine ⟨b1,u,by rw [bp,if_neg (by omega)]; exact b2,?_⟩
        rw [mw (.el idx j) (fun j' e'=>by injection e' with _ e'; subst e'; exact hr)]; exact b3
      ·rw [List.getElem?_set_ne e] at hz
       obtain ⟨b1,b2⟩:=oi i z hz
       refine ⟨b1,fun j d hd=>?_⟩
       obtain ⟨c1,u,c2,c3⟩:=b2 j d hd
       have hj:j<sz:=by rw [←b1]; exact (List.getElem?_eq_some_iff.1 hd).1
       refine ⟨c1,u,?_,?_⟩
       ·rw [bp,if_neg ?_]; exact c2
        rintro ⟨q1,q2⟩
        rw [pc] at q2
        have LH:off+ds.length≤sz:=by rw [←a1]; exact hle
        rcases Nat.lt_or_ge i idx with aJ | dw
        ·have:=Nat.mul_le_mul_right sz (show i+1≤idx from aJ); rw [Nat.add_mul] at this; omega
        ·have:=Nat.mul_le_mul_right sz (show idx+1≤i by omega); rw [Nat.add_mul] at this; omega
       ·rw [mw (.el i j) (fun j' e'=>by injection e' with e' _; exact absurd e'.symm e)]; exact c3
 ·rename_i x
  cases hb:Nat.beq idx 0 with
  | false=>rw [hb] at h; exact h.elim
  | true =>
   rw [hb] at h
   have:=Nat.eq_of_beq_eq_true hb
   subst this
   simp only [cond_true] at h
   obtain ⟨y,h,LO⟩:=tz h
   refine ⟨_,_,h,rfl,fun hc=>?_⟩
   obtain ⟨hle,hy,_⟩:=LO hc
   refine ⟨rfl,rfl,fun s c hs=>?_,fun j c hs h1 h2=>?_,fun M w v gU aX=>?_⟩
   ·cases s with
    | key=>simp [step] at hs
    | el i j =>
     simp only [step] at hs
     cases om:Nat.beq i 0 with
     | false=>rw [om] at hs; cases hs
     | true =>
      rw [om] at hs
      have:=Nat.eq_of_beq_eq_true om
      subst this
      simp only [cond_true,hy] at hs
      rw [me hle] at hs
      split at hs
      ·rename_i hr; exact .inl ⟨j,rfl,hr.1,hr.2,hs⟩
      ·rename_i hr
       refine .inr ⟨fun j' e'=>?_,by simp [step]; exact hs⟩
       injection e' with _ e'; subst e'; exact hr
   ·simp [step] at hs
    refine List.mem_of_getElem? (i:=j - off) ?_
    rw [List.getElem?_take,if_pos (by omega),List.getElem?_drop,show off+(j - off)=j by omega]
    exact hs
   ·obtain ⟨g,c,t,rfl,hw,aT,oi⟩:=aX
    refine ⟨g,off,c,t,rfl,hw,by omega,fun A hA=>?_,fun us mz w' pc Mq mw iP=>?_⟩
    ·rcases hA with hA | ⟨_,_,hA⟩
     ·injection hA with hA; injection hA with hA; subst hA; rw [cE]; congr 1; omega
     ·cases hA
    ·refine ⟨g,_,t,rfl,Mq,by rw [hy,nM hle]; simp [pc]; omega,fun j d hd=>?_⟩
     have bp:∀q,(c.toList.take off++us++c.toList.drop (off+us.length)).toArray[q]?=if off≤q∧q<off+us.length then us[q - off]? else c[q]?:=fun q=>by
      rw [List.getElem?_toArray,wW (by simp; omega)]
      simp
     rw [hy,me hle] at hd
     split at hd
     ·rename_i hr
      have Dh:j - off<us.length:=by omega
      refine ⟨hc d (List.mem_of_getElem? hd),us[j - off],by rw [bp,if_pos (by omega)]; exact List.getElem?_eq_getElem Dh,?_⟩
      have:=iP (j - off) d _ hd (List.getElem?_eq_getElem Dh)
      rwa [show off+(j - off)=j by omega] at this
     ·rename_i hr
      obtain ⟨b1,u,b2,b3⟩:=oi j d hd
      refine ⟨b1,u,by rw [bp,if_neg (by omega)]; exact b2,?_⟩
      rw [mw (.el 0 j) (fun j' e'=>by injection e' with _ e'; subst e'; exact hr)]; exact b3
 ·exact h.elim
end Go.TM
