import Derived.Test.YtpbdohkbiklflaaGreatDoorFM6
set_option linter.unusedVariables false
set_option linter.unusedSimpArgs false
set_option linter.unusedSectionVars false
namespace Go.TM
open Go.RowKit
variable [cu]
section
variable {g:dw} {n:Nat} {ρ:Nat→AV} {κ κ':Nat→ao} {a:Act} {w w':World} {G:Gh}
theorem bX.IN (h:bX g n ρ κ a w G) {i b:Nat} {l l':List AV} {vs:Array Value} {t:TypeId} (hi:κ i=.cells l) (hb:G.β i=some b) (iU:κ' i=.cells l') (qs:∀j,j ≠ i→κ' j=κ j)
  (hw:w'.heap[b]?=some (.cells vs t (0,0))) (hl:bR G l' vs.toList) (hc:∀v,v∈l'→v.ak=true) (aT:w.heap.size≤w'.heap.size) (ec:∀k,k<w.heap.size→k ≠ b→w'.heap[k]?=w.heap[k]?)
  (MT:w'.os=w.os) (MU:w'.tape=w.tape) (gm:w'.output=w.output):bX g n ρ κ' a w' G:=by
 have gG:bI G i (κ i) b:=by rw [hi]; exact hb
 refine h.oY (C:=fun j=>j=i) ⟨Gh.Le.refl G,fun _ _=>rfl,qs,fun j _=>⟨fun _ q=>q,fun _ _ _ _ q=>q⟩,fun k hk dm=>⟨ec k hk fun e=>dm i rfl (by rw [e]; exact gG),rfl⟩,fun k o hk=>?_,?_,?_,fun j j' k e1 e2 _ _=>by rw [e1,e2],aT,MT,MU,gm⟩ (fun _ _=>rfl)
 ·have h1:=h.fit.sub k o hk
  rw [ec k (Array.getElem?_eq_some_iff.1 h1).1 fun e=>?_]
  ·exact h1
  ·rw [e] at hk; rw [h.fit.own i b gG] at hk; cases hk
 ·rintro j rfl
  rw [iU]
  exact ⟨b,vs,t,hb,hw,by have:=hl.1; simp at this; omega,hc,fun j d v hd hv=>hl.2 j d v hd (by simpa using hv)⟩
 ·rintro j k rfl ho
  rw [iU] at ho
  have:bI G j (κ j) k:=by rw [hi]; exact ho
  exact ⟨.inr ⟨j,rfl,this⟩,h.fit.own j k this⟩
theorem bX.rb (h:bX g n ρ κ a w G) {i:Nat} {d:DV} (D:Nat→Prop) (h':List PS→Option Value) (Y2:¬ D i) (hi:κ i=.none) (pf:∀j,D j→κ' j=.dead) (iU:κ' i=.tree 0 0 d) (qs:∀j,j ≠ i→¬ D j→κ' j=κ j)
  (ht:aU G.M w' h' d) (dr:fc h' d) (gG:∀b,aP h' d b→w.heap.size≤b ∨ ∃j,D j∧bI G j (κ j) b) (ec:∀b,b<w.heap.size→(∀j,D j→¬ bI G j (κ j) b)→w'.heap[b]?=w.heap[b]?)
  (aT:w.heap.size≤w'.heap.size) (MT:w'.os=w.os) (MU:w'.tape=w.tape) (gm:w'.output=w.output) :
  ∃G',Gh.Le G G'∧G'.M=G.M∧(∀p,aB G'.H i 0 0 p=h' p)∧bX g n ρ κ' a w' G':=by
 have hb:=h.fit.box i
 rw [hi] at hb
 obtain ⟨G',h1,h2,_,h4,_,_,h7⟩:=h.jW (κ':=κ') (i:=i) (ver:=0) (ep:=0) (d:=d) D h' Y2 (.inl hi) pf iU qs (fun p x hx=>by cases p <;> simp [aB,hb.2] at hx) ht dr
  (fun b cO=>(gG b cO).imp id fun h=>.inr h) (fun b cO _ hD=>ec b cO hD) (fun b cO=>by
   rcases cO with h1 | ⟨j,_,h1⟩
   ·rw [hi] at h1; exact h1.elim
   ·exact h.fit.own j b h1) aT MT MU gm
 exact ⟨G',h1,h2,h4,h7⟩
end
section
variable {P:Program} {C:dw→Prop} {T:List TI} {ops:List Oper} {n:Nat} {o:Oper} {nx:Nat} {ρ:Nat→AV} {κ:Nat→ao} {k:jo→Nat→Prop} {gd:Bool}
theorem j7 {w:World} (e:TypeId) (c:Array Value):(newRow e c).run P w=.ok ⟨w.heap.size,0,none⟩ (w.alloc (.cells c e)):=by
 simp [newRow,run_newObj]
theorem w8 (G:Gh) {t:Nat} {ti:TI} {i:TypeInfo} {u:TypeDesc} {z:Value} (tf:fg P t ti i u z):bR G (jR ti.zero) z.cells.toList∧∀v,v∈jR ti.zero→v.ak=true:=by
 obtain ⟨h3,h4⟩:=dV (M:=G.M) tf.zc
 refine ⟨gN h3,fun v hv=>?_⟩
 rw [wY] at hv
 obtain ⟨d,hd,rfl⟩:=List.mem_map.1 hv
 exact (h4 d hd).1
theorem Ji (hT:ed P T) {t:Nat} (hg:bK ρ ops o.guard=some gd) (ho:o.op=.alloc t) (bJ:(nth T t).ok=true) (nM:κ nx=.none)
  (hk:dx n o (nx+1) k (.ptr nx 0) [(nx,.cells (jR (nth T t).zero))] [nx]):Good P C ops n o nx ρ κ k:=by
 obtain ⟨i,u,z,tf⟩:=hT.facts bJ
 refine cR (fun c=>by rw [ho]; simp) hg hk (by omega) (by simp) fun ρ' κ' au g a w G dg aj aM=>?_
 have fy:κ' nx=.none:=(au.reads nx (by simp)).trans nM
 obtain ⟨hz,hc⟩:=w8 G tf
 obtain ⟨G',h1,h2,h3⟩:=aj.uH fy dg t hz hc
 refine ⟨.pointer (some ⟨w.heap.size,0,none⟩),w.alloc (.cells z.cells t),G',.inl ?_,h2,.ptr nx 0 _ h3⟩
 simp [execOp,ho,Instr.alloc,tf.q6 w,newVar,j7]
theorem Pp {t:Nat} {x:Operand} {av:AV} (hg:bK ρ ops o.guard=some gd) (ho:o.op=.box t x) (nM:κ nx=.none) (hc:bP (cellsOf av)=true)
  (hk:dx n o (nx+1) k (.ptr nx 0) [(nx,.cells (cellsOf av))] [nx]) (bs:bo ρ κ gd x av):Good P C ops n o nx ρ κ k:=by
 refine cR (fun c=>by rw [ho]; simp) hg hk (by omega) (by simp) fun ρ' κ' au g a w G dg aj aM=>?_
 have fy:κ' nx=.none:=(au.reads nx (by simp)).trans nM
 have hv:=bs ρ' κ' (au.op (by rw [ho]; simp [Op.operands])) g n a w G aj aM
 obtain ⟨G',h1,h2,h3⟩:=aj.uH (vs:=(a.eval x).cells) fy dg t (kV hv hc) (eP hc)
 refine ⟨.pointer (some ⟨w.heap.size,0,none⟩),w.alloc (.cells (a.eval x).cells t),G',.inl ?_,h2,.ptr nx 0 _ h3⟩
 simp [execOp,ho,Instr.box,newVar,j7]
theorem zA (hT:ed P T) {t i off:Nat} {x y:Operand} {av:AV} {l:List AV} (hg:bK ρ ops o.guard=some gd) (ho:o.op=.store t x y) (bJ:(nth T t).ok=true) (hb:κ i=.cells l)
  (aT:(cellsOf av).length=(nth T t).size) (hc:bP (cellsOf av)=true) (hle:off+(nth T t).size≤l.length)
  (hk:dx n o nx k .any [(i,.cells (gi l off (cellsOf av)))] [i]) (ek:i<nx) (bs:bo ρ κ gd x (.ptr i off)) (FX:bo ρ κ gd y av):Good P C ops n o nx ρ κ k:=by
 obtain ⟨ti,u,z,tf⟩:=hT.facts bJ
 refine cR (fun c=>by rw [ho]; simp) hg hk (Nat.le_refl _) (by simpa using ek) fun ρ' κ' au g a w G dg aj aM=>?_
 have dM:κ' i=.cells l:=(au.reads i (by simp)).trans hb
 have hv:=bs ρ' κ' (au.op (by rw [ho]; simp [Op.operands])) g n a w G aj aM
 have eK:=FX ρ' κ' (au.op (by rw [ho]; simp [Op.operands])) g n a w G aj aM
 have oI:=kV eK hc
 have rQ:=aj.fit.box i
 rw [dM] at rQ
 obtain ⟨b,c,tt,Uq,hw,Pe,j9,hr⟩:=rQ
 generalize hx:a.eval x=v at hv
 cases hv with
 | ptr _ _ b' zR =>
 rw [Uq] at zR; injection zR with zR; subst zR
 have hlen:(a.eval y).cells.toList.length=(nth T t).size:=by rw [←oI.1,aT]
 have fT:=run_storeCells_at P b off tt (a.eval y).cells.toList 0 c w hw (by rw [hlen]; omega) (oI.cJ hc)
 simp only [Nat.add_zero] at fT
 have hold:bR G l c.toList:=⟨by simp [Pe],fun j d v hd hv=>hr j d v hd (by simpa using hv)⟩
 refine ⟨undef,w.setRow b (c.toList.take off++(a.eval y).cells.toList++c.toList.drop (off+(a.eval y).cells.toList.length)).toArray,G,.inr ⟨?_,rfl⟩,
  aj.IN (l':=gi l off (cellsOf av)) (t:=tt) dM Uq (by simp [aw]) (fun j hj=>by simp [aw,ae _ _ hj]) (setRow_heap w b c _ tt _ hw) ?_ ?_ (by simp) (fun k _ bD=>setRow_other w b k _ bD) rfl rfl rfl,.any _⟩
 ·have eZ:(a.eval y).cells.size=(nth T t).size:=by simpa using hlen
  simp only [execOp,ho,hx,Instr.storeAt,Instr.sureAddr,Sem.run_bind,Sem.run_pure,Result.andThen_ok,storeVar,tf.eN w,eZ,ne_eq,not_true_eq_false,if_false]
  rw [fT]
  rfl
 ·simpa using hold.gi oI off (by rw [aT]; exact hle)
 ·intro v hv
  unfold gi at hv
  rcases List.mem_append.1 hv with hv | hv
  ·rcases List.mem_append.1 hv with hv | hv
   ·exact j9 v (List.mem_of_mem_take hv)
   ·exact eP hc v hv
  ·exact j9 v (List.mem_of_mem_drop hv)
theorem kz {i:Nat}:∀{l:List Nat},fV i l=true→i∈l
 | [],h=>by simp [fV] at h
 | j::r,h=>by
  simp only [fV,Bool.or_eq_true] at h
  rcases h with h | h
  ·rw [Nat.eq_of_beq_eq_true h]; simp
  ·exact List.mem_cons_of_mem _ (kz h)
theorem er {i:Nat}:∀{l:List Nat},fV i l=false→i ∉ l
 | [],_=>by simp
 | j::r,h=>by
  simp only [fV,Bool.or_eq_false_iff] at h
  have h2:=er h.2
  intro hm
  rcases List.mem_cons.1 hm with rfl | hm
  ·have:=h.1
   simp [Nat.beq_refl] at this
  ·exact h2 hm
theorem cQ {γ:Nat→ao}:∀{ids:List Nat} (j:Nat),aw γ (dU ids) j=if j∈ids then .dead else γ j
 | [],j=>by simp [dU,aw]
 | i::r,j=>by
  simp only [dU,aw]
  by_cases e:j=i
  ·subst e; simp
  ·rw [ae _ _ e,cQ j]; simp [e]
theorem iQ {v:AV} {q:(sz:Nat)→List DV→List Nat→List Nat→Prop} {nl:Prop} (h:ni κ v q nl) :
  (v=.dv .aH∧nl) ∨ ∃(sz:Nat) (ys:List DV) (rd kill:List Nat),q sz ys rd kill∧(∀j,j∈rd→∃v e d,κ j=.tree v e d)∧(∀j,j∈kill→j∈rd) ∧
   ∀κ' G w x,(∀i,i∈rd→κ' i=κ i)→Fit G w κ'→aE G v x→∃hs,Src G.M w x sz ys hs∧∀b,aP hs (.ay sz ys) b→∃j,j∈kill∧bI G j (κ' j) b:=by
 unfold ni at h
 split at h
 ·rename_i sz l
  refine .inr ⟨sz,l,[],[],h,by simp,by simp,fun κ' G w x _ hf hv=>⟨fun _=>none,?_,?_⟩⟩
  ·cases hv with | dv hv =>
   refine .closed ((oB.Tw hf.sub hv).mono rfl fun i x y hx hy=>?_) rfl
   rw [hx] at hy; injection hy with hy; subst hy
   refine ⟨rfl,fun j d e u hd he DI hS=>?_⟩
   rw [hd] at he; injection he with he; subst he
   exact ⟨DI,hS.dH,hS⟩
  ·rintro b ⟨_,_,_,_,_,q,_⟩; cases q
 ·exact .inl ⟨rfl,h⟩
 ·rename_i i ver ep p
  split at h
  ·rename_i aZ bF d dM
   cases hb:Nat.beq ver aZ && (emp p || Nat.beq ep bF) with
   | false=>rw [hb] at h; exact h.elim
   | true =>
    rw [hb] at h
    simp only [cond_true] at h
    obtain ⟨rfl,dj⟩:=dh hb
    obtain ⟨nd,h,c6⟩:=bB h
    have c6:=c6 rfl
    cases nd with
    | ay sz l =>
     have TA:∀{G:Gh} {κ':Nat→ao} {w:World} {x:Value},κ' i=κ i→Fit G w κ'→aE G (.own i ver ep p) x→aB G.H i ver bF p=some x:=by
      intro G κ' w x he hf hv
      cases hv with | own _ _ _ _ _ hh hc=>rw [←cK dj]; exact hh
     rcases h with ⟨j9,h⟩ | ⟨rfl,hq⟩
     ·refine .inr ⟨sz,l,[i],[],h,by simp [dM],by simp,fun κ' G w x au hf hv=>⟨fun _=>none,?_,?_⟩⟩
      ·have he:=au i (by simp)
       have hx:=TA he hf hv
       obtain ⟨u,h1,h2,h3⟩:=hf.node (he.trans dM) c6 rfl
       rw [hx] at h1; injection h1 with h1; subst h1
       refine .closed ?_ rfl
       have h4:oA w x sz l fun i j d u=>d.af=false∧bj G.M d u:=by
        rcases jQ.1 h3 with h3 | ⟨g,o,cap,c,t,a1,a2,a3,a4,a5⟩
        ·exact .inl h3
        ·refine .inr ⟨g,o,cap,c,t,a1,a2,a3,a4,fun i y hy=>⟨(a5 i y hy).1,fun j d hd=>?_⟩⟩
         obtain ⟨b1,u,b2,b3⟩:=(a5 i y hy).2 j d hd
         have DI:=j9 y (List.mem_of_getElem? hy) d (List.mem_of_getElem? hd)
         refine ⟨b1,u,b2,DI,?_⟩
         rcases b3 with ⟨c1,_⟩ | ⟨_,c2⟩
         ·rw [DI] at c1; cases c1
         ·exact c2
       exact oB.LR h4 fun i j d u hr hc=>hr.2.cJ hc
      ·rintro b ⟨_,_,_,_,_,q,_⟩; cases q
     ·refine .inr ⟨sz,l,[i],[i],hq,by simp [dM],by simp,fun κ' G w x au hf hv=>?_⟩
      have he:=au i (by simp)
      have hx:=TA he hf hv
      have dJ:=hf.box i
      rw [he,dM] at dJ
      simp [get] at c6
      subst c6
      refine ⟨aB G.H i ver bF,.tree dJ.1 dJ.2.1 hx,fun b hb=>⟨i,by simp,?_⟩⟩
      rw [he,dM]; exact hb
    | _=>exact h.elim
  ·exact h.elim
 ·rename_i i ver ep p sz lo m
  split at h
  ·rename_i aZ bF d dM
   cases hb:Nat.beq ver aZ && (emp p || Nat.beq ep bF) with
   | false=>rw [hb] at h; exact h.elim
   | true =>
    rw [hb] at h
    simp only [cond_true] at h
    obtain ⟨rfl,dj⟩:=dh hb
    obtain ⟨nd,h,c6⟩:=bB h
    have c6:=c6 rfl
    cases nd with
    | ay o7 l =>
     simp only at h
     cases hz:Nat.beq sz o7 with
     | false=>rw [hz] at h; exact h.elim
     | true =>
     rw [hz] at h
     have:=Nat.eq_of_beq_eq_true hz
     subst this
     obtain ⟨hlen,j9,h⟩:=h
     refine .inr ⟨sz,(l.drop lo).take m,[i],[],h,by simp [dM],by simp,fun κ' G w x au hf hv=>⟨fun _=>none,?_,?_⟩⟩
     ·have he:=au i (by simp)
      obtain ⟨u,h1,h2,h3⟩:=hf.node (he.trans dM) c6 rfl
      have QA:((l.drop lo).take m).length=m:=by simp; omega
      refine .closed ?_ rfl
      cases hv with | pre _ _ _ _ _ _ _ q cp hh =>
      by_cases hm:m=0
      ·subst hm
       cases q with
       | none=>exact .inl ⟨cp,rfl,by simp⟩
       | some A=>exact .inr ⟨A,cp,fun _ _=>undef,by simp,fun i x hx=>by simp at hx⟩
      ·obtain ⟨A,N,c',gE,rfl⟩:=hh hm
       rw [cK dj,h1] at gE
       injection gE with gE
       rcases jQ.1 h3 with ⟨rfl,_⟩ | ⟨g,o,cap,c,t,rfl,a2,a3,a4,a5⟩
       ·simp at hlen; omega
       injection gE with hA _ _
       injection hA with hA
       subst hA
       refine .inr ⟨_,cp,fun a b=>c.getD (o+(lo+a) * sz+b) undef,by rw [QA],fun a y hy=>?_⟩
       have Xj:l[lo+a]?=some y:=by
        rw [List.getElem?_take] at hy
        split at hy
        ·rwa [List.getElem?_drop] at hy
        ·cases hy
       obtain ⟨b1,b2⟩:=a5 _ y Xj
       refine ⟨b1,fun j d hd=>?_⟩
       obtain ⟨d1,u,d2,d3⟩:=b2 j d hd
       have e:c.getD (o+(lo+a) * sz+j) undef=u:=by rw [Array.getD_eq_getD_getElem?,d2]; rfl
       have DI:=j9 y (List.mem_of_getElem? Xj) d (List.mem_of_getElem? hd)
       have hr:bj G.M d u:=by
        rcases d3 with ⟨c1,_⟩ | ⟨_,c2⟩
        ·rw [DI] at c1; cases c1
        ·exact c2
       refine ⟨d1,?_,?_,DI,?_⟩
       ·rw [cy,cE]
        simp only [World.cell?,a3]
        rw [show o+(lo * sz+(a * sz+j))=o+(lo+a) * sz+j by rw [Nat.add_mul]; omega,e]
        simpa using d2
       ·show (c.getD (o+(lo+a) * sz+j) undef).oneCell'=true
        rw [e]; exact hr.cJ d1
       ·show bj G.M d (c.getD (o+(lo+a) * sz+j) undef)
        rw [e]; exact hr
     ·rintro b ⟨_,_,_,_,_,q,_⟩; cases q
    | _=>exact h.elim
  ·exact h.elim
 ·exact h.elim
theorem dL {c:Call} {s x:Operand} {t:Nat} {a:Act} {w w':World} {v':Value} (ho:o.op=.call c) (hc:c.callee=.builtin .append) (ha:c.args.toList=[s,x]) (je:c.argTypes.toList=[t,t])
  (h:(Builtin.append_ #[t,t] o.type #[a.eval s,a.eval x]).run P w=.ok v' w'):(execOp a.eval o).run P w=.ok (.value v') w':=by
 have bM:c.args=#[s,x]:=Array.ext' (by simpa using ha)
 have FC:c.argTypes=#[t,t]:=Array.ext' (by simpa using je)
 simp [execOp,ho,resolve,hc,bM,FC,invoke,builtin,h]
theorem bX.append (hT:ed P T) {t ty:TypeId} (bJ:(nth T t).ok=true) (iI:(nth T t).isSl=true) (fS:(nth T (nth T t).elem).ok=true) (eT:0<(nth T (nth T t).elem).size)
  {g:dw} {κ' κ2:Nat→ao} {a:Act} {w:World} {G:Gh} (aj:bX g n ρ κ' a w G) {i aZ:Nat} {l ys zs:List DV} {kill:List Nat} {h hs:List PS→Option Value} {v x:Value}
  (ht:aU G.M w h (.ay (nth T (nth T t).elem).size l)) (hi:fc h (.ay (nth T (nth T t).elem).size l)) (hv:h []=some v)
  (hk:(κ' i=.none∧aZ=0∧∀b,¬ aP h (.ay (nth T (nth T t).elem).size l) b) ∨ ∃ver ep,κ' i=.tree ver ep (.ay (nth T (nth T t).elem).size l)∧aZ=ver+1∧h=aB G.H i ver ep)
  (gF:Src G.M w x (nth T (nth T t).elem).size ys hs) (FG:∀b,aP hs (.ay (nth T (nth T t).elem).size ys) b→∃j,j∈kill∧bI G j (κ' j) b) (yI:i ∉ kill) (hle:dX ys zs)
  (FE:l.length+zs.length≤9223372036854775807) (yJ:(l.length+zs.length) * (nth T (nth T t).elem).bytes≤140737488355328)
  (h1:κ2 i=.tree aZ 0 (.ay (nth T (nth T t).elem).size (l++zs))) (h2:∀j,j∈kill→κ2 j=.dead) (h3:∀j,j ≠ i→j ∉ kill→κ2 j=κ' j) :
  ∃v' w' G',(Builtin.append_ #[t,t] ty #[v,x]).run P w=.ok v' w'∧bX g n ρ κ2 a w' G'∧aE G' (.own i aZ 0 []) v':=by
 have FH:∀b,aP h (.ay (nth T (nth T t).elem).size l) b→bI G i (κ' i) b:=fun b hb=>by
  rcases hk with ⟨_,_,h0⟩ | ⟨ver,ep,dM,_,rfl⟩
  ·exact absurd hb (h0 b)
  ·rw [dM]; exact hb
 obtain ⟨v',w',bc,kW,qb,t1,t2,t3⟩:=Dm (P:=P) (ty:=ty) hT bJ iI fS eT ht hi hv gF
  (fun b hb cO=>by obtain ⟨j,hj,ho⟩:=FG b cO; exact yI (aj.fit.inj i j b (FH b hb) ho ▸ hj))
  (fun b hb=>by obtain ⟨j,_,ho⟩:=FG b hb; exact ho.lt aj.fit) hle FE yJ
 have TB:∀b,fh v=some b→aP h (.ay (nth T (nth T t).elem).size l) b:=fun b hb=>⟨[],_,v,rfl,rfl,hv,hb⟩
 obtain ⟨G',g1,g2,_,g4,_,_,g7⟩:=aj.jW (κ':=κ2) (i:=i) (ver:=aZ) (ep:=0) (d:=.ay (nth T (nth T t).elem).size (l++zs)) (fun j=>j∈kill) (q9 l.length v' h hs) yI
  (by
   rcases hk with ⟨dM,_,_⟩ | ⟨ver,ep,dM,rfl,_⟩
   ·exact .inl dM
   ·exact .inr ⟨ver,ep,_,dM,by omega,by omega⟩)
  h2 h1 h3
  (fun p y hy=>by
   have hb:=aj.fit.box i
   rcases hk with ⟨dM,rfl,_⟩ | ⟨ver,ep,dM,rfl,_⟩
   ·rw [dM] at hb; cases p <;> simp [aB,hb.2] at hy
   ·rw [dM] at hb; cases p <;> simp [aB,hb.2.2.1 (ver+1) (by omega)] at hy)
  t1 t2
  (fun b hb=>by
   rcases t3 b hb with h5 | h5 | h5
   ·exact .inr (.inl (FH b h5))
   ·exact .inr (.inr (FG b h5))
   ·exact .inl h5)
  (fun b hb dm _=>kW.block b hb fun e=>dm (FH b (TB b e.symm)))
  (fun b hb=>by
   rcases hb with h5 | ⟨j,_,h5⟩
   ·exact aj.fit.own i b h5
   ·exact aj.fit.own j b h5)
  kW.size kW.os kW.tape kW.output
 exact ⟨v',w',G',bc,g7,.own _ _ _ _ _ ((g4 []).trans rfl) qb⟩
theorem Hs (hT:ed P T) {t:Nat} {s x:Operand} {c:Call} {sv xv:AV} (hg:bK ρ ops o.guard=some gd) (ho:o.op=.call c) (hc:c.callee=.builtin .append) (ha:c.args.toList=[s,x]) (je:c.argTypes.toList=[t,t])
  (hn:∀i,nx≤i→κ i=.none) (h:lH T n o nx κ k t sv xv) (tV:bo ρ κ gd s sv) (hex:bo ρ κ gd x xv):Good P C ops n o nx ρ κ k:=by
 have c6:∀c',o.op ≠ .defer c':=fun c'=>by rw [ho]; simp
 have bM:c.args=#[s,x]:=Array.ext' (by simpa using ha)
 have ms:s∈o.op.operands:=by rw [ho]; simp [Op.operands,Call.operands,hc,bM]
 have mx:x∈o.op.operands:=by rw [ho]; simp [Op.operands,Call.operands,hc,bM]
 unfold lH at h
 simp only at h
 cases jd:(nth T t).ok && (nth T t).isSl && (nth T (nth T t).elem).ok && Nat.blt 0 (nth T (nth T t).elem).size with
 | false=>rw [jd] at h; exact h.elim
 | true =>
 rw [jd] at h
 simp only [cond_true] at h
 simp only [Bool.and_eq_true,Nat.blt_eq] at jd
 obtain ⟨⟨⟨bJ,iI⟩,fS⟩,eT⟩:=jd
 have Dp:∀j,(∃v e d,κ j=.tree v e d)→j<nx:=fun j ⟨v,e,d,hj⟩=>by
  rcases Nat.lt_or_ge j nx with h | h
  ·exact h
  ·rw [hn j h] at hj; cases hj
 have FI:∀{kill:List Nat} {dD:Nat},(∀j,j∈kill→∃v e d,κ j=.tree v e d)→nx≤dD→∀p,p∈dU kill→p.1<dD:=by
  intro kill dD hk hle p hp
  have:p.1∈kill:=by
   clear hk
   induction kill with
   | nil=>simp [dU] at hp
   | cons i r ih=>simp only [dU] at hp; rcases List.mem_cons.1 hp with rfl | hp; exact List.mem_cons_self; exact List.mem_cons_of_mem _ (ih hp)
  have:=Dp _ (hk _ this); omega
 have nothing:∀{v:Value} {w:World},((∃l ob gb cap,v=.slice (some ⟨gb,ob,none⟩) l cap∧l≤cap) ∨ v=.slice none 0 0)→(Builtin.append_ #[t,t] o.type #[v,.slice none 0 0]).run P w=.ok v w:=by
  intro v w hv
  obtain ⟨i,u,z,tf⟩:=hT.facts bJ
  obtain ⟨te,ue,ze,iy⟩:=hT.facts fS
  rcases hv with ⟨l,ob,gb,cap,rfl,ei⟩ | rfl
  ·simp [Builtin.append_,run_underlying (tf.slice iI),sizeOf,typeInfo,iy.info,Builtin.lenOf,Builtin.firstCells,ei,storeCells]
  ·simp [Builtin.append_,run_underlying (tf.slice iI),sizeOf,typeInfo,iy.info,Builtin.lenOf,Builtin.firstCells]
 split at h
 ·-- a nil slice
  rcases iQ h with ⟨rfl,hk⟩ | ⟨sz,ys,rd,kill,hk,I6,Mi,gF⟩
  ·refine cR c6 hg hk (Nat.le_refl _) (by simp) fun ρ' κ' au g a w G dg aj aM=>?_
   have hv:=tV ρ' κ' (au.op ms) g n a w G aj aM
   have eK:=hex ρ' κ' (au.op mx) g n a w G aj aM
   generalize hx:a.eval s=v at hv
   generalize hi:a.eval x=vi at eK
   cases hv with | dv hv=>cases hv with | aH=>cases eK with | dv eK=>cases eK with | aH =>
   refine ⟨_,w,G,.inl (dL ho hc ha je (by rw [hx,hi]; exact nothing (.inr rfl))),aj,.dv .aH⟩
  ·cases aT:Nat.beq sz (nth T (nth T t).elem).size with
   | false=>rw [aT] at hk; exact hk.elim
   | true =>
   rw [aT] at hk
   have:=Nat.eq_of_beq_eq_true aT
   subst this
   obtain ⟨zs,hle,yJ,FE,hk⟩:=hk
   refine cR c6 hg hk (by omega) (fun p hp=>?_) fun ρ' κ' au g a w G dg aj aM=>?_
   ·rcases List.mem_cons.1 hp with rfl | hp
    ·simp
    ·exact FI (fun j hj=>I6 j (Mi j hj)) (by omega) p hp
   ·have fy:κ' nx=.none:=(au.reads nx (by simp)).trans (hn nx (Nat.le_refl _))
    have hv:=tV ρ' κ' (au.op ms) g n a w G aj aM
    have eK:=hex ρ' κ' (au.op mx) g n a w G aj aM
    obtain ⟨hs,I7,TC⟩:=gF κ' G w _ (fun i hi=>au.reads i (by simp [hi])) aj.fit eK
    have JO:nx ∉ kill:=fun hm=>by have:=Dp nx (I6 nx (Mi nx hm)); omega
    generalize hx:a.eval s=v at hv
    cases hv with | dv hv=>cases hv with | aH =>
    obtain ⟨v',w',G',r1,r2,r3⟩:=aj.append (κ2:=aw κ' ((nx,.tree 0 0 (.ay (nth T (nth T t).elem).size zs))::dU kill)) (ty:=o.type) (i:=nx) (aZ:=0) (l:=[]) hT bJ iI fS eT (uJ _ _ _) (zo _) rfl (.inl ⟨fy,rfl,fun b hb=>iR hb⟩) I7 TC JO hle (by simpa using FE) (by simpa using yJ)
     (by simp [aw]) (fun j hj=>by simp only [aw]; rw [ae _ _ (by rintro rfl; exact JO hj),cQ,if_pos hj]) (fun j h1 h2=>by simp only [aw]; rw [ae _ _ h1,cQ,if_neg h2])
    exact ⟨v',w',G',.inl (dL ho hc ha je (by rw [hx]; exact r1)),r2,r3⟩
 ·-- a slice Y3 Y4 XE array
  rename_i i ver ep p
  split at h
  ·rename_i aZ bF d dM
   cases hb:Nat.beq ver aZ && (emp p || Nat.beq ep bF) with
   | false=>rw [hb] at h; exact h.elim
   | true =>
   rw [hb] at h
   simp only [cond_true] at h
   obtain ⟨rfl,dj⟩:=dh hb
   obtain ⟨nd,h,Bq⟩:=bB h
   have vR:=Bq rfl
   have ry:i<nx:=Dp i ⟨_,_,_,dM⟩
   cases nd with
   | ay sz l =>
    simp only at h
    cases aT:Nat.beq sz (nth T (nth T t).elem).size with
    | false=>rw [aT] at h; exact h.elim
    | true =>
    rw [aT] at h
    simp only [cond_true] at h
    have:=Nat.eq_of_beq_eq_true aT
    subst this
    have N7:∀{g:dw} {a:Act} {G:Gh} {κ':Nat→ao} {w:World},aE G (.own i ver ep p) (a.eval s)→aB G.H i ver bF p=some (a.eval s):=by
     intro g a G κ' w hv
     generalize a.eval s=v at hv ⊢
     cases hv with | own _ _ _ _ _ hh iA=>rw [←cK dj]; exact hh
    rcases iQ h with ⟨rfl,hk⟩ | ⟨o7,ys,rd,kill,hk,I6,Mi,gF⟩
    ·-- nothing comes in
     have node:∀{G:Gh} {w:World} {κ':Nat→ao},κ' i=κ i→Fit G w κ'→∀{v:Value},aB G.H i ver bF p=some v→((∃l ob gb cap,v=.slice (some ⟨gb,ob,none⟩) l cap∧l≤cap) ∨ v=.slice none 0 0):=by
      intro G w κ' he hf v hv
      obtain ⟨u,h1,_,h3⟩:=hf.node (he.trans dM) vR rfl
      rw [hv] at h1; injection h1 with h1; subst h1
      rcases h3 with ⟨_,rfl⟩ | ⟨gb,ob,cap,c,t,rfl,ei,_⟩
      ·exact .inr rfl
      ·exact .inl ⟨_,_,_,_,rfl,ei⟩
     cases p with
     | nil =>
      simp [get] at vR
      subst vR
      refine cR c6 hg hk (Nat.le_refl _) (by simpa using ry) fun ρ' κ' au g a w G dg aj aM=>?_
      have he:=au.reads i (by simp)
      have hv:=tV ρ' κ' (au.op ms) g n a w G aj aM
      have eK:=hex ρ' κ' (au.op mx) g n a w G aj aM
      have hx:=N7 (g:=g) (κ':=κ') (w:=w) hv
      generalize hi:a.eval x=vi at eK
      cases eK with | dv eK=>cases eK with | aH =>
      have dJ:=aj.fit.box i
      rw [he,dM] at dJ
      obtain ⟨G',g1,g2,_,g4,_,_,g7⟩:=aj.jW (κ':=aw κ' [(i,.tree (ver+1) 0 (.ay (nth T (nth T t).elem).size l))]) (w':=w) (i:=i) (ver:=ver+1) (ep:=0) (d:=.ay (nth T (nth T t).elem).size l) (fun _=>False) (aB G.H i ver bF) (fun h=>h.elim) (.inr ⟨ver,bF,_,he.trans dM,by omega,by omega⟩) (fun _ h=>h.elim) (by simp [aw]) (fun j hj _=>by simp [aw,ae _ _ hj])
       (fun q y hy=>by cases q <;> simp [aB,dJ.2.2.1 (ver+1) (by omega)] at hy) dJ.1 dJ.2.1 (fun b hb=>.inr (.inl (by rw [he,dM]; exact hb))) (fun _ _ _ _=>rfl) (fun b hb=>by
        rcases hb with h5 | ⟨_,h5,_⟩
        ·exact aj.fit.own i b h5
        ·exact h5.elim) (Nat.le_refl _) rfl rfl rfl
      have qb:(a.eval s).oneCell'=true:=by rcases node he aj.fit hx with ⟨_,_,_,_,e,_⟩ | e <;> rw [e] <;> rfl
      exact ⟨a.eval s,w,G',.inl (dL ho hc ha je (by rw [hi]; exact nothing (node he aj.fit hx))),g7,.own _ _ _ _ _ ((g4 []).trans hx) qb⟩
     | cons ps pr =>
      obtain ⟨hk,_⟩:=eo hk
      refine cR c6 hg hk (by omega) (fun q hq=>by
       rcases List.mem_cons.1 hq with rfl | hq
       ·simp
       ·simp at hq; subst hq; simp; omega) fun ρ' κ' au g a w G dg aj aM=>?_
      have he:=au.reads i (by simp)
      have fy:κ' nx=.none:=(au.reads nx (by simp)).trans (hn nx (Nat.le_refl _))
      have hv:=tV ρ' κ' (au.op ms) g n a w G aj aM
      have eK:=hex ρ' κ' (au.op mx) g n a w G aj aM
      have hx:=N7 (g:=g) (κ':=κ') (w:=w) hv
      generalize hi:a.eval x=vi at eK
      cases eK with | dv eK=>cases eK with | aH =>
      obtain ⟨G',g1,g2,_,g4,g7⟩:=aj.split (κ':=aw κ' [(nx,.tree 0 0 (.ay (nth T (nth T t).elem).size l)),(i,.tree ver (bF+1) (bN d (ps::pr) .any))]) (i:=i) (nx:=nx) (he.trans dM) fy vR rfl (by simp) (by simp only [aw]; rw [ae _ _ (by omega)]; simp) (by simp [aw]) (fun j h1 h2=>by simp only [aw]; rw [ae _ _ h2,ae _ _ h1])
      have qb:(a.eval s).oneCell'=true:=by rcases node he aj.fit hx with ⟨_,_,_,_,e,_⟩ | e <;> rw [e] <;> rfl
      refine ⟨a.eval s,w,G',.inl (dL ho hc ha je (by rw [hi]; exact nothing (node he aj.fit hx))),g7,.own _ _ _ _ _ ((g4 []).trans ?_) qb⟩
      rw [List.append_nil]; exact hx
    ·cases cw:Nat.beq o7 (nth T (nth T t).elem).size && !fV i rd with
     | false=>rw [cw] at hk; exact hk.elim
     | true =>
     rw [cw] at hk
     simp only [cond_true] at hk
     simp only [Bool.and_eq_true,Bool.not_eq_true'] at cw
     have:=Nat.eq_of_beq_eq_true cw.1
     subst this
     have TD:=er cw.2
     have yI:i ∉ kill:=fun hm=>TD (Mi i hm)
     obtain ⟨zs,hle,yJ,FE,hk⟩:=hk
     cases p with
     | nil =>
      simp [get] at vR
      subst vR
      refine cR c6 hg hk (Nat.le_refl _) (fun q hq=>by
       rcases List.mem_cons.1 hq with rfl | hq
       ·exact ry
       ·exact FI (fun j hj=>I6 j (Mi j hj)) (Nat.le_refl _) q hq) fun ρ' κ' au g a w G dg aj aM=>?_
      have he:=au.reads i (by simp)
      have hv:=tV ρ' κ' (au.op ms) g n a w G aj aM
      have eK:=hex ρ' κ' (au.op mx) g n a w G aj aM
      have hx:=N7 (g:=g) (κ':=κ') (w:=w) hv
      obtain ⟨hs,I7,TC⟩:=gF κ' G w _ (fun i hi=>au.reads i (by simp [hi])) aj.fit eK
      have dJ:=aj.fit.box i
      rw [he,dM] at dJ
      obtain ⟨v',w',G',r1,r2,r3⟩:=aj.append (κ2:=aw κ' ((i,.tree (ver+1) 0 (.ay (nth T (nth T t).elem).size (l++zs)))::dU kill)) (ty:=o.type) (i:=i) (aZ:=ver+1) hT bJ iI fS eT dJ.1 dJ.2.1 hx (.inr ⟨ver,bF,he.trans dM,rfl,rfl⟩) I7 TC yI hle FE yJ
       (by simp [aw]) (fun j hj=>by simp only [aw]; rw [ae _ _ (by rintro rfl; exact yI hj),cQ,if_pos hj]) (fun j h1 h2=>by simp only [aw]; rw [ae _ _ h1,cQ,if_neg h2])
      exact ⟨v',w',G',.inl (dL ho hc ha je r1),r2,r3⟩
     | cons ps pr =>
      obtain ⟨hk,_⟩:=eo hk
      refine cR c6 hg hk (by omega) (fun q hq=>by
       rcases List.mem_cons.1 hq with rfl | hq
       ·simp
       ·rcases List.mem_cons.1 hq with rfl | hq
        ·show i<nx+1; omega
        ·exact FI (fun j hj=>I6 j (Mi j hj)) (by omega) q hq) fun ρ' κ' au g a w G dg aj aM=>?_
      have he:=au.reads i (by simp)
      have fy:κ' nx=.none:=(au.reads nx (by simp)).trans (hn nx (Nat.le_refl _))
      have hv:=tV ρ' κ' (au.op ms) g n a w G aj aM
      have eK:=hex ρ' κ' (au.op mx) g n a w G aj aM
      have hx:=N7 (g:=g) (κ':=κ') (w:=w) hv
      have JO:nx ∉ kill:=fun hm=>by have:=Dp nx (I6 nx (Mi nx hm)); omega
      have We:nx ∉ rd:=fun hm=>by have:=Dp nx (I6 nx hm); omega
      obtain ⟨G1,g1,g2,_,g4,g7⟩:=aj.split (κ':=aw κ' [(nx,.tree 0 0 (.ay (nth T (nth T t).elem).size l)),(i,.tree ver (bF+1) (bN d (ps::pr) .any))]) (i:=i) (nx:=nx) (he.trans dM) fy vR rfl (by simp) (by simp only [aw]; rw [ae _ _ (by omega)]; simp) (by simp [aw]) (fun j h1 h2=>by simp only [aw]; rw [ae _ _ h2,ae _ _ h1])
      obtain ⟨hs,I7,TC⟩:=gF (aw κ' [(nx,.tree 0 0 (.ay (nth T (nth T t).elem).size l)),(i,.tree ver (bF+1) (bN d (ps::pr) .any))]) G1 w _ (fun j hj=>by simp only [aw]; rw [ae _ _ (by rintro rfl; exact We hj),ae _ _ (by rintro rfl; exact TD hj)]; exact au.reads j (by simp [hj])) g7.fit (eK.mono g1)
      have dJ:=g7.fit.box nx
      have ov:aw κ' [(nx,.tree 0 0 (.ay (nth T (nth T t).elem).size l)),(i,.tree ver (bF+1) (bN d (ps::pr) .any))] nx=.tree 0 0 (.ay (nth T (nth T t).elem).size l):=by simp [aw]
      rw [ov] at dJ
      obtain ⟨v',w',G',r1,r2,r3⟩:=g7.append (κ2:=aw κ' ((nx,.tree 1 0 (.ay (nth T (nth T t).elem).size (l++zs)))::(i,.tree ver (bF+1) (bN d (ps::pr) .any))::dU kill)) (ty:=o.type) (i:=nx) (aZ:=1) hT bJ iI fS eT dJ.1 dJ.2.1 (v:=a.eval s) (by rw [g4 [],List.append_nil]; exact hx) (.inr ⟨0,0,ov,rfl,rfl⟩) I7 TC JO hle FE yJ
       (by simp [aw]) (fun j hj=>by simp only [aw]; rw [ae _ _ (by rintro rfl; exact JO hj),ae _ _ (by rintro rfl; exact yI hj),cQ,if_pos hj]) (fun j h1 h2=>by
        simp only [aw]
        rw [ae _ _ h1,ae _ _ h1]
        by_cases e:j=i
        ·subst e; simp
        ·rw [ae _ _ e,ae _ _ e,cQ,if_neg h2])
      exact ⟨v',w',G',.inl (dL ho hc ha je r1),r2,r3⟩
   | _=>exact h.elim
  ·exact h.elim
 ·exact h.elim
end
end Go.TM
namespace Go.TM
open Go.RowKit
variable [cu]
structure RD (G:Gh) (w:World) (κ:Nat→ao) (ids:List Nat) (ds:List DV) (us:List Value) (hs:Nat→List PS→Option Value) (id:Nat→Nat):Prop where
 len:ds.length=us.length
 cell:∀(j:Nat) (d:DV) (u:Value),ds[j]?=some d→us[j]?=some u→(d.af=false∧bj G.M d u) ∨
  (d.af=true∧id j∈ids∧aU G.M w (hs j) d∧fc (hs j) d∧hs j []=some u∧∀b,aP (hs j) d b→bI G (id j) (κ (id j)) b)
 ne:∀(j j':Nat) (d d':DV),ds[j]?=some d→ds[j']?=some d'→d.af=true→d'.af=true→id j=id j'→j=j'
theorem sX {i:Nat} {r:List Nat} (h:eG (i::r)=true):i ∉ r∧eG r=true:=by
 simp only [eG,Bool.and_eq_true,Bool.not_eq_true'] at h
 exact ⟨er h.1,h.2⟩
theorem FJ {κ κ':Nat→ao} {G:Gh} {w:World} {v:AV} {d:DV} {ids:List Nat} (h:MW κ v=some (d,ids)) (au:∀i,i∈ids→κ' i=κ i) (hf:Fit G w κ') {u:Value} (hv:aE G v u) :
  (ids=[]∧d.af=false∧bj G.M d u) ∨ ∃i ver ep,ids=[i]∧κ' i=.tree ver ep d∧d.af=true∧aB G.H i ver ep []=some u:=by
 unfold MW at h
 split at h
 ·injection h with h; injection h with e1 e2; subst e1; subst e2
  cases hv with | dv hv=>exact .inl ⟨rfl,hv.dH,hv⟩
 ·rename_i i ver ep
  split at h
  ·rename_i aZ bF d' hk
   cases hb:Nat.beq ver aZ with
   | false=>rw [hb] at h; cases h
   | true =>
    rw [hb] at h
    have:=Nat.eq_of_beq_eq_true hb
    subst this
    simp only [cond_true,Option.some.injEq,Prod.mk.injEq] at h
    obtain ⟨rfl,rfl⟩:=h
    have dM:κ' i=.tree ver bF d':=(au i (by simp)).trans hk
    have dJ:=hf.box i
    rw [dM] at dJ
    cases hv with | own _ _ _ _ _ hh hc=>exact .inr ⟨i,ver,bF,rfl,dM,dJ.1.1,hh⟩
  ·cases h
 ·injection h with h; injection h with e1 e2; subst e1; subst e2
  cases hv with | fn _ _ vs hl hr =>
  have:vs=[]:=by simpa using hl.symm
  subst this
  exact .inl ⟨rfl,rfl,.fn _ [] [] rfl (by simp)⟩
 ·cases h
theorem IP {κ κ':Nat→ao} {G:Gh} {w:World} {v:AV} {d:DV} {ids:List Nat} (h:T6 κ v=some (d,ids)) (au:∀i,i∈ids→κ' i=κ i) (hf:Fit G w κ') {u:Value} (hv:aE G v u) :
  (ids=[]∧d.af=false∧bj G.M d u) ∨ ∃i ver ep,ids=[i]∧κ' i=.tree ver ep d∧d.af=true∧aB G.H i ver ep []=some u:=FJ (v:=dn v) h au hf (x8 hv)
theorem l8 {κ κ':Nat→ao} {G:Gh} {w:World} (hf:Fit G w κ'):∀{vs:List AV} {ds:List DV} {ids:List Nat} {us:List Value},qB κ vs=some (ds,ids)→eG ids=true→(∀i,i∈ids→κ' i=κ i)→bR G vs us→∃hs id,RD G w κ' ids ds us hs id
 | [],ds,ids,us,h,_,_,hr=>by
  simp [qB] at h
  obtain ⟨rfl,rfl⟩:=h
  have:us=[]:=by have:=hr.1; simpa using this.symm
  subst this
  exact ⟨fun _ _=>none,fun _=>0,rfl,by simp,by simp⟩
 | v::vs,ds,ids,us,h,c6,au,hr=>by
  simp only [qB] at h
  split at h
  ·rename_i d i l j h1 h2
   simp only [Option.some.injEq,Prod.mk.injEq] at h
   obtain ⟨rfl,rfl⟩:=h
   match us,hr with
   | [],hr=>have:=hr.1; simp at this
   | u::us,hr =>
    have pe:eG j=true∧∀q,q∈i→q ∉ j:=by
     clear h1 h2 hr au
     induction i with
     | nil=>exact ⟨c6,by simp⟩
     | cons q i ih =>
      obtain ⟨a1,a2⟩:=sX c6
      obtain ⟨b1,b2⟩:=ih a2
      refine ⟨b1,fun q' DH=>?_⟩
      rcases List.mem_cons.1 DH with rfl | DH
      ·exact fun hm=>a1 (List.mem_append.2 (.inr hm))
      ·exact b2 q' DH
    obtain ⟨hs,id,ek⟩:=l8 hf h2 pe.1 (fun q hq=>au q (List.mem_append.2 (.inr hq))) (us:=us) ⟨by simpa using hr.1,fun q e y he hy=>hr.2 (q+1) e y (by simpa using he) (by simpa using hy)⟩
    have h0:=IP h1 (fun q hq=>au q (List.mem_append.2 (.inl hq))) hf (hr.2 0 v u rfl rfl)
    rcases h0 with ⟨rfl,h3,h4⟩ | ⟨q,ver,ep,rfl,h3,h4,h5⟩
    ·refine ⟨fun n=>match n with | 0=>fun _=>none | n+1=>hs n,fun n=>match n with | 0=>0 | n+1=>id n,⟨by simp [ek.len],fun n e y he hy=>?_,fun n n' e e' he yV ho g9 heq=>?_⟩⟩
     ·cases n with
      | zero=>simp at he hy; subst he; subst hy; exact .inl ⟨h3,h4⟩
      | succ n=>simp at he hy; simpa using ek.cell n e y he hy
     ·cases n with
      | zero=>simp at he; subst he; rw [h3] at ho; cases ho
      | succ n =>
       cases n' with
       | zero=>simp at yV; subst yV; rw [h3] at g9; cases g9
       | succ n'=>simp at he yV; rw [ek.ne n n' e e' he yV ho g9 heq]
    ·have dJ:=hf.box q
     rw [h3] at dJ
     refine ⟨fun n=>match n with | 0=>aB G.H q ver ep | n+1=>hs n,fun n=>match n with | 0=>q | n+1=>id n,⟨by simp [ek.len],fun n e y he hy=>?_,fun n n' e e' he yV ho g9 heq=>?_⟩⟩
     ·cases n with
      | zero=>simp at he hy; subst he; subst hy; exact .inr ⟨h4,by simp,dJ.1,dJ.2.1,h5,fun b hb=>by rw [h3]; exact hb⟩
      | succ n =>
       simp at he hy
       rcases ek.cell n e y he hy with h6 | ⟨a1,a2,a3⟩
       ·exact .inl h6
       ·exact .inr ⟨a1,by simp [a2],a3⟩
     ·have inj:∀n e,l[n]?=some e→e.af=true→id n∈j:=by
       intro n e he ho
       have hn:n<us.length:=by rw [←ek.len]; exact (List.getElem?_eq_some_iff.1 he).1
       rcases ek.cell n e _ he (List.getElem?_eq_getElem hn) with ⟨a1,_⟩ | ⟨_,a2,_⟩
       ·rw [ho] at a1; cases a1
       ·exact a2
      cases n with
      | zero =>
       cases n' with
       | zero=>rfl
       | succ n'=>simp at yV heq; exact absurd (inj n' e' yV g9) (heq ▸ pe.2 q (by simp))
      | succ n =>
       cases n' with
       | zero=>simp at he heq; exact absurd (inj n e he ho) (heq ▸ pe.2 q (by simp))
       | succ n'=>simp at he yV; rw [ek.ne n n' e e' he yV ho g9 heq]
  ·cases h
theorem RD.le {G:Gh} {w:World} {κ:Nat→ao} {ids:List Nat} {ds IF:List DV} {us:List Value} {hs:Nat→List PS→Option Value} {id:Nat→Nat} (h:RD G w κ ids ds us hs id) (hle:km ds IF) (h1:∀u,u∈us→u.oneCell'=true):RD G w κ ids IF us hs id∧∀d,d∈IF→d.ak=true:=by
 have key:∀(j:Nat) (d':DV) (u:Value),IF[j]?=some d'→us[j]?=some u→∃d,ds[j]?=some d∧((d.af=true∧d=d') ∨ (d.af=false∧bj G.M d' u)):=by
  intro j d' u jc hu
  have hj:j<ds.length:=by rw [hle.length]; exact (List.getElem?_eq_some_iff.1 jc).1
  refine ⟨ds[j],List.getElem?_eq_getElem hj,?_⟩
  rcases hle.at j _ d' (List.getElem?_eq_getElem hj) jc with h2 | ⟨h2,h3⟩
  ·exact .inl h2
  ·rcases h.cell j _ u (List.getElem?_eq_getElem hj) hu with ⟨_,h4⟩ | ⟨h4,_⟩
   ·exact .inr ⟨h2,h3 G.M u h4⟩
   ·rw [h2] at h4; cases h4
 have hlen:IF.length=us.length:=by rw [←hle.length]; exact h.len
 refine ⟨⟨hlen,fun j d' u jc hu=>?_,fun j j' d d' hd jc ho g9 heq=>?_⟩,fun d' jc=>?_⟩
 ·obtain ⟨d,hd,hc⟩:=key j d' u jc hu
  rcases hc with ⟨_,rfl⟩ | ⟨_,h3⟩
  ·exact h.cell j d u hd hu
  ·exact .inl ⟨h3.dH,h3⟩
 ·have q:∀(j:Nat) (d:DV),IF[j]?=some d→d.af=true→ds[j]?=some d:=by
   intro j d hd ho
   have hj:j<us.length:=by rw [←hlen]; exact (List.getElem?_eq_some_iff.1 hd).1
   obtain ⟨d0,h2,hc⟩:=key j d _ hd (List.getElem?_eq_getElem hj)
   rcases hc with ⟨_,rfl⟩ | ⟨_,h3⟩
   ·exact h2
   ·rw [h3.dH] at ho; cases ho
  exact h.ne j j' d d' (q j d hd ho) (q j' d' jc g9) ho g9 heq
 ·obtain ⟨j,hj⟩:=List.getElem?_of_mem jc
  have Dq:j<us.length:=by rw [←hlen]; exact (List.getElem?_eq_some_iff.1 hj).1
  obtain ⟨d,_,hc⟩:=key j d' _ hj (List.getElem?_eq_getElem Dq)
  rcases hc with ⟨h2,rfl⟩ | ⟨_,h3⟩
  ·exact eb h2
  ·exact h3.ak (h1 _ (List.getElem_mem Dq))
theorem tC {x:DV} {off:Nat} {ds:List DV} {K:DV→Prop} (h:yx x off ds K):∃y,K y∧((∀d,d∈ds→d.ak=true)→off+ds.length≤x.cells.length∧y.cells=lB x.cells off ds∧y.isAgg=x.isAgg):=by
 unfold yx at h
 split at h
 ·rename_i l
  cases hb:Nat.ble (off+ds.length) l.length with
  | false=>rw [hb] at h; exact h.elim
  | true=>rw [hb] at h; exact ⟨_,h,fun _=>⟨Nat.le_of_ble_eq_true hb,rfl,rfl⟩⟩
 ·rename_i bD
  split at h
  ·rename_i d
   refine ⟨d,h,fun hc=>?_⟩
   have hd:=hc d (by simp)
   refine ⟨?_,?_,?_⟩
   ·cases x <;> first | exact (bD _ rfl).elim | simp [DV.cells]
   ·cases d <;> cases x <;> first | exact (bD _ rfl).elim | (cases hd; done) | rfl
   ·cases d <;> cases x <;> first | exact (bD _ rfl).elim | (cases hd; done) | rfl
  ·exact h.elim
theorem l9 {l ds:List DV} {off j:Nat} (hle:off+ds.length≤l.length):(lB l off ds)[j]?=if off≤j∧j<off+ds.length then ds[j - off]? else l[j]?:=by
 unfold lB
 rw [List.append_assoc,List.getElem?_append]
 simp only [List.length_take]
 rw [show min off l.length=off by omega]
 by_cases h1:j<off
 ·rw [if_pos h1,if_neg (by omega),List.getElem?_take,if_pos h1]
 ·rw [if_neg h1,List.getElem?_append]
  by_cases h2:j - off<ds.length
  ·rw [if_pos h2,if_pos (by omega)]
  ·rw [if_neg h2,if_neg (by omega),List.getElem?_drop]
   congr 1; omega
theorem nN {l ds:List DV} {off:Nat} (hle:off+ds.length≤l.length):(lB l off ds).length=l.length:=by simp [lB]; omega
theorem w9 {l us:List Value} {off j:Nat} (hle:off+us.length≤l.length):(l.take off++us++l.drop (off+us.length))[j]?=if off≤j∧j<off+us.length then us[j - off]? else l[j]?:=by
 rw [List.append_assoc,List.getElem?_append]
 simp only [List.length_take]
 rw [show min off l.length=off by omega]
 by_cases h1:j<off
 ·rw [if_pos h1,if_neg (by omega),List.getElem?_take,if_pos h1]
 ·rw [if_neg h1,List.getElem?_append]
  by_cases h2:j - off<us.length
  ·rw [if_pos h2,if_pos (by omega)]
  ·rw [if_neg h2,if_neg (by omega),List.getElem?_drop]
   congr 1; omega
theorem Dr {sz idx off:Nat} {nd:DV} {ds:List DV} {K:List DV→DV→Prop} (h:Cd sz idx off nd ds K) :
  ∃xz C6,K xz C6∧nd.af=true∧((∀d,d∈ds→d.ak=true)→nd.af=true∧C6.af=true ∧
   (∀s c,step C6 s=some c→(∃j,s=.el idx j∧off≤j∧j<off+ds.length∧ds[j - off]?=some c) ∨ ((∀j,s=.el idx j→¬ (off≤j∧j<off+ds.length))∧step nd s=some c)) ∧
   (∀j c,step nd (.el idx j)=some c→off≤j→j<off+ds.length→c∈xz) ∧
   ∀(M:Mem) (w:World) (v:Value) (iA:PS→Option Value),bV M w v iA nd→∃g o c t,fh v=some g∧w.heap[g]?=some (.cells c t (0,0))∧o+ds.length≤c.size ∧
    (∀A,(v=.pointer (some A) ∨ ∃m q,v=.slice (some A) m q)→A.add (idx * sz+off)=⟨g,o,none⟩) ∧
    ∀(us:List Value) (mu:PS→Option Value) (w':World),us.length=ds.length→w'.heap[g]?=some (.cells (c.toList.take o++us++c.toList.drop (o+us.length)).toArray t (0,0)) →
     (∀s,(∀j,s=.el idx j→¬ (off≤j∧j<off+ds.length))→mu s=iA s)→(∀(j:Nat) (d:DV) (u:Value),ds[j]?=some d→us[j]?=some u→da M (mu (.el idx (off+j))) d u)→bV M w' v mu C6):=by
 unfold Cd at h
 split at h
 ·rename_i o7 l
  cases hb:Nat.beq sz o7 with
  | false=>rw [hb] at h; exact h.elim
  | true =>
   rw [hb] at h
   have:=Nat.eq_of_beq_eq_true hb
   subst this
   obtain ⟨x,hx,h⟩:=h
   obtain ⟨y,h,LY⟩:=tC h
   have K5:idx<l.length:=(List.getElem?_eq_some_iff.1 hx).1
   refine ⟨_,_,h,rfl,fun hc=>?_⟩
   obtain ⟨hle,hy,_⟩:=LY hc
   refine ⟨rfl,rfl,fun s c hs=>?_,fun j c hs h1 h2=>?_,fun M w v iA aY=>?_⟩
   ·cases s with
    | key=>simp [step] at hs
    | el i j =>
     simp only [step] at hs
     by_cases e:idx=i
     ·subst e
      rw [List.getElem?_set_self K5] at hs
      simp only [hy] at hs
      rw [l9 hle] at hs
      split at hs
      ·rename_i hr; exact .inl ⟨j,rfl,hr.1,hr.2,hs⟩
      ·rename_i hr
       refine .inr ⟨fun j' e'=>?_,by simp only [step,hx]; exact hs⟩
       injection e' with _ e'; subst e'; exact hr
     ·rw [List.getElem?_set_ne e] at hs
      refine .inr ⟨fun j' e'=>?_,hs⟩
      injection e' with e' _; exact absurd e'.symm e
   ·simp only [step,hx] at hs
    refine List.mem_of_getElem? (i:=j - off) ?_
    rw [List.getElem?_take,if_pos (by omega),List.getElem?_drop,show off+(j - off)=j by omega]
    exact hs
   ·rcases aY with ⟨rfl,_⟩ | ⟨g,o,cap,c,t,rfl,ei,hw,aT,ov⟩
    ·simp at hx
    ·obtain ⟨a1,a2⟩:=ov idx x hx
     have cB:o+idx * sz+off+ds.length≤c.size:=by
      have:(idx+1) * sz≤cap * sz:=Nat.mul_le_mul_right _ (by omega)
      rw [Nat.add_mul] at this
      omega
     refine ⟨g,o+idx * sz+off,c,t,rfl,hw,cB,fun A hA=>?_,fun us mu w' ph My mq iP=>?_⟩
     ·rcases hA with hA | ⟨_,_,hA⟩
      ·cases hA
      ·injection hA with hA; injection hA with hA; subst hA; rw [cE]; congr 1; omega
     ·refine .inr ⟨g,o,cap,_,t,by simp,by simpa using ei,My,by simp [ph]; omega,fun i z hz=>?_⟩
      have bm:∀q,(c.toList.take (o+idx * sz+off)++us++c.toList.drop (o+idx * sz+off+us.length)).toArray[q]?=if o+idx * sz+off≤q∧q<o+idx * sz+off+us.length then us[q - (o+idx * sz+off)]? else c[q]?:=fun q=>by
       rw [List.getElem?_toArray,w9 (by simp; omega)]
       simp
      by_cases e:idx=i
      ·subst e
       rw [List.getElem?_set_self K5] at hz
       injection hz with hz
       subst hz
       rw [hy,nN hle]
       refine ⟨a1,fun j d hd=>?_⟩
       rw [l9 hle] at hd
       split at hd
       ·rename_i hr
        have Dq:j - off<us.length:=by omega
        refine ⟨hc d (List.mem_of_getElem? hd),us[j - off],?_,?_⟩
        ·rw [bm,if_pos (by omega),show o+idx * sz+j - (o+idx * sz+off)=j - off by omega]; exact List.getElem?_eq_getElem Dq
        ·have:=iP (j - off) d _ hd (List.getElem?_eq_getElem Dq)
         rwa [show off+(j - off)=j by omega] at this
       ·rename_i hr
        obtain ⟨b1,u,b2,b3⟩:=a2 j d hd
        refine ⟨b1,u,by rw [bm,if_neg (by omega)]; exact b2,?_⟩
        rw [mq (.el idx j) (fun j' e'=>by injection e' with _ e'; subst e'; exact hr)]; exact b3
      ·rw [List.getElem?_set_ne e] at hz
       obtain ⟨b1,b2⟩:=ov i z hz
       refine ⟨b1,fun j d hd=>?_⟩
       obtain ⟨c1,u,c2,c3⟩:=b2 j d hd
       have hj:j<sz:=by rw [←b1]; exact (List.getElem?_eq_some_iff.1 hd).1
       refine ⟨c1,u,?_,?_⟩
       ·rw [bm,if_neg ?_]; exact c2
        rintro ⟨q1,q2⟩
        rw [ph] at q2
        have LQ:off+ds.length≤sz:=by rw [←a1]; exact hle
        rcases Nat.lt_or_ge i idx with aK | dk
        ·have:=Nat.mul_le_mul_right sz (show i+1≤idx from aK); rw [Nat.add_mul] at this; omega
        ·have:=Nat.mul_le_mul_right sz (show idx+1≤i by omega); rw [Nat.add_mul] at this; omega
       ·rw [mq (.el i j) (fun j' e'=>by injection e' with e' _; exact absurd e'.symm e)]; exact c3
 ·rename_i x
  cases hb:Nat.beq idx 0 with
  | false=>rw [hb] at h; exact h.elim
  | true =>
   rw [hb] at h
   have:=Nat.eq_of_beq_eq_true hb
   subst this
   simp only [cond_true] at h
   obtain ⟨y,h,LY⟩:=tC h
   refine ⟨_,_,h,rfl,fun hc=>?_⟩
   obtain ⟨hle,hy,_⟩:=LY hc
   refine ⟨rfl,rfl,fun s c hs=>?_,fun j c hs h1 h2=>?_,fun M w v iA aY=>?_⟩
   ·cases s with
    | key=>simp [step] at hs
    | el i j =>
     simp only [step] at hs
     cases oz:Nat.beq i 0 with
     | false=>rw [oz] at hs; cases hs
     | true =>
      rw [oz] at hs
      have:=Nat.eq_of_beq_eq_true oz
      subst this
      simp only [cond_true,hy] at hs
      rw [l9 hle] at hs
      split at hs
      ·rename_i hr; exact .inl ⟨j,rfl,hr.1,hr.2,hs⟩
      ·rename_i hr
       refine .inr ⟨fun j' e'=>?_,by simp [step]; exact hs⟩
       injection e' with _ e'; subst e'; exact hr
   ·simp [step] at hs
    refine List.mem_of_getElem? (i:=j - off) ?_
    rw [List.getElem?_take,if_pos (by omega),List.getElem?_drop,show off+(j - off)=j by omega]
    exact hs
   ·obtain ⟨g,c,t,rfl,hw,aT,ov⟩:=aY
    refine ⟨g,off,c,t,rfl,hw,by omega,fun A hA=>?_,fun us mu w' ph My mq iP=>?_⟩
    ·rcases hA with hA | ⟨_,_,hA⟩
     ·injection hA with hA; injection hA with hA; subst hA; rw [cE]; congr 1; omega
     ·cases hA
    ·refine ⟨g,_,t,rfl,My,by rw [hy,nN hle]; simp [ph]; omega,fun j d hd=>?_⟩
     have bm:∀q,(c.toList.take off++us++c.toList.drop (off+us.length)).toArray[q]?=if off≤q∧q<off+us.length then us[q - off]? else c[q]?:=fun q=>by
      rw [List.getElem?_toArray,w9 (by simp; omega)]
      simp
     rw [hy,l9 hle] at hd
     split at hd
     ·rename_i hr
      have Dq:j - off<us.length:=by omega
      refine ⟨hc d (List.mem_of_getElem? hd),us[j - off],by rw [bm,if_pos (by omega)]; exact List.getElem?_eq_getElem Dq,?_⟩
      have:=iP (j - off) d _ hd (List.getElem?_eq_getElem Dq)
      rwa [show off+(j - off)=j by omega] at this
     ·rename_i hr
      obtain ⟨b1,u,b2,b3⟩:=ov j d hd
      refine ⟨b1,u,by rw [bm,if_neg (by omega)]; exact b2,?_⟩
      rw [mq (.el 0 j) (fun j' e'=>by injection e' with _ e'; subst e'; exact hr)]; exact b3
 ·exact h.elim
end Go.TM
