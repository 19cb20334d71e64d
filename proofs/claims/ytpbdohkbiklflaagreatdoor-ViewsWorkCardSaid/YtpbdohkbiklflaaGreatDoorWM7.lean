import Derived.Test.YtpbdohkbiklflaaGreatDoorWM6
set_option linter.unusedVariables false
set_option linter.unusedSimpArgs false
set_option linter.unusedSectionVars false
namespace Go.TM
open Go.RowKit
variable [ct]
section
variable {g:dx} {n:Nat} {ρ:Nat→AV} {κ κ':Nat→ao} {a:Act} {w w':World} {G:Gh}
theorem bY.H6 (h:bY g n ρ κ a w G) {i b:Nat} {l l':List AV} {vs:Array Value} {t:TypeId} (hi:κ i=.cells l) (hb:G.β i=some b) (iR:κ' i=.cells l') (qd:∀j,j ≠ i→κ' j=κ j)
  (hw:w'.heap[b]?=some (.cells vs t (0,0))) (hl:bP G l' vs.toList) (hc:∀v,v∈l'→v.ak=true) (aT:w.heap.size≤w'.heap.size) (eb:∀k,k<w.heap.size→k ≠ b→w'.heap[k]?=w.heap[k]?)
  (Mi:w'.os=w.os) (Mj:w'.tape=w.tape) (gh:w'.output=w.output):bY g n ρ κ' a w' G:=by
 have gB:bG G i (κ i) b:=by rw [hi]; exact hb
 refine h.oK (C:=fun j=>j=i) ⟨Gh.Le.refl G,fun _ _=>rfl,qd,fun j _=>⟨fun _ q=>q,fun _ _ _ _ q=>q⟩,fun k hk dk=>⟨eb k hk fun e=>dk i rfl (by rw [e]; exact gB),rfl⟩,fun k o hk=>?_,?_,?_,fun j j' k e1 e2 _ _=>by rw [e1,e2],aT,Mi,Mj,gh⟩ (fun _ _=>rfl)
 ·have h1:=h.fit.sub k o hk
  rw [eb k (Array.getElem?_eq_some_iff.1 h1).1 fun e=>?_]
  ·exact h1
  ·rw [e] at hk; rw [h.fit.own i b gB] at hk; cases hk
 ·rintro j rfl
  rw [iR]
  exact ⟨b,vs,t,hb,hw,by have:=hl.1; simp at this; omega,hc,fun j d v hd hv=>hl.2 j d v hd (by simpa using hv)⟩
 ·rintro j k rfl ho
  rw [iR] at ho
  have:bG G j (κ j) k:=by rw [hi]; exact ho
  exact ⟨.inr ⟨j,rfl,this⟩,h.fit.own j k this⟩
theorem bY.qV (h:bY g n ρ κ a w G) {i:Nat} {d:DV} (D:Nat→Prop) (h':List PS→Option Value) (Yn:¬ D i) (hi:κ i=.none) (oZ:∀j,D j→κ' j=.dead) (iR:κ' i=.tree 0 0 d) (qd:∀j,j ≠ i→¬ D j→κ' j=κ j)
  (ht:aS G.M w' h' d) (dr:fc h' d) (gB:∀b,aN h' d b→w.heap.size≤b ∨ ∃j,D j∧bG G j (κ j) b) (eb:∀b,b<w.heap.size→(∀j,D j→¬ bG G j (κ j) b)→w'.heap[b]?=w.heap[b]?)
  (aT:w.heap.size≤w'.heap.size) (Mi:w'.os=w.os) (Mj:w'.tape=w.tape) (gh:w'.output=w.output) :
  ∃G',Gh.Le G G'∧G'.M=G.M∧(∀p,aA G'.H i 0 0 p=h' p)∧bY g n ρ κ' a w' G':=by
 have hb:=h.fit.box i
 rw [hi] at hb
 obtain ⟨G',h1,h2,_,h4,_,_,h7⟩:=h.jT (κ':=κ') (i:=i) (ver:=0) (ep:=0) (d:=d) D h' Yn (.inl hi) oZ iR qd (fun p x hx=>by cases p <;> simp [aA,hb.2] at hx) ht dr
  (fun b cM=>(gB b cM).imp id fun h=>.inr h) (fun b cM _ hD=>eb b cM hD) (fun b cM=>by
   rcases cM with h1 | ⟨j,_,h1⟩
   ·rw [hi] at h1; exact h1.elim
   ·exact h.fit.own j b h1) aT Mi Mj gh
 exact ⟨G',h1,h2,h4,h7⟩
end
section
variable {P:Program} {C:dx→Prop} {T:List TI} {ops:List Oper} {n:Nat} {o:Oper} {nx:Nat} {ρ:Nat→AV} {κ:Nat→ao} {k:jl→Nat→Prop} {gd:Bool}
theorem j5 {w:World} (e:TypeId) (c:Array Value):(newRow e c).run P w=.ok ⟨w.heap.size,0,none⟩ (w.alloc (.cells c e)):=by
 simp [newRow,run_newObj]
theorem wH (G:Gh) {t:Nat} {ti:TI} {i:TypeInfo} {u:TypeDesc} {z:Value} (tf:fg P t ti i u z):bP G (jP ti.zero) z.cells.toList∧∀v,v∈jP ti.zero→v.ak=true:=by
 obtain ⟨h3,h4⟩:=dU (M:=G.M) tf.zc
 refine ⟨gJ h3,fun v hv=>?_⟩
 rw [wA] at hv
 obtain ⟨d,hd,rfl⟩:=List.mem_map.1 hv
 exact (h4 d hd).1
theorem IB (hT:ec P T) {t:Nat} (hg:bJ ρ ops o.guard=some gd) (ho:o.op=.alloc t) (bU:(nth T t).ok=true) (nF:κ nx=.none)
  (hk:dy n o (nx+1) k (.ptr nx 0) [(nx,.cells (jP (nth T t).zero))] [nx]):Good P C ops n o nx ρ κ k:=by
 obtain ⟨i,u,z,tf⟩:=hT.facts bU
 refine cR (fun c=>by rw [ho]; simp) hg hk (by omega) (by simp) fun ρ' κ' au g a w G dg aj aL=>?_
 have gI:κ' nx=.none:=(au.reads nx (by simp)).trans nF
 obtain ⟨hz,hc⟩:=wH G tf
 obtain ⟨G',h1,h2,h3⟩:=aj.uq gI dg t hz hc
 refine ⟨.pointer (some ⟨w.heap.size,0,none⟩),w.alloc (.cells z.cells t),G',.inl ?_,h2,.ptr nx 0 _ h3⟩
 simp [execOp,ho,Instr.alloc,tf.qQ w,newVar,j5]
theorem OK {t:Nat} {x:Operand} {av:AV} (hg:bJ ρ ops o.guard=some gd) (ho:o.op=.box t x) (nF:κ nx=.none) (hc:bN (cellsOf av)=true)
  (hk:dy n o (nx+1) k (.ptr nx 0) [(nx,.cells (cellsOf av))] [nx]) (bp:bk ρ κ gd x av):Good P C ops n o nx ρ κ k:=by
 refine cR (fun c=>by rw [ho]; simp) hg hk (by omega) (by simp) fun ρ' κ' au g a w G dg aj aL=>?_
 have gI:κ' nx=.none:=(au.reads nx (by simp)).trans nF
 have hv:=bp ρ' κ' (au.op (by rw [ho]; simp [Op.operands])) g n a w G aj aL
 obtain ⟨G',h1,h2,h3⟩:=aj.uq (vs:=(a.eval x).cells) gI dg t (kT hv hc) (eO hc)
 refine ⟨.pointer (some ⟨w.heap.size,0,none⟩),w.alloc (.cells (a.eval x).cells t),G',.inl ?_,h2,.ptr nx 0 _ h3⟩
 simp [execOp,ho,Instr.box,newVar,j5]
theorem y5 (hT:ec P T) {t i off:Nat} {x y:Operand} {av:AV} {l:List AV} (hg:bJ ρ ops o.guard=some gd) (ho:o.op=.store t x y) (bU:(nth T t).ok=true) (hb:κ i=.cells l)
  (aT:(cellsOf av).length=(nth T t).size) (hc:bN (cellsOf av)=true) (hle:off+(nth T t).size≤l.length)
  (hk:dy n o nx k .any [(i,.cells (fY l off (cellsOf av)))] [i]) (ei:i<nx) (bp:bk ρ κ gd x (.ptr i off)) (Fp:bk ρ κ gd y av):Good P C ops n o nx ρ κ k:=by
 obtain ⟨ti,u,z,tf⟩:=hT.facts bU
 refine cR (fun c=>by rw [ho]; simp) hg hk (Nat.le_refl _) (by simpa using ei) fun ρ' κ' au g a w G dg aj aL=>?_
 have dL:κ' i=.cells l:=(au.reads i (by simp)).trans hb
 have hv:=bp ρ' κ' (au.op (by rw [ho]; simp [Op.operands])) g n a w G aj aL
 have eQ:=Fp ρ' κ' (au.op (by rw [ho]; simp [Op.operands])) g n a w G aj aL
 have ov:=kT eQ hc
 have rG:=aj.fit.box i
 rw [dL] at rG
 obtain ⟨b,c,tt,TC,hw,OA,j7,hr⟩:=rG
 generalize hx:a.eval x=v at hv
 cases hv with
 | ptr _ _ b' zr =>
 rw [TC] at zr; injection zr with zr; subst zr
 have hlen:(a.eval y).cells.toList.length=(nth T t).size:=by rw [←ov.1,aT]
 have fP:=run_storeCells_at P b off tt (a.eval y).cells.toList 0 c w hw (by rw [hlen]; omega) (ov.cI hc)
 simp only [Nat.add_zero] at fP
 have hold:bP G l c.toList:=⟨by simp [OA],fun j d v hd hv=>hr j d v hd (by simpa using hv)⟩
 refine ⟨undef,w.setRow b (c.toList.take off++(a.eval y).cells.toList++c.toList.drop (off+(a.eval y).cells.toList.length)).toArray,G,.inr ⟨?_,rfl⟩,
  aj.H6 (l':=fY l off (cellsOf av)) (t:=tt) dL TC (by simp [aw]) (fun j hj=>by simp [aw,ae _ _ hj]) (setRow_heap w b c _ tt _ hw) ?_ ?_ (by simp) (fun k _ bB=>setRow_other w b k _ bB) rfl rfl rfl,.any _⟩
 ·have eT:(a.eval y).cells.size=(nth T t).size:=by simpa using hlen
  simp only [execOp,ho,hx,Instr.storeAt,Instr.sureAddr,Sem.run_bind,Sem.run_pure,Result.andThen_ok,storeVar,tf.eM w,eT,ne_eq,not_true_eq_false,if_false]
  rw [fP]
  rfl
 ·simpa using hold.fY ov off (by rw [aT]; exact hle)
 ·intro v hv
  unfold fY at hv
  rcases List.mem_append.1 hv with hv | hv
  ·rcases List.mem_append.1 hv with hv | hv
   ·exact j7 v (List.mem_of_mem_take hv)
   ·exact eO hc v hv
  ·exact j7 v (List.mem_of_mem_drop hv)
theorem kz {i:Nat}:∀{l:List Nat},fR i l=true→i∈l
 | [],h=>by simp [fR] at h
 | j::r,h=>by
  simp only [fR,Bool.or_eq_true] at h
  rcases h with h | h
  ·rw [Nat.eq_of_beq_eq_true h]; simp
  ·exact List.mem_cons_of_mem _ (kz h)
theorem eo {i:Nat}:∀{l:List Nat},fR i l=false→i ∉ l
 | [],_=>by simp
 | j::r,h=>by
  simp only [fR,Bool.or_eq_false_iff] at h
  have h2:=eo h.2
  intro hm
  rcases List.mem_cons.1 hm with rfl | hm
  ·have:=h.1
   simp [Nat.beq_refl] at this
  ·exact h2 hm
theorem cO {γ:Nat→ao}:∀{ids:List Nat} (j:Nat),aw γ (dS ids) j=if j∈ids then .dead else γ j
 | [],j=>by simp [dS,aw]
 | i::r,j=>by
  simp only [dS,aw]
  by_cases e:j=i
  ·subst e; simp
  ·rw [ae _ _ e,cO j]; simp [e]
theorem iN {v:AV} {q:(sz:Nat)→List DV→List Nat→List Nat→Prop} {nl:Prop} (h:na κ v q nl) :
  (v=.dv .aG∧nl) ∨ ∃(sz:Nat) (ys:List DV) (rd kill:List Nat),q sz ys rd kill∧(∀j,j∈rd→∃v e d,κ j=.tree v e d)∧(∀j,j∈kill→j∈rd) ∧
   ∀κ' G w x,(∀i,i∈rd→κ' i=κ i)→Fit G w κ'→aD G v x→∃hs,Src G.M w x sz ys hs∧∀b,aN hs (.ax sz ys) b→∃j,j∈kill∧bG G j (κ' j) b:=by
 unfold na at h
 split at h
 ·rename_i sz l
  refine .inr ⟨sz,l,[],[],h,by simp,by simp,fun κ' G w x _ hf hv=>⟨fun _=>none,?_,?_⟩⟩
  ·cases hv with | dv hv =>
   refine .closed ((oh.SH hf.sub hv).mono rfl fun i x y hx hy=>?_) rfl
   rw [hx] at hy; injection hy with hy; subst hy
   refine ⟨rfl,fun j d e u hd he Dd hS=>?_⟩
   rw [hd] at he; injection he with he; subst he
   exact ⟨Dd,hS.dG,hS⟩
  ·rintro b ⟨_,_,_,_,_,q,_⟩; cases q
 ·exact .inl ⟨rfl,h⟩
 ·rename_i i ver ep p
  split at h
  ·rename_i aY bE d dL
   cases hb:Nat.beq ver aY && (emp p || Nat.beq ep bE) with
   | false=>rw [hb] at h; exact h.elim
   | true =>
    rw [hb] at h
    simp only [cond_true] at h
    obtain ⟨rfl,dj⟩:=dh hb
    obtain ⟨nd,h,c6⟩:=bA h
    have c6:=c6 rfl
    cases nd with
    | ax sz l =>
     have SL:∀{G:Gh} {κ':Nat→ao} {w:World} {x:Value},κ' i=κ i→Fit G w κ'→aD G (.own i ver ep p) x→aA G.H i ver bE p=some x:=by
      intro G κ' w x he hf hv
      cases hv with | own _ _ _ _ _ hh hc=>rw [←cJ dj]; exact hh
     rcases h with ⟨j7,h⟩ | ⟨rfl,hq⟩
     ·refine .inr ⟨sz,l,[i],[],h,by simp [dL],by simp,fun κ' G w x au hf hv=>⟨fun _=>none,?_,?_⟩⟩
      ·have he:=au i (by simp)
       have hx:=SL he hf hv
       obtain ⟨u,h1,h2,h3⟩:=hf.node (he.trans dL) c6 rfl
       rw [hx] at h1; injection h1 with h1; subst h1
       refine .closed ?_ rfl
       have h4:og w x sz l fun i j d u=>d.af=false∧bj G.M d u:=by
        rcases jN.1 h3 with h3 | ⟨g,o,cap,c,t,a1,a2,a3,a4,a5⟩
        ·exact .inl h3
        ·refine .inr ⟨g,o,cap,c,t,a1,a2,a3,a4,fun i y hy=>⟨(a5 i y hy).1,fun j d hd=>?_⟩⟩
         obtain ⟨b1,u,b2,b3⟩:=(a5 i y hy).2 j d hd
         have Dd:=j7 y (List.mem_of_getElem? hy) d (List.mem_of_getElem? hd)
         refine ⟨b1,u,b2,Dd,?_⟩
         rcases b3 with ⟨c1,_⟩ | ⟨_,c2⟩
         ·rw [Dd] at c1; cases c1
         ·exact c2
       exact oh.Lc h4 fun i j d u hr hc=>hr.2.cI hc
      ·rintro b ⟨_,_,_,_,_,q,_⟩; cases q
     ·refine .inr ⟨sz,l,[i],[i],hq,by simp [dL],by simp,fun κ' G w x au hf hv=>?_⟩
      have he:=au i (by simp)
      have hx:=SL he hf hv
      have dI:=hf.box i
      rw [he,dL] at dI
      simp [get] at c6
      subst c6
      refine ⟨aA G.H i ver bE,.tree dI.1 dI.2.1 hx,fun b hb=>⟨i,by simp,?_⟩⟩
      rw [he,dL]; exact hb
    | _=>exact h.elim
  ·exact h.elim
 ·rename_i i ver ep p sz lo m
  split at h
  ·rename_i aY bE d dL
   cases hb:Nat.beq ver aY && (emp p || Nat.beq ep bE) with
   | false=>rw [hb] at h; exact h.elim
   | true =>
    rw [hb] at h
    simp only [cond_true] at h
    obtain ⟨rfl,dj⟩:=dh hb
    obtain ⟨nd,h,c6⟩:=bA h
    have c6:=c6 rfl
    cases nd with
    | ax oR l =>
     simp only at h
     cases hz:Nat.beq sz oR with
     | false=>rw [hz] at h; exact h.elim
     | true =>
     rw [hz] at h
     have:=Nat.eq_of_beq_eq_true hz
     subst this
     obtain ⟨hlen,j7,h⟩:=h
     refine .inr ⟨sz,(l.drop lo).take m,[i],[],h,by simp [dL],by simp,fun κ' G w x au hf hv=>⟨fun _=>none,?_,?_⟩⟩
     ·have he:=au i (by simp)
      obtain ⟨u,h1,h2,h3⟩:=hf.node (he.trans dL) c6 rfl
      have PW:((l.drop lo).take m).length=m:=by simp; omega
      refine .closed ?_ rfl
      cases hv with | pre _ _ _ _ _ _ _ q cp hh =>
      by_cases hm:m=0
      ·subst hm
       cases q with
       | none=>exact .inl ⟨cp,rfl,by simp⟩
       | some A=>exact .inr ⟨A,cp,fun _ _=>undef,by simp,fun i x hx=>by simp at hx⟩
      ·obtain ⟨A,N,c',gz,rfl⟩:=hh hm
       rw [cJ dj,h1] at gz
       injection gz with gz
       rcases jN.1 h3 with ⟨rfl,_⟩ | ⟨g,o,cap,c,t,rfl,a2,a3,a4,a5⟩
       ·simp at hlen; omega
       injection gz with hA _ _
       injection hA with hA
       subst hA
       refine .inr ⟨_,cp,fun a b=>c.getD (o+(lo+a) * sz+b) undef,by rw [PW],fun a y hy=>?_⟩
       have Wy:l[lo+a]?=some y:=by
        rw [List.getElem?_take] at hy
        split at hy
        ·rwa [List.getElem?_drop] at hy
        ·cases hy
       obtain ⟨b1,b2⟩:=a5 _ y Wy
       refine ⟨b1,fun j d hd=>?_⟩
       obtain ⟨d1,u,d2,d3⟩:=b2 j d hd
       have e:c.getD (o+(lo+a) * sz+j) undef=u:=by rw [Array.getD_eq_getD_getElem?,d2]; rfl
       have Dd:=j7 y (List.mem_of_getElem? Wy) d (List.mem_of_getElem? hd)
       have hr:bj G.M d u:=by
        rcases d3 with ⟨c1,_⟩ | ⟨_,c2⟩
        ·rw [Dd] at c1; cases c1
        ·exact c2
       refine ⟨d1,?_,?_,Dd,?_⟩
       ·rw [cy,cD]
        simp only [World.cell?,a3]
        rw [show o+(lo * sz+(a * sz+j))=o+(lo+a) * sz+j by rw [Nat.add_mul]; omega,e]
        simpa using d2
       ·show (c.getD (o+(lo+a) * sz+j) undef).oneCell'=true
        rw [e]; exact hr.cI d1
       ·show bj G.M d (c.getD (o+(lo+a) * sz+j) undef)
        rw [e]; exact hr
     ·rintro b ⟨_,_,_,_,_,q,_⟩; cases q
    | _=>exact h.elim
  ·exact h.elim
 ·exact h.elim
theorem dK {c:Call} {s x:Operand} {t:Nat} {a:Act} {w w':World} {v':Value} (ho:o.op=.call c) (hc:c.callee=.builtin .append) (ha:c.args.toList=[s,x]) (jb:c.argTypes.toList=[t,t])
  (h:(Builtin.append_ #[t,t] o.type #[a.eval s,a.eval x]).run P w=.ok v' w'):(execOp a.eval o).run P w=.ok (.value v') w':=by
 have bK:c.args=#[s,x]:=Array.ext' (by simpa using ha)
 have E3:c.argTypes=#[t,t]:=Array.ext' (by simpa using jb)
 simp [execOp,ho,resolve,hc,bK,E3,invoke,builtin,h]
theorem bY.append (hT:ec P T) {t ty:TypeId} (bU:(nth T t).ok=true) (gY:(nth T t).isSl=true) (jO:(nth T (nth T t).elem).ok=true) (eU:0<(nth T (nth T t).elem).size)
  {g:dx} {κ' κ2:Nat→ao} {a:Act} {w:World} {G:Gh} (aj:bY g n ρ κ' a w G) {i aY:Nat} {l ys zs:List DV} {kill:List Nat} {h hs:List PS→Option Value} {v x:Value}
  (ht:aS G.M w h (.ax (nth T (nth T t).elem).size l)) (hi:fc h (.ax (nth T (nth T t).elem).size l)) (hv:h []=some v)
  (hk:(κ' i=.none∧aY=0∧∀b,¬ aN h (.ax (nth T (nth T t).elem).size l) b) ∨ ∃ver ep,κ' i=.tree ver ep (.ax (nth T (nth T t).elem).size l)∧aY=ver+1∧h=aA G.H i ver ep)
  (gA:Src G.M w x (nth T (nth T t).elem).size ys hs) (E7:∀b,aN hs (.ax (nth T (nth T t).elem).size ys) b→∃j,j∈kill∧bG G j (κ' j) b) (ye:i ∉ kill) (hle:eJ ys zs)
  (E5:l.length+zs.length≤9223372036854775807) (yg:(l.length+zs.length) * (nth T (nth T t).elem).bytes≤140737488355328)
  (h1:κ2 i=.tree aY 0 (.ax (nth T (nth T t).elem).size (l++zs))) (h2:∀j,j∈kill→κ2 j=.dead) (h3:∀j,j ≠ i→j ∉ kill→κ2 j=κ' j) :
  ∃v' w' G',(Builtin.append_ #[t,t] ty #[v,x]).run P w=.ok v' w'∧bY g n ρ κ2 a w' G'∧aD G' (.own i aY 0 []) v':=by
 have E8:∀b,aN h (.ax (nth T (nth T t).elem).size l) b→bG G i (κ' i) b:=fun b hb=>by
  rcases hk with ⟨_,_,h0⟩ | ⟨ver,ep,dL,_,rfl⟩
  ·exact absurd hb (h0 b)
  ·rw [dL]; exact hb
 obtain ⟨v',w',aZ,kU,pO,t1,t2,t3⟩:=CQ (P:=P) (ty:=ty) hT bU gY jO eU ht hi hv gA
  (fun b hb cM=>by obtain ⟨j,hj,ho⟩:=E7 b cM; exact ye (aj.fit.inj i j b (E8 b hb) ho ▸ hj))
  (fun b hb=>by obtain ⟨j,_,ho⟩:=E7 b hb; exact ho.lt aj.fit) hle E5 yg
 have SM:∀b,fh v=some b→aN h (.ax (nth T (nth T t).elem).size l) b:=fun b hb=>⟨[],_,v,rfl,rfl,hv,hb⟩
 obtain ⟨G',g1,g2,_,g4,_,_,g7⟩:=aj.jT (κ':=κ2) (i:=i) (ver:=aY) (ep:=0) (d:=.ax (nth T (nth T t).elem).size (l++zs)) (fun j=>j∈kill) (qT l.length v' h hs) ye
  (by
   rcases hk with ⟨dL,_,_⟩ | ⟨ver,ep,dL,rfl,_⟩
   ·exact .inl dL
   ·exact .inr ⟨ver,ep,_,dL,by omega,by omega⟩)
  h2 h1 h3
  (fun p y hy=>by
   have hb:=aj.fit.box i
   rcases hk with ⟨dL,rfl,_⟩ | ⟨ver,ep,dL,rfl,_⟩
   ·rw [dL] at hb; cases p <;> simp [aA,hb.2] at hy
   ·rw [dL] at hb; cases p <;> simp [aA,hb.2.2.1 (ver+1) (by omega)] at hy)
  t1 t2
  (fun b hb=>by
   rcases t3 b hb with h5 | h5 | h5
   ·exact .inr (.inl (E8 b h5))
   ·exact .inr (.inr (E7 b h5))
   ·exact .inl h5)
  (fun b hb dk _=>kU.block b hb fun e=>dk (E8 b (SM b e.symm)))
  (fun b hb=>by
   rcases hb with h5 | ⟨j,_,h5⟩
   ·exact aj.fit.own i b h5
   ·exact aj.fit.own j b h5)
  kU.size kU.os kU.tape kU.output
 exact ⟨v',w',G',aZ,g7,.own _ _ _ _ _ ((g4 []).trans rfl) pO⟩
theorem GL (hT:ec P T) {t:Nat} {s x:Operand} {c:Call} {sv xv:AV} (hg:bJ ρ ops o.guard=some gd) (ho:o.op=.call c) (hc:c.callee=.builtin .append) (ha:c.args.toList=[s,x]) (jb:c.argTypes.toList=[t,t])
  (hn:∀i,nx≤i→κ i=.none) (h:lF T n o nx κ k t sv xv) (sQ:bk ρ κ gd s sv) (hex:bk ρ κ gd x xv):Good P C ops n o nx ρ κ k:=by
 have c6:∀c',o.op ≠ .defer c':=fun c'=>by rw [ho]; simp
 have bK:c.args=#[s,x]:=Array.ext' (by simpa using ha)
 have ms:s∈o.op.operands:=by rw [ho]; simp [Op.operands,Call.operands,hc,bK]
 have mx:x∈o.op.operands:=by rw [ho]; simp [Op.operands,Call.operands,hc,bK]
 unfold lF at h
 simp only at h
 cases jm:(nth T t).ok && (nth T t).isSl && (nth T (nth T t).elem).ok && Nat.blt 0 (nth T (nth T t).elem).size with
 | false=>rw [jm] at h; exact h.elim
 | true =>
 rw [jm] at h
 simp only [cond_true] at h
 simp only [Bool.and_eq_true,Nat.blt_eq] at jm
 obtain ⟨⟨⟨bU,gY⟩,jO⟩,eU⟩:=jm
 have CS:∀j,(∃v e d,κ j=.tree v e d)→j<nx:=fun j ⟨v,e,d,hj⟩=>by
  rcases Nat.lt_or_ge j nx with h | h
  ·exact h
  ·rw [hn j h] at hj; cases hj
 have E9:∀{kill:List Nat} {dE:Nat},(∀j,j∈kill→∃v e d,κ j=.tree v e d)→nx≤dE→∀p,p∈dS kill→p.1<dE:=by
  intro kill dE hk hle p hp
  have:p.1∈kill:=by
   clear hk
   induction kill with
   | nil=>simp [dS] at hp
   | cons i r ih=>simp only [dS] at hp; rcases List.mem_cons.1 hp with rfl | hp; exact List.mem_cons_self; exact List.mem_cons_of_mem _ (ih hp)
  have:=CS _ (hk _ this); omega
 have nothing:∀{v:Value} {w:World},((∃l ob gb cap,v=.slice (some ⟨gb,ob,none⟩) l cap∧l≤cap) ∨ v=.slice none 0 0)→(Builtin.append_ #[t,t] o.type #[v,.slice none 0 0]).run P w=.ok v w:=by
  intro v w hv
  obtain ⟨i,u,z,tf⟩:=hT.facts bU
  obtain ⟨te,ue,ze,iu⟩:=hT.facts jO
  rcases hv with ⟨l,ob,gb,cap,rfl,eh⟩ | rfl
  ·simp [Builtin.append_,run_underlying (tf.slice gY),sizeOf,typeInfo,iu.info,Builtin.lenOf,Builtin.firstCells,eh,storeCells]
  ·simp [Builtin.append_,run_underlying (tf.slice gY),sizeOf,typeInfo,iu.info,Builtin.lenOf,Builtin.firstCells]
 split at h
 ·-- a nil slice
  rcases iN h with ⟨rfl,hk⟩ | ⟨sz,ys,rd,kill,hk,LG,LH,gA⟩
  ·refine cR c6 hg hk (Nat.le_refl _) (by simp) fun ρ' κ' au g a w G dg aj aL=>?_
   have hv:=sQ ρ' κ' (au.op ms) g n a w G aj aL
   have eQ:=hex ρ' κ' (au.op mx) g n a w G aj aL
   generalize hx:a.eval s=v at hv
   generalize hi:a.eval x=vi at eQ
   cases hv with | dv hv=>cases hv with | aG=>cases eQ with | dv eQ=>cases eQ with | aG =>
   refine ⟨_,w,G,.inl (dK ho hc ha jb (by rw [hx,hi]; exact nothing (.inr rfl))),aj,.dv .aG⟩
  ·cases aT:Nat.beq sz (nth T (nth T t).elem).size with
   | false=>rw [aT] at hk; exact hk.elim
   | true =>
   rw [aT] at hk
   have:=Nat.eq_of_beq_eq_true aT
   subst this
   obtain ⟨zs,hle,yg,E5,hk⟩:=hk
   refine cR c6 hg hk (by omega) (fun p hp=>?_) fun ρ' κ' au g a w G dg aj aL=>?_
   ·rcases List.mem_cons.1 hp with rfl | hp
    ·simp
    ·exact E9 (fun j hj=>LG j (LH j hj)) (by omega) p hp
   ·have gI:κ' nx=.none:=(au.reads nx (by simp)).trans (hn nx (Nat.le_refl _))
    have hv:=sQ ρ' κ' (au.op ms) g n a w G aj aL
    have eQ:=hex ρ' κ' (au.op mx) g n a w G aj aL
    obtain ⟨hs,Iq,SN⟩:=gA κ' G w _ (fun i hi=>au.reads i (by simp [hi])) aj.fit eQ
    have Ja:nx ∉ kill:=fun hm=>by have:=CS nx (LG nx (LH nx hm)); omega
    generalize hx:a.eval s=v at hv
    cases hv with | dv hv=>cases hv with | aG =>
    obtain ⟨v',w',G',r1,r2,r3⟩:=aj.append (κ2:=aw κ' ((nx,.tree 0 0 (.ax (nth T (nth T t).elem).size zs))::dS kill)) (ty:=o.type) (i:=nx) (aY:=0) (l:=[]) hT bU gY jO eU (uv _ _ _) (yU _) rfl (.inl ⟨gI,rfl,fun b hb=>iO hb⟩) Iq SN Ja hle (by simpa using E5) (by simpa using yg)
     (by simp [aw]) (fun j hj=>by simp only [aw]; rw [ae _ _ (by rintro rfl; exact Ja hj),cO,if_pos hj]) (fun j h1 h2=>by simp only [aw]; rw [ae _ _ h1,cO,if_neg h2])
    exact ⟨v',w',G',.inl (dK ho hc ha jb (by rw [hx]; exact r1)),r2,r3⟩
 ·-- a slice Yo Yp WV array
  rename_i i ver ep p
  split at h
  ·rename_i aY bE d dL
   cases hb:Nat.beq ver aY && (emp p || Nat.beq ep bE) with
   | false=>rw [hb] at h; exact h.elim
   | true =>
   rw [hb] at h
   simp only [cond_true] at h
   obtain ⟨rfl,dj⟩:=dh hb
   obtain ⟨nd,h,AY⟩:=bA h
   have vD:=AY rfl
   have q8:i<nx:=CS i ⟨_,_,_,dL⟩
   cases nd with
   | ax sz l =>
    simp only at h
    cases aT:Nat.beq sz (nth T (nth T t).elem).size with
    | false=>rw [aT] at h; exact h.elim
    | true =>
    rw [aT] at h
    simp only [cond_true] at h
    have:=Nat.eq_of_beq_eq_true aT
    subst this
    have Nw:∀{g:dx} {a:Act} {G:Gh} {κ':Nat→ao} {w:World},aD G (.own i ver ep p) (a.eval s)→aA G.H i ver bE p=some (a.eval s):=by
     intro g a G κ' w hv
     generalize a.eval s=v at hv ⊢
     cases hv with | own _ _ _ _ _ hh iy=>rw [←cJ dj]; exact hh
    rcases iN h with ⟨rfl,hk⟩ | ⟨oR,ys,rd,kill,hk,LG,LH,gA⟩
    ·-- nothing comes in
     have node:∀{G:Gh} {w:World} {κ':Nat→ao},κ' i=κ i→Fit G w κ'→∀{v:Value},aA G.H i ver bE p=some v→((∃l ob gb cap,v=.slice (some ⟨gb,ob,none⟩) l cap∧l≤cap) ∨ v=.slice none 0 0):=by
      intro G w κ' he hf v hv
      obtain ⟨u,h1,_,h3⟩:=hf.node (he.trans dL) vD rfl
      rw [hv] at h1; injection h1 with h1; subst h1
      rcases h3 with ⟨_,rfl⟩ | ⟨gb,ob,cap,c,t,rfl,eh,_⟩
      ·exact .inr rfl
      ·exact .inl ⟨_,_,_,_,rfl,eh⟩
     cases p with
     | nil =>
      simp [get] at vD
      subst vD
      refine cR c6 hg hk (Nat.le_refl _) (by simpa using q8) fun ρ' κ' au g a w G dg aj aL=>?_
      have he:=au.reads i (by simp)
      have hv:=sQ ρ' κ' (au.op ms) g n a w G aj aL
      have eQ:=hex ρ' κ' (au.op mx) g n a w G aj aL
      have hx:=Nw (g:=g) (κ':=κ') (w:=w) hv
      generalize hi:a.eval x=vi at eQ
      cases eQ with | dv eQ=>cases eQ with | aG =>
      have dI:=aj.fit.box i
      rw [he,dL] at dI
      obtain ⟨G',g1,g2,_,g4,_,_,g7⟩:=aj.jT (κ':=aw κ' [(i,.tree (ver+1) 0 (.ax (nth T (nth T t).elem).size l))]) (w':=w) (i:=i) (ver:=ver+1) (ep:=0) (d:=.ax (nth T (nth T t).elem).size l) (fun _=>False) (aA G.H i ver bE) (fun h=>h.elim) (.inr ⟨ver,bE,_,he.trans dL,by omega,by omega⟩) (fun _ h=>h.elim) (by simp [aw]) (fun j hj _=>by simp [aw,ae _ _ hj])
       (fun q y hy=>by cases q <;> simp [aA,dI.2.2.1 (ver+1) (by omega)] at hy) dI.1 dI.2.1 (fun b hb=>.inr (.inl (by rw [he,dL]; exact hb))) (fun _ _ _ _=>rfl) (fun b hb=>by
        rcases hb with h5 | ⟨_,h5,_⟩
        ·exact aj.fit.own i b h5
        ·exact h5.elim) (Nat.le_refl _) rfl rfl rfl
      have pO:(a.eval s).oneCell'=true:=by rcases node he aj.fit hx with ⟨_,_,_,_,e,_⟩ | e <;> rw [e] <;> rfl
      exact ⟨a.eval s,w,G',.inl (dK ho hc ha jb (by rw [hi]; exact nothing (node he aj.fit hx))),g7,.own _ _ _ _ _ ((g4 []).trans hx) pO⟩
     | cons ps pr =>
      obtain ⟨hk,_⟩:=ek hk
      refine cR c6 hg hk (by omega) (fun q hq=>by
       rcases List.mem_cons.1 hq with rfl | hq
       ·simp
       ·simp at hq; subst hq; simp; omega) fun ρ' κ' au g a w G dg aj aL=>?_
      have he:=au.reads i (by simp)
      have gI:κ' nx=.none:=(au.reads nx (by simp)).trans (hn nx (Nat.le_refl _))
      have hv:=sQ ρ' κ' (au.op ms) g n a w G aj aL
      have eQ:=hex ρ' κ' (au.op mx) g n a w G aj aL
      have hx:=Nw (g:=g) (κ':=κ') (w:=w) hv
      generalize hi:a.eval x=vi at eQ
      cases eQ with | dv eQ=>cases eQ with | aG =>
      obtain ⟨G',g1,g2,_,g4,g7⟩:=aj.split (κ':=aw κ' [(nx,.tree 0 0 (.ax (nth T (nth T t).elem).size l)),(i,.tree ver (bE+1) (bL d (ps::pr) .any))]) (i:=i) (nx:=nx) (he.trans dL) gI vD rfl (by simp) (by simp only [aw]; rw [ae _ _ (by omega)]; simp) (by simp [aw]) (fun j h1 h2=>by simp only [aw]; rw [ae _ _ h2,ae _ _ h1])
      have pO:(a.eval s).oneCell'=true:=by rcases node he aj.fit hx with ⟨_,_,_,_,e,_⟩ | e <;> rw [e] <;> rfl
      refine ⟨a.eval s,w,G',.inl (dK ho hc ha jb (by rw [hi]; exact nothing (node he aj.fit hx))),g7,.own _ _ _ _ _ ((g4 []).trans ?_) pO⟩
      rw [List.append_nil]; exact hx
    ·cases cw:Nat.beq oR (nth T (nth T t).elem).size && !fR i rd with
     | false=>rw [cw] at hk; exact hk.elim
     | true =>
     rw [cw] at hk
     simp only [cond_true] at hk
     simp only [Bool.and_eq_true,Bool.not_eq_true'] at cw
     have:=Nat.eq_of_beq_eq_true cw.1
     subst this
     have SO:=eo cw.2
     have ye:i ∉ kill:=fun hm=>SO (LH i hm)
     obtain ⟨zs,hle,yg,E5,hk⟩:=hk
     cases p with
     | nil =>
      simp [get] at vD
      subst vD
      refine cR c6 hg hk (Nat.le_refl _) (fun q hq=>by
       rcases List.mem_cons.1 hq with rfl | hq
       ·exact q8
       ·exact E9 (fun j hj=>LG j (LH j hj)) (Nat.le_refl _) q hq) fun ρ' κ' au g a w G dg aj aL=>?_
      have he:=au.reads i (by simp)
      have hv:=sQ ρ' κ' (au.op ms) g n a w G aj aL
      have eQ:=hex ρ' κ' (au.op mx) g n a w G aj aL
      have hx:=Nw (g:=g) (κ':=κ') (w:=w) hv
      obtain ⟨hs,Iq,SN⟩:=gA κ' G w _ (fun i hi=>au.reads i (by simp [hi])) aj.fit eQ
      have dI:=aj.fit.box i
      rw [he,dL] at dI
      obtain ⟨v',w',G',r1,r2,r3⟩:=aj.append (κ2:=aw κ' ((i,.tree (ver+1) 0 (.ax (nth T (nth T t).elem).size (l++zs)))::dS kill)) (ty:=o.type) (i:=i) (aY:=ver+1) hT bU gY jO eU dI.1 dI.2.1 hx (.inr ⟨ver,bE,he.trans dL,rfl,rfl⟩) Iq SN ye hle E5 yg
       (by simp [aw]) (fun j hj=>by simp only [aw]; rw [ae _ _ (by rintro rfl; exact ye hj),cO,if_pos hj]) (fun j h1 h2=>by simp only [aw]; rw [ae _ _ h1,cO,if_neg h2])
      exact ⟨v',w',G',.inl (dK ho hc ha jb r1),r2,r3⟩
     | cons ps pr =>
      obtain ⟨hk,_⟩:=ek hk
      refine cR c6 hg hk (by omega) (fun q hq=>by
       rcases List.mem_cons.1 hq with rfl | hq
       ·simp
       ·rcases List.mem_cons.1 hq with rfl | hq
        ·show i<nx+1; omega
        ·exact E9 (fun j hj=>LG j (LH j hj)) (by omega) q hq) fun ρ' κ' au g a w G dg aj aL=>?_
      have he:=au.reads i (by simp)
      have gI:κ' nx=.none:=(au.reads nx (by simp)).trans (hn nx (Nat.le_refl _))
      have hv:=sQ ρ' κ' (au.op ms) g n a w G aj aL
      have eQ:=hex ρ' κ' (au.op mx) g n a w G aj aL
      have hx:=Nw (g:=g) (κ':=κ') (w:=w) hv
      have Ja:nx ∉ kill:=fun hm=>by have:=CS nx (LG nx (LH nx hm)); omega
      have Vt:nx ∉ rd:=fun hm=>by have:=CS nx (LG nx hm); omega
      obtain ⟨G1,g1,g2,_,g4,g7⟩:=aj.split (κ':=aw κ' [(nx,.tree 0 0 (.ax (nth T (nth T t).elem).size l)),(i,.tree ver (bE+1) (bL d (ps::pr) .any))]) (i:=i) (nx:=nx) (he.trans dL) gI vD rfl (by simp) (by simp only [aw]; rw [ae _ _ (by omega)]; simp) (by simp [aw]) (fun j h1 h2=>by simp only [aw]; rw [ae _ _ h2,ae _ _ h1])
      obtain ⟨hs,Iq,SN⟩:=gA (aw κ' [(nx,.tree 0 0 (.ax (nth T (nth T t).elem).size l)),(i,.tree ver (bE+1) (bL d (ps::pr) .any))]) G1 w _ (fun j hj=>by simp only [aw]; rw [ae _ _ (by rintro rfl; exact Vt hj),ae _ _ (by rintro rfl; exact SO hj)]; exact au.reads j (by simp [hj])) g7.fit (eQ.mono g1)
      have dI:=g7.fit.box nx
      have oc:aw κ' [(nx,.tree 0 0 (.ax (nth T (nth T t).elem).size l)),(i,.tree ver (bE+1) (bL d (ps::pr) .any))] nx=.tree 0 0 (.ax (nth T (nth T t).elem).size l):=by simp [aw]
      rw [oc] at dI
      obtain ⟨v',w',G',r1,r2,r3⟩:=g7.append (κ2:=aw κ' ((nx,.tree 1 0 (.ax (nth T (nth T t).elem).size (l++zs)))::(i,.tree ver (bE+1) (bL d (ps::pr) .any))::dS kill)) (ty:=o.type) (i:=nx) (aY:=1) hT bU gY jO eU dI.1 dI.2.1 (v:=a.eval s) (by rw [g4 [],List.append_nil]; exact hx) (.inr ⟨0,0,oc,rfl,rfl⟩) Iq SN Ja hle E5 yg
       (by simp [aw]) (fun j hj=>by simp only [aw]; rw [ae _ _ (by rintro rfl; exact Ja hj),ae _ _ (by rintro rfl; exact ye hj),cO,if_pos hj]) (fun j h1 h2=>by
        simp only [aw]
        rw [ae _ _ h1,ae _ _ h1]
        by_cases e:j=i
        ·subst e; simp
        ·rw [ae _ _ e,ae _ _ e,cO,if_neg h2])
      exact ⟨v',w',G',.inl (dK ho hc ha jb r1),r2,r3⟩
   | _=>exact h.elim
  ·exact h.elim
 ·exact h.elim
end
end Go.TM
namespace Go.TM
open Go.RowKit
variable [ct]
structure QU (G:Gh) (w:World) (κ:Nat→ao) (ids:List Nat) (ds:List DV) (us:List Value) (hs:Nat→List PS→Option Value) (id:Nat→Nat):Prop where
 len:ds.length=us.length
 cell:∀(j:Nat) (d:DV) (u:Value),ds[j]?=some d→us[j]?=some u→(d.af=false∧bj G.M d u) ∨
  (d.af=true∧id j∈ids∧aS G.M w (hs j) d∧fc (hs j) d∧hs j []=some u∧∀b,aN (hs j) d b→bG G (id j) (κ (id j)) b)
 ne:∀(j j':Nat) (d d':DV),ds[j]?=some d→ds[j']?=some d'→d.af=true→d'.af=true→id j=id j'→j=j'
theorem sM {i:Nat} {r:List Nat} (h:eF (i::r)=true):i ∉ r∧eF r=true:=by
 simp only [eF,Bool.and_eq_true,Bool.not_eq_true'] at h
 exact ⟨eo h.1,h.2⟩
theorem Fa {κ κ':Nat→ao} {G:Gh} {w:World} {v:AV} {d:DV} {ids:List Nat} (h:Ml κ v=some (d,ids)) (au:∀i,i∈ids→κ' i=κ i) (hf:Fit G w κ') {u:Value} (hv:aD G v u) :
  (ids=[]∧d.af=false∧bj G.M d u) ∨ ∃i ver ep,ids=[i]∧κ' i=.tree ver ep d∧d.af=true∧aA G.H i ver ep []=some u:=by
 unfold Ml at h
 split at h
 ·injection h with h; injection h with e1 e2; subst e1; subst e2
  cases hv with | dv hv=>exact .inl ⟨rfl,hv.dG,hv⟩
 ·rename_i i ver ep
  split at h
  ·rename_i aY bE d' hk
   cases hb:Nat.beq ver aY with
   | false=>rw [hb] at h; cases h
   | true =>
    rw [hb] at h
    have:=Nat.eq_of_beq_eq_true hb
    subst this
    simp only [cond_true,Option.some.injEq,Prod.mk.injEq] at h
    obtain ⟨rfl,rfl⟩:=h
    have dL:κ' i=.tree ver bE d':=(au i (by simp)).trans hk
    have dI:=hf.box i
    rw [dL] at dI
    cases hv with | own _ _ _ _ _ hh hc=>exact .inr ⟨i,ver,bE,rfl,dL,dI.1.1,hh⟩
  ·cases h
 ·injection h with h; injection h with e1 e2; subst e1; subst e2
  cases hv with | fn _ _ vs hl hr =>
  have:vs=[]:=by simpa using hl.symm
  subst this
  exact .inl ⟨rfl,rfl,.fn _ [] [] rfl (by simp)⟩
 ·cases h
theorem H7 {κ κ':Nat→ao} {G:Gh} {w:World} {v:AV} {d:DV} {ids:List Nat} (h:Tj κ v=some (d,ids)) (au:∀i,i∈ids→κ' i=κ i) (hf:Fit G w κ') {u:Value} (hv:aD G v u) :
  (ids=[]∧d.af=false∧bj G.M d u) ∨ ∃i ver ep,ids=[i]∧κ' i=.tree ver ep d∧d.af=true∧aA G.H i ver ep []=some u:=Fa (v:=dn v) h au hf (xG hv)
theorem lY {κ κ':Nat→ao} {G:Gh} {w:World} (hf:Fit G w κ'):∀{vs:List AV} {ds:List DV} {ids:List Nat} {us:List Value},qm κ vs=some (ds,ids)→eF ids=true→(∀i,i∈ids→κ' i=κ i)→bP G vs us→∃hs id,QU G w κ' ids ds us hs id
 | [],ds,ids,us,h,_,_,hr=>by
  simp [qm] at h
  obtain ⟨rfl,rfl⟩:=h
  have:us=[]:=by have:=hr.1; simpa using this.symm
  subst this
  exact ⟨fun _ _=>none,fun _=>0,rfl,by simp,by simp⟩
 | v::vs,ds,ids,us,h,c6,au,hr=>by
  simp only [qm] at h
  split at h
  ·rename_i d i l j h1 h2
   simp only [Option.some.injEq,Prod.mk.injEq] at h
   obtain ⟨rfl,rfl⟩:=h
   match us,hr with
   | [],hr=>have:=hr.1; simp at this
   | u::us,hr =>
    have oY:eF j=true∧∀q,q∈i→q ∉ j:=by
     clear h1 h2 hr au
     induction i with
     | nil=>exact ⟨c6,by simp⟩
     | cons q i ih =>
      obtain ⟨a1,a2⟩:=sM c6
      obtain ⟨b1,b2⟩:=ih a2
      refine ⟨b1,fun q' Dc=>?_⟩
      rcases List.mem_cons.1 Dc with rfl | Dc
      ·exact fun hm=>a1 (List.mem_append.2 (.inr hm))
      ·exact b2 q' Dc
    obtain ⟨hs,id,ei⟩:=lY hf h2 oY.1 (fun q hq=>au q (List.mem_append.2 (.inr hq))) (us:=us) ⟨by simpa using hr.1,fun q e y he hy=>hr.2 (q+1) e y (by simpa using he) (by simpa using hy)⟩
    have h0:=H7 h1 (fun q hq=>au q (List.mem_append.2 (.inl hq))) hf (hr.2 0 v u rfl rfl)
    rcases h0 with ⟨rfl,h3,h4⟩ | ⟨q,ver,ep,rfl,h3,h4,h5⟩
    ·refine ⟨fun n=>match n with | 0=>fun _=>none | n+1=>hs n,fun n=>match n with | 0=>0 | n+1=>id n,⟨by simp [ei.len],fun n e y he hy=>?_,fun n n' e e' he yx ho gX heq=>?_⟩⟩
     ·cases n with
      | zero=>simp at he hy; subst he; subst hy; exact .inl ⟨h3,h4⟩
      | succ n=>simp at he hy; simpa using ei.cell n e y he hy
     ·cases n with
      | zero=>simp at he; subst he; rw [h3] at ho; cases ho
      | succ n =>
       cases n' with
       | zero=>simp at yx; subst yx; rw [h3] at gX; cases gX
       | succ n'=>simp at he yx; rw [ei.ne n n' e e' he yx ho gX heq]
    ·have dI:=hf.box q
     rw [h3] at dI
     refine ⟨fun n=>match n with | 0=>aA G.H q ver ep | n+1=>hs n,fun n=>match n with | 0=>q | n+1=>id n,⟨by simp [ei.len],fun n e y he hy=>?_,fun n n' e e' he yx ho gX heq=>?_⟩⟩
     ·cases n with
      | zero=>simp at he hy; subst he; subst hy; exact .inr ⟨h4,by simp,dI.1,dI.2.1,h5,fun b hb=>by rw [h3]; exact hb⟩
      | succ n =>
       simp at he hy
       rcases ei.cell n e y he hy with h6 | ⟨a1,a2,a3⟩
       ·exact .inl h6
       ·exact .inr ⟨a1,by simp [a2],a3⟩
     ·have inj:∀n e,l[n]?=some e→e.af=true→id n∈j:=by
       intro n e he ho
       have hn:n<us.length:=by rw [←ei.len]; exact (List.getElem?_eq_some_iff.1 he).1
       rcases ei.cell n e _ he (List.getElem?_eq_getElem hn) with ⟨a1,_⟩ | ⟨_,a2,_⟩
       ·rw [ho] at a1; cases a1
       ·exact a2
      cases n with
      | zero =>
       cases n' with
       | zero=>rfl
       | succ n'=>simp at yx heq; exact absurd (inj n' e' yx gX) (heq ▸ oY.2 q (by simp))
      | succ n =>
       cases n' with
       | zero=>simp at he heq; exact absurd (inj n e he ho) (heq ▸ oY.2 q (by simp))
       | succ n'=>simp at he yx; rw [ei.ne n n' e e' he yx ho gX heq]
  ·cases h
theorem QU.le {G:Gh} {w:World} {κ:Nat→ao} {ids:List Nat} {ds HU:List DV} {us:List Value} {hs:Nat→List PS→Option Value} {id:Nat→Nat} (h:QU G w κ ids ds us hs id) (hle:kl ds HU) (h1:∀u,u∈us→u.oneCell'=true):QU G w κ ids HU us hs id∧∀d,d∈HU→d.ak=true:=by
 have key:∀(j:Nat) (d':DV) (u:Value),HU[j]?=some d'→us[j]?=some u→∃d,ds[j]?=some d∧((d.af=true∧d=d') ∨ (d.af=false∧bj G.M d' u)):=by
  intro j d' u ja hu
  have hj:j<ds.length:=by rw [hle.length]; exact (List.getElem?_eq_some_iff.1 ja).1
  refine ⟨ds[j],List.getElem?_eq_getElem hj,?_⟩
  rcases hle.at j _ d' (List.getElem?_eq_getElem hj) ja with h2 | ⟨h2,h3⟩
  ·exact .inl h2
  ·rcases h.cell j _ u (List.getElem?_eq_getElem hj) hu with ⟨_,h4⟩ | ⟨h4,_⟩
   ·exact .inr ⟨h2,h3 G.M u h4⟩
   ·rw [h2] at h4; cases h4
 have hlen:HU.length=us.length:=by rw [←hle.length]; exact h.len
 refine ⟨⟨hlen,fun j d' u ja hu=>?_,fun j j' d d' hd ja ho gX heq=>?_⟩,fun d' ja=>?_⟩
 ·obtain ⟨d,hd,hc⟩:=key j d' u ja hu
  rcases hc with ⟨_,rfl⟩ | ⟨_,h3⟩
  ·exact h.cell j d u hd hu
  ·exact .inl ⟨h3.dG,h3⟩
 ·have q:∀(j:Nat) (d:DV),HU[j]?=some d→d.af=true→ds[j]?=some d:=by
   intro j d hd ho
   have hj:j<us.length:=by rw [←hlen]; exact (List.getElem?_eq_some_iff.1 hd).1
   obtain ⟨d0,h2,hc⟩:=key j d _ hd (List.getElem?_eq_getElem hj)
   rcases hc with ⟨_,rfl⟩ | ⟨_,h3⟩
   ·exact h2
   ·rw [h3.dG] at ho; cases ho
  exact h.ne j j' d d' (q j d hd ho) (q j' d' ja gX) ho gX heq
 ·obtain ⟨j,hj⟩:=List.getElem?_of_mem ja
  have CT:j<us.length:=by rw [←hlen]; exact (List.getElem?_eq_some_iff.1 hj).1
  obtain ⟨d,_,hc⟩:=key j d' _ hj (List.getElem?_eq_getElem CT)
  rcases hc with ⟨h2,rfl⟩ | ⟨_,h3⟩
  ·exact ea h2
  ·exact h3.ak (h1 _ (List.getElem_mem CT))
theorem tq {x:DV} {off:Nat} {ds:List DV} {K:DV→Prop} (h:x6 x off ds K):∃y,K y∧((∀d,d∈ds→d.ak=true)→off+ds.length≤x.cells.length∧y.cells=lz x.cells off ds∧y.isAgg=x.isAgg):=by
 unfold x6 at h
 split at h
 ·rename_i l
  cases hb:Nat.ble (off+ds.length) l.length with
  | false=>rw [hb] at h; exact h.elim
  | true=>rw [hb] at h; exact ⟨_,h,fun _=>⟨Nat.le_of_ble_eq_true hb,rfl,rfl⟩⟩
 ·rename_i bB
  split at h
  ·rename_i d
   refine ⟨d,h,fun hc=>?_⟩
   have hd:=hc d (by simp)
   refine ⟨?_,?_,?_⟩
   ·cases x <;> first | exact (bB _ rfl).elim | simp [DV.cells]
   ·cases d <;> cases x <;> first | exact (bB _ rfl).elim | (cases hd; done) | rfl
   ·cases d <;> cases x <;> first | exact (bB _ rfl).elim | (cases hd; done) | rfl
  ·exact h.elim
theorem lZ {l ds:List DV} {off j:Nat} (hle:off+ds.length≤l.length):(lz l off ds)[j]?=if off≤j∧j<off+ds.length then ds[j - off]? else l[j]?:=by
 unfold lz
 rw [List.append_assoc,List.getElem?_append]
 simp only [List.length_take]
 rw [show min off l.length=off by omega]
 by_cases h1:j<off
 ·rw [if_pos h1,if_neg (by omega),List.getElem?_take,if_pos h1]
 ·rw [if_neg h1,List.getElem?_append]
  by_cases h2:j - off<ds.length
  ·rw [if_pos h2,if_pos (by omega)]
  ·rw [if_neg h2,if_neg (by omega),List.getElem?_drop]
   congr 1; omega
theorem nG {l ds:List DV} {off:Nat} (hle:off+ds.length≤l.length):(lz l off ds).length=l.length:=by simp [lz]; omega
theorem wI {l us:List Value} {off j:Nat} (hle:off+us.length≤l.length):(l.take off++us++l.drop (off+us.length))[j]?=if off≤j∧j<off+us.length then us[j - off]? else l[j]?:=by
 rw [List.append_assoc,List.getElem?_append]
 simp only [List.length_take]
 rw [show min off l.length=off by omega]
 by_cases h1:j<off
 ·rw [if_pos h1,if_neg (by omega),List.getElem?_take,if_pos h1]
 ·rw [if_neg h1,List.getElem?_append]
  by_cases h2:j - off<us.length
  ·rw [if_pos h2,if_pos (by omega)]
  ·rw [if_neg h2,if_neg (by omega),List.getElem?_drop]
   congr 1; omega
theorem CU {sz idx off:Nat} {nd:DV} {ds:List DV} {K:List DV→DV→Prop} (h:BN sz idx off nd ds K) :
  ∃w5 CA,K w5 CA∧nd.af=true∧((∀d,d∈ds→d.ak=true)→nd.af=true∧CA.af=true ∧
   (∀s c,step CA s=some c→(∃j,s=.el idx j∧off≤j∧j<off+ds.length∧ds[j - off]?=some c) ∨ ((∀j,s=.el idx j→¬ (off≤j∧j<off+ds.length))∧step nd s=some c)) ∧
   (∀j c,step nd (.el idx j)=some c→off≤j→j<off+ds.length→c∈w5) ∧
   ∀(M:Mem) (w:World) (v:Value) (iy:PS→Option Value),bW M w v iy nd→∃g o c t,fh v=some g∧w.heap[g]?=some (.cells c t (0,0))∧o+ds.length≤c.size ∧
    (∀A,(v=.pointer (some A) ∨ ∃m q,v=.slice (some A) m q)→A.add (idx * sz+off)=⟨g,o,none⟩) ∧
    ∀(us:List Value) (mo:PS→Option Value) (w':World),us.length=ds.length→w'.heap[g]?=some (.cells (c.toList.take o++us++c.toList.drop (o+us.length)).toArray t (0,0)) →
     (∀s,(∀j,s=.el idx j→¬ (off≤j∧j<off+ds.length))→mo s=iy s)→(∀(j:Nat) (d:DV) (u:Value),ds[j]?=some d→us[j]?=some u→da M (mo (.el idx (off+j))) d u)→bW M w' v mo CA):=by
 unfold BN at h
 split at h
 ·rename_i oR l
  cases hb:Nat.beq sz oR with
  | false=>rw [hb] at h; exact h.elim
  | true =>
   rw [hb] at h
   have:=Nat.eq_of_beq_eq_true hb
   subst this
   obtain ⟨x,hx,h⟩:=h
   obtain ⟨y,h,Lj⟩:=tq h
   have Kk:idx<l.length:=(List.getElem?_eq_some_iff.1 hx).1
   refine ⟨_,_,h,rfl,fun hc=>?_⟩
   obtain ⟨hle,hy,_⟩:=Lj hc
   refine ⟨rfl,rfl,fun s c hs=>?_,fun j c hs h1 h2=>?_,fun M w v iy aX=>?_⟩
   ·cases s with
    | key=>simp [step] at hs
    | el i j =>
     simp only [step] at hs
     by_cases e:idx=i
     ·subst e
      rw [List.getElem?_set_self Kk] at hs
      simp only [hy] at hs
      rw [lZ hle] at hs
      split at hs
      ·rename_i hr; exact .inl ⟨j,rfl,hr.1,hr.2,hs⟩
      ·rename_i hr
       refine .inr ⟨fun j' e'=>?_,by simp only [step,hx]; exact hs⟩
       injection e' with _ e'; subst e'; exact hr
     ·rw [List.getElem?_set_ne e] at hs
      refine .inr ⟨fun j' e'=>?_,hs⟩
      injection e' with e' _; exact absurd e'.symm e
   ·simp only [step,hx] at hs
    refine List.mem_of_getElem? (i:=j - off) ?_
    rw [List.getElem?_take,if_pos (by omega),List.getElem?_drop,show off+(j - off)=j by omega]
    exact hs
   ·rcases aX with ⟨rfl,_⟩ | ⟨g,o,cap,c,t,rfl,eh,hw,aT,oc⟩
    ·simp at hx
    ·obtain ⟨a1,a2⟩:=oc idx x hx
     have cB:o+idx * sz+off+ds.length≤c.size:=by
      have:(idx+1) * sz≤cap * sz:=Nat.mul_le_mul_right _ (by omega)
      rw [Nat.add_mul] at this
      omega
     refine ⟨g,o+idx * sz+off,c,t,rfl,hw,cB,fun A hA=>?_,fun us mo w' o3 LX mj iM=>?_⟩
     ·rcases hA with hA | ⟨_,_,hA⟩
      ·cases hA
      ·injection hA with hA; injection hA with hA; subst hA; rw [cD]; congr 1; omega
     ·refine .inr ⟨g,o,cap,_,t,by simp,by simpa using eh,LX,by simp [o3]; omega,fun i z hz=>?_⟩
      have bm:∀q,(c.toList.take (o+idx * sz+off)++us++c.toList.drop (o+idx * sz+off+us.length)).toArray[q]?=if o+idx * sz+off≤q∧q<o+idx * sz+off+us.length then us[q - (o+idx * sz+off)]? else c[q]?:=fun q=>by
       rw [List.getElem?_toArray,wI (by simp; omega)]
       simp
      by_cases e:idx=i
      ·subst e
       rw [List.getElem?_set_self Kk] at hz
       injection hz with hz
       subst hz
       rw [hy,nG hle]
       refine ⟨a1,fun j d hd=>?_⟩
       rw [lZ hle] at hd
       split at hd
       ·rename_i hr
        have CT:j - off<us.length:=by omega
        refine ⟨hc d (List.mem_of_getElem? hd),us[j - off],?_,?_⟩
        ·rw [bm,if_pos (by omega),show o+idx * sz+j - (o+idx * sz+off)=j - off by omega]; exact List.getElem?_eq_getElem CT
        ·have:=iM (j - off) d _ hd (List.getElem?_eq_getElem CT)
         rwa [show off+(j - off)=j by omega] at this
       ·rename_i hr
        obtain ⟨b1,u,b2,b3⟩:=a2 j d hd
        refine ⟨b1,u,by rw [bm,if_neg (by omega)]; exact b2,?_⟩
        rw [mj (.el idx j) (fun j' e'=>by injection e' with _ e'; subst e'; exact hr)]; exact b3
      ·rw [List.getElem?_set_ne e] at hz
       obtain ⟨b1,b2⟩:=oc i z hz
       refine ⟨b1,fun j d hd=>?_⟩
       obtain ⟨c1,u,c2,c3⟩:=b2 j d hd
       have hj:j<sz:=by rw [←b1]; exact (List.getElem?_eq_some_iff.1 hd).1
       refine ⟨c1,u,?_,?_⟩
       ·rw [bm,if_neg ?_]; exact c2
        rintro ⟨q1,q2⟩
        rw [o3] at q2
        have Lb:off+ds.length≤sz:=by rw [←a1]; exact hle
        rcases Nat.lt_or_ge i idx with aJ | du
        ·have:=Nat.mul_le_mul_right sz (show i+1≤idx from aJ); rw [Nat.add_mul] at this; omega
        ·have:=Nat.mul_le_mul_right sz (show idx+1≤i by omega); rw [Nat.add_mul] at this; omega
       ·rw [mj (.el i j) (fun j' e'=>by injection e' with e' _; exact absurd e'.symm e)]; exact c3
 ·rename_i x
  cases hb:Nat.beq idx 0 with
  | false=>rw [hb] at h; exact h.elim
  | true =>
   rw [hb] at h
   have:=Nat.eq_of_beq_eq_true hb
   subst this
   simp only [cond_true] at h
   obtain ⟨y,h,Lj⟩:=tq h
   refine ⟨_,_,h,rfl,fun hc=>?_⟩
   obtain ⟨hle,hy,_⟩:=Lj hc
   refine ⟨rfl,rfl,fun s c hs=>?_,fun j c hs h1 h2=>?_,fun M w v iy aX=>?_⟩
   ·cases s with
    | key=>simp [step] at hs
    | el i j =>
     simp only [step] at hs
     cases oe:Nat.beq i 0 with
     | false=>rw [oe] at hs; cases hs
     | true =>
      rw [oe] at hs
      have:=Nat.eq_of_beq_eq_true oe
      subst this
      simp only [cond_true,hy] at hs
      rw [lZ hle] at hs
      split at hs
      ·rename_i hr; exact .inl ⟨j,rfl,hr.1,hr.2,hs⟩
      ·rename_i hr
       refine .inr ⟨fun j' e'=>?_,by simp [step]; exact hs⟩
       injection e' with _ e'; subst e'; exact hr
   ·simp [step] at hs
    refine List.mem_of_getElem? (i:=j - off) ?_
    rw [List.getElem?_take,if_pos (by omega),List.getElem?_drop,show off+(j - off)=j by omega]
    exact hs
   ·obtain ⟨g,c,t,rfl,hw,aT,oc⟩:=aX
    refine ⟨g,off,c,t,rfl,hw,by omega,fun A hA=>?_,fun us mo w' o3 LX mj iM=>?_⟩
    ·rcases hA with hA | ⟨_,_,hA⟩
     ·injection hA with hA; injection hA with hA; subst hA; rw [cD]; congr 1; omega
     ·cases hA
    ·refine ⟨g,_,t,rfl,LX,by rw [hy,nG hle]; simp [o3]; omega,fun j d hd=>?_⟩
     have bm:∀q,(c.toList.take off++us++c.toList.drop (off+us.length)).toArray[q]?=if off≤q∧q<off+us.length then us[q - off]? else c[q]?:=fun q=>by
      rw [List.getElem?_toArray,wI (by simp; omega)]
      simp
     rw [hy,lZ hle] at hd
     split at hd
     ·rename_i hr
      have CT:j - off<us.length:=by omega
      refine ⟨hc d (List.mem_of_getElem? hd),us[j - off],by rw [bm,if_pos (by omega)]; exact List.getElem?_eq_getElem CT,?_⟩
      have:=iM (j - off) d _ hd (List.getElem?_eq_getElem CT)
      rwa [show off+(j - off)=j by omega] at this
     ·rename_i hr
      obtain ⟨b1,u,b2,b3⟩:=oc j d hd
      refine ⟨b1,u,by rw [bm,if_neg (by omega)]; exact b2,?_⟩
      rw [mj (.el 0 j) (fun j' e'=>by injection e' with _ e'; subst e'; exact hr)]; exact b3
 ·exact h.elim
end Go.TM
