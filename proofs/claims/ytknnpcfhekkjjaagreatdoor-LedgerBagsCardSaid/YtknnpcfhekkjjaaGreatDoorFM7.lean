import Derived.Test.YtknnpcfhekkjjaaGreatDoorFM6
set_option linter.all false
namespace Go.TM
section
open Go.RowKit
variable [cn]
section
variable {g:dP} {n:Nat} {ρ:Nat->AV} {κ κ':Nat->aq} {a:Act} {w w':World} {G:Gh}
theorem cy.Mw(h:cy g n ρ κ a w G){i b:Nat}{l l':List AV}{vs:Array Value}{t:TypeId}(hi:κ i=.cells l)(hb:G.β i=some b)(j3:κ' i=.cells l')(o7:∀j,j≠i->κ' j=κ j)
 (hw:w'.heap[b]?=some (.cells vs t (0,0))) (hl:cj G l' vs.toList) (hc:∀v,v∈l'->v.aj=true) (aV:w.heap.size<=w'.heap.size) (fO:∀k,k<w.heap.size->k≠b->w'.heap[k]?=w.heap[k]?)
 (R8:w'.os=w.os) (R9:w'.tape=w.tape) (fT:w'.output=w.output):cy g n ρ κ' a w' G:=by
 have gw:cx G i (κ i) b:=by rw[hi];exact hb
 refine h.sn (C:=fun j=>j=i) ⟨Gh.Le.refl G,fun _ _=>rfl,o7,fun j _=>⟨fun _ q=>q,fun _ _ _ _ q=>q⟩,fun k hk cW=>⟨fO k hk fun e=>cW i rfl (by rw[e];exact gw),rfl⟩,fun k o hk=>?_,?_,?_,fun j j' k e1 e2 _ _=>by rw[e1,e2],aV,R8,R9,fT⟩ (fun _ _=>rfl)
 ·have h1:=h.fit.sub k o hk
  rw[fO k (abV.1 h1).1 fun e=>?_]
  ·exact h1
  ·rw[e]at hk;rw[h.fit.own i b gw]at hk;cases hk
 ·rintro j rfl
  rw[j3]
  exact⟨b,vs,t,hb,hw,by have:=hl.1;simp at this;omega,hc,fun j d v hd hv=>hl.2 j d v hd (by simpa using hv)⟩
 ·rintro j k rfl ho
  rw[j3]at ho
  have:cx G j (κ j) k:=by rw[hi];exact ho
  exact⟨.inr ⟨j,rfl,this⟩,h.fit.own j k this⟩
theorem cy.tO(h:cy g n ρ κ a w G){i:Nat}{d:DV}(D:Nat->Prop)(h':List PS->Option Value)(hDi:¬D i)(hi:κ i=.none)(gu:∀j,D j->κ' j=.dead)(j3:κ' i=.tree 0 0 d)(o7:∀j,j≠i->¬D j->κ' j=κ j)
 (ht:br G.M w' h' d) (gn:iU h' d) (gw:∀b,bA h' d b->w.heap.size<=b\/∃j,D j/\cx G j (κ j) b) (fO:∀b,b<w.heap.size->(∀j,D j->¬cx G j (κ j) b)->w'.heap[b]?=w.heap[b]?)
 (aV:w.heap.size<=w'.heap.size) (R8:w'.os=w.os) (R9:w'.tape=w.tape) (fT:w'.output=w.output):
 ∃G',Gh.Le G G'/\G'.M=G.M/\(∀p,aH G'.H i 0 0 p=h' p)/\cy g n ρ κ' a w' G':=by
 have hb:=h.fit.box i
 rw[hi]at hb
 obtain⟨G',h1,h2,_,h4,_,_,h7⟩:=h.kl (κ':=κ') (i:=i) (ver:=0) (ep:=0) (d:=d) D h' hDi (.inl hi) gu j3 o7 (fun p x hx=>by cases p<;>simp[aH,hb.2]at hx) ht gn
  (fun b dV=>(gw b dV).imp id fun h=>.inr h) (fun b dV _ hD=>fO b dV hD) (fun b dV=>by
   rcases dV with h1|⟨j,_,h1⟩
   ·rw[hi]at h1;exact h1.elim
   ·exact h.fit.own j b h1) aV R8 R9 fT
 exact⟨G',h1,h2,h4,h7⟩
end
section
variable {P:Program} {C:dP->Prop} {T:List TI} {ops:List Oper} {n:Nat} {o:Oper} {nx:Nat} {ρ:Nat->AV} {κ:Nat->aq} {k:kN->Nat->Prop} {gd:Bool}
theorem lW{w:World}(e:TypeId)(c:Array Value):(newRow e c).run P w=.ok ⟨w.heap.size,0,none⟩ (w.alloc (.cells c e)):=by
 simp[newRow,run_newObj]
theorem zF(G:Gh){t:Nat}{ti:TI}{i:TypeInfo}{u:TypeDesc}{z:Value}(tf:gA P t ti i u z):cj G (fc ti.zero) z.cells.toList/\∀v,v∈fc ti.zero->v.aj=true:=by
 obtain⟨h3,h4⟩:=eZ (M:=G.M) tf.zc
 refine⟨jd h3,fun v hv=>?_⟩
 rw[rS]at hv
 obtain⟨d,hd,rfl⟩:=ab9.1 hv
 exact(h4 d hd).1
theorem M8(hT:fb P T){t:Nat}(hg:bZ ρ ops o.guard=some gd)(ho:o.op=.alloc t)(cr:(nth T t).ok=true)(pP:κ nx=.none)
 (hk:dO n o (nx+1) k (.ptr nx 0) [(nx,.cells (fc (nth T t).zero))] [nx]):Good P C ops n o nx ρ κ k:=by
 obtain⟨i,u,z,tf⟩:=hT.facts cr
 refine cU (fun c=>by rw[ho];simp) hg hk (by omega) (by simp) fun ρ' κ' aw g a w G dz ai aN=>?_
 have dQ:κ' nx=.none:=(aw.reads nx (by simp)).trans pP
 obtain⟨hz,hc⟩:=zF G tf
 obtain⟨G',h1,h2,h3⟩:=ai.xm dQ dz t hz hc
 refine⟨.pointer (some ⟨w.heap.size,0,none⟩),w.alloc (.cells z.cells t),G',.inl ?_,h2,.ptr nx 0 _ h3⟩
 simp[execOp,ho,Instr.alloc,tf.tI w,newVar,lW]
theorem UQ{t:Nat}{x:Operand}{av:AV}(hg:bZ ρ ops o.guard=some gd)(ho:o.op=.box t x)(pP:κ nx=.none)(hc:b8 (cellsOf av)=true)
 (hk:dO n o (nx+1) k (.ptr nx 0) [(nx,.cells (cellsOf av))] [nx]) (bJ:bz ρ κ gd x av):Good P C ops n o nx ρ κ k:=by
 refine cU (fun c=>by rw[ho];simp) hg hk (by omega) (by simp) fun ρ' κ' aw g a w G dz ai aN=>?_
 have dQ:κ' nx=.none:=(aw.reads nx (by simp)).trans pP
 have hv:=bJ ρ' κ' (aw.op (by rw[ho];simp[Op.operands])) g n a w G ai aN
 obtain⟨G',h1,h2,h3⟩:=ai.xm (vs:=(a.eval x).cells) dQ dz t (mW hv hc) (fS hc)
 refine⟨.pointer (some ⟨w.heap.size,0,none⟩),w.alloc (.cells (a.eval x).cells t),G',.inl ?_,h2,.ptr nx 0 _ h3⟩
 simp[execOp,ho,Instr.box,newVar,lW]
theorem B9(hT:fb P T){t i off:Nat}{x y:Operand}{av:AV}{l:List AV}(hg:bZ ρ ops o.guard=some gd)(ho:o.op=.store t x y)(cr:(nth T t).ok=true)(hb:κ i=.cells l)
 (aV:(cellsOf av).length=(nth T t).size) (hc:b8 (cellsOf av)=true) (hle:off+(nth T t).size<=l.length)
 (hk:dO n o nx k .any [(i,.cells (iD l off (cellsOf av)))] [i]) (dX:i<nx) (bJ:bz ρ κ gd x (.ptr i off)) (Jg:bz ρ κ gd y av):Good P C ops n o nx ρ κ k:=by
 obtain⟨ti,u,z,tf⟩:=hT.facts cr
 refine cU (fun c=>by rw[ho];simp) hg hk (acb _) (by simpa using dX) fun ρ' κ' aw g a w G dz ai aN=>?_
 have eb:κ' i=.cells l:=(aw.reads i (by simp)).trans hb
 have hv:=bJ ρ' κ' (aw.op (by rw[ho];simp[Op.operands])) g n a w G ai aN
 have dK:=Jg ρ' κ' (aw.op (by rw[ho];simp[Op.operands])) g n a w G ai aN
 have jB:=mW dK hc
 have ux:=ai.fit.box i
 rw[eb]at ux
 obtain⟨b,c,tt,hbe,hw,tU,mq,hr⟩:=ux
 generalize hx:a.eval x=v at hv
 cases hv with
 |ptr _ _ b' Cp=>
 rw[hbe]at Cp;injection Cp with Cp;subst Cp
 have hlen:(a.eval y).cells.toList.length=(nth T t).size:=by rw[<-jB.1,aV]
 have gr:=run_storeCells_at P b off tt (a.eval y).cells.toList 0 c w hw (by rw[hlen];omega) (jB.cT hc)
 simp only[Nat.add_zero]at gr
 have hold:cj G l c.toList:=⟨by simp[tU],fun j d v hd hv=>hr j d v hd (by simpa using hv)⟩
 refine⟨undef,w.setRow b (c.toList.take off++(a.eval y).cells.toList++c.toList.drop (off+(a.eval y).cells.toList.length)).toArray,G,.inr ⟨?_,rfl⟩,
  ai.Mw (l':=iD l off (cellsOf av)) (t:=tt) eb hbe (by simp[ay]) (fun j hj=>by simp[ay,ah _ _ hj]) (setRow_heap w b c _ tt _ hw) ?_ ?_ (by simp) (fun k _ b7=>setRow_other w b k _ b7) rfl rfl rfl,.any _⟩
 ·have iY:(a.eval y).cells.size=(nth T t).size:=by simpa using hlen
  simp only[execOp,ho,hx,Instr.storeAt,Instr.sureAddr,Sem.run_bind,Sem.run_pure,Result.andThen_ok,storeVar,tf.fP w,iY,ne_eq,not_true_eq_false,if_false]
  rw[gr]
  rfl
 ·simpa using hold.iD jB off (by rw[aV];exact hle)
 ·intro v hv
  unfold iD at hv
  rcases abQ.1 hv with hv|hv
  ·rcases abQ.1 hv with hv|hv
   ·exact mq v (List.mem_of_mem_take hv)
   ·exact fS hc v hv
  ·exact mq v (List.mem_of_mem_drop hv)
theorem mA{i:Nat}:∀{l:List Nat},iu i l=true->i∈l
 |[],h=>by simp[iu]at h
 |j::r,h=>by
  simp only[iu,Bool.or_eq_true]at h
  rcases h with h|h
  ·rw[abL h];simp
  ·exact abP _ (mA h)
theorem fj{i:Nat}:∀{l:List Nat},iu i l=false->i∉l
 |[],_=>by simp
 |j::r,h=>by
  simp only[iu,Bool.or_eq_false_iff]at h
  have h2:=fj h.2
  intro hm
  rcases abO.1 hm with rfl|hm
  ·have:=h.1
   simp[Nat.beq_refl]at this
  ·exact h2 hm
theorem c6{γ:Nat->aq}:∀{ids:List Nat} (j:Nat),ay γ (eY ids) j=if j∈ids then .dead else γ j
 |[],j=>by simp[eY,ay]
 |i::r,j=>by
  simp only[eY,ay]
  by_cases e:j=i
  ·subst e;simp
  ·rw[ah _ _ e,c6 j];simp[e]
theorem iA{v:AV}{q:(sz:Nat)->List DV->List Nat->List Nat->Prop}{nl:Prop}(h:nP κ v q nl):
 (v=.dv .az/\nl)\/∃(sz:Nat) (ys:List DV) (rd kill:List Nat),q sz ys rd kill/\(∀j,j∈rd->∃v e d,κ j=.tree v e d)/\(∀j,j∈kill->j∈rd)/\
  ∀κ' G w x,(∀i,i∈rd->κ' i=κ i)->Fit G w κ'->aG G v x->∃hs,Src G.M w x sz ys hs/\∀b,bA hs (.aB sz ys) b->∃j,j∈kill/\cx G j (κ' j) b:=by
 unfold nP at h
 split at h
 ·rename_i sz l
  refine .inr ⟨sz,l,[],[],h,by simp,by simp,fun κ' G w x _ hf hv=>⟨fun _=>none,?_,?_⟩⟩
  ·cases hv with|dv hv=>
   refine .closed ((r5.Z0 hf.sub hv).mono rfl fun i x y hx hy=>?_) rfl
   rw[hx]at hy;injection hy with hy;subst hy
   refine⟨rfl,fun j d e u hd he Dh hS=>?_⟩
   rw[hd]at he;injection he with he;subst he
   exact⟨Dh,hS.fJ,hS⟩
  ·rintro b ⟨_,_,_,_,_,q,_⟩;cases q
 ·exact .inl ⟨rfl,h⟩
 ·rename_i i ver ep p
  split at h
  ·rename_i aW bX d eb
   cases hb:Nat.beq ver aW&&(emp p||Nat.beq ep bX)with
   |false=>rw[hb]at h;exact h.elim
   |true=>
    rw[hb]at h
    simp only[cond_true]at h
    obtain⟨rfl,dJ⟩:=dC hb
    obtain⟨nd,h,dj⟩:=bU h
    have dj:=dj rfl
    cases nd with
    |aB sz l=>
     have Z5:∀{G:Gh} {κ':Nat->aq} {w:World} {x:Value},κ' i=κ i->Fit G w κ'->aG G (.own i ver ep p) x->aH G.H i ver bX p=some x:=by
      intro G κ' w x he hf hv
      cases hv with|own _ _ _ _ _ hh hc=>rw[<-cV dJ];exact hh
     rcases h with⟨mq,h⟩|⟨rfl,hq⟩
     ·refine .inr ⟨sz,l,[i],[],h,by simp[eb],by simp,fun κ' G w x aw hf hv=>⟨fun _=>none,?_,?_⟩⟩
      ·have he:=aw i (by simp)
       have hx:=Z5 he hf hv
       obtain⟨u,h1,h2,h3⟩:=hf.node (he.trans eb) dj rfl
       rw[hx]at h1;injection h1 with h1;subst h1
       refine .closed ?_ rfl
       have h4:wO w x sz l fun i j d u=>d.ao=false/\bu G.M d u:=by
        rcases eP.1 h3 with h3|⟨g,o,cap,c,t,a1,a2,a3,a4,a5⟩
        ·exact .inl h3
        ·refine .inr ⟨g,o,cap,c,t,a1,a2,a3,a4,fun i y hy=>⟨(a5 i y hy).1,fun j d hd=>?_⟩⟩
         obtain⟨b1,u,b2,b3⟩:=(a5 i y hy).2 j d hd
         have Dh:=mq y (abK hy) d (abK hd)
         refine⟨b1,u,b2,Dh,?_⟩
         rcases b3 with⟨c1,_⟩|⟨_,c2⟩
         ·rw[Dh]at c1;cases c1
         ·exact c2
       exact r5.QM h4 fun i j d u hr hc=>hr.2.cT hc
      ·rintro b ⟨_,_,_,_,_,q,_⟩;cases q
     ·refine .inr ⟨sz,l,[i],[i],hq,by simp[eb],by simp,fun κ' G w x aw hf hv=>?_⟩
      have he:=aw i (by simp)
      have hx:=Z5 he hf hv
      have ez:=hf.box i
      rw[he,eb]at ez
      simp[get]at dj
      subst dj
      refine⟨aH G.H i ver bX,.tree ez.1 ez.2.1 hx,fun b hb=>⟨i,by simp,?_⟩⟩
      rw[he,eb];exact hb
    |_=>exact h.elim
  ·exact h.elim
 ·rename_i i ver ep p sz lo m
  split at h
  ·rename_i aW bX d eb
   cases hb:Nat.beq ver aW&&(emp p||Nat.beq ep bX)with
   |false=>rw[hb]at h;exact h.elim
   |true=>
    rw[hb]at h
    simp only[cond_true]at h
    obtain⟨rfl,dJ⟩:=dC hb
    obtain⟨nd,h,dj⟩:=bU h
    have dj:=dj rfl
    cases nd with
    |aB iT l=>
     simp only at h
     cases hz:Nat.beq sz iT with
     |false=>rw[hz]at h;exact h.elim
     |true=>
     rw[hz]at h
     have:=abL hz
     subst this
     obtain⟨hlen,mq,h⟩:=h
     refine .inr ⟨sz,(l.drop lo).take m,[i],[],h,by simp[eb],by simp,fun κ' G w x aw hf hv=>⟨fun _=>none,?_,?_⟩⟩
     ·have he:=aw i (by simp)
      obtain⟨u,h1,h2,h3⟩:=hf.node (he.trans eb) dj rfl
      have FT:((l.drop lo).take m).length=m:=by simp;omega
      refine .closed ?_ rfl
      cases hv with|pre _ _ _ _ _ _ _ q cp hh=>
      by_cases hm:m=0
      ·subst hm
       cases q with
       |none=>exact .inl ⟨cp,rfl,by simp⟩
       |some A=>exact .inr ⟨A,cp,fun _ _=>undef,by simp,fun i x hx=>by simp at hx⟩
      ·obtain⟨A,N,c',CO,rfl⟩:=hh hm
       rw[cV dJ,h1]at CO
       injection CO with CO
       rcases eP.1 h3 with⟨rfl,_⟩|⟨g,o,cap,c,t,rfl,a2,a3,a4,a5⟩
       ·simp at hlen;omega
       injection CO with hA _ _
       injection hA with hA
       subst hA
       refine .inr ⟨_,cp,fun a b=>c.getD (o+(lo+a)*sz+b) undef,by rw[FT],fun a y hy=>?_⟩
       have hy':l[lo+a]?=some y:=by
        rw[List.getElem?_take]at hy
        split at hy
        ·rwa[List.getElem?_drop]at hy
        ·cases hy
       obtain⟨b1,b2⟩:=a5 _ y hy'
       refine⟨b1,fun j d hd=>?_⟩
       obtain⟨d1,u,d2,d3⟩:=b2 j d hd
       have e:c.getD (o+(lo+a)*sz+j) undef=u:=by rw[abS,d2];rfl
       have Dh:=mq y (abK hy') d (abK hd)
       have hr:bu G.M d u:=by
        rcases d3 with⟨c1,_⟩|⟨_,c2⟩
        ·rw[Dh]at c1;cases c1
        ·exact c2
       refine⟨d1,?_,?_,Dh,?_⟩
       ·rw[cL,eO]
        simp only[World.cell?,a3]
        rw[show o+(lo*sz+(a*sz+j))=o+(lo+a)*sz+j by rw[Nat.add_mul];omega,e]
        simpa using d2
       ·show(c.getD (o+(lo+a)*sz+j) undef).oneCell'=true
        rw[e];exact hr.cT d1
       ·show bu G.M d (c.getD (o+(lo+a)*sz+j) undef)
        rw[e];exact hr
     ·rintro b ⟨_,_,_,_,_,q,_⟩;cases q
    |_=>exact h.elim
  ·exact h.elim
 ·exact h.elim
theorem eD{c:Call}{s x:Operand}{t:Nat}{a:Act}{w w':World}{v':Value}(ho:o.op=.call c)(hc:c.callee=.builtin .append)(ha:c.args.toList=[s,x])(dw:c.argTypes.toList=[t,t])
 (h:(Builtin.append_ #[t,t] o.type #[a.eval s,a.eval x]).run P w=.ok v' w'):(execOp a.eval o).run P w=.ok (.value v') w':=by
 have bN:c.args=#[s,x]:=Array.ext' (by simpa using ha)
 have B1:c.argTypes=#[t,t]:=Array.ext' (by simpa using dw)
 simp[execOp,ho,resolve,hc,bN,B1,invoke,builtin,h]
theorem cy.append(hT:fb P T){t ty:TypeId}(cr:(nth T t).ok=true)(iw:(nth T t).isSl=true)(r8:(nth T (nth T t).elem).ok=true)(dq:0<(nth T (nth T t).elem).size)
 {g:dP} {κ' κ2:Nat->aq} {a:Act} {w:World} {G:Gh} (ai:cy g n ρ κ' a w G) {i aW:Nat} {l ys zs:List DV} {kill:List Nat} {h hs:List PS->Option Value} {v x:Value}
 (ht:br G.M w h (.aB (nth T (nth T t).elem).size l)) (hi:iU h (.aB (nth T (nth T t).elem).size l)) (hv:h []=some v)
 (hk:(κ' i=.none/\aW=0/\∀b,¬bA h (.aB (nth T (nth T t).elem).size l) b)\/∃ver ep,κ' i=.tree ver ep (.aB (nth T (nth T t).elem).size l)/\aW=ver+1/\h=aH G.H i ver ep)
 (kO:Src G.M w x (nth T (nth T t).elem).size ys hs) (IY:∀b,bA hs (.aB (nth T (nth T t).elem).size ys) b->∃j,j∈kill/\cx G j (κ' j) b) (HX:i∉kill) (hle:cd ys zs)
 (IW:l.length+zs.length<=9223372036854775807) (Bp:(l.length+zs.length)*(nth T (nth T t).elem).bytes<=140737488355328)
 (h1:κ2 i=.tree aW 0 (.aB (nth T (nth T t).elem).size (l++zs))) (h2:∀j,j∈kill->κ2 j=.dead) (h3:∀j,j≠i->j∉kill->κ2 j=κ' j):
 ∃v' w' G',(Builtin.append_ #[t,t] ty #[v,x]).run P w=.ok v' w'/\cy g n ρ κ2 a w' G'/\aG G' (.own i aW 0 []) v':=by
 have IZ:∀b,bA h (.aB (nth T (nth T t).elem).size l) b->cx G i (κ' i) b:=fun b hb=>by
  rcases hk with⟨_,_,h0⟩|⟨ver,ep,eb,_,rfl⟩
  ·exact absurd hb (h0 b)
  ·rw[eb];exact hb
 obtain⟨v',w',aX,mX,tT,t1,t2,t3⟩:=Gv (P:=P) (ty:=ty) hT cr iw r8 dq ht hi hv kO
  (fun b hb dV=>by obtain⟨j,hj,ho⟩:=IY b dV;exact HX (ai.fit.inj i j b (IZ b hb) ho▸hj))
  (fun b hb=>by obtain⟨j,_,ho⟩:=IY b hb;exact ho.lt ai.fit) hle IW Bp
 have Z6:∀b,cF v=some b->bA h (.aB (nth T (nth T t).elem).size l) b:=fun b hb=>⟨[],_,v,rfl,rfl,hv,hb⟩
 obtain⟨G',g1,g2,_,g4,_,_,g7⟩:=ai.kl (κ':=κ2) (i:=i) (ver:=aW) (ep:=0) (d:=.aB (nth T (nth T t).elem).size (l++zs)) (fun j=>j∈kill) (tM l.length v' h hs) HX
  (by
   rcases hk with⟨eb,_,_⟩|⟨ver,ep,eb,rfl,_⟩
   ·exact .inl eb
   ·exact .inr ⟨ver,ep,_,eb,by omega,by omega⟩)
  h2 h1 h3
  (fun p y hy=>by
   have hb:=ai.fit.box i
   rcases hk with⟨eb,rfl,_⟩|⟨ver,ep,eb,rfl,_⟩
   ·rw[eb]at hb;cases p<;>simp[aH,hb.2]at hy
   ·rw[eb]at hb;cases p<;>simp[aH,hb.2.2.1 (ver+1) (by omega)]at hy)
  t1 t2
  (fun b hb=>by
   rcases t3 b hb with h5|h5|h5
   ·exact .inr (.inl (IZ b h5))
   ·exact .inr (.inr (IY b h5))
   ·exact .inl h5)
  (fun b hb cW _=>mX.block b hb fun e=>cW (IZ b (Z6 b e.symm)))
  (fun b hb=>by
   rcases hb with h5|⟨j,_,h5⟩
   ·exact ai.fit.own i b h5
   ·exact ai.fit.own j b h5)
  mX.size mX.os mX.tape mX.output
 exact⟨v',w',G',aX,g7,.own _ _ _ _ _ ((g4 []).trans rfl) tT⟩
theorem KK(hT:fb P T){t:Nat}{s x:Operand}{c:Call}{sv xv:AV}(hg:bZ ρ ops o.guard=some gd)(ho:o.op=.call c)(hc:c.callee=.builtin .append)(ha:c.args.toList=[s,x])(dw:c.argTypes.toList=[t,t])
 (hn:∀i,nx<=i->κ i=.none) (h:nQ T n o nx κ k t sv xv) (wU:bz ρ κ gd s sv) (hex:bz ρ κ gd x xv):Good P C ops n o nx ρ κ k:=by
 have dj:∀c',o.op≠.defer c':=fun c'=>by rw[ho];simp
 have bN:c.args=#[s,x]:=Array.ext' (by simpa using ha)
 have ms:s∈o.op.operands:=by rw[ho];simp[Op.operands,Call.operands,hc,bN]
 have mx:x∈o.op.operands:=by rw[ho];simp[Op.operands,Call.operands,hc,bN]
 unfold nQ at h
 simp only at h
 cases lC:(nth T t).ok&&(nth T t).isSl&&(nth T (nth T t).elem).ok&&Nat.blt 0 (nth T (nth T t).elem).size with
 |false=>rw[lC]at h;exact h.elim
 |true=>
 rw[lC]at h
 simp only[cond_true]at h
 simp only[acj,Nat.blt_eq]at lC
 obtain⟨⟨⟨cr,iw⟩,r8⟩,dq⟩:=lC
 have Gx:∀j,(∃v e d,κ j=.tree v e d)->j<nx:=fun j ⟨v,e,d,hj⟩=>by
  rcases ab1 j nx with h|h
  ·exact h
  ·rw[hn j h]at hj;cases hj
 have I0:∀{kill:List Nat} {ec:Nat},(∀j,j∈kill->∃v e d,κ j=.tree v e d)->nx<=ec->∀p,p∈eY kill->p.1<ec:=by
  intro kill ec hk hle p hp
  have:p.1∈kill:=by
   clear hk
   induction kill with
   |nil=>simp[eY]at hp
   |cons i r ih=>simp only[eY]at hp;rcases abO.1 hp with rfl|hp;exact abT;exact abP _ (ih hp)
  have:=Gx _ (hk _ this);omega
 have nothing:∀{v:Value} {w:World},((∃l ob gb cap,v=.slice (some ⟨gb,ob,none⟩) l cap/\l<=cap)\/v=.slice none 0 0)->(Builtin.append_ #[t,t] o.type #[v,.slice none 0 0]).run P w=.ok v w:=by
  intro v w hv
  obtain⟨i,u,z,tf⟩:=hT.facts cr
  obtain⟨te,ue,ze,jU⟩:=hT.facts r8
  rcases hv with⟨l,ob,gb,cap,rfl,dI⟩|rfl
  ·simp[Builtin.append_,run_underlying (tf.slice iw),sizeOf,typeInfo,jU.info,Builtin.lenOf,Builtin.firstCells,dI,storeCells]
  ·simp[Builtin.append_,run_underlying (tf.slice iw),sizeOf,typeInfo,jU.info,Builtin.lenOf,Builtin.firstCells]
 split at h
 ·-- a nil slice
  rcases iA h with⟨rfl,hk⟩|⟨sz,ys,rd,kill,hk,Q3,Q4,kO⟩
  ·refine cU dj hg hk (acb _) (by simp) fun ρ' κ' aw g a w G dz ai aN=>?_
   have hv:=wU ρ' κ' (aw.op ms) g n a w G ai aN
   have dK:=hex ρ' κ' (aw.op mx) g n a w G ai aN
   generalize hx:a.eval s=v at hv
   generalize hi:a.eval x=vi at dK
   cases hv with|dv hv=>cases hv with|az=>cases dK with|dv dK=>cases dK with|az=>
   refine⟨_,w,G,.inl (eD ho hc ha dw (by rw[hx,hi];exact nothing (.inr rfl))),ai,.dv .az⟩
  ·cases aV:Nat.beq sz (nth T (nth T t).elem).size with
   |false=>rw[aV]at hk;exact hk.elim
   |true=>
   rw[aV]at hk
   have:=abL aV
   subst this
   obtain⟨zs,hle,Bp,IW,hk⟩:=hk
   refine cU dj hg hk (by omega) (fun p hp=>?_) fun ρ' κ' aw g a w G dz ai aN=>?_
   ·rcases abO.1 hp with rfl|hp
    ·simp
    ·exact I0 (fun j hj=>Q3 j (Q4 j hj)) (by omega) p hp
   ·have dQ:κ' nx=.none:=(aw.reads nx (by simp)).trans (hn nx (acb _))
    have hv:=wU ρ' κ' (aw.op ms) g n a w G ai aN
    have dK:=hex ρ' κ' (aw.op mx) g n a w G ai aN
    obtain⟨hs,GS,Z7⟩:=kO κ' G w _ (fun i hi=>aw.reads i (by simp[hi])) ai.fit dK
    have NH:nx∉kill:=fun hm=>by have:=Gx nx (Q3 nx (Q4 nx hm));omega
    generalize hx:a.eval s=v at hv
    cases hv with|dv hv=>cases hv with|az=>
    obtain⟨v',w',G',r1,r2,r3⟩:=ai.append (κ2:=ay κ' ((nx,.tree 0 0 (.aB (nth T (nth T t).elem).size zs))::eY kill)) (ty:=o.type) (i:=nx) (aW:=0) (l:=[]) hT cr iw r8 dq (xq _ _ _) (BZ _) rfl (.inl ⟨dQ,rfl,fun b hb=>kj hb⟩) GS Z7 NH hle (by simpa using IW) (by simpa using Bp)
     (by simp[ay]) (fun j hj=>by simp only[ay];rw[ah _ _ (by rintro rfl;exact NH hj),c6,if_pos hj]) (fun j h1 h2=>by simp only[ay];rw[ah _ _ h1,c6,if_neg h2])
    exact⟨v',w',G',.inl (eD ho hc ha dw (by rw[hx];exact r1)),r2,r3⟩
 ·-- a slice abC abD its array
  rename_i i ver ep p
  split at h
  ·rename_i aW bX d eb
   cases hb:Nat.beq ver aW&&(emp p||Nat.beq ep bX)with
   |false=>rw[hb]at h;exact h.elim
   |true=>
   rw[hb]at h
   simp only[cond_true]at h
   obtain⟨rfl,dJ⟩:=dC hb
   obtain⟨nd,h,D6⟩:=bU h
   have yl:=D6 rfl
   have qZ:i<nx:=Gx i ⟨_,_,_,eb⟩
   cases nd with
   |aB sz l=>
    simp only at h
    cases aV:Nat.beq sz (nth T (nth T t).elem).size with
    |false=>rw[aV]at h;exact h.elim
    |true=>
    rw[aV]at h
    simp only[cond_true]at h
    have:=abL aV
    subst this
    have Tn:∀{g:dP} {a:Act} {G:Gh} {κ':Nat->aq} {w:World},aG G (.own i ver ep p) (a.eval s)->aH G.H i ver bX p=some (a.eval s):=by
     intro g a G κ' w hv
     generalize a.eval s=v at hv⊢
     cases hv with|own _ _ _ _ _ hh lF=>rw[<-cV dJ];exact hh
    rcases iA h with⟨rfl,hk⟩|⟨iT,ys,rd,kill,hk,Q3,Q4,kO⟩
    ·-- nothing comes in
     have node:∀{G:Gh} {w:World} {κ':Nat->aq},κ' i=κ i->Fit G w κ'->∀{v:Value},aH G.H i ver bX p=some v->((∃l ob gb cap,v=.slice (some ⟨gb,ob,none⟩) l cap/\l<=cap)\/v=.slice none 0 0):=by
      intro G w κ' he hf v hv
      obtain⟨u,h1,_,h3⟩:=hf.node (he.trans eb) yl rfl
      rw[hv]at h1;injection h1 with h1;subst h1
      rcases h3 with⟨_,rfl⟩|⟨gb,ob,cap,c,t,rfl,dI,_⟩
      ·exact .inr rfl
      ·exact .inl ⟨_,_,_,_,rfl,dI⟩
     cases p with
     |nil=>
      simp[get]at yl
      subst yl
      refine cU dj hg hk (acb _) (by simpa using qZ) fun ρ' κ' aw g a w G dz ai aN=>?_
      have he:=aw.reads i (by simp)
      have hv:=wU ρ' κ' (aw.op ms) g n a w G ai aN
      have dK:=hex ρ' κ' (aw.op mx) g n a w G ai aN
      have hx:=Tn (g:=g) (κ':=κ') (w:=w) hv
      generalize hi:a.eval x=vi at dK
      cases dK with|dv dK=>cases dK with|az=>
      have ez:=ai.fit.box i
      rw[he,eb]at ez
      obtain⟨G',g1,g2,_,g4,_,_,g7⟩:=ai.kl (κ':=ay κ' [(i,.tree (ver+1) 0 (.aB (nth T (nth T t).elem).size l))]) (w':=w) (i:=i) (ver:=ver+1) (ep:=0) (d:=.aB (nth T (nth T t).elem).size l) (fun _=>False) (aH G.H i ver bX) (fun h=>h.elim) (.inr ⟨ver,bX,_,he.trans eb,by omega,by omega⟩) (fun _ h=>h.elim) (by simp[ay]) (fun j hj _=>by simp[ay,ah _ _ hj])
       (fun q y hy=>by cases q<;>simp[aH,ez.2.2.1 (ver+1) (by omega)]at hy) ez.1 ez.2.1 (fun b hb=>.inr (.inl (by rw[he,eb];exact hb))) (fun _ _ _ _=>rfl) (fun b hb=>by
        rcases hb with h5|⟨_,h5,_⟩
        ·exact ai.fit.own i b h5
        ·exact h5.elim) (acb _) rfl rfl rfl
      have tT:(a.eval s).oneCell'=true:=by rcases node he ai.fit hx with⟨_,_,_,_,e,_⟩|e<;>rw[e]<;>rfl
      exact⟨a.eval s,w,G',.inl (eD ho hc ha dw (by rw[hi];exact nothing (node he ai.fit hx))),g7,.own _ _ _ _ _ ((g4 []).trans hx) tT⟩
     |cons ps pr=>
      obtain⟨hk,_⟩:=fh hk
      refine cU dj hg hk (by omega) (fun q hq=>by
       rcases abO.1 hq with rfl|hq
       ·simp
       ·simp at hq;subst hq;simp;omega) fun ρ' κ' aw g a w G dz ai aN=>?_
      have he:=aw.reads i (by simp)
      have dQ:κ' nx=.none:=(aw.reads nx (by simp)).trans (hn nx (acb _))
      have hv:=wU ρ' κ' (aw.op ms) g n a w G ai aN
      have dK:=hex ρ' κ' (aw.op mx) g n a w G ai aN
      have hx:=Tn (g:=g) (κ':=κ') (w:=w) hv
      generalize hi:a.eval x=vi at dK
      cases dK with|dv dK=>cases dK with|az=>
      obtain⟨G',g1,g2,_,g4,g7⟩:=ai.split (κ':=ay κ' [(nx,.tree 0 0 (.aB (nth T (nth T t).elem).size l)),(i,.tree ver (bX+1) (dN d (ps::pr) .any))]) (i:=i) (nx:=nx) (he.trans eb) dQ yl rfl (by simp) (by simp only[ay];rw[ah _ _ (by omega)];simp) (by simp[ay]) (fun j h1 h2=>by simp only[ay];rw[ah _ _ h2,ah _ _ h1])
      have tT:(a.eval s).oneCell'=true:=by rcases node he ai.fit hx with⟨_,_,_,_,e,_⟩|e<;>rw[e]<;>rfl
      refine⟨a.eval s,w,G',.inl (eD ho hc ha dw (by rw[hi];exact nothing (node he ai.fit hx))),g7,.own _ _ _ _ _ ((g4 []).trans ?_) tT⟩
      rw[List.append_nil];exact hx
    ·cases ca:Nat.beq iT (nth T (nth T t).elem).size&& !iu i rd with
     |false=>rw[ca]at hk;exact hk.elim
     |true=>
     rw[ca]at hk
     simp only[cond_true]at hk
     simp only[acj,acm]at ca
     have:=abL ca.1
     subst this
     have Z8:=fj ca.2
     have HX:i∉kill:=fun hm=>Z8 (Q4 i hm)
     obtain⟨zs,hle,Bp,IW,hk⟩:=hk
     cases p with
     |nil=>
      simp[get]at yl
      subst yl
      refine cU dj hg hk (acb _) (fun q hq=>by
       rcases abO.1 hq with rfl|hq
       ·exact qZ
       ·exact I0 (fun j hj=>Q3 j (Q4 j hj)) (acb _) q hq) fun ρ' κ' aw g a w G dz ai aN=>?_
      have he:=aw.reads i (by simp)
      have hv:=wU ρ' κ' (aw.op ms) g n a w G ai aN
      have dK:=hex ρ' κ' (aw.op mx) g n a w G ai aN
      have hx:=Tn (g:=g) (κ':=κ') (w:=w) hv
      obtain⟨hs,GS,Z7⟩:=kO κ' G w _ (fun i hi=>aw.reads i (by simp[hi])) ai.fit dK
      have ez:=ai.fit.box i
      rw[he,eb]at ez
      obtain⟨v',w',G',r1,r2,r3⟩:=ai.append (κ2:=ay κ' ((i,.tree (ver+1) 0 (.aB (nth T (nth T t).elem).size (l++zs)))::eY kill)) (ty:=o.type) (i:=i) (aW:=ver+1) hT cr iw r8 dq ez.1 ez.2.1 hx (.inr ⟨ver,bX,he.trans eb,rfl,rfl⟩) GS Z7 HX hle IW Bp
       (by simp[ay]) (fun j hj=>by simp only[ay];rw[ah _ _ (by rintro rfl;exact HX hj),c6,if_pos hj]) (fun j h1 h2=>by simp only[ay];rw[ah _ _ h1,c6,if_neg h2])
      exact⟨v',w',G',.inl (eD ho hc ha dw r1),r2,r3⟩
     |cons ps pr=>
      obtain⟨hk,_⟩:=fh hk
      refine cU dj hg hk (by omega) (fun q hq=>by
       rcases abO.1 hq with rfl|hq
       ·simp
       ·rcases abO.1 hq with rfl|hq
        ·show i<nx+1;omega
        ·exact I0 (fun j hj=>Q3 j (Q4 j hj)) (by omega) q hq) fun ρ' κ' aw g a w G dz ai aN=>?_
      have he:=aw.reads i (by simp)
      have dQ:κ' nx=.none:=(aw.reads nx (by simp)).trans (hn nx (acb _))
      have hv:=wU ρ' κ' (aw.op ms) g n a w G ai aN
      have dK:=hex ρ' κ' (aw.op mx) g n a w G ai aN
      have hx:=Tn (g:=g) (κ':=κ') (w:=w) hv
      have NH:nx∉kill:=fun hm=>by have:=Gx nx (Q3 nx (Q4 nx hm));omega
      have aa9:nx∉rd:=fun hm=>by have:=Gx nx (Q3 nx hm);omega
      obtain⟨G1,g1,g2,_,g4,g7⟩:=ai.split (κ':=ay κ' [(nx,.tree 0 0 (.aB (nth T (nth T t).elem).size l)),(i,.tree ver (bX+1) (dN d (ps::pr) .any))]) (i:=i) (nx:=nx) (he.trans eb) dQ yl rfl (by simp) (by simp only[ay];rw[ah _ _ (by omega)];simp) (by simp[ay]) (fun j h1 h2=>by simp only[ay];rw[ah _ _ h2,ah _ _ h1])
      obtain⟨hs,GS,Z7⟩:=kO (ay κ' [(nx,.tree 0 0 (.aB (nth T (nth T t).elem).size l)),(i,.tree ver (bX+1) (dN d (ps::pr) .any))]) G1 w _ (fun j hj=>by simp only[ay];rw[ah _ _ (by rintro rfl;exact aa9 hj),ah _ _ (by rintro rfl;exact Z8 hj)];exact aw.reads j (by simp[hj])) g7.fit (dK.mono g1)
      have ez:=g7.fit.box nx
      have qp:ay κ' [(nx,.tree 0 0 (.aB (nth T (nth T t).elem).size l)),(i,.tree ver (bX+1) (dN d (ps::pr) .any))] nx=.tree 0 0 (.aB (nth T (nth T t).elem).size l):=by simp[ay]
      rw[qp]at ez
      obtain⟨v',w',G',r1,r2,r3⟩:=g7.append (κ2:=ay κ' ((nx,.tree 1 0 (.aB (nth T (nth T t).elem).size (l++zs)))::(i,.tree ver (bX+1) (dN d (ps::pr) .any))::eY kill)) (ty:=o.type) (i:=nx) (aW:=1) hT cr iw r8 dq ez.1 ez.2.1 (v:=a.eval s) (by rw[g4 [],List.append_nil];exact hx) (.inr ⟨0,0,qp,rfl,rfl⟩) GS Z7 NH hle IW Bp
       (by simp[ay]) (fun j hj=>by simp only[ay];rw[ah _ _ (by rintro rfl;exact NH hj),ah _ _ (by rintro rfl;exact HX hj),c6,if_pos hj]) (fun j h1 h2=>by
        simp only[ay]
        rw[ah _ _ h1,ah _ _ h1]
        by_cases e:j=i
        ·subst e;simp
        ·rw[ah _ _ e,ah _ _ e,c6,if_neg h2])
      exact⟨v',w',G',.inl (eD ho hc ha dw r1),r2,r3⟩
   |_=>exact h.elim
  ·exact h.elim
 ·exact h.elim
end
end
section
open Go.RowKit
variable [cn]
structure Xw(G:Gh)(w:World)(κ:Nat->aq)(ids:List Nat)(ds:List DV)(us:List Value)(hs:Nat->List PS->Option Value)(id:Nat->Nat):Prop where
 len:ds.length=us.length
 cell:∀(j:Nat) (d:DV) (u:Value),ds[j]?=some d->us[j]?=some u->(d.ao=false/\bu G.M d u)\/
  (d.ao=true/\id j∈ids/\br G.M w (hs j) d/\iU (hs j) d/\hs j []=some u/\∀b,bA (hs j) d b->cx G (id j) (κ (id j)) b)
 ne:∀(j j':Nat) (d d':DV),ds[j]?=some d->ds[j']?=some d'->d.ao=true->d'.ao=true->id j=id j'->j=j'
theorem vH{i:Nat}{r:List Nat}(h:fF (i::r)=true):i∉r/\fF r=true:=by
 simp only[fF,acj,acm]at h
 exact⟨fj h.1,h.2⟩
theorem I1{κ κ':Nat->aq}{G:Gh}{w:World}{v:AV}{d:DV}{ids:List Nat}(h:Sb κ v=some (d,ids))(aw:∀i,i∈ids->κ' i=κ i)(hf:Fit G w κ'){u:Value}(hv:aG G v u):
 (ids=[]/\d.ao=false/\bu G.M d u)\/∃i ver ep,ids=[i]/\κ' i=.tree ver ep d/\d.ao=true/\aH G.H i ver ep []=some u:=by
 unfold Sb at h
 split at h
 ·injection h with h;injection h with e1 e2;subst e1;subst e2
  cases hv with|dv hv=>exact .inl ⟨rfl,hv.fJ,hv⟩
 ·rename_i i ver ep
  split at h
  ·rename_i aW bX d' hk
   cases hb:Nat.beq ver aW with
   |false=>rw[hb]at h;cases h
   |true=>
    rw[hb]at h
    have:=abL hb
    subst this
    simp only[cond_true,Option.some.injEq,Prod.mk.injEq]at h
    obtain⟨rfl,rfl⟩:=h
    have eb:κ' i=.tree ver bX d':=(aw i (by simp)).trans hk
    have ez:=hf.box i
    rw[eb]at ez
    cases hv with|own _ _ _ _ _ hh hc=>exact .inr ⟨i,ver,bX,rfl,eb,ez.1.1,hh⟩
  ·cases h
 ·injection h with h;injection h with e1 e2;subst e1;subst e2
  cases hv with|fn _ _ vs hl hr=>
  have:vs=[]:=by simpa using hl.symm
  subst this
  exact .inl ⟨rfl,rfl,.fn _ [] [] rfl (by simp)⟩
 ·cases h
theorem Mx{κ κ':Nat->aq}{G:Gh}{w:World}{v:AV}{d:DV}{ids:List Nat}(h:toT κ v=some (d,ids))(aw:∀i,i∈ids->κ' i=κ i)(hf:Fit G w κ'){u:Value}(hv:aG G v u):
 (ids=[]/\d.ao=false/\bu G.M d u)\/∃i ver ep,ids=[i]/\κ' i=.tree ver ep d/\d.ao=true/\aH G.H i ver ep []=some u:=I1 (v:=dn v) h aw hf (AF hv)
theorem oa{κ κ':Nat->aq}{G:Gh}{w:World}(hf:Fit G w κ'):∀{vs:List AV} {ds:List DV} {ids:List Nat} {us:List Value},sN κ vs=some (ds,ids)->fF ids=true->(∀i,i∈ids->κ' i=κ i)->cj G vs us->∃hs id,Xw G w κ' ids ds us hs id
 |[],ds,ids,us,h,_,_,hr=>by
  simp[sN]at h
  obtain⟨rfl,rfl⟩:=h
  have:us=[]:=by have:=hr.1;simpa using this.symm
  subst this
  exact⟨fun _ _=>none,fun _=>0,rfl,by simp,by simp⟩
 |v::vs,ds,ids,us,h,dj,aw,hr=>by
  simp only[sN]at h
  split at h
  ·rename_i d i l j h1 h2
   simp only[Option.some.injEq,Prod.mk.injEq]at h
   obtain⟨rfl,rfl⟩:=h
   match us,hr with
   |[],hr=>have:=hr.1;simp at this
   |u::us,hr=>
    have rk:fF j=true/\∀q,q∈i->q∉j:=by
     clear h1 h2 hr aw
     induction i with
     |nil=>exact⟨dj,by simp⟩
     |cons q i ih=>
      obtain⟨a1,a2⟩:=vH dj
      obtain⟨b1,b2⟩:=ih a2
      refine⟨b1,fun q' GO=>?_⟩
      rcases abO.1 GO with rfl|GO
      ·exact fun hm=>a1 (abQ.2 (.inr hm))
      ·exact b2 q' GO
    obtain⟨hs,id,dX⟩:=oa hf h2 rk.1 (fun q hq=>aw q (abQ.2 (.inr hq))) (us:=us) ⟨by simpa using hr.1,fun q e y he hy=>hr.2 (q+1) e y (by simpa using he) (by simpa using hy)⟩
    have h0:=Mx h1 (fun q hq=>aw q (abQ.2 (.inl hq))) hf (hr.2 0 v u rfl rfl)
    rcases h0 with⟨rfl,h3,h4⟩|⟨q,ver,ep,rfl,h3,h4,h5⟩
    ·refine⟨fun n=>match n with|0=>fun _=>none|n+1=>hs n,fun n=>match n with|0=>0|n+1=>id n,⟨by simp[dX.len],fun n e y he hy=>?_,fun n n' e e' he Kz ho jz heq=>?_⟩⟩
     ·cases n with
      |zero=>simp at he hy;subst he;subst hy;exact .inl ⟨h3,h4⟩
      |succ n=>simp at he hy;simpa using dX.cell n e y he hy
     ·cases n with
      |zero=>simp at he;subst he;rw[h3]at ho;cases ho
      |succ n=>
       cases n' with
       |zero=>simp at Kz;subst Kz;rw[h3]at jz;cases jz
       |succ n'=>simp at he Kz;rw[dX.ne n n' e e' he Kz ho jz heq]
    ·have ez:=hf.box q
     rw[h3]at ez
     refine⟨fun n=>match n with|0=>aH G.H q ver ep|n+1=>hs n,fun n=>match n with|0=>q|n+1=>id n,⟨by simp[dX.len],fun n e y he hy=>?_,fun n n' e e' he Kz ho jz heq=>?_⟩⟩
     ·cases n with
      |zero=>simp at he hy;subst he;subst hy;exact .inr ⟨h4,by simp,ez.1,ez.2.1,h5,fun b hb=>by rw[h3];exact hb⟩
      |succ n=>
       simp at he hy
       rcases dX.cell n e y he hy with h6|⟨a1,a2,a3⟩
       ·exact .inl h6
       ·exact .inr ⟨a1,by simp[a2],a3⟩
     ·have inj:∀n e,l[n]?=some e->e.ao=true->id n∈j:=by
       intro n e he ho
       have hn:n<us.length:=by rw[<-dX.len];exact(abI.1 he).1
       rcases dX.cell n e _ he (aaj hn)with⟨a1,_⟩|⟨_,a2,_⟩
       ·rw[ho]at a1;cases a1
       ·exact a2
      cases n with
      |zero=>
       cases n' with
       |zero=>rfl
       |succ n'=>simp at Kz heq;exact absurd (inj n' e' Kz jz) (heq▸rk.2 q (by simp))
      |succ n=>
       cases n' with
       |zero=>simp at he heq;exact absurd (inj n e he ho) (heq▸rk.2 q (by simp))
       |succ n'=>simp at he Kz;rw[dX.ne n n' e e' he Kz ho jz heq]
  ·cases h
theorem Xw.le{G:Gh}{w:World}{κ:Nat->aq}{ids:List Nat}{ds L0:List DV}{us:List Value}{hs:Nat->List PS->Option Value}{id:Nat->Nat}(h:Xw G w κ ids ds us hs id)(hle:mc ds L0)(h1:∀u,u∈us->u.oneCell'=true):Xw G w κ ids L0 us hs id/\∀d,d∈L0->d.aj=true:=by
 have key:∀(j:Nat) (d':DV) (u:Value),L0[j]?=some d'->us[j]?=some u->∃d,ds[j]?=some d/\((d.ao=true/\d=d')\/(d.ao=false/\bu G.M d' u)):=by
  intro j d' u kA hu
  have hj:j<ds.length:=by rw[hle.length];exact(abI.1 kA).1
  refine⟨ds[j],aaj hj,?_⟩
  rcases hle.at j _ d' (aaj hj) kA with h2|⟨h2,h3⟩
  ·exact .inl h2
  ·rcases h.cell j _ u (aaj hj) hu with⟨_,h4⟩|⟨h4,_⟩
   ·exact .inr ⟨h2,h3 G.M u h4⟩
   ·rw[h2]at h4;cases h4
 have hlen:L0.length=us.length:=by rw[<-hle.length];exact h.len
 refine⟨⟨hlen,fun j d' u kA hu=>?_,fun j j' d d' hd kA ho jz heq=>?_⟩,fun d' kA=>?_⟩
 ·obtain⟨d,hd,hc⟩:=key j d' u kA hu
  rcases hc with⟨_,rfl⟩|⟨_,h3⟩
  ·exact h.cell j d u hd hu
  ·exact .inl ⟨h3.fJ,h3⟩
 ·have q:∀(j:Nat) (d:DV),L0[j]?=some d->d.ao=true->ds[j]?=some d:=by
   intro j d hd ho
   have hj:j<us.length:=by rw[<-hlen];exact(abI.1 hd).1
   obtain⟨d0,h2,hc⟩:=key j d _ hd (aaj hj)
   rcases hc with⟨_,rfl⟩|⟨_,h3⟩
   ·exact h2
   ·rw[h3.fJ]at ho;cases ho
  exact h.ne j j' d d' (q j d hd ho) (q j' d' kA jz) ho jz heq
 ·obtain⟨j,hj⟩:=ab3 kA
  have Gy:j<us.length:=by rw[<-hlen];exact(abI.1 hj).1
  obtain⟨d,_,hc⟩:=key j d' _ hj (aaj Gy)
  rcases hc with⟨h2,rfl⟩|⟨_,h3⟩
  ·exact jx h2
  ·exact h3.aj (h1 _ (acf Gy))
theorem wu{x:DV}{off:Nat}{ds:List DV}{K:DV->Prop}(h:A5 x off ds K):∃y,K y/\((∀d,d∈ds->d.aj=true)->off+ds.length<=x.cells.length/\y.cells=nI x.cells off ds/\y.isAgg=x.isAgg):=by
 unfold A5 at h
 split at h
 ·rename_i l
  cases hb:Nat.ble (off+ds.length) l.length with
  |false=>rw[hb]at h;exact h.elim
  |true=>rw[hb]at h;exact⟨_,h,fun _=>⟨Nat.le_of_ble_eq_true hb,rfl,rfl⟩⟩
 ·rename_i b7
  split at h
  ·rename_i d
   refine⟨d,h,fun hc=>?_⟩
   have hd:=hc d (by simp)
   refine⟨?_,?_,?_⟩
   ·cases x<;>first|exact(b7 _ rfl).elim|simp[DV.cells]
   ·cases d<;>cases x<;>first|exact(b7 _ rfl).elim|(cases hd;done)|rfl
   ·cases d<;>cases x<;>first|exact(b7 _ rfl).elim|(cases hd;done)|rfl
  ·exact h.elim
theorem oc{l ds:List DV}{off j:Nat}(hle:off+ds.length<=l.length):(nI l off ds)[j]?=if off<=j/\j<off+ds.length then ds[j-off]? else l[j]?:=by
 unfold nI
 rw[ab8,List.getElem?_append]
 simp only[ab2]
 rw[show min off l.length=off by omega]
 by_cases h1:j<off
 ·rw[if_pos h1,if_neg (by omega),List.getElem?_take,if_pos h1]
 ·rw[if_neg h1,List.getElem?_append]
  by_cases h2:j-off<ds.length
  ·rw[if_pos h2,if_pos (by omega)]
  ·rw[if_neg h2,if_neg (by omega),List.getElem?_drop]
   congr 1;omega
theorem pQ{l ds:List DV}{off:Nat}(hle:off+ds.length<=l.length):(nI l off ds).length=l.length:=by simp[nI];omega
theorem zG{l us:List Value}{off j:Nat}(hle:off+us.length<=l.length):(l.take off++us++l.drop (off+us.length))[j]?=if off<=j/\j<off+us.length then us[j-off]? else l[j]?:=by
 rw[ab8,List.getElem?_append]
 simp only[ab2]
 rw[show min off l.length=off by omega]
 by_cases h1:j<off
 ·rw[if_pos h1,if_neg (by omega),List.getElem?_take,if_pos h1]
 ·rw[if_neg h1,List.getElem?_append]
  by_cases h2:j-off<us.length
  ·rw[if_pos h2,if_pos (by omega)]
  ·rw[if_neg h2,if_neg (by omega),List.getElem?_drop]
   congr 1;omega
theorem Gz{sz idx off:Nat}{nd:DV}{ds:List DV}{K:List DV->DV->Prop}(h:E2 sz idx off nd ds K):
 ∃z7 FG,K z7 FG/\nd.ao=true/\((∀d,d∈ds->d.aj=true)->nd.ao=true/\FG.ao=true/\
  (∀s c,step FG s=some c->(∃j,s=.el idx j/\off<=j/\j<off+ds.length/\ds[j-off]?=some c)\/((∀j,s=.el idx j->¬(off<=j/\j<off+ds.length))/\step nd s=some c))/\
  (∀j c,step nd (.el idx j)=some c->off<=j->j<off+ds.length->c∈z7)/\
  ∀(M:Mem) (w:World) (v:Value) (lF:PS->Option Value),cD M w v lF nd->∃g o c t,cF v=some g/\w.heap[g]?=some (.cells c t (0,0))/\o+ds.length<=c.size/\
   (∀A,(v=.pointer (some A)\/∃m q,v=.slice (some A) m q)->A.add (idx*sz+off)=⟨g,o,none⟩)/\
   ∀(us:List Value) (oh:PS->Option Value) (w':World),us.length=ds.length->w'.heap[g]?=some (.cells (c.toList.take o++us++c.toList.drop (o+us.length)).toArray t (0,0))->
    (∀s,(∀j,s=.el idx j->¬(off<=j/\j<off+ds.length))->oh s=lF s)->(∀(j:Nat) (d:DV) (u:Value),ds[j]?=some d->us[j]?=some u->dF M (oh (.el idx (off+j))) d u)->cD M w' v oh FG):=by
 unfold E2 at h
 split at h
 ·rename_i iT l
  cases hb:Nat.beq sz iT with
  |false=>rw[hb]at h;exact h.elim
  |true=>
   rw[hb]at h
   have:=abL hb
   subst this
   obtain⟨x,hx,h⟩:=h
   obtain⟨y,h,QS⟩:=wu h
   have Fs:idx<l.length:=(abI.1 hx).1
   refine⟨_,_,h,rfl,fun hc=>?_⟩
   obtain⟨hle,hy,_⟩:=QS hc
   refine⟨rfl,rfl,fun s c hs=>?_,fun j c hs h1 h2=>?_,fun M w v lF aZ=>?_⟩
   ·cases s with
    |key=>simp[step]at hs
    |el i j=>
     simp only[step]at hs
     by_cases e:idx=i
     ·subst e
      rw[List.getElem?_set_self Fs]at hs
      simp only[hy]at hs
      rw[oc hle]at hs
      split at hs
      ·rename_i hr;exact .inl ⟨j,rfl,hr.1,hr.2,hs⟩
      ·rename_i hr
       refine .inr ⟨fun j' e'=>?_,by simp only[step,hx];exact hs⟩
       injection e' with _ e';subst e';exact hr
     ·rw[List.getElem?_set_ne e]at hs
      refine .inr ⟨fun j' e'=>?_,hs⟩
      injection e' with e' _;exact absurd e'.symm e
   ·simp only[step,hx]at hs
    refine abK (i:=j-off) ?_
    rw[List.getElem?_take,if_pos (by omega),List.getElem?_drop,show off+(j-off)=j by omega]
    exact hs
   ·rcases aZ with⟨rfl,_⟩|⟨g,o,cap,c,t,rfl,dI,hw,aV,qp⟩
    ·simp at hx
    ·obtain⟨a1,a2⟩:=qp idx x hx
     have cP:o+idx*sz+off+ds.length<=c.size:=by
      have:(idx+1)*sz<=cap*sz:=acd _ (by omega)
      rw[Nat.add_mul]at this
      omega
     refine⟨g,o+idx*sz+off,c,t,rfl,hw,cP,fun A hA=>?_,fun us oh w' rp KR ow ki=>?_⟩
     ·rcases hA with hA|⟨_,_,hA⟩
      ·cases hA
      ·injection hA with hA;injection hA with hA;subst hA;rw[eO];congr 1;omega
     ·refine .inr ⟨g,o,cap,_,t,by simp,by simpa using dI,KR,by simp[rp];omega,fun i z hz=>?_⟩
      have oT:∀q,(c.toList.take (o+idx*sz+off)++us++c.toList.drop (o+idx*sz+off+us.length)).toArray[q]?=if o+idx*sz+off<=q/\q<o+idx*sz+off+us.length then us[q-(o+idx*sz+off)]? else c[q]?:=fun q=>by
       rw[List.getElem?_toArray,zG (by simp;omega)]
       simp
      by_cases e:idx=i
      ·subst e
       rw[List.getElem?_set_self Fs]at hz
       injection hz with hz
       subst hz
       rw[hy,pQ hle]
       refine⟨a1,fun j d hd=>?_⟩
       rw[oc hle]at hd
       split at hd
       ·rename_i hr
        have Gy:j-off<us.length:=by omega
        refine⟨hc d (abK hd),us[j-off],?_,?_⟩
        ·rw[oT,if_pos (by omega),show o+idx*sz+j-(o+idx*sz+off)=j-off by omega];exact aaj Gy
        ·have:=ki (j-off) d _ hd (aaj Gy)
         rwa[show off+(j-off)=j by omega]at this
       ·rename_i hr
        obtain⟨b1,u,b2,b3⟩:=a2 j d hd
        refine⟨b1,u,by rw[oT,if_neg (by omega)];exact b2,?_⟩
        rw[ow (.el idx j) (fun j' e'=>by injection e' with _ e';subst e';exact hr)];exact b3
      ·rw[List.getElem?_set_ne e]at hz
       obtain⟨b1,b2⟩:=qp i z hz
       refine⟨b1,fun j d hd=>?_⟩
       obtain⟨c1,u,c2,c3⟩:=b2 j d hd
       have hj:j<sz:=by rw[<-b1];exact(abI.1 hd).1
       refine⟨c1,u,?_,?_⟩
       ·rw[oT,if_neg ?_];exact c2
        rintro⟨q1,q2⟩
        rw[rp]at q2
        have QL:off+ds.length<=sz:=by rw[<-a1];exact hle
        rcases ab1 i idx with au|gH
        ·have:=acd sz (show i+1<=idx from au);rw[Nat.add_mul]at this;omega
        ·have:=acd sz (show idx+1<=i by omega);rw[Nat.add_mul]at this;omega
       ·rw[ow (.el i j) (fun j' e'=>by injection e' with e' _;exact absurd e'.symm e)];exact c3
 ·rename_i x
  cases hb:Nat.beq idx 0 with
  |false=>rw[hb]at h;exact h.elim
  |true=>
   rw[hb]at h
   have:=abL hb
   subst this
   simp only[cond_true]at h
   obtain⟨y,h,QS⟩:=wu h
   refine⟨_,_,h,rfl,fun hc=>?_⟩
   obtain⟨hle,hy,_⟩:=QS hc
   refine⟨rfl,rfl,fun s c hs=>?_,fun j c hs h1 h2=>?_,fun M w v lF aZ=>?_⟩
   ·cases s with
    |key=>simp[step]at hs
    |el i j=>
     simp only[step]at hs
     cases ng:Nat.beq i 0 with
     |false=>rw[ng]at hs;cases hs
     |true=>
      rw[ng]at hs
      have:=abL ng
      subst this
      simp only[cond_true,hy]at hs
      rw[oc hle]at hs
      split at hs
      ·rename_i hr;exact .inl ⟨j,rfl,hr.1,hr.2,hs⟩
      ·rename_i hr
       refine .inr ⟨fun j' e'=>?_,by simp[step];exact hs⟩
       injection e' with _ e';subst e';exact hr
   ·simp[step]at hs
    refine abK (i:=j-off) ?_
    rw[List.getElem?_take,if_pos (by omega),List.getElem?_drop,show off+(j-off)=j by omega]
    exact hs
   ·obtain⟨g,c,t,rfl,hw,aV,qp⟩:=aZ
    refine⟨g,off,c,t,rfl,hw,by omega,fun A hA=>?_,fun us oh w' rp KR ow ki=>?_⟩
    ·rcases hA with hA|⟨_,_,hA⟩
     ·injection hA with hA;injection hA with hA;subst hA;rw[eO];congr 1;omega
     ·cases hA
    ·refine⟨g,_,t,rfl,KR,by rw[hy,pQ hle];simp[rp];omega,fun j d hd=>?_⟩
     have oT:∀q,(c.toList.take off++us++c.toList.drop (off+us.length)).toArray[q]?=if off<=q/\q<off+us.length then us[q-off]? else c[q]?:=fun q=>by
      rw[List.getElem?_toArray,zG (by simp;omega)]
      simp
     rw[hy,oc hle]at hd
     split at hd
     ·rename_i hr
      have Gy:j-off<us.length:=by omega
      refine⟨hc d (abK hd),us[j-off],by rw[oT,if_pos (by omega)];exact aaj Gy,?_⟩
      have:=ki (j-off) d _ hd (aaj Gy)
      rwa[show off+(j-off)=j by omega]at this
     ·rename_i hr
      obtain⟨b1,u,b2,b3⟩:=qp j d hd
      refine⟨b1,u,by rw[oT,if_neg (by omega)];exact b2,?_⟩
      rw[ow (.el 0 j) (fun j' e'=>by injection e' with _ e';subst e';exact hr)];exact b3
 ·exact h.elim
end
end Go.TM
