import Derived.Test.YtpbiiigpphehbaaGreatDoorFM9
set_option linter.all false
namespace Go.TM
section
open Go.RowKit
variable [cj]
section
variable {g:dO} {n:Nat} {ρ:Nat->AV} {κ κ':Nat->ar} {a:Act} {w w':World} {G:Gh}
theorem cu.KK(h:cu g n ρ κ a w G){i b:Nat}{l l':List AV}{vs:Array Value}{t:TypeId}(hi:κ i=.cells l)(hb:G.β i=some b)(kD:κ' i=.cells l')(oF:∀j,j≠i->κ' j=κ j)
 (hw:w'.heap[b]?=some (.cells vs t (0,0))) (hl:cb G l' vs.toList) (hc:∀v,v∈l'->v.ai=true) (aW:w.heap.size<=w'.heap.size) (fJ:∀k,k<w.heap.size->k≠b->w'.heap[k]?=w.heap[k]?)
 (Q7:w'.os=w.os) (Q8:w'.tape=w.tape) (gz:w'.output=w.output):cu g n ρ κ' a w' G:=by
 have gn:cx G i (κ i) b:=by rw[hi];exact hb
 refine h.r6 (C:=fun j=>j=i) ⟨Gh.Le.refl G,fun _ _=>rfl,oF,fun j _=>⟨fun _ q=>q,fun _ _ _ _ q=>q⟩,fun k hk c6=>⟨fJ k hk fun e=>c6 i rfl (by rw[e];exact gn),rfl⟩,fun k o hk=>?_,?_,?_,fun j j' k e1 e2 _ _=>by rw[e1,e2],aW,Q7,Q8,gz⟩ (fun _ _=>rfl)
 ·have h1:=h.fit.sub k o hk
  rw[fJ k (abN.1 h1).1 fun e=>?_]
  ·exact h1
  ·rw[e]at hk;rw[h.fit.own i b gn]at hk;cases hk
 ·rintro j rfl
  rw[kD]
  exact⟨b,vs,t,hb,hw,by have:=hl.1;simp at this;omega,hc,fun j d v hd hv=>hl.2 j d v hd (by simpa using hv)⟩
 ·rintro j k rfl ho
  rw[kD]at ho
  have:cx G j (κ j) k:=by rw[hi];exact ho
  exact⟨.inr ⟨j,rfl,this⟩,h.fit.own j k this⟩
theorem cu.r7(h:cu g n ρ κ a w G){i:Nat}{d:DV}(D:Nat->Prop)(h':List PS->Option Value)(hDi:¬D i)(hi:κ i=.none)(iW:∀j,D j->κ' j=.dead)(kD:κ' i=.tree 0 0 d)(oF:∀j,j≠i->¬D j->κ' j=κ j)
 (ht:bu G.M w' h' d) (gA:iR h' d) (gn:∀b,bA h' d b->w.heap.size<=b\/∃j,D j/\cx G j (κ j) b) (fJ:∀b,b<w.heap.size->(∀j,D j->¬cx G j (κ j) b)->w'.heap[b]?=w.heap[b]?)
 (aW:w.heap.size<=w'.heap.size) (Q7:w'.os=w.os) (Q8:w'.tape=w.tape) (gz:w'.output=w.output):
 ∃G',Gh.Le G G'/\G'.M=G.M/\(∀p,aJ G'.H i 0 0 p=h' p)/\cu g n ρ κ' a w' G':=by
 have hb:=h.fit.box i
 rw[hi]at hb
 obtain⟨G',h1,h2,_,h4,_,_,h7⟩:=h.lG (κ':=κ') (i:=i) (ver:=0) (ep:=0) (d:=d) D h' hDi (.inl hi) iW kD oF (fun p x hx=>by cases p<;>simp[aJ,hb.2]at hx) ht gA
  (fun b dI=>(gn b dI).imp id fun h=>.inr h) (fun b dI _ hD=>fJ b dI hD) (fun b dI=>by
   rcases dI with h1|⟨j,_,h1⟩
   ·rw[hi]at h1;exact h1.elim
   ·exact h.fit.own j b h1) aW Q7 Q8 gz
 exact⟨G',h1,h2,h4,h7⟩
end
section
variable {P:Program} {C:dO->Prop} {T:List TI} {ops:List Oper} {n:Nat} {o:Oper} {nx:Nat} {ρ:Nat->AV} {κ:Nat->ar} {k:lj->Nat->Prop} {gd:Bool}
theorem lH{w:World}(e:TypeId)(c:Array Value):(newRow e c).run P w=.ok ⟨w.heap.size,0,none⟩ (w.alloc (.cells c e)):=by
 simp[newRow,run_newObj]
theorem xl(G:Gh){t:Nat}{ti:TI}{i:TypeInfo}{u:TypeDesc}{z:Value}(tf:gr P t ti i u z):cb G (eB ti.zero) z.cells.toList/\∀v,v∈eB ti.zero->v.ai=true:=by
 obtain⟨h3,h4⟩:=eJ (M:=G.M) tf.zc
 refine⟨iX h3,fun v hv=>?_⟩
 rw[qN]at hv
 obtain⟨d,hd,rfl⟩:=ab1.1 hv
 exact(h4 d hd).1
theorem MV(hT:eV P T){t:Nat}(hg:b5 ρ ops o.guard=some gd)(ho:o.op=.alloc t)(cB:(nth T t).ok=true)(oG:κ nx=.none)
 (hk:dR n o (nx+1) k (.ptr nx 0) [(nx,.cells (eB (nth T t).zero))] [nx]):Good P C ops n o nx ρ κ k:=by
 obtain⟨i,u,z,tf⟩:=hT.facts cB
 refine cZ (fun c=>by rw[ho];simp) hg hk (by omega) (by simp) fun ρ' κ' ax g a w G dz aj aP=>?_
 have ec:κ' nx=.none:=(ax.reads nx (by simp)).trans oG
 obtain⟨hz,hc⟩:=xl G tf
 obtain⟨G',h1,h2,h3⟩:=aj.xm ec dz t hz hc
 refine⟨.pointer (some ⟨w.heap.size,0,none⟩),w.alloc (.cells z.cells t),G',.inl ?_,h2,.ptr nx 0 _ h3⟩
 simp[execOp,ho,Instr.alloc,tf.r8 w,newVar,lH]
theorem Un{t:Nat}{x:Operand}{av:AV}(hg:b5 ρ ops o.guard=some gd)(ho:o.op=.box t x)(oG:κ nx=.none)(hc:b9 (cellsOf av)=true)
 (hk:dR n o (nx+1) k (.ptr nx 0) [(nx,.cells (cellsOf av))] [nx]) (bO:bC ρ κ gd x av):Good P C ops n o nx ρ κ k:=by
 refine cZ (fun c=>by rw[ho];simp) hg hk (by omega) (by simp) fun ρ' κ' ax g a w G dz aj aP=>?_
 have ec:κ' nx=.none:=(ax.reads nx (by simp)).trans oG
 have hv:=bO ρ' κ' (ax.op (by rw[ho];simp[Op.operands])) g n a w G aj aP
 obtain⟨G',h1,h2,h3⟩:=aj.xm (vs:=(a.eval x).cells) ec dz t (mq hv hc) (fK hc)
 refine⟨.pointer (some ⟨w.heap.size,0,none⟩),w.alloc (.cells (a.eval x).cells t),G',.inl ?_,h2,.ptr nx 0 _ h3⟩
 simp[execOp,ho,Instr.box,newVar,lH]
theorem BY(hT:eV P T){t i off:Nat}{x y:Operand}{av:AV}{l:List AV}(hg:b5 ρ ops o.guard=some gd)(ho:o.op=.store t x y)(cB:(nth T t).ok=true)(hb:κ i=.cells l)
 (aW:(cellsOf av).length=(nth T t).size) (hc:b9 (cellsOf av)=true) (hle:off+(nth T t).size<=l.length)
 (hk:dR n o nx k .any [(i,.cells (iB l off (cellsOf av)))] [i]) (dP:i<nx) (bO:bC ρ κ gd x (.ptr i off)) (Jg:bC ρ κ gd y av):Good P C ops n o nx ρ κ k:=by
 obtain⟨ti,u,z,tf⟩:=hT.facts cB
 refine cZ (fun c=>by rw[ho];simp) hg hk (ab3 _) (by simpa using dP) fun ρ' κ' ax g a w G dz aj aP=>?_
 have eu:κ' i=.cells l:=(ax.reads i (by simp)).trans hb
 have hv:=bO ρ' κ' (ax.op (by rw[ho];simp[Op.operands])) g n a w G aj aP
 have dF:=Jg ρ' κ' (ax.op (by rw[ho];simp[Op.operands])) g n a w G aj aP
 have jr:=mq dF hc
 have tO:=aj.fit.box i
 rw[eu]at tO
 obtain⟨b,c,tt,hbe,hw,Az,mX,hr⟩:=tO
 generalize hx:a.eval x=v at hv
 cases hv with
 |ptr _ _ b' BZ=>
 rw[hbe]at BZ;injection BZ with BZ;subst BZ
 have hlen:(a.eval y).cells.toList.length=(nth T t).size:=by rw[<-jr.1,aW]
 have iu:=run_storeCells_at P b off tt (a.eval y).cells.toList 0 c w hw (by rw[hlen];omega) (jr.cQ hc)
 simp only[Nat.add_zero]at iu
 have hold:cb G l c.toList:=⟨by simp[Az],fun j d v hd hv=>hr j d v hd (by simpa using hv)⟩
 refine⟨undef,w.setRow b (c.toList.take off++(a.eval y).cells.toList++c.toList.drop (off+(a.eval y).cells.toList.length)).toArray,G,.inr ⟨?_,rfl⟩,
  aj.KK (l':=iB l off (cellsOf av)) (t:=tt) eu hbe (by simp[ay]) (fun j hj=>by simp[ay,ah _ _ hj]) (setRow_heap w b c _ tt _ hw) ?_ ?_ (by simp) (fun k _ ck=>setRow_other w b k _ ck) rfl rfl rfl,.any _⟩
 ·have js:(a.eval y).cells.size=(nth T t).size:=by simpa using hlen
  simp only[execOp,ho,hx,Instr.storeAt,Instr.sureAddr,Sem.run_bind,Sem.run_pure,Result.andThen_ok,storeVar,tf.fL w,js,ne_eq,not_true_eq_false,if_false]
  rw[iu]
  rfl
 ·simpa using hold.iB jr off (by rw[aW];exact hle)
 ·intro v hv
  unfold iB at hv
  rcases abI.1 hv with hv|hv
  ·rcases abI.1 hv with hv|hv
   ·exact mX v (List.mem_of_mem_take hv)
   ·exact fK hc v hv
  ·exact mX v (List.mem_of_mem_drop hv)
theorem mr{i:Nat}:∀{l:List Nat},iw i l=true->i∈l
 |[],h=>by simp[iw]at h
 |j::r,h=>by
  simp only[iw,Bool.or_eq_true]at h
  rcases h with h|h
  ·rw[abD h];simp
  ·exact abH _ (mr h)
theorem fa{i:Nat}:∀{l:List Nat},iw i l=false->i∉l
 |[],_=>by simp
 |j::r,h=>by
  simp only[iw,Bool.or_eq_false_iff]at h
  have h2:=fa h.2
  intro hm
  rcases abG.1 hm with rfl|hm
  ·have:=h.1
   simp[Nat.beq_refl]at this
  ·exact h2 hm
theorem cT{γ:Nat->ar}:∀{ids:List Nat} (j:Nat),ay γ (eK ids) j=if j∈ids then .dead else γ j
 |[],j=>by simp[eK,ay]
 |i::r,j=>by
  simp only[eK,ay]
  by_cases e:j=i
  ·subst e;simp
  ·rw[ah _ _ e,cT j];simp[e]
theorem j5{v:AV}{q:(sz:Nat)->List DV->List Nat->List Nat->Prop}{nl:Prop}(h:oH κ v q nl):
 (v=.dv .az/\nl)\/∃(sz:Nat) (ys:List DV) (rd kill:List Nat),q sz ys rd kill/\(∀j,j∈rd->∃v e d,κ j=.tree v e d)/\(∀j,j∈kill->j∈rd)/\
  ∀κ' G w x,(∀i,i∈rd->κ' i=κ i)->Fit G w κ'->aH G v x->∃hs,Src G.M w x sz ys hs/\∀b,bA hs (.aB sz ys) b->∃j,j∈kill/\cx G j (κ' j) b:=by
 unfold oH at h
 split at h
 ·rename_i sz l
  refine .inr ⟨sz,l,[],[],h,by simp,by simp,fun κ' G w x _ hf hv=>⟨fun _=>none,?_,?_⟩⟩
  ·cases hv with|dv hv=>
   refine .closed ((qO.Xq hf.sub hv).mono rfl fun i x y hx hy=>?_) rfl
   rw[hx]at hy;injection hy with hy;subst hy
   refine⟨rfl,fun j d e u hd he B0 hS=>?_⟩
   rw[hd]at he;injection he with he;subst he
   exact⟨B0,hS.fH,hS⟩
  ·rintro b ⟨_,_,_,_,_,q,_⟩;cases q
 ·exact .inl ⟨rfl,h⟩
 ·rename_i i ver ep p
  split at h
  ·rename_i aY bY d eu
   cases hb:Nat.beq ver aY&&(emp p||Nat.beq ep bY)with
   |false=>rw[hb]at h;exact h.elim
   |true=>
    rw[hb]at h
    simp only[cond_true]at h
    obtain⟨rfl,dG⟩:=dA hb
    obtain⟨nd,h,dh⟩:=bU h
    have dh:=dh rfl
    cases nd with
    |aB sz l=>
     have Xr:∀{G:Gh} {κ':Nat->ar} {w:World} {x:Value},κ' i=κ i->Fit G w κ'->aH G (.own i ver ep p) x->aJ G.H i ver bY p=some x:=by
      intro G κ' w x he hf hv
      cases hv with|own _ _ _ _ _ hh hc=>rw[<-cR dG];exact hh
     rcases h with⟨mX,h⟩|⟨rfl,hq⟩
     ·refine .inr ⟨sz,l,[i],[],h,by simp[eu],by simp,fun κ' G w x ax hf hv=>⟨fun _=>none,?_,?_⟩⟩
      ·have he:=ax i (by simp)
       have hx:=Xr he hf hv
       obtain⟨u,h1,h2,h3⟩:=hf.node (he.trans eu) dh rfl
       rw[hx]at h1;injection h1 with h1;subst h1
       refine .closed ?_ rfl
       have h4:wh w x sz l fun i j d u=>d.ao=false/\bz G.M d u:=by
        rcases fM.1 h3 with h3|⟨g,o,cap,c,t,a1,a2,a3,a4,a5⟩
        ·exact .inl h3
        ·refine .inr ⟨g,o,cap,c,t,a1,a2,a3,a4,fun i y hy=>⟨(a5 i y hy).1,fun j d hd=>?_⟩⟩
         obtain⟨b1,u,b2,b3⟩:=(a5 i y hy).2 j d hd
         have B0:=mX y (abC hy) d (abC hd)
         refine⟨b1,u,b2,B0,?_⟩
         rcases b3 with⟨c1,_⟩|⟨_,c2⟩
         ·rw[B0]at c1;cases c1
         ·exact c2
       exact qO.MW h4 fun i j d u hr hc=>hr.2.cQ hc
      ·rintro b ⟨_,_,_,_,_,q,_⟩;cases q
     ·refine .inr ⟨sz,l,[i],[i],hq,by simp[eu],by simp,fun κ' G w x ax hf hv=>?_⟩
      have he:=ax i (by simp)
      have hx:=Xr he hf hv
      have eE:=hf.box i
      rw[he,eu]at eE
      simp[get]at dh
      subst dh
      refine⟨aJ G.H i ver bY,.tree eE.1 eE.2.1 hx,fun b hb=>⟨i,by simp,?_⟩⟩
      rw[he,eu];exact hb
    |_=>exact h.elim
  ·exact h.elim
 ·rename_i i ver ep p sz lo m
  split at h
  ·rename_i aY bY d eu
   cases hb:Nat.beq ver aY&&(emp p||Nat.beq ep bY)with
   |false=>rw[hb]at h;exact h.elim
   |true=>
    rw[hb]at h
    simp only[cond_true]at h
    obtain⟨rfl,dG⟩:=dA hb
    obtain⟨nd,h,dh⟩:=bU h
    have dh:=dh rfl
    cases nd with
    |aB qP l=>
     simp only at h
     cases hz:Nat.beq sz qP with
     |false=>rw[hz]at h;exact h.elim
     |true=>
     rw[hz]at h
     have:=abD hz
     subst this
     obtain⟨hlen,mX,h⟩:=h
     refine .inr ⟨sz,(l.drop lo).take m,[i],[],h,by simp[eu],by simp,fun κ' G w x ax hf hv=>⟨fun _=>none,?_,?_⟩⟩
     ·have he:=ax i (by simp)
      obtain⟨u,h1,h2,h3⟩:=hf.node (he.trans eu) dh rfl
      have DQ:((l.drop lo).take m).length=m:=by simp;omega
      refine .closed ?_ rfl
      cases hv with|pre _ _ _ _ _ _ _ q cp hh=>
      by_cases hm:m=0
      ·subst hm
       cases q with
       |none=>exact .inl ⟨cp,rfl,by simp⟩
       |some A=>exact .inr ⟨A,cp,fun _ _=>undef,by simp,fun i x hx=>by simp at hx⟩
      ·obtain⟨A,N,c',B1,rfl⟩:=hh hm
       rw[cR dG,h1]at B1
       injection B1 with B1
       rcases fM.1 h3 with⟨rfl,_⟩|⟨g,o,cap,c,t,rfl,a2,a3,a4,a5⟩
       ·simp at hlen;omega
       injection B1 with hA _ _
       injection hA with hA
       subst hA
       refine .inr ⟨_,cp,fun a b=>c.getD (o+(lo+a)*sz+b) undef,by rw[DQ],fun a y hy=>?_⟩
       have hy':l[lo+a]?=some y:=by
        rw[List.getElem?_take]at hy
        split at hy
        ·rwa[List.getElem?_drop]at hy
        ·cases hy
       obtain⟨b1,b2⟩:=a5 _ y hy'
       refine⟨b1,fun j d hd=>?_⟩
       obtain⟨d1,u,d2,d3⟩:=b2 j d hd
       have e:c.getD (o+(lo+a)*sz+j) undef=u:=by rw[abK,d2];rfl
       have B0:=mX y (abC hy') d (abC hd)
       have hr:bz G.M d u:=by
        rcases d3 with⟨c1,_⟩|⟨_,c2⟩
        ·rw[B0]at c1;cases c1
        ·exact c2
       refine⟨d1,?_,?_,B0,?_⟩
       ·rw[cG,eL]
        simp only[World.cell?,a3]
        rw[show o+(lo*sz+(a*sz+j))=o+(lo+a)*sz+j by rw[Nat.add_mul];omega,e]
        simpa using d2
       ·show(c.getD (o+(lo+a)*sz+j) undef).oneCell'=true
        rw[e];exact hr.cQ d1
       ·show bz G.M d (c.getD (o+(lo+a)*sz+j) undef)
        rw[e];exact hr
     ·rintro b ⟨_,_,_,_,_,q,_⟩;cases q
    |_=>exact h.elim
  ·exact h.elim
 ·exact h.elim
theorem ed{c:Call}{s x:Operand}{t:Nat}{a:Act}{w w':World}{v':Value}(ho:o.op=.call c)(hc:c.callee=.builtin .append)(ha:c.args.toList=[s,x])(jN:c.argTypes.toList=[t,t])
 (h:(Builtin.append_ #[t,t] o.type #[a.eval s,a.eval x]).run P w=.ok v' w'):(execOp a.eval o).run P w=.ok (.value v') w':=by
 have bW:c.args=#[s,x]:=Array.ext' (by simpa using ha)
 have GO:c.argTypes=#[t,t]:=Array.ext' (by simpa using jN)
 simp[execOp,ho,resolve,hc,bW,GO,invoke,builtin,h]
theorem cu.append(hT:eV P T){t ty:TypeId}(cB:(nth T t).ok=true)(iQ:(nth T t).isSl=true)(tK:(nth T (nth T t).elem).ok=true)(dr:0<(nth T (nth T t).elem).size)
 {g:dO} {κ' κ2:Nat->ar} {a:Act} {w:World} {G:Gh} (aj:cu g n ρ κ' a w G) {i aY:Nat} {l ys zs:List DV} {kill:List Nat} {h hs:List PS->Option Value} {v x:Value}
 (ht:bu G.M w h (.aB (nth T (nth T t).elem).size l)) (hi:iR h (.aB (nth T (nth T t).elem).size l)) (hv:h []=some v)
 (hk:(κ' i=.none/\aY=0/\∀b,¬bA h (.aB (nth T (nth T t).elem).size l) b)\/∃ver ep,κ' i=.tree ver ep (.aB (nth T (nth T t).elem).size l)/\aY=ver+1/\h=aJ G.H i ver ep)
 (lW:Src G.M w x (nth T (nth T t).elem).size ys hs) (GP:∀b,bA hs (.aB (nth T (nth T t).elem).size ys) b->∃j,j∈kill/\cx G j (κ' j) b) (GQ:i∉kill) (hle:b7 ys zs)
 (GR:l.length+zs.length<=9223372036854775807) (AA:(l.length+zs.length)*(nth T (nth T t).elem).bytes<=140737488355328)
 (h1:κ2 i=.tree aY 0 (.aB (nth T (nth T t).elem).size (l++zs))) (h2:∀j,j∈kill->κ2 j=.dead) (h3:∀j,j≠i->j∉kill->κ2 j=κ' j):
 ∃v' w' G',(Builtin.append_ #[t,t] ty #[v,x]).run P w=.ok v' w'/\cu g n ρ κ2 a w' G'/\aH G' (.own i aY 0 []) v':=by
 have GS:∀b,bA h (.aB (nth T (nth T t).elem).size l) b->cx G i (κ' i) b:=fun b hb=>by
  rcases hk with⟨_,_,h0⟩|⟨ver,ep,eu,_,rfl⟩
  ·exact absurd hb (h0 b)
  ·rw[eu];exact hb
 obtain⟨v',w',aZ,mu,vf,t1,t2,t3⟩:=D8 (P:=P) (ty:=ty) hT cB iQ tK dr ht hi hv lW
  (fun b hb dI=>by obtain⟨j,hj,ho⟩:=GP b dI;exact GQ (aj.fit.inj i j b (GS b hb) ho▸hj))
  (fun b hb=>by obtain⟨j,_,ho⟩:=GP b hb;exact ho.lt aj.fit) hle GR AA
 have Xs:∀b,cS v=some b->bA h (.aB (nth T (nth T t).elem).size l) b:=fun b hb=>⟨[],_,v,rfl,rfl,hv,hb⟩
 obtain⟨G',g1,g2,_,g4,_,_,g7⟩:=aj.lG (κ':=κ2) (i:=i) (ver:=aY) (ep:=0) (d:=.aB (nth T (nth T t).elem).size (l++zs)) (fun j=>j∈kill) (r9 l.length v' h hs) GQ
  (by
   rcases hk with⟨eu,_,_⟩|⟨ver,ep,eu,rfl,_⟩
   ·exact .inl eu
   ·exact .inr ⟨ver,ep,_,eu,by omega,by omega⟩)
  h2 h1 h3
  (fun p y hy=>by
   have hb:=aj.fit.box i
   rcases hk with⟨eu,rfl,_⟩|⟨ver,ep,eu,rfl,_⟩
   ·rw[eu]at hb;cases p<;>simp[aJ,hb.2]at hy
   ·rw[eu]at hb;cases p<;>simp[aJ,hb.2.2.1 (ver+1) (by omega)]at hy)
  t1 t2
  (fun b hb=>by
   rcases t3 b hb with h5|h5|h5
   ·exact .inr (.inl (GS b h5))
   ·exact .inr (.inr (GP b h5))
   ·exact .inl h5)
  (fun b hb c6 _=>mu.block b hb fun e=>c6 (GS b (Xs b e.symm)))
  (fun b hb=>by
   rcases hb with h5|⟨j,_,h5⟩
   ·exact aj.fit.own i b h5
   ·exact aj.fit.own j b h5)
  mu.size mu.os mu.tape mu.output
 exact⟨v',w',G',aZ,g7,.own _ _ _ _ _ ((g4 []).trans rfl) vf⟩
theorem KL(hT:eV P T){t:Nat}{s x:Operand}{c:Call}{sv xv:AV}(hg:b5 ρ ops o.guard=some gd)(ho:o.op=.call c)(hc:c.callee=.builtin .append)(ha:c.args.toList=[s,x])(jN:c.argTypes.toList=[t,t])
 (hn:∀i,nx<=i->κ i=.none) (h:nj T n o nx κ k t sv xv) (wJ:bC ρ κ gd s sv) (hex:bC ρ κ gd x xv):Good P C ops n o nx ρ κ k:=by
 have dh:∀c',o.op≠.defer c':=fun c'=>by rw[ho];simp
 have bW:c.args=#[s,x]:=Array.ext' (by simpa using ha)
 have ms:s∈o.op.operands:=by rw[ho];simp[Op.operands,Call.operands,hc,bW]
 have mx:x∈o.op.operands:=by rw[ho];simp[Op.operands,Call.operands,hc,bW]
 unfold nj at h
 simp only at h
 cases lk:(nth T t).ok&&(nth T t).isSl&&(nth T (nth T t).elem).ok&&Nat.blt 0 (nth T (nth T t).elem).size with
 |false=>rw[lk]at h;exact h.elim
 |true=>
 rw[lk]at h
 simp only[cond_true]at h
 simp only[aca,Nat.blt_eq]at lk
 obtain⟨⟨⟨cB,iQ⟩,tK⟩,dr⟩:=lk
 have D9:∀j,(∃v e d,κ j=.tree v e d)->j<nx:=fun j ⟨v,e,d,hj⟩=>by
  rcases abT j nx with h|h
  ·exact h
  ·rw[hn j h]at hj;cases hj
 have GU:∀{kill:List Nat} {dZ:Nat},(∀j,j∈kill->∃v e d,κ j=.tree v e d)->nx<=dZ->∀p,p∈eK kill->p.1<dZ:=by
  intro kill dZ hk hle p hp
  have:p.1∈kill:=by
   clear hk
   induction kill with
   |nil=>simp[eK]at hp
   |cons i r ih=>simp only[eK]at hp;rcases abG.1 hp with rfl|hp;exact abL;exact abH _ (ih hp)
  have:=D9 _ (hk _ this);omega
 have nothing:∀{v:Value} {w:World},((∃l ob gb cap,v=.slice (some ⟨gb,ob,none⟩) l cap/\l<=cap)\/v=.slice none 0 0)->(Builtin.append_ #[t,t] o.type #[v,.slice none 0 0]).run P w=.ok v w:=by
  intro v w hv
  obtain⟨i,u,z,tf⟩:=hT.facts cB
  obtain⟨te,ue,ze,jO⟩:=hT.facts tK
  rcases hv with⟨l,ob,gb,cap,rfl,dW⟩|rfl
  ·simp[Builtin.append_,run_underlying (tf.slice iQ),sizeOf,typeInfo,jO.info,Builtin.lenOf,Builtin.firstCells,dW,storeCells]
  ·simp[Builtin.append_,run_underlying (tf.slice iQ),sizeOf,typeInfo,jO.info,Builtin.lenOf,Builtin.firstCells]
 split at h
 ·-- a nil slice
  rcases j5 h with⟨rfl,hk⟩|⟨sz,ys,rd,kill,hk,Q9,Ra,lW⟩
  ·refine cZ dh hg hk (ab3 _) (by simp) fun ρ' κ' ax g a w G dz aj aP=>?_
   have hv:=wJ ρ' κ' (ax.op ms) g n a w G aj aP
   have dF:=hex ρ' κ' (ax.op mx) g n a w G aj aP
   generalize hx:a.eval s=v at hv
   generalize hi:a.eval x=vi at dF
   cases hv with|dv hv=>cases hv with|az=>cases dF with|dv dF=>cases dF with|az=>
   refine⟨_,w,G,.inl (ed ho hc ha jN (by rw[hx,hi];exact nothing (.inr rfl))),aj,.dv .az⟩
  ·cases aW:Nat.beq sz (nth T (nth T t).elem).size with
   |false=>rw[aW]at hk;exact hk.elim
   |true=>
   rw[aW]at hk
   have:=abD aW
   subst this
   obtain⟨zs,hle,AA,GR,hk⟩:=hk
   refine cZ dh hg hk (by omega) (fun p hp=>?_) fun ρ' κ' ax g a w G dz aj aP=>?_
   ·rcases abG.1 hp with rfl|hp
    ·simp
    ·exact GU (fun j hj=>Q9 j (Ra j hj)) (by omega) p hp
   ·have ec:κ' nx=.none:=(ax.reads nx (by simp)).trans (hn nx (ab3 _))
    have hv:=wJ ρ' κ' (ax.op ms) g n a w G aj aP
    have dF:=hex ρ' κ' (ax.op mx) g n a w G aj aP
    obtain⟨hs,KM,Xt⟩:=lW κ' G w _ (fun i hi=>ax.reads i (by simp[hi])) aj.fit dF
    have MX:nx∉kill:=fun hm=>by have:=D9 nx (Q9 nx (Ra nx hm));omega
    generalize hx:a.eval s=v at hv
    cases hv with|dv hv=>cases hv with|az=>
    obtain⟨v',w',G',r1,r2,r3⟩:=aj.append (κ2:=ay κ' ((nx,.tree 0 0 (.aB (nth T (nth T t).elem).size zs))::eK kill)) (ty:=o.type) (i:=nx) (aY:=0) (l:=[]) hT cB iQ tK dr (xp _ _ _) (B2 _) rfl (.inl ⟨ec,rfl,fun b hb=>j6 hb⟩) KM Xt MX hle (by simpa using GR) (by simpa using AA)
     (by simp[ay]) (fun j hj=>by simp only[ay];rw[ah _ _ (by rintro rfl;exact MX hj),cT,if_pos hj]) (fun j h1 h2=>by simp only[ay];rw[ah _ _ h1,cT,if_neg h2])
    exact⟨v',w',G',.inl (ed ho hc ha jN (by rw[hx];exact r1)),r2,r3⟩
 ·-- a slice abf abg its array
  rename_i i ver ep p
  split at h
  ·rename_i aY bY d eu
   cases hb:Nat.beq ver aY&&(emp p||Nat.beq ep bY)with
   |false=>rw[hb]at h;exact h.elim
   |true=>
   rw[hb]at h
   simp only[cond_true]at h
   obtain⟨rfl,dG⟩:=dA hb
   obtain⟨nd,h,Ea⟩:=bU h
   have xq:=Ea rfl
   have tP:i<nx:=D9 i ⟨_,_,_,eu⟩
   cases nd with
   |aB sz l=>
    simp only at h
    cases aW:Nat.beq sz (nth T (nth T t).elem).size with
    |false=>rw[aW]at h;exact h.elim
    |true=>
    rw[aW]at h
    simp only[cond_true]at h
    have:=abD aW
    subst this
    have Rb:∀{g:dO} {a:Act} {G:Gh} {κ':Nat->ar} {w:World},aH G (.own i ver ep p) (a.eval s)->aJ G.H i ver bY p=some (a.eval s):=by
     intro g a G κ' w hv
     generalize a.eval s=v at hv⊢
     cases hv with|own _ _ _ _ _ hh jt=>rw[<-cR dG];exact hh
    rcases j5 h with⟨rfl,hk⟩|⟨qP,ys,rd,kill,hk,Q9,Ra,lW⟩
    ·-- nothing comes in
     have node:∀{G:Gh} {w:World} {κ':Nat->ar},κ' i=κ i->Fit G w κ'->∀{v:Value},aJ G.H i ver bY p=some v->((∃l ob gb cap,v=.slice (some ⟨gb,ob,none⟩) l cap/\l<=cap)\/v=.slice none 0 0):=by
      intro G w κ' he hf v hv
      obtain⟨u,h1,_,h3⟩:=hf.node (he.trans eu) xq rfl
      rw[hv]at h1;injection h1 with h1;subst h1
      rcases h3 with⟨_,rfl⟩|⟨gb,ob,cap,c,t,rfl,dW,_⟩
      ·exact .inr rfl
      ·exact .inl ⟨_,_,_,_,rfl,dW⟩
     cases p with
     |nil=>
      simp[get]at xq
      subst xq
      refine cZ dh hg hk (ab3 _) (by simpa using tP) fun ρ' κ' ax g a w G dz aj aP=>?_
      have he:=ax.reads i (by simp)
      have hv:=wJ ρ' κ' (ax.op ms) g n a w G aj aP
      have dF:=hex ρ' κ' (ax.op mx) g n a w G aj aP
      have hx:=Rb (g:=g) (κ':=κ') (w:=w) hv
      generalize hi:a.eval x=vi at dF
      cases dF with|dv dF=>cases dF with|az=>
      have eE:=aj.fit.box i
      rw[he,eu]at eE
      obtain⟨G',g1,g2,_,g4,_,_,g7⟩:=aj.lG (κ':=ay κ' [(i,.tree (ver+1) 0 (.aB (nth T (nth T t).elem).size l))]) (w':=w) (i:=i) (ver:=ver+1) (ep:=0) (d:=.aB (nth T (nth T t).elem).size l) (fun _=>False) (aJ G.H i ver bY) (fun h=>h.elim) (.inr ⟨ver,bY,_,he.trans eu,by omega,by omega⟩) (fun _ h=>h.elim) (by simp[ay]) (fun j hj _=>by simp[ay,ah _ _ hj])
       (fun q y hy=>by cases q<;>simp[aJ,eE.2.2.1 (ver+1) (by omega)]at hy) eE.1 eE.2.1 (fun b hb=>.inr (.inl (by rw[he,eu];exact hb))) (fun _ _ _ _=>rfl) (fun b hb=>by
        rcases hb with h5|⟨_,h5,_⟩
        ·exact aj.fit.own i b h5
        ·exact h5.elim) (ab3 _) rfl rfl rfl
      have vf:(a.eval s).oneCell'=true:=by rcases node he aj.fit hx with⟨_,_,_,_,e,_⟩|e<;>rw[e]<;>rfl
      exact⟨a.eval s,w,G',.inl (ed ho hc ha jN (by rw[hi];exact nothing (node he aj.fit hx))),g7,.own _ _ _ _ _ ((g4 []).trans hx) vf⟩
     |cons ps pr=>
      obtain⟨hk,_⟩:=fb hk
      refine cZ dh hg hk (by omega) (fun q hq=>by
       rcases abG.1 hq with rfl|hq
       ·simp
       ·simp at hq;subst hq;simp;omega) fun ρ' κ' ax g a w G dz aj aP=>?_
      have he:=ax.reads i (by simp)
      have ec:κ' nx=.none:=(ax.reads nx (by simp)).trans (hn nx (ab3 _))
      have hv:=wJ ρ' κ' (ax.op ms) g n a w G aj aP
      have dF:=hex ρ' κ' (ax.op mx) g n a w G aj aP
      have hx:=Rb (g:=g) (κ':=κ') (w:=w) hv
      generalize hi:a.eval x=vi at dF
      cases dF with|dv dF=>cases dF with|az=>
      obtain⟨G',g1,g2,_,g4,g7⟩:=aj.split (κ':=ay κ' [(nx,.tree 0 0 (.aB (nth T (nth T t).elem).size l)),(i,.tree ver (bY+1) (dM d (ps::pr) .any))]) (i:=i) (nx:=nx) (he.trans eu) ec xq rfl (by simp) (by simp only[ay];rw[ah _ _ (by omega)];simp) (by simp[ay]) (fun j h1 h2=>by simp only[ay];rw[ah _ _ h2,ah _ _ h1])
      have vf:(a.eval s).oneCell'=true:=by rcases node he aj.fit hx with⟨_,_,_,_,e,_⟩|e<;>rw[e]<;>rfl
      refine⟨a.eval s,w,G',.inl (ed ho hc ha jN (by rw[hi];exact nothing (node he aj.fit hx))),g7,.own _ _ _ _ _ ((g4 []).trans ?_) vf⟩
      rw[List.append_nil];exact hx
    ·cases cd:Nat.beq qP (nth T (nth T t).elem).size&& !iw i rd with
     |false=>rw[cd]at hk;exact hk.elim
     |true=>
     rw[cd]at hk
     simp only[cond_true]at hk
     simp only[aca,acd]at cd
     have:=abD cd.1
     subst this
     have Xu:=fa cd.2
     have GQ:i∉kill:=fun hm=>Xu (Ra i hm)
     obtain⟨zs,hle,AA,GR,hk⟩:=hk
     cases p with
     |nil=>
      simp[get]at xq
      subst xq
      refine cZ dh hg hk (ab3 _) (fun q hq=>by
       rcases abG.1 hq with rfl|hq
       ·exact tP
       ·exact GU (fun j hj=>Q9 j (Ra j hj)) (ab3 _) q hq) fun ρ' κ' ax g a w G dz aj aP=>?_
      have he:=ax.reads i (by simp)
      have hv:=wJ ρ' κ' (ax.op ms) g n a w G aj aP
      have dF:=hex ρ' κ' (ax.op mx) g n a w G aj aP
      have hx:=Rb (g:=g) (κ':=κ') (w:=w) hv
      obtain⟨hs,KM,Xt⟩:=lW κ' G w _ (fun i hi=>ax.reads i (by simp[hi])) aj.fit dF
      have eE:=aj.fit.box i
      rw[he,eu]at eE
      obtain⟨v',w',G',r1,r2,r3⟩:=aj.append (κ2:=ay κ' ((i,.tree (ver+1) 0 (.aB (nth T (nth T t).elem).size (l++zs)))::eK kill)) (ty:=o.type) (i:=i) (aY:=ver+1) hT cB iQ tK dr eE.1 eE.2.1 hx (.inr ⟨ver,bY,he.trans eu,rfl,rfl⟩) KM Xt GQ hle GR AA
       (by simp[ay]) (fun j hj=>by simp only[ay];rw[ah _ _ (by rintro rfl;exact GQ hj),cT,if_pos hj]) (fun j h1 h2=>by simp only[ay];rw[ah _ _ h1,cT,if_neg h2])
      exact⟨v',w',G',.inl (ed ho hc ha jN r1),r2,r3⟩
     |cons ps pr=>
      obtain⟨hk,_⟩:=fb hk
      refine cZ dh hg hk (by omega) (fun q hq=>by
       rcases abG.1 hq with rfl|hq
       ·simp
       ·rcases abG.1 hq with rfl|hq
        ·show i<nx+1;omega
        ·exact GU (fun j hj=>Q9 j (Ra j hj)) (by omega) q hq) fun ρ' κ' ax g a w G dz aj aP=>?_
      have he:=ax.reads i (by simp)
      have ec:κ' nx=.none:=(ax.reads nx (by simp)).trans (hn nx (ab3 _))
      have hv:=wJ ρ' κ' (ax.op ms) g n a w G aj aP
      have dF:=hex ρ' κ' (ax.op mx) g n a w G aj aP
      have hx:=Rb (g:=g) (κ':=κ') (w:=w) hv
      have MX:nx∉kill:=fun hm=>by have:=D9 nx (Q9 nx (Ra nx hm));omega
      have aac:nx∉rd:=fun hm=>by have:=D9 nx (Q9 nx hm);omega
      obtain⟨G1,g1,g2,_,g4,g7⟩:=aj.split (κ':=ay κ' [(nx,.tree 0 0 (.aB (nth T (nth T t).elem).size l)),(i,.tree ver (bY+1) (dM d (ps::pr) .any))]) (i:=i) (nx:=nx) (he.trans eu) ec xq rfl (by simp) (by simp only[ay];rw[ah _ _ (by omega)];simp) (by simp[ay]) (fun j h1 h2=>by simp only[ay];rw[ah _ _ h2,ah _ _ h1])
      obtain⟨hs,KM,Xt⟩:=lW (ay κ' [(nx,.tree 0 0 (.aB (nth T (nth T t).elem).size l)),(i,.tree ver (bY+1) (dM d (ps::pr) .any))]) G1 w _ (fun j hj=>by simp only[ay];rw[ah _ _ (by rintro rfl;exact aac hj),ah _ _ (by rintro rfl;exact Xu hj)];exact ax.reads j (by simp[hj])) g7.fit (dF.mono g1)
      have eE:=g7.fit.box nx
      have ql:ay κ' [(nx,.tree 0 0 (.aB (nth T (nth T t).elem).size l)),(i,.tree ver (bY+1) (dM d (ps::pr) .any))] nx=.tree 0 0 (.aB (nth T (nth T t).elem).size l):=by simp[ay]
      rw[ql]at eE
      obtain⟨v',w',G',r1,r2,r3⟩:=g7.append (κ2:=ay κ' ((nx,.tree 1 0 (.aB (nth T (nth T t).elem).size (l++zs)))::(i,.tree ver (bY+1) (dM d (ps::pr) .any))::eK kill)) (ty:=o.type) (i:=nx) (aY:=1) hT cB iQ tK dr eE.1 eE.2.1 (v:=a.eval s) (by rw[g4 [],List.append_nil];exact hx) (.inr ⟨0,0,ql,rfl,rfl⟩) KM Xt MX hle GR AA
       (by simp[ay]) (fun j hj=>by simp only[ay];rw[ah _ _ (by rintro rfl;exact MX hj),ah _ _ (by rintro rfl;exact GQ hj),cT,if_pos hj]) (fun j h1 h2=>by
        simp only[ay]
        rw[ah _ _ h1,ah _ _ h1]
        by_cases e:j=i
        ·subst e;simp
        ·rw[ah _ _ e,ah _ _ e,cT,if_neg h2])
      exact⟨v',w',G',.inl (ed ho hc ha jN r1),r2,r3⟩
   |_=>exact h.elim
  ·exact h.elim
 ·exact h.elim
end
end
section
open Go.RowKit
variable [cj]
structure WS(G:Gh)(w:World)(κ:Nat->ar)(ids:List Nat)(ds:List DV)(us:List Value)(hs:Nat->List PS->Option Value)(id:Nat->Nat):Prop where
 len:ds.length=us.length
 cell:∀(j:Nat) (d:DV) (u:Value),ds[j]?=some d->us[j]?=some u->(d.ao=false/\bz G.M d u)\/
  (d.ao=true/\id j∈ids/\bu G.M w (hs j) d/\iR (hs j) d/\hs j []=some u/\∀b,bA (hs j) d b->cx G (id j) (κ (id j)) b)
 ne:∀(j j':Nat) (d d':DV),ds[j]?=some d->ds[j']?=some d'->d.ao=true->d'.ao=true->id j=id j'->j=j'
theorem vg{i:Nat}{r:List Nat}(h:fA (i::r)=true):i∉r/\fA r=true:=by
 simp only[fA,aca,acd]at h
 exact⟨fa h.1,h.2⟩
theorem GV{κ κ':Nat->ar}{G:Gh}{w:World}{v:AV}{d:DV}{ids:List Nat}(h:Rc κ v=some (d,ids))(ax:∀i,i∈ids->κ' i=κ i)(hf:Fit G w κ'){u:Value}(hv:aH G v u):
 (ids=[]/\d.ao=false/\bz G.M d u)\/∃i ver ep,ids=[i]/\κ' i=.tree ver ep d/\d.ao=true/\aJ G.H i ver ep []=some u:=by
 unfold Rc at h
 split at h
 ·injection h with h;injection h with e1 e2;subst e1;subst e2
  cases hv with|dv hv=>exact .inl ⟨rfl,hv.fH,hv⟩
 ·rename_i i ver ep
  split at h
  ·rename_i aY bY d' hk
   cases hb:Nat.beq ver aY with
   |false=>rw[hb]at h;cases h
   |true=>
    rw[hb]at h
    have:=abD hb
    subst this
    simp only[cond_true,Option.some.injEq,Prod.mk.injEq]at h
    obtain⟨rfl,rfl⟩:=h
    have eu:κ' i=.tree ver bY d':=(ax i (by simp)).trans hk
    have eE:=hf.box i
    rw[eu]at eE
    cases hv with|own _ _ _ _ _ hh hc=>exact .inr ⟨i,ver,bY,rfl,eu,eE.1.1,hh⟩
  ·cases h
 ·injection h with h;injection h with e1 e2;subst e1;subst e2
  cases hv with|fn _ _ vs hl hr=>
  have:vs=[]:=by simpa using hl.symm
  subst this
  exact .inl ⟨rfl,rfl,.fn _ [] [] rfl (by simp)⟩
 ·cases h
theorem KN{κ κ':Nat->ar}{G:Gh}{w:World}{v:AV}{d:DV}{ids:List Nat}(h:toT κ v=some (d,ids))(ax:∀i,i∈ids->κ' i=κ i)(hf:Fit G w κ'){u:Value}(hv:aH G v u):
 (ids=[]/\d.ao=false/\bz G.M d u)\/∃i ver ep,ids=[i]/\κ' i=.tree ver ep d/\d.ao=true/\aJ G.H i ver ep []=some u:=GV (v:=dn v) h ax hf (AB hv)
theorem np{κ κ':Nat->ar}{G:Gh}{w:World}(hf:Fit G w κ'):∀{vs:List AV} {ds:List DV} {ids:List Nat} {us:List Value},sa κ vs=some (ds,ids)->fA ids=true->(∀i,i∈ids->κ' i=κ i)->cb G vs us->∃hs id,WS G w κ' ids ds us hs id
 |[],ds,ids,us,h,_,_,hr=>by
  simp[sa]at h
  obtain⟨rfl,rfl⟩:=h
  have:us=[]:=by have:=hr.1;simpa using this.symm
  subst this
  exact⟨fun _ _=>none,fun _=>0,rfl,by simp,by simp⟩
 |v::vs,ds,ids,us,h,dh,ax,hr=>by
  simp only[sa]at h
  split at h
  ·rename_i d i l j h1 h2
   simp only[Option.some.injEq,Prod.mk.injEq]at h
   obtain⟨rfl,rfl⟩:=h
   match us,hr with
   |[],hr=>have:=hr.1;simp at this
   |u::us,hr=>
    have qQ:fA j=true/\∀q,q∈i->q∉j:=by
     clear h1 h2 hr ax
     induction i with
     |nil=>exact⟨dh,by simp⟩
     |cons q i ih=>
      obtain⟨a1,a2⟩:=vg dh
      obtain⟨b1,b2⟩:=ih a2
      refine⟨b1,fun q' GJ=>?_⟩
      rcases abG.1 GJ with rfl|GJ
      ·exact fun hm=>a1 (abI.2 (.inr hm))
      ·exact b2 q' GJ
    obtain⟨hs,id,dP⟩:=np hf h2 qQ.1 (fun q hq=>ax q (abI.2 (.inr hq))) (us:=us) ⟨by simpa using hr.1,fun q e y he hy=>hr.2 (q+1) e y (by simpa using he) (by simpa using hy)⟩
    have h0:=KN h1 (fun q hq=>ax q (abI.2 (.inl hq))) hf (hr.2 0 v u rfl rfl)
    rcases h0 with⟨rfl,h3,h4⟩|⟨q,ver,ep,rfl,h3,h4,h5⟩
    ·refine⟨fun n=>match n with|0=>fun _=>none|n+1=>hs n,fun n=>match n with|0=>0|n+1=>id n,⟨by simp[dP.len],fun n e y he hy=>?_,fun n n' e e' he Jh ho ju heq=>?_⟩⟩
     ·cases n with
      |zero=>simp at he hy;subst he;subst hy;exact .inl ⟨h3,h4⟩
      |succ n=>simp at he hy;simpa using dP.cell n e y he hy
     ·cases n with
      |zero=>simp at he;subst he;rw[h3]at ho;cases ho
      |succ n=>
       cases n' with
       |zero=>simp at Jh;subst Jh;rw[h3]at ju;cases ju
       |succ n'=>simp at he Jh;rw[dP.ne n n' e e' he Jh ho ju heq]
    ·have eE:=hf.box q
     rw[h3]at eE
     refine⟨fun n=>match n with|0=>aJ G.H q ver ep|n+1=>hs n,fun n=>match n with|0=>q|n+1=>id n,⟨by simp[dP.len],fun n e y he hy=>?_,fun n n' e e' he Jh ho ju heq=>?_⟩⟩
     ·cases n with
      |zero=>simp at he hy;subst he;subst hy;exact .inr ⟨h4,by simp,eE.1,eE.2.1,h5,fun b hb=>by rw[h3];exact hb⟩
      |succ n=>
       simp at he hy
       rcases dP.cell n e y he hy with h6|⟨a1,a2,a3⟩
       ·exact .inl h6
       ·exact .inr ⟨a1,by simp[a2],a3⟩
     ·have inj:∀n e,l[n]?=some e->e.ao=true->id n∈j:=by
       intro n e he ho
       have hn:n<us.length:=by rw[<-dP.len];exact(abA.1 he).1
       rcases dP.cell n e _ he (aaa hn)with⟨a1,_⟩|⟨_,a2,_⟩
       ·rw[ho]at a1;cases a1
       ·exact a2
      cases n with
      |zero=>
       cases n' with
       |zero=>rfl
       |succ n'=>simp at Jh heq;exact absurd (inj n' e' Jh ju) (heq▸qQ.2 q (by simp))
      |succ n=>
       cases n' with
       |zero=>simp at he heq;exact absurd (inj n e he ho) (heq▸qQ.2 q (by simp))
       |succ n'=>simp at he Jh;rw[dP.ne n n' e e' he Jh ho ju heq]
  ·cases h
theorem WS.le{G:Gh}{w:World}{κ:Nat->ar}{ids:List Nat}{ds KO:List DV}{us:List Value}{hs:Nat->List PS->Option Value}{id:Nat->Nat}(h:WS G w κ ids ds us hs id)(hle:lX ds KO)(h1:∀u,u∈us->u.oneCell'=true):WS G w κ ids KO us hs id/\∀d,d∈KO->d.ai=true:=by
 have key:∀(j:Nat) (d':DV) (u:Value),KO[j]?=some d'->us[j]?=some u->∃d,ds[j]?=some d/\((d.ao=true/\d=d')\/(d.ao=false/\bz G.M d' u)):=by
  intro j d' u kj hu
  have hj:j<ds.length:=by rw[hle.length];exact(abA.1 kj).1
  refine⟨ds[j],aaa hj,?_⟩
  rcases hle.at j _ d' (aaa hj) kj with h2|⟨h2,h3⟩
  ·exact .inl h2
  ·rcases h.cell j _ u (aaa hj) hu with⟨_,h4⟩|⟨h4,_⟩
   ·exact .inr ⟨h2,h3 G.M u h4⟩
   ·rw[h2]at h4;cases h4
 have hlen:KO.length=us.length:=by rw[<-hle.length];exact h.len
 refine⟨⟨hlen,fun j d' u kj hu=>?_,fun j j' d d' hd kj ho ju heq=>?_⟩,fun d' kj=>?_⟩
 ·obtain⟨d,hd,hc⟩:=key j d' u kj hu
  rcases hc with⟨_,rfl⟩|⟨_,h3⟩
  ·exact h.cell j d u hd hu
  ·exact .inl ⟨h3.fH,h3⟩
 ·have q:∀(j:Nat) (d:DV),KO[j]?=some d->d.ao=true->ds[j]?=some d:=by
   intro j d hd ho
   have hj:j<us.length:=by rw[<-hlen];exact(abA.1 hd).1
   obtain⟨d0,h2,hc⟩:=key j d _ hd (aaa hj)
   rcases hc with⟨_,rfl⟩|⟨_,h3⟩
   ·exact h2
   ·rw[h3.fH]at ho;cases ho
  exact h.ne j j' d d' (q j d hd ho) (q j' d' kj ju) ho ju heq
 ·obtain⟨j,hj⟩:=abV kj
  have Eb:j<us.length:=by rw[<-hlen];exact(abA.1 hj).1
  obtain⟨d,_,hc⟩:=key j d' _ hj (aaa Eb)
  rcases hc with⟨h2,rfl⟩|⟨_,h3⟩
  ·exact jq h2
  ·exact h3.ai (h1 _ (ab6 Eb))
theorem vh{x:DV}{off:Nat}{ds:List DV}{K:DV->Prop}(h:AD x off ds K):∃y,K y/\((∀d,d∈ds->d.ai=true)->off+ds.length<=x.cells.length/\y.cells=nr x.cells off ds/\y.isAgg=x.isAgg):=by
 unfold AD at h
 split at h
 ·rename_i l
  cases hb:Nat.ble (off+ds.length) l.length with
  |false=>rw[hb]at h;exact h.elim
  |true=>rw[hb]at h;exact⟨_,h,fun _=>⟨Nat.le_of_ble_eq_true hb,rfl,rfl⟩⟩
 ·rename_i ck
  split at h
  ·rename_i d
   refine⟨d,h,fun hc=>?_⟩
   have hd:=hc d (by simp)
   refine⟨?_,?_,?_⟩
   ·cases x<;>first|exact(ck _ rfl).elim|simp[DV.cells]
   ·cases d<;>cases x<;>first|exact(ck _ rfl).elim|(cases hd;done)|rfl
   ·cases d<;>cases x<;>first|exact(ck _ rfl).elim|(cases hd;done)|rfl
  ·exact h.elim
theorem nt{l ds:List DV}{off j:Nat}(hle:off+ds.length<=l.length):(nr l off ds)[j]?=if off<=j/\j<off+ds.length then ds[j-off]? else l[j]?:=by
 unfold nr
 rw[ab0,List.getElem?_append]
 simp only[abU]
 rw[show min off l.length=off by omega]
 by_cases h1:j<off
 ·rw[if_pos h1,if_neg (by omega),List.getElem?_take,if_pos h1]
 ·rw[if_neg h1,List.getElem?_append]
  by_cases h2:j-off<ds.length
  ·rw[if_pos h2,if_pos (by omega)]
  ·rw[if_neg h2,if_neg (by omega),List.getElem?_drop]
   congr 1;omega
theorem oI{l ds:List DV}{off:Nat}(hle:off+ds.length<=l.length):(nr l off ds).length=l.length:=by simp[nr];omega
theorem xt{l us:List Value}{off j:Nat}(hle:off+us.length<=l.length):(l.take off++us++l.drop (off+us.length))[j]?=if off<=j/\j<off+us.length then us[j-off]? else l[j]?:=by
 rw[ab0,List.getElem?_append]
 simp only[abU]
 rw[show min off l.length=off by omega]
 by_cases h1:j<off
 ·rw[if_pos h1,if_neg (by omega),List.getElem?_take,if_pos h1]
 ·rw[if_neg h1,List.getElem?_append]
  by_cases h2:j-off<us.length
  ·rw[if_pos h2,if_pos (by omega)]
  ·rw[if_neg h2,if_neg (by omega),List.getElem?_drop]
   congr 1;omega
theorem Ec{sz idx off:Nat}{nd:DV}{ds:List DV}{K:List DV->DV->Prop}(h:Ed sz idx off nd ds K):
 ∃zX Ee,K zX Ee/\nd.ao=true/\((∀d,d∈ds->d.ai=true)->nd.ao=true/\Ee.ao=true/\
  (∀s c,step Ee s=some c->(∃j,s=.el idx j/\off<=j/\j<off+ds.length/\ds[j-off]?=some c)\/((∀j,s=.el idx j->¬(off<=j/\j<off+ds.length))/\step nd s=some c))/\
  (∀j c,step nd (.el idx j)=some c->off<=j->j<off+ds.length->c∈zX)/\
  ∀(M:Mem) (w:World) (v:Value) (jt:PS->Option Value),cD M w v jt nd->∃g o c t,cS v=some g/\w.heap[g]?=some (.cells c t (0,0))/\o+ds.length<=c.size/\
   (∀A,(v=.pointer (some A)\/∃m q,v=.slice (some A) m q)->A.add (idx*sz+off)=⟨g,o,none⟩)/\
   ∀(us:List Value) (oc:PS->Option Value) (w':World),us.length=ds.length->w'.heap[g]?=some (.cells (c.toList.take o++us++c.toList.drop (o+us.length)).toArray t (0,0))->
    (∀s,(∀j,s=.el idx j->¬(off<=j/\j<off+ds.length))->oc s=jt s)->(∀(j:Nat) (d:DV) (u:Value),ds[j]?=some d->us[j]?=some u->dC M (oc (.el idx (off+j))) d u)->cD M w' v oc Ee):=by
 unfold Ed at h
 split at h
 ·rename_i qP l
  cases hb:Nat.beq sz qP with
  |false=>rw[hb]at h;exact h.elim
  |true=>
   rw[hb]at h
   have:=abD hb
   subst this
   obtain⟨x,hx,h⟩:=h
   obtain⟨y,h,MY⟩:=vh h
   have AE:idx<l.length:=(abA.1 hx).1
   refine⟨_,_,h,rfl,fun hc=>?_⟩
   obtain⟨hle,hy,_⟩:=MY hc
   refine⟨rfl,rfl,fun s c hs=>?_,fun j c hs h1 h2=>?_,fun M w v jt bn=>?_⟩
   ·cases s with
    |key=>simp[step]at hs
    |el i j=>
     simp only[step]at hs
     by_cases e:idx=i
     ·subst e
      rw[List.getElem?_set_self AE]at hs
      simp only[hy]at hs
      rw[nt hle]at hs
      split at hs
      ·rename_i hr;exact .inl ⟨j,rfl,hr.1,hr.2,hs⟩
      ·rename_i hr
       refine .inr ⟨fun j' e'=>?_,by simp only[step,hx];exact hs⟩
       injection e' with _ e';subst e';exact hr
     ·rw[List.getElem?_set_ne e]at hs
      refine .inr ⟨fun j' e'=>?_,hs⟩
      injection e' with e' _;exact absurd e'.symm e
   ·simp only[step,hx]at hs
    refine abC (i:=j-off) ?_
    rw[List.getElem?_take,if_pos (by omega),List.getElem?_drop,show off+(j-off)=j by omega]
    exact hs
   ·rcases bn with⟨rfl,_⟩|⟨g,o,cap,c,t,rfl,dW,hw,aW,ql⟩
    ·simp at hx
    ·obtain⟨a1,a2⟩:=ql idx x hx
     have cL:o+idx*sz+off+ds.length<=c.size:=by
      have:(idx+1)*sz<=cap*sz:=ab4 _ (by omega)
      rw[Nat.add_mul]at this
      omega
     refine⟨g,o+idx*sz+off,c,t,rfl,hw,cL,fun A hA=>?_,fun us oc w' qR KP od j7=>?_⟩
     ·rcases hA with hA|⟨_,_,hA⟩
      ·cases hA
      ·injection hA with hA;injection hA with hA;subst hA;rw[eL];congr 1;omega
     ·refine .inr ⟨g,o,cap,_,t,by simp,by simpa using dW,KP,by simp[qR];omega,fun i z hz=>?_⟩
      have oJ:∀q,(c.toList.take (o+idx*sz+off)++us++c.toList.drop (o+idx*sz+off+us.length)).toArray[q]?=if o+idx*sz+off<=q/\q<o+idx*sz+off+us.length then us[q-(o+idx*sz+off)]? else c[q]?:=fun q=>by
       rw[List.getElem?_toArray,xt (by simp;omega)]
       simp
      by_cases e:idx=i
      ·subst e
       rw[List.getElem?_set_self AE]at hz
       injection hz with hz
       subst hz
       rw[hy,oI hle]
       refine⟨a1,fun j d hd=>?_⟩
       rw[nt hle]at hd
       split at hd
       ·rename_i hr
        have Eb:j-off<us.length:=by omega
        refine⟨hc d (abC hd),us[j-off],?_,?_⟩
        ·rw[oJ,if_pos (by omega),show o+idx*sz+j-(o+idx*sz+off)=j-off by omega];exact aaa Eb
        ·have:=j7 (j-off) d _ hd (aaa Eb)
         rwa[show off+(j-off)=j by omega]at this
       ·rename_i hr
        obtain⟨b1,u,b2,b3⟩:=a2 j d hd
        refine⟨b1,u,by rw[oJ,if_neg (by omega)];exact b2,?_⟩
        rw[od (.el idx j) (fun j' e'=>by injection e' with _ e';subst e';exact hr)];exact b3
      ·rw[List.getElem?_set_ne e]at hz
       obtain⟨b1,b2⟩:=ql i z hz
       refine⟨b1,fun j d hd=>?_⟩
       obtain⟨c1,u,c2,c3⟩:=b2 j d hd
       have hj:j<sz:=by rw[<-b1];exact(abA.1 hd).1
       refine⟨c1,u,?_,?_⟩
       ·rw[oJ,if_neg ?_];exact c2
        rintro⟨q1,q2⟩
        rw[qR]at q2
        have MZ:off+ds.length<=sz:=by rw[<-a1];exact hle
        rcases abT i idx with au|gG
        ·have:=ab4 sz (show i+1<=idx from au);rw[Nat.add_mul]at this;omega
        ·have:=ab4 sz (show idx+1<=i by omega);rw[Nat.add_mul]at this;omega
       ·rw[od (.el i j) (fun j' e'=>by injection e' with e' _;exact absurd e'.symm e)];exact c3
 ·rename_i x
  cases hb:Nat.beq idx 0 with
  |false=>rw[hb]at h;exact h.elim
  |true=>
   rw[hb]at h
   have:=abD hb
   subst this
   simp only[cond_true]at h
   obtain⟨y,h,MY⟩:=vh h
   refine⟨_,_,h,rfl,fun hc=>?_⟩
   obtain⟨hle,hy,_⟩:=MY hc
   refine⟨rfl,rfl,fun s c hs=>?_,fun j c hs h1 h2=>?_,fun M w v jt bn=>?_⟩
   ·cases s with
    |key=>simp[step]at hs
    |el i j=>
     simp only[step]at hs
     cases mY:Nat.beq i 0 with
     |false=>rw[mY]at hs;cases hs
     |true=>
      rw[mY]at hs
      have:=abD mY
      subst this
      simp only[cond_true,hy]at hs
      rw[nt hle]at hs
      split at hs
      ·rename_i hr;exact .inl ⟨j,rfl,hr.1,hr.2,hs⟩
      ·rename_i hr
       refine .inr ⟨fun j' e'=>?_,by simp[step];exact hs⟩
       injection e' with _ e';subst e';exact hr
   ·simp[step]at hs
    refine abC (i:=j-off) ?_
    rw[List.getElem?_take,if_pos (by omega),List.getElem?_drop,show off+(j-off)=j by omega]
    exact hs
   ·obtain⟨g,c,t,rfl,hw,aW,ql⟩:=bn
    refine⟨g,off,c,t,rfl,hw,by omega,fun A hA=>?_,fun us oc w' qR KP od j7=>?_⟩
    ·rcases hA with hA|⟨_,_,hA⟩
     ·injection hA with hA;injection hA with hA;subst hA;rw[eL];congr 1;omega
     ·cases hA
    ·refine⟨g,_,t,rfl,KP,by rw[hy,oI hle];simp[qR];omega,fun j d hd=>?_⟩
     have oJ:∀q,(c.toList.take off++us++c.toList.drop (off+us.length)).toArray[q]?=if off<=q/\q<off+us.length then us[q-off]? else c[q]?:=fun q=>by
      rw[List.getElem?_toArray,xt (by simp;omega)]
      simp
     rw[hy,nt hle]at hd
     split at hd
     ·rename_i hr
      have Eb:j-off<us.length:=by omega
      refine⟨hc d (abC hd),us[j-off],by rw[oJ,if_pos (by omega)];exact aaa Eb,?_⟩
      have:=j7 (j-off) d _ hd (aaa Eb)
      rwa[show off+(j-off)=j by omega]at this
     ·rename_i hr
      obtain⟨b1,u,b2,b3⟩:=ql j d hd
      refine⟨b1,u,by rw[oJ,if_neg (by omega)];exact b2,?_⟩
      rw[od (.el 0 j) (fun j' e'=>by injection e' with _ e';subst e';exact hr)];exact b3
 ·exact h.elim
end
end Go.TM
