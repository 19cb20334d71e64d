import Derived.Test.YtmojfblpbcficaaGreatDoorUM5
set_option linter.all false
namespace Go.TM
section
open Go.RowKit
variable [cj]
theorem NV{d nq n:DV}{q:List PS}{s:PS}{c:DV}(hq:get d q=some nq)(hs:step nq s=some c):eK d (q++[s]) n=eK d q (put nq s n):=by
 induction q generalizing d with
 |nil=>grind [get,eK]
 |cons s' q ih=>
  simp[get]at hq
  simp[List.cons_append,eK]
  cases h1:step d s' with
  |none=>grind
  |some c1=>grind
theorem bD.lt{M:Mem}{w:World}{h:List PS->Option Value}{d:DV}(ht:bD M w h d){b:Nat}(ho:bR h d b):b<w.heap.size:=by
 obtain⟨p,m,u,a1,a2,a3,a4⟩:=ho
 obtain⟨u',c1,_,c3⟩:=ht.2 p m a1 a2
 rw[a3]at c1;injection c1 with c1;subst c1
 exact xO c3 a4
theorem bD.forget{M:Mem}{w:World}{h:List PS->Option Value}{d c:DV}{p:List PS}(ht:bD M w h d)(hi:ji h d)(hp:get d p=some c)(hc:c.ar=true)(cF:p≠[]):
 bD M w h (eK d p .any)/\ji h (eK d p .any)/\∀b,bR h (eK d p .any) b->bR h d b/\¬bR (fun r=>h (p++r)) c b:=by
 have eL:∀(q:List PS) (x:DV),get d q=some x->q≠[]->x.aq=true:=fun q x hx _=>ht.cells q x hx
 have pd:∀b,bR h (eK d p .any) b->bR h d b->¬bR (fun r=>h (p++r)) c b:=by
  rintro b ⟨q,m,u,a1,a2,a3,a4⟩ _ ⟨r,m',u',b1,b2,b3,b4⟩
  by_cases uq:p <+: q
  ·obtain⟨r',rfl⟩:=ez uq
   rw[nS hp rfl eL]at a1
   cases r' with
   |nil=>simp[get]at a1;subst a1;cases a2
   |cons s r'=>simp[get,step]at a1
  ·rw[nT rfl eL uq]at a1
   cases hx:get d q with
   |none=>grind
   |some x=>
    rw[hx]at a1
    simp[Option.some.injEq]at a1
    have T2:x.ar=true:=by
     by_cases hq:q <+: p
     ·rw[if_pos hq]at a1
      obtain⟨r',rfl⟩:=ez hq
      cases r' with
      |nil=>grind
      |cons s r'=>grind [List.drop_left,mi]
     grind
    have:=hi q _ x m' u u' b hx T2 a3 a4 (by rwa[get_append,hp]) b2 b3 b4
    grind
 rcases List.eq_nil_or_concat p with rfl|⟨q,s,rfl⟩
 ·grind
 ·rw[List.concat_eq_append]at hp pd⊢
  rw[get_append]at hp
  cases hq:get d q with
  |none=>grind
  |some nq=>
   rw[hq]at hp
   simp[get]at hp
   cases hs:step nq s with
   |none=>grind
   |some c0=>
    rw[hs]at hp
    simp at hp
    subst hp
    have hnq:=fU hs
    obtain⟨v,hv,w4,bq⟩:=ht.2 q nq hq hnq
    rw[NV hq hs]at pd⊢
    have F9:=by
     refine bq.Lo hs rfl fun u hr=>.inr ⟨rfl,.any u ?_⟩
     rcases hr with⟨_,b⟩|⟨a,_⟩
     ·obtain⟨u',c1,c2,_⟩:=ht.2 (q++[s]) c0 (by grind [get_append,get]) hc
      grind
     grind
    obtain⟨m1,m2,m3⟩:=bD.sf (fun _=>False) ht hi hq hnq hv (by rwa[rJ]) hv w4 (.inr rfl) F9 (fun _ _=>rfl)
     (fun s' c' fY ho _=>by
      by_cases e:s=s'
      ·subst e;rw[mL hs rfl]at fY;injection fY with fY;subst fY;cases ho
      ·rw[po rfl e]at fY;grind)
     (fun _ _ _ _ hN=>hN.elim) (fun _ _ _ _ _ _ _ hN=>hN.elim) (fun b hb=>.inl hb) (fun _ _ _=>rfl)
    grind [bR]
section
variable {g:dV} {n:Nat} {ρ:Nat->AV} {κ κ':Nat->aw} {a:Act} {w w':World} {G:Gh}
theorem cB.split(h:cB g n ρ κ a w G){i nx ver ep:Nat}{d c:DV}{p:List PS}(hi:κ i=.tree ver ep d)(hx:κ nx=.none)(hp:get d p=some c)(hc:c.ar=true)(cF:p≠[])(h1:κ' i=.tree ver (ep+1) (eK d p .any))(h2:κ' nx=.tree 0 0 c)(h3:∀j,j≠i->j≠nx->κ' j=κ j):
 ∃G',Gh.Le G G'/\G'.M=G.M/\G'.β=G.β/\(∀r,aO G'.H nx 0 0 r=aO G.H i ver ep (p++r))/\cB g n ρ κ' a w G':=by
 have nP:=h.fit.box i
 have fG:=h.fit.box nx
 rw[hi]at nP
 rw[hx]at fG
 obtain⟨ht,iw,RU,ec⟩:=nP
 obtain⟨f1,f2,f3⟩:=ht.forget iw hp hc cF
 let fi:=fun v e q=>if v=ver/\e=ep+1/\q≠[]then aO G.H i ver ep q else G.H i v e q
 let fx:=fun v e q=>if v=0/\e=0 then aO G.H i ver ep (p++q)else none
 let G':={ G with H:=sO (sO G.H i fi) nx fx }
 have hHi:G'.H i=fi:=by grind [sO,lk,na]
 have hHx:G'.H nx=fx:=na _ _ _
 have hHo:∀j,j≠i->j≠nx->G'.H j=G.H j:=fun j e1 e2=>by grind [sO,lk]
 have E2:aO G'.H i ver (ep+1)=aO G.H i ver ep:=by
  funext q
  cases q with
  |nil=>simp[aO,hHi];grind
  |cons s q=>simp[aO,hHi];show(if _ then _ else _)=_;rw[if_pos ⟨rfl,rfl,by simp⟩];rfl
 have hhx:aO G'.H nx 0 0=fun r=>aO G.H i ver ep (p++r):=by
  funext q
  cases q with
  |nil=>show G'.H nx 0 0 []=_;grind
  |cons s q=>show G'.H nx 0 0 _=_;grind
 have hle:Gh.Le G G':=⟨Mem.Le.refl _,fun _ _ q=>q,fun j v e q x hq=>by
  by_cases e1:j=i
  ·grind
  ·by_cases e2:j=nx
   ·subst e2;rw[fG.2]at hq;grind
   simp_all⟩
 have Y4:∀b,cD G' i (κ' i) b->bR (aO G.H i ver ep) d b/\¬bR (fun r=>aO G.H i ver ep (p++r)) c b:=fun b hb=>by
  grind [cD]
 have Y5:∀b,cD G' nx (κ' nx) b->bR (fun r=>aO G.H i ver ep (p++r)) c b:=fun b hb=>by
  grind [cD]
 refine⟨G',hle,rfl,rfl,fun r=>congrFun hhx r,h.sM (C:=fun j=>j=i\/j=nx) ⟨hle,fun _ _=>rfl,fun j hj=>h3 j (fun e=>hj (.inl e)) (fun e=>hj (.inr e)),fun j hj=>⟨fun _ q=>q,fun v e q x hq=>?_⟩,fun _ _ _=>⟨rfl,rfl⟩,h.fit.sub,?_,?_,?_,adM _,rfl,rfl,rfl⟩ (fun _ _=>rfl)⟩
 ·simp_all
 ·rintro j (rfl|rfl)
  ·rw[h1]
   refine⟨by grind,by grind,fun v hv e q=>?_,fun e he q=>?_⟩
   ·rw[hHi];show(if v=ver/\_ then _ else _)=_;rw[if_neg (by omega)];exact RU v hv e q
   ·rw[hHi];show(if ver=ver/\e=ep+1/\q≠[]then _ else _)=_;rw[if_neg (by omega)];exact ec e (by omega) q
  ·rw[h2]
   refine⟨by rw[hhx];exact ht.sub hp hc,by rw[hhx];exact iw.sub hp,fun v hv e q=>?_,fun e he q=>?_⟩
   ·rw[hHx];show(if v=0/\e=0 then _ else _)=_;rw[if_neg (by omega)]
   ·rw[hHx];show(if 0=0/\e=0 then _ else _)=_;rw[if_neg (by omega)]
 ·rintro j b (rfl|rfl) hb
  ·have:cD G j (κ j) b:=by rw[hi];exact((Y4 b hb).1)
   exact⟨.inr ⟨j,.inl rfl,this⟩,h.fit.own j b this⟩
  ·have:cD G i (κ i) b:=by rw[hi];exact((Y5 b hb).sub hp)
   exact⟨.inr ⟨i,.inl rfl,this⟩,h.fit.own i b this⟩
 ·rintro j j' b (rfl|rfl) (rfl|rfl) hb eT
  ·rfl
  ·exact absurd (Y5 b eT) (Y4 b hb).2
  ·exact absurd (Y5 b hb) (Y4 b eT).2
  ·rfl
end
end
section
open Go.RowKit
variable [cj]
section
variable {g:dV} {n:Nat} {ρ:Nat->AV} {κ κ':Nat->aw} {a:Act} {w w':World} {G:Gh}
theorem cB.NW(h:cB g n ρ κ a w G){i b:Nat}{l l':List AV}{vs:Array Value}{t:TypeId}(hi:κ i=.cells l)(hb:G.β i=some b)(lC:κ' i=.cells l')(pI:∀j,j≠i->κ' j=κ j)
 (hw:w'.heap[b]?=some (.cells vs t (0,0))) (hl:ck G l' vs.toList) (hc:∀v,v∈l'->v.aq=true) (bP:w.heap.size<=w'.heap.size) (fW:∀k,k<w.heap.size->k≠b->w'.heap[k]?=w.heap[k]?)
 (T3:w'.os=w.os) (T4:w'.tape=w.tape) (gO:w'.output=w.output):cB g n ρ κ' a w' G:=by
 have iz:cD G i (κ i) b:=by rwa[hi]
 refine h.sM ⟨Gh.Le.refl G,fun _ _=>rfl,pI,fun j _=>⟨fun _ q=>q,fun _ _ _ _ q=>q⟩,fun k hk dI=>⟨fW k hk fun e=>dI i rfl (by grind),rfl⟩,fun k o hk=>?_,?_,?_,fun j j' k e1 e2 _ _=>by grind,bP,T3,T4,gO⟩ (fun _ _=>rfl)
 ·have h1:=h.fit.sub k o hk
  rw[fW k (adw.1 h1).1 fun e=>?_]
  ·grind
  ·rw[e]at hk;rw[h.fit.own i b iz]at hk;grind
 ·rintro j rfl
  rw[lC]
  exact⟨b,vs,t,hb,hw,by have:=hl.1;grind,hc,fun j d v hd hv=>hl.2 j d v hd (by grind)⟩
 ·rintro j k rfl ho
  rw[lC]at ho
  have:cD G j (κ j) k:=by rwa[hi]
  exact⟨.inr ⟨j,rfl,this⟩,h.fit.own j k this⟩
theorem cB.oL(h:cB g n ρ κ a w G){i:Nat}{d:DV}(D:Nat->Prop)(h':List PS->Option Value)(hDi:¬D i)(hi:κ i=.none)(iV:∀j,D j->κ' j=.dead)(lC:κ' i=.tree 0 0 d)(pI:∀j,j≠i->¬D j->κ' j=κ j)
 (ht:bD G.M w' h' d) (iw:ji h' d) (iz:∀b,bR h' d b->w.heap.size<=b\/∃j,D j/\cD G j (κ j) b) (fW:∀b,b<w.heap.size->(∀j,D j->¬cD G j (κ j) b)->w'.heap[b]?=w.heap[b]?)
 (bP:w.heap.size<=w'.heap.size) (T3:w'.os=w.os) (T4:w'.tape=w.tape) (gO:w'.output=w.output):
 ∃G',Gh.Le G G'/\G'.M=G.M/\(∀p,aO G'.H i 0 0 p=h' p)/\cB g n ρ κ' a w' G':=by
 have hb:=h.fit.box i
 rw[hi]at hb
 obtain⟨G',h1,h2,_,h4,_,_,h7⟩:=h.mz D h' hDi (.inl hi) iV lC pI (fun p x hx=>by cases p<;>simp[aO,hb.2]at hx) ht iw
  (fun b eT=>(iz b eT).imp id fun h=>.inr h) (fun b eT _ hD=>fW b eT hD) (fun b eT=>by
   rcases eT with h1|⟨j,_,h1⟩
   ·rw[hi]at h1;exact h1.elim
   ·exact h.fit.own j b h1) bP T3 T4 gO
 grind
end
section
variable {P:Program} {C:dV->Prop} {T:List TI} {ops:List Oper} {n:Nat} {o:Oper} {nx:Nat} {ρ:Nat->AV} {κ:Nat->aw} {k:l9->Nat->Prop} {gd:Bool}
theorem mI{w:World}(e:TypeId)(c:Array Value):(newRow e c).run P w=.ok ⟨w.heap.size,0,none⟩ (w.alloc (.cells c e)):=by
 rfl
theorem Ac(G:Gh){t:Nat}{ti:TI}{i:TypeInfo}{u:TypeDesc}{z:Value}(tf:gK P t ti i u z):ck G (ed ti.zero) z.cells.toList/\∀v,v∈ed ti.zero->v.aq=true:=by
 obtain⟨h3,h4⟩:=eu tf.zc
 refine⟨ju h3,fun v hv=>?_⟩
 rw[qe]at hv
 obtain⟨d,hd,rfl⟩:=adK.1 hv
 exact(h4 d hd).1
theorem OB(hT:fD P T){t:Nat}(hg:cb ρ ops o.guard=some gd)(ho:o.op=.alloc t)(cC:(nth T t).ok=true)(qw:κ nx=.none)
 (hk:dP n o (nx+1) k (.ptr nx 0) [(nx,.cells (ed (nth T t).zero))] [nx]):Good P C ops n o nx ρ κ k:=by
 obtain⟨i,u,z,tf⟩:=hT.facts cC
 refine dq (fun c=>by grind) hg hk (by omega) (by simp) fun ρ' κ' ay g a w G dK ak aY=>?_
 obtain⟨hz,hc⟩:=Ac G tf
 obtain⟨G',h1,h2,h3⟩:=ak.xP ((ay.reads nx (by simp)).trans qw) dK t hz hc
 refine⟨.pointer _,w.alloc _,G',.inl ?_,h2,.ptr nx 0 _ h3⟩
 simp[execOp,ho,Instr.alloc,tf.tW w,newVar,mI]
theorem WA{t:Nat}{x:Operand}{av:AV}(hg:cb ρ ops o.guard=some gd)(ho:o.op=.box t x)(qw:κ nx=.none)(hc:cd (cellsOf av)=true)
 (hk:dP n o (nx+1) k (.ptr nx 0) [(nx,.cells (cellsOf av))] [nx]) (bU:bN ρ κ gd x av):Good P C ops n o nx ρ κ k:=by
 refine dq (fun c=>by grind) hg hk (by omega) (by simp) fun ρ' κ' ay g a w G dK ak aY=>?_
 obtain⟨G',h1,h2,h3⟩:=ak.xP ((ay.reads nx (by simp)).trans qw) dK t (nI (bU ρ' κ' (ay.op (by grind [Op.operands])) g n a w G ak aY) hc) (fZ hc)
 refine⟨.pointer _,w.alloc _,G',.inl ?_,h2,.ptr nx 0 _ h3⟩
 simp[execOp,ho,Instr.box,newVar,mI]
theorem CB(hT:fD P T){t i off:Nat}{x y:Operand}{av:AV}{l:List AV}(hg:cb ρ ops o.guard=some gd)(ho:o.op=.store t x y)(cC:(nth T t).ok=true)(hb:κ i=.cells l)
 (bP:(cellsOf av).length=(nth T t).size) (hc:cd (cellsOf av)=true) (hle:off+(nth T t).size<=l.length)
 (hk:dP n o nx k .any [(i,.cells (iS l off (cellsOf av)))] [i]) (dw:i<nx) (bU:bN ρ κ gd x (.ptr i off)) (Ku:bN ρ κ gd y av):Good P C ops n o nx ρ κ k:=by
 obtain⟨ti,u,z,tf⟩:=hT.facts cC
 refine dq (fun c=>by grind) hg hk (adM _) (by grind) fun ρ' κ' ay g a w G dK ak aY=>?_
 have gN:=(ay.reads i (by simp)).trans hb
 have hv:=bU ρ' κ' (ay.op (by grind [Op.operands])) g n a w G ak aY
 have jQ:=nI (Ku ρ' κ' (ay.op (by grind [Op.operands])) g n a w G ak aY) hc
 have uK:=ak.fit.box i
 rw[gN]at uK
 obtain⟨b,c,tt,hbe,hw,Gu,l7,hr⟩:=uK
 generalize hx:a.eval x=v at hv
 cases hv with
 |ptr _ _ b' CW=>
 rw[hbe]at CW;injection CW with CW;subst CW
 have hlen:(a.eval y).cells.toList.length=(nth T t).size:=by rw[<-jQ.1,bP]
 have jw:=run_storeCells_at P b off tt (a.eval y).cells.toList 0 c w hw (by grind) (jQ.cY hc)
 simp[Nat.add_zero]at jw
 have hold:ck G l c.toList:=⟨by grind,fun j d v hd hv=>hr j d v hd (by grind)⟩
 refine⟨undef,w.setRow b (c.toList.take off++(a.eval y).cells.toList++c.toList.drop (off+(a.eval y).cells.toList.length)).toArray,G,.inr ⟨?_,rfl⟩,
  ak.NW (l':=iS l off (cellsOf av)) gN hbe (by simp[aF]) (fun j hj=>by simp[aF,ah _ _ hj]) (setRow_heap w b c _ tt _ hw) ?_ ?_ (by simp) (fun k _ cF=>setRow_other w b k _ cF) rfl rfl rfl,.any _⟩
 ·simp[execOp,ho,hx,Instr.storeAt,Instr.sureAddr,Sem.run_bind,Sem.run_pure,Result.andThen_ok,storeVar,tf.gm w,if_false]
  simp_all
 ·simpa using hold.iS jQ off (by grind)
 grind [iS,List.mem_of_mem_take,fZ,List.mem_of_mem_drop]
theorem nb{i:Nat}:∀{l:List Nat},iU i l=true->i∈l
 |[],h=>by simp[iU]at h
 |j::r,h=>by
  simp[iU,Bool.or_eq_true]at h
  rcases h with h|h
  ·simp_all
  ·exact adq _ (nb h)
theorem fy{i:Nat}:∀{l:List Nat},iU i l=false->i∉l
 |[],_=>by simp
 |j::r,h=>by
  simp[iU,Bool.or_eq_false_iff]at h
  intro hm
  rcases adp.1 hm with rfl|hm
  ·simp_all
  ·exact(fy h.2) hm
theorem dh{γ:Nat->aw}:∀{ids:List Nat} (j:Nat),aF γ (fJ ids) j=if j∈ids then .dead else γ j
 |[],j=>by rfl
 |i::r,j=>by
  simp[fJ,aF]
  by_cases e:j=i
  ·subst e;simp
  ·rw[ah _ _ e,dh j];grind
theorem kO{v:AV}{q:(sz:Nat)->List DV->List Nat->List Nat->Prop}{nl:Prop}(h:pW κ v q nl):
 (v=.dv .ax/\nl)\/∃(sz:Nat) (ys:List DV) (rd kill:List Nat),q sz ys rd kill/\(∀j,j∈rd->∃v e d,κ j=.tree v e d)/\(∀j,j∈kill->j∈rd)/\
  ∀κ' G w x,(∀i,i∈rd->κ' i=κ i)->Fit G w κ'->aK G v x->∃hs,Src G.M w x sz ys hs/\∀b,bR hs (.aD sz ys) b->∃j,j∈kill/\cD G j (κ' j) b:=by
 unfold pW at h
 split at h
 ·rename_i sz l
  refine .inr ⟨sz,l,[],[],h,by simp,by simp,fun κ' G w x _ hf hv=>⟨fun _=>none,?_,?_⟩⟩
  ·cases hv with|dv hv=>
   refine .closed ((qv.abM hf.sub hv).mono rfl fun i x y hx hy=>?_) rfl
   rw[hx]at hy;injection hy with hy;subst hy
   refine⟨rfl,fun j d e u hd he DQ hS=>?_⟩
   rw[hd]at he;injection he with he;subst he
   exact⟨DQ,hS.fw,hS⟩
  ·rintro b ⟨_,_,_,_,_,q,_⟩;grind
 ·grind
 ·rename_i i ver ep p
  split at h
  ·rename_i bJ cn d gN
   cases hb:Nat.beq ver bJ&&(emp p||Nat.beq ep cn)with
   |false=>grind
   |true=>
    rw[hb]at h
    simp only[cond_true]at h
    obtain⟨rfl,fo⟩:=dE hb
    obtain⟨nd,h,dW⟩:=bY h
    have dW:=dW rfl
    cases nd with
    |aD sz l=>
     have abO:∀{G:Gh} {κ':Nat->aw} {w:World} {x:Value},κ' i=κ i->Fit G w κ'->aK G (.own i ver ep p) x->aO G.H i ver cn p=some x:=by
      intro G κ' w x he hf hv
      cases hv with|own _ _ _ _ _ hh hc=>grind [cZ]
     rcases h with⟨l7,h⟩|⟨rfl,hq⟩
     ·refine .inr ⟨sz,l,[i],[],h,by grind,by simp,fun κ' G w x ay hf hv=>⟨fun _=>none,?_,?_⟩⟩
      ·have he:=ay i (by simp)
       obtain⟨u,h1,h2,h3⟩:=hf.node (he.trans gN) dW rfl
       rw[(abO he hf hv)]at h1;injection h1 with h1;subst h1
       refine .closed ?_ rfl
       have h4:ub w x sz l fun i j d u=>d.ar=false/\bz G.M d u:=by
        rcases gl.1 h3 with h3|⟨g,o,cap,c,t,a1,a2,a3,a4,a5⟩
        ·exact .inl h3
        ·refine .inr ⟨g,o,cap,c,t,a1,a2,a3,a4,fun i y hy=>⟨(a5 i y hy).1,fun j d hd=>?_⟩⟩
         obtain⟨b1,u,b2,b3⟩:=(a5 i y hy).2 j d hd
         have DQ:=l7 y (ab6 hy) d (ab6 hd)
         refine⟨b1,u,b2,DQ,?_⟩
         rcases b3 with⟨c1,_⟩|⟨_,c2⟩
         ·grind
         grind
       exact qv.Sg h4 fun i j d u hr hc=>hr.2.cY hc
      ·rintro b ⟨_,_,_,_,_,q,_⟩;grind
     ·refine .inr ⟨sz,l,[i],[i],hq,by grind,by simp,fun κ' G w x ay hf hv=>?_⟩
      have he:=ay i (by simp)
      have fG:=hf.box i
      rw[he,gN]at fG
      simp[get]at dW
      subst dW
      refine⟨aO G.H i ver cn,.tree fG.1 fG.2.1 (abO he hf hv),fun b hb=>⟨i,by simp,?_⟩⟩
      rwa[he,gN]
    |_=>grind
  grind
 ·rename_i i ver ep p sz lo m
  split at h
  ·rename_i bJ cn d gN
   cases hb:Nat.beq ver bJ&&(emp p||Nat.beq ep cn)with
   |false=>grind
   |true=>
    rw[hb]at h
    simp only[cond_true]at h
    obtain⟨rfl,fo⟩:=dE hb
    obtain⟨nd,h,dW⟩:=bY h
    cases nd with
    |aD pz l=>
     simp only at h
     cases hz:Nat.beq sz pz with
     |false=>grind
     |true=>
     rw[hz]at h
     have:=ab9 hz
     subst this
     obtain⟨hlen,l7,h⟩:=h
     refine .inr ⟨sz,(l.drop lo).take m,[i],[],h,by grind,by simp,fun κ' G w x ay hf hv=>⟨fun _=>none,?_,?_⟩⟩
     ·have he:=ay i (by simp)
      obtain⟨u,h1,h2,h3⟩:=hf.node (he.trans gN) (dW rfl) rfl
      have AR:((l.drop lo).take m).length=m:=by grind
      refine .closed ?_ rfl
      cases hv with|pre _ _ _ _ _ _ _ q cp hh=>
      by_cases hm:m=0
      ·subst hm
       cases q with
       |none=>exact .inl ⟨cp,rfl,by simp⟩
       |some A=>exact .inr ⟨A,cp,fun _ _=>undef,by simp,nofun⟩
      ·obtain⟨A,N,c',Di,rfl⟩:=hh hm
       rw[cZ fo,h1]at Di
       injection Di with Di
       rcases gl.1 h3 with⟨rfl,_⟩|⟨g,o,cap,c,t,rfl,a2,a3,a4,a5⟩
       ·grind
       injection Di with hA _ _
       injection hA with hA
       subst hA
       refine .inr ⟨_,cp,fun a b=>c.getD (o+(lo+a)*sz+b) undef,by rw[AR],fun a y hy=>?_⟩
       have hy':=by
        rw[List.getElem?_take]at hy
        split at hy
        ·rwa[List.getElem?_drop]at hy
        grind
       obtain⟨b1,b2⟩:=a5 _ y hy'
       refine⟨b1,fun j d hd=>?_⟩
       obtain⟨d1,u,d2,d3⟩:=b2 j d hd
       have e:c.getD (o+(lo+a)*sz+j) undef=u:=by rw[adt,d2];rfl
       have DQ:=l7 y (ab6 hy') d (ab6 hd)
       have hr:bz G.M d u:=by
        rcases d3 with⟨c1,_⟩|⟨_,c2⟩
        ·grind
        ·exact c2
       refine⟨d1,?_,?_,DQ,?_⟩
       ·rw[cM,fa]
        simp only[World.cell?,a3]
        rw[show o+(lo*sz+(a*sz+j))=o+(lo+a)*sz+j by rw[Nat.add_mul];omega,e]
        simpa using d2
       ·show(c.getD (o+(lo+a)*sz+j) undef).oneCell'=true
        rw[e];exact hr.cY d1
       grind
     ·rintro b ⟨_,_,_,_,_,q,_⟩;cases q
    |_=>exact h.elim
  grind
 grind
theorem dJ{c:Call}{s x:Operand}{t:Nat}{a:Act}{w w':World}{v':Value}(ho:o.op=.call c)(hc:c.callee=.builtin .append)(ha:c.args.toList=[s,x])(lY:c.argTypes.toList=[t,t])
 (h:(Builtin.append_ #[t,t] o.type #[a.eval s,a.eval x]).run P w=.ok v' w'):(execOp a.eval o).run P w=.ok (.value v') w':=by
 have cK:c.args=#[s,x]:=Array.ext' (by grind)
 have NU:c.argTypes=#[t,t]:=Array.ext' (by grind)
 simp_all [execOp,resolve,invoke,builtin]
theorem cB.append(hT:fD P T){t ty:TypeId}(cC:(nth T t).ok=true)(gM:(nth T t).isSl=true)(wo:(nth T (nth T t).elem).ok=true)(dD:0<(nth T (nth T t).elem).size)
 {g:dV} {κ' κ2:Nat->aw} {a:Act} {w:World} {G:Gh} (ak:cB g n ρ κ' a w G) {i bJ:Nat} {l ys zs:List DV} {kill:List Nat} {h hs:List PS->Option Value} {v x:Value}
 (ht:bD G.M w h (.aD (nth T (nth T t).elem).size l)) (hi:ji h (.aD (nth T (nth T t).elem).size l)) (hv:h []=some v)
 (hk:(κ' i=.none/\bJ=0/\∀b,¬bR h (.aD (nth T (nth T t).elem).size l) b)\/∃ver ep,κ' i=.tree ver ep (.aD (nth T (nth T t).elem).size l)/\bJ=ver+1/\h=aO G.H i ver ep)
 (lK:Src G.M w x (nth T (nth T t).elem).size ys hs) (Sq:∀b,bR hs (.aD (nth T (nth T t).elem).size ys) b->∃j,j∈kill/\cD G j (κ' j) b) (I0:i∉kill) (hle:b7 ys zs)
 (EK:l.length+zs.length<=9223372036854775807) (As:(l.length+zs.length)*(nth T (nth T t).elem).bytes<=140737488355328)
 (h1:κ2 i=.tree bJ 0 (.aD (nth T (nth T t).elem).size (l++zs))) (h2:∀j,j∈kill->κ2 j=.dead) (h3:∀j,j≠i->j∉kill->κ2 j=κ' j):
 ∃v' w' G',(Builtin.append_ #[t,t] ty #[v,x]).run P w=.ok v' w'/\cB g n ρ κ2 a w' G'/\aK G' (.own i bJ 0 []) v':=by
 have Sr:∀b,bR h (.aD (nth T (nth T t).elem).size l) b->cD G i (κ' i) b:=fun b hb=>by
  rcases hk with⟨_,_,h0⟩|⟨ver,ep,gN,_,rfl⟩
  ·grind
  ·rwa[gN]
 obtain⟨v',w',bG,jh,w4,t1,t2,t3⟩:=Hy hT cC gM wo dD ht hi hv lK
  (fun b hb eT=>by obtain⟨j,hj,ho⟩:=Sq b eT;exact I0 (ak.fit.inj i j b (Sr b hb) ho▸hj))
  (fun b hb=>by obtain⟨j,_,ho⟩:=Sq b hb;exact ho.lt ak.fit) hle EK As
 obtain⟨G',g1,g2,_,g4,_,_,g7⟩:=ak.mz (fun j=>j∈kill) _ I0
  (by
   grind)
  h2 h1 h3
  (fun p y hy=>by
   have hb:=ak.fit.box i
   rcases hk with⟨gN,rfl,_⟩|⟨ver,ep,gN,rfl,_⟩
   ·rw[gN]at hb;cases p<;>simp[aO,hb.2]at hy
   ·rw[gN]at hb;cases p<;>simp[aO,hb.2.2.1 (ver+1) (by omega)]at hy)
  t1 t2
  (fun b hb=>by
   grind)
  (fun b hb dI _=>jh.block b hb fun e=>dI (Sr b ((fun b hb=>⟨[],_,v,rfl,rfl,hv,hb⟩) b e.symm)))
  (fun b hb=>by
   rcases hb with h5|⟨j,_,h5⟩
   ·exact ak.fit.own i b h5
   ·exact ak.fit.own j b h5)
  jh.size jh.os jh.tape jh.output
 exact⟨v',w',G',bG,g7,.own _ _ _ _ _ ((g4 []).trans rfl) w4⟩
theorem Mh(hT:fD P T){t:Nat}{s x:Operand}{c:Call}{sv xv:AV}(hg:cb ρ ops o.guard=some gd)(ho:o.op=.call c)(hc:c.callee=.builtin .append)(ha:c.args.toList=[s,x])(lY:c.argTypes.toList=[t,t])
 (hn:∀i,nx<=i->κ i=.none) (h:oh T n o nx κ k t sv xv) (ye:bN ρ κ gd s sv) (hex:bN ρ κ gd x xv):Good P C ops n o nx ρ κ k:=by
 have dW:∀c',o.op≠.defer c':=fun c'=>by rw[ho];simp
 have cK:c.args=#[s,x]:=Array.ext' (by simpa using ha)
 have ms:s∈o.op.operands:=by rw[ho];simp[Op.operands,Call.operands,hc,cK]
 have mx:x∈o.op.operands:=by rw[ho];simp[Op.operands,Call.operands,hc,cK]
 unfold oh at h
 simp only at h
 cases o9:(nth T t).ok&&(nth T t).isSl&&(nth T (nth T t).elem).ok&&Nat.blt 0 (nth T (nth T t).elem).size with
 |false=>rw[o9]at h;exact h.elim
 |true=>
 rw[o9]at h
 simp only[cond_true]at h
 simp only[adT,Nat.blt_eq]at o9
 obtain⟨⟨⟨cC,gM⟩,wo⟩,dD⟩:=o9
 have HA:∀j,(∃v e d,κ j=.tree v e d)->j<nx:=fun j ⟨v,e,d,hj⟩=>by
  rcases adC j nx with h|h
  ·exact h
  ·rw[hn j h]at hj;cases hj
 have Kh:∀{kill:List Nat} {fE:Nat},(∀j,j∈kill->∃v e d,κ j=.tree v e d)->nx<=fE->∀p,p∈fJ kill->p.1<fE:=by
  intro kill fE hk hle p hp
  have:p.1∈kill:=by
   clear hk
   induction kill with
   |nil=>simp[fJ]at hp
   |cons i r ih=>simp only[fJ]at hp;rcases adp.1 hp with rfl|hp;exact adu;exact adq _ (ih hp)
  have:=HA _ (hk _ this);omega
 have nothing:∀{v:Value} {w:World},((∃l ob gb cap,v=.slice (some ⟨gb,ob,none⟩) l cap/\l<=cap)\/v=.slice none 0 0)->(Builtin.append_ #[t,t] o.type #[v,.slice none 0 0]).run P w=.ok v w:=by
  intro v w hv
  obtain⟨i,u,z,tf⟩:=hT.facts cC
  obtain⟨te,ue,ze,jk⟩:=hT.facts wo
  rcases hv with⟨l,ob,gb,cap,rfl,eJ⟩|rfl
  ·simp[Builtin.append_,run_underlying (tf.slice gM),sizeOf,typeInfo,jk.info,Builtin.lenOf,Builtin.firstCells,eJ,storeCells]
  ·simp[Builtin.append_,run_underlying (tf.slice gM),sizeOf,typeInfo,jk.info,Builtin.lenOf,Builtin.firstCells]
 split at h
 ·-- a nil slice
  rcases kO h with⟨rfl,hk⟩|⟨sz,ys,rd,kill,hk,U3,U4,lK⟩
  ·refine dq dW hg hk (adM _) (by simp) fun ρ' κ' ay g a w G dK ak aY=>?_
   have hv:=ye ρ' κ' (ay.op ms) g n a w G ak aY
   have ec:=hex ρ' κ' (ay.op mx) g n a w G ak aY
   generalize hx:a.eval s=v at hv
   generalize hi:a.eval x=vi at ec
   cases hv with|dv hv=>cases hv with|ax=>cases ec with|dv ec=>cases ec with|ax=>
   refine⟨_,w,G,.inl (dJ ho hc ha lY (by rw[hx,hi];exact nothing (.inr rfl))),ak,.dv .ax⟩
  ·cases bP:Nat.beq sz (nth T (nth T t).elem).size with
   |false=>rw[bP]at hk;exact hk.elim
   |true=>
   rw[bP]at hk
   have:=ab9 bP
   subst this
   obtain⟨zs,hle,As,EK,hk⟩:=hk
   refine dq dW hg hk (by omega) (fun p hp=>?_) fun ρ' κ' ay g a w G dK ak aY=>?_
   ·rcases adp.1 hp with rfl|hp
    ·simp
    ·exact Kh (fun j hj=>U3 j (U4 j hj)) (by omega) p hp
   ·have fb:=(ay.reads nx (by simp)).trans (hn nx (adM _))
    have hv:=ye ρ' κ' (ay.op ms) g n a w G ak aY
    have ec:=hex ρ' κ' (ay.op mx) g n a w G ak aY
    obtain⟨hs,NL,hsk⟩:=lK κ' G w _ (fun i hi=>ay.reads i (by simp[hi])) ak.fit ec
    have SD:nx∉kill:=fun hm=>by have:=HA nx (U3 nx (U4 nx hm));omega
    generalize hx:a.eval s=v at hv
    cases hv with|dv hv=>cases hv with|ax=>
    obtain⟨v',w',G',r1,r2,r3⟩:=ak.append (κ2:=aF κ' ((nx,.tree 0 0 (.aD (nth T (nth T t).elem).size zs))::fJ kill)) hT cC gM wo dD (Aa _ _ _) (Es _) rfl (.inl ⟨fb,rfl,fun b hb=>kN hb⟩) NL hsk SD hle (by simpa using EK) (by simpa using As)
     (by simp[aF]) (fun j hj=>by simp only[aF];rw[ah _ _ (by rintro rfl;exact SD hj),dh,if_pos hj]) (fun j h1 h2=>by simp only[aF];rw[ah _ _ h1,dh,if_neg h2])
    exact⟨v',w',G',.inl (dJ ho hc ha lY (by rw[hx];exact r1)),r2,r3⟩
 ·-- a slice adl adm its array
  rename_i i ver ep p
  split at h
  ·rename_i bJ cn d gN
   cases hb:Nat.beq ver bJ&&(emp p||Nat.beq ep cn)with
   |false=>rw[hb]at h;exact h.elim
   |true=>
   rw[hb]at h
   simp only[cond_true]at h
   obtain⟨rfl,fo⟩:=dE hb
   obtain⟨nd,h,HB⟩:=bY h
   have yI:=HB rfl
   have U5:=HA i ⟨_,_,_,gN⟩
   cases nd with
   |aD sz l=>
    simp only at h
    cases bP:Nat.beq sz (nth T (nth T t).elem).size with
    |false=>rw[bP]at h;exact h.elim
    |true=>
    rw[bP]at h
    simp only[cond_true]at h
    have:=ab9 bP
    subst this
    have U6:∀{g:dV} {a:Act} {G:Gh} {κ':Nat->aw} {w:World},aK G (.own i ver ep p) (a.eval s)->aO G.H i ver cn p=some (a.eval s):=by
     intro g a G κ' w hv
     generalize a.eval s=v at hv⊢
     cases hv with|own _ _ _ _ _ hh jS=>rw[<-cZ fo];exact hh
    rcases kO h with⟨rfl,hk⟩|⟨pz,ys,rd,kill,hk,U3,U4,lK⟩
    ·-- nothing comes in
     have node:∀{G:Gh} {w:World} {κ':Nat->aw},κ' i=κ i->Fit G w κ'->∀{v:Value},aO G.H i ver cn p=some v->((∃l ob gb cap,v=.slice (some ⟨gb,ob,none⟩) l cap/\l<=cap)\/v=.slice none 0 0):=by
      intro G w κ' he hf v hv
      obtain⟨u,h1,_,h3⟩:=hf.node (he.trans gN) yI rfl
      rw[hv]at h1;injection h1 with h1;subst h1
      rcases h3 with⟨_,rfl⟩|⟨gb,ob,cap,c,t,rfl,eJ,_⟩
      ·exact .inr rfl
      ·exact .inl ⟨_,_,_,_,rfl,eJ⟩
     cases p with
     |nil=>
      simp[get]at yI
      subst yI
      refine dq dW hg hk (adM _) (by simpa using U5) fun ρ' κ' ay g a w G dK ak aY=>?_
      have he:=ay.reads i (by simp)
      have hv:=ye ρ' κ' (ay.op ms) g n a w G ak aY
      have ec:=hex ρ' κ' (ay.op mx) g n a w G ak aY
      have hx:=U6 (g:=g) (κ':=κ') (w:=w) hv
      generalize hi:a.eval x=vi at ec
      cases ec with|dv ec=>cases ec with|ax=>
      have fG:=ak.fit.box i
      rw[he,gN]at fG
      obtain⟨G',g1,g2,_,g4,_,_,g7⟩:=ak.mz (κ':=aF κ' [(i,.tree (ver+1) 0 (.aD (nth T (nth T t).elem).size l))]) (ver:=ver+1) (ep:=0) (fun _=>False) (aO G.H i ver cn) (fun h=>h.elim) (.inr ⟨ver,cn,_,he.trans gN,by omega,by omega⟩) (fun _ h=>h.elim) (by simp[aF]) (fun j hj _=>by simp[aF,ah _ _ hj])
       (fun q y hy=>by cases q<;>simp[aO,fG.2.2.1 (ver+1) (by omega)]at hy) fG.1 fG.2.1 (fun b hb=>.inr (.inl (by rw[he,gN];exact hb))) (fun _ _ _ _=>rfl) (fun b hb=>by
        rcases hb with h5|⟨_,h5,_⟩
        ·exact ak.fit.own i b h5
        ·exact h5.elim) (adM _) rfl rfl rfl
      have w4:(a.eval s).oneCell'=true:=by rcases node he ak.fit hx with⟨_,_,_,_,e,_⟩|e<;>rw[e]<;>rfl
      exact⟨a.eval s,w,G',.inl (dJ ho hc ha lY (by rw[hi];exact nothing (node he ak.fit hx))),g7,.own _ _ _ _ _ ((g4 []).trans hx) w4⟩
     |cons ps pr=>
      obtain⟨hk,_⟩:=gn hk
      refine dq dW hg hk (by omega) (fun q hq=>by
       rcases adp.1 hq with rfl|hq
       ·simp
       ·simp at hq;subst hq;simp;omega) fun ρ' κ' ay g a w G dK ak aY=>?_
      have he:=ay.reads i (by simp)
      have fb:=(ay.reads nx (by simp)).trans (hn nx (adM _))
      have hv:=ye ρ' κ' (ay.op ms) g n a w G ak aY
      have ec:=hex ρ' κ' (ay.op mx) g n a w G ak aY
      have hx:=U6 (g:=g) (κ':=κ') (w:=w) hv
      generalize hi:a.eval x=vi at ec
      cases ec with|dv ec=>cases ec with|ax=>
      obtain⟨G',g1,g2,_,g4,g7⟩:=ak.split (κ':=aF κ' [(nx,.tree 0 0 (.aD (nth T (nth T t).elem).size l)),(i,.tree ver (cn+1) (eK d (ps::pr) .any))]) (nx:=nx) (he.trans gN) fb yI rfl (by simp) (by simp only[aF];rw[ah _ _ (by omega)];simp) (by simp[aF]) (fun j h1 h2=>by simp only[aF];rw[ah _ _ h2,ah _ _ h1])
      have w4:(a.eval s).oneCell'=true:=by rcases node he ak.fit hx with⟨_,_,_,_,e,_⟩|e<;>rw[e]<;>rfl
      refine⟨a.eval s,w,G',.inl (dJ ho hc ha lY (by rw[hi];exact nothing (node he ak.fit hx))),g7,.own _ _ _ _ _ ((g4 []).trans ?_) w4⟩
      rw[List.append_nil];exact hx
    ·cases cx:Nat.beq pz (nth T (nth T t).elem).size&& !iU i rd with
     |false=>rw[cx]at hk;exact hk.elim
     |true=>
     rw[cx]at hk
     simp only[cond_true]at hk
     simp only[adT,adV]at cx
     have:=ab9 cx.1
     subst this
     have abP:=fy cx.2
     have I0:=fun hm=>abP (U4 i hm)
     obtain⟨zs,hle,As,EK,hk⟩:=hk
     cases p with
     |nil=>
      simp[get]at yI
      subst yI
      refine dq dW hg hk (adM _) (fun q hq=>by
       rcases adp.1 hq with rfl|hq
       ·exact U5
       ·exact Kh (fun j hj=>U3 j (U4 j hj)) (adM _) q hq) fun ρ' κ' ay g a w G dK ak aY=>?_
      have he:=ay.reads i (by simp)
      have hv:=ye ρ' κ' (ay.op ms) g n a w G ak aY
      have ec:=hex ρ' κ' (ay.op mx) g n a w G ak aY
      have hx:=U6 (g:=g) (κ':=κ') (w:=w) hv
      obtain⟨hs,NL,hsk⟩:=lK κ' G w _ (fun i hi=>ay.reads i (by simp[hi])) ak.fit ec
      have fG:=ak.fit.box i
      rw[he,gN]at fG
      obtain⟨v',w',G',r1,r2,r3⟩:=ak.append (κ2:=aF κ' ((i,.tree (ver+1) 0 (.aD (nth T (nth T t).elem).size (l++zs)))::fJ kill)) (ty:=o.type) (i:=i) (bJ:=ver+1) hT cC gM wo dD fG.1 fG.2.1 hx (.inr ⟨ver,cn,he.trans gN,rfl,rfl⟩) NL hsk I0 hle EK As
       (by simp[aF]) (fun j hj=>by simp only[aF];rw[ah _ _ (by rintro rfl;exact I0 hj),dh,if_pos hj]) (fun j h1 h2=>by simp only[aF];rw[ah _ _ h1,dh,if_neg h2])
      exact⟨v',w',G',.inl (dJ ho hc ha lY r1),r2,r3⟩
     |cons ps pr=>
      obtain⟨hk,_⟩:=gn hk
      refine dq dW hg hk (by omega) (fun q hq=>by
       rcases adp.1 hq with rfl|hq
       ·simp
       ·rcases adp.1 hq with rfl|hq
        ·show i<nx+1;omega
        ·exact Kh (fun j hj=>U3 j (U4 j hj)) (by omega) q hq) fun ρ' κ' ay g a w G dK ak aY=>?_
      have he:=ay.reads i (by simp)
      have fb:=(ay.reads nx (by simp)).trans (hn nx (adM _))
      have hv:=ye ρ' κ' (ay.op ms) g n a w G ak aY
      have ec:=hex ρ' κ' (ay.op mx) g n a w G ak aY
      have hx:=U6 (g:=g) (κ':=κ') (w:=w) hv
      have SD:nx∉kill:=fun hm=>by have:=HA nx (U3 nx (U4 nx hm));omega
      have acO:nx∉rd:=fun hm=>by have:=HA nx (U3 nx hm);omega
      obtain⟨G1,g1,g2,_,g4,g7⟩:=ak.split (κ':=aF κ' [(nx,.tree 0 0 (.aD (nth T (nth T t).elem).size l)),(i,.tree ver (cn+1) (eK d (ps::pr) .any))]) (i:=i) (nx:=nx) (he.trans gN) fb yI rfl (by simp) (by simp only[aF];rw[ah _ _ (by omega)];simp) (by simp[aF]) (fun j h1 h2=>by simp only[aF];rw[ah _ _ h2,ah _ _ h1])
      obtain⟨hs,NL,hsk⟩:=lK (aF κ' [(nx,.tree 0 0 (.aD (nth T (nth T t).elem).size l)),(i,.tree ver (cn+1) (eK d (ps::pr) .any))]) G1 w _ (fun j hj=>by simp only[aF];rw[ah _ _ (by rintro rfl;exact acO hj),ah _ _ (by rintro rfl;exact abP hj)];exact ay.reads j (by simp[hj])) g7.fit (ec.mono g1)
      have fG:=g7.fit.box nx
      have sL:aF κ' [(nx,.tree 0 0 (.aD (nth T (nth T t).elem).size l)),(i,.tree ver (cn+1) (eK d (ps::pr) .any))] nx=.tree 0 0 (.aD (nth T (nth T t).elem).size l):=by simp[aF]
      rw[sL]at fG
      obtain⟨v',w',G',r1,r2,r3⟩:=g7.append (κ2:=aF κ' ((nx,.tree 1 0 (.aD (nth T (nth T t).elem).size (l++zs)))::(i,.tree ver (cn+1) (eK d (ps::pr) .any))::fJ kill)) (ty:=o.type) (i:=nx) (bJ:=1) hT cC gM wo dD fG.1 fG.2.1 (v:=a.eval s) (by rw[g4 [],List.append_nil];exact hx) (.inr ⟨0,0,sL,rfl,rfl⟩) NL hsk SD hle EK As
       (by simp[aF]) (fun j hj=>by simp only[aF];rw[ah _ _ (by rintro rfl;exact SD hj),ah _ _ (by rintro rfl;exact I0 hj),dh,if_pos hj]) (fun j h1 h2=>by
        simp only[aF]
        rw[ah _ _ h1,ah _ _ h1]
        by_cases e:j=i
        ·subst e;simp
        ·rw[ah _ _ e,ah _ _ e,dh,if_neg h2])
      exact⟨v',w',G',.inl (dJ ho hc ha lY r1),r2,r3⟩
   |_=>exact h.elim
  ·exact h.elim
 ·exact h.elim
end
end
section
open Go.RowKit
variable [cj]
structure ZJ(G:Gh)(w:World)(κ:Nat->aw)(ids:List Nat)(ds:List DV)(us:List Value)(hs:Nat->List PS->Option Value)(id:Nat->Nat):Prop where
 len:ds.length=us.length
 cell:∀(j:Nat) (d:DV) (u:Value),ds[j]?=some d->us[j]?=some u->(d.ar=false/\bz G.M d u)\/
  (d.ar=true/\id j∈ids/\bD G.M w (hs j) d/\ji (hs j) d/\hs j []=some u/\∀b,bR (hs j) d b->cD G (id j) (κ (id j)) b)
 ne:∀(j j':Nat) (d d':DV),ds[j]?=some d->ds[j']?=some d'->d.ar=true->d'.ar=true->id j=id j'->j=j'
theorem HC{i:Nat}{r:List Nat}(h:gI (i::r)=true):i∉r/\gI r=true:=by
 simp_all [gI,fy]
theorem Ki{κ κ':Nat->aw}{G:Gh}{w:World}{v:AV}{d:DV}{ids:List Nat}(h:T6 κ v=some (d,ids))(ay:∀i,i∈ids->κ' i=κ i)(hf:Fit G w κ'){u:Value}(hv:aK G v u):
 (ids=[]/\d.ar=false/\bz G.M d u)\/∃i ver ep,ids=[i]/\κ' i=.tree ver ep d/\d.ar=true/\aO G.H i ver ep []=some u:=by
 unfold T6 at h
 split at h
 ·injection h with h;injection h with e1 e2;subst e1;subst e2
  cases hv with|dv hv=>exact .inl ⟨rfl,hv.fw,hv⟩
 ·rename_i i ver ep
  split at h
  ·rename_i bJ cn d' hk
   cases hb:Nat.beq ver bJ with
   |false=>grind
   |true=>
    rw[hb]at h
    have:=ab9 hb
    subst this
    simp[cond_true,Prod.mk.injEq]at h
    obtain⟨rfl,rfl⟩:=h
    have gN:=(ay i (by simp)).trans hk
    have fG:=hf.box i
    rw[gN]at fG
    cases hv with|own _ _ _ _ _ hh hc=>exact .inr ⟨i,ver,cn,rfl,gN,fG.1.1,hh⟩
  grind
 ·injection h with h;injection h with e1 e2;subst e1;subst e2
  cases hv with|fn _ _ vs hl hr=>
  have:=by simpa using hl.symm
  subst this
  exact .inl ⟨rfl,rfl,.fn _ [] [] rfl (by simp)⟩
 grind
theorem NY{κ κ':Nat->aw}{G:Gh}{w:World}{v:AV}{d:DV}{ids:List Nat}(h:toT κ v=some (d,ids))(ay:∀i,i∈ids->κ' i=κ i)(hf:Fit G w κ'){u:Value}(hv:aK G v u):
 (ids=[]/\d.ar=false/\bz G.M d u)\/∃i ver ep,ids=[i]/\κ' i=.tree ver ep d/\d.ar=true/\aO G.H i ver ep []=some u:=Ki h ay hf (A3 hv)
theorem oP{κ κ':Nat->aw}{G:Gh}{w:World}(hf:Fit G w κ'):∀{vs:List AV} {ds:List DV} {ids:List Nat} {us:List Value},s5 κ vs=some (ds,ids)->gI ids=true->(∀i,i∈ids->κ' i=κ i)->ck G vs us->∃hs id,ZJ G w κ' ids ds us hs id
 |[],ds,ids,us,h,_,_,hr=>by
  simp[s5]at h
  obtain⟨rfl,rfl⟩:=h
  have:=by have:=hr.1;simpa using this.symm
  subst this
  exact⟨fun _ _=>none,fun _=>0,rfl,by simp,by simp⟩
 |v::vs,ds,ids,us,h,dW,ay,hr=>by
  simp[s5]at h
  split at h
  ·rename_i d i l j h1 h2
   simp[Option.some.injEq,Prod.mk.injEq]at h
   obtain⟨rfl,rfl⟩:=h
   match us,hr with
   |[],hr=>have:=hr.1;grind
   |u::us,hr=>
    have uJ:gI j=true/\∀q,q∈i->q∉j:=by
     clear h1 h2 hr ay
     induction i with
     |nil=>grind
     |cons q i ih=>
      obtain⟨a1,a2⟩:=HC dW
      simp_all
    obtain⟨hs,id,dw⟩:=oP hf h2 uJ.1 (fun q hq=>ay q (adr.2 (.inr hq))) ⟨by simpa using hr.1,fun q e y he hy=>hr.2 (q+1) e y (by grind) (by grind)⟩
    rcases(NY h1 (fun q hq=>ay q (adr.2 (.inl hq))) hf (hr.2 0 v u rfl rfl))with⟨rfl,h3,h4⟩|⟨q,ver,ep,rfl,h3,h4,h5⟩
    ·refine⟨fun n=>match n with|0=>fun _=>none|n+1=>hs n,fun n=>match n with|0=>0|n+1=>id n,by simp[dw.len],fun n e y he hy=>?_,fun n n' e e' he Wm ho mj heq=>?_⟩
     ·cases n with
      |zero=>grind
      |succ n=>simpa using dw.cell n e y he hy
     ·cases n with
      |zero=>grind
      |succ n=>
       cases n' with
       |zero=>grind
       |succ n'=>rw[dw.ne n n' e e' he Wm ho mj heq]
    ·have fG:=hf.box q
     rw[h3]at fG
     refine⟨fun n=>match n with|0=>aO G.H q ver ep|n+1=>hs n,fun n=>match n with|0=>q|n+1=>id n,by simp[dw.len],fun n e y he hy=>?_,fun n n' e e' he Wm ho mj heq=>?_⟩
     ·cases n with
      |zero=>simp at he hy;subst he;subst hy;exact .inr ⟨h4,by simp,fG.1,fG.2.1,h5,fun b hb=>by rwa[h3]⟩
      |succ n=>
       rcases dw.cell n e y he hy with h6|⟨a1,a2,a3⟩
       ·grind
       grind
     ·have inj:∀n e,l[n]?=some e->e.ar=true->id n∈j:=by
       intro n e he ho
       rcases dw.cell n e _ he (IF (by rw[<-dw.len];grind))with⟨a1,_⟩|⟨_,a2,_⟩
       ·grind
       grind
      cases n with
      |zero=>
       grind
      |succ n=>
       cases n' with
       |zero=>grind
       |succ n'=>rw[dw.ne n n' e e' he Wm ho mj heq]
  grind
theorem ZJ.le{G:Gh}{w:World}{κ:Nat->aw}{ids:List Nat}{ds Nj:List DV}{us:List Value}{hs:Nat->List PS->Option Value}{id:Nat->Nat}(h:ZJ G w κ ids ds us hs id)(hle:mS ds Nj)(h1:∀u,u∈us->u.oneCell'=true):ZJ G w κ ids Nj us hs id/\∀d,d∈Nj->d.aq=true:=by
 have key:∀(j:Nat) (d':DV) (u:Value),Nj[j]?=some d'->us[j]?=some u->∃d,ds[j]?=some d/\((d.ar=true/\d=d')\/(d.ar=false/\bz G.M d' u)):=by
  intro j d' u ma hu
  have hj:j<ds.length:=by rw[hle.length];grind
  refine⟨ds[j],IF hj,?_⟩
  rcases hle.at j _ d' (IF hj) ma with h2|⟨h2,h3⟩
  ·grind
  ·rcases h.cell j _ u (IF hj) hu with⟨_,h4⟩|⟨h4,_⟩
   ·exact .inr ⟨h2,h3 G.M u h4⟩
   grind
 have hlen:Nj.length=us.length:=by rw[<-hle.length];exact h.len
 refine⟨⟨hlen,fun j d' u ma hu=>?_,fun j j' d d' hd ma ho mj heq=>?_⟩,fun d' ma=>?_⟩
 ·obtain⟨d,hd,hc⟩:=key j d' u ma hu
  rcases hc with⟨_,rfl⟩|⟨_,h3⟩
  ·exact h.cell j d u hd hu
  ·exact .inl ⟨h3.fw,h3⟩
 ·have q:∀(j:Nat) (d:DV),Nj[j]?=some d->d.ar=true->ds[j]?=some d:=by
   intro j d hd ho
   obtain⟨d0,h2,hc⟩:=key j d _ hd (IF (by grind))
   rcases hc with⟨_,rfl⟩|⟨_,h3⟩
   ·grind
   ·rw[h3.fw]at ho;grind
  exact h.ne j j' d d' (q j d hd ho) (q j' d' ma mj) ho mj heq
 ·obtain⟨j,hj⟩:=adE ma
  have Kj:j<us.length:=by grind
  obtain⟨d,_,hc⟩:=key j d' _ hj (IF Kj)
  rcases hc with⟨h2,rfl⟩|⟨_,h3⟩
  ·exact jO h2
  ·exact h3.aq (h1 _ (adP Kj))
theorem wK{x:DV}{off:Nat}{ds:List DV}{K:DV->Prop}(h:Bv x off ds K):∃y,K y/\((∀d,d∈ds->d.aq=true)->off+ds.length<=x.cells.length/\y.cells=oc x.cells off ds/\y.isAgg=x.isAgg):=by
 unfold Bv at h
 split at h
 ·rename_i l
  cases hb:Nat.ble (off+ds.length) l.length with
  |false=>grind
  |true=>rw[hb]at h;exact⟨_,h,fun _=>⟨Nat.le_of_ble_eq_true hb,rfl,rfl⟩⟩
 ·rename_i cF
  split at h
  ·rename_i d
   refine⟨d,h,fun hc=>?_⟩
   have hd:=hc d (by simp)
   refine⟨?_,?_,?_⟩
   ·cases x<;>first|exact(cF _ rfl).elim|simp[DV.cells]
   ·cases d<;>cases x<;>first|exact(cF _ rfl).elim|(cases hd;done)|rfl
   ·cases d<;>cases x<;>first|exact(cF _ rfl).elim|(cases hd;done)|rfl
  grind
theorem oQ{l ds:List DV}{off j:Nat}(hle:off+ds.length<=l.length):(oc l off ds)[j]?=if off<=j/\j<off+ds.length then ds[j-off]? else l[j]?:=by
 unfold oc
 rw[adJ,List.getElem?_append]
 grind
theorem qx{l ds:List DV}{off:Nat}(hle:off+ds.length<=l.length):(oc l off ds).length=l.length:=by grind [oc]
theorem Ad{l us:List Value}{off j:Nat}(hle:off+us.length<=l.length):(l.take off++us++l.drop (off+us.length))[j]?=if off<=j/\j<off+us.length then us[j-off]? else l[j]?:=by
 rw[adJ,List.getElem?_append]
 grind
theorem HD{sz idx off:Nat}{nd:DV}{ds:List DV}{K:List DV->DV->Prop}(h:FP sz idx off nd ds K):
 ∃EB Jz,K EB Jz/\nd.ar=true/\((∀d,d∈ds->d.aq=true)->nd.ar=true/\Jz.ar=true/\
  (∀s c,step Jz s=some c->(∃j,s=.el idx j/\off<=j/\j<off+ds.length/\ds[j-off]?=some c)\/((∀j,s=.el idx j->¬(off<=j/\j<off+ds.length))/\step nd s=some c))/\
  (∀j c,step nd (.el idx j)=some c->off<=j->j<off+ds.length->c∈EB)/\
  ∀(M:Mem) (w:World) (v:Value) (jS:PS->Option Value),cI M w v jS nd->∃g o c t,cT v=some g/\w.heap[g]?=some (.cells c t (0,0))/\o+ds.length<=c.size/\
   (∀A,(v=.pointer (some A)\/∃m q,v=.slice (some A) m q)->A.add (idx*sz+off)=⟨g,o,none⟩)/\
   ∀(us:List Value) (o6:PS->Option Value) (w':World),us.length=ds.length->w'.heap[g]?=some (.cells (c.toList.take o++us++c.toList.drop (o+us.length)).toArray t (0,0))->
    (∀s,(∀j,s=.el idx j->¬(off<=j/\j<off+ds.length))->o6 s=jS s)->(∀(j:Nat) (d:DV) (u:Value),ds[j]?=some d->us[j]?=some u->dG M (o6 (.el idx (off+j))) d u)->cI M w' v o6 Jz):=by
 unfold FP at h
 split at h
 ·rename_i pz l
  cases hb:Nat.beq sz pz with
  |false=>grind
  |true=>
   rw[hb]at h
   have:=ab9 hb
   subst this
   obtain⟨x,hx,h⟩:=h
   obtain⟨y,h,SX⟩:=wK h
   have BL:=(W8.1 hx).1
   refine⟨_,_,h,rfl,fun hc=>?_⟩
   obtain⟨hle,hy,_⟩:=SX hc
   refine⟨rfl,rfl,fun s c hs=>?_,fun j c hs h1 h2=>?_,fun M w v jS bq=>?_⟩
   ·cases s with
    |key=>simp[step]at hs
    |el i j=>
     simp only[step]at hs
     by_cases e:idx=i
     ·subst e
      rw[List.getElem?_set_self BL]at hs
      simp only[hy]at hs
      rw[oQ hle]at hs
      split at hs
      ·grind
      grind [step]
     ·rw[List.getElem?_set_ne e]at hs
      refine .inr ⟨fun j' e'=>?_,hs⟩
      grind
   ·simp only[step,hx]at hs
    refine ab6 (i:=j-off) ?_
    grind
   ·rcases bq with⟨rfl,_⟩|⟨g,o,cap,c,t,rfl,eJ,hw,bP,sL⟩
    ·grind
    ·obtain⟨a1,a2⟩:=sL idx x hx
     have cP:o+idx*sz+off+ds.length<=c.size:=by
      have:(idx+1)*sz<=cap*sz:=adN _ (by omega)
      grind
     refine⟨g,o+idx*sz+off,c,t,rfl,hw,cP,fun A hA=>?_,fun us o6 w' wT Mk nL kD=>?_⟩
     ·grind [fa]
     ·refine .inr ⟨g,o,cap,_,t,by simp,by grind,Mk,by simp[wT];omega,fun i z hz=>?_⟩
      have rR:∀q,(c.toList.take (o+idx*sz+off)++us++c.toList.drop (o+idx*sz+off+us.length)).toArray[q]?=if o+idx*sz+off<=q/\q<o+idx*sz+off+us.length then us[q-(o+idx*sz+off)]? else c[q]?:=fun q=>by
       rw[List.getElem?_toArray,Ad (by grind)]
       simp
      by_cases e:idx=i
      ·subst e
       rw[List.getElem?_set_self BL]at hz
       injection hz with hz
       subst hz
       rw[hy,qx hle]
       refine⟨a1,fun j d hd=>?_⟩
       rw[oQ hle]at hd
       split at hd
       ·rename_i hr
        have Kj:j-off<us.length:=by omega
        refine⟨hc d (ab6 hd),us[j-off],?_,?_⟩
        ·rw[rR,if_pos (by omega),show o+idx*sz+j-(o+idx*sz+off)=j-off by omega];grind
        ·have:=kD (j-off) d _ hd (IF Kj)
         rwa[show off+(j-off)=j by omega]at this
       ·rename_i hr
        obtain⟨b1,u,b2,b3⟩:=a2 j d hd
        refine⟨b1,u,by rwa[rR,if_neg (by omega)],?_⟩
        rwa[nL (.el idx j) (fun j' e'=>by injection e' with _ e';subst e';exact hr)]
      ·rw[List.getElem?_set_ne e]at hz
       obtain⟨b1,b2⟩:=sL i z hz
       refine⟨b1,fun j d hd=>?_⟩
       obtain⟨c1,u,c2,c3⟩:=b2 j d hd
       have hj:j<sz:=by rw[<-b1];exact(W8.1 hd).1
       refine⟨c1,u,?_,?_⟩
       ·rwa[rR,if_neg ?_]
        rintro⟨q1,q2⟩
        rw[wT]at q2
        have Yv:off+ds.length<=sz:=by rwa[<-a1]
        rcases adC i idx with au|gV
        ·have:=adN sz (show i+1<=idx from au);rw[Nat.add_mul]at this;omega
        ·have:=adN sz (show idx+1<=i by omega);rw[Nat.add_mul]at this;omega
       ·rwa[nL (.el i j) (fun j' e'=>by injection e' with e' _;exact absurd e'.symm e)]
 ·rename_i x
  cases hb:Nat.beq idx 0 with
  |false=>rw[hb]at h;exact h.elim
  |true=>
   rw[hb]at h
   have:=ab9 hb
   subst this
   simp only[cond_true]at h
   obtain⟨y,h,SX⟩:=wK h
   refine⟨_,_,h,rfl,fun hc=>?_⟩
   obtain⟨hle,hy,_⟩:=SX hc
   refine⟨rfl,rfl,fun s c hs=>?_,fun j c hs h1 h2=>?_,fun M w v jS bq=>?_⟩
   ·cases s with
    |key=>simp[step]at hs
    |el i j=>
     simp only[step]at hs
     cases nP:Nat.beq i 0 with
     |false=>rw[nP]at hs;cases hs
     |true=>
      rw[nP]at hs
      have:=ab9 nP
      subst this
      simp only[cond_true,hy]at hs
      rw[oQ hle]at hs
      split at hs
      ·rename_i hr;exact .inl ⟨j,rfl,hr.1,hr.2,hs⟩
      ·rename_i hr
       refine .inr ⟨fun j' e'=>?_,by simp[step];exact hs⟩
       injection e' with _ e';subst e';exact hr
   ·simp[step]at hs
    refine ab6 (i:=j-off) ?_
    rwa[List.getElem?_take,if_pos (by omega),List.getElem?_drop,show off+(j-off)=j by omega]
   ·obtain⟨g,c,t,rfl,hw,bP,sL⟩:=bq
    refine⟨g,off,c,t,rfl,hw,by omega,fun A hA=>?_,fun us o6 w' wT Mk nL kD=>?_⟩
    ·rcases hA with hA|⟨_,_,hA⟩
     ·injection hA with hA;injection hA with hA;subst hA;rw[fa];congr 1;omega
     ·cases hA
    ·refine⟨g,_,t,rfl,Mk,by rw[hy,qx hle];simp[wT];omega,fun j d hd=>?_⟩
     have rR:∀q,(c.toList.take off++us++c.toList.drop (off+us.length)).toArray[q]?=if off<=q/\q<off+us.length then us[q-off]? else c[q]?:=fun q=>by
      rw[List.getElem?_toArray,Ad (by simp;omega)]
      simp
     rw[hy,oQ hle]at hd
     split at hd
     ·rename_i hr
      have Kj:j-off<us.length:=by omega
      refine⟨hc d (ab6 hd),us[j-off],by rw[rR,if_pos (by omega)];exact IF Kj,?_⟩
      have:=kD (j-off) d _ hd (IF Kj)
      rwa[show off+(j-off)=j by omega]at this
     ·rename_i hr
      obtain⟨b1,u,b2,b3⟩:=sL j d hd
      refine⟨b1,u,by rwa[rR,if_neg (by omega)],?_⟩
      rwa[nL (.el 0 j) (fun j' e'=>by injection e' with _ e';subst e';exact hr)]
 ·exact h.elim
end
end Go.TM
