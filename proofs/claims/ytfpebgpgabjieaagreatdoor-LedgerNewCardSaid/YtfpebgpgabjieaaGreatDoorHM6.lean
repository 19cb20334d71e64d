import Derived.Test.YtfpebgpgabjieaaGreatDoorHM5
set_option linter.all false
namespace Go.TM
section
open Go.RowKit
variable [cy]
theorem Nf{d nq n:DV}{q:List PS}{s:PS}{c:DV}(hq:get d q=some nq)(hs:step nq s=some c):eK d (q++[s]) n=eK d q (put nq s n):=by
 induction q generalizing d with
 |nil=>grind [get,eK]
 |cons s' q ih=>
  simp[get]at hq
  simp[List.cons_append,eK]
  cases h1:step d s' with
  |none=>grind
  |some c1=>grind
theorem br.lt{M:Mem}{w:World}{h:List PS->Option Value}{d:DV}(ht:br M w h d){b:Nat}(ho:bN h d b):b<w.heap.size:=by
 obtain⟨p,m,u,a1,a2,a3,a4⟩:=ho
 obtain⟨u',c1,_,c3⟩:=ht.2 p m a1 a2
 rw[a3]at c1;injection c1 with c1;subst c1
 exact xf c3 a4
theorem br.forget{M:Mem}{w:World}{h:List PS->Option Value}{d c:DV}{p:List PS}(ht:br M w h d)(hi:jl h d)(hp:get d p=some c)(hc:c.au=true)(dw:p≠[]):
 br M w h (eK d p .any)/\jl h (eK d p .any)/\∀b,bN h (eK d p .any) b->bN h d b/\¬bN (fun r=>h (p++r)) c b:=by
 have eL:∀(q:List PS) (x:DV),get d q=some x->q≠[]->x.ao=true:=fun q x hx _=>ht.cells q x hx
 have pf:∀b,bN h (eK d p .any) b->bN h d b->¬bN (fun r=>h (p++r)) c b:=by
  rintro b ⟨q,m,u,a1,a2,a3,a4⟩ _ ⟨r,m',u',b1,b2,b3,b4⟩
  by_cases vC:p <+: q
  ·obtain⟨r',rfl⟩:=eE vC
   rw[nv hp rfl eL]at a1
   cases r' with
   |nil=>simp[get]at a1;subst a1;cases a2
   |cons s r'=>simp[get,step]at a1
  ·rw[nw rfl eL vC]at a1
   cases hx:get d q with
   |none=>grind
   |some x=>
    rw[hx]at a1
    simp[Option.some.injEq]at a1
    have Ue:x.au=true:=by
     by_cases hq:q <+: p
     ·rw[if_pos hq]at a1
      obtain⟨r',rfl⟩:=eE hq
      cases r' with
      |nil=>grind
      |cons s r'=>grind [List.drop_left,lQ]
     grind
    have:=hi q _ x m' u u' b hx Ue a3 a4 (by rwa[get_append,hp]) b2 b3 b4
    grind
 rcases List.eq_nil_or_concat p with rfl|⟨q,s,rfl⟩
 ·grind
 ·rw[List.concat_eq_append]at hp pf⊢
  rw[get_append]at hp
  cases hq:get d q with
  |none=>grind
  |some nq=>
   rw[hq]at hp
   simp[get]at hp
   cases hs:step nq s with
   |none=>grind
   |some c0=>
    rw[hs]at hp
    simp at hp
    subst hp
    have hnq:=fW hs
    obtain⟨v,hv,zO,bo⟩:=ht.2 q nq hq hnq
    rw[Nf hq hs]at pf⊢
    have Fo:=by
     refine bo.Ki hs rfl fun u hr=>.inr ⟨rfl,.any u ?_⟩
     rcases hr with⟨_,b⟩|⟨a,_⟩
     ·obtain⟨u',c1,c2,_⟩:=ht.2 (q++[s]) c0 (by grind [get_append,get]) hc
      grind
     grind
    obtain⟨m1,m2,m3⟩:=br.rR (fun _=>False) ht hi hq hnq hv (by rwa[rj]) hv zO (.inr rfl) Fo (fun _ _=>rfl)
     (fun s' c' gH ho _=>by
      by_cases e:s=s'
      ·subst e;rw[l7 hs rfl]at gH;injection gH with gH;subst gH;cases ho
      ·rw[oV rfl e]at gH;grind)
     (fun _ _ _ _ hN=>hN.elim) (fun _ _ _ _ _ _ _ hN=>hN.elim) (fun b hb=>.inl hb) (fun _ _ _=>rfl)
    grind [bN]
section
variable {g:eb} {n:Nat} {ρ:Nat->AV} {κ κ':Nat->ax} {a:Act} {w w':World} {G:Gh}
theorem cE.split(h:cE g n ρ κ a w G){i nx ver ep:Nat}{d c:DV}{p:List PS}(hi:κ i=.tree ver ep d)(hx:κ nx=.none)(hp:get d p=some c)(hc:c.au=true)(dw:p≠[])(h1:κ' i=.tree ver (ep+1) (eK d p .any))(h2:κ' nx=.tree 0 0 c)(h3:∀j,j≠i->j≠nx->κ' j=κ j):
 ∃G',Gh.Le G G'/\G'.M=G.M/\G'.β=G.β/\(∀r,aS G'.H nx 0 0 r=aS G.H i ver ep (p++r))/\cE g n ρ κ' a w G':=by
 have np:=h.fit.box i
 have fF:=h.fit.box nx
 rw[hi]at np
 rw[hx]at fF
 obtain⟨ht,jm,Rm,eB⟩:=np
 obtain⟨f1,f2,f3⟩:=ht.forget jm hp hc dw
 let fi:=fun v e q=>if v=ver/\e=ep+1/\q≠[]then aS G.H i ver ep q else G.H i v e q
 let fx:=fun v e q=>if v=0/\e=0 then aS G.H i ver ep (p++q)else none
 let G':={ G with H:=wc (wc G.H i fi) nx fx }
 have hHi:G'.H i=fi:=by grind [wc,nz,mA]
 have hHx:G'.H nx=fx:=mA _ _ _
 have hHo:∀j,j≠i->j≠nx->G'.H j=G.H j:=fun j e1 e2=>by grind [wc,nz]
 have KO:aS G'.H i ver (ep+1)=aS G.H i ver ep:=by
  funext q
  cases q with
  |nil=>simp[aS,hHi];grind
  |cons s q=>simp[aS,hHi];show(if _ then _ else _)=_;rw[if_pos ⟨rfl,rfl,by simp⟩];rfl
 have hhx:aS G'.H nx 0 0=fun r=>aS G.H i ver ep (p++r):=by
  funext q
  cases q with
  |nil=>show G'.H nx 0 0 []=_;grind
  |cons s q=>show G'.H nx 0 0 _=_;grind
 have hle:Gh.Le G G':=⟨Mem.Le.refl _,fun _ _ q=>q,fun j v e q x hq=>by
  by_cases e1:j=i
  ·grind
  ·by_cases e2:j=nx
   ·subst e2;rw[fF.2]at hq;grind
   simp_all⟩
 have YP:∀b,cH G' i (κ' i) b->bN (aS G.H i ver ep) d b/\¬bN (fun r=>aS G.H i ver ep (p++r)) c b:=fun b hb=>by
  grind [cH]
 have YQ:∀b,cH G' nx (κ' nx) b->bN (fun r=>aS G.H i ver ep (p++r)) c b:=fun b hb=>by
  grind [cH]
 refine⟨G',hle,rfl,rfl,fun r=>congrFun hhx r,h.sx (C:=fun j=>j=i\/j=nx) ⟨hle,fun _ _=>rfl,fun j hj=>h3 j (fun e=>hj (.inl e)) (fun e=>hj (.inr e)),fun j hj=>⟨fun _ q=>q,fun v e q x hq=>?_⟩,fun _ _ _=>⟨rfl,rfl⟩,h.fit.sub,?_,?_,?_,adM _,rfl,rfl,rfl⟩ (fun _ _=>rfl)⟩
 ·simp_all
 ·rintro j (rfl|rfl)
  ·rw[h1]
   refine⟨by grind,by grind,fun v hv e q=>?_,fun e he q=>?_⟩
   ·rw[hHi];show(if v=ver/\_ then _ else _)=_;rw[if_neg (by omega)];exact Rm v hv e q
   ·rw[hHi];show(if ver=ver/\e=ep+1/\q≠[]then _ else _)=_;rw[if_neg (by omega)];exact eB e (by omega) q
  ·rw[h2]
   refine⟨by rw[hhx];exact ht.sub hp hc,by rw[hhx];exact jm.sub hp,fun v hv e q=>?_,fun e he q=>?_⟩
   ·rw[hHx];show(if v=0/\e=0 then _ else _)=_;rw[if_neg (by omega)]
   ·rw[hHx];show(if 0=0/\e=0 then _ else _)=_;rw[if_neg (by omega)]
 ·rintro j b (rfl|rfl) hb
  ·have:cH G j (κ j) b:=by rw[hi];exact((YP b hb).1)
   exact⟨.inr ⟨j,.inl rfl,this⟩,h.fit.own j b this⟩
  ·have:cH G i (κ i) b:=by rw[hi];exact((YQ b hb).sub hp)
   exact⟨.inr ⟨i,.inl rfl,this⟩,h.fit.own i b this⟩
 ·rintro j j' b (rfl|rfl) (rfl|rfl) hb fD
  ·rfl
  ·exact absurd (YQ b fD) (YP b hb).2
  ·exact absurd (YQ b hb) (YP b fD).2
  ·rfl
end
end
section
open Go.RowKit
variable [cy]
section
variable {g:eb} {n:Nat} {ρ:Nat->AV} {κ κ':Nat->ax} {a:Act} {w w':World} {G:Gh}
theorem cE.Ng(h:cE g n ρ κ a w G){i b:Nat}{l l':List AV}{vs:Array Value}{t:TypeId}(hi:κ i=.cells l)(hb:G.β i=some b)(kY:κ' i=.cells l')(o9:∀j,j≠i->κ' j=κ j)
 (hw:w'.heap[b]?=some (.cells vs t (0,0))) (hl:cG G l' vs.toList) (hc:∀v,v∈l'->v.ao=true) (ck:w.heap.size<=w'.heap.size) (fX:∀k,k<w.heap.size->k≠b->w'.heap[k]?=w.heap[k]?)
 (Uf:w'.os=w.os) (Ug:w'.tape=w.tape) (ij:w'.output=w.output):cE g n ρ κ' a w' G:=by
 have jB:cH G i (κ i) b:=by rwa[hi]
 refine h.sx ⟨Gh.Le.refl G,fun _ _=>rfl,o9,fun j _=>⟨fun _ q=>q,fun _ _ _ _ q=>q⟩,fun k hk fP=>⟨fX k hk fun e=>fP i rfl (by grind),rfl⟩,fun k o hk=>?_,?_,?_,fun j j' k e1 e2 _ _=>by grind,ck,Uf,Ug,ij⟩ (fun _ _=>rfl)
 ·have h1:=h.fit.sub k o hk
  rw[fX k (adw.1 h1).1 fun e=>?_]
  ·grind
  ·rw[e]at hk;rw[h.fit.own i b jB]at hk;grind
 ·rintro j rfl
  rw[kY]
  exact⟨b,vs,t,hb,hw,by have:=hl.1;grind,hc,fun j d v hd hv=>hl.2 j d v hd (by grind)⟩
 ·rintro j k rfl ho
  rw[kY]at ho
  have:cH G j (κ j) k:=by rwa[hi]
  exact⟨.inr ⟨j,rfl,this⟩,h.fit.own j k this⟩
theorem cE.qE(h:cE g n ρ κ a w G){i:Nat}{d:DV}(D:Nat->Prop)(h':List PS->Option Value)(hDi:¬D i)(hi:κ i=.none)(iO:∀j,D j->κ' j=.dead)(kY:κ' i=.tree 0 0 d)(o9:∀j,j≠i->¬D j->κ' j=κ j)
 (ht:br G.M w' h' d) (jm:jl h' d) (jB:∀b,bN h' d b->w.heap.size<=b\/∃j,D j/\cH G j (κ j) b) (fX:∀b,b<w.heap.size->(∀j,D j->¬cH G j (κ j) b)->w'.heap[b]?=w.heap[b]?)
 (ck:w.heap.size<=w'.heap.size) (Uf:w'.os=w.os) (Ug:w'.tape=w.tape) (ij:w'.output=w.output):
 ∃G',Gh.Le G G'/\G'.M=G.M/\(∀p,aS G'.H i 0 0 p=h' p)/\cE g n ρ κ' a w' G':=by
 have hb:=h.fit.box i
 rw[hi]at hb
 obtain⟨G',h1,h2,_,h4,_,_,h7⟩:=h.lX D h' hDi (.inl hi) iO kY o9 (fun p x hx=>by cases p<;>simp[aS,hb.2]at hx) ht jm
  (fun b fD=>(jB b fD).imp id fun h=>.inr h) (fun b fD _ hD=>fX b fD hD) (fun b fD=>by
   rcases fD with h1|⟨j,_,h1⟩
   ·rw[hi]at h1;exact h1.elim
   ·exact h.fit.own j b h1) ck Uf Ug ij
 grind
end
section
variable {P:Program} {C:eb->Prop} {T:List TI} {ops:List Oper} {n:Nat} {o:Oper} {nx:Nat} {ρ:Nat->AV} {κ:Nat->ax} {k:lK->Nat->Prop} {gd:Bool}
theorem lZ{w:World}(e:TypeId)(c:Array Value):(newRow e c).run P w=.ok ⟨w.heap.size,0,none⟩ (w.alloc (.cells c e)):=by
 rfl
theorem zt(G:Gh){t:Nat}{ti:TI}{i:TypeInfo}{u:TypeDesc}{z:Value}(tf:gO P t ti i u z):cG G (fp ti.zero) z.cells.toList/\∀v,v∈fp ti.zero->v.ao=true:=by
 obtain⟨h3,h4⟩:=ez tf.zc
 refine⟨jC h3,fun v hv=>?_⟩
 rw[r4]at hv
 obtain⟨d,hd,rfl⟩:=adK.1 hv
 exact(h4 d hd).1
theorem Sl(hT:fB P T){t:Nat}(hg:cn ρ ops o.guard=some gd)(ho:o.op=.alloc t)(cI:(nth T t).ok=true)(p6:κ nx=.none)
 (hk:dU n o (nx+1) k (.ptr nx 0) [(nx,.cells (fp (nth T t).zero))] [nx]):Good P C ops n o nx ρ κ k:=by
 obtain⟨i,u,z,tf⟩:=hT.facts cI
 refine du (fun c=>by grind) hg hk (by omega) (by simp) fun ρ' κ' aA g a w G dS aq aU=>?_
 obtain⟨hz,hc⟩:=zt G tf
 obtain⟨G',h1,h2,h3⟩:=aq.xg ((aA.reads nx (by simp)).trans p6) dS t hz hc
 refine⟨.pointer _,w.alloc _,G',.inl ?_,h2,.ptr nx 0 _ h3⟩
 simp[execOp,ho,Instr.alloc,tf.tN w,newVar,lZ]
theorem YR{t:Nat}{x:Operand}{av:AV}(hg:cn ρ ops o.guard=some gd)(ho:o.op=.box t x)(p6:κ nx=.none)(hc:cq (cellsOf av)=true)
 (hk:dU n o (nx+1) k (.ptr nx 0) [(nx,.cells (cellsOf av))] [nx]) (bP:bH ρ κ gd x av):Good P C ops n o nx ρ κ k:=by
 refine du (fun c=>by grind) hg hk (by omega) (by simp) fun ρ' κ' aA g a w G dS aq aU=>?_
 obtain⟨G',h1,h2,h3⟩:=aq.xg ((aA.reads nx (by simp)).trans p6) dS t (na (bP ρ' κ' (aA.op (by grind [Op.operands])) g n a w G aq aU) hc) (fZ hc)
 refine⟨.pointer _,w.alloc _,G',.inl ?_,h2,.ptr nx 0 _ h3⟩
 simp[execOp,ho,Instr.box,newVar,lZ]
theorem DN(hT:fB P T){t i off:Nat}{x y:Operand}{av:AV}{l:List AV}(hg:cn ρ ops o.guard=some gd)(ho:o.op=.store t x y)(cI:(nth T t).ok=true)(hb:κ i=.cells l)
 (ck:(cellsOf av).length=(nth T t).size) (hc:cq (cellsOf av)=true) (hle:off+(nth T t).size<=l.length)
 (hk:dU n o nx k .any [(i,.cells (iQ l off (cellsOf av)))] [i]) (dz:i<nx) (bP:bH ρ κ gd x (.ptr i off)) (J3:bH ρ κ gd y av):Good P C ops n o nx ρ κ k:=by
 obtain⟨ti,u,z,tf⟩:=hT.facts cI
 refine du (fun c=>by grind) hg hk (adM _) (by grind) fun ρ' κ' aA g a w G dS aq aU=>?_
 have gQ:=(aA.reads i (by simp)).trans hb
 have hv:=bP ρ' κ' (aA.op (by grind [Op.operands])) g n a w G aq aU
 have jV:=na (J3 ρ' κ' (aA.op (by grind [Op.operands])) g n a w G aq aU) hc
 have wi:=aq.fit.box i
 rw[gQ]at wi
 obtain⟨b,c,tt,hbe,hw,Fz,og,hr⟩:=wi
 generalize hx:a.eval x=v at hv
 cases hv with
 |ptr _ _ b' B2=>
 rw[hbe]at B2;injection B2 with B2;subst B2
 have hlen:(a.eval y).cells.toList.length=(nth T t).size:=by rw[<-jV.1,ck]
 have jP:=run_storeCells_at P b off tt (a.eval y).cells.toList 0 c w hw (by grind) (jV.dc hc)
 simp[Nat.add_zero]at jP
 have hold:cG G l c.toList:=⟨by grind,fun j d v hd hv=>hr j d v hd (by grind)⟩
 refine⟨undef,w.setRow b (c.toList.take off++(a.eval y).cells.toList++c.toList.drop (off+(a.eval y).cells.toList.length)).toArray,G,.inr ⟨?_,rfl⟩,
  aq.Ng (l':=iQ l off (cellsOf av)) gQ hbe (by simp[aF]) (fun j hj=>by simp[aF,ah _ _ hj]) (setRow_heap w b c _ tt _ hw) ?_ ?_ (by simp) (fun k _ dw=>setRow_other w b k _ dw) rfl rfl rfl,.any _⟩
 ·simp[execOp,ho,hx,Instr.storeAt,Instr.sureAddr,Sem.run_bind,Sem.run_pure,Result.andThen_ok,storeVar,tf.gl w,if_false]
  simp_all
 ·simpa using hold.iQ jV off (by grind)
 grind [iQ,List.mem_of_mem_take,fZ,List.mem_of_mem_drop]
theorem mB{i:Nat}:∀{l:List Nat},iM i l=true->i∈l
 |[],h=>by simp[iM]at h
 |j::r,h=>by
  simp[iM,Bool.or_eq_true]at h
  rcases h with h|h
  ·simp_all
  ·exact adq _ (mB h)
theorem fm{i:Nat}:∀{l:List Nat},iM i l=false->i∉l
 |[],_=>by simp
 |j::r,h=>by
  simp[iM,Bool.or_eq_false_iff]at h
  intro hm
  rcases adp.1 hm with rfl|hm
  ·simp_all
  ·exact(fm h.2) hm
theorem dt{γ:Nat->ax}:∀{ids:List Nat} (j:Nat),aF γ (fH ids) j=if j∈ids then .dead else γ j
 |[],j=>by rfl
 |i::r,j=>by
  simp[fH,aF]
  by_cases e:j=i
  ·subst e;simp
  ·rw[ah _ _ e,dt j];grind
theorem kL{v:AV}{q:(sz:Nat)->List DV->List Nat->List Nat->Prop}{nl:Prop}(h:pA κ v q nl):
 (v=.dv .aH/\nl)\/∃(sz:Nat) (ys:List DV) (rd kill:List Nat),q sz ys rd kill/\(∀j,j∈rd->∃v e d,κ j=.tree v e d)/\(∀j,j∈kill->j∈rd)/\
  ∀κ' G w x,(∀i,i∈rd->κ' i=κ i)->Fit G w κ'->aK G v x->∃hs,Src G.M w x sz ys hs/\∀b,bN hs (.aI sz ys) b->∃j,j∈kill/\cH G j (κ' j) b:=by
 unfold pA at h
 split at h
 ·rename_i sz l
  refine .inr ⟨sz,l,[],[],h,by simp,by simp,fun κ' G w x _ hf hv=>⟨fun _=>none,?_,?_⟩⟩
  ·cases hv with|dv hv=>
   refine .closed ((p5.aby hf.sub hv).mono rfl fun i x y hx hy=>?_) rfl
   rw[hx]at hy;injection hy with hy;subst hy
   refine⟨rfl,fun j d e u hd he FO hS=>?_⟩
   rw[hd]at he;injection he with he;subst he
   exact⟨FO,hS.fk,hS⟩
  ·rintro b ⟨_,_,_,_,_,q,_⟩;grind
 ·grind
 ·rename_i i ver ep p
  split at h
  ·rename_i bA cu d gQ
   cases hb:Nat.beq ver bA&&(emp p||Nat.beq ep cu)with
   |false=>grind
   |true=>
    rw[hb]at h
    simp only[cond_true]at h
    obtain⟨rfl,fh⟩:=dJ hb
    obtain⟨nd,h,ec⟩:=b7 h
    have ec:=ec rfl
    cases nd with
    |aI sz l=>
     have abA:∀{G:Gh} {κ':Nat->ax} {w:World} {x:Value},κ' i=κ i->Fit G w κ'->aK G (.own i ver ep p) x->aS G.H i ver cu p=some x:=by
      intro G κ' w x he hf hv
      cases hv with|own _ _ _ _ _ hh hc=>grind [de]
     rcases h with⟨og,h⟩|⟨rfl,hq⟩
     ·refine .inr ⟨sz,l,[i],[],h,by grind,by simp,fun κ' G w x aA hf hv=>⟨fun _=>none,?_,?_⟩⟩
      ·have he:=aA i (by simp)
       obtain⟨u,h1,h2,h3⟩:=hf.node (he.trans gQ) ec rfl
       rw[(abA he hf hv)]at h1;injection h1 with h1;subst h1
       refine .closed ?_ rfl
       have h4:uY w x sz l fun i j d u=>d.au=false/\bq G.M d u:=by
        rcases gX.1 h3 with h3|⟨g,o,cap,c,t,a1,a2,a3,a4,a5⟩
        ·exact .inl h3
        ·refine .inr ⟨g,o,cap,c,t,a1,a2,a3,a4,fun i y hy=>⟨(a5 i y hy).1,fun j d hd=>?_⟩⟩
         obtain⟨b1,u,b2,b3⟩:=(a5 i y hy).2 j d hd
         have FO:=og y (adl hy) d (adl hd)
         refine⟨b1,u,b2,FO,?_⟩
         rcases b3 with⟨c1,_⟩|⟨_,c2⟩
         ·grind
         grind
       exact p5.RU h4 fun i j d u hr hc=>hr.2.dc hc
      ·rintro b ⟨_,_,_,_,_,q,_⟩;grind
     ·refine .inr ⟨sz,l,[i],[i],hq,by grind,by simp,fun κ' G w x aA hf hv=>?_⟩
      have he:=aA i (by simp)
      have fF:=hf.box i
      rw[he,gQ]at fF
      simp[get]at ec
      subst ec
      refine⟨aS G.H i ver cu,.tree fF.1 fF.2.1 (abA he hf hv),fun b hb=>⟨i,by simp,?_⟩⟩
      rwa[he,gQ]
    |_=>grind
  grind
 ·rename_i i ver ep p sz lo m
  split at h
  ·rename_i bA cu d gQ
   cases hb:Nat.beq ver bA&&(emp p||Nat.beq ep cu)with
   |false=>grind
   |true=>
    rw[hb]at h
    simp only[cond_true]at h
    obtain⟨rfl,fh⟩:=dJ hb
    obtain⟨nd,h,ec⟩:=b7 h
    cases nd with
    |aI pw l=>
     simp only at h
     cases hz:Nat.beq sz pw with
     |false=>grind
     |true=>
     rw[hz]at h
     have:=adm hz
     subst this
     obtain⟨hlen,og,h⟩:=h
     refine .inr ⟨sz,(l.drop lo).take m,[i],[],h,by grind,by simp,fun κ' G w x aA hf hv=>⟨fun _=>none,?_,?_⟩⟩
     ·have he:=aA i (by simp)
      obtain⟨u,h1,h2,h3⟩:=hf.node (he.trans gQ) (ec rfl) rfl
      have CN:((l.drop lo).take m).length=m:=by grind
      refine .closed ?_ rfl
      cases hv with|pre _ _ _ _ _ _ _ q cp hh=>
      by_cases hm:m=0
      ·subst hm
       cases q with
       |none=>exact .inl ⟨cp,rfl,by simp⟩
       |some A=>exact .inr ⟨A,cp,fun _ _=>undef,by simp,nofun⟩
      ·obtain⟨A,N,c',Cu,rfl⟩:=hh hm
       rw[de fh,h1]at Cu
       injection Cu with Cu
       rcases gX.1 h3 with⟨rfl,_⟩|⟨g,o,cap,c,t,rfl,a2,a3,a4,a5⟩
       ·grind
       injection Cu with hA _ _
       injection hA with hA
       subst hA
       refine .inr ⟨_,cp,fun a b=>c.getD (o+(lo+a)*sz+b) undef,by rw[CN],fun a y hy=>?_⟩
       have hy':=by
        rw[List.getElem?_take]at hy
        split at hy
        ·rwa[List.getElem?_drop]at hy
        grind
       obtain⟨b1,b2⟩:=a5 _ y hy'
       refine⟨b1,fun j d hd=>?_⟩
       obtain⟨d1,u,d2,d3⟩:=b2 j d hd
       have e:c.getD (o+(lo+a)*sz+j) undef=u:=by rw[adt,d2];rfl
       have FO:=og y (adl hy') d (adl hd)
       have hr:bq G.M d u:=by
        rcases d3 with⟨c1,_⟩|⟨_,c2⟩
        ·grind
        ·exact c2
       refine⟨d1,?_,?_,FO,?_⟩
       ·rw[cZ,eW]
        simp only[World.cell?,a3]
        rw[show o+(lo*sz+(a*sz+j))=o+(lo+a)*sz+j by rw[Nat.add_mul];omega,e]
        simpa using d2
       ·show(c.getD (o+(lo+a)*sz+j) undef).oneCell'=true
        rw[e];exact hr.dc d1
       grind
     ·rintro b ⟨_,_,_,_,_,q,_⟩;cases q
    |_=>exact h.elim
  grind
 grind
theorem dN{c:Call}{s x:Operand}{t:Nat}{a:Act}{w w':World}{v':Value}(ho:o.op=.call c)(hc:c.callee=.builtin .append)(ha:c.args.toList=[s,x])(lI:c.argTypes.toList=[t,t])
 (h:(Builtin.append_ #[t,t] o.type #[a.eval s,a.eval x]).run P w=.ok v' w'):(execOp a.eval o).run P w=.ok (.value v') w':=by
 have dp:c.args=#[s,x]:=Array.ext' (by grind)
 have M1:c.argTypes=#[t,t]:=Array.ext' (by grind)
 simp_all [execOp,resolve,invoke,builtin]
theorem cE.append(hT:fB P T){t ty:TypeId}(cI:(nth T t).ok=true)(gP:(nth T t).isSl=true)(vH:(nth T (nth T t).elem).ok=true)(dK:0<(nth T (nth T t).elem).size)
 {g:eb} {κ' κ2:Nat->ax} {a:Act} {w:World} {G:Gh} (aq:cE g n ρ κ' a w G) {i bA:Nat} {l ys zs:List DV} {kill:List Nat} {h hs:List PS->Option Value} {v x:Value}
 (ht:br G.M w h (.aI (nth T (nth T t).elem).size l)) (hi:jl h (.aI (nth T (nth T t).elem).size l)) (hv:h []=some v)
 (hk:(κ' i=.none/\bA=0/\∀b,¬bN h (.aI (nth T (nth T t).elem).size l) b)\/∃ver ep,κ' i=.tree ver ep (.aI (nth T (nth T t).elem).size l)/\bA=ver+1/\h=aS G.H i ver ep)
 (lx:Src G.M w x (nth T (nth T t).elem).size ys hs) (Sm:∀b,bN hs (.aI (nth T (nth T t).elem).size ys) b->∃j,j∈kill/\cH G j (κ' j) b) (CA:i∉kill) (hle:bW ys zs)
 (D9:l.length+zs.length<=9223372036854775807) (Ad:(l.length+zs.length)*(nth T (nth T t).elem).bytes<=140737488355328)
 (h1:κ2 i=.tree bA 0 (.aI (nth T (nth T t).elem).size (l++zs))) (h2:∀j,j∈kill->κ2 j=.dead) (h3:∀j,j≠i->j∉kill->κ2 j=κ' j):
 ∃v' w' G',(Builtin.append_ #[t,t] ty #[v,x]).run P w=.ok v' w'/\cE g n ρ κ2 a w' G'/\aK G' (.own i bA 0 []) v':=by
 have Sn:∀b,bN h (.aI (nth T (nth T t).elem).size l) b->cH G i (κ' i) b:=fun b hb=>by
  rcases hk with⟨_,_,h0⟩|⟨ver,ep,gQ,_,rfl⟩
  ·grind
  ·rwa[gQ]
 obtain⟨v',w',bG,jh,zO,t1,t2,t3⟩:=Gz hT cI gP vH dK ht hi hv lx
  (fun b hb fD=>by obtain⟨j,hj,ho⟩:=Sm b fD;exact CA (aq.fit.inj i j b (Sn b hb) ho▸hj))
  (fun b hb=>by obtain⟨j,_,ho⟩:=Sm b hb;exact ho.lt aq.fit) hle D9 Ad
 obtain⟨G',g1,g2,_,g4,_,_,g7⟩:=aq.lX (fun j=>j∈kill) _ CA
  (by
   grind)
  h2 h1 h3
  (fun p y hy=>by
   have hb:=aq.fit.box i
   rcases hk with⟨gQ,rfl,_⟩|⟨ver,ep,gQ,rfl,_⟩
   ·rw[gQ]at hb;cases p<;>simp[aS,hb.2]at hy
   ·rw[gQ]at hb;cases p<;>simp[aS,hb.2.2.1 (ver+1) (by omega)]at hy)
  t1 t2
  (fun b hb=>by
   grind)
  (fun b hb fP _=>jh.block b hb fun e=>fP (Sn b ((fun b hb=>⟨[],_,v,rfl,rfl,hv,hb⟩) b e.symm)))
  (fun b hb=>by
   rcases hb with h5|⟨j,_,h5⟩
   ·exact aq.fit.own i b h5
   ·exact aq.fit.own j b h5)
  jh.size jh.os jh.tape jh.output
 exact⟨v',w',G',bG,g7,.own _ _ _ _ _ ((g4 []).trans rfl) zO⟩
theorem Nh(hT:fB P T){t:Nat}{s x:Operand}{c:Call}{sv xv:AV}(hg:cn ρ ops o.guard=some gd)(ho:o.op=.call c)(hc:c.callee=.builtin .append)(ha:c.args.toList=[s,x])(lI:c.argTypes.toList=[t,t])
 (hn:∀i,nx<=i->κ i=.none) (h:nM T n o nx κ k t sv xv) (zF:bH ρ κ gd s sv) (hex:bH ρ κ gd x xv):Good P C ops n o nx ρ κ k:=by
 have ec:∀c',o.op≠.defer c':=fun c'=>by rw[ho];simp
 have dp:c.args=#[s,x]:=Array.ext' (by simpa using ha)
 have ms:s∈o.op.operands:=by rw[ho];simp[Op.operands,Call.operands,hc,dp]
 have mx:x∈o.op.operands:=by rw[ho];simp[Op.operands,Call.operands,hc,dp]
 unfold nM at h
 simp only at h
 cases qJ:(nth T t).ok&&(nth T t).isSl&&(nth T (nth T t).elem).ok&&Nat.blt 0 (nth T (nth T t).elem).size with
 |false=>rw[qJ]at h;exact h.elim
 |true=>
 rw[qJ]at h
 simp only[cond_true]at h
 simp only[adT,Nat.blt_eq]at qJ
 obtain⟨⟨⟨cI,gP⟩,vH⟩,dK⟩:=qJ
 have GB:∀j,(∃v e d,κ j=.tree v e d)->j<nx:=fun j ⟨v,e,d,hj⟩=>by
  rcases adC j nx with h|h
  ·exact h
  ·rw[hn j h]at hj;cases hj
 have Jd:∀{kill:List Nat} {fA:Nat},(∀j,j∈kill->∃v e d,κ j=.tree v e d)->nx<=fA->∀p,p∈fH kill->p.1<fA:=by
  intro kill fA hk hle p hp
  have:p.1∈kill:=by
   clear hk
   induction kill with
   |nil=>simp[fH]at hp
   |cons i r ih=>simp only[fH]at hp;rcases adp.1 hp with rfl|hp;exact adu;exact adq _ (ih hp)
  have:=GB _ (hk _ this);omega
 have nothing:∀{v:Value} {w:World},((∃l ob gb cap,v=.slice (some ⟨gb,ob,none⟩) l cap/\l<=cap)\/v=.slice none 0 0)->(Builtin.append_ #[t,t] o.type #[v,.slice none 0 0]).run P w=.ok v w:=by
  intro v w hv
  obtain⟨i,u,z,tf⟩:=hT.facts cI
  obtain⟨te,ue,ze,jo⟩:=hT.facts vH
  rcases hv with⟨l,ob,gb,cap,rfl,eP⟩|rfl
  ·simp[Builtin.append_,run_underlying (tf.slice gP),sizeOf,typeInfo,jo.info,Builtin.lenOf,Builtin.firstCells,eP,storeCells]
  ·simp[Builtin.append_,run_underlying (tf.slice gP),sizeOf,typeInfo,jo.info,Builtin.lenOf,Builtin.firstCells]
 split at h
 ·-- a nil slice
  rcases kL h with⟨rfl,hk⟩|⟨sz,ys,rd,kill,hk,Vg,Vh,lx⟩
  ·refine du ec hg hk (adM _) (by simp) fun ρ' κ' aA g a w G dS aq aU=>?_
   have hv:=zF ρ' κ' (aA.op ms) g n a w G aq aU
   have eB:=hex ρ' κ' (aA.op mx) g n a w G aq aU
   generalize hx:a.eval s=v at hv
   generalize hi:a.eval x=vi at eB
   cases hv with|dv hv=>cases hv with|aH=>cases eB with|dv eB=>cases eB with|aH=>
   refine⟨_,w,G,.inl (dN ho hc ha lI (by rw[hx,hi];exact nothing (.inr rfl))),aq,.dv .aH⟩
  ·cases ck:Nat.beq sz (nth T (nth T t).elem).size with
   |false=>rw[ck]at hk;exact hk.elim
   |true=>
   rw[ck]at hk
   have:=adm ck
   subst this
   obtain⟨zs,hle,Ad,D9,hk⟩:=hk
   refine du ec hg hk (by omega) (fun p hp=>?_) fun ρ' κ' aA g a w G dS aq aU=>?_
   ·rcases adp.1 hp with rfl|hp
    ·simp
    ·exact Jd (fun j hj=>Vg j (Vh j hj)) (by omega) p hp
   ·have fo:=(aA.reads nx (by simp)).trans (hn nx (adM _))
    have hv:=zF ρ' κ' (aA.op ms) g n a w G aq aU
    have eB:=hex ρ' κ' (aA.op mx) g n a w G aq aU
    obtain⟨hs,MQ,hsk⟩:=lx κ' G w _ (fun i hi=>aA.reads i (by simp[hi])) aq.fit eB
    have SL:nx∉kill:=fun hm=>by have:=GB nx (Vg nx (Vh nx hm));omega
    generalize hx:a.eval s=v at hv
    cases hv with|dv hv=>cases hv with|aH=>
    obtain⟨v',w',G',r1,r2,r3⟩:=aq.append (κ2:=aF κ' ((nx,.tree 0 0 (.aI (nth T (nth T t).elem).size zs))::fH kill)) hT cI gP vH dK (zq _ _ _) (DL _) rfl (.inl ⟨fo,rfl,fun b hb=>kK hb⟩) MQ hsk SL hle (by simpa using D9) (by simpa using Ad)
     (by simp[aF]) (fun j hj=>by simp only[aF];rw[ah _ _ (by rintro rfl;exact SL hj),dt,if_pos hj]) (fun j h1 h2=>by simp only[aF];rw[ah _ _ h1,dt,if_neg h2])
    exact⟨v',w',G',.inl (dN ho hc ha lI (by rw[hx];exact r1)),r2,r3⟩
 ·-- a slice adb ade its array
  rename_i i ver ep p
  split at h
  ·rename_i bA cu d gQ
   cases hb:Nat.beq ver bA&&(emp p||Nat.beq ep cu)with
   |false=>rw[hb]at h;exact h.elim
   |true=>
   rw[hb]at h
   simp only[cond_true]at h
   obtain⟨rfl,fh⟩:=dJ hb
   obtain⟨nd,h,GC⟩:=b7 h
   have x3:=GC rfl
   have Vi:=GB i ⟨_,_,_,gQ⟩
   cases nd with
   |aI sz l=>
    simp only at h
    cases ck:Nat.beq sz (nth T (nth T t).elem).size with
    |false=>rw[ck]at h;exact h.elim
    |true=>
    rw[ck]at h
    simp only[cond_true]at h
    have:=adm ck
    subst this
    have Vj:∀{g:eb} {a:Act} {G:Gh} {κ':Nat->ax} {w:World},aK G (.own i ver ep p) (a.eval s)->aS G.H i ver cu p=some (a.eval s):=by
     intro g a G κ' w hv
     generalize a.eval s=v at hv⊢
     cases hv with|own _ _ _ _ _ hh ma=>rw[<-de fh];exact hh
    rcases kL h with⟨rfl,hk⟩|⟨pw,ys,rd,kill,hk,Vg,Vh,lx⟩
    ·-- nothing comes in
     have node:∀{G:Gh} {w:World} {κ':Nat->ax},κ' i=κ i->Fit G w κ'->∀{v:Value},aS G.H i ver cu p=some v->((∃l ob gb cap,v=.slice (some ⟨gb,ob,none⟩) l cap/\l<=cap)\/v=.slice none 0 0):=by
      intro G w κ' he hf v hv
      obtain⟨u,h1,_,h3⟩:=hf.node (he.trans gQ) x3 rfl
      rw[hv]at h1;injection h1 with h1;subst h1
      rcases h3 with⟨_,rfl⟩|⟨gb,ob,cap,c,t,rfl,eP,_⟩
      ·exact .inr rfl
      ·exact .inl ⟨_,_,_,_,rfl,eP⟩
     cases p with
     |nil=>
      simp[get]at x3
      subst x3
      refine du ec hg hk (adM _) (by simpa using Vi) fun ρ' κ' aA g a w G dS aq aU=>?_
      have he:=aA.reads i (by simp)
      have hv:=zF ρ' κ' (aA.op ms) g n a w G aq aU
      have eB:=hex ρ' κ' (aA.op mx) g n a w G aq aU
      have hx:=Vj (g:=g) (κ':=κ') (w:=w) hv
      generalize hi:a.eval x=vi at eB
      cases eB with|dv eB=>cases eB with|aH=>
      have fF:=aq.fit.box i
      rw[he,gQ]at fF
      obtain⟨G',g1,g2,_,g4,_,_,g7⟩:=aq.lX (κ':=aF κ' [(i,.tree (ver+1) 0 (.aI (nth T (nth T t).elem).size l))]) (ver:=ver+1) (ep:=0) (fun _=>False) (aS G.H i ver cu) (fun h=>h.elim) (.inr ⟨ver,cu,_,he.trans gQ,by omega,by omega⟩) (fun _ h=>h.elim) (by simp[aF]) (fun j hj _=>by simp[aF,ah _ _ hj])
       (fun q y hy=>by cases q<;>simp[aS,fF.2.2.1 (ver+1) (by omega)]at hy) fF.1 fF.2.1 (fun b hb=>.inr (.inl (by rw[he,gQ];exact hb))) (fun _ _ _ _=>rfl) (fun b hb=>by
        rcases hb with h5|⟨_,h5,_⟩
        ·exact aq.fit.own i b h5
        ·exact h5.elim) (adM _) rfl rfl rfl
      have zO:(a.eval s).oneCell'=true:=by rcases node he aq.fit hx with⟨_,_,_,_,e,_⟩|e<;>rw[e]<;>rfl
      exact⟨a.eval s,w,G',.inl (dN ho hc ha lI (by rw[hi];exact nothing (node he aq.fit hx))),g7,.own _ _ _ _ _ ((g4 []).trans hx) zO⟩
     |cons ps pr=>
      obtain⟨hk,_⟩:=gm hk
      refine du ec hg hk (by omega) (fun q hq=>by
       rcases adp.1 hq with rfl|hq
       ·simp
       ·simp at hq;subst hq;simp;omega) fun ρ' κ' aA g a w G dS aq aU=>?_
      have he:=aA.reads i (by simp)
      have fo:=(aA.reads nx (by simp)).trans (hn nx (adM _))
      have hv:=zF ρ' κ' (aA.op ms) g n a w G aq aU
      have eB:=hex ρ' κ' (aA.op mx) g n a w G aq aU
      have hx:=Vj (g:=g) (κ':=κ') (w:=w) hv
      generalize hi:a.eval x=vi at eB
      cases eB with|dv eB=>cases eB with|aH=>
      obtain⟨G',g1,g2,_,g4,g7⟩:=aq.split (κ':=aF κ' [(nx,.tree 0 0 (.aI (nth T (nth T t).elem).size l)),(i,.tree ver (cu+1) (eK d (ps::pr) .any))]) (nx:=nx) (he.trans gQ) fo x3 rfl (by simp) (by simp only[aF];rw[ah _ _ (by omega)];simp) (by simp[aF]) (fun j h1 h2=>by simp only[aF];rw[ah _ _ h2,ah _ _ h1])
      have zO:(a.eval s).oneCell'=true:=by rcases node he aq.fit hx with⟨_,_,_,_,e,_⟩|e<;>rw[e]<;>rfl
      refine⟨a.eval s,w,G',.inl (dN ho hc ha lI (by rw[hi];exact nothing (node he aq.fit hx))),g7,.own _ _ _ _ _ ((g4 []).trans ?_) zO⟩
      rw[List.append_nil];exact hx
    ·cases ct:Nat.beq pw (nth T (nth T t).elem).size&& !iM i rd with
     |false=>rw[ct]at hk;exact hk.elim
     |true=>
     rw[ct]at hk
     simp only[cond_true]at hk
     simp only[adT,adV]at ct
     have:=adm ct.1
     subst this
     have abB:=fm ct.2
     have CA:=fun hm=>abB (Vh i hm)
     obtain⟨zs,hle,Ad,D9,hk⟩:=hk
     cases p with
     |nil=>
      simp[get]at x3
      subst x3
      refine du ec hg hk (adM _) (fun q hq=>by
       rcases adp.1 hq with rfl|hq
       ·exact Vi
       ·exact Jd (fun j hj=>Vg j (Vh j hj)) (adM _) q hq) fun ρ' κ' aA g a w G dS aq aU=>?_
      have he:=aA.reads i (by simp)
      have hv:=zF ρ' κ' (aA.op ms) g n a w G aq aU
      have eB:=hex ρ' κ' (aA.op mx) g n a w G aq aU
      have hx:=Vj (g:=g) (κ':=κ') (w:=w) hv
      obtain⟨hs,MQ,hsk⟩:=lx κ' G w _ (fun i hi=>aA.reads i (by simp[hi])) aq.fit eB
      have fF:=aq.fit.box i
      rw[he,gQ]at fF
      obtain⟨v',w',G',r1,r2,r3⟩:=aq.append (κ2:=aF κ' ((i,.tree (ver+1) 0 (.aI (nth T (nth T t).elem).size (l++zs)))::fH kill)) (ty:=o.type) (i:=i) (bA:=ver+1) hT cI gP vH dK fF.1 fF.2.1 hx (.inr ⟨ver,cu,he.trans gQ,rfl,rfl⟩) MQ hsk CA hle D9 Ad
       (by simp[aF]) (fun j hj=>by simp only[aF];rw[ah _ _ (by rintro rfl;exact CA hj),dt,if_pos hj]) (fun j h1 h2=>by simp only[aF];rw[ah _ _ h1,dt,if_neg h2])
      exact⟨v',w',G',.inl (dN ho hc ha lI r1),r2,r3⟩
     |cons ps pr=>
      obtain⟨hk,_⟩:=gm hk
      refine du ec hg hk (by omega) (fun q hq=>by
       rcases adp.1 hq with rfl|hq
       ·simp
       ·rcases adp.1 hq with rfl|hq
        ·show i<nx+1;omega
        ·exact Jd (fun j hj=>Vg j (Vh j hj)) (by omega) q hq) fun ρ' κ' aA g a w G dS aq aU=>?_
      have he:=aA.reads i (by simp)
      have fo:=(aA.reads nx (by simp)).trans (hn nx (adM _))
      have hv:=zF ρ' κ' (aA.op ms) g n a w G aq aU
      have eB:=hex ρ' κ' (aA.op mx) g n a w G aq aU
      have hx:=Vj (g:=g) (κ':=κ') (w:=w) hv
      have SL:nx∉kill:=fun hm=>by have:=GB nx (Vg nx (Vh nx hm));omega
      have acG:nx∉rd:=fun hm=>by have:=GB nx (Vg nx hm);omega
      obtain⟨G1,g1,g2,_,g4,g7⟩:=aq.split (κ':=aF κ' [(nx,.tree 0 0 (.aI (nth T (nth T t).elem).size l)),(i,.tree ver (cu+1) (eK d (ps::pr) .any))]) (i:=i) (nx:=nx) (he.trans gQ) fo x3 rfl (by simp) (by simp only[aF];rw[ah _ _ (by omega)];simp) (by simp[aF]) (fun j h1 h2=>by simp only[aF];rw[ah _ _ h2,ah _ _ h1])
      obtain⟨hs,MQ,hsk⟩:=lx (aF κ' [(nx,.tree 0 0 (.aI (nth T (nth T t).elem).size l)),(i,.tree ver (cu+1) (eK d (ps::pr) .any))]) G1 w _ (fun j hj=>by simp only[aF];rw[ah _ _ (by rintro rfl;exact acG hj),ah _ _ (by rintro rfl;exact abB hj)];exact aA.reads j (by simp[hj])) g7.fit (eB.mono g1)
      have fF:=g7.fit.box nx
      have tV:aF κ' [(nx,.tree 0 0 (.aI (nth T (nth T t).elem).size l)),(i,.tree ver (cu+1) (eK d (ps::pr) .any))] nx=.tree 0 0 (.aI (nth T (nth T t).elem).size l):=by simp[aF]
      rw[tV]at fF
      obtain⟨v',w',G',r1,r2,r3⟩:=g7.append (κ2:=aF κ' ((nx,.tree 1 0 (.aI (nth T (nth T t).elem).size (l++zs)))::(i,.tree ver (cu+1) (eK d (ps::pr) .any))::fH kill)) (ty:=o.type) (i:=nx) (bA:=1) hT cI gP vH dK fF.1 fF.2.1 (v:=a.eval s) (by rw[g4 [],List.append_nil];exact hx) (.inr ⟨0,0,tV,rfl,rfl⟩) MQ hsk SL hle D9 Ad
       (by simp[aF]) (fun j hj=>by simp only[aF];rw[ah _ _ (by rintro rfl;exact SL hj),ah _ _ (by rintro rfl;exact CA hj),dt,if_pos hj]) (fun j h1 h2=>by
        simp only[aF]
        rw[ah _ _ h1,ah _ _ h1]
        by_cases e:j=i
        ·subst e;simp
        ·rw[ah _ _ e,ah _ _ e,dt,if_neg h2])
      exact⟨v',w',G',.inl (dN ho hc ha lI r1),r2,r3⟩
   |_=>exact h.elim
  ·exact h.elim
 ·exact h.elim
end
end
section
open Go.RowKit
variable [cy]
structure Zs(G:Gh)(w:World)(κ:Nat->ax)(ids:List Nat)(ds:List DV)(us:List Value)(hs:Nat->List PS->Option Value)(id:Nat->Nat):Prop where
 len:ds.length=us.length
 cell:∀(j:Nat) (d:DV) (u:Value),ds[j]?=some d->us[j]?=some u->(d.au=false/\bq G.M d u)\/
  (d.au=true/\id j∈ids/\br G.M w (hs j) d/\jl (hs j) d/\hs j []=some u/\∀b,bN (hs j) d b->cH G (id j) (κ (id j)) b)
 ne:∀(j j':Nat) (d d':DV),ds[j]?=some d->ds[j']?=some d'->d.au=true->d'.au=true->id j=id j'->j=j'
theorem GD{i:Nat}{r:List Nat}(h:gN (i::r)=true):i∉r/\gN r=true:=by
 simp_all [gN,fm]
theorem Je{κ κ':Nat->ax}{G:Gh}{w:World}{v:AV}{d:DV}{ids:List Nat}(h:Uh κ v=some (d,ids))(aA:∀i,i∈ids->κ' i=κ i)(hf:Fit G w κ'){u:Value}(hv:aK G v u):
 (ids=[]/\d.au=false/\bq G.M d u)\/∃i ver ep,ids=[i]/\κ' i=.tree ver ep d/\d.au=true/\aS G.H i ver ep []=some u:=by
 unfold Uh at h
 split at h
 ·injection h with h;injection h with e1 e2;subst e1;subst e2
  cases hv with|dv hv=>exact .inl ⟨rfl,hv.fk,hv⟩
 ·rename_i i ver ep
  split at h
  ·rename_i bA cu d' hk
   cases hb:Nat.beq ver bA with
   |false=>grind
   |true=>
    rw[hb]at h
    have:=adm hb
    subst this
    simp[cond_true,Prod.mk.injEq]at h
    obtain⟨rfl,rfl⟩:=h
    have gQ:=(aA i (by simp)).trans hk
    have fF:=hf.box i
    rw[gQ]at fF
    cases hv with|own _ _ _ _ _ hh hc=>exact .inr ⟨i,ver,cu,rfl,gQ,fF.1.1,hh⟩
  grind
 ·injection h with h;injection h with e1 e2;subst e1;subst e2
  cases hv with|fn _ _ vs hl hr=>
  have:=by simpa using hl.symm
  subst this
  exact .inl ⟨rfl,rfl,.fn _ [] [] rfl (by simp)⟩
 grind
theorem Ni{κ κ':Nat->ax}{G:Gh}{w:World}{v:AV}{d:DV}{ids:List Nat}(h:toT κ v=some (d,ids))(aA:∀i,i∈ids->κ' i=κ i)(hf:Fit G w κ'){u:Value}(hv:aK G v u):
 (ids=[]/\d.au=false/\bq G.M d u)\/∃i ver ep,ids=[i]/\κ' i=.tree ver ep d/\d.au=true/\aS G.H i ver ep []=some u:=Je h aA hf (Aw hv)
theorem oc{κ κ':Nat->ax}{G:Gh}{w:World}(hf:Fit G w κ'):∀{vs:List AV} {ds:List DV} {ids:List Nat} {us:List Value},sN κ vs=some (ds,ids)->gN ids=true->(∀i,i∈ids->κ' i=κ i)->cG G vs us->∃hs id,Zs G w κ' ids ds us hs id
 |[],ds,ids,us,h,_,_,hr=>by
  simp[sN]at h
  obtain⟨rfl,rfl⟩:=h
  have:=by have:=hr.1;simpa using this.symm
  subst this
  exact⟨fun _ _=>none,fun _=>0,rfl,by simp,by simp⟩
 |v::vs,ds,ids,us,h,ec,aA,hr=>by
  simp[sN]at h
  split at h
  ·rename_i d i l j h1 h2
   simp[Option.some.injEq,Prod.mk.injEq]at h
   obtain⟨rfl,rfl⟩:=h
   match us,hr with
   |[],hr=>have:=hr.1;grind
   |u::us,hr=>
    have uh:gN j=true/\∀q,q∈i->q∉j:=by
     clear h1 h2 hr aA
     induction i with
     |nil=>grind
     |cons q i ih=>
      obtain⟨a1,a2⟩:=GD ec
      simp_all
    obtain⟨hs,id,dz⟩:=oc hf h2 uh.1 (fun q hq=>aA q (adr.2 (.inr hq))) ⟨by simpa using hr.1,fun q e y he hy=>hr.2 (q+1) e y (by grind) (by grind)⟩
    rcases(Ni h1 (fun q hq=>aA q (adr.2 (.inl hq))) hf (hr.2 0 v u rfl rfl))with⟨rfl,h3,h4⟩|⟨q,ver,ep,rfl,h3,h4,h5⟩
    ·refine⟨fun n=>match n with|0=>fun _=>none|n+1=>hs n,fun n=>match n with|0=>0|n+1=>id n,by simp[dz.len],fun n e y he hy=>?_,fun n n' e e' he Wz ho nj heq=>?_⟩
     ·cases n with
      |zero=>grind
      |succ n=>simpa using dz.cell n e y he hy
     ·cases n with
      |zero=>grind
      |succ n=>
       cases n' with
       |zero=>grind
       |succ n'=>rw[dz.ne n n' e e' he Wz ho nj heq]
    ·have fF:=hf.box q
     rw[h3]at fF
     refine⟨fun n=>match n with|0=>aS G.H q ver ep|n+1=>hs n,fun n=>match n with|0=>q|n+1=>id n,by simp[dz.len],fun n e y he hy=>?_,fun n n' e e' he Wz ho nj heq=>?_⟩
     ·cases n with
      |zero=>simp at he hy;subst he;subst hy;exact .inr ⟨h4,by simp,fF.1,fF.2.1,h5,fun b hb=>by rwa[h3]⟩
      |succ n=>
       rcases dz.cell n e y he hy with h6|⟨a1,a2,a3⟩
       ·grind
       grind
     ·have inj:∀n e,l[n]?=some e->e.au=true->id n∈j:=by
       intro n e he ho
       rcases dz.cell n e _ he (abK (by rw[<-dz.len];grind))with⟨a1,_⟩|⟨_,a2,_⟩
       ·grind
       grind
      cases n with
      |zero=>
       grind
      |succ n=>
       cases n' with
       |zero=>grind
       |succ n'=>rw[dz.ne n n' e e' he Wz ho nj heq]
  grind
theorem Zs.le{G:Gh}{w:World}{κ:Nat->ax}{ids:List Nat}{ds ME:List DV}{us:List Value}{hs:Nat->List PS->Option Value}{id:Nat->Nat}(h:Zs G w κ ids ds us hs id)(hle:mg ds ME)(h1:∀u,u∈us->u.oneCell'=true):Zs G w κ ids ME us hs id/\∀d,d∈ME->d.ao=true:=by
 have key:∀(j:Nat) (d':DV) (u:Value),ME[j]?=some d'->us[j]?=some u->∃d,ds[j]?=some d/\((d.au=true/\d=d')\/(d.au=false/\bq G.M d' u)):=by
  intro j d' u lP hu
  have hj:j<ds.length:=by rw[hle.length];grind
  refine⟨ds[j],abK hj,?_⟩
  rcases hle.at j _ d' (abK hj) lP with h2|⟨h2,h3⟩
  ·grind
  ·rcases h.cell j _ u (abK hj) hu with⟨_,h4⟩|⟨h4,_⟩
   ·exact .inr ⟨h2,h3 G.M u h4⟩
   grind
 have hlen:ME.length=us.length:=by rw[<-hle.length];exact h.len
 refine⟨⟨hlen,fun j d' u lP hu=>?_,fun j j' d d' hd lP ho nj heq=>?_⟩,fun d' lP=>?_⟩
 ·obtain⟨d,hd,hc⟩:=key j d' u lP hu
  rcases hc with⟨_,rfl⟩|⟨_,h3⟩
  ·exact h.cell j d u hd hu
  ·exact .inl ⟨h3.fk,h3⟩
 ·have q:∀(j:Nat) (d:DV),ME[j]?=some d->d.au=true->ds[j]?=some d:=by
   intro j d hd ho
   obtain⟨d0,h2,hc⟩:=key j d _ hd (abK (by grind))
   rcases hc with⟨_,rfl⟩|⟨_,h3⟩
   ·grind
   ·rw[h3.fk]at ho;grind
  exact h.ne j j' d d' (q j d hd ho) (q j' d' lP nj) ho nj heq
 ·obtain⟨j,hj⟩:=adE lP
  have Jf:j<us.length:=by grind
  obtain⟨d,_,hc⟩:=key j d' _ hj (abK Jf)
  rcases hc with⟨h2,rfl⟩|⟨_,h3⟩
  ·exact jM h2
  ·exact h3.ao (h1 _ (adP Jf))
theorem vV{x:DV}{off:Nat}{ds:List DV}{K:DV->Prop}(h:AP x off ds K):∃y,K y/\((∀d,d∈ds->d.ao=true)->off+ds.length<=x.cells.length/\y.cells=nG x.cells off ds/\y.isAgg=x.isAgg):=by
 unfold AP at h
 split at h
 ·rename_i l
  cases hb:Nat.ble (off+ds.length) l.length with
  |false=>grind
  |true=>rw[hb]at h;exact⟨_,h,fun _=>⟨Nat.le_of_ble_eq_true hb,rfl,rfl⟩⟩
 ·rename_i dw
  split at h
  ·rename_i d
   refine⟨d,h,fun hc=>?_⟩
   have hd:=hc d (by simp)
   refine⟨?_,?_,?_⟩
   ·cases x<;>first|exact(dw _ rfl).elim|simp[DV.cells]
   ·cases d<;>cases x<;>first|exact(dw _ rfl).elim|(cases hd;done)|rfl
   ·cases d<;>cases x<;>first|exact(dw _ rfl).elim|(cases hd;done)|rfl
  grind
theorem od{l ds:List DV}{off j:Nat}(hle:off+ds.length<=l.length):(nG l off ds)[j]?=if off<=j/\j<off+ds.length then ds[j-off]? else l[j]?:=by
 unfold nG
 rw[adJ,List.getElem?_append]
 grind
theorem p7{l ds:List DV}{off:Nat}(hle:off+ds.length<=l.length):(nG l off ds).length=l.length:=by grind [nG]
theorem zu{l us:List Value}{off j:Nat}(hle:off+us.length<=l.length):(l.take off++us++l.drop (off+us.length))[j]?=if off<=j/\j<off+us.length then us[j-off]? else l[j]?:=by
 rw[adJ,List.getElem?_append]
 grind
theorem GF{sz idx off:Nat}{nd:DV}{ds:List DV}{K:List DV->DV->Prop}(h:EV sz idx off nd ds K):
 ∃D1 IG,K D1 IG/\nd.au=true/\((∀d,d∈ds->d.ao=true)->nd.au=true/\IG.au=true/\
  (∀s c,step IG s=some c->(∃j,s=.el idx j/\off<=j/\j<off+ds.length/\ds[j-off]?=some c)\/((∀j,s=.el idx j->¬(off<=j/\j<off+ds.length))/\step nd s=some c))/\
  (∀j c,step nd (.el idx j)=some c->off<=j->j<off+ds.length->c∈D1)/\
  ∀(M:Mem) (w:World) (v:Value) (ma:PS->Option Value),cR M w v ma nd->∃g o c t,c5 v=some g/\w.heap[g]?=some (.cells c t (0,0))/\o+ds.length<=c.size/\
   (∀A,(v=.pointer (some A)\/∃m q,v=.slice (some A) m q)->A.add (idx*sz+off)=⟨g,o,none⟩)/\
   ∀(us:List Value) (qH:PS->Option Value) (w':World),us.length=ds.length->w'.heap[g]?=some (.cells (c.toList.take o++us++c.toList.drop (o+us.length)).toArray t (0,0))->
    (∀s,(∀j,s=.el idx j->¬(off<=j/\j<off+ds.length))->qH s=ma s)->(∀(j:Nat) (d:DV) (u:Value),ds[j]?=some d->us[j]?=some u->dM M (qH (.el idx (off+j))) d u)->cR M w' v qH IG):=by
 unfold EV at h
 split at h
 ·rename_i pw l
  cases hb:Nat.beq sz pw with
  |false=>grind
  |true=>
   rw[hb]at h
   have:=adm hb
   subst this
   obtain⟨x,hx,h⟩:=h
   obtain⟨y,h,S1⟩:=vV h
   have Fi:=(adj.1 hx).1
   refine⟨_,_,h,rfl,fun hc=>?_⟩
   obtain⟨hle,hy,_⟩:=S1 hc
   refine⟨rfl,rfl,fun s c hs=>?_,fun j c hs h1 h2=>?_,fun M w v ma bo=>?_⟩
   ·cases s with
    |key=>simp[step]at hs
    |el i j=>
     simp only[step]at hs
     by_cases e:idx=i
     ·subst e
      rw[List.getElem?_set_self Fi]at hs
      simp only[hy]at hs
      rw[od hle]at hs
      split at hs
      ·grind
      grind [step]
     ·rw[List.getElem?_set_ne e]at hs
      refine .inr ⟨fun j' e'=>?_,hs⟩
      grind
   ·simp only[step,hx]at hs
    refine adl (i:=j-off) ?_
    grind
   ·rcases bo with⟨rfl,_⟩|⟨g,o,cap,c,t,rfl,eP,hw,ck,tV⟩
    ·grind
    ·obtain⟨a1,a2⟩:=tV idx x hx
     have di:o+idx*sz+off+ds.length<=c.size:=by
      have:(idx+1)*sz<=cap*sz:=adN _ (by omega)
      grind
     refine⟨g,o+idx*sz+off,c,t,rfl,hw,di,fun A hA=>?_,fun us qH w' zH K9 oI kr=>?_⟩
     ·grind [eW]
     ·refine .inr ⟨g,o,cap,_,t,by simp,by grind,K9,by simp[zH];omega,fun i z hz=>?_⟩
      have ub:∀q,(c.toList.take (o+idx*sz+off)++us++c.toList.drop (o+idx*sz+off+us.length)).toArray[q]?=if o+idx*sz+off<=q/\q<o+idx*sz+off+us.length then us[q-(o+idx*sz+off)]? else c[q]?:=fun q=>by
       rw[List.getElem?_toArray,zu (by grind)]
       simp
      by_cases e:idx=i
      ·subst e
       rw[List.getElem?_set_self Fi]at hz
       injection hz with hz
       subst hz
       rw[hy,p7 hle]
       refine⟨a1,fun j d hd=>?_⟩
       rw[od hle]at hd
       split at hd
       ·rename_i hr
        have Jf:j-off<us.length:=by omega
        refine⟨hc d (adl hd),us[j-off],?_,?_⟩
        ·rw[ub,if_pos (by omega),show o+idx*sz+j-(o+idx*sz+off)=j-off by omega];grind
        ·have:=kr (j-off) d _ hd (abK Jf)
         rwa[show off+(j-off)=j by omega]at this
       ·rename_i hr
        obtain⟨b1,u,b2,b3⟩:=a2 j d hd
        refine⟨b1,u,by rwa[ub,if_neg (by omega)],?_⟩
        rwa[oI (.el idx j) (fun j' e'=>by injection e' with _ e';subst e';exact hr)]
      ·rw[List.getElem?_set_ne e]at hz
       obtain⟨b1,b2⟩:=tV i z hz
       refine⟨b1,fun j d hd=>?_⟩
       obtain⟨c1,u,c2,c3⟩:=b2 j d hd
       have hj:j<sz:=by rw[<-b1];exact(adj.1 hd).1
       refine⟨c1,u,?_,?_⟩
       ·rwa[ub,if_neg ?_]
        rintro⟨q1,q2⟩
        rw[zH]at q2
        have YC:off+ds.length<=sz:=by rwa[<-a1]
        rcases adC i idx with aB|jw
        ·have:=adN sz (show i+1<=idx from aB);rw[Nat.add_mul]at this;omega
        ·have:=adN sz (show idx+1<=i by omega);rw[Nat.add_mul]at this;omega
       ·rwa[oI (.el i j) (fun j' e'=>by injection e' with e' _;exact absurd e'.symm e)]
 ·rename_i x
  cases hb:Nat.beq idx 0 with
  |false=>rw[hb]at h;exact h.elim
  |true=>
   rw[hb]at h
   have:=adm hb
   subst this
   simp only[cond_true]at h
   obtain⟨y,h,S1⟩:=vV h
   refine⟨_,_,h,rfl,fun hc=>?_⟩
   obtain⟨hle,hy,_⟩:=S1 hc
   refine⟨rfl,rfl,fun s c hs=>?_,fun j c hs h1 h2=>?_,fun M w v ma bo=>?_⟩
   ·cases s with
    |key=>simp[step]at hs
    |el i j=>
     simp only[step]at hs
     cases np:Nat.beq i 0 with
     |false=>rw[np]at hs;cases hs
     |true=>
      rw[np]at hs
      have:=adm np
      subst this
      simp only[cond_true,hy]at hs
      rw[od hle]at hs
      split at hs
      ·rename_i hr;exact .inl ⟨j,rfl,hr.1,hr.2,hs⟩
      ·rename_i hr
       refine .inr ⟨fun j' e'=>?_,by simp[step];exact hs⟩
       injection e' with _ e';subst e';exact hr
   ·simp[step]at hs
    refine adl (i:=j-off) ?_
    rwa[List.getElem?_take,if_pos (by omega),List.getElem?_drop,show off+(j-off)=j by omega]
   ·obtain⟨g,c,t,rfl,hw,ck,tV⟩:=bo
    refine⟨g,off,c,t,rfl,hw,by omega,fun A hA=>?_,fun us qH w' zH K9 oI kr=>?_⟩
    ·rcases hA with hA|⟨_,_,hA⟩
     ·injection hA with hA;injection hA with hA;subst hA;rw[eW];congr 1;omega
     ·cases hA
    ·refine⟨g,_,t,rfl,K9,by rw[hy,p7 hle];simp[zH];omega,fun j d hd=>?_⟩
     have ub:∀q,(c.toList.take off++us++c.toList.drop (off+us.length)).toArray[q]?=if off<=q/\q<off+us.length then us[q-off]? else c[q]?:=fun q=>by
      rw[List.getElem?_toArray,zu (by simp;omega)]
      simp
     rw[hy,od hle]at hd
     split at hd
     ·rename_i hr
      have Jf:j-off<us.length:=by omega
      refine⟨hc d (adl hd),us[j-off],by rw[ub,if_pos (by omega)];exact abK Jf,?_⟩
      have:=kr (j-off) d _ hd (abK Jf)
      rwa[show off+(j-off)=j by omega]at this
     ·rename_i hr
      obtain⟨b1,u,b2,b3⟩:=tV j d hd
      refine⟨b1,u,by rwa[ub,if_neg (by omega)],?_⟩
      rwa[oI (.el 0 j) (fun j' e'=>by injection e' with _ e';subst e';exact hr)]
 ·exact h.elim
end
end Go.TM
