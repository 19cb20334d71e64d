import Derived.Test.YtfpebgpgabjieaaGreatDoorGM5
set_option linter.all false
namespace Go.TM
section
open Go.RowKit
variable [cq]
theorem NI{d nq n:DV}{q:List PS}{s:PS}{c:DV}(hq:get d q=some nq)(hs:step nq s=some c):eN d (q++[s]) n=eN d q (put nq s n):=by
 induction q generalizing d with
 |nil=>grind [get,eN]
 |cons s' q ih=>
  simp[get]at hq
  simp[List.cons_append,eN]
  cases h1:step d s' with
  |none=>grind
  |some c1=>grind
theorem bA.lt{M:Mem}{w:World}{h:List PS->Option Value}{d:DV}(ht:bA M w h d){b:Nat}(ho:bO h d b):b<w.heap.size:=by
 obtain⟨p,m,u,a1,a2,a3,a4⟩:=ho
 obtain⟨u',c1,_,c3⟩:=ht.2 p m a1 a2
 rw[a3]at c1;injection c1 with c1;subst c1
 exact xy c3 a4
theorem bA.forget{M:Mem}{w:World}{h:List PS->Option Value}{d c:DV}{p:List PS}(ht:bA M w h d)(hi:je h d)(hp:get d p=some c)(hc:c.au=true)(c6:p≠[]):
 bA M w h (eN d p .any)/\je h (eN d p .any)/\∀b,bO h (eN d p .any) b->bO h d b/\¬bO (fun r=>h (p++r)) c b:=by
 have eO:∀(q:List PS) (x:DV),get d q=some x->q≠[]->x.ao=true:=fun q x hx _=>ht.cells q x hx
 have po:∀b,bO h (eN d p .any) b->bO h d b->¬bO (fun r=>h (p++r)) c b:=by
  rintro b ⟨q,m,u,a1,a2,a3,a4⟩ _ ⟨r,m',u',b1,b2,b3,b4⟩
  by_cases vS:p <+: q
  ·obtain⟨r',rfl⟩:=eJ vS
   rw[nD hp rfl eO]at a1
   cases r' with
   |nil=>simp[get]at a1;subst a1;cases a2
   |cons s r'=>simp[get,step]at a1
  ·rw[nE rfl eO vS]at a1
   cases hx:get d q with
   |none=>grind
   |some x=>
    rw[hx]at a1
    simp[Option.some.injEq]at a1
    have Um:x.au=true:=by
     by_cases hq:q <+: p
     ·rw[if_pos hq]at a1
      obtain⟨r',rfl⟩:=eJ hq
      cases r' with
      |nil=>grind
      |cons s r'=>grind [List.drop_left,lY]
     grind
    have:=hi q _ x m' u u' b hx Um a3 a4 (by rwa[get_append,hp]) b2 b3 b4
    grind
 rcases List.eq_nil_or_concat p with rfl|⟨q,s,rfl⟩
 ·grind
 ·rw[List.concat_eq_append]at hp po⊢
  rw[get_append]at hp
  cases hq:get d q with
  |none=>grind
  |some nq=>
   rw[hq]at hp
   simp[get]at hp
   cases hs:step nq s with
   |none=>grind
   |some c0=>
    rw[hs]at hp
    simp at hp
    subst hp
    have hnq:=fU hs
    obtain⟨v,hv,Ae,bq⟩:=ht.2 q nq hq hnq
    rw[NI hq hs]at po⊢
    have FU:=by
     refine bq.K5 hs rfl fun u hr=>.inr ⟨rfl,.any u ?_⟩
     rcases hr with⟨_,b⟩|⟨a,_⟩
     ·obtain⟨u',c1,c2,_⟩:=ht.2 (q++[s]) c0 (by grind [get_append,get]) hc
      grind
     grind
    obtain⟨m1,m2,m3⟩:=bA.r4 (fun _=>False) ht hi hq hnq hv (by rwa[rA]) hv Ae (.inr rfl) FU (fun _ _=>rfl)
     (fun s' c' gB ho _=>by
      by_cases e:s=s'
      ·subst e;rw[mq hs rfl]at gB;injection gB with gB;subst gB;cases ho
      ·rw[o6 rfl e]at gB;grind)
     (fun _ _ _ _ hN=>hN.elim) (fun _ _ _ _ _ _ _ hN=>hN.elim) (fun b hb=>.inl hb) (fun _ _ _=>rfl)
    grind [bO]
section
variable {g:dY} {n:Nat} {ρ:Nat->AV} {κ κ':Nat->az} {a:Act} {w w':World} {G:Gh}
theorem cA.split(h:cA g n ρ κ a w G){i nx ver ep:Nat}{d c:DV}{p:List PS}(hi:κ i=.tree ver ep d)(hx:κ nx=.none)(hp:get d p=some c)(hc:c.au=true)(c6:p≠[])(h1:κ' i=.tree ver (ep+1) (eN d p .any))(h2:κ' nx=.tree 0 0 c)(h3:∀j,j≠i->j≠nx->κ' j=κ j):
 ∃G',Gh.Le G G'/\G'.M=G.M/\G'.β=G.β/\(∀r,aV G'.H nx 0 0 r=aV G.H i ver ep (p++r))/\cA g n ρ κ' a w G':=by
 have nz:=h.fit.box i
 have fF:=h.fit.box nx
 rw[hi]at nz
 rw[hx]at fF
 obtain⟨ht,jg,Rq,eB⟩:=nz
 obtain⟨f1,f2,f3⟩:=ht.forget jg hp hc c6
 let fi:=fun v e q=>if v=ver/\e=ep+1/\q≠[]then aV G.H i ver ep q else G.H i v e q
 let fx:=fun v e q=>if v=0/\e=0 then aV G.H i ver ep (p++q)else none
 let G':={ G with H:=wD (wD G.H i fi) nx fx }
 have hHi:G'.H i=fi:=by grind [wD,nG,mN]
 have hHx:G'.H nx=fx:=mN _ _ _
 have hHo:∀j,j≠i->j≠nx->G'.H j=G.H j:=fun j e1 e2=>by grind [wD,nG]
 have Lz:aV G'.H i ver (ep+1)=aV G.H i ver ep:=by
  funext q
  cases q with
  |nil=>simp[aV,hHi];grind
  |cons s q=>simp[aV,hHi];show(if _ then _ else _)=_;rw[if_pos ⟨rfl,rfl,by simp⟩];rfl
 have hhx:aV G'.H nx 0 0=fun r=>aV G.H i ver ep (p++r):=by
  funext q
  cases q with
  |nil=>show G'.H nx 0 0 []=_;grind
  |cons s q=>show G'.H nx 0 0 _=_;grind
 have hle:Gh.Le G G':=⟨Mem.Le.refl _,fun _ _ q=>q,fun j v e q x hq=>by
  by_cases e1:j=i
  ·grind
  ·by_cases e2:j=nx
   ·subst e2;rw[fF.2]at hq;grind
   simp_all⟩
 have Zi:∀b,cD G' i (κ' i) b->bO (aV G.H i ver ep) d b/\¬bO (fun r=>aV G.H i ver ep (p++r)) c b:=fun b hb=>by
  grind [cD]
 have Zj:∀b,cD G' nx (κ' nx) b->bO (fun r=>aV G.H i ver ep (p++r)) c b:=fun b hb=>by
  grind [cD]
 refine⟨G',hle,rfl,rfl,fun r=>congrFun hhx r,h.sG (C:=fun j=>j=i\/j=nx) ⟨hle,fun _ _=>rfl,fun j hj=>h3 j (fun e=>hj (.inl e)) (fun e=>hj (.inr e)),fun j hj=>⟨fun _ q=>q,fun v e q x hq=>?_⟩,fun _ _ _=>⟨rfl,rfl⟩,h.fit.sub,?_,?_,?_,aei _,rfl,rfl,rfl⟩ (fun _ _=>rfl)⟩
 ·simp_all
 ·rintro j (rfl|rfl)
  ·rw[h1]
   refine⟨by grind,by grind,fun v hv e q=>?_,fun e he q=>?_⟩
   ·rw[hHi];show(if v=ver/\_ then _ else _)=_;rw[if_neg (by omega)];exact Rq v hv e q
   ·rw[hHi];show(if ver=ver/\e=ep+1/\q≠[]then _ else _)=_;rw[if_neg (by omega)];exact eB e (by omega) q
  ·rw[h2]
   refine⟨by rw[hhx];exact ht.sub hp hc,by rw[hhx];exact jg.sub hp,fun v hv e q=>?_,fun e he q=>?_⟩
   ·rw[hHx];show(if v=0/\e=0 then _ else _)=_;rw[if_neg (by omega)]
   ·rw[hHx];show(if 0=0/\e=0 then _ else _)=_;rw[if_neg (by omega)]
 ·rintro j b (rfl|rfl) hb
  ·have:cD G j (κ j) b:=by rw[hi];exact((Zi b hb).1)
   exact⟨.inr ⟨j,.inl rfl,this⟩,h.fit.own j b this⟩
  ·have:cD G i (κ i) b:=by rw[hi];exact((Zj b hb).sub hp)
   exact⟨.inr ⟨i,.inl rfl,this⟩,h.fit.own i b this⟩
 ·rintro j j' b (rfl|rfl) (rfl|rfl) hb fp
  ·rfl
  ·exact absurd (Zj b fp) (Zi b hb).2
  ·exact absurd (Zj b hb) (Zi b fp).2
  ·rfl
end
end
section
open Go.RowKit
variable [cq]
section
variable {g:dY} {n:Nat} {ρ:Nat->AV} {κ κ':Nat->az} {a:Act} {w w':World} {G:Gh}
theorem cA.NJ(h:cA g n ρ κ a w G){i b:Nat}{l l':List AV}{vs:Array Value}{t:TypeId}(hi:κ i=.cells l)(hb:G.β i=some b)(kZ:κ' i=.cells l')(pg:∀j,j≠i->κ' j=κ j)
 (hw:w'.heap[b]?=some (.cells vs t (0,0))) (hl:cC G l' vs.toList) (hc:∀v,v∈l'->v.ao=true) (cb:w.heap.size<=w'.heap.size) (fV:∀k,k<w.heap.size->k≠b->w'.heap[k]?=w.heap[k]?)
 (Un:w'.os=w.os) (Uo:w'.tape=w.tape) (gY:w'.output=w.output):cA g n ρ κ' a w' G:=by
 have jv:cD G i (κ i) b:=by rwa[hi]
 refine h.sG ⟨Gh.Le.refl G,fun _ _=>rfl,pg,fun j _=>⟨fun _ q=>q,fun _ _ _ _ q=>q⟩,fun k hk fy=>⟨fV k hk fun e=>fy i rfl (by grind),rfl⟩,fun k o hk=>?_,?_,?_,fun j j' k e1 e2 _ _=>by grind,cb,Un,Uo,gY⟩ (fun _ _=>rfl)
 ·have h1:=h.fit.sub k o hk
  rw[fV k (ad2.1 h1).1 fun e=>?_]
  ·grind
  ·rw[e]at hk;rw[h.fit.own i b jv]at hk;grind
 ·rintro j rfl
  rw[kZ]
  exact⟨b,vs,t,hb,hw,by have:=hl.1;grind,hc,fun j d v hd hv=>hl.2 j d v hd (by grind)⟩
 ·rintro j k rfl ho
  rw[kZ]at ho
  have:cD G j (κ j) k:=by rwa[hi]
  exact⟨.inr ⟨j,rfl,this⟩,h.fit.own j k this⟩
theorem cA.qN(h:cA g n ρ κ a w G){i:Nat}{d:DV}(D:Nat->Prop)(h':List PS->Option Value)(hDi:¬D i)(hi:κ i=.none)(gZ:∀j,D j->κ' j=.dead)(kZ:κ' i=.tree 0 0 d)(pg:∀j,j≠i->¬D j->κ' j=κ j)
 (ht:bA G.M w' h' d) (jg:je h' d) (jv:∀b,bO h' d b->w.heap.size<=b\/∃j,D j/\cD G j (κ j) b) (fV:∀b,b<w.heap.size->(∀j,D j->¬cD G j (κ j) b)->w'.heap[b]?=w.heap[b]?)
 (cb:w.heap.size<=w'.heap.size) (Un:w'.os=w.os) (Uo:w'.tape=w.tape) (gY:w'.output=w.output):
 ∃G',Gh.Le G G'/\G'.M=G.M/\(∀p,aV G'.H i 0 0 p=h' p)/\cA g n ρ κ' a w' G':=by
 have hb:=h.fit.box i
 rw[hi]at hb
 obtain⟨G',h1,h2,_,h4,_,_,h7⟩:=h.mf D h' hDi (.inl hi) gZ kZ pg (fun p x hx=>by cases p<;>simp[aV,hb.2]at hx) ht jg
  (fun b fp=>(jv b fp).imp id fun h=>.inr h) (fun b fp _ hD=>fV b fp hD) (fun b fp=>by
   rcases fp with h1|⟨j,_,h1⟩
   ·rw[hi]at h1;exact h1.elim
   ·exact h.fit.own j b h1) cb Un Uo gY
 grind
end
section
variable {P:Program} {C:dY->Prop} {T:List TI} {ops:List Oper} {n:Nat} {o:Oper} {nx:Nat} {ρ:Nat->AV} {κ:Nat->az} {k:lQ->Nat->Prop} {gd:Bool}
theorem mn{w:World}(e:TypeId)(c:Array Value):(newRow e c).run P w=.ok ⟨w.heap.size,0,none⟩ (w.alloc (.cells c e)):=by
 rfl
theorem zQ(G:Gh){t:Nat}{ti:TI}{i:TypeInfo}{u:TypeDesc}{z:Value}(tf:gH P t ti i u z):cC G (eP ti.zero) z.cells.toList/\∀v,v∈eP ti.zero->v.ao=true:=by
 obtain⟨h3,h4⟩:=ey tf.zc
 refine⟨jw h3,fun v hv=>?_⟩
 rw[r9]at hv
 obtain⟨d,hd,rfl⟩:=aeg.1 hv
 exact(h4 d hd).1
theorem Sn(hT:fD P T){t:Nat}(hg:b9 ρ ops o.guard=some gd)(ho:o.op=.alloc t)(b8:(nth T t).ok=true)(qf:κ nx=.none)
 (hk:dQ n o (nx+1) k (.ptr nx 0) [(nx,.cells (eP (nth T t).zero))] [nx]):Good P C ops n o nx ρ κ k:=by
 obtain⟨i,u,z,tf⟩:=hT.facts b8
 refine de (fun c=>by grind) hg hk (by omega) (by simp) fun ρ' κ' aA g a w G dN ak aY=>?_
 obtain⟨hz,hc⟩:=zQ G tf
 obtain⟨G',h1,h2,h3⟩:=ak.xz ((aA.reads nx (by simp)).trans qf) dN t hz hc
 refine⟨.pointer _,w.alloc _,G',.inl ?_,h2,.ptr nx 0 _ h3⟩
 simp[execOp,ho,Instr.alloc,tf.tO w,newVar,mn]
theorem Zk{t:Nat}{x:Operand}{av:AV}(hg:b9 ρ ops o.guard=some gd)(ho:o.op=.box t x)(qf:κ nx=.none)(hc:ca (cellsOf av)=true)
 (hk:dQ n o (nx+1) k (.ptr nx 0) [(nx,.cells (cellsOf av))] [nx]) (bP:bJ ρ κ gd x av):Good P C ops n o nx ρ κ k:=by
 refine de (fun c=>by grind) hg hk (by omega) (by simp) fun ρ' κ' aA g a w G dN ak aY=>?_
 obtain⟨G',h1,h2,h3⟩:=ak.xz ((aA.reads nx (by simp)).trans qf) dN t (nr (bP ρ' κ' (aA.op (by grind [Op.operands])) g n a w G ak aY) hc) (fX hc)
 refine⟨.pointer _,w.alloc _,G',.inl ?_,h2,.ptr nx 0 _ h3⟩
 simp[execOp,ho,Instr.box,newVar,mn]
theorem Ee(hT:fD P T){t i off:Nat}{x y:Operand}{av:AV}{l:List AV}(hg:b9 ρ ops o.guard=some gd)(ho:o.op=.store t x y)(b8:(nth T t).ok=true)(hb:κ i=.cells l)
 (cb:(cellsOf av).length=(nth T t).size) (hc:ca (cellsOf av)=true) (hle:off+(nth T t).size<=l.length)
 (hk:dQ n o nx k .any [(i,.cells (iQ l off (cellsOf av)))] [i]) (dr:i<nx) (bP:bJ ρ κ gd x (.ptr i off)) (KR:bJ ρ κ gd y av):Good P C ops n o nx ρ κ k:=by
 obtain⟨ti,u,z,tf⟩:=hT.facts b8
 refine de (fun c=>by grind) hg hk (aei _) (by grind) fun ρ' κ' aA g a w G dN ak aY=>?_
 have gI:=(aA.reads i (by simp)).trans hb
 have hv:=bP ρ' κ' (aA.op (by grind [Op.operands])) g n a w G ak aY
 have jT:=nr (KR ρ' κ' (aA.op (by grind [Op.operands])) g n a w G ak aY) hc
 have wG:=ak.fit.box i
 rw[gI]at wG
 obtain⟨b,c,tt,hbe,hw,Gd,oq,hr⟩:=wG
 generalize hx:a.eval x=v at hv
 cases hv with
 |ptr _ _ b' Cr=>
 rw[hbe]at Cr;injection Cr with Cr;subst Cr
 have hlen:(a.eval y).cells.toList.length=(nth T t).size:=by rw[<-jT.1,cb]
 have jN:=run_storeCells_at P b off tt (a.eval y).cells.toList 0 c w hw (by grind) (jT.cU hc)
 simp[Nat.add_zero]at jN
 have hold:cC G l c.toList:=⟨by grind,fun j d v hd hv=>hr j d v hd (by grind)⟩
 refine⟨undef,w.setRow b (c.toList.take off++(a.eval y).cells.toList++c.toList.drop (off+(a.eval y).cells.toList.length)).toArray,G,.inr ⟨?_,rfl⟩,
  ak.NJ (l':=iQ l off (cellsOf av)) gI hbe (by simp[aF]) (fun j hj=>by simp[aF,ai _ _ hj]) (setRow_heap w b c _ tt _ hw) ?_ ?_ (by simp) (fun k _ c6=>setRow_other w b k _ c6) rfl rfl rfl,.any _⟩
 ·simp[execOp,ho,hx,Instr.storeAt,Instr.sureAddr,Sem.run_bind,Sem.run_pure,Result.andThen_ok,storeVar,tf.gi w,if_false]
  simp_all
 ·simpa using hold.iQ jT off (by grind)
 grind [iQ,List.mem_of_mem_take,fX,List.mem_of_mem_drop]
theorem mO{i:Nat}:∀{l:List Nat},iN i l=true->i∈l
 |[],h=>by simp[iN]at h
 |j::r,h=>by
  simp[iN,Bool.or_eq_true]at h
  rcases h with h|h
  ·simp_all
  ·exact adW _ (mO h)
theorem fq{i:Nat}:∀{l:List Nat},iN i l=false->i∉l
 |[],_=>by simp
 |j::r,h=>by
  simp[iN,Bool.or_eq_false_iff]at h
  intro hm
  rcases adV.1 hm with rfl|hm
  ·simp_all
  ·exact(fq h.2) hm
theorem c8{γ:Nat->az}:∀{ids:List Nat} (j:Nat),aF γ (fH ids) j=if j∈ids then .dead else γ j
 |[],j=>by rfl
 |i::r,j=>by
  simp[fH,aF]
  by_cases e:j=i
  ·subst e;simp
  ·rw[ai _ _ e,c8 j];grind
theorem kJ{v:AV}{q:(sz:Nat)->List DV->List Nat->List Nat->Prop}{nl:Prop}(h:pG κ v q nl):
 (v=.dv .aw/\nl)\/∃(sz:Nat) (ys:List DV) (rd kill:List Nat),q sz ys rd kill/\(∀j,j∈rd->∃v e d,κ j=.tree v e d)/\(∀j,j∈kill->j∈rd)/\
  ∀κ' G w x,(∀i,i∈rd->κ' i=κ i)->Fit G w κ'->aI G v x->∃hs,Src G.M w x sz ys hs/\∀b,bO hs (.aD sz ys) b->∃j,j∈kill/\cD G j (κ' j) b:=by
 unfold pG at h
 split at h
 ·rename_i sz l
  refine .inr ⟨sz,l,[],[],h,by simp,by simp,fun κ' G w x _ hf hv=>⟨fun _=>none,?_,?_⟩⟩
  ·cases hv with|dv hv=>
   refine .closed ((qe.ab1 hf.sub hv).mono rfl fun i x y hx hy=>?_) rfl
   rw[hx]at hy;injection hy with hy;subst hy
   refine⟨rfl,fun j d e u hd he Gu hS=>?_⟩
   rw[hd]at he;injection he with he;subst he
   exact⟨Gu,hS.fo,hS⟩
  ·rintro b ⟨_,_,_,_,_,q,_⟩;grind
 ·grind
 ·rename_i i ver ep p
  split at h
  ·rename_i bD cj d gI
   cases hb:Nat.beq ver bD&&(emp p||Nat.beq ep cj)with
   |false=>grind
   |true=>
    rw[hb]at h
    simp only[cond_true]at h
    obtain⟨rfl,fm⟩:=dz hb
    obtain⟨nd,h,dC⟩:=bW h
    have dC:=dC rfl
    cases nd with
    |aD sz l=>
     have ab3:∀{G:Gh} {κ':Nat->az} {w:World} {x:Value},κ' i=κ i->Fit G w κ'->aI G (.own i ver ep p) x->aV G.H i ver cj p=some x:=by
      intro G κ' w x he hf hv
      cases hv with|own _ _ _ _ _ hh hc=>grind [cV]
     rcases h with⟨oq,h⟩|⟨rfl,hq⟩
     ·refine .inr ⟨sz,l,[i],[],h,by grind,by simp,fun κ' G w x aA hf hv=>⟨fun _=>none,?_,?_⟩⟩
      ·have he:=aA i (by simp)
       obtain⟨u,h1,h2,h3⟩:=hf.node (he.trans gI) dC rfl
       rw[(ab3 he hf hv)]at h1;injection h1 with h1;subst h1
       refine .closed ?_ rfl
       have h4:vm w x sz l fun i j d u=>d.au=false/\bu G.M d u:=by
        rcases gS.1 h3 with h3|⟨g,o,cap,c,t,a1,a2,a3,a4,a5⟩
        ·exact .inl h3
        ·refine .inr ⟨g,o,cap,c,t,a1,a2,a3,a4,fun i y hy=>⟨(a5 i y hy).1,fun j d hd=>?_⟩⟩
         obtain⟨b1,u,b2,b3⟩:=(a5 i y hy).2 j d hd
         have Gu:=oq y (adR hy) d (adR hd)
         refine⟨b1,u,b2,Gu,?_⟩
         rcases b3 with⟨c1,_⟩|⟨_,c2⟩
         ·grind
         grind
       exact qe.Sg h4 fun i j d u hr hc=>hr.2.cU hc
      ·rintro b ⟨_,_,_,_,_,q,_⟩;grind
     ·refine .inr ⟨sz,l,[i],[i],hq,by grind,by simp,fun κ' G w x aA hf hv=>?_⟩
      have he:=aA i (by simp)
      have fF:=hf.box i
      rw[he,gI]at fF
      simp[get]at dC
      subst dC
      refine⟨aV G.H i ver cj,.tree fF.1 fF.2.1 (ab3 he hf hv),fun b hb=>⟨i,by simp,?_⟩⟩
      rwa[he,gI]
    |_=>grind
  grind
 ·rename_i i ver ep p sz lo m
  split at h
  ·rename_i bD cj d gI
   cases hb:Nat.beq ver bD&&(emp p||Nat.beq ep cj)with
   |false=>grind
   |true=>
    rw[hb]at h
    simp only[cond_true]at h
    obtain⟨rfl,fm⟩:=dz hb
    obtain⟨nd,h,dC⟩:=bW h
    cases nd with
    |aD pE l=>
     simp only at h
     cases hz:Nat.beq sz pE with
     |false=>grind
     |true=>
     rw[hz]at h
     have:=adS hz
     subst this
     obtain⟨hlen,oq,h⟩:=h
     refine .inr ⟨sz,(l.drop lo).take m,[i],[],h,by grind,by simp,fun κ' G w x aA hf hv=>⟨fun _=>none,?_,?_⟩⟩
     ·have he:=aA i (by simp)
      obtain⟨u,h1,h2,h3⟩:=hf.node (he.trans gI) (dC rfl) rfl
      have Dr:((l.drop lo).take m).length=m:=by grind
      refine .closed ?_ rfl
      cases hv with|pre _ _ _ _ _ _ _ q cp hh=>
      by_cases hm:m=0
      ·subst hm
       cases q with
       |none=>exact .inl ⟨cp,rfl,by simp⟩
       |some A=>exact .inr ⟨A,cp,fun _ _=>undef,by simp,nofun⟩
      ·obtain⟨A,N,c',yw,rfl⟩:=hh hm
       rw[cV fm,h1]at yw
       injection yw with yw
       rcases gS.1 h3 with⟨rfl,_⟩|⟨g,o,cap,c,t,rfl,a2,a3,a4,a5⟩
       ·grind
       injection yw with hA _ _
       injection hA with hA
       subst hA
       refine .inr ⟨_,cp,fun a b=>c.getD (o+(lo+a)*sz+b) undef,by rw[Dr],fun a y hy=>?_⟩
       have hy':=by
        rw[List.getElem?_take]at hy
        split at hy
        ·rwa[List.getElem?_drop]at hy
        grind
       obtain⟨b1,b2⟩:=a5 _ y hy'
       refine⟨b1,fun j d hd=>?_⟩
       obtain⟨d1,u,d2,d3⟩:=b2 j d hd
       have e:c.getD (o+(lo+a)*sz+j) undef=u:=by rw[adZ,d2];rfl
       have Gu:=oq y (adR hy') d (adR hd)
       have hr:bu G.M d u:=by
        rcases d3 with⟨c1,_⟩|⟨_,c2⟩
        ·grind
        ·exact c2
       refine⟨d1,?_,?_,Gu,?_⟩
       ·rw[cQ,fe]
        simp only[World.cell?,a3]
        rw[show o+(lo*sz+(a*sz+j))=o+(lo+a)*sz+j by rw[Nat.add_mul];omega,e]
        simpa using d2
       ·show(c.getD (o+(lo+a)*sz+j) undef).oneCell'=true
        rw[e];exact hr.cU d1
       grind
     ·rintro b ⟨_,_,_,_,_,q,_⟩;cases q
    |_=>exact h.elim
  grind
 grind
theorem dF{c:Call}{s x:Operand}{t:Nat}{a:Act}{w w':World}{v':Value}(ho:o.op=.call c)(hc:c.callee=.builtin .append)(ha:c.args.toList=[s,x])(lM:c.argTypes.toList=[t,t])
 (h:(Builtin.append_ #[t,t] o.type #[a.eval s,a.eval x]).run P w=.ok v' w'):(execOp a.eval o).run P w=.ok (.value v') w':=by
 have cZ:c.args=#[s,x]:=Array.ext' (by grind)
 have NH:c.argTypes=#[t,t]:=Array.ext' (by grind)
 simp_all [execOp,resolve,invoke,builtin]
theorem cA.append(hT:fD P T){t ty:TypeId}(b8:(nth T t).ok=true)(gl:(nth T t).isSl=true)(vX:(nth T (nth T t).elem).ok=true)(du:0<(nth T (nth T t).elem).size)
 {g:dY} {κ' κ2:Nat->az} {a:Act} {w:World} {G:Gh} (ak:cA g n ρ κ' a w G) {i bD:Nat} {l ys zs:List DV} {kill:List Nat} {h hs:List PS->Option Value} {v x:Value}
 (ht:bA G.M w h (.aD (nth T (nth T t).elem).size l)) (hi:je h (.aD (nth T (nth T t).elem).size l)) (hv:h []=some v)
 (hk:(κ' i=.none/\bD=0/\∀b,¬bO h (.aD (nth T (nth T t).elem).size l) b)\/∃ver ep,κ' i=.tree ver ep (.aD (nth T (nth T t).elem).size l)/\bD=ver+1/\h=aV G.H i ver ep)
 (lA:Src G.M w x (nth T (nth T t).elem).size ys hs) (Sp:∀b,bO hs (.aD (nth T (nth T t).elem).size ys) b->∃j,j∈kill/\cD G j (κ' j) b) (FE:i∉kill) (hle:bV ys zs)
 (EC:l.length+zs.length<=9223372036854775807) (Az:(l.length+zs.length)*(nth T (nth T t).elem).bytes<=140737488355328)
 (h1:κ2 i=.tree bD 0 (.aD (nth T (nth T t).elem).size (l++zs))) (h2:∀j,j∈kill->κ2 j=.dead) (h3:∀j,j≠i->j∉kill->κ2 j=κ' j):
 ∃v' w' G',(Builtin.append_ #[t,t] ty #[v,x]).run P w=.ok v' w'/\cA g n ρ κ2 a w' G'/\aI G' (.own i bD 0 []) v':=by
 have Sq:∀b,bO h (.aD (nth T (nth T t).elem).size l) b->cD G i (κ' i) b:=fun b hb=>by
  rcases hk with⟨_,_,h0⟩|⟨ver,ep,gI,_,rfl⟩
  ·grind
  ·rwa[gI]
 obtain⟨v',w',bH,jc,Ae,t1,t2,t3⟩:=Hy hT b8 gl vX du ht hi hv lA
  (fun b hb fp=>by obtain⟨j,hj,ho⟩:=Sp b fp;exact FE (ak.fit.inj i j b (Sq b hb) ho▸hj))
  (fun b hb=>by obtain⟨j,_,ho⟩:=Sp b hb;exact ho.lt ak.fit) hle EC Az
 obtain⟨G',g1,g2,_,g4,_,_,g7⟩:=ak.mf (fun j=>j∈kill) _ FE
  (by
   grind)
  h2 h1 h3
  (fun p y hy=>by
   have hb:=ak.fit.box i
   rcases hk with⟨gI,rfl,_⟩|⟨ver,ep,gI,rfl,_⟩
   ·rw[gI]at hb;cases p<;>simp[aV,hb.2]at hy
   ·rw[gI]at hb;cases p<;>simp[aV,hb.2.2.1 (ver+1) (by omega)]at hy)
  t1 t2
  (fun b hb=>by
   grind)
  (fun b hb fy _=>jc.block b hb fun e=>fy (Sq b ((fun b hb=>⟨[],_,v,rfl,rfl,hv,hb⟩) b e.symm)))
  (fun b hb=>by
   rcases hb with h5|⟨j,_,h5⟩
   ·exact ak.fit.own i b h5
   ·exact ak.fit.own j b h5)
  jc.size jc.os jc.tape jc.output
 exact⟨v',w',G',bH,g7,.own _ _ _ _ _ ((g4 []).trans rfl) Ae⟩
theorem NK(hT:fD P T){t:Nat}{s x:Operand}{c:Call}{sv xv:AV}(hg:b9 ρ ops o.guard=some gd)(ho:o.op=.call c)(hc:c.callee=.builtin .append)(ha:c.args.toList=[s,x])(lM:c.argTypes.toList=[t,t])
 (hn:∀i,nx<=i->κ i=.none) (h:nT T n o nx κ k t sv xv) (z8:bJ ρ κ gd s sv) (hex:bJ ρ κ gd x xv):Good P C ops n o nx ρ κ k:=by
 have dC:∀c',o.op≠.defer c':=fun c'=>by rw[ho];simp
 have cZ:c.args=#[s,x]:=Array.ext' (by simpa using ha)
 have ms:s∈o.op.operands:=by rw[ho];simp[Op.operands,Call.operands,hc,cZ]
 have mx:x∈o.op.operands:=by rw[ho];simp[Op.operands,Call.operands,hc,cZ]
 unfold nT at h
 simp only at h
 cases qT:(nth T t).ok&&(nth T t).isSl&&(nth T (nth T t).elem).ok&&Nat.blt 0 (nth T (nth T t).elem).size with
 |false=>rw[qT]at h;exact h.elim
 |true=>
 rw[qT]at h
 simp only[cond_true]at h
 simp only[aep,Nat.blt_eq]at qT
 obtain⟨⟨⟨b8,gl⟩,vX⟩,du⟩:=qT
 have HA:∀j,(∃v e d,κ j=.tree v e d)->j<nx:=fun j ⟨v,e,d,hj⟩=>by
  rcases ad8 j nx with h|h
  ·exact h
  ·rw[hn j h]at hj;cases hj
 have JZ:∀{kill:List Nat} {fC:Nat},(∀j,j∈kill->∃v e d,κ j=.tree v e d)->nx<=fC->∀p,p∈fH kill->p.1<fC:=by
  intro kill fC hk hle p hp
  have:p.1∈kill:=by
   clear hk
   induction kill with
   |nil=>simp[fH]at hp
   |cons i r ih=>simp only[fH]at hp;rcases adV.1 hp with rfl|hp;exact ad0;exact adW _ (ih hp)
  have:=HA _ (hk _ this);omega
 have nothing:∀{v:Value} {w:World},((∃l ob gb cap,v=.slice (some ⟨gb,ob,none⟩) l cap/\l<=cap)\/v=.slice none 0 0)->(Builtin.append_ #[t,t] o.type #[v,.slice none 0 0]).run P w=.ok v w:=by
  intro v w hv
  obtain⟨i,u,z,tf⟩:=hT.facts b8
  obtain⟨te,ue,ze,jh⟩:=hT.facts vX
  rcases hv with⟨l,ob,gb,cap,rfl,eU⟩|rfl
  ·simp[Builtin.append_,run_underlying (tf.slice gl),sizeOf,typeInfo,jh.info,Builtin.lenOf,Builtin.firstCells,eU,storeCells]
  ·simp[Builtin.append_,run_underlying (tf.slice gl),sizeOf,typeInfo,jh.info,Builtin.lenOf,Builtin.firstCells]
 split at h
 ·-- a nil slice
  rcases kJ h with⟨rfl,hk⟩|⟨sz,ys,rd,kill,hk,Vq,Vr,lA⟩
  ·refine de dC hg hk (aei _) (by simp) fun ρ' κ' aA g a w G dN ak aY=>?_
   have hv:=z8 ρ' κ' (aA.op ms) g n a w G ak aY
   have eB:=hex ρ' κ' (aA.op mx) g n a w G ak aY
   generalize hx:a.eval s=v at hv
   generalize hi:a.eval x=vi at eB
   cases hv with|dv hv=>cases hv with|aw=>cases eB with|dv eB=>cases eB with|aw=>
   refine⟨_,w,G,.inl (dF ho hc ha lM (by rw[hx,hi];exact nothing (.inr rfl))),ak,.dv .aw⟩
  ·cases cb:Nat.beq sz (nth T (nth T t).elem).size with
   |false=>rw[cb]at hk;exact hk.elim
   |true=>
   rw[cb]at hk
   have:=adS cb
   subst this
   obtain⟨zs,hle,Az,EC,hk⟩:=hk
   refine de dC hg hk (by omega) (fun p hp=>?_) fun ρ' κ' aA g a w G dN ak aY=>?_
   ·rcases adV.1 hp with rfl|hp
    ·simp
    ·exact JZ (fun j hj=>Vq j (Vr j hj)) (by omega) p hp
   ·have eC:=(aA.reads nx (by simp)).trans (hn nx (aei _))
    have hv:=z8 ρ' κ' (aA.op ms) g n a w G ak aY
    have eB:=hex ρ' κ' (aA.op mx) g n a w G ak aY
    obtain⟨hs,JH,hsk⟩:=lA κ' G w _ (fun i hi=>aA.reads i (by simp[hi])) ak.fit eB
    have SR:nx∉kill:=fun hm=>by have:=HA nx (Vq nx (Vr nx hm));omega
    generalize hx:a.eval s=v at hv
    cases hv with|dv hv=>cases hv with|aw=>
    obtain⟨v',w',G',r1,r2,r3⟩:=ak.append (κ2:=aF κ' ((nx,.tree 0 0 (.aD (nth T (nth T t).elem).size zs))::fH kill)) hT b8 gl vX du (zO _ _ _) (Ec _) rfl (.inl ⟨eC,rfl,fun b hb=>kI hb⟩) JH hsk SR hle (by simpa using EC) (by simpa using Az)
     (by simp[aF]) (fun j hj=>by simp only[aF];rw[ai _ _ (by rintro rfl;exact SR hj),c8,if_pos hj]) (fun j h1 h2=>by simp only[aF];rw[ai _ _ h1,c8,if_neg h2])
    exact⟨v',w',G',.inl (dF ho hc ha lM (by rw[hx];exact r1)),r2,r3⟩
 ·-- a slice adJ adK its array
  rename_i i ver ep p
  split at h
  ·rename_i bD cj d gI
   cases hb:Nat.beq ver bD&&(emp p||Nat.beq ep cj)with
   |false=>rw[hb]at h;exact h.elim
   |true=>
   rw[hb]at h
   simp only[cond_true]at h
   obtain⟨rfl,fm⟩:=dz hb
   obtain⟨nd,h,HB⟩:=bW h
   have yi:=HB rfl
   have Vs:=HA i ⟨_,_,_,gI⟩
   cases nd with
   |aD sz l=>
    simp only at h
    cases cb:Nat.beq sz (nth T (nth T t).elem).size with
    |false=>rw[cb]at h;exact h.elim
    |true=>
    rw[cb]at h
    simp only[cond_true]at h
    have:=adS cb
    subst this
    have Vt:∀{g:dY} {a:Act} {G:Gh} {κ':Nat->az} {w:World},aI G (.own i ver ep p) (a.eval s)->aV G.H i ver cj p=some (a.eval s):=by
     intro g a G κ' w hv
     generalize a.eval s=v at hv⊢
     cases hv with|own _ _ _ _ _ hh mw=>rw[<-cV fm];exact hh
    rcases kJ h with⟨rfl,hk⟩|⟨pE,ys,rd,kill,hk,Vq,Vr,lA⟩
    ·-- nothing comes in
     have node:∀{G:Gh} {w:World} {κ':Nat->az},κ' i=κ i->Fit G w κ'->∀{v:Value},aV G.H i ver cj p=some v->((∃l ob gb cap,v=.slice (some ⟨gb,ob,none⟩) l cap/\l<=cap)\/v=.slice none 0 0):=by
      intro G w κ' he hf v hv
      obtain⟨u,h1,_,h3⟩:=hf.node (he.trans gI) yi rfl
      rw[hv]at h1;injection h1 with h1;subst h1
      rcases h3 with⟨_,rfl⟩|⟨gb,ob,cap,c,t,rfl,eU,_⟩
      ·exact .inr rfl
      ·exact .inl ⟨_,_,_,_,rfl,eU⟩
     cases p with
     |nil=>
      simp[get]at yi
      subst yi
      refine de dC hg hk (aei _) (by simpa using Vs) fun ρ' κ' aA g a w G dN ak aY=>?_
      have he:=aA.reads i (by simp)
      have hv:=z8 ρ' κ' (aA.op ms) g n a w G ak aY
      have eB:=hex ρ' κ' (aA.op mx) g n a w G ak aY
      have hx:=Vt (g:=g) (κ':=κ') (w:=w) hv
      generalize hi:a.eval x=vi at eB
      cases eB with|dv eB=>cases eB with|aw=>
      have fF:=ak.fit.box i
      rw[he,gI]at fF
      obtain⟨G',g1,g2,_,g4,_,_,g7⟩:=ak.mf (κ':=aF κ' [(i,.tree (ver+1) 0 (.aD (nth T (nth T t).elem).size l))]) (ver:=ver+1) (ep:=0) (fun _=>False) (aV G.H i ver cj) (fun h=>h.elim) (.inr ⟨ver,cj,_,he.trans gI,by omega,by omega⟩) (fun _ h=>h.elim) (by simp[aF]) (fun j hj _=>by simp[aF,ai _ _ hj])
       (fun q y hy=>by cases q<;>simp[aV,fF.2.2.1 (ver+1) (by omega)]at hy) fF.1 fF.2.1 (fun b hb=>.inr (.inl (by rw[he,gI];exact hb))) (fun _ _ _ _=>rfl) (fun b hb=>by
        rcases hb with h5|⟨_,h5,_⟩
        ·exact ak.fit.own i b h5
        ·exact h5.elim) (aei _) rfl rfl rfl
      have Ae:(a.eval s).oneCell'=true:=by rcases node he ak.fit hx with⟨_,_,_,_,e,_⟩|e<;>rw[e]<;>rfl
      exact⟨a.eval s,w,G',.inl (dF ho hc ha lM (by rw[hi];exact nothing (node he ak.fit hx))),g7,.own _ _ _ _ _ ((g4 []).trans hx) Ae⟩
     |cons ps pr=>
      obtain⟨hk,_⟩:=gj hk
      refine de dC hg hk (by omega) (fun q hq=>by
       rcases adV.1 hq with rfl|hq
       ·simp
       ·simp at hq;subst hq;simp;omega) fun ρ' κ' aA g a w G dN ak aY=>?_
      have he:=aA.reads i (by simp)
      have eC:=(aA.reads nx (by simp)).trans (hn nx (aei _))
      have hv:=z8 ρ' κ' (aA.op ms) g n a w G ak aY
      have eB:=hex ρ' κ' (aA.op mx) g n a w G ak aY
      have hx:=Vt (g:=g) (κ':=κ') (w:=w) hv
      generalize hi:a.eval x=vi at eB
      cases eB with|dv eB=>cases eB with|aw=>
      obtain⟨G',g1,g2,_,g4,g7⟩:=ak.split (κ':=aF κ' [(nx,.tree 0 0 (.aD (nth T (nth T t).elem).size l)),(i,.tree ver (cj+1) (eN d (ps::pr) .any))]) (nx:=nx) (he.trans gI) eC yi rfl (by simp) (by simp only[aF];rw[ai _ _ (by omega)];simp) (by simp[aF]) (fun j h1 h2=>by simp only[aF];rw[ai _ _ h2,ai _ _ h1])
      have Ae:(a.eval s).oneCell'=true:=by rcases node he ak.fit hx with⟨_,_,_,_,e,_⟩|e<;>rw[e]<;>rfl
      refine⟨a.eval s,w,G',.inl (dF ho hc ha lM (by rw[hi];exact nothing (node he ak.fit hx))),g7,.own _ _ _ _ _ ((g4 []).trans ?_) Ae⟩
      rw[List.append_nil];exact hx
    ·cases ct:Nat.beq pE (nth T (nth T t).elem).size&& !iN i rd with
     |false=>rw[ct]at hk;exact hk.elim
     |true=>
     rw[ct]at hk
     simp only[cond_true]at hk
     simp only[aep,aer]at ct
     have:=adS ct.1
     subst this
     have ab4:=fq ct.2
     have FE:=fun hm=>ab4 (Vr i hm)
     obtain⟨zs,hle,Az,EC,hk⟩:=hk
     cases p with
     |nil=>
      simp[get]at yi
      subst yi
      refine de dC hg hk (aei _) (fun q hq=>by
       rcases adV.1 hq with rfl|hq
       ·exact Vs
       ·exact JZ (fun j hj=>Vq j (Vr j hj)) (aei _) q hq) fun ρ' κ' aA g a w G dN ak aY=>?_
      have he:=aA.reads i (by simp)
      have hv:=z8 ρ' κ' (aA.op ms) g n a w G ak aY
      have eB:=hex ρ' κ' (aA.op mx) g n a w G ak aY
      have hx:=Vt (g:=g) (κ':=κ') (w:=w) hv
      obtain⟨hs,JH,hsk⟩:=lA κ' G w _ (fun i hi=>aA.reads i (by simp[hi])) ak.fit eB
      have fF:=ak.fit.box i
      rw[he,gI]at fF
      obtain⟨v',w',G',r1,r2,r3⟩:=ak.append (κ2:=aF κ' ((i,.tree (ver+1) 0 (.aD (nth T (nth T t).elem).size (l++zs)))::fH kill)) (ty:=o.type) (i:=i) (bD:=ver+1) hT b8 gl vX du fF.1 fF.2.1 hx (.inr ⟨ver,cj,he.trans gI,rfl,rfl⟩) JH hsk FE hle EC Az
       (by simp[aF]) (fun j hj=>by simp only[aF];rw[ai _ _ (by rintro rfl;exact FE hj),c8,if_pos hj]) (fun j h1 h2=>by simp only[aF];rw[ai _ _ h1,c8,if_neg h2])
      exact⟨v',w',G',.inl (dF ho hc ha lM r1),r2,r3⟩
     |cons ps pr=>
      obtain⟨hk,_⟩:=gj hk
      refine de dC hg hk (by omega) (fun q hq=>by
       rcases adV.1 hq with rfl|hq
       ·simp
       ·rcases adV.1 hq with rfl|hq
        ·show i<nx+1;omega
        ·exact JZ (fun j hj=>Vq j (Vr j hj)) (by omega) q hq) fun ρ' κ' aA g a w G dN ak aY=>?_
      have he:=aA.reads i (by simp)
      have eC:=(aA.reads nx (by simp)).trans (hn nx (aei _))
      have hv:=z8 ρ' κ' (aA.op ms) g n a w G ak aY
      have eB:=hex ρ' κ' (aA.op mx) g n a w G ak aY
      have hx:=Vt (g:=g) (κ':=κ') (w:=w) hv
      have SR:nx∉kill:=fun hm=>by have:=HA nx (Vq nx (Vr nx hm));omega
      have ada:nx∉rd:=fun hm=>by have:=HA nx (Vq nx hm);omega
      obtain⟨G1,g1,g2,_,g4,g7⟩:=ak.split (κ':=aF κ' [(nx,.tree 0 0 (.aD (nth T (nth T t).elem).size l)),(i,.tree ver (cj+1) (eN d (ps::pr) .any))]) (i:=i) (nx:=nx) (he.trans gI) eC yi rfl (by simp) (by simp only[aF];rw[ai _ _ (by omega)];simp) (by simp[aF]) (fun j h1 h2=>by simp only[aF];rw[ai _ _ h2,ai _ _ h1])
      obtain⟨hs,JH,hsk⟩:=lA (aF κ' [(nx,.tree 0 0 (.aD (nth T (nth T t).elem).size l)),(i,.tree ver (cj+1) (eN d (ps::pr) .any))]) G1 w _ (fun j hj=>by simp only[aF];rw[ai _ _ (by rintro rfl;exact ada hj),ai _ _ (by rintro rfl;exact ab4 hj)];exact aA.reads j (by simp[hj])) g7.fit (eB.mono g1)
      have fF:=g7.fit.box nx
      have ub:aF κ' [(nx,.tree 0 0 (.aD (nth T (nth T t).elem).size l)),(i,.tree ver (cj+1) (eN d (ps::pr) .any))] nx=.tree 0 0 (.aD (nth T (nth T t).elem).size l):=by simp[aF]
      rw[ub]at fF
      obtain⟨v',w',G',r1,r2,r3⟩:=g7.append (κ2:=aF κ' ((nx,.tree 1 0 (.aD (nth T (nth T t).elem).size (l++zs)))::(i,.tree ver (cj+1) (eN d (ps::pr) .any))::fH kill)) (ty:=o.type) (i:=nx) (bD:=1) hT b8 gl vX du fF.1 fF.2.1 (v:=a.eval s) (by rw[g4 [],List.append_nil];exact hx) (.inr ⟨0,0,ub,rfl,rfl⟩) JH hsk SR hle EC Az
       (by simp[aF]) (fun j hj=>by simp only[aF];rw[ai _ _ (by rintro rfl;exact SR hj),ai _ _ (by rintro rfl;exact FE hj),c8,if_pos hj]) (fun j h1 h2=>by
        simp only[aF]
        rw[ai _ _ h1,ai _ _ h1]
        by_cases e:j=i
        ·subst e;simp
        ·rw[ai _ _ e,ai _ _ e,c8,if_neg h2])
      exact⟨v',w',G',.inl (dF ho hc ha lM r1),r2,r3⟩
   |_=>exact h.elim
  ·exact h.elim
 ·exact h.elim
end
end
section
open Go.RowKit
variable [cq]
structure Z6(G:Gh)(w:World)(κ:Nat->az)(ids:List Nat)(ds:List DV)(us:List Value)(hs:Nat->List PS->Option Value)(id:Nat->Nat):Prop where
 len:ds.length=us.length
 cell:∀(j:Nat) (d:DV) (u:Value),ds[j]?=some d->us[j]?=some u->(d.au=false/\bu G.M d u)\/
  (d.au=true/\id j∈ids/\bA G.M w (hs j) d/\je (hs j) d/\hs j []=some u/\∀b,bO (hs j) d b->cD G (id j) (κ (id j)) b)
 ne:∀(j j':Nat) (d d':DV),ds[j]?=some d->ds[j']?=some d'->d.au=true->d'.au=true->id j=id j'->j=j'
theorem HC{i:Nat}{r:List Nat}(h:gF (i::r)=true):i∉r/\gF r=true:=by
 simp_all [gF,fq]
theorem J0{κ κ':Nat->az}{G:Gh}{w:World}{v:AV}{d:DV}{ids:List Nat}(h:Up κ v=some (d,ids))(aA:∀i,i∈ids->κ' i=κ i)(hf:Fit G w κ'){u:Value}(hv:aI G v u):
 (ids=[]/\d.au=false/\bu G.M d u)\/∃i ver ep,ids=[i]/\κ' i=.tree ver ep d/\d.au=true/\aV G.H i ver ep []=some u:=by
 unfold Up at h
 split at h
 ·injection h with h;injection h with e1 e2;subst e1;subst e2
  cases hv with|dv hv=>exact .inl ⟨rfl,hv.fo,hv⟩
 ·rename_i i ver ep
  split at h
  ·rename_i bD cj d' hk
   cases hb:Nat.beq ver bD with
   |false=>grind
   |true=>
    rw[hb]at h
    have:=adS hb
    subst this
    simp[cond_true,Prod.mk.injEq]at h
    obtain⟨rfl,rfl⟩:=h
    have gI:=(aA i (by simp)).trans hk
    have fF:=hf.box i
    rw[gI]at fF
    cases hv with|own _ _ _ _ _ hh hc=>exact .inr ⟨i,ver,cj,rfl,gI,fF.1.1,hh⟩
  grind
 ·injection h with h;injection h with e1 e2;subst e1;subst e2
  cases hv with|fn _ _ vs hl hr=>
  have:=by simpa using hl.symm
  subst this
  exact .inl ⟨rfl,rfl,.fn _ [] [] rfl (by simp)⟩
 grind
theorem NL{κ κ':Nat->az}{G:Gh}{w:World}{v:AV}{d:DV}{ids:List Nat}(h:toT κ v=some (d,ids))(aA:∀i,i∈ids->κ' i=κ i)(hf:Fit G w κ'){u:Value}(hv:aI G v u):
 (ids=[]/\d.au=false/\bu G.M d u)\/∃i ver ep,ids=[i]/\κ' i=.tree ver ep d/\d.au=true/\aV G.H i ver ep []=some u:=J0 h aA hf (AZ hv)
theorem oj{κ κ':Nat->az}{G:Gh}{w:World}(hf:Fit G w κ'):∀{vs:List AV} {ds:List DV} {ids:List Nat} {us:List Value},sU κ vs=some (ds,ids)->gF ids=true->(∀i,i∈ids->κ' i=κ i)->cC G vs us->∃hs id,Z6 G w κ' ids ds us hs id
 |[],ds,ids,us,h,_,_,hr=>by
  simp[sU]at h
  obtain⟨rfl,rfl⟩:=h
  have:=by have:=hr.1;simpa using this.symm
  subst this
  exact⟨fun _ _=>none,fun _=>0,rfl,by simp,by simp⟩
 |v::vs,ds,ids,us,h,dC,aA,hr=>by
  simp[sU]at h
  split at h
  ·rename_i d i l j h1 h2
   simp[Option.some.injEq,Prod.mk.injEq]at h
   obtain⟨rfl,rfl⟩:=h
   match us,hr with
   |[],hr=>have:=hr.1;grind
   |u::us,hr=>
    have uy:gF j=true/\∀q,q∈i->q∉j:=by
     clear h1 h2 hr aA
     induction i with
     |nil=>grind
     |cons q i ih=>
      obtain⟨a1,a2⟩:=HC dC
      simp_all
    obtain⟨hs,id,dr⟩:=oj hf h2 uy.1 (fun q hq=>aA q (adX.2 (.inr hq))) ⟨by simpa using hr.1,fun q e y he hy=>hr.2 (q+1) e y (by grind) (by grind)⟩
    rcases(NL h1 (fun q hq=>aA q (adX.2 (.inl hq))) hf (hr.2 0 v u rfl rfl))with⟨rfl,h3,h4⟩|⟨q,ver,ep,rfl,h3,h4,h5⟩
    ·refine⟨fun n=>match n with|0=>fun _=>none|n+1=>hs n,fun n=>match n with|0=>0|n+1=>id n,by simp[dr.len],fun n e y he hy=>?_,fun n n' e e' he WL ho ny heq=>?_⟩
     ·cases n with
      |zero=>grind
      |succ n=>simpa using dr.cell n e y he hy
     ·cases n with
      |zero=>grind
      |succ n=>
       cases n' with
       |zero=>grind
       |succ n'=>rw[dr.ne n n' e e' he WL ho ny heq]
    ·have fF:=hf.box q
     rw[h3]at fF
     refine⟨fun n=>match n with|0=>aV G.H q ver ep|n+1=>hs n,fun n=>match n with|0=>q|n+1=>id n,by simp[dr.len],fun n e y he hy=>?_,fun n n' e e' he WL ho ny heq=>?_⟩
     ·cases n with
      |zero=>simp at he hy;subst he;subst hy;exact .inr ⟨h4,by simp,fF.1,fF.2.1,h5,fun b hb=>by rwa[h3]⟩
      |succ n=>
       rcases dr.cell n e y he hy with h6|⟨a1,a2,a3⟩
       ·grind
       grind
     ·have inj:∀n e,l[n]?=some e->e.au=true->id n∈j:=by
       intro n e he ho
       rcases dr.cell n e _ he (ace (by rw[<-dr.len];grind))with⟨a1,_⟩|⟨_,a2,_⟩
       ·grind
       grind
      cases n with
      |zero=>
       grind
      |succ n=>
       cases n' with
       |zero=>grind
       |succ n'=>rw[dr.ne n n' e e' he WL ho ny heq]
  grind
theorem Z6.le{G:Gh}{w:World}{κ:Nat->az}{ids:List Nat}{ds M1:List DV}{us:List Value}{hs:Nat->List PS->Option Value}{id:Nat->Nat}(h:Z6 G w κ ids ds us hs id)(hle:mC ds M1)(h1:∀u,u∈us->u.oneCell'=true):Z6 G w κ ids M1 us hs id/\∀d,d∈M1->d.ao=true:=by
 have key:∀(j:Nat) (d':DV) (u:Value),M1[j]?=some d'->us[j]?=some u->∃d,ds[j]?=some d/\((d.au=true/\d=d')\/(d.au=false/\bu G.M d' u)):=by
  intro j d' u lX hu
  have hj:j<ds.length:=by rw[hle.length];grind
  refine⟨ds[j],ace hj,?_⟩
  rcases hle.at j _ d' (ace hj) lX with h2|⟨h2,h3⟩
  ·grind
  ·rcases h.cell j _ u (ace hj) hu with⟨_,h4⟩|⟨h4,_⟩
   ·exact .inr ⟨h2,h3 G.M u h4⟩
   grind
 have hlen:M1.length=us.length:=by rw[<-hle.length];exact h.len
 refine⟨⟨hlen,fun j d' u lX hu=>?_,fun j j' d d' hd lX ho ny heq=>?_⟩,fun d' lX=>?_⟩
 ·obtain⟨d,hd,hc⟩:=key j d' u lX hu
  rcases hc with⟨_,rfl⟩|⟨_,h3⟩
  ·exact h.cell j d u hd hu
  ·exact .inl ⟨h3.fo,h3⟩
 ·have q:∀(j:Nat) (d:DV),M1[j]?=some d->d.au=true->ds[j]?=some d:=by
   intro j d hd ho
   obtain⟨d0,h2,hc⟩:=key j d _ hd (ace (by grind))
   rcases hc with⟨_,rfl⟩|⟨_,h3⟩
   ·grind
   ·rw[h3.fo]at ho;grind
  exact h.ne j j' d d' (q j d hd ho) (q j' d' lX ny) ho ny heq
 ·obtain⟨j,hj⟩:=aea lX
  have J1:j<us.length:=by grind
  obtain⟨d,_,hc⟩:=key j d' _ hj (ace J1)
  rcases hc with⟨h2,rfl⟩|⟨_,h3⟩
  ·exact jK h2
  ·exact h3.ao (h1 _ (ael J1))
theorem wu{x:DV}{off:Nat}{ds:List DV}{K:DV->Prop}(h:Bi x off ds K):∃y,K y/\((∀d,d∈ds->d.ao=true)->off+ds.length<=x.cells.length/\y.cells=nO x.cells off ds/\y.isAgg=x.isAgg):=by
 unfold Bi at h
 split at h
 ·rename_i l
  cases hb:Nat.ble (off+ds.length) l.length with
  |false=>grind
  |true=>rw[hb]at h;exact⟨_,h,fun _=>⟨Nat.le_of_ble_eq_true hb,rfl,rfl⟩⟩
 ·rename_i c6
  split at h
  ·rename_i d
   refine⟨d,h,fun hc=>?_⟩
   have hd:=hc d (by simp)
   refine⟨?_,?_,?_⟩
   ·cases x<;>first|exact(c6 _ rfl).elim|simp[DV.cells]
   ·cases d<;>cases x<;>first|exact(c6 _ rfl).elim|(cases hd;done)|rfl
   ·cases d<;>cases x<;>first|exact(c6 _ rfl).elim|(cases hd;done)|rfl
  grind
theorem om{l ds:List DV}{off j:Nat}(hle:off+ds.length<=l.length):(nO l off ds)[j]?=if off<=j/\j<off+ds.length then ds[j-off]? else l[j]?:=by
 unfold nO
 rw[aef,List.getElem?_append]
 grind
theorem qg{l ds:List DV}{off:Nat}(hle:off+ds.length<=l.length):(nO l off ds).length=l.length:=by grind [nO]
theorem zR{l us:List Value}{off j:Nat}(hle:off+us.length<=l.length):(l.take off++us++l.drop (off+us.length))[j]?=if off<=j/\j<off+us.length then us[j-off]? else l[j]?:=by
 rw[aef,List.getElem?_append]
 grind
theorem HD{sz idx off:Nat}{nd:DV}{ds:List DV}{K:List DV->DV->Prop}(h:Fs sz idx off nd ds K):
 ∃Er Jk,K Er Jk/\nd.au=true/\((∀d,d∈ds->d.ao=true)->nd.au=true/\Jk.au=true/\
  (∀s c,step Jk s=some c->(∃j,s=.el idx j/\off<=j/\j<off+ds.length/\ds[j-off]?=some c)\/((∀j,s=.el idx j->¬(off<=j/\j<off+ds.length))/\step nd s=some c))/\
  (∀j c,step nd (.el idx j)=some c->off<=j->j<off+ds.length->c∈Er)/\
  ∀(M:Mem) (w:World) (v:Value) (mw:PS->Option Value),cI M w v mw nd->∃g o c t,cR v=some g/\w.heap[g]?=some (.cells c t (0,0))/\o+ds.length<=c.size/\
   (∀A,(v=.pointer (some A)\/∃m q,v=.slice (some A) m q)->A.add (idx*sz+off)=⟨g,o,none⟩)/\
   ∀(us:List Value) (qR:PS->Option Value) (w':World),us.length=ds.length->w'.heap[g]?=some (.cells (c.toList.take o++us++c.toList.drop (o+us.length)).toArray t (0,0))->
    (∀s,(∀j,s=.el idx j->¬(off<=j/\j<off+ds.length))->qR s=mw s)->(∀(j:Nat) (d:DV) (u:Value),ds[j]?=some d->us[j]?=some u->dB M (qR (.el idx (off+j))) d u)->cI M w' v qR Jk):=by
 unfold Fs at h
 split at h
 ·rename_i pE l
  cases hb:Nat.beq sz pE with
  |false=>grind
  |true=>
   rw[hb]at h
   have:=adS hb
   subst this
   obtain⟨x,hx,h⟩:=h
   obtain⟨y,h,Tb⟩:=wu h
   have uZ:=(adP.1 hx).1
   refine⟨_,_,h,rfl,fun hc=>?_⟩
   obtain⟨hle,hy,_⟩:=Tb hc
   refine⟨rfl,rfl,fun s c hs=>?_,fun j c hs h1 h2=>?_,fun M w v mw bq=>?_⟩
   ·cases s with
    |key=>simp[step]at hs
    |el i j=>
     simp only[step]at hs
     by_cases e:idx=i
     ·subst e
      rw[List.getElem?_set_self uZ]at hs
      simp only[hy]at hs
      rw[om hle]at hs
      split at hs
      ·grind
      grind [step]
     ·rw[List.getElem?_set_ne e]at hs
      refine .inr ⟨fun j' e'=>?_,hs⟩
      grind
   ·simp only[step,hx]at hs
    refine adR (i:=j-off) ?_
    grind
   ·rcases bq with⟨rfl,_⟩|⟨g,o,cap,c,t,rfl,eU,hw,cb,ub⟩
    ·grind
    ·obtain⟨a1,a2⟩:=ub idx x hx
     have cY:o+idx*sz+off+ds.length<=c.size:=by
      have:(idx+1)*sz<=cap*sz:=aej _ (by omega)
      grind
     refine⟨g,o+idx*sz+off,c,t,rfl,hw,cY,fun A hA=>?_,fun us qR w' uz LV oO kq=>?_⟩
     ·grind [fe]
     ·refine .inr ⟨g,o,cap,_,t,by simp,by grind,LV,by simp[uz];omega,fun i z hz=>?_⟩
      have ur:∀q,(c.toList.take (o+idx*sz+off)++us++c.toList.drop (o+idx*sz+off+us.length)).toArray[q]?=if o+idx*sz+off<=q/\q<o+idx*sz+off+us.length then us[q-(o+idx*sz+off)]? else c[q]?:=fun q=>by
       rw[List.getElem?_toArray,zR (by grind)]
       simp
      by_cases e:idx=i
      ·subst e
       rw[List.getElem?_set_self uZ]at hz
       injection hz with hz
       subst hz
       rw[hy,qg hle]
       refine⟨a1,fun j d hd=>?_⟩
       rw[om hle]at hd
       split at hd
       ·rename_i hr
        have J1:j-off<us.length:=by omega
        refine⟨hc d (adR hd),us[j-off],?_,?_⟩
        ·rw[ur,if_pos (by omega),show o+idx*sz+j-(o+idx*sz+off)=j-off by omega];grind
        ·have:=kq (j-off) d _ hd (ace J1)
         rwa[show off+(j-off)=j by omega]at this
       ·rename_i hr
        obtain⟨b1,u,b2,b3⟩:=a2 j d hd
        refine⟨b1,u,by rwa[ur,if_neg (by omega)],?_⟩
        rwa[oO (.el idx j) (fun j' e'=>by injection e' with _ e';subst e';exact hr)]
      ·rw[List.getElem?_set_ne e]at hz
       obtain⟨b1,b2⟩:=ub i z hz
       refine⟨b1,fun j d hd=>?_⟩
       obtain⟨c1,u,c2,c3⟩:=b2 j d hd
       have hj:j<sz:=by rw[<-b1];exact(adP.1 hd).1
       refine⟨c1,u,?_,?_⟩
       ·rwa[ur,if_neg ?_]
        rintro⟨q1,q2⟩
        rw[uz]at q2
        have YG:off+ds.length<=sz:=by rwa[<-a1]
        rcases ad8 i idx with ay|jd
        ·have:=aej sz (show i+1<=idx from ay);rw[Nat.add_mul]at this;omega
        ·have:=aej sz (show idx+1<=i by omega);rw[Nat.add_mul]at this;omega
       ·rwa[oO (.el i j) (fun j' e'=>by injection e' with e' _;exact absurd e'.symm e)]
 ·rename_i x
  cases hb:Nat.beq idx 0 with
  |false=>rw[hb]at h;exact h.elim
  |true=>
   rw[hb]at h
   have:=adS hb
   subst this
   simp only[cond_true]at h
   obtain⟨y,h,Tb⟩:=wu h
   refine⟨_,_,h,rfl,fun hc=>?_⟩
   obtain⟨hle,hy,_⟩:=Tb hc
   refine⟨rfl,rfl,fun s c hs=>?_,fun j c hs h1 h2=>?_,fun M w v mw bq=>?_⟩
   ·cases s with
    |key=>simp[step]at hs
    |el i j=>
     simp only[step]at hs
     cases nz:Nat.beq i 0 with
     |false=>rw[nz]at hs;cases hs
     |true=>
      rw[nz]at hs
      have:=adS nz
      subst this
      simp only[cond_true,hy]at hs
      rw[om hle]at hs
      split at hs
      ·rename_i hr;exact .inl ⟨j,rfl,hr.1,hr.2,hs⟩
      ·rename_i hr
       refine .inr ⟨fun j' e'=>?_,by simp[step];exact hs⟩
       injection e' with _ e';subst e';exact hr
   ·simp[step]at hs
    refine adR (i:=j-off) ?_
    rwa[List.getElem?_take,if_pos (by omega),List.getElem?_drop,show off+(j-off)=j by omega]
   ·obtain⟨g,c,t,rfl,hw,cb,ub⟩:=bq
    refine⟨g,off,c,t,rfl,hw,by omega,fun A hA=>?_,fun us qR w' uz LV oO kq=>?_⟩
    ·rcases hA with hA|⟨_,_,hA⟩
     ·injection hA with hA;injection hA with hA;subst hA;rw[fe];congr 1;omega
     ·cases hA
    ·refine⟨g,_,t,rfl,LV,by rw[hy,qg hle];simp[uz];omega,fun j d hd=>?_⟩
     have ur:∀q,(c.toList.take off++us++c.toList.drop (off+us.length)).toArray[q]?=if off<=q/\q<off+us.length then us[q-off]? else c[q]?:=fun q=>by
      rw[List.getElem?_toArray,zR (by simp;omega)]
      simp
     rw[hy,om hle]at hd
     split at hd
     ·rename_i hr
      have J1:j-off<us.length:=by omega
      refine⟨hc d (adR hd),us[j-off],by rw[ur,if_pos (by omega)];exact ace J1,?_⟩
      have:=kq (j-off) d _ hd (ace J1)
      rwa[show off+(j-off)=j by omega]at this
     ·rename_i hr
      obtain⟨b1,u,b2,b3⟩:=ub j d hd
      refine⟨b1,u,by rwa[ur,if_neg (by omega)],?_⟩
      rwa[oO (.el 0 j) (fun j' e'=>by injection e' with _ e';subst e';exact hr)]
 ·exact h.elim
end
end Go.TM
