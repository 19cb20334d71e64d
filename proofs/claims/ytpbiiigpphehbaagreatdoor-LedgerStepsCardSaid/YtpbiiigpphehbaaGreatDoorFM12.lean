import Derived.Test.YtpbiiigpphehbaaGreatDoorFM11
set_option linter.all false
namespace Go.TM
open Go.RowKit
variable [cj]
theorem qV{α:Type _}{sz:Nat}:∀{rows:List (List α)},(∀r,r∈rows->r.length=sz)->∀{i j:Nat} {r:List α},rows[i]?=some r->j<sz->rows.flatten[i*sz+j]?=r[j]?
 |[],_,i,j,r,h,_=>by simp at h
 |x::rows,hl,0,j,r,h,hj=>by
  simp at h;subst h
  have:=hl x (by simp)
  simp only[List.flatten_cons,Nat.zero_mul,Nat.zero_add]
  rw[List.getElem?_append_left (by omega)]
 |x::rows,hl,i+1,j,r,h,hj=>by
  have hx:=hl x (by simp)
  have ih:=qV (rows:=rows) (fun r hr=>hl r (by simp[hr])) (i:=i) (j:=j) (r:=r) (by simpa using h) hj
  simp only[List.flatten_cons]
  rw[List.getElem?_append_right (by rw[hx,Nat.add_mul];omega),<-ih]
  congr 1
  rw[hx,Nat.add_mul];omega
theorem iD{α:Type _}{sz:Nat}:∀{rows:List (List α)},(∀r,r∈rows->r.length=sz)->rows.flatten.length=rows.length*sz
 |[],_=>by simp
 |x::rows,h=>by
  have:=iD (rows:=rows) (fun r hr=>h r (by simp[hr]))
  simp[this,h x (by simp),Nat.add_mul];omega
theorem xA{sz:Nat}{xs:List DV}(hl:∀x,x∈xs->x.cells.length=sz){i j:Nat}{x:DV}(hx:xs[i]?=some x)(hj:j<sz):(xs.flatMap DV.cells)[i*sz+j]?=x.cells[j]?:=by
 rw[List.flatMap_def]
 exact qV (fun r hr=>by obtain⟨y,hy,rfl⟩:=ab1.1 hr;exact hl y hy) (by simp[hx]) hj
theorem oM{sz:Nat}{xs:List DV}(hl:∀x,x∈xs->x.cells.length=sz):(xs.flatMap DV.cells).length=xs.length*sz:=by
 rw[List.flatMap_def,iD (fun r hr=>by obtain⟨y,hy,rfl⟩:=ab1.1 hr;exact hl y hy)]
 simp
theorem vl{M:Mem}{w:World}{sz:Nat}{l:List DV}{v:Value}(hn:wh w v sz l fun _ _ d u=>d.ao=false/\bz M d u):bu M w (fun p=>if p=[]then some v else none) (.aB sz l)/\iR (fun p=>if p=[]then some v else none) (.aB sz l)/\∀b,bA (fun p=>if p=[]then some v else none) (.aB sz l) b->cS v=some b:=by
 have vf:v.oneCell'=true:=by rcases hn with⟨_,rfl⟩|⟨_,_,_,_,_,rfl,_⟩<;>rfl
 have only:∀p m,get (.aB sz l) p=some m->m.ao=true->p=[]:=by
  intro p m hp hm
  cases p with
  |nil=>rfl
  |cons s p=>
   simp only[get]at hp
   cases hs:step (.aB sz l) s with
   |none=>rw[hs]at hp;cases hp
   |some c=>
    rw[hs]at hp
    have Ca:c.ao=true:=by
     cases p with
     |nil=>simp[get]at hp;subst hp;exact hm
     |cons s' p=>simp only[get]at hp;cases cY:step c s' with
      |none=>rw[cY]at hp;cases hp
      |some _=>exact fI cY
    cases s with
    |key=>simp[step]at hs
    |el i j=>
     simp only[step]at hs
     split at hs
     ·rename_i x hx
      rcases hn with⟨rfl,_⟩|⟨g,o,cap,c',t,_,_,_,_,h5⟩
      ·simp at hx
      ·obtain⟨_,u,_,h6,_⟩:=(h5 i x hx).2 j c hs
       rw[Ca]at h6;cases h6
     ·cases hs
 refine⟨⟨rfl,fun p m hp hm=>?_⟩,fun p q n m u v b e1 e2 _ _ f1 f2 _ _=>by rw[only p n e1 e2,only q m f1 f2],?_⟩
 ·have:=only p m hp hm
  subst this
  simp[get]at hp
  subst hp
  refine⟨v,by simp,vf,fM.2 ?_⟩
  rcases hn with h|⟨g,o,cap,c,t,a1,a2,a3,a4,a5⟩
  ·exact .inl h
  ·refine .inr ⟨g,o,cap,c,t,a1,a2,a3,a4,fun i x hx=>⟨(a5 i x hx).1,fun j d hd=>?_⟩⟩
   obtain⟨b1,u,b2,b3⟩:=(a5 i x hx).2 j d hd
   exact⟨b1,u,b2,.inr b3⟩
 ·rintro b ⟨p,m,u,h1,h2,h3,h4⟩
  have:=only p m h1 h2
  subst this
  simp at h3
  subst h3
  exact h4
section
variable {P:Program} {C:dO->Prop} {T:List TI} {ops:List Oper} {n:Nat} {o:Oper} {nx:Nat} {ρ:Nat->AV} {κ:Nat->ar} {k:lj->Nat->Prop} {gd:Bool}
theorem GY(hT:eV P T){t:Nat}{s x:Operand}{c:Call}{sv xv:AV}(hg:b5 ρ ops o.guard=some gd)(ho:o.op=.call c)(hc:c.callee=.builtin .append)(ha:c.args.toList=[s,x])(jN:c.argTypes.toList=[t,t])
 (hn:∀i,nx<=i->κ i=.none) (h:oO T n o nx κ k t sv xv) (wJ:bC ρ κ gd s sv) (hex:bC ρ κ gd x xv):Good P C ops n o nx ρ κ k:=by
 have dh:∀c',o.op≠.defer c':=fun c'=>by rw[ho];simp
 have bW:c.args=#[s,x]:=Array.ext' (by simpa using ha)
 have ms:s∈o.op.operands:=by rw[ho];simp[Op.operands,Call.operands,hc,bW]
 have mx:x∈o.op.operands:=by rw[ho];simp[Op.operands,Call.operands,hc,bW]
 unfold oO at h
 simp only at h
 cases lk:(nth T t).ok&&(nth T t).isSl&&(nth T (nth T t).elem).ok&&Nat.blt 0 (nth T (nth T t).elem).size with
 |false=>rw[lk]at h;exact h.elim
 |true=>
 rw[lk]at h
 simp only[cond_true]at h
 simp only[aca,Nat.blt_eq]at lk
 obtain⟨⟨⟨cB,iQ⟩,tK⟩,dr⟩:=lk
 obtain⟨ti,u,zz,tf⟩:=hT.facts cB
 obtain⟨te,ue,ze,jO⟩:=hT.facts tK
 split at h
 ·rename_i i ver
  split at h
  ·rename_i aY bY sz l eu
   cases hb:Nat.beq ver aY&&Nat.beq sz (nth T (nth T t).elem).size with
   |false=>rw[hb]at h;exact h.elim
   |true=>
   rw[hb]at h
   simp only[cond_true]at h
   simp only[aca]at hb
   have e1:=abD hb.1
   have e2:=abD hb.2
   subst e1;subst e2
   obtain⟨hlc,h⟩:=h
   rcases j5 h with⟨_,hk⟩|⟨qP,ys,rd,kill,hk,Q9,Ra,lW⟩
   ·exact hk.elim
   ·cases cd:Nat.beq qP (nth T (nth T t).elem).size with
    |false=>rw[cd]at hk;exact hk.elim
    |true=>
    rw[cd]at hk
    simp only[cond_true]at hk
    have:=abD cd
    subst this
    obtain⟨zs,hle,Xz,hzp,AA,GR,hk⟩:=hk
    refine cZ dh hg hk (by omega) (by simp) fun ρ' κ' ax g a w G dz aj aP=>?_
    have ec:κ' nx=.none:=(ax.reads nx (by simp)).trans (hn nx (ab3 _))
    have zO:κ' i=.tree ver bY (.aB (nth T (nth T t).elem).size l):=(ax.reads i (by simp)).trans eu
    have hv:=wJ ρ' κ' (ax.op ms) g n a w G aj aP
    have dF:=hex ρ' κ' (ax.op mx) g n a w G aj aP
    obtain⟨hs,KM,_⟩:=lW κ' G w _ (fun q hq=>ax.reads q (by simp[hq])) aj.fit dF
    generalize hx:a.eval s=v at hv
    generalize ql:a.eval x=vx at KM
    cases hv with|cq _ _ A m hh=>
    have eE:=aj.fit.box i
    rw[zO]at eE
    obtain⟨v0,GL,_,bn⟩:=eE.1.2 [] _ rfl rfl
    simp only[aJ]at GL
    rw[hh]at GL;injection GL with GL;subst GL
    have XA:=fM.1 bn
    have xB:wh w (.slice (some A) m m) (nth T (nth T t).elem).size l fun _ _ d u=>d.ao=false/\bz G.M d u:=by
     rcases XA with h1|⟨gb,ob,cap,cc,tt,a1,a2,a3,a4,a5⟩
     ·exact .inl h1
     ·refine .inr ⟨gb,ob,cap,cc,tt,a1,a2,a3,a4,fun q y hy=>⟨(a5 q y hy).1,fun j d hd=>?_⟩⟩
      obtain⟨b1,u,b2,b3⟩:=(a5 q y hy).2 j d hd
      refine⟨b1,u,b2,?_⟩
      rcases b3 with⟨c1,_⟩|c1
      ·rw[hlc y (abC hy) d (abC hd)]at c1;cases c1
      ·exact c1
    have Na:qO w vx (nth T (nth T t).elem).size zs fun _ _ d u=>d.ao=false/\bz G.M d u:=by
     refine KM.Us.mono hle.length fun q x y hx hy=>?_
     have h1:=hle.at q x y hx hy
     refine⟨h1.length,fun j d e u hd he B0 hS=>?_⟩
     obtain⟨k1,k2,_⟩:=hS.2.le (h1.at j d e hd he) B0
     refine⟨k1,?_⟩
     rcases k2 with⟨c1,_⟩|c1
     ·rw[Xz y (abC hy) e (abC he)]at c1;cases c1
     ·exact c1
    have aag:ze.cells.size=te.size:=by
     have:=(eJ (M:=G.M) jO.zc).1.1
     simp at this
     rw[<-this,jO.zl]
    have sb:te.size=(nth T (nth T t).elem).size:=jO.size.symm
    obtain⟨v',w',aZ,Ek,mu,hblk,GZ,j7⟩:=xC (P:=P) (t:=t) (ty:=o.type) (tf.slice iQ) jO.info jO.zero aag (by rw[sb];exact dr) (by rw[sb];exact xB) (by rw[sb];exact Na) GR (by rw[<-jO.bytes];exact AA)
    rw[sb]at Ek
    obtain⟨n1,n2⟩:=j7 A m rfl (fun e=>by rw[e]at hzp;simp at hzp)
    have XB:wh w' v' (nth T (nth T t).elem).size (l++zs) fun _ _ d u=>d.ao=false/\bz G.M d u:=by
     rcases Ek with h1|⟨gb,ob,cap,cc,tt,a1,a2,a3,a4,a5⟩
     ·exact .inl h1
     ·refine .inr ⟨gb,ob,cap,cc,tt,a1,a2,a3,a4,fun q y hy=>⟨(a5 q y hy).1,fun j d hd=>?_⟩⟩
      obtain⟨b1,u,b2,b3⟩:=(a5 q y hy).2 j d hd
      refine⟨b1,u,b2,?_⟩
      unfold sd at b3
      split at b3<;>exact b3
    obtain⟨t1,t2,t3⟩:=vl XB
    obtain⟨G',g1,g2,g3,g4⟩:=aj.r7 (κ':=ay κ' [(nx,.tree 0 0 (.aB (nth T (nth T t).elem).size (l++zs)))]) (i:=nx) (fun _=>False) _ (fun h=>h) ec (fun _ h=>h.elim) (by simp[ay]) (fun j hj _=>by simp[ay,ah _ _ hj]) t1 t2 (fun b hb=>.inl (n2 b (t3 b hb))) (fun b hb _=>n1 b hb) mu.size mu.os mu.tape mu.output
    exact⟨v',w',G',.inl (ed ho hc ha jN (by rw[hx,ql];exact aZ)),g4,.own _ _ _ _ _ ((g3 []).trans (by simp)) GZ⟩
  ·exact h.elim
 ·exact h.elim
theorem Cb(hT:eV P T){t:Nat}{l c:Operand}{x y:Int}{z:DV}(hg:b5 ρ ops o.guard=some gd)(ho:o.op=.makeSlice t l c)
 (cB:(nth T t).ok=true) (iQ:(nth T t).isSl=true) (tK:(nth T (nth T t).elem).ok=true) (dr:0<(nth T (nth T t).elem).size) (oG:κ nx=.none)
 (hz:ly (nth T (nth T t).elem).zero z.cells) (h0:0<=x) (hxy:x<=y) (AA:y*(nth T (nth T t).elem).bytes<=140737488355328) (GR:y<=9223372036854775807)
 {fl:Bool} (oe:fl=true->x=y) (hk:dR n o (nx+1) k (bif fl then .cq nx 0 else .own nx 0 0 []) [(nx,.tree 0 0 (.aB (nth T (nth T t).elem).size (List.replicate x.toNat z)))] [nx]) (aah:bC ρ κ gd l (.dv (.int .i64 x))) (aai:bC ρ κ gd c (.dv (.int .i64 y))):Good P C ops n o nx ρ κ k:=by
 obtain⟨ti,u,zz,tf⟩:=hT.facts cB
 obtain⟨te,ue,ze,jO⟩:=hT.facts tK
 refine cZ (fun c=>by rw[ho];simp) hg hk (by omega) (by simp) fun ρ' κ' ax g a w G dz aj aP=>?_
 have ec:κ' nx=.none:=(ax.reads nx (by simp)).trans oG
 have hv:=aah ρ' κ' (ax.op (by rw[ho];simp[Op.operands])) g n a w G aj aP
 have dF:=aai ρ' κ' (ax.op (by rw[ho];simp[Op.operands])) g n a w G aj aP
 generalize hx:a.eval l=v at hv
 generalize hi:a.eval c=vi at dF
 cases dF with|dv dF=>cases dF with|int=>
 cases hv with|dv hv=>cases hv with|int=>
 obtain⟨Ut,Xz⟩:=eJ (M:=G.M) jO.zc
 have Rh:ze.cells.size=(nth T (nth T t).elem).size:=by have:=Ut.1;rw[jO.zl]at this;simp at this;rw[<-this,jO.size]
 have aZ:=run_make (P:=P) w t (nth T t).elem te ze (tf.slice iQ) jO.info jO.zero .i64 .i64 x y h0 hxy (by rw[<-jO.bytes,Int.mul_comm];omega) GR
 have XD:=hz.Q6 Ut
 have wj:∀u,u∈ze.cells.toList->u.oneCell'=true:=by
  intro u hu
  obtain⟨j,hj⟩:=abV hu
  have wK:j<(nth T (nth T t).elem).zero.length:=by rw[Ut.1];exact(abA.1 hj).1
  exact(Ut.2 j _ u (aaa wK) hj).cQ (Xz _ (ab6 wK)).1
 have xB:wh (w.alloc (.cells (madeCells ze.cells (y.toNat*te.size)) (nth T t).elem)) (.slice (some ⟨w.heap.size,0,none⟩) x.toNat y.toNat) (nth T (nth T t).elem).size (List.replicate x.toNat z) fun _ _ d u=>d.ao=false/\bz G.M d u:=by
  refine .inr ⟨w.heap.size,0,y.toNat,_,(nth T t).elem,by simp,by simp;omega,cF w _,by rw[size_madeCells,jO.size];omega,fun i q hq=>?_⟩
  have tP:i<x.toNat:=by have:=(abA.1 hq).1;simpa using this
  have:q=z:=by simp[List.getElem?_replicate,tP]at hq;exact hq.symm
  subst this
  have G4:q.cells.length=(nth T (nth T t).elem).size:=by rw[XD.1];simpa using Rh
  refine⟨G4,fun j d hd=>?_⟩
  have hj:j<(nth T (nth T t).elem).size:=by rw[<-G4];exact(abA.1 hd).1
  have xD:=qW (show i<y.toNat by omega) hj
  have aJ:bz G.M d (ze.cells[j]'(by omega)):=XD.2 j d _ hd (by rw[Array.getElem?_toList];exact ab9 (by omega))
  refine⟨aJ.ai (wj _ (by simp)),ze.cells[j]'(by omega),?_,aJ.fH,aJ⟩
  rw[Nat.zero_add]
  unfold madeCells
  rw[<-jO.size]
  have abh:(i*(nth T (nth T t).elem).size+j)%ze.cells.size=j:=by rw[Rh];exact(pY hj).2
  have hjm:j%(nth T (nth T t).elem).size=j:=Nat.mod_eq_of_lt hj
  simp[xD,Rh,hjm,getElem!_pos ze.cells j (by omega)]
 obtain⟨t1,t2,t3⟩:=vl xB
 obtain⟨G',g1,g2,g3,g4⟩:=aj.r7 (κ':=ay κ' [(nx,.tree 0 0 (.aB (nth T (nth T t).elem).size (List.replicate x.toNat z)))]) (i:=nx) (fun _=>False) _ (fun h=>h) ec (fun _ h=>h.elim) (by simp[ay]) (fun j hj _=>by simp[ay,ah _ _ hj]) t1 t2 (fun b hb=>by have:=t3 b hb;simp[cS]at this;exact .inl (by omega)) (fun b hb _=>bD w _ hb) (by simp) rfl rfl rfl
 refine⟨.slice (some ⟨w.heap.size,0,none⟩) x.toNat y.toNat,_,G',.inl ?_,g4,?_⟩
 ·simp only[execOp,ho,hx,hi,Sem.run_bind,aZ,Result.andThen_ok,Sem.run_pure]
 ·cases fl with
  |false=>exact .own _ _ _ _ _ ((g3 []).trans (by simp)) rfl
  |true=>
   have e:=oe rfl
   subst e
   exact .cq _ _ _ _ ((g3 []).trans (by simp))
theorem KT{G:Gh}{zs:List AV}{z:Array Value}(h:cb G zs z.toList)(dr:0<z.size)(len:Nat):
 cb G (List.replicate len zs).flatten ((Array.range (len*z.size)).map (z[·%z.size]!)).toList:=by
 have hzl:zs.length=z.size:=by rw[h.1];simp
 have hl:∀r,r∈List.replicate len zs->r.length=z.size:=fun r hr=>by rw[(List.mem_replicate.1 hr).2,hzl]
 refine⟨by rw[iD hl];simp,fun q d v hd hv=>?_⟩
 have hq:q<len*z.size:=by
  have:=(abA.1 hd).1
  rw[iD hl]at this;simpa using this
 have h1:q/z.size<len:=(Nat.div_lt_iff_lt_mul dr).2 hq
 have h2:q%z.size<z.size:=Nat.mod_lt _ dr
 have h3:q=q/z.size*z.size+q%z.size:=by have:=Nat.div_add_mod q z.size;rw[Nat.mul_comm]at this;exact this.symm
 rw[h3,qV hl (i:=q/z.size) (r:=zs) (by simp[h1]) h2]at hd
 have lE:v=z[q%z.size]:=by
  rw[Array.getElem?_toList,Array.getElem?_map]at hv
  simp[hq,getElem!_pos z (q%z.size) h2]at hv
  exact hv.symm
 rw[lE]
 exact h.2 _ d _ hd (by rw[Array.getElem?_toList];exact ab9 h2)
theorem Nb{G:Gh}{w w':World}{κ:Nat->ar}{ids:List Nat}{sz:Nat}{xs:List DV}{us:List Value}{hs:Nat->List PS->Option Value}{id:Nat->Nat}(hf:Fit G w κ)(dP:WS G w κ ids (xs.flatMap DV.cells) us hs id)(dN:∀d,d∈xs.flatMap DV.cells->d.ai=true)(hlen:∀x,x∈xs->x.cells.length=sz)
 {c:Array Value} {t:TypeId} (hc:c.toList=us) (hw:w'.heap[w.heap.size]?=some (.cells c t (0,0))) (fJ:∀b,b<w.heap.size->w'.heap[b]?=w.heap[b]?):
 ∃h',bu G.M w' h' (.aB sz xs)/\iR h' (.aB sz xs)/\h' []=some (.slice (some ⟨w.heap.size,0,none⟩) xs.length xs.length)/\∀b,bA h' (.aB sz xs) b->w.heap.size<=b\/∃j,j∈ids/\cx G j (κ j) b:=by
 let v':Value:=.slice (some ⟨w.heap.size,0,none⟩) xs.length xs.length
 let h':List PS->Option Value:=fun q=>match q with
  |[]=>some v'
  |.el i j::r=>hs (i*sz+j) r
  |_=>none
 have Az:c.size=xs.length*sz:=by
  have:=dP.len
  rw[oM hlen,<-hc]at this
  simpa using this.symm
 have z7:∀i j d,step (.aB sz xs) (.el i j)=some d->(xs.flatMap DV.cells)[i*sz+j]?=some d/\j<sz/\i<xs.length:=by
  intro i j d hd
  simp only[step]at hd
  split at hd
  ·rename_i x hx
   have MK:=hlen x (abC hx)
   have hj:j<sz:=by rw[<-MK];exact(abA.1 hd).1
   exact⟨by rw[xA hlen hx hj];exact hd,hj,(abA.1 hx).1⟩
  ·cases hd
 have Nc:∀(q:Nat) (d:DV),(xs.flatMap DV.cells)[q]?=some d->∃u,c[q]?=some u/\us[q]?=some u:=by
  intro q d hd
  have hq:q<us.length:=by rw[<-dP.len];exact(abA.1 hd).1
  refine⟨us[q],?_,aaa hq⟩
  have:c.toList[q]?=some us[q]:=by rw[hc];exact aaa hq
  simpa using this
 have bn:cD G.M w' v' (fun s=>h' ([]++[s])) (.aB sz xs):=by
  refine .inr ⟨w.heap.size,0,xs.length,c,t,rfl,ab3 _,hw,by omega,fun i x hx=>⟨hlen x (abC hx),fun j d hd=>?_⟩⟩
  obtain⟨h1,h2,h3⟩:=z7 i j d (by simp only[step,hx];exact hd)
  obtain⟨u,h4,h5⟩:=Nc _ d h1
  refine⟨dN d (abC h1),u,by rw[Nat.zero_add];exact h4,?_⟩
  rcases dP.cell _ d u h1 h5 with h6|⟨a1,a2,a3,a4,a5,a6⟩
  ·exact .inr h6
  ·exact .inl ⟨a1,a5⟩
 have sub:∀i j d,step (.aB sz xs) (.el i j)=some d->d.ao=true->bu G.M w' (hs (i*sz+j)) d/\iR (hs (i*sz+j)) d/\id (i*sz+j)∈ids/\∀b,bA (hs (i*sz+j)) d b->cx G (id (i*sz+j)) (κ (id (i*sz+j))) b:=by
  intro i j d hd hdo
  obtain⟨h1,h2,h3⟩:=z7 i j d hd
  obtain⟨u,h4,h5⟩:=Nc _ d h1
  rcases dP.cell _ d u h1 h5 with⟨h6,_⟩|⟨a1,a2,a3,a4,a5,a6⟩
  ·rw[hdo]at h6;cases h6
  ·exact⟨a3.iC (Mem.Le.refl _) (fun b hb=>fJ b (a3.lt hb)) (fun _ _ _ _ _ q=>q),a4,a2,a6⟩
 have el:∀s d,step (.aB sz xs) s=some d->∃i j,s=.el i j:=by
  intro s d cY
  cases s with
  |el i j=>exact⟨i,j,rfl⟩
  |key=>simp[step]at cY
 obtain⟨m1,m2,m3⟩:=bu.qS (w:=w) (w':=w') (h:=KU) (h':=h') (p:=[]) (n:=.aB sz []) (n':=.aB sz xs) (v:=.slice none 0 0) (v':=v') (fun _=>True) (xp G.M w sz) (B2 sz) rfl rfl rfl rfl rfl rfl (.inl rfl) bn
  (fun q hq=>absurd (List.nil_prefix) hq) (fun s c _ _ hN=>absurd trivial hN)
  (fun s d cY hdo _=>by
   obtain⟨i,j,rfl⟩:=el s d cY
   obtain⟨a1,a2,a3,a4⟩:=sub i j d cY hdo
   refine⟨a1,a2,fun b hb=>⟨fun h=>j6 h,fun dI=>?_⟩⟩
   simp[v',cS]at dI
   have:=(a4 b hb).lt hf
   omega)
  (fun s s' d d' b js M4 _ lJ MJ _ jP cd=>by
   obtain⟨i,j,rfl⟩:=el s d js
   obtain⟨i',j',rfl⟩:=el s' d' lJ
   obtain⟨_,_,_,a4⟩:=sub i j d js M4
   obtain⟨_,_,_,b4⟩:=sub i' j' d' lJ MJ
   obtain⟨k1,k2,_⟩:=z7 i j d js
   obtain⟨l1,l2,_⟩:=z7 i' j' d' lJ
   have:=dP.ne _ _ d d' k1 l1 M4 MJ (hf.inj _ _ b (a4 b jP) (b4 b cd))
   have e1:=(pY (i:=i) k2).1
   have e2:=(pY (i:=i) k2).2
   rw[this,(pY (i:=i') l2).1]at e1
   rw[this,(pY (i:=i') l2).2]at e2
   rw[e1,e2])
  (fun b hb=>.inr fun h=>j6 h) (fun b h=>(j6 h).elim)
 refine⟨h',m1,m2,rfl,fun b hb=>?_⟩
 rcases m3 b hb with h1|h1|⟨s,d,s1,s2,_,s4⟩
 ·exact(j6 h1).elim
 ·simp[v',cS]at h1;exact .inl (by omega)
 ·obtain⟨i,j,rfl⟩:=el s d s1
  obtain⟨_,_,a3,a4⟩:=sub i j d s1 s2
  exact .inr ⟨_,a3,a4 b s4⟩
theorem z8(hT:eV P T){t len:Nat}{parts:Array (Nat×Operand)}{l:List (Nat×AV)}{cs:List AV}
 (hg:b5 ρ ops o.guard=some gd) (ho:o.op=.buildSlice t len parts) (hn:∀i,nx<=i->κ i=.none)
 (cB:(nth T t).ok=true) (iQ:(nth T t).isSl=true) (tK:(nth T (nth T t).elem).ok=true) (dr:0<(nth T (nth T t).elem).size) (abi:len*(nth T (nth T t).elem).size<16777216)
 (hp:nu ρ κ gd parts.toList l)
 (oe:qw (fun i=>some (i*(nth T (nth T t).elem).size,(nth T (nth T t).elem).size)) ((List.replicate len (eB (nth T (nth T t).elem).zero)).flatten) l=some cs)
 (cH:b9 cs=true)
 (hk:(match Eh κ cs with
       |some (ds,ids)=>∃xs:List DV,xs.length=len/\ly ds (xs.flatMap DV.cells)/\(∀x,x∈xs->x.cells.length=(nth T (nth T t).elem).size)/\
        xE n o gd nx k (.dv (.sl (nth T (nth T t).elem).size xs)) (kl κ ids) ids
       |none=>False)\/
       (match sa κ cs with
       |some (ds,ids)=>bif fA ids then ∃xs:List DV,xs.length=len/\lX ds (xs.flatMap DV.cells)/\(∀x,x∈xs->x.cells.length=(nth T (nth T t).elem).size)/\
        dR n o (nx+1) k (.own nx 0 0 []) ((nx,.tree 0 0 (.aB (nth T (nth T t).elem).size xs))::eK ids) (nx::ids)else False
       |none=>False)\/
       dR n o (nx+1) k (.sle nx len) [(nx,.cells cs)] [nx]):Good P C ops n o nx ρ κ k:=by
 obtain⟨ti,u,zz,tf⟩:=hT.facts cB
 obtain⟨te,ue,ze,jO⟩:=hT.facts tK
 have dh:∀c,o.op≠.defer c:=fun c=>by rw[ho];simp
 have Rh:ze.cells.size=(nth T (nth T t).elem).size:=by
  have:=(eJ (M:=fun _=>none) jO.zc).1.1
  rw[jO.zl]at this;rw[jO.size];simpa using this.symm
 have core:∀ρ' κ',(∀t,t∈o.looksAt ops.toArray->ρ' t=ρ t)->(∀i,i∈gJ ρ κ o->κ' i=κ i)->∀(g:dO) (a:Act) (w:World) (G:Gh),cu g n ρ' κ' a w G->gd=true->
  ∃c,cb G cs c.toList/\(execOp a.eval o).run P w=.ok (.value (.slice (some ⟨w.heap.size,0,none⟩) len len)) (w.alloc (.cells c (nth T t).elem)):=by
  intro ρ' κ' js lJ g a w G aj aP
  have ax:DR ops o ρ ρ' κ κ' [] []:=⟨js,lJ,by simp,by simp⟩
  have G5:∀p,p∈parts.toList->B7 ρ ρ' κ κ' p.2:=fun p Ri=>ax.op (by
   rw[ho]
   simp only[Op.operands,List.mem_toArray,ab1]
   exact⟨p,Ri,rfl⟩)
  have h1:=hp.rel aj aP G5
  obtain⟨hz,_⟩:=xl G jO
  have hz2:=KT hz (by rw[Rh];exact dr) len
  obtain⟨c,h3,h4⟩:=qX _ l _ _ cs _ h1 hz2 oe
  refine⟨c,h4,?_⟩
  have Tn:¬(len*te.size>2^24):=by rw[<-jO.size];omega
  have hzt:ze.cells.size=te.size:=by rw[Rh,jO.size]
  have Jj:Instr.fill (fun i=>some (i*te.size,te.size)) ((Array.range (len*te.size)).map (ze.cells[·%ze.cells.size]!)) (parts.map fun p=>(p.1,a.eval p.2)).toList=some c:=by
   rw[<-jO.size]
   simp only[Rh]at h3⊢
   simpa using h3
  by_cases h0:len*te.size=0
  ·have Uu:Instr.fill (fun i=>some (i*te.size,te.size)) ((Array.range (len*te.size)).map ((#[]:Array Value)[·%(#[]:Array Value).size]!)) (parts.map fun p=>(p.1,a.eval p.2)).toList=some c:=by
    rw[<-Jj]
    congr 1
    apply Array.ext'
    simp[h0]
   simp only[execOp,ho,Instr.buildSlice,Sem.run_bind,run_underlying (tf.slice iQ),Result.andThen_ok,jv jO.info,if_neg Tn,if_pos h0,Sem.run_pure]
   rw[Uu]
   simp[lH]
  ·simp only[execOp,ho,Instr.buildSlice,Sem.run_bind,run_underlying (tf.slice iQ),Result.andThen_ok,jv jO.info,if_neg Tn,if_neg h0,Sem.run_pure,jO.r8 w]
   rw[Jj]
   simp[lH]
 rcases hk with hk|hk|hk
 ·split at hk
  ·rename_i ds ids zM
   obtain⟨xs,MK,hle,vm,hk⟩:=hk
   refine Nd dh hg hk (ab3 _) (fun p hp=>tW hn hp) fun ρ' κ' ax g a w G dz aj aP=>?_
   obtain⟨c,h4,aZ⟩:=core ρ' κ' ax.bR ax.rows g a w G aj aP
   obtain⟨G1,f1,f2,f3,f4,f5⟩:=aj.pW (κ:=κ) ids ax.reads
   have hrel:=hle.Q6 (qT ax.reads f1 f5.fit zM (fun i hi=>hi) h4)
   have Az:c.size=len*(nth T (nth T t).elem).size:=by
    have:=hrel.1
    rw[oM vm,MK]at this
    simpa using this.symm
   have aaj:=qU hrel (h4.cQ cH)
   have hb:=(Below.refl w.heap.size w).alloc (ab3 _) (.cells c (nth T t).elem)
   let M2:Mem:=fun b=>if b=w.heap.size then some (.cells c (nth T t).elem)else G1.M b
   have QX:M2 w.heap.size=some (.cells c (nth T t).elem):=if_pos rfl
   have XE:Mem.Le G1.M M2:=fun b ob dI=>by
    have:b≠w.heap.size:=fun e=>by rw[e,f5.fit.sub.se (ab3 _)]at dI;cases dI
    show(if b=w.heap.size then _ else _)=_
    rw[if_neg this];exact dI
   obtain⟨g1,g2⟩:=f5.grown (M':=M2) hb XE (fun b ob dI=>by
    by_cases e:b=w.heap.size
    ·subst e;rw[QX]at dI;injection dI with dI;subst dI;exact cF w _
    ·have:M2 b=G1.M b:=if_neg e
     rw[this]at dI;exact f5.fit.sub.alloc _ b ob dI) (fun b dI=>if_neg (by omega))
   refine⟨_,_,_,.inl aZ,g1,.dv ?_⟩
   rw[<-MK]
   refine .sl _ xs ⟨w.heap.size,0,none⟩ xs.length (fun i j=>c.getD (i*(nth T (nth T t).elem).size+j) undef) (ab3 _) (fun x hx=>⟨vm x hx,fun d hd=>aaj d (List.mem_flatMap.2 ⟨x,hx,hd⟩)⟩) (fun i j hi hj=>?_) (fun i x j d hx hd=>?_)
   ·rw[eL,Nat.zero_add]
    show Mem.cell? M2 _=_
    simp only[Mem.cell?,QX]
    have xD:=qW hi hj
    rw[MK]at xD
    simp[abK,Az,xD]
   ·have hj:j<(nth T (nth T t).elem).size:=by rw[<-vm x (abC hx)];exact(abA.1 hd).1
    have hi:i<xs.length:=(abA.1 hx).1
    have xD:=qW hi hj
    rw[MK]at xD
    have h6:(xs.flatMap DV.cells)[i*(nth T (nth T t).elem).size+j]?=some d:=by rw[xA vm hx hj];exact hd
    have:=hrel.2 _ d (c.getD (i*(nth T (nth T t).elem).size+j) undef) h6 (by simp[abK,Az,xD])
    exact this.mono XE
  ·exact hk.elim
 ·split at hk
  ·rename_i ds ids GK
   cases qQ:fA ids with
   |false=>rw[qQ]at hk;exact hk.elim
   |true=>
   rw[qQ]at hk
   obtain⟨xs,MK,hle,vm,hk⟩:=hk
   have MX:nx∉ids:=fun hm=>by have:=qu hn (my GK nx hm);omega
   refine cZ dh hg hk (by omega) (fun q hq=>by
    rcases abG.1 hq with rfl|hq
    ·simp
    ·have:=qu hn (my GK _ (tS hq));omega) fun ρ' κ' ax g a w G dz aj aP=>?_
   have ec:κ' nx=.none:=(ax.reads nx (by simp)).trans (hn nx (ab3 _))
   obtain⟨c,h4,aZ⟩:=core ρ' κ' ax.bR ax.rows g a w G aj aP
   obtain⟨hs,id,dP⟩:=np aj.fit GK qQ (fun j hj=>ax.reads j (by simp[hj])) h4
   obtain⟨wi,dN⟩:=dP.le hle (h4.cQ cH)
   obtain⟨h',t1,t2,t3,t4⟩:=Nb (w':=w.alloc (.cells c (nth T t).elem)) aj.fit wi dN vm rfl (cF w _) (fun b hb=>bD w _ hb)
   obtain⟨G',g1,g2,g3,g4⟩:=aj.r7 (κ':=ay κ' ((nx,.tree 0 0 (.aB (nth T (nth T t).elem).size xs))::eK ids)) (i:=nx) (fun j=>j∈ids) h' MX ec (fun j hj=>by simp only[ay];rw[ah _ _ (by rintro rfl;exact MX hj),cT,if_pos hj]) (by simp[ay]) (fun j h1 h2=>by simp only[ay];rw[ah _ _ h1,cT,if_neg h2]) t1 t2 t4 (fun b hb _=>bD w _ hb) (by simp) rfl rfl rfl
   rw[MK]at t3
   exact⟨_,_,G',.inl aZ,g4,.own _ _ _ _ _ ((g3 []).trans t3) rfl⟩
  ·exact hk.elim
 ·refine cZ dh hg hk (by omega) (by simp) fun ρ' κ' ax g a w G dz aj aP=>?_
  have ec:κ' nx=.none:=(ax.reads nx (by simp)).trans (hn nx (ab3 _))
  obtain⟨c,h4,aZ⟩:=core ρ' κ' ax.bR ax.rows g a w G aj aP
  obtain⟨G',h1,h2,h3⟩:=aj.xm ec dz (nth T t).elem h4 (fK cH)
  exact⟨_,_,G',.inl aZ,h2,.sle nx len _ h3⟩
end
end Go.TM
