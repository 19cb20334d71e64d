import Derived.Test.YtmojfblpbcficaaGreatDoorCM7
import Derived.Maps.RangeRun
set_option linter.all false
namespace Go.TM
section
open Go.RowKit
variable [cn]
theorem sa{α:Type _}{sz:Nat}:∀{rows:List (List α)},(∀r,r∈rows->r.length=sz)->∀{i j:Nat} {r:List α},rows[i]?=some r->j<sz->rows.flatten[i*sz+j]?=r[j]?
 |[],_,i,j,r,h,_=>by grind
 |x::rows,hl,0,j,r,h,hj=>by
  grind
 |x::rows,hl,i+1,j,r,h,hj=>by
  simp[List.flatten_cons]
  rw[List.getElem?_append_right (by grind),<-(sa (rows:=rows) (fun r hr=>hl r (by grind)) (by simpa using h) hj)]
  grind
theorem lJ{α:Type _}{sz:Nat}:∀{rows:List (List α)},(∀r,r∈rows->r.length=sz)->rows.flatten.length=rows.length*sz
 |[],_=>by simp
 |x::rows,h=>by
  have:=lJ (rows:=rows) (fun r hr=>h r (by grind))
  grind
theorem zG{sz:Nat}{xs:List DV}(hl:∀x,x∈xs->x.cells.length=sz){i j:Nat}{x:DV}(hx:xs[i]?=some x)(hj:j<sz):(xs.flatMap DV.cells)[i*sz+j]?=x.cells[j]?:=by
 rw[List.flatMap_def]
 exact sa (fun r hr=>by grind) (by grind) hj
theorem p7{sz:Nat}{xs:List DV}(hl:∀x,x∈xs->x.cells.length=sz):(xs.flatMap DV.cells).length=xs.length*sz:=by
 rw[List.flatMap_def,lJ (fun r hr=>by obtain⟨y,hy,rfl⟩:=acL.1 hr;exact hl y hy)]
 simp
theorem p8{M:Mem}{w:World}{sz:Nat}{l:List DV}{v:Value}(hn:uY w v sz l fun _ _ d u=>d.ar=false/\bq M d u):bB M w (fun p=>if p=[]then some v else none) (.aC sz l)/\iX (fun p=>if p=[]then some v else none) (.aC sz l)/\∀b,bK (fun p=>if p=[]then some v else none) (.aC sz l) b->cS v=some b:=by
 have only:∀p m,get (.aC sz l) p=some m->m.ar=true->p=[]:=by
  intro p m hp hm
  cases p with
  |nil=>rfl
  |cons s p=>
   simp[get]at hp
   cases hs:step (.aC sz l) s with
   |none=>grind
   |some c=>
    rw[hs]at hp
    have D4:=by
     cases p with
     |nil=>simp[get]at hp;subst hp;exact hm
     |cons s' p=>grind [get,step,fJ]
    cases s with
    |key=>simp[step]at hs
    |el i j=>
     simp[step]at hs
     split at hs
     ·rcases hn with⟨rfl,_⟩|⟨g,o,cap,c',t,_,_,_,_,h5⟩
      ·grind
      grind
     grind
 refine⟨⟨rfl,fun p m hp hm=>?_⟩,fun p q n m u v b e1 e2 _ _ f1 f2 _ _=>by grind,?_⟩
 ·have:=only p m hp hm
  subst this
  simp[get]at hp
  subst hp
  refine⟨v,by simp,(by rcases hn with⟨_,rfl⟩|⟨_,_,_,_,_,rfl,_⟩<;>rfl),fU.2 ?_⟩
  rcases hn with h|⟨g,o,cap,c,t,a1,a2,a3,a4,a5⟩
  ·exact .inl h
  ·refine .inr ⟨g,o,cap,c,t,a1,a2,a3,a4,fun i x hx=>⟨(a5 i x hx).1,fun j d hd=>?_⟩⟩
   obtain⟨b1,u,b2,b3⟩:=(a5 i x hx).2 j d hd
   exact⟨b1,u,b2,.inr b3⟩
 ·rintro b ⟨p,m,u,h1,h2,h3,h4⟩
  grind
theorem zH{w:World}{A:Addr}{sz:Nat}(dc:0<sz){l:List DV}{cell:Nat->Nat->Value}(h:∀(i:Nat) (x:DV),l[i]?=some x->x.cells.length=sz/\∀(j:Nat) (d:DV),x.cells[j]?=some d->w.cell? (A.add (i*sz+j))=some (cell i j)):
 ∀q u,(eU sz l.length cell)[q]?=some u->w.cell? (A.add q)=some u:=fun q u hu=>by
 have h2:=Nat.mod_lt q dc
 have h3:=by have:=Nat.div_add_mod q sz;omega
 obtain⟨a1,a2⟩:=h _ _ (aaS ((Nat.div_lt_iff_lt_mul dc).2 (by rw[<-jB sz l.length cell];exact(aci.1 hu).1)))
 have:=a2 (q%sz) _ (aaS (by grind))
 grind [nh]
theorem GS{P:Program}{w:World}{t ty e:TypeId}{ti:TypeInfo}{z:Value}(ht:P.underlying t=some (.slice e))(hi:P.info? e=some ti)(hz:ti.zero=some z)(Yq:z.cells.size=ti.size)(dc:0<ti.size)
 {M:Mem} {A0:Addr} {sv:Value} {xs zs:List DV} {c0:Nat->Nat->Value} (Rp:∀(i:Nat) (x:DV),xs[i]?=some x->x.cells.length=ti.size/\∀(j:Nat) (d:DV),x.cells[j]?=some d->d.aj=true/\w.cell? (A0.add (i*ti.size+j))=some (c0 i j)/\d.ar=false/\bq M d (c0 i j))
 (lu:pZ w sv ti.size zs fun _ _ d u=>d.ar=false/\bq M d u) (cC:0<zs.length)
 (D8:xs.length+zs.length<=9223372036854775807) (zR:(xs.length+zs.length)*ti.bytes<=140737488355328):
 ∃v' w',(Builtin.append_ #[t,t] ty #[.slice (some A0) xs.length xs.length,sv]).run P w=.ok v' w'/\uY w' v' ti.size (xs++zs) (fun _ _ d u=>d.ar=false/\bq M d u)/\w.grownBy w' none/\(∀b,cS v'=some b->w.heap.size<=b)/\v'.oneCell'=true:=by
 rcases lu with⟨c,rfl,uz⟩|⟨A,Rc,cell,rfl,cH⟩
 ·grind
 have l1:=jB ti.size xs.length c0
 have l2:=jB ti.size zs.length cell
 have hr:=run_append_grow w t ty e ti z ht hi hz A0 xs.length xs.length _ l1 (zH dc fun i x hx=>⟨(Rp i x hx).1,fun j d hd=>((Rp i x hx).2 j d hd).2.1⟩)
  A zs.length Rc _ l2 (zH dc fun i x hx=>⟨(cH i x hx).1,fun j d hd=>((cH i x hx).2 j d hd).2.1⟩) (by omega) (by omega) (growslice_fits (by omega) zR)
 refine⟨_,_,hr,.inr ⟨w.heap.size,0,grownCap w (xs.length+zs.length) xs.length e,_,e,by simp,by grind [grownCap_ge],cD w.drew _,?_,fun i x hx=>?_⟩,⟨rfl,rfl,rfl,by simp,fun q hq _=>bu w.drew _ hq⟩,fun b hb=>by grind [cS],rfl⟩
 ·have:=grownCap_ge w (xs.length+zs.length) xs.length e
  simp[Array.size_append,List.size_toArray,size_zeroCells,Yq,l1,l2,<-Nat.add_mul,Nat.zero_add]
  grind
 ·have MZ:∀q v,(eU ti.size xs.length c0++eU ti.size zs.length cell)[q]?=some v->∀r:Array Value,((eU ti.size xs.length c0).toArray++(eU ti.size zs.length cell).toArray++r)[q]?=some v:=fun q v hv r=>by
   rw[Array.getElem?_append,if_pos (by have:=(aci.1 hv).1;simpa using this)]
   simpa using hv
  rw[List.getElem?_append]at hx
  split at hx
  ·rename_i aw
   obtain⟨a1,a2⟩:=Rp i x hx
   refine⟨a1,fun j d hd=>?_⟩
   obtain⟨b1,_,b3⟩:=a2 j d hd
   have hj:j<ti.size:=by rw[<-a1];exact(aci.1 hd).1
   refine⟨b1,_,MZ _ _ ?_ _,b3⟩
   rw[Nat.zero_add,List.getElem?_append_left (by rw[l1];exact pY aw hj)]
   exact nh c0 aw hj
  ·rename_i gE
   obtain⟨a1,a2⟩:=cH _ x hx
   refine⟨a1,fun j d hd=>?_⟩
   obtain⟨b1,_,_,b3⟩:=a2 j d hd
   refine⟨b1,_,MZ _ _ ?_ _,b3⟩
   have e1:i*ti.size=xs.length*ti.size+(i-xs.length)*ti.size:=by rw[<-Nat.add_mul];congr 1;omega
   rw[Nat.zero_add,List.getElem?_append_right (by rw[l1];omega),l1,show i*ti.size+j-xs.length*ti.size=(i-xs.length)*ti.size+j by omega]
   exact nh cell ((aci.1 hx).1) (by rw[<-a1];exact(aci.1 hd).1)
section
variable {P:Program} {C:dW->Prop} {T:List TI} {ops:List Oper} {n:Nat} {o:Oper} {nx:Nat} {ρ:Nat->AV} {κ:Nat->au} {k:lN->Nat->Prop} {gd:Bool}
theorem Ho(hT:fh P T){t:Nat}{s x:Operand}{c:Call}{sv xv:AV}(hg:b8 ρ ops o.guard=some gd)(ho:o.op=.call c)(hc:c.callee=.builtin .append)(ha:c.args.toList=[s,x])(lK:c.argTypes.toList=[t,t])
 (hn:∀i,nx<=i->κ i=.none) (h:pz T n o nx κ k t sv xv) (xM:bJ ρ κ gd s sv) (hex:bJ ρ κ gd x xv):Good P C ops n o nx ρ κ k:=by
 have dS:∀c',o.op≠.defer c':=fun c'=>by grind
 have cI:c.args=#[s,x]:=Array.ext' (by grind)
 have ms:s∈o.op.operands:=by grind [Op.operands,Call.operands]
 have mx:x∈o.op.operands:=by grind [Op.operands,Call.operands]
 unfold pz at h
 simp only at h
 cases mj:(nth T t).ok&&(nth T t).isSl&&(nth T (nth T t).elem).ok&&Nat.blt 0 (nth T (nth T t).elem).size with
 |false=>grind
 |true=>
 rw[mj]at h
 simp only[cond_true]at h
 simp only[acU,Nat.blt_eq]at mj
 obtain⟨⟨⟨cw,gB⟩,vK⟩,dc⟩:=mj
 obtain⟨ti,u,zz,tf⟩:=hT.facts cw
 obtain⟨te,ue,ze,iY⟩:=hT.facts vK
 split at h
 ·rename_i i ver
  split at h
  ·rename_i bo cb sz l gr
   cases hb:Nat.beq ver bo&&Nat.beq sz (nth T (nth T t).elem).size with
   |false=>grind
   |true=>
   rw[hb]at h
   simp only[cond_true]at h
   simp only[acU]at hb
   have e1:=acm hb.1
   have e2:=acm hb.2
   subst e1;subst e2
   obtain⟨hlc,h⟩:=h
   rcases kD h with⟨_,hk⟩|⟨oX,ys,rd,kill,hk,T4,T5,lu⟩
   ·grind
   ·cases ck:Nat.beq oX (nth T (nth T t).elem).size with
    |false=>grind
    |true=>
    rw[ck]at hk
    simp only[cond_true]at hk
    have:=acm ck
    subst this
    obtain⟨zs,hle,XD,ZN,zR,D8,hk⟩:=hk
    refine c7 dS hg hk (by omega) (by simp) fun ρ' κ' ax g a w G dF ak aV=>?_
    have hv:=xM ρ' κ' (ax.op ms) g n a w G ak aV
    obtain⟨hs,MN,_⟩:=lu κ' G w _ (fun q hq=>ax.reads q (by grind)) ak.fit (hex ρ' κ' (ax.op mx) g n a w G ak aV)
    generalize hx:a.eval s=v at hv
    generalize su:a.eval x=vx at MN
    cases hv with|ct _ _ A m hh=>
    have fk:=ak.fit.box i
    rw[((ax.reads i (by simp)).trans gr)]at fk
    obtain⟨v0,G8,_,bn⟩:=fk.1.2 [] _ rfl rfl
    simp only[aJ]at G8
    rw[hh]at G8;injection G8 with G8;subst G8
    have As:uY w (.slice (some A) m m) (nth T (nth T t).elem).size l fun _ _ d u=>d.ar=false/\bq G.M d u:=by
     rcases(fU.1 bn)with h1|⟨gb,ob,cap,cc,tt,a1,a2,a3,a4,a5⟩
     ·grind
     ·refine .inr ⟨gb,ob,cap,cc,tt,a1,a2,a3,a4,fun q y hy=>⟨(a5 q y hy).1,fun j d hd=>?_⟩⟩
      obtain⟨b1,u,b2,b3⟩:=(a5 q y hy).2 j d hd
      refine⟨b1,u,b2,?_⟩
      rcases b3 with⟨c1,_⟩|c1
      ·rw[hlc y (ack hy) d (ack hd)]at c1;grind
      grind
    have Rh:pZ w vx (nth T (nth T t).elem).size zs fun _ _ d u=>d.ar=false/\bq G.M d u:=by
     refine MN.XA.mono hle.length fun q x y hx hy=>?_
     have h1:=hle.at q x y hx hy
     refine⟨h1.length,fun j d e u hd he Df hS=>?_⟩
     obtain⟨k1,k2,_⟩:=hS.2.le (h1.at j d e hd he) Df
     refine⟨k1,?_⟩
     rcases k2 with⟨c1,_⟩|c1
     ·rw[XD y (ack hy) e (ack he)]at c1;grind
     grind
    have XM:ze.cells.size=te.size:=by
     have:=(ec (M:=G.M) iY.zc).1.1
     simp at this
     rw[<-this,iY.zl]
    have ma:=iY.size.symm
    obtain⟨v',w',bE,GK,iV,hblk,DM,kl⟩:=zx (tf.slice gB) iY.info iY.zero XM (by rwa[ma]) (by rwa[ma]) (by rwa[ma]) D8 (by rwa[<-iY.bytes])
    rw[ma]at GK
    obtain⟨n1,n2⟩:=kl A m rfl (fun e=>by rw[e]at ZN;simp at ZN)
    have K5:uY w' v' (nth T (nth T t).elem).size (l++zs) fun _ _ d u=>d.ar=false/\bq G.M d u:=by
     rcases GK with h1|⟨gb,ob,cap,cc,tt,a1,a2,a3,a4,a5⟩
     ·exact .inl h1
     ·refine .inr ⟨gb,ob,cap,cc,tt,a1,a2,a3,a4,fun q y hy=>⟨(a5 q y hy).1,fun j d hd=>?_⟩⟩
      obtain⟨b1,u,b2,b3⟩:=(a5 q y hy).2 j d hd
      refine⟨b1,u,b2,?_⟩
      unfold tG at b3
      split at b3<;>exact b3
    obtain⟨t1,t2,t3⟩:=p8 K5
    obtain⟨G',g1,g2,g3,g4⟩:=ak.qD (κ':=aB κ' [(nx,.tree 0 0 (.aC (nth T (nth T t).elem).size (l++zs)))]) (fun _=>False) _ (fun h=>h) ((ax.reads nx (by simp)).trans (hn nx (acN _))) (fun _ h=>h.elim) (by simp[aB]) (fun j hj _=>by simp[aB,ah _ _ hj]) t1 t2 (fun b hb=>.inl (n2 b (t3 b hb))) (fun b hb _=>n1 b hb) iV.size iV.os iV.tape iV.output
    exact⟨v',w',G',.inl (dE ho hc ha lK (by rwa[hx,su])),g4,.own _ _ _ _ _ ((g3 []).trans (by simp)) DM⟩
  ·exact h.elim
 ·rename_i sz l
  cases hb:Nat.beq sz (nth T (nth T t).elem).size with
  |false=>rw[hb]at h;exact h.elim
  |true=>
  rw[hb]at h
  simp only[cond_true]at h
  have e2:=acm hb
  subst e2
  rcases kD h with⟨_,hk⟩|⟨oX,ys,rd,kill,hk,T4,T5,lu⟩
  ·exact hk.elim
  ·cases ck:Nat.beq oX (nth T (nth T t).elem).size with
   |false=>rw[ck]at hk;exact hk.elim
   |true=>
   rw[ck]at hk
   simp only[cond_true]at hk
   have:=acm ck
   subst this
   obtain⟨zs,hle,XD,ZN,zR,D8,hk⟩:=hk
   refine c7 dS hg hk (by omega) (by simp) fun ρ' κ' ax g a w G dF ak aV=>?_
   have hv:=xM ρ' κ' (ax.op ms) g n a w G ak aV
   obtain⟨hs,MN,_⟩:=lu κ' G w _ (fun q hq=>ax.reads q (by simp[hq])) ak.fit (hex ρ' κ' (ax.op mx) g n a w G ak aV)
   generalize hx:a.eval s=v at hv
   generalize su:a.eval x=vx at MN
   cases hv with|dv hv=>cases hv with|GY _ _ A cell hlen om hr=>
   have Rh:pZ w vx (nth T (nth T t).elem).size zs fun _ _ d u=>d.ar=false/\bq G.M d u:=by
    refine MN.XA.mono hle.length fun q x y hx hy=>?_
    have h1:=hle.at q x y hx hy
    refine⟨h1.length,fun j d e u hd he Df hS=>?_⟩
    obtain⟨k1,k2,_⟩:=hS.2.le (h1.at j d e hd he) Df
    refine⟨k1,?_⟩
    rcases k2 with⟨c1,_⟩|c1
    ·rw[XD y (ack hy) e (ack he)]at c1;cases c1
    ·exact c1
   have XM:ze.cells.size=te.size:=by
    have:=(ec (M:=G.M) iY.zc).1.1
    simp at this
    rw[<-this,iY.zl]
   have ma:=iY.size.symm
   obtain⟨v',w',bE,K5,iV,n2,DM⟩:=GS (tf.slice gB) iY.info iY.zero XM (by rwa[ma]) (fun i x hx=>by
    have hm:=hlen x (ack hx)
    rw[ma]
    refine⟨hm.1,fun j d hd=>?_⟩
    have h5:=hr i x j d hx hd
    exact⟨hm.2 d (ack hd),ak.fit.sub.cell (om i j (aci.1 hx).1 (by rw[<-hm.1];exact(aci.1 hd).1)),h5.fe,h5⟩) (by rwa[ma]) ZN D8 (by rwa[<-iY.bytes])
   rw[ma]at K5
   obtain⟨t1,t2,t3⟩:=p8 K5
   obtain⟨G',g1,g2,g3,g4⟩:=ak.qD (κ':=aB κ' [(nx,.tree 0 0 (.aC (nth T (nth T t).elem).size (l++zs)))]) (fun _=>False) _ (fun h=>h) ((ax.reads nx (by simp)).trans (hn nx (acN _))) (fun _ h=>h.elim) (by simp[aB]) (fun j hj _=>by simp[aB,ah _ _ hj]) t1 t2 (fun b hb=>.inl (n2 b (t3 b hb))) (fun b hb _=>iV.block b hb (fun h=>by cases h)) iV.size iV.os iV.tape iV.output
   exact⟨v',w',G',.inl (dE ho hc ha lK (by rwa[hx,su])),g4,.own _ _ _ _ _ ((g3 []).trans (by simp)) DM⟩
 ·exact h.elim
theorem B5(hT:fh P T){t:Nat}{l c:Operand}{x y:Int}{z:DV}(hg:b8 ρ ops o.guard=some gd)(ho:o.op=.makeSlice t l c)
 (cw:(nth T t).ok=true) (gB:(nth T t).isSl=true) (vK:(nth T (nth T t).elem).ok=true) (dc:0<(nth T (nth T t).elem).size) (p5:κ nx=.none)
 (hz:lM (nth T (nth T t).elem).zero z.cells) (h0:0<=x) (hxy:x<=y) (zR:y*(nth T (nth T t).elem).bytes<=140737488355328) (D8:y<=9223372036854775807)
 {fl:Bool} (lT:fl=true->x=y) (hk:dM n o (nx+1) k (bif fl then .ct nx 0 else .own nx 0 0 []) [(nx,.tree 0 0 (.aC (nth T (nth T t).elem).size (List.replicate x.toNat z)))] [nx]) (abL:bJ ρ κ gd l (.dv (.int .i64 x))) (abM:bJ ρ κ gd c (.dv (.int .i64 y))):Good P C ops n o nx ρ κ k:=by
 obtain⟨ti,u,zz,tf⟩:=hT.facts cw
 obtain⟨te,ue,ze,iY⟩:=hT.facts vK
 refine c7 (fun c=>by grind) hg hk (by omega) (by simp) fun ρ' κ' ax g a w G dF ak aV=>?_
 have hv:=abL ρ' κ' (ax.op (by grind [Op.operands])) g n a w G ak aV
 have dU:=abM ρ' κ' (ax.op (by grind [Op.operands])) g n a w G ak aV
 generalize hx:a.eval l=v at hv
 generalize hi:a.eval c=vi at dU
 cases dU with|dv dU=>cases dU with|int=>
 cases hv with|dv hv=>cases hv with|int=>
 obtain⟨XO,XD⟩:=ec (M:=G.M) iY.zc
 have Yq:ze.cells.size=(nth T (nth T t).elem).size:=by have:=XO.1;rw[iY.zl]at this;simp at this;rw[<-this,iY.size]
 have aaM:=hz.RS XO
 have wu:∀u,u∈ze.cells.toList->u.oneCell'=true:=by
  intro u hu
  obtain⟨j,hj⟩:=acF hu
  have AI:j<(nth T (nth T t).elem).zero.length:=by rw[XO.1];grind
  exact(XO.2 j _ u (aaS AI) hj).cV (XD _ (acQ AI)).1
 have As:uY (w.alloc (.cells (madeCells ze.cells (y.toNat*te.size)) (nth T t).elem)) (.slice (some ⟨w.heap.size,0,none⟩) x.toNat y.toNat) (nth T (nth T t).elem).size (List.replicate x.toNat z) fun _ _ d u=>d.ar=false/\bq G.M d u:=by
  refine .inr ⟨w.heap.size,0,y.toNat,_,(nth T t).elem,by simp,by grind,cD w _,by rw[size_madeCells,iY.size];omega,fun i q hq=>?_⟩
  have:=by simp[(by have:=(aci.1 hq).1;simpa using this)]at hq;exact hq.symm
  subst this
  have Zn:q.cells.length=(nth T (nth T t).elem).size:=by rw[aaM.1];grind
  refine⟨Zn,fun j d hd=>?_⟩
  have hj:j<(nth T (nth T t).elem).size:=by grind
  have aJ:=aaM.2 j d _ hd (by rw[Array.getElem?_toList];exact acT (by omega))
  refine⟨aJ.aj (wu _ (by simp)),ze.cells[j]'(by omega),?_,aJ.fe,aJ⟩
  rw[Nat.zero_add]
  unfold madeCells
  rw[<-iY.size]
  grind [nth,qC,pY,Nat.mod_eq_of_lt]
 obtain⟨t1,t2,t3⟩:=p8 As
 obtain⟨G',g1,g2,g3,g4⟩:=ak.qD (κ':=aB κ' [(nx,.tree 0 0 (.aC (nth T (nth T t).elem).size (List.replicate x.toNat z)))]) (fun _=>False) _ (fun h=>h) ((ax.reads nx (by simp)).trans p5) (fun _ h=>h.elim) (by simp[aB]) (fun j hj _=>by simp[aB,ah _ _ hj]) t1 t2 (fun b hb=>by grind [cS]) (fun b hb _=>bu w _ hb) (by simp) rfl rfl rfl
 refine⟨.slice (some ⟨w.heap.size,0,none⟩) x.toNat y.toNat,_,G',.inl ?_,g4,?_⟩
 ·simp[execOp,ho,hx,hi,Sem.run_bind,(run_make w t (nth T t).elem te ze (tf.slice gB) iY.info iY.zero .i64 .i64 x y h0 hxy (by rw[<-iY.bytes,Int.mul_comm];omega) D8),Result.andThen_ok,Sem.run_pure]
 ·cases fl with
  |false=>exact .own _ _ _ _ _ ((g3 []).trans (by simp)) rfl
  |true=>
   have e:=lT rfl
   subst e
   exact .ct _ _ _ _ ((g3 []).trans (by simp))
theorem M0{G:Gh}{zs:List AV}{z:Array Value}(h:cd G zs z.toList)(dc:0<z.size)(len:Nat):
 cd G (List.replicate len zs).flatten ((Array.range (len*z.size)).map (z[·%z.size]!)).toList:=by
 have hzl:zs.length=z.size:=by rw[h.1];simp
 have hl:∀r,r∈List.replicate len zs->r.length=z.size:=fun r hr=>by grind
 refine⟨by simp_all,fun q d v hd hv=>?_⟩
 have hq:=by
  have:=(aci.1 hd).1
  rw[lJ hl]at this;simpa using this
 have h2:q%z.size<z.size:=Nat.mod_lt _ dc
 have h3:=by have:=Nat.div_add_mod q z.size;rw[Nat.mul_comm]at this;exact this.symm
 rw[h3,sa hl (r:=zs) (by grind [Nat.div_lt_iff_lt_mul]) h2]at hd
 have nr:=by
  rw[Array.getElem?_toList,Array.getElem?_map]at hv
  simp[hq,getElem!_pos z (q%z.size) h2]at hv
  exact hv.symm
 rw[nr]
 exact h.2 _ d _ hd (by grind)
theorem Rq{G:Gh}{w w':World}{κ:Nat->au}{ids:List Nat}{sz:Nat}{xs:List DV}{us:List Value}{hs:Nat->List PS->Option Value}{id:Nat->Nat}(hf:Fit G w κ)(dh:Yr G w κ ids (xs.flatMap DV.cells) us hs id)(dL:∀d,d∈xs.flatMap DV.cells->d.aj=true)(hlen:∀x,x∈xs->x.cells.length=sz)
 {c:Array Value} {t:TypeId} (hc:c.toList=us) (hw:w'.heap[w.heap.size]?=some (.cells c t (0,0))) (fL:∀b,b<w.heap.size->w'.heap[b]?=w.heap[b]?):
 ∃h',bB G.M w' h' (.aC sz xs)/\iX h' (.aC sz xs)/\h' []=some (.slice (some ⟨w.heap.size,0,none⟩) xs.length xs.length)/\∀b,bK h' (.aC sz xs) b->w.heap.size<=b\/∃j,j∈ids/\cA G j (κ j) b:=by
 let v':Value:=.slice (some ⟨w.heap.size,0,none⟩) xs.length xs.length
 let h':List PS->Option Value:=fun q=>match q with
  |[]=>some v'
  |.el i j::r=>hs (i*sz+j) r
  |_=>none
 have FP:=by
  have:=dh.len
  rw[p7 hlen,<-hc]at this
  simpa using this.symm
 have Ai:∀i j d,step (.aC sz xs) (.el i j)=some d->(xs.flatMap DV.cells)[i*sz+j]?=some d/\j<sz/\i<xs.length:=by
  grind [step,List.mem_of_getElem?,List.getElem?_eq_some_iff,zG]
 have Rr:∀(q:Nat) (d:DV),(xs.flatMap DV.cells)[q]?=some d->∃u,c[q]?=some u/\us[q]?=some u:=by
  intro q d hd
  have hq:q<us.length:=by rw[<-dh.len];grind
  refine⟨us[q],?_,aaS hq⟩
  grind
 have bn:cG G.M w' v' (fun s=>h' ([]++[s])) (.aC sz xs):=by
  refine .inr ⟨w.heap.size,0,xs.length,c,t,rfl,acN _,hw,by omega,fun i x hx=>⟨hlen x (ack hx),fun j d hd=>?_⟩⟩
  obtain⟨h1,h2,h3⟩:=Ai i j d (by simp[step,hx];exact hd)
  obtain⟨u,h4,h5⟩:=Rr _ d h1
  refine⟨dL d (ack h1),u,by rwa[Nat.zero_add],?_⟩
  rcases dh.cell _ d u h1 h5 with h6|⟨a1,a2,a3,a4,a5,a6⟩
  ·exact .inr h6
  ·exact .inl ⟨a1,a5⟩
 have sub:∀i j d,step (.aC sz xs) (.el i j)=some d->d.ar=true->bB G.M w' (hs (i*sz+j)) d/\iX (hs (i*sz+j)) d/\id (i*sz+j)∈ids/\∀b,bK (hs (i*sz+j)) d b->cA G (id (i*sz+j)) (κ (id (i*sz+j))) b:=by
  intro i j d hd hdo
  obtain⟨h1,h2,h3⟩:=Ai i j d hd
  obtain⟨u,h4,h5⟩:=Rr _ d h1
  rcases dh.cell _ d u h1 h5 with⟨h6,_⟩|⟨a1,a2,a3,a4,a5,a6⟩
  ·rw[hdo]at h6;cases h6
  ·exact⟨a3.jX (Mem.Le.refl _) (fun b hb=>fL b (a3.lt hb)) (fun _ _ _ _ _ q=>q),a4,a2,a6⟩
 have el:∀s d,step (.aC sz xs) s=some d->∃i j,s=.el i j:=by
  intro s d fH
  cases s with
  |el i j=>exact⟨i,j,rfl⟩
  |key=>simp[step]at fH
 obtain⟨m1,m2,m3⟩:=bB.rQ (fun _=>True) (zy G.M w sz) (DL sz) rfl rfl rfl rfl rfl rfl (.inl rfl) bn
  (fun q hq=>absurd (List.nil_prefix) hq) (nofun)
  (fun s d fH hdo _=>by
   obtain⟨i,j,rfl⟩:=el s d fH
   obtain⟨a1,a2,a3,a4⟩:=sub i j d fH hdo
   refine⟨a1,a2,fun b hb=>⟨fun h=>kC h,fun eB=>?_⟩⟩
   simp[v',cS]at eB
   have:=(a4 b hb).lt hf
   omega)
  (fun s s' d d' b j5 Rj _ lV M7 _ jw ck=>by
   obtain⟨i,j,rfl⟩:=el s d j5
   obtain⟨i',j',rfl⟩:=el s' d' lV
   obtain⟨_,_,_,a4⟩:=sub i j d j5 Rj
   obtain⟨_,_,_,b4⟩:=sub i' j' d' lV M7
   obtain⟨k1,k2,_⟩:=Ai i j d j5
   obtain⟨l1,l2,_⟩:=Ai i' j' d' lV
   have:=dh.ne _ _ d d' k1 l1 Rj M7 (hf.inj _ _ b (a4 b jw) (b4 b ck))
   have e1:=(qC (i:=i) k2).1
   have e2:=(qC (i:=i) k2).2
   rw[this,(qC l2).1]at e1
   rw[this,(qC l2).2]at e2
   rw[e1,e2])
  (fun b hb=>.inr fun h=>kC h) (fun b h=>(kC h).elim)
 refine⟨h',m1,m2,rfl,fun b hb=>?_⟩
 rcases m3 b hb with h1|h1|⟨s,d,s1,s2,_,s4⟩
 ·exact(kC h1).elim
 ·simp[v',cS]at h1;exact .inl (by omega)
 ·obtain⟨i,j,rfl⟩:=el s d s1
  obtain⟨_,_,a3,a4⟩:=sub i j d s1 s2
  exact .inr ⟨_,a3,a4 b s4⟩
theorem zX(hT:fh P T){t len:Nat}{parts:Array (Nat×Operand)}{l:List (Nat×AV)}{cs:List AV}
 (hg:b8 ρ ops o.guard=some gd) (ho:o.op=.buildSlice t len parts) (hn:∀i,nx<=i->κ i=.none)
 (cw:(nth T t).ok=true) (gB:(nth T t).isSl=true) (vK:(nth T (nth T t).elem).ok=true) (dc:0<(nth T (nth T t).elem).size) (acf:len*(nth T (nth T t).elem).size<16777216)
 (hp:og ρ κ gd parts.toList l)
 (lT:qV (fun i=>some (i*(nth T (nth T t).elem).size,(nth T (nth T t).elem).size)) ((List.replicate len (eV (nth T (nth T t).elem).zero)).flatten) l=some cs)
 (cH:b9 cs=true)
 (hk:(match EW κ cs with
       |some (ds,ids)=>∃xs:List DV,xs.length=len/\lM ds (xs.flatMap DV.cells)/\(∀x,x∈xs->x.cells.length=(nth T (nth T t).elem).size)/\
        yd n o gd nx k (.dv (.sl (nth T (nth T t).elem).size xs)) (kV κ ids) ids
       |none=>False)\/
       (match sL κ cs with
       |some (ds,ids)=>bif gy ids then ∃xs:List DV,xs.length=len/\mr ds (xs.flatMap DV.cells)/\(∀x,x∈xs->x.cells.length=(nth T (nth T t).elem).size)/\
        dM n o (nx+1) k (.own nx 0 0 []) ((nx,.tree 0 0 (.aC (nth T (nth T t).elem).size xs))::fa ids) (nx::ids)else False
       |none=>False)\/
       dM n o (nx+1) k (.sle nx len) [(nx,.cells cs)] [nx]):Good P C ops n o nx ρ κ k:=by
 obtain⟨ti,u,zz,tf⟩:=hT.facts cw
 obtain⟨te,ue,ze,iY⟩:=hT.facts vK
 have dS:∀c,o.op≠.defer c:=fun c=>by grind
 have Yq:ze.cells.size=(nth T (nth T t).elem).size:=by
  have:=(ec (M:=fun _=>none) iY.zc).1.1
  rw[iY.zl]at this;rw[iY.size];grind
 have core:∀ρ' κ',(∀t,t∈o.looksAt ops.toArray->ρ' t=ρ t)->(∀i,i∈j4 ρ κ o->κ' i=κ i)->∀(g:dW) (a:Act) (w:World) (G:Gh),cx g n ρ' κ' a w G->gd=true->
  ∃c,cd G cs c.toList/\(execOp a.eval o).run P w=.ok (.value (.slice (some ⟨w.heap.size,0,none⟩) len len)) (w.alloc (.cells c (nth T t).elem)):=by
  intro ρ' κ' j5 lV g a w G ak aV
  have ax:DX ops o ρ ρ' κ κ' [] []:=⟨j5,lV,by simp,by simp⟩
  have H4:=fun p Xc=>ax.op (by
   rw[ho]
   simp only[Op.operands,List.mem_toArray,acL]
   exact⟨p,Xc,rfl⟩)
  obtain⟨hz,_⟩:=zB G iY
  obtain⟨c,h3,h4⟩:=r8 _ l _ _ cs _ (hp.rel ak aV H4) (M0 hz (by grind) len) lT
  refine⟨c,h4,?_⟩
  have Vg:¬(len*te.size>2^24):=by rw[<-iY.size];omega
  have hzt:ze.cells.size=te.size:=by rw[Yq,iY.size]
  have abX:Instr.fill (fun i=>some (i*te.size,te.size)) ((Array.range (len*te.size)).map (ze.cells[·%ze.cells.size]!)) (parts.map fun p=>(p.1,a.eval p.2)).toList=some c:=by
   simp_all
  by_cases h0:len*te.size=0
  ·have abN:Instr.fill (fun i=>some (i*te.size,te.size)) ((Array.range (len*te.size)).map ((#[])[·%(#[]:Array Value).size]!)) (parts.map fun p=>(p.1,a.eval p.2)).toList=some c:=by
    grind
   simp only[execOp,ho,Instr.buildSlice,Sem.run_bind,run_underlying (tf.slice gB),Result.andThen_ok,jV iY.info,if_neg Vg,if_pos h0,Sem.run_pure]
   simp_all [mc]
  ·simp only[execOp,ho,Instr.buildSlice,Sem.run_bind,run_underlying (tf.slice gB),Result.andThen_ok,jV iY.info,if_neg Vg,if_neg h0,Sem.run_pure,iY.tB w]
   simp_all [mc]
 rcases hk with hk|hk|hk
 ·split at hk
  ·rename_i ds ids zM
   obtain⟨xs,Tm,hle,xg,hk⟩:=hk
   refine QF dS hg hk (acN _) (fun p hp=>tR hn hp) fun ρ' κ' ax g a w G dF ak aV=>?_
   obtain⟨c,h4,bE⟩:=core ρ' κ' ax.bV ax.rows g a w G ak aV
   obtain⟨G1,f1,f2,f3,f4,f5⟩:=ak.qd ids ax.reads
   have hrel:=hle.RS (r9 ax.reads f1 f5.fit zM (fun i hi=>hi) h4)
   have FP:=by
    have:=hrel.1
    rw[p7 xg,Tm]at this
    simpa using this.symm
   let M2:=fun b=>if b=w.heap.size then some (.cells c (nth T t).elem)else G1.M b
   have UR:M2 w.heap.size=some (.cells c (nth T t).elem):=if_pos rfl
   have aaN:Mem.Le G1.M M2:=fun b ob eB=>by
    have:b≠w.heap.size:=fun e=>by rw[e,f5.fit.sub.sx (acN _)]at eB;grind
    grind
   obtain⟨g1,g2⟩:=f5.grown ((Below.refl w.heap.size w).alloc (acN _) (.cells c (nth T t).elem)) aaN (fun b ob eB=>by
    by_cases e:b=w.heap.size
    ·grind [cD]
    ·have:M2 b=G1.M b:=if_neg e
     rw[this]at eB;exact f5.fit.sub.alloc _ b ob eB) (fun b eB=>if_neg (by omega))
   refine⟨_,_,_,.inl bE,g1,.dv ?_⟩
   rw[<-Tm]
   refine .sl _ xs ⟨w.heap.size,0,none⟩ xs.length (fun i j=>c.getD (i*(nth T (nth T t).elem).size+j) undef) (acN _) (fun x hx=>⟨xg x hx,fun d hd=>(rj hrel (h4.cV cH)) d (List.mem_flatMap.2 ⟨x,hx,hd⟩)⟩) (fun i j hi hj=>?_) (fun i x j d hx hd=>?_)
   ·simp_all [eN,Nat.zero_add,Mem.cell?,pY,acu]
   ·have hj:j<(nth T (nth T t).elem).size:=by grind
    have NT:=pY ((aci.1 hx).1) hj
    rw[Tm]at NT
    have:=hrel.2 _ d (c.getD (i*(nth T (nth T t).elem).size+j) undef) (by rwa[zG xg hx hj]) (by simp_all)
    exact this.mono aaN
  grind
 ·split at hk
  ·rename_i ds ids G6
   cases rA:gy ids with
   |false=>rw[rA]at hk;exact hk.elim
   |true=>
   rw[rA]at hk
   obtain⟨xs,Tm,hle,xg,hk⟩:=hk
   have RA:nx∉ids:=fun hm=>by have:=zF hn (nj G6 nx hm);omega
   refine c7 dS hg hk (by omega) (fun q hq=>by
    rcases acp.1 hq with rfl|hq
    ·simp
    ·have:=zF hn (nj G6 _ (u6 hq));omega) fun ρ' κ' ax g a w G dF ak aV=>?_
   obtain⟨c,h4,bE⟩:=core ρ' κ' ax.bV ax.rows g a w G ak aV
   obtain⟨hs,id,dh⟩:=oh ak.fit G6 rA (fun j hj=>ax.reads j (by simp[hj])) h4
   obtain⟨wF,dL⟩:=dh.le hle (h4.cV cH)
   obtain⟨h',t1,t2,t3,t4⟩:=Rq (w':=w.alloc (.cells c (nth T t).elem)) ak.fit wF dL xg rfl (cD w _) (fun b hb=>bu w _ hb)
   obtain⟨G',g1,g2,g3,g4⟩:=ak.qD (κ':=aB κ' ((nx,.tree 0 0 (.aC (nth T (nth T t).elem).size xs))::fa ids)) (fun j=>j∈ids) h' RA ((ax.reads nx (by simp)).trans (hn nx (acN _))) (fun j hj=>by simp only[aB];rw[ah _ _ (by grind),c5,if_pos hj]) (by simp[aB]) (fun j h1 h2=>by simp only[aB];rw[ah _ _ h1,c5,if_neg h2]) t1 t2 t4 (fun b hb _=>bu w _ hb) (by simp) rfl rfl rfl
   rw[Tm]at t3
   exact⟨_,_,G',.inl bE,g4,.own _ _ _ _ _ ((g3 []).trans t3) rfl⟩
  ·exact hk.elim
 ·refine c7 dS hg hk (by omega) (by simp) fun ρ' κ' ax g a w G dF ak aV=>?_
  obtain⟨c,h4,bE⟩:=core ρ' κ' ax.bV ax.rows g a w G ak aV
  obtain⟨G',h1,h2,h3⟩:=ak.xk ((ax.reads nx (by simp)).trans (hn nx (acN _))) dF (nth T t).elem h4 (fO cH)
  exact⟨_,_,G',.inl bE,h2,.sle nx len _ h3⟩
end
end
section
open Go.RowKit
variable [cn]
theorem gA.map{P:Program}{t:Nat}{ti:TI}{i:TypeInfo}{u:TypeDesc}{z:Value}(h:gA P t ti i u z)(hs:ti.kind=6):P.underlying t=some (.map ti.key ti.elem):=by
 have h1:=h.kind
 have h2:=h.elem
 have h3:=h.key
 rw[hs]at h1
 cases u<;>simp[kindOf]at h1<;>simp[Pt]at h2<;>simp[keyOf]at h3
 rw[h.Cq,h2,h3]
theorem eD{M:Mem}{d:DV}{u v:Value}(h:d.val?=some u)(r:bq M d v):v=u:=by
 cases r<;>simp[DV.val?]at h<;>exact h
theorem K6{M:Mem}:∀{l:List DV} {us vs:List Value},DV.gV l=some us->fG M l vs->vs=us
 |[],us,vs,h,r=>by simp[DV.gV]at h;subst h;have:=r.1;grind
 |d::l,us,vs,h,r=>by
  simp[DV.gV]at h
  split at h
  ·rename_i u us' h1 h2
   simp[Option.some.injEq]at h
   subst h
   match vs,r with
   |[],r=>have:=r.1;grind
   |v::vs,r=>
    rw[eD h1 (r.2 0 d v rfl rfl),K6 h2 (vs:=vs) ⟨by simpa using r.1,fun j e y he hy=>r.2 (j+1) e y (by grind) (by grind)⟩]
  grind
theorem DR{G:Gh}{d:DV}{u v:Value}(h:bT d=some u)(r:aG G (cF d) v):v=u:=by
 cases d with
 |agg l=>
  simp[bT]at h
  split at h
  ·rename_i vs K7
   simp[Option.some.injEq]at h
   subst h
   simp[cF]at r
   cases r with
   |agg _ us hl hr=>
    have:=K6 K7 ⟨by simpa[oc]using hl,fun j e y he hy=>by
     have h1:=hr j (.dv e) y (by grind [rV]) hy
     cases h1 with|dv h1=>omega⟩
    grind
  grind
 |_=>simp[bT]at h;simp[cF]at r;cases r with|dv r=>exact eD h r
theorem DT{P:Program}{M:Mem}{w:World}{hc:PS->Option Value}{ks:KS}{m:List DV}{es:Array MapEntry}{kt:Nat}(bz:es.size=m.length)(dS:(es.toList.map (·.key)).Nodup)
 (bN:∀(j:Nat) (e:MapEntry),es[j]?=some e->∃k x,m[j]?=some (.fF k x)/\bT k=some e.key/\ks.ok k=true/\gw e.val=x.isAgg/\e.val.cells.size=x.cells.length/\
     ∀(q:Nat) (d:DV),x.cells[q]?=some d->d.aj=true/\∃u,e.val.cells[q]?=some u/\dD M (hc (.key k q)) d u)
 (hK:uc P kt ks) {key:DV} {u:Value} (cw:ks.ok key=true) (hu:bT key=some u):
 (bY m key=none/\(Instr.findKey kt u es.toList).run P w=.ok none w/\∀e,e∈es.toList->e.key≠u)\/
 ∃(j:Nat) (x:DV) (e:MapEntry),m[j]?=some (.fF key x)/\bY m key=some x/\es[j]?=some e/\e.key=u/\(Instr.findKey kt u es.toList).run P w=.ok (some (j,e.val)) w:=by
 have aaO:=qP dS (by simpa using bz) (fun j v hj=>by
  grind)
 rcases hK.find w u ⟨key,cw,hu⟩ es.toList (fun e he=>by
  grind [List.getElem?_of_mem])with⟨h1,h2⟩|⟨j,e,h1,h2,h3⟩
 ·left
  refine⟨?_,h1,h2⟩
  cases hg:bY m key with
  |none=>rfl
  |some x=>
   have:∃(j:Nat),m[j]?=some (.fF key x):=by obtain⟨j,h,_⟩:=lz x hg;grind
   obtain⟨j,hj⟩:=this
   have AI:j<es.size:=by grind
   obtain⟨k,x',h4,h5,_⟩:=bN j es[j] (acT AI)
   grind
 ·right
  have he:=by simpa using h2
  obtain⟨k,x,h4,h5,h6,_⟩:=bN j e he
  have:=key_inj h5 (h3▸hu)
  subst this
  exact⟨j,x,e,h4,aaO k x (ack h4),he,h3,h1⟩
section
variable {P:Program} {C:dW->Prop} {T:List TI} {ops:List Oper} {n:Nat} {o:Oper} {nx:Nat} {ρ:Nat->AV} {κ:Nat->au} {k:lN->Nat->Prop} {gd:Bool}
theorem Hn{t:Nat}{s:KS}(hg:b8 ρ ops o.guard=some gd)(ho:o.op=.makeMap t none)(p5:κ nx=.none)
 (hk:dM n o (nx+1) k (.own nx 0 0 []) [(nx,.tree 0 0 (.omap s []))] [nx]):Good P C ops n o nx ρ κ k:=by
 refine c7 (fun c=>by grind) hg hk (by omega) (by simp) fun ρ' κ' ax g a w G dF ak aV=>?_
 have only:∀p m,get (.omap s []) p=some m->p=[]/\m=.omap s []:=by
  intro p m h
  cases p with
  |nil=>simp[get]at h;grind
  |cons q p=>cases q<;>simp[get,step,bY]at h
 obtain⟨G',g1,g2,g3,g4⟩:=ak.qD (κ':=aB κ' [(nx,.tree 0 0 (.omap s []))]) (d:=.omap s []) (fun _=>False) (fun p=>if p=[]then some (.map (some w.heap.size))else none) (fun h=>h) ((ax.reads nx (by simp)).trans p5) (fun _ h=>h.elim) (by simp[aB]) (fun j hj _=>by simp[aB,ah _ _ hj])
  ⟨rfl,fun p m hp _=>by
   obtain⟨rfl,rfl⟩:=only p m hp
   exact⟨_,by simp,rfl,[],.refl _,w.heap.size,#[],0,rfl,cD w _,rfl,MapKept.stamped_empty 0,by simp,by simp⟩⟩
  (fun p q m m' u v b e1 _ _ _ f1 _ _ _=>by grind)
  (fun b ⟨p,m,v,h1,h2,h3,h4⟩=>by
   obtain⟨rfl,rfl⟩:=only p m h1
   grind [cS])
  (fun b hb _=>bu w _ hb) (by simp) rfl rfl rfl
 exact⟨.map (some w.heap.size),_,G',.inl (by simp[execOp,ho,Instr.makeMap]),g4,.own _ _ _ _ _ ((g3 []).trans (by simp)) rfl⟩
theorem Em(hT:fh P T){t:Nat}{x:Operand}{kd:IntKind}{m:Int}{s:KS}(hg:b8 ρ ops o.guard=some gd)(ho:o.op=.makeMap t (some x))(cw:(nth T t).ok=true)(Ej:(nth T t).kind=6)(p5:κ nx=.none)
 (hk:dM n o (nx+1) k (.own nx 0 0 []) [(nx,.tree 0 0 (.omap s []))] [nx]) (bR:bJ ρ κ gd x (.dv (.int kd m))):Good P C ops n o nx ρ κ k:=by
 obtain⟨ti,u,z,tf⟩:=hT.facts cw
 obtain⟨kt,et,rfl⟩:∃kt et,u=.map kt et:=by
  have h1:=tf.kind
  rw[Ej]at h1
  cases u<;>simp[kindOf]at h1
  grind
 refine c7 (fun c=>by grind) hg hk (by omega) (by simp) fun ρ' κ' ax g a w G dF ak aV=>?_
 have hv:=bR ρ' κ' (ax.op (by grind [Op.operands])) g n a w G ak aV
 generalize hx:a.eval x=v at hv
 cases hv with|dv hv=>cases hv with|int=>
 have only:∀p m,get (.omap s []) p=some m->p=[]/\m=.omap s []:=by
  intro p m h
  cases p with
  |nil=>simp[get]at h;grind
  |cons q p=>cases q<;>simp[get,step,bY]at h
 obtain⟨G',g1,g2,g3,g4⟩:=ak.qD (κ':=aB κ' [(nx,.tree 0 0 (.omap s []))]) (d:=.omap s []) (fun _=>False) (fun p=>if p=[]then some (.map (some w.heap.size))else none) (fun h=>h) ((ax.reads nx (by simp)).trans p5) (fun _ h=>h.elim) (by simp[aB]) (fun j hj _=>by simp[aB,ah _ _ hj])
  ⟨rfl,fun p m hp _=>by
   obtain⟨rfl,rfl⟩:=only p m hp
   exact⟨_,by simp,rfl,[],.refl _,w.heap.size,#[],0,rfl,cD w _,rfl,MapKept.stamped_empty 0,by simp,by simp⟩⟩
  (fun p q m m' u v b e1 _ _ _ f1 _ _ _=>by grind)
  (fun b ⟨p,m,v,h1,h2,h3,h4⟩=>by
   obtain⟨rfl,rfl⟩:=only p m h1
   grind [cS])
  (fun b hb _=>bu w _ hb) (by simp) rfl rfl rfl
 exact⟨.map (some w.heap.size),_,G',.inl (by simp[execOp,ho,hx,Instr.makeMap,run_underlying tf.Cq,asInt,asIntOf]),g4,.own _ _ _ _ _ ((g3 []).trans (by simp)) rfl⟩
theorem GU{M:Mem}:∀{l:List DV} {vs:List Value},DV.gV l=some vs->fG M l vs/\∀d,d∈l->d.aj=true
 |[],vs,h=>by simp[DV.gV]at h;subst h;exact⟨.nil _,by simp⟩
 |d::r,vs,h=>by
  simp[DV.gV]at h
  split at h
  ·rename_i v l hv hl
   injection h with h;subst h
   obtain⟨h1,h2⟩:=GU hl
   have hd:bq M d v/\d.aj=true:=by
    cases d<;>simp[DV.val?]at hv<;>subst hv<;>exact⟨by constructor,rfl⟩
   exact⟨.cons hd.1 h1,fun x hx=>by grind⟩
  grind
theorem T9{M:Mem}{k:DV}{v:Value}(h:bT k=some v):bq M k v:=by
 cases k with
 |agg l=>
  simp[bT]at h
  split at h
  ·rename_i vs K7
   injection h with h;subst h
   obtain⟨h1,h2⟩:=GU K7
   exact .agg l vs h1.1 h2 h1.2
  grind
 |_=>simp only[bT,DV.val?]at h<;>first|(injection h with h;subst h;constructor)|grind
theorem Ua{M:Mem}{x:DV}{u:Value}{hc:Nat->Option Value}(ha:gw u=x.isAgg)(hs:u.cells.size=x.cells.length)(om:x.aU)
 (h:∀(q:Nat) (d:DV),x.cells[q]?=some d->d.aj=true/\∃v,u.cells[q]?=some v/\dD M (hc q) d v):bq M x u:=by
 have one:∀(q:Nat) (d:DV),x.cells[q]?=some d->d.aj=true/\∃v,u.cells[q]?=some v/\bq M d v:=fun q d hd=>by
  obtain⟨h1,v,h2,h3⟩:=h q d hd
  rcases h3 with⟨h3,_⟩|⟨_,h3⟩
  ·rw[om d (ack hd)]at h3;grind
  grind
 cases hx:x with
 |agg l=>
  subst hx
  cases u<;>simp[gw,DV.isAgg]at ha
  rename_i cs
  have:=bq.agg l cs.toList (by grind [Value.cells,DV.cells]) (fun d hd=>by
   obtain⟨q,hq⟩:=acF hd
   exact(one q d hq).1) (fun q d v hd hv=>by
   obtain⟨_,v',h2,h3⟩:=one q d hd
   simp[Value.cells]at h2
   rw[<-Array.getElem?_toList]at h2
   rw[hv]at h2;injection h2 with h2;subst h2;omega)
  simp_all
 |_=>
  obtain⟨_,v,h2,h3⟩:=one 0 x (by rw[hx];rfl)
  rw[<-hx]
  rw[hx]at ha
  cases u<;>simp[gw,DV.isAgg]at ha<;>(simp[Value.cells]at h2;subst h2;exact h3)
theorem NB(hT:fh P T){t j ver ep:Nat}{x:Operand}{p:List PS}{d:DV}{s:KS}{m:List DV}(hg:b8 ρ ops o.guard=some gd)(ho:o.op=.range t x)(cw:(nth T t).ok=true)(Ej:(nth T t).kind=6)(p5:κ nx=.none)(hj:κ j=.tree 0 0 d)(hjx:j<nx)
 (QD:ver=0) (eW:p=[]\/ep=0) (dS:get d p=some (.omap s m)) (hk:dM n o (nx+1) k (.ptr nx 0) [(nx,.kR j p d m none),(j,.held)] [nx,j]) (bR:bJ ρ κ gd x (.own j ver ep p)):Good P C ops n o nx ρ κ k:=by
 subst QD
 obtain⟨ti,u,z,tf⟩:=hT.facts cw
 obtain⟨kt,et,rfl⟩:∃kt et,u=.map kt et:=by
  have h1:=tf.kind
  rw[Ej]at h1
  cases u<;>simp[kindOf]at h1
  grind
 refine c7 (fun c=>by grind) hg hk (by omega) (by grind) fun ρ' κ' ax g a w G dF ak aV=>?_
 have eZ:=(ax.reads nx (by simp)).trans p5
 have zL:=(ax.reads j (by simp)).trans hj
 have cC:nx≠j:=fun e=>by grind
 have hv:=bR ρ' κ' (ax.op (by grind [Op.operands])) g n a w G ak aV
 have hb:=ak.fit.box j
 rw[zL]at hb
 obtain⟨EH,gH,En,Aj⟩:=hb
 have Hw:=ak.fit.box nx
 rw[eZ]at Hw
 generalize hx:a.eval x=v at hv
 cases hv with|own _ _ _ _ _ hh hc=>
 have hh:aJ G.H j 0 0 p=some v:=by
  rcases eW with rfl|rfl
  ·exact hh
  grind
 obtain⟨v',nr,_,bn⟩:=EH.2 p _ dS rfl
 rw[hh]at nr;injection nr with nr;subst nr
 obtain⟨m0,wG,mb,es,clock,rfl,oM,bz,rz,rA,NU⟩:=bn
 let G':={ G with β:=iW G.β nx (some w.heap.size) }
 have hle:Gh.Le G G':=⟨Mem.Le.refl _,fun i b eB=>by
  by_cases e:i=nx
  ·subst e;rw[Hw.1]at eB;grind
  grind [iW,ah],fun _ _ _ _ _ q=>q⟩
 have aaP:cx g n ρ' (aB κ' [(nx,.kR j p d m none),(j,.held)]) a (w.alloc (.mapIter (some mb) clock #[] clock)) G':=by
  refine ak.sw (C:=fun i=>i=nx\/i=j) ⟨hle,fun _ _=>rfl,fun i hi=>?_,fun i hi=>⟨fun y hy=>?_,fun _ _ _ _ q=>q⟩,fun b eB _=>⟨bu _ _ eB,rfl⟩,ak.fit.sub.alloc _,?_,?_,?_,by simp,rfl,rfl,rfl⟩ (fun i hi=>?_)
  ·simp_all [aB,ah]
  ·grind [iW,ah]
  ·rintro i (rfl|rfl)
   ·simp only[aB,bD]
    refine⟨w.heap.size,mb,es,clock,#[],s,m,by simp[G'],cD _ _,EH.jX (Mem.Le.refl _) (fun b eB=>bu _ _ (cA.lt ak.fit (by rwa[zL]))) (fun _ _ _ _ _ hq=>hq),gH,dS,hh,by grind [bu,Array.getElem?_eq_some_iff],?_,tv⟩
    have LZ:=UK.al bz rA fun j e he=>by grind
    refine⟨LZ.perm wG,fun k x hm=>⟨hm,?_⟩,fun i e he _=>?_⟩
    ·obtain⟨i,hi⟩:=acF (wG.mem_iff.2 hm)
     have Fs:i<es.size:=by grind
     obtain⟨k1,x1,h1,h2,_⟩:=NU i _ (acT Fs)
     rw[hi]at h1;injection h1 with h1;injection h1 with e1 e2;subst e1
     exact⟨i,_,acT Fs,by simp,h2⟩
    grind
   ·simp only[aB]
    rw[ah _ _ (fun e=>cC e.symm),bD]
    exact⟨En,Aj⟩
  ·rintro i b (rfl|rfl) Vh
   ·simp[aB,bD]at Vh
    rcases Vh with Vh|Vh
    ·have:cA G j (κ' j) b:=by rwa[zL]
     exact⟨.inr ⟨j,.inr rfl,this⟩,ak.fit.own j b this⟩
    ·have:iW G.β i (some w.heap.size) i=some b:=Vh
     rw[bD]at this;injection this with this;subst this
     exact⟨.inl (acN _),ak.fit.sub.sx (acN _)⟩
   ·simp only[aB]at Vh
    rw[ah _ _ (fun e=>cC e.symm),bD]at Vh
    exact Vh.elim
  ·rintro i i' b (rfl|rfl) (rfl|rfl) h1 h2
   ·rfl
   ·simp only[aB]at h2
    rw[ah _ _ (fun e=>cC e.symm),bD]at h2
    exact h2.elim
   ·simp only[aB]at h1
    rw[ah _ _ (fun e=>cC e.symm),bD]at h1
    exact h1.elim
   grind
  ·grind [iW,ah]
 refine⟨.pointer (some ⟨w.heap.size,0,none⟩),_,G',.inl ?_,aaP,.ptr nx 0 _ (by simp[G'])⟩
 simp[execOp,ho,hx,Instr.range,run_underlying tf.Cq,MapKept.run_getObj_map oM,run_newObj]
theorem NC{x:Operand}{i j:Nat}{p:List PS}{d key val:DV}{left:List DV}(hg:b8 ρ ops o.guard=some gd)(ho:o.op=.entry x)(hi:κ i=.kR j p d left (some (.fF key val)))(om:val.aU)
 (hk:aY n o gd nx k (.fY [cF key,cF val]) [i]) (bR:bJ ρ κ gd x (.ptr i 0)):Good P C ops n o nx ρ κ k:=by
 refine bC (fun c=>by grind) hg hk fun ρ' κ' ax g a w G ak aV=>?_
 have hv:=bR ρ' κ' (ax.op (by grind [Op.operands])) g n a w G ak aV
 have hb:=ak.fit.box i
 rw[((ax.reads i (by simp)).trans hi)]at hb
 obtain⟨r,mb,es,clock,seen,ks,m,lO⟩:=hb
 generalize hx:a.eval x=v at hv
 cases hv with|ptr _ _ b Cm=>
 rw[lO.eY]at Cm;injection Cm with Cm;subst Cm
 obtain⟨q,e,Nn,k1,x1,hs,he,tJ,qk,hm1⟩:=lO.cur
 injection tJ with c1 c2;subst c1;subst c2
 obtain⟨u,hu,_,bn⟩:=lO.tree.2 p _ lO.node rfl
 rw[lO.head]at hu;injection hu with hu;subst hu
 have LZ:=cG.uk bn
 obtain⟨m0,wG,mb',xN,mn,e1,oM,bz,rz,rA,NU⟩:=bn
 injection e1 with e1;injection e1 with e1;subst e1
 rw[lO.map]at oM;injection oM with oM;injection oM with h1 h2;subst h1;subst h2
 obtain⟨k0,x0,g1,g2,g3,g4,g5,g6⟩:=NU q e he
 have e2:=key_inj g2 qk
 subst e2
 have e3:=LZ.Vl (wG.mem_iff.1 (ack g1)) hm1
 subst e3
 have hr:=lO.it
 rw[hs]at hr
 refine⟨.tuple #[e.key,e.val],?_,?_⟩
 ·have:=run_entry_at (P:=P) w r mb clock Nn es clock e hr lO.map (by grind) rz.2.1
  simp_all [execOp]
 ·refine .fY _ [e.key,e.val] rfl fun q d v hd hv=>?_
  match q,hd,hv with
  |0,hd,hv=>grind [qi,T9]
  |1,hd,hv=>simp at hd hv;subst hd;subst hv;exact(qi (Ua g4 g5 om g6))
  |q+2,hd,hv=>simp at hd
theorem GV{a:Bool}{l:List DV}(h:∀d,d∈l->d.aj=true):(jc a l).cells=l:=by
 unfold jc
 split
 ·rename_i d
  have:=h d (by simp)
  cases d<;>first|rfl|cases this
 rfl
theorem BP{G:Gh}{agg:Bool}{l:List AV}{v:Value}(hr:cd G l v.cells.toList)(ax:gw v=agg):aG G (gi.qU agg l) v:=by
 cases agg with
 |true=>
  have:gi.qU true l=.agg l:=by cases l with
   |nil=>rfl
   |cons d r=>rfl
  rw[this]
  cases v with
  |agg cs=>have:=aG.agg l cs.toList hr.1 hr.2;simp_all
  |_=>cases ax
 |false=>
  have hc:v.cells.toList=[v]:=by cases v<;>first|rfl|cases ax
  rw[hc]at hr
  match l,hr with
  |[],hr=>have:=hr.1;grind
  |[d],hr=>exact hr.2 0 d v rfl rfl
  |_::_::_,hr=>have:=hr.1;grind
theorem Lc(hT:fh P T){t:Nat}{x i:Operand}{c:Bool}{v kv:AV}(hg:b8 ρ ops o.guard=some gd)(ho:o.op=.lookup t x i c)
 (cw:(nth T t).ok=true) (Ej:(nth T t).kind=6) (hoe:(nth T (nth T t).elem).ok=true) (hx:bJ ρ κ gd x v) (hi:bJ ρ κ gd i kv)
 (h:gi P (nth T t) (nth T (nth T t).elem) κ gd v kv c fun r rd=>aY n o gd nx k r rd):Good P C ops n o nx ρ κ k:=by
 obtain⟨ti,ui,zi,tf⟩:=hT.facts cw
 obtain⟨tj,uj,zj,te⟩:=hT.facts hoe
 have GW:=tf.map Ej
 unfold gi at h
 split at h
 ·rename_i j ver ep p
  split at h
  ·rename_i bo cb d gr
   cases hb:Nat.beq ver bo&&(emp p||Nat.beq ep cb)with
   |false=>grind
   |true=>
   rw[hb]at h
   simp only[cond_true]at h
   obtain⟨rfl,eW⟩:=dB hb
   obtain⟨nd,h,dS⟩:=bX h
   cases nd with
   |omap ks m=>
    obtain⟨hK,key,rfl,DU,y,b,Vi,hz,hya,h⟩:=h
    rw[(gh (SizeOf.sizeOf (bif c then AV.fY [gi.qU (nth T (nth T t).elem).agg (lk j ver cb p key 0 y.cells),.dv (.bool b)]else gi.qU (nth T (nth T t).elem).agg (lk j ver cb p key 0 y.cells))+1)).1 _ _ (by omega)]at h
    refine bC (fun c=>by grind) hg h fun ρ' κ' ax g a w G ak aV=>?_
    have hv:=hx ρ' κ' (ax.op (by grind [Op.operands])) g n a w G ak aV
    have hkv:=hi ρ' κ' (ax.op (by grind [Op.operands])) g n a w G ak aV
    obtain⟨u,hu⟩:=DU |> KS.val
    have he:=ax.reads j (by simp)
    obtain⟨vv,wc,_,bn⟩:=ak.fit.node (he.trans gr) (dS aV) rfl
    obtain⟨m0,wG,gb,es,clock,rfl,hw,bz,DW,p9,bN⟩:=bn
    have LZ:=UK.al bz p9 fun j e he=>by grind
    have hgp:=LZ.mD wG key
    have xg:a.eval x=.map (some gb):=by
     generalize a.eval x=q at hv
     cases hv with|own _ _ _ _ _ hh hc=>grind [cW]
    have qX:=hK.check w es.isEmpty u ⟨key,DU,hu⟩
    have Vi:=Vi aV
    have bE:∀(val:Value) (bb:Bool),((Instr.findKey (nth T t).key u es.toList).run P w=.ok none w/\val=zj/\bb=false\/∃q,(Instr.findKey (nth T t).key u es.toList).run P w=.ok (some (q,val)) w/\bb=true)->
     (execOp a.eval o).run P w=.ok (.value (bif c then .tuple #[val,.bool bb]else val)) w:=by
     intro val bb hh
     have hlk:(Instr.lookup t (.map (some gb)) u c).run P w=.ok (bif c then .tuple #[val,.bool bb]else val) w:=by
      rcases hh with⟨h1,rfl,rfl⟩|⟨q,h1,rfl⟩
      ·simp only[Instr.lookup,Sem.run_bind,run_underlying GW,Result.andThen_ok,MapKept.run_getObj_map hw,Sem.run_pure,qX,h1,te.tB w]
       grind
      ·simp only[Instr.lookup,Sem.run_bind,run_underlying GW,Result.andThen_ok,MapKept.run_getObj_map hw,Sem.run_pure,qX,h1]
       grind
     grind [execOp,DR,Sem.run_bind,Result.andThen_ok,Sem.run_pure]
    have fin:∀(av:AV) (val:Value) (bb:Bool),aG G av val->aG G (bif c then .fY [av,.dv (.bool bb)]else av) (bif c then .tuple #[val,.bool bb]else val):=by
     intro av val bb h1
     cases c with
     |false=>grind
     |true=>
      refine .fY [av,.dv (.bool bb)] [val,.bool bb] rfl fun j d v hd hv=>?_
      cases j with
      |zero=>simp at hd hv;subst hd;subst hv;exact h1
      |succ j=>cases j with
       |zero=>simp at hd hv;subst hd;subst hv;exact .dv (.bool bb)
       |succ j=>simp at hd
    rcases DT (hc:=fun s=>aJ G.H j ver cb (p++[s])) bz p9 bN hK DU hu with⟨Ha,hf,_⟩|⟨q,y',e,hq,Ha,YI,Ys,hf⟩
    ·rw[hgp]at Ha
     rw[Ha]at Vi
     cases b with
     |true=>cases Vi
     |false=>
      refine⟨_,bE zj false (.inl ⟨hf,rfl,rfl⟩),fin _ zj false (BP ?_ ?_)⟩
      ·have XO:=zB G te
       have hyc:y.cells=(nth T (nth T t).elem).zero:=by
        rw[(hz rfl)];exact GV fun d hd=>((ec (M:=G.M) te.zc).2 d hd).1
       rw[hyc]
       refine⟨by rw[oe];simpa[oc]using XO.1.1,fun jj dd vv hd hv=>?_⟩
       obtain⟨d0,e1,rfl⟩:=zr hd
       have ho0:=(((ec (M:=G.M) te.zc).2) d0 (ack e1)).2
       simp only[vF,ho0,cond_false]
       exact XO.1.2 jj (.dv d0) vv (by rw[rV,acj,e1];rfl) hv
      ·rw[te.dp,te.agg]
    ·rw[hgp]at Ha
     rw[Ha]at Vi
     cases b with
     |false=>cases Vi
     |true=>
      simp only[cond_true,Option.some.injEq]at Vi
      subst Vi
      obtain⟨k',x',h1,h2,_,h3,h4,h5⟩:=bN q e YI
      rw[hq]at h1;injection h1 with h1;injection h1 with e1 e2;subst e1;subst e2
      refine⟨_,bE e.val true (.inr ⟨q,hf,rfl⟩),fin _ e.val true (BP ?_ (by rw[h3,hya]))⟩
      refine⟨by rw[oe];simpa using h4.symm,fun jj dd vv hd hv=>?_⟩
      obtain⟨d0,e1,rfl⟩:=zr hd
      obtain⟨b1,u',b2,b3⟩:=h5 jj d0 e1
      have:vv=u':=by have nr:=by simpa using hv
                     rw[b2]at nr;injection nr with nr;exact nr.symm
      subst this
      rw[Nat.zero_add]
      refine zp b1 b3 fun CT=>?_
      rcases b3 with⟨_,b3⟩|⟨b3,_⟩
      ·obtain⟨w2,c1,c2,_⟩:=ak.fit.node (he.trans gr) (p:=p++[.key key jj]) (by rw[get_append,dS aV];simp only[get,step,Ha,e1]) CT
       grind
      ·rw[CT]at b3;cases b3
   |_=>exact h.elim
  ·grind
 ·exact h.elim
end
end
end Go.TM
