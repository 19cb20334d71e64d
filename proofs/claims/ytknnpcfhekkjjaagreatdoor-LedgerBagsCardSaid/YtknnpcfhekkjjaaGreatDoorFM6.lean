import Derived.Test.YtknnpcfhekkjjaaGreatDoorFM5
set_option linter.all false
namespace Go.TM
set_option maxHeartbeats 1000000
section
open Go.RowKit
variable [cn]
theorem qn{i j sz:Nat}(hj:j<sz):(i*sz+j)/sz=i/\(i*sz+j)%sz=j:=by
 have dq:0<sz:=by omega
 constructor
 ·rw[Nat.mul_comm,Nat.mul_add_div dq,Nat.div_eq_of_lt hj];omega
 ·rw[Nat.mul_comm,Nat.mul_add_mod,Nat.mod_eq_of_lt hj]
theorem oO{i j n sz:Nat}(hi:i<n)(hj:j<sz):i*sz+j<n*sz:=by
 have:(i+1)*sz<=n*sz:=acd _ hi
 rw[Nat.add_mul]at this
 omega
def wO(w:World)(v:Value)(sz:Nat)(l:List DV)(R:Nat->Nat->DV->Value->Prop):Prop:=
 (l=[]/\v=.slice none 0 0)\/
 ∃g o cap c t,v=.slice (some ⟨g,o,none⟩) l.length cap/\l.length<=cap/\w.heap[g]?=some (.cells c t (0,0))/\o+cap*sz<=c.size/\
  ∀(i:Nat) (x:DV),l[i]?=some x->x.cells.length=sz/\∀(j:Nat) (d:DV),x.cells[j]?=some d->d.aj=true/\∃u,c[o+i*sz+j]?=some u/\R i j d u
theorem eP{M:Mem}{w:World}{v:Value}{hc:PS->Option Value}{sz:Nat}{l:List DV}:cD M w v hc (.aB sz l)↔wO w v sz l fun i j d u=>dF M (hc (.el i j)) d u:=Iff.rfl
def r5(w:World)(v:Value)(sz:Nat)(l:List DV)(S:Nat->Nat->DV->Value->Prop):Prop:=
 (∃c,v=.slice none 0 c/\l=[])\/
 ∃(A:Addr) (cap:Nat) (cell:Nat->Nat->Value),v=.slice (some A) l.length cap/\∀(i:Nat) (x:DV),l[i]?=some x->x.cells.length=sz/\
  ∀(j:Nat) (d:DV),x.cells[j]?=some d->d.aj=true/\w.cell? (A.add (i*sz+j))=some (cell i j)/\(cell i j).oneCell'=true/\S i j d (cell i j)
section
variable {w:World}
theorem r5.Z0{M:Mem}{sz:Nat}{l:List DV}{v:Value}(dX:M.In w)(h:bu M (.sl sz l) v):r5 w v sz l fun _ _ d u=>bu M d u:=by
 cases h with
 |slnil=>exact .inl ⟨0,rfl,rfl⟩
 |sl _ _ A cap cell dI hlen hc hr=>
  refine .inr ⟨A,cap,cell,rfl,fun i x hx=>?_⟩
  have hm:=hlen x (abK hx)
  refine⟨hm.1,fun j d hd=>⟨hm.2 d (abK hd),dX.cell (hc i j (abI.1 hx).1 ?_),(hr i x j d hx hd).cT (hm.2 d (abK hd)),hr i x j d hx hd⟩⟩
  rw[<-hm.1];exact(abI.1 hd).1
theorem r5.QM{sz:Nat}{l:List DV}{v:Value}{R:Nat->Nat->DV->Value->Prop}(h:wO w v sz l R)(h1:∀i j d u,R i j d u->d.aj=true->u.oneCell'=true):r5 w v sz l R:=by
 rcases h with⟨rfl,rfl⟩|⟨g,o,cap,c,t,rfl,dI,hw,aV,DR⟩
 ·exact .inl ⟨0,rfl,rfl⟩
 ·refine .inr ⟨⟨g,o,none⟩,cap,fun i j=>c.getD (o+i*sz+j) undef,rfl,fun i x hx=>?_⟩
  obtain⟨a1,a2⟩:=DR i x hx
  refine⟨a1,fun j d hd=>?_⟩
  obtain⟨b1,u,hu,hr⟩:=a2 j d hd
  have e:c.getD (o+i*sz+j) undef=u:=by rw[abS,hu];rfl
  refine⟨b1,?_,?_,?_⟩
  ·rw[eO]
   simp only[World.cell?,hw]
   rw[show o+(i*sz+j)=o+i*sz+j by omega,e]
   simpa using hu
  ·show(c.getD (o+i*sz+j) undef).oneCell'=true
   rw[e];exact h1 i j d u hr b1
  ·show R i j d (c.getD (o+i*sz+j) undef)
   rw[e];exact hr
theorem r5.mono{sz:Nat}{l l':List DV}{v:Value}{S S':Nat->Nat->DV->Value->Prop}(h:r5 w v sz l S)(hl:l.length=l'.length)
 (hx:∀(i:Nat) (x y:DV),l[i]?=some x->l'[i]?=some y->x.cells.length=y.cells.length/\∀(j:Nat) (d e:DV) (u:Value),x.cells[j]?=some d->y.cells[j]?=some e->d.aj=true->S i j d u->e.aj=true/\S' i j e u):r5 w v sz l' S':=by
 rcases h with⟨c,rfl,rfl⟩|⟨A,cap,cell,rfl,hh⟩
 ·exact .inl ⟨c,rfl,by simpa using hl.symm⟩
 ·refine .inr ⟨A,cap,cell,by rw[hl],fun i y hy=>?_⟩
  have hi:i<l.length:=by rw[hl];exact(abI.1 hy).1
  obtain⟨a1,a2⟩:=hh i _ (aaj hi)
  obtain⟨b1,b2⟩:=hx i _ y (aaj hi) hy
  refine⟨by omega,fun j e he=>?_⟩
  have hj:j<l[i].cells.length:=by have:=(abI.1 he).1;omega
  obtain⟨c1,c2,c3,c4⟩:=a2 j _ (aaj hj)
  obtain⟨d1,d2⟩:=b2 j _ e _ (aaj hj) he c1 c4
  exact⟨d1,c2,c3,d2⟩
def eB(sz n:Nat)(cell:Nat->Nat->Value):List Value:=(List.range (n*sz)).map fun q=>cell (q/sz) (q%sz)
theorem qE(sz n:Nat)(cell:Nat->Nat->Value):(eB sz n cell).length=n*sz:=by simp[eB]
theorem pW{sz n i j:Nat}(cell:Nat->Nat->Value)(hi:i<n)(hj:j<sz):(eB sz n cell)[i*sz+j]?=some (cell i j):=by
 have h:=oO hi hj
 obtain⟨h1,h2⟩:=qn (i:=i) hj
 simp[eB,h,h1,h2]
theorem vh{P:Program}(t ty e:TypeId)(i:TypeInfo)(ht:P.underlying t=some (.slice e))(hi:P.info? e=some i)
 (g o IV WK:Nat) (cur:Array Value) (tt:TypeId) (hg:w.heap[g]?=some (.cells cur tt (0,0)))
 (a:Addr) (m c:Nat) (news:List Value) (hl:news.length=m*i.size) (BR:∀j u,news[j]?=some u->w.cell? (a.add j)=some u) (h1:∀u∈news,u.oneCell'=true)
 (Gu:IV+m<=WK) (cP:o+IV*i.size+news.length<=cur.size):
 (Builtin.append_ #[t,t] ty #[.slice (some ⟨g,o,none⟩) IV WK,.slice (some a) m c]).run P w=
  .ok (.slice (some ⟨g,o,none⟩) (IV+m) WK) (w.setRow g (cur.toList.take (o+IV*i.size)++news++cur.toList.drop (o+IV*i.size+news.length)).toArray):=by
 have hf:=run_firstCells_some (P:=P) w i.size m a m c news hl BR
 have ai:=run_storeCells_at P g (o+IV*i.size) tt news 0 cur w hg (by simpa using cP) h1
 simp only[Nat.add_zero]at ai
 simp[Builtin.append_,run_underlying ht,sizeOf,typeInfo,hi,Builtin.lenOf,Gu,hf,eO,ai]
def tL(n:Nat)(R S:Nat->Nat->DV->Value->Prop):Nat->Nat->DV->Value->Prop:=fun i j d u=>if i<n then R i j d u else S (i-n) j d u
def Kx(w:World)(v v':Value)(w':World)(zs:List DV):Prop:=∀a n,v=.slice (some a) n n->zs≠[]->(∀b,b<w.heap.size->w'.heap[b]?=w.heap[b]?)/\∀b,cF v'=some b->w.heap.size<=b
theorem zB{P:Program}{t ty e:TypeId}{ti:TypeInfo}{z:Value}(ht:P.underlying t=some (.slice e))(hi:P.info? e=some ti)(hz:ti.zero=some z)(Tl:z.cells.size=ti.size)(dq:0<ti.size)
 {v sv:Value} {xs zs:List DV} {R S:Nat->Nat->DV->Value->Prop} (zC:wO w v ti.size xs R) (kO:r5 w sv ti.size zs S)
 (IW:xs.length+zs.length<=9223372036854775807) (Bp:(xs.length+zs.length)*ti.bytes<=140737488355328):
 ∃v' w',(Builtin.append_ #[t,t] ty #[v,sv]).run P w=.ok v' w'/\wO w' v' ti.size (xs++zs) (tL xs.length R S)/\w.grownBy w' (cF v)/\(∀b,cF v'=some b->w.heap.size<=b\/cF v=some b)/\v'.oneCell'=true/\Kx w v v' w' zs:=by
 have tT:v.oneCell'=true:=by rcases zC with⟨_,rfl⟩|⟨_,_,_,_,_,rfl,_⟩<;>rfl
 have QN:∀{c:Array Value} {o:Nat},(∀(i:Nat) (x:DV),xs[i]?=some x->x.cells.length=ti.size/\∀(j:Nat) (d:DV),x.cells[j]?=some d->d.aj=true/\∃u,c[o+i*ti.size+j]?=some u/\R i j d u)->
  ∀(i:Nat) (x:DV),xs[i]?=some x->x.cells.length=ti.size/\∀(j:Nat) (d:DV),x.cells[j]?=some d->d.aj=true/\∃u,c[o+i*ti.size+j]?=some u/\tL xs.length R S i j d u:=by
  intro c o hh i x hx
  obtain⟨a1,a2⟩:=hh i x hx
  refine⟨a1,fun j d hd=>?_⟩
  obtain⟨b1,u,b2,b3⟩:=a2 j d hd
  refine⟨b1,u,b2,?_⟩
  unfold tL
  rw[if_pos (abI.1 hx).1];exact b3
 have ow:zs=[]->(Builtin.append_ #[t,t] ty #[v,sv]).run P w=.ok v w->∃v' w',(Builtin.append_ #[t,t] ty #[v,sv]).run P w=.ok v' w'/\wO w' v' ti.size (xs++zs) (tL xs.length R S)/\w.grownBy w' (cF v)/\(∀b,cF v'=some b->w.heap.size<=b\/cF v=some b)/\v'.oneCell'=true/\Kx w v v' w' zs:=by
  rintro rfl hr
  refine⟨v,w,hr,?_,World.grownBy.refl w _,fun b hb=>.inr hb,tT,fun _ _ _ h=>absurd rfl h⟩
  rw[List.append_nil]
  rcases zC with h|⟨g,o,cap,cc,tt,hv,dI,hw,aV,DR⟩
  ·exact .inl h
  ·exact .inr ⟨g,o,cap,cc,tt,hv,dI,hw,aV,QN DR⟩
 rcases kO with⟨c,rfl,qX⟩|⟨A,MZ,cell,rfl,cK⟩
 ·refine ow qX ?_
  rcases zC with⟨_,rfl⟩|⟨g,o,cap,cc,tt,rfl,dI,hw,aV,DR⟩
  ·simp[Builtin.append_,run_underlying ht,sizeOf,typeInfo,hi,Builtin.lenOf,Builtin.firstCells]
  ·simp[Builtin.append_,run_underlying ht,sizeOf,typeInfo,hi,Builtin.lenOf,Builtin.firstCells,dI,storeCells]
 ·obtain⟨m,pE⟩:∃m,m=zs.length:=⟨_,rfl⟩
  rw[<-pE]at IW Bp ow⊢
  have hlen:(eB ti.size m cell).length=m*ti.size:=qE _ _ _
  have hq:∀q,q<m*ti.size->q/ti.size<m/\q%ti.size<ti.size/\q=q/ti.size*ti.size+q%ti.size:=fun q hq=>
   ⟨(Nat.div_lt_iff_lt_mul dq).2 hq,Nat.mod_lt _ dq,by have:=Nat.div_add_mod q ti.size;rw[Nat.mul_comm]at this;exact this.symm⟩
  have BR:∀j u,(eB ti.size m cell)[j]?=some u->w.cell? (A.add j)=some u:=by
   intro q u hu
   have au:q<m*ti.size:=by rw[<-hlen];exact(abI.1 hu).1
   obtain⟨h1,h2,h3⟩:=hq q au
   obtain⟨Vn,hl3⟩:=cK (q/ti.size) (zs[q/ti.size]'(by omega)) (aaj (by omega))
   have:=(hl3 (q%ti.size) _ (aaj (by rw[Vn];exact h2))).2.1
   rw[h3]at hu⊢
   rw[pW cell h1 h2]at hu
   rw[this];exact hu
  have wF:∀u,u∈eB ti.size m cell->u.oneCell'=true:=by
   intro u hu
   obtain⟨q,GO,rfl⟩:=List.getElem_of_mem hu
   have au:q<m*ti.size:=by rw[<-hlen];exact GO
   obtain⟨h1,h2,h3⟩:=hq q au
   obtain⟨Vn,hl3⟩:=cK (q/ti.size) (zs[q/ti.size]'(by omega)) (aaj (by omega))
   have hj:q%ti.size<(zs[q/ti.size]'(by omega)).cells.length:=by rw[Vn];exact h2
   have:=(hl3 (q%ti.size) _ (aaj hj)).2.2.1
   have he:(eB ti.size m cell)[q]=cell (q/ti.size) (q%ti.size):=by simp[eB]
   rw[he];exact this
  have reads:∀(c':Array Value) (o':Nat),
   (∀(i:Nat) (x:DV),xs[i]?=some x->x.cells.length=ti.size/\∀(j:Nat) (d:DV),x.cells[j]?=some d->d.aj=true/\∃u,c'[o'+i*ti.size+j]?=some u/\R i j d u)->
   (∀q,q<m*ti.size->c'[o'+xs.length*ti.size+q]?=(eB ti.size m cell)[q]?)->
   ∀(i:Nat) (x:DV),(xs++zs)[i]?=some x->x.cells.length=ti.size/\∀(j:Nat) (d:DV),x.cells[j]?=some d->d.aj=true/\∃u,c'[o'+i*ti.size+j]?=some u/\tL xs.length R S i j d u:=by
   intro c' o' hold ki i x hx
   rw[List.getElem?_append]at hx
   split at hx
   ·exact QN hold i x hx
   ·rename_i gH
    obtain⟨h1,h3⟩:=cK _ x hx
    have au:i-xs.length<m:=by rw[pE];exact(abI.1 hx).1
    refine⟨h1,fun j d hd=>?_⟩
    have hj:j<ti.size:=by rw[<-h1];exact(abI.1 hd).1
    obtain⟨k1,k2,k3,k4⟩:=h3 j d hd
    refine⟨k1,cell (i-xs.length) j,?_,by unfold tL;rw[if_neg gH];exact k4⟩
    have:=ki ((i-xs.length)*ti.size+j) (oO au hj)
    rw[pW cell au hj]at this
    rw[<-this]
    congr 1
    have:i*ti.size=xs.length*ti.size+(i-xs.length)*ti.size:=by rw[<-Nat.add_mul];congr 1;omega
    omega
  by_cases DU:m=0
  ·have aa6:zs=[]:=List.eq_nil_of_length_eq_zero (by omega)
   subst DU
   clear reads wF BR hq hlen cK
   refine ow aa6 ?_
   clear ow QN
   rcases zC with⟨_,rfl⟩|⟨g,o,cap,cc,tt,rfl,dI,hw,aV,DR⟩
   ·simp[Builtin.append_,run_underlying ht,sizeOf,typeInfo,hi,Builtin.lenOf,Builtin.firstCells,loadCells,loadCellsFrom]
   ·simp[Builtin.append_,run_underlying ht,sizeOf,typeInfo,hi,Builtin.lenOf,Builtin.firstCells,dI,storeCells,loadCells,loadCellsFrom]
  ·have QO:∀(Tm:List Value) (cp:Nat),Tm.length=xs.length*ti.size->xs.length+m<=cp->(∀(i:Nat) (x:DV),xs[i]?=some x->x.cells.length=ti.size/\∀(j:Nat) (d:DV),x.cells[j]?=some d->d.aj=true/\∃u,Tm[i*ti.size+j]?=some u/\R i j d u)->
       wO (w.drew.alloc (.cells (Tm.toArray++(eB ti.size m cell).toArray++Builtin.zeroCells z.cells (cp-(xs.length+m))) e)) (.slice (some ⟨w.heap.size,0,none⟩) (xs.length+m) cp) ti.size (xs++zs) (tL xs.length R S):=by
    intro Tm cp VZ hcp hold
    refine .inr ⟨w.heap.size,0,cp,_,e,by simp[pE],by simpa[pE]using hcp,cJ w.drew _,?_,reads _ 0 ?_ ?_⟩
    ·simp only[Array.size_append,List.size_toArray,size_zeroCells,Tl,VZ,hlen,<-Nat.add_mul,Nat.zero_add]
     refine acd _ ?_
     omega
    ·intro i x hx
     obtain⟨h1,h3⟩:=hold i x hx
     refine⟨h1,fun j d hd=>?_⟩
     obtain⟨k1,u,hu,hr⟩:=h3 j d hd
     refine⟨k1,u,?_,hr⟩
     have au:=(abI.1 hu).1
     rw[Nat.zero_add,Array.getElem?_append,if_pos (by simp;omega),Array.getElem?_append,if_pos (by simpa using au)]
     simpa using hu
    ·intro q GO
     rw[Nat.zero_add,Array.getElem?_append,if_pos (by simp[hlen,VZ];omega),Array.getElem?_append,if_neg (by simp[VZ])]
     simp[VZ]
   rcases zC with⟨rfl,rfl⟩|⟨g,o,cap,cc,tt,rfl,dI,hw,aV,DR⟩
   ·have hr:=run_append_nil (P:=P) w t ty e ti z ht hi hz A m MZ (eB ti.size m cell) hlen BR (by omega) (by simp at IW;omega) (by simp at Bp;omega)
    have hg:=QO [] (grownCap w m 0 e) (by simp) (by simpa using grownCap_ge w m 0 e) (by simp)
    simp only[List.length_nil,Nat.zero_add,Array.empty_append]at hg
    refine⟨_,_,hr,by simpa using hg,⟨rfl,rfl,rfl,by simp,fun q hq _=>bC w.drew _ hq⟩,fun b hb=>?_,rfl,fun _ _ e=>by cases e⟩
    simp[cF]at hb;exact .inl (by omega)
   ·by_cases Gu:xs.length+m<=cap
    ·have cP:o+xs.length*ti.size+(eB ti.size m cell).length<=cc.size:=by
      rw[hlen]
      have:(xs.length+m)*ti.size<=cap*ti.size:=acd _ Gu
      rw[Nat.add_mul]at this
      omega
     have hr:=vh (P:=P) t ty e ti ht hi g o xs.length cap cc tt hw A m MZ (eB ti.size m cell) hlen BR wF Gu cP
     refine⟨_,_,hr,.inr ⟨g,o,cap,_,tt,by simp[pE],by simpa[pE]using Gu,setRow_heap w g cc _ tt _ hw,?_,reads _ o ?_ ?_⟩,⟨rfl,rfl,rfl,by simp,fun q _ hq=>setRow_other w g q _ (fun x=>hq (by simp[cF,x]))⟩,fun b hb=>.inr hb,rfl,fun a n e hz=>?_⟩
     ·simp only[List.size_toArray,abU,ab2,List.length_drop,Array.length_toList]
      omega
     ·intro i x hx
      obtain⟨h1,h3⟩:=DR i x hx
      refine⟨h1,fun j d hd=>?_⟩
      obtain⟨k1,u,hu,hr⟩:=h3 j d hd
      refine⟨k1,u,?_,hr⟩
      have hj:j<ti.size:=by rw[<-h1];exact(abI.1 hd).1
      have Fs:=oO (abI.1 hx).1 hj
      have tU:o+i*ti.size+j<cc.size:=(abV.1 hu).1
      simp only[List.getElem?_toArray,ab8]
      rw[List.getElem?_append_left (by simp;omega),List.getElem?_take,if_pos (by omega)]
      simpa using hu
     ·intro q GO
      simp only[List.getElem?_toArray,ab8]
      rw[List.getElem?_append_right (by simp;omega),List.getElem?_append_left (by simp;omega)]
      congr 1
      simp;omega
     ·exfalso
      simp only[Value.slice.injEq]at e
      have:zs.length≠0:=fun h=>hz (List.eq_nil_of_length_eq_zero h)
      omega
    ·have holds:∀j u,((List.range (xs.length*ti.size)).map fun q=>cc.getD (o+q) undef)[j]?=some u->w.cell? ((⟨g,o,none⟩:Addr).add j)=some u:=by
      intro j u hj
      simp only[abJ]at hj
      by_cases au:j<xs.length*ti.size
      ·simp only[List.getElem?_range au,Option.map_some]at hj
       injection hj with hj
       have iC:o+j<cc.size:=by
        have:xs.length*ti.size<=cap*ti.size:=acd _ dI
        omega
       rw[eO]
       simp only[World.cell?,hw]
       rw[<-hj]
       simp[iC]
      ·simp[au]at hj
     have hr:=run_append_grow (P:=P) w t ty e ti z ht hi hz ⟨g,o,none⟩ xs.length cap ((List.range (xs.length*ti.size)).map fun q=>cc.getD (o+q) undef) (by simp) holds A m MZ (eB ti.size m cell) hlen BR (by omega) (by omega) (growslice_fits (by omega) Bp)
     have hg:=QO ((List.range (xs.length*ti.size)).map fun q=>cc.getD (o+q) undef) (grownCap w (xs.length+m) cap e) (by simp) (grownCap_ge w (xs.length+m) cap e) (by
      intro i x hx
      obtain⟨h1,h3⟩:=DR i x hx
      refine⟨h1,fun j d hd=>?_⟩
      obtain⟨k1,u,hu,hr⟩:=h3 j d hd
      have hj:j<ti.size:=by rw[<-h1];exact(abI.1 hd).1
      have Fs:=oO (abI.1 hx).1 hj
      refine⟨k1,u,?_,hr⟩
      simp only[abJ,List.getElem?_range Fs,Option.map_some]
      rw[show o+(i*ti.size+j)=o+i*ti.size+j by omega,abS,hu]
      rfl)
     refine⟨_,_,hr,hg,⟨rfl,rfl,rfl,by simp,fun q hq _=>bC w.drew _ hq⟩,fun b hb=>?_,rfl,fun _ _ _ _=>⟨fun b hb=>bC w.drew _ hb,fun b hb=>?_⟩⟩
     ·simp[cF]at hb;exact .inl (by omega)
     ·simp[cF]at hb;omega
end
end
section
open Go.RowKit
variable [cn]
section
variable {w w':World}
theorem br.sub{M:Mem}{h:List PS->Option Value}{d c:DV}{p:List PS}(ht:br M w h d)(hp:get d p=some c)(hc:c.ao=true):br M w (fun r=>h (p++r)) c:=by
 refine⟨hc,fun q m hq hm=>?_⟩
 obtain⟨v,h1,h2,h3⟩:=ht.2 (p++q) m (by rw[get_append,hp];exact hq) hm
 exact⟨v,h1,h2,by simpa only[ab8]using h3⟩
theorem iU.sub{h:List PS->Option Value}{d c:DV}{p:List PS}(hi:iU h d)(hp:get d p=some c):iU (fun r=>h (p++r)) c:=by
 intro q q' n m u v b e1 e2 e3 e4 f1 f2 f3 f4
 have:=hi (p++q) (p++q') n m u v b (by rw[get_append,hp];exact e1) e2 e3 e4 (by rw[get_append,hp];exact f1) f2 f3 f4
 exact List.append_cancel_left this
theorem bA.sub{h:List PS->Option Value}{d c:DV}{p:List PS}{b:Nat}(hp:get d p=some c)(ho:bA (fun r=>h (p++r)) c b):bA h d b:=by
 obtain⟨q,m,v,h1,h2,h3,h4⟩:=ho
 exact⟨p++q,m,v,by rw[get_append,hp];exact h1,h2,h3,h4⟩
theorem iU.jW{h h':List PS->Option Value}{d:DV}(hi:iU h d)(hh:∀p n v,get d p=some n->n.ao=true->h' p=some v->h p=some v):iU h' d:=
 fun p q n m u v b e1 e2 e3 e4 f1 f2 f3 f4=>hi p q n m u v b e1 e2 (hh p n u e1 e2 e3) e4 f1 f2 (hh q m v f1 f2 f3) f4
def KC:List PS->Option Value
 |[]=>some (.slice none 0 0)
 |_=>none
theorem xi{sz:Nat}{p:List PS}{m:DV}(h:get (.aB sz []) p=some m):p=[]/\m=.aB sz []:=by
 cases p with
 |nil=>simp[get]at h;exact⟨rfl,h.symm⟩
 |cons s p=>cases s<;>simp[get,step]at h
theorem xq(M:Mem)(w:World)(sz:Nat):br M w KC (.aB sz []):=by
 refine⟨rfl,fun p m hp _=>?_⟩
 obtain⟨rfl,rfl⟩:=xi hp
 exact⟨_,rfl,rfl,.inl ⟨rfl,rfl⟩⟩
theorem BZ(sz:Nat):iU KC (.aB sz []):=by
 intro p q n m u v b e1 _ _ _ f1 _ _ _
 rw[(xi e1).1,(xi f1).1]
theorem kj{sz b:Nat}(h:bA KC (.aB sz []) b):False:=by
 obtain⟨p,m,v,h1,_,h3,h4⟩:=h
 obtain⟨rfl,rfl⟩:=xi h1
 simp[KC]at h3
 subst h3
 simp[cF]at h4
def tM(n:Nat)(v:Value)(h hs:List PS->Option Value):List PS->Option Value
 |[]=>some v
 |.el i j::r=>if i<n then h (.el i j::r)else hs (.el (i-n) j::r)
 |s::r=>h (s::r)
inductive Src(M:Mem)(w:World)(x:Value)(sz:Nat)(ys:List DV)(hs:List PS->Option Value):Prop
 |closed (h:r5 w x sz ys fun _ _ d u=>d.ao=false/\bu M d u) (hn:hs=fun _=>none)
 |tree (ht:br M w hs (.aB sz ys)) (hi:iU hs (.aB sz ys)) (hx:hs []=some x)
theorem dF.cT{M:Mem}{h:Option Value}{d:DV}{u:Value}(r:dF M h d u)(hc:d.aj=true)(ho:d.ao=true->∀v,h=some v->v.oneCell'=true):u.oneCell'=true:=by
 rcases r with⟨a,b⟩|⟨a,b⟩
 ·exact ho a u b
 ·exact b.cT hc
theorem br.QP{M:Mem}{h:List PS->Option Value}{d c:DV}{s:PS}(ht:br M w h d)(hs:step d s=some c)(hc:c.ao=true){v:Value}(hv:h [s]=some v):v.oneCell'=true:=by
 obtain⟨u,h1,h2,_⟩:=ht.2 [s] c (by simp[get,hs]) hc
 rw[h1]at hv;injection hv with hv;subst hv;exact h2
theorem Src.Rk{M:Mem}{x:Value}{sz:Nat}{ys:List DV}{hs:List PS->Option Value}(h:Src M w x sz ys hs):r5 w x sz ys fun i j d u=>d.aj=true/\dF M (hs [.el i j]) d u:=by
 cases h with
 |closed h hn=>
  refine h.mono rfl fun i x' y hx hy=>?_
  rw[hx]at hy;injection hy with hy;subst hy
  refine⟨rfl,fun j d e u hd he Dh hS=>?_⟩
  rw[hd]at he;injection he with he;subst he
  exact⟨Dh,Dh,.inr hS⟩
 |tree ht hi hx=>
  obtain⟨v,h1,h2,h3⟩:=ht.2 [] _ rfl rfl
  rw[hx]at h1;injection h1 with h1;subst h1
  have h4:wO w x sz ys fun i j d u=>d.aj=true/\step (.aB sz ys) (.el i j)=some d/\dF M (hs [.el i j]) d u:=by
   rcases eP.1 h3 with h3|⟨g,o,cap,c,t,a1,a2,a3,a4,a5⟩
   ·exact .inl h3
   ·refine .inr ⟨g,o,cap,c,t,a1,a2,a3,a4,fun i y hy=>⟨(a5 i y hy).1,fun j d hd=>?_⟩⟩
    obtain⟨b1,u,b2,b3⟩:=(a5 i y hy).2 j d hd
    exact⟨b1,u,b2,b1,by simp only[step,hy];exact hd,b3⟩
  refine(r5.QM h4 fun i j d u hr _=>?_).mono rfl fun i x' y hx hy=>?_
  ·exact hr.2.2.cT hr.1 fun ho v hv=>ht.QP hr.2.1 ho hv
  ·rw[hx]at hy;injection hy with hy;subst hy
   refine⟨rfl,fun j d e u hd he Dh hS=>?_⟩
   rw[hd]at he;injection he with he;subst he
   exact⟨Dh,hS.1,hS.2.2⟩
theorem mc.length:∀{l r:List DV},mc l r->l.length=r.length
 |[],[],_=>rfl
 |_::_,_::_,h=>by simp[mc.length h.2]
 |[],_::_,h=>h.elim
 |_::_,[],h=>h.elim
theorem mc.at:∀{l r:List DV},mc l r->∀(j:Nat) (d e:DV),l[j]?=some d->r[j]?=some e->(d.ao=true/\d=e)\/(d.ao=false/\d.Le e)
 |[],[],_,j,d,e,h,_=>by simp at h
 |a::l,b::r,h,0,d,e,e1,e2=>by
  simp at e1 e2;subst e1;subst e2
  have:=h.1
  cases ho:a.ao with
  |true=>rw[ho]at this;exact .inl ⟨rfl,this⟩
  |false=>rw[ho]at this;exact .inr ⟨rfl,this⟩
 |a::l,b::r,h,j+1,d,e,e1,e2=>by simp at e1 e2;exact mc.at h.2 j d e e1 e2
 |[],_::_,h,_,_,_,_,_=>h.elim
 |_::_,[],h,_,_,_,_,_=>h.elim
theorem cd.length:∀{l r:List DV},cd l r->l.length=r.length
 |[],[],_=>rfl
 |_::_,_::_,h=>by simp[cd.length h.2]
 |[],_::_,h=>h.elim
 |_::_,[],h=>h.elim
theorem cd.at:∀{l r:List DV},cd l r->∀(i:Nat) (x y:DV),l[i]?=some x->r[i]?=some y->mc x.cells y.cells
 |[],[],_,j,d,e,h,_=>by simp at h
 |a::l,b::r,h,0,d,e,e1,e2=>by simp at e1 e2;subst e1;subst e2;exact h.1
 |a::l,b::r,h,j+1,d,e,e1,e2=>by simp at e1 e2;exact cd.at h.2 j d e e1 e2
 |[],_::_,h,_,_,_,_,_=>h.elim
 |_::_,[],h,_,_,_,_,_=>h.elim
theorem bu.aj{M:Mem}{d:DV}{v:Value}(h:bu M d v)(hv:v.oneCell'=true):d.aj=true:=by
 cases h with
 |agg=>simp[Value.oneCell']at hv
 |_=>rfl
theorem dF.le{M:Mem}{h:Option Value}{d e:DV}{u:Value}(r:dF M h d u)(hle:(d.ao=true/\d=e)\/(d.ao=false/\d.Le e))(hc:d.aj=true):e.aj=true/\dF M h e u/\(e.ao=true->d=e):=by
 rcases hle with⟨h1,rfl⟩|⟨h1,h2⟩
 ·exact⟨hc,r,fun _=>rfl⟩
 ·rcases r with⟨a,b⟩|⟨a,b⟩
  ·rw[h1]at a;cases a
  ·have h3:=h2 M u b
   exact⟨h3.aj (b.cT hc),.inr ⟨h3.fJ,h3⟩,fun ho=>by rw[h3.fJ]at ho;cases ho⟩
theorem Gv{P:Program}{T:List TI}(hT:fb P T){t ty:TypeId}(cr:(nth T t).ok=true)(iw:(nth T t).isSl=true)(r8:(nth T (nth T t).elem).ok=true)(dq:0<(nth T (nth T t).elem).size)
 {M:Mem} {h hs:List PS->Option Value} {l ys zs:List DV} {v x:Value} (ht:br M w h (.aB (nth T (nth T t).elem).size l)) (hi:iU h (.aB (nth T (nth T t).elem).size l)) (hv:h []=some v)
 (kO:Src M w x (nth T (nth T t).elem).size ys hs) (WL:∀b,bA h (.aB (nth T (nth T t).elem).size l) b->¬bA hs (.aB (nth T (nth T t).elem).size ys) b) (au:∀b,bA hs (.aB (nth T (nth T t).elem).size ys) b->b<w.heap.size) (hle:cd ys zs)
 (IW:l.length+zs.length<=9223372036854775807) (Bp:(l.length+zs.length)*(nth T (nth T t).elem).bytes<=140737488355328):
 ∃v' w',(Builtin.append_ #[t,t] ty #[v,x]).run P w=.ok v' w'/\w.grownBy w' (cF v)/\v'.oneCell'=true/\br M w' (tM l.length v' h hs) (.aB (nth T (nth T t).elem).size (l++zs))/\iU (tM l.length v' h hs) (.aB (nth T (nth T t).elem).size (l++zs))/\
  ∀b,bA (tM l.length v' h hs) (.aB (nth T (nth T t).elem).size (l++zs)) b->bA h (.aB (nth T (nth T t).elem).size l) b\/bA hs (.aB (nth T (nth T t).elem).size ys) b\/w.heap.size<=b:=by
 obtain⟨i,u,z,tf⟩:=hT.facts cr
 obtain⟨te,ue,ze,jU⟩:=hT.facts r8
 generalize aV:(nth T (nth T t).elem).size=sz at*
 have tN:te.size=sz:=by rw[<-aV,jU.size]
 obtain⟨v0,GH,tT,aZ⟩:=ht.2 [] _ rfl rfl
 rw[hv]at GH;injection GH with GH;subst GH
 have zC:=eP.1 aZ
 have hsg:=kO.Rk
 have QQ:r5 w x sz zs fun i j d u=>d.aj=true/\dF M (hs [.el i j]) d u:=by
  refine hsg.mono hle.length fun i x y hx hy=>?_
  have h1:=hle.at i x y hx hy
  refine⟨h1.length,fun j d e u hd he Dh hS=>?_⟩
  obtain⟨k1,k2,_⟩:=hS.2.le (h1.at j d e hd he) Dh
  exact⟨k1,k1,k2⟩
 have zD:∀i j e,step (.aB sz zs) (.el i j)=some e->e.ao=true->step (.aB sz ys) (.el i j)=some e:=by
  intro i j e he ho
  simp only[step]at he⊢
  split at he
  ·rename_i y hy
   have vu:i<ys.length:=by rw[hle.length];exact(abI.1 hy).1
   have hx:ys[i]?=some ys[i]:=aaj vu
   rw[hx]
   have h1:=hle.at i _ y hx hy
   have hj:j<ys[i].cells.length:=by rw[h1.length];exact(abI.1 he).1
   have hd:ys[i].cells[j]?=some ys[i].cells[j]:=aaj hj
   simp only
   rcases h1.at j _ e hd he with⟨a,b⟩|⟨a,b⟩
   ·rw[hd,b]
   ·-- a closed cell aa7 aa8 an ao one:there is a value of it
    rcases hsg with⟨c,_,qX⟩|⟨A,cap,cell,_,cK⟩
    ·rw[qX]at vu;simp at vu
    ·obtain⟨_,h3⟩:=cK i _ hx
     obtain⟨_,_,_,h4⟩:=h3 j _ hd
     rcases h4.2 with⟨c1,_⟩|⟨_,c2⟩
     ·rw[a]at c1;cases c1
     ·rw[(b M _ c2).fJ]at ho;cases ho
  ·cases he
 have Z1:ze.cells.size=te.size:=by
  have:=(eZ (M:=M) jU.zc).1.1
  simp at this
  rw[<-this,jU.zl]
 obtain⟨v',w',aX,Gw,mX,hblk,GU,_⟩:=zB (P:=P) (t:=t) (ty:=ty) (tf.slice iw) jU.info jU.zero Z1 (by rw[tN];exact dq) (by rw[tN];exact zC) (by rw[tN];exact QQ) IW (by rw[<-jU.bytes];exact Bp)
 rw[tN]at Gw
 refine⟨v',w',aX,mX,GU,?_⟩
 have QR:∀b,b<w.heap.size->cF v≠some b->w'.heap[b]?=w.heap[b]?:=fun b hb b7=>mX.block b hb (fun e=>b7 e.symm)
 have WM:cD M w' v' (fun s=>tM l.length v' h hs ([]++[s])) (.aB sz (l++zs)):=by
  refine eP.2 ?_
  rcases Gw with h1|⟨g,o,cap,c,tt,a1,a2,a3,a4,a5⟩
  ·exact .inl h1
  ·refine .inr ⟨g,o,cap,c,tt,a1,a2,a3,a4,fun i x hx=>⟨(a5 i x hx).1,fun j d hd=>?_⟩⟩
   obtain⟨b1,u,b2,b3⟩:=(a5 i x hx).2 j d hd
   refine⟨b1,u,b2,?_⟩
   unfold tL at b3
   simp only[List.nil_append,tM]
   split at b3
   ·rename_i iC;rw[if_pos iC];exact b3
   ·rename_i iC;rw[if_neg iC];exact b3.2
 have WN:∀i j c,i<l.length->(step (.aB sz (l++zs)) (.el i j)=some c↔step (.aB sz l) (.el i j)=some c):=by
  intro i j c iC
  simp only[step]
  rw[List.getElem?_append_left iC]
 have IX:∀i j c,¬i<l.length->step (.aB sz (l++zs)) (.el i j)=some c->step (.aB sz zs) (.el (i-l.length) j)=some c:=by
  intro i j c gH hc
  simp only[step]at hc⊢
  rw[List.getElem?_append_right (by omega)]at hc
  exact hc
 have el:∀s c,step (.aB sz (l++zs)) s=some c->∃i j,s=.el i j:=by
  intro s c eE
  cases s with
  |el i j=>exact⟨i,j,rfl⟩
  |key=>simp[step]at eE
 have sub:∀i j c,¬i<l.length->step (.aB sz (l++zs)) (.el i j)=some c->c.ao=true->br M w' (fun r=>hs (.el (i-l.length) j::r)) c/\iU (fun r=>hs (.el (i-l.length) j::r)) c/\∀b,bA (fun r=>hs (.el (i-l.length) j::r)) c b->bA hs (.aB sz ys) b:=by
  intro i j c gH hc ho
  have h1:=zD _ _ _ (IX i j c gH hc) ho
  have hg:get (.aB sz ys) [.el (i-l.length) j]=some c:=by simp[get,h1]
  cases kO with
  |closed mq hn=>
   exfalso
   rcases mq with⟨_,_,qX⟩|⟨A,cap,cell,_,cK⟩
   ·subst qX;simp[step]at h1
   ·simp only[step]at h1
    split at h1
    ·rename_i x hx
     obtain⟨_,h3⟩:=cK _ x hx
     have:=(h3 j c h1).2.2.2.1
     rw[ho]at this;cases this
    ·cases h1
  |tree ai ZJ hsx=>
   have t1:=ai.sub hg ho
   have t2:∀b,bA (fun r=>hs ([.el (i-l.length) j]++r)) c b->bA hs (.aB sz ys) b:=fun b hb=>hb.sub hg
   refine⟨t1.jW (Mem.Le.refl _) (fun b hb=>QR b (au b (t2 b hb)) fun e=>?_) (fun _ _ _ _ _ q=>q),ZJ.sub hg,t2⟩
   exact WL b ⟨[],_,v,rfl,rfl,hv,e⟩ (t2 b hb)
 have main:=br.qY (w:=w) (w':=w') (h':=tM l.length v' h hs) (p:=[]) (n:=.aB sz l) (n':=.aB sz (l++zs)) (v:=v) (v':=v') (fun s=>∃i j,s=.el i j/\¬i<l.length) ht hi rfl rfl hv rfl rfl GU (.inl rfl) WM
  (fun q hq=>absurd (List.nil_prefix) hq)
  (fun s c eE ho hN=>by
   obtain⟨i,j,rfl⟩:=el s c eE
   by_cases iC:i<l.length
   ·exact⟨(WN i j c iC).1 eE,fun r=>by simp only[List.nil_append,tM,if_pos iC]⟩
   ·exact absurd ⟨i,j,rfl,iC⟩ hN)
  (fun s c eE ho hN=>by
   obtain⟨i,j,rfl,gH⟩:=hN
   obtain⟨t1,t2,t3⟩:=sub i j c gH eE ho
   have e:(fun r=>tM l.length v' h hs ([]++.el i j::r))=fun r=>hs (.el (i-l.length) j::r):=by funext r;simp only[List.nil_append,tM,if_neg gH]
   rw[e]
   refine⟨t1,t2,fun b hb=>⟨fun jz=>WL b jz (t3 b hb),fun dV=>?_⟩⟩
   rcases hblk b dV with h5|h5
   ·have:=au b (t3 b hb);omega
   ·exact WL b ⟨[],_,v,rfl,rfl,hv,h5⟩ (t3 b hb))
  (fun s s' c c' b iY MV WO lJ MD Z2 iZ ca=>by
   obtain⟨i,j,rfl,gH⟩:=WO
   obtain⟨i',j',rfl,Z3⟩:=Z2
   have e:∀i j,¬i<l.length->(fun r=>tM l.length v' h hs ([]++.el i j::r))=fun r=>hs (.el (i-l.length) j::r):=fun i j gH=>by funext r;simp only[List.nil_append,tM,if_neg gH]
   rw[e i j gH]at iZ
   rw[e i' j' Z3]at ca
   have g1:=zD _ _ _ (IX i j c gH iY) MV
   have g2:=zD _ _ _ (IX i' j' c' Z3 lJ) MD
   cases kO with
   |closed mq hn=>rw[hn]at iZ;obtain⟨_,_,_,_,_,q,_⟩:=iZ;cases q
   |tree ai ZJ hsx=>
    obtain⟨q,m,u,a1,a2,a3,a4⟩:=iZ
    obtain⟨q',m',u',b1,b2,b3,b4⟩:=ca
    have:=ZJ (.el (i-l.length) j::q) (.el (i'-l.length) j'::q') m m' u u' b (by simp only[get,g1];exact a1) a2 a3 a4 (by simp only[get,g2];exact b1) b2 b3 b4
    injection this with e1 e2
    injection e1 with e1 e3
    have:i=i':=by omega
    rw[this,e3])
  (fun b hb=>by
   rcases hblk b hb with h5|h5
   ·right;intro ho
    obtain⟨p,m,u,a1,a2,a3,a4⟩:=ho
    obtain⟨u',c1,_,c3⟩:=ht.2 p m a1 a2
    rw[a3]at c1;injection c1 with c1;subst c1
    have:=xl c3 a4;omega
   ·exact .inl h5)
  (fun b ho b7=>by
   obtain⟨p,m,u,a1,a2,a3,a4⟩:=ho
   obtain⟨u',c1,_,c3⟩:=ht.2 p m a1 a2
   rw[a3]at c1;injection c1 with c1;subst c1
   exact QR b (xl c3 a4) b7)
 obtain⟨m1,m2,m3⟩:=main
 refine⟨m1,m2,fun b hb=>?_⟩
 rcases m3 b hb with h1|h1|⟨s,c,s1,s2,⟨i,j,rfl,gH⟩,s4⟩
 ·exact .inl h1
 ·rcases hblk b h1 with h5|h5
  ·exact .inr (.inr h5)
  ·exact .inl ⟨[],_,v,rfl,rfl,hv,h5⟩
 ·have e:(fun r=>tM l.length v' h hs ([]++.el i j::r))=fun r=>hs (.el (i-l.length) j::r):=by funext r;simp only[List.nil_append,tM,if_neg gH]
  rw[e]at s4
  exact .inr (.inl ((sub i j c gH s1 s2).2.2 b s4))
end
end
section
open Go.RowKit
variable [cn]
theorem Mv{d nq n:DV}{q:List PS}{s:PS}{c:DV}(hq:get d q=some nq)(hs:step nq s=some c):dN d (q++[s]) n=dN d q (put nq s n):=by
 induction q generalizing d with
 |nil=>simp[get]at hq;subst hq;simp[dN,hs]
 |cons s' q ih=>
  simp only[get]at hq
  simp only[List.cons_append,dN]
  cases h1:step d s' with
  |none=>simp[h1]at hq
  |some c1=>rw[h1]at hq;simp only[ih hq]
theorem br.lt{M:Mem}{w:World}{h:List PS->Option Value}{d:DV}(ht:br M w h d){b:Nat}(ho:bA h d b):b<w.heap.size:=by
 obtain⟨p,m,u,a1,a2,a3,a4⟩:=ho
 obtain⟨u',c1,_,c3⟩:=ht.2 p m a1 a2
 rw[a3]at c1;injection c1 with c1;subst c1
 exact xl c3 a4
theorem br.forget{M:Mem}{w:World}{h:List PS->Option Value}{d c:DV}{p:List PS}(ht:br M w h d)(hi:iU h d)(hp:get d p=some c)(hc:c.ao=true)(b7:p≠[]):
 br M w h (dN d p .any)/\iU h (dN d p .any)/\∀b,bA h (dN d p .any) b->bA h d b/\¬bA (fun r=>h (p++r)) c b:=by
 have cZ:∀(q:List PS) (x:DV),get d q=some x->q≠[]->x.aj=true:=fun q x hx _=>ht.cells q x hx
 have oC:∀b,bA h (dN d p .any) b->bA h d b->¬bA (fun r=>h (p++r)) c b:=by
  rintro b ⟨q,m,u,a1,a2,a3,a4⟩ _ ⟨r,m',u',b1,b2,b3,b4⟩
  by_cases tW:p <+: q
  ·obtain⟨r',rfl⟩:=ed tW
   rw[np hp rfl cZ]at a1
   cases r' with
   |nil=>simp[get]at a1;subst a1;cases a2
   |cons s r'=>simp[get,step]at a1
  ·rw[nr rfl cZ tW]at a1
   cases hx:get d q with
   |none=>rw[hx]at a1;cases a1
   |some x=>
    rw[hx]at a1
    simp only[Option.some.injEq]at a1
    have R7:x.ao=true:=by
     by_cases hq:q <+: p
     ·rw[if_pos hq]at a1
      obtain⟨r',rfl⟩:=ed hq
      cases r' with
      |nil=>exact absurd (by simp) tW
      |cons s r'=>simp only[List.drop_left]at a1;rw[<-a1,lI]at a2;exact a2
     ·rw[if_neg hq]at a1;rw[a1];exact a2
    have:=hi q (p++r) x m' u u' b hx R7 a3 a4 (by rw[get_append,hp];exact b1) b2 b3 b4
    exact tW ⟨r,this.symm⟩
 rcases List.eq_nil_or_concat p with rfl|⟨q,s,rfl⟩
 ·exact absurd rfl b7
 ·rw[List.concat_eq_append]at hp oC⊢
  rw[get_append]at hp
  cases hq:get d q with
  |none=>rw[hq]at hp;cases hp
  |some nq=>
   rw[hq]at hp
   simp only[get]at hp
   cases hs:step nq s with
   |none=>rw[hs]at hp;cases hp
   |some c0=>
    rw[hs]at hp
    simp at hp
    subst hp
    have hnq:=fK hs
    obtain⟨v,hv,tT,aZ⟩:=ht.2 q nq hq hnq
    rw[Mv hq hs]at oC⊢
    have Fb:cD M w v (fun s=>h (q++[s])) (put nq s .any):=by
     refine aZ.JZ hs rfl fun u hr=>.inr ⟨rfl,.any u ?_⟩
     rcases hr with⟨_,b⟩|⟨a,_⟩
     ·obtain⟨u',c1,c2,_⟩:=ht.2 (q++[s]) c0 (by rw[get_append,hq];simp[get,hs]) hc
      have b':h (q++[s])=some u:=b
      rw[c1]at b';injection b' with b';subst b';exact c2
     ·rw[hc]at a;cases a
    obtain⟨m1,m2,m3⟩:=br.qY (w:=w) (w':=w) (h':=h) (n':=put nq s .any) (fun _=>False) ht hi hq hnq hv (by rw[qV];exact hnq) hv tT (.inr rfl) Fb (fun _ _=>rfl)
     (fun s' c' eE ho _=>by
      by_cases e:s=s'
      ·subst e;rw[lY hs rfl]at eE;injection eE with eE;subst eE;cases ho
      ·rw[oJ rfl e]at eE;exact⟨eE,fun _=>rfl⟩)
     (fun _ _ _ _ hN=>hN.elim) (fun _ _ _ _ _ _ _ hN=>hN.elim) (fun b hb=>.inl hb) (fun _ _ _=>rfl)
    refine⟨m1,m2,fun b hb=>?_⟩
    have h1:bA h d b:=by
     rcases m3 b hb with h1|h1|⟨_,_,_,_,hN,_⟩
     ·exact h1
     ·exact⟨q,nq,v,hq,hnq,hv,h1⟩
     ·exact hN.elim
    exact⟨h1,oC b hb h1⟩
section
variable {g:dP} {n:Nat} {ρ:Nat->AV} {κ κ':Nat->aq} {a:Act} {w w':World} {G:Gh}
theorem cy.split(h:cy g n ρ κ a w G){i nx ver ep:Nat}{d c:DV}{p:List PS}(hi:κ i=.tree ver ep d)(hx:κ nx=.none)(hp:get d p=some c)(hc:c.ao=true)(b7:p≠[])(h1:κ' i=.tree ver (ep+1) (dN d p .any))(h2:κ' nx=.tree 0 0 c)(h3:∀j,j≠i->j≠nx->κ' j=κ j):
 ∃G',Gh.Le G G'/\G'.M=G.M/\G'.β=G.β/\(∀r,aH G'.H nx 0 0 r=aH G.H i ver ep (p++r))/\cy g n ρ κ' a w G':=by
 have OG:i≠nx:=fun e=>by rw[e,hx]at hi;cases hi
 have ng:=h.fit.box i
 have ez:=h.fit.box nx
 rw[hi]at ng
 rw[hx]at ez
 obtain⟨ht,gn,Gi,dK⟩:=ng
 obtain⟨f1,f2,f3⟩:=ht.forget gn hp hc b7
 have EI:∀r,p++r≠[]:=fun r e=>b7 (List.append_eq_nil_iff.1 e).1
 let fi:Nat->Nat->List PS->Option Value:=fun v e q=>if v=ver/\e=ep+1/\q≠[]then aH G.H i ver ep q else G.H i v e q
 let fx:Nat->Nat->List PS->Option Value:=fun v e q=>if v=0/\e=0 then aH G.H i ver ep (p++q)else none
 let G':Gh:={ G with H:=sq (sq G.H i fi) nx fx }
 have Z4:G'.H i=fi:=by show sq (sq G.H i fi) nx fx i=fi;rw[kM _ _ OG,mw]
 have hHx:G'.H nx=fx:=mw _ _ _
 have hHo:∀j,j≠i->j≠nx->G'.H j=G.H j:=fun j e1 e2=>by show sq (sq G.H i fi) nx fx j=_;rw[kM _ _ e2,kM _ _ e1]
 have D7:aH G'.H i ver (ep+1)=aH G.H i ver ep:=by
  funext q
  cases q with
  |nil=>simp only[aH,Z4];show(if _ then _ else _)=_;rw[if_neg (by simp)]
  |cons s q=>simp only[aH,Z4];show(if _ then _ else _)=_;rw[if_pos ⟨rfl,rfl,by simp⟩];rfl
 have hhx:aH G'.H nx 0 0=fun r=>aH G.H i ver ep (p++r):=by
  funext q
  cases q with
  |nil=>show G'.H nx 0 0 []=_;rw[hHx];show(if 0=0/\0=0 then aH G.H i ver ep (p++[])else none)=_;rw[if_pos ⟨rfl,rfl⟩]
  |cons s q=>show G'.H nx 0 0 (s::q)=_;rw[hHx];show(if 0=0/\0=0 then aH G.H i ver ep (p++s::q)else none)=_;rw[if_pos ⟨rfl,rfl⟩]
 have hle:Gh.Le G G':=⟨Mem.Le.refl _,fun _ _ q=>q,fun j v e q x hq=>by
  by_cases e1:j=i
  ·subst e1
   rw[Z4]
   show(if v=ver/\e=ep+1/\q≠[]then _ else _)=_
   split
   ·rename_i lF;obtain⟨rfl,rfl,_⟩:=lF;rw[dK (ep+1) (by omega)]at hq;cases hq
   ·exact hq
  ·by_cases e2:j=nx
   ·subst e2;rw[ez.2]at hq;cases hq
   ·rw[hHo j e1 e2];exact hq⟩
 have WQ:∀b,cx G' i (κ' i) b->bA (aH G.H i ver ep) d b/\¬bA (fun r=>aH G.H i ver ep (p++r)) c b:=fun b hb=>by
  rw[h1]at hb;simp only[cx]at hb;rw[D7]at hb;exact f3 b hb
 have WR:∀b,cx G' nx (κ' nx) b->bA (fun r=>aH G.H i ver ep (p++r)) c b:=fun b hb=>by
  rw[h2]at hb;simp only[cx]at hb;rw[hhx]at hb;exact hb
 refine⟨G',hle,rfl,rfl,fun r=>congrFun hhx r,h.sn (C:=fun j=>j=i\/j=nx) ⟨hle,fun _ _=>rfl,fun j hj=>h3 j (fun e=>hj (.inl e)) (fun e=>hj (.inr e)),fun j hj=>⟨fun _ q=>q,fun v e q x hq=>?_⟩,fun _ _ _=>⟨rfl,rfl⟩,h.fit.sub,?_,?_,?_,acb _,rfl,rfl,rfl⟩ (fun _ _=>rfl)⟩
 ·rw[hHo j (fun e=>hj (.inl e)) (fun e=>hj (.inr e))]at hq;exact hq
 ·rintro j (rfl|rfl)
  ·rw[h1]
   refine⟨by rw[D7];exact f1,by rw[D7];exact f2,fun v hv e q=>?_,fun e he q=>?_⟩
   ·rw[Z4];show(if v=ver/\_ then _ else _)=_;rw[if_neg (by omega)];exact Gi v hv e q
   ·rw[Z4];show(if ver=ver/\e=ep+1/\q≠[]then _ else _)=_;rw[if_neg (by omega)];exact dK e (by omega) q
  ·rw[h2]
   refine⟨by rw[hhx];exact ht.sub hp hc,by rw[hhx];exact gn.sub hp,fun v hv e q=>?_,fun e he q=>?_⟩
   ·rw[hHx];show(if v=0/\e=0 then _ else _)=_;rw[if_neg (by omega)]
   ·rw[hHx];show(if 0=0/\e=0 then _ else _)=_;rw[if_neg (by omega)]
 ·rintro j b (rfl|rfl) hb
  ·have dV:=(WQ b hb).1
   have:cx G j (κ j) b:=by rw[hi];exact dV
   exact⟨.inr ⟨j,.inl rfl,this⟩,h.fit.own j b this⟩
  ·have dV:=(WR b hb).sub hp
   have:cx G i (κ i) b:=by rw[hi];exact dV
   exact⟨.inr ⟨i,.inl rfl,this⟩,h.fit.own i b this⟩
 ·rintro j j' b (rfl|rfl) (rfl|rfl) hb dV
  ·rfl
  ·exact absurd (WR b dV) (WQ b hb).2
  ·exact absurd (WR b hb) (WQ b dV).2
  ·rfl
end
end
end Go.TM
