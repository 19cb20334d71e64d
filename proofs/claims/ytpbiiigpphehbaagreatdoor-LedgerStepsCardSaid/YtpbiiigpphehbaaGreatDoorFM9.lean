import Derived.Test.YtpbiiigpphehbaaGreatDoorFM8
set_option linter.all false
namespace Go.TM
set_option maxHeartbeats 1000000
section
open Go.RowKit
variable [cj]
theorem pY{i j sz:Nat}(hj:j<sz):(i*sz+j)/sz=i/\(i*sz+j)%sz=j:=by
 have dr:0<sz:=by omega
 constructor
 ·rw[Nat.mul_comm,Nat.mul_add_div dr,Nat.div_eq_of_lt hj];omega
 ·rw[Nat.mul_comm,Nat.mul_add_mod,Nat.mod_eq_of_lt hj]
theorem qW{i j n sz:Nat}(hi:i<n)(hj:j<sz):i*sz+j<n*sz:=by
 have:(i+1)*sz<=n*sz:=ab4 _ hi
 rw[Nat.add_mul]at this
 omega
def wh(w:World)(v:Value)(sz:Nat)(l:List DV)(R:Nat->Nat->DV->Value->Prop):Prop:=
 (l=[]/\v=.slice none 0 0)\/
 ∃g o cap c t,v=.slice (some ⟨g,o,none⟩) l.length cap/\l.length<=cap/\w.heap[g]?=some (.cells c t (0,0))/\o+cap*sz<=c.size/\
  ∀(i:Nat) (x:DV),l[i]?=some x->x.cells.length=sz/\∀(j:Nat) (d:DV),x.cells[j]?=some d->d.ai=true/\∃u,c[o+i*sz+j]?=some u/\R i j d u
theorem fM{M:Mem}{w:World}{v:Value}{hc:PS->Option Value}{sz:Nat}{l:List DV}:cD M w v hc (.aB sz l)↔wh w v sz l fun i j d u=>dC M (hc (.el i j)) d u:=Iff.rfl
def qO(w:World)(v:Value)(sz:Nat)(l:List DV)(S:Nat->Nat->DV->Value->Prop):Prop:=
 (∃c,v=.slice none 0 c/\l=[])\/
 ∃(A:Addr) (cap:Nat) (cell:Nat->Nat->Value),v=.slice (some A) l.length cap/\∀(i:Nat) (x:DV),l[i]?=some x->x.cells.length=sz/\
  ∀(j:Nat) (d:DV),x.cells[j]?=some d->d.ai=true/\w.cell? (A.add (i*sz+j))=some (cell i j)/\(cell i j).oneCell'=true/\S i j d (cell i j)
section
variable {w:World}
theorem qO.Xq{M:Mem}{sz:Nat}{l:List DV}{v:Value}(dP:M.In w)(h:bz M (.sl sz l) v):qO w v sz l fun _ _ d u=>bz M d u:=by
 cases h with
 |slnil=>exact .inl ⟨0,rfl,rfl⟩
 |sl _ _ A cap cell dW hlen hc hr=>
  refine .inr ⟨A,cap,cell,rfl,fun i x hx=>?_⟩
  have hm:=hlen x (abC hx)
  refine⟨hm.1,fun j d hd=>⟨hm.2 d (abC hd),dP.cell (hc i j (abA.1 hx).1 ?_),(hr i x j d hx hd).cQ (hm.2 d (abC hd)),hr i x j d hx hd⟩⟩
  rw[<-hm.1];exact(abA.1 hd).1
theorem qO.MW{sz:Nat}{l:List DV}{v:Value}{R:Nat->Nat->DV->Value->Prop}(h:wh w v sz l R)(h1:∀i j d u,R i j d u->d.ai=true->u.oneCell'=true):qO w v sz l R:=by
 rcases h with⟨rfl,rfl⟩|⟨g,o,cap,c,t,rfl,dW,hw,aW,DU⟩
 ·exact .inl ⟨0,rfl,rfl⟩
 ·refine .inr ⟨⟨g,o,none⟩,cap,fun i j=>c.getD (o+i*sz+j) undef,rfl,fun i x hx=>?_⟩
  obtain⟨a1,a2⟩:=DU i x hx
  refine⟨a1,fun j d hd=>?_⟩
  obtain⟨b1,u,hu,hr⟩:=a2 j d hd
  have e:c.getD (o+i*sz+j) undef=u:=by rw[abK,hu];rfl
  refine⟨b1,?_,?_,?_⟩
  ·rw[eL]
   simp only[World.cell?,hw]
   rw[show o+(i*sz+j)=o+i*sz+j by omega,e]
   simpa using hu
  ·show(c.getD (o+i*sz+j) undef).oneCell'=true
   rw[e];exact h1 i j d u hr b1
  ·show R i j d (c.getD (o+i*sz+j) undef)
   rw[e];exact hr
theorem qO.mono{sz:Nat}{l l':List DV}{v:Value}{S S':Nat->Nat->DV->Value->Prop}(h:qO w v sz l S)(hl:l.length=l'.length)
 (hx:∀(i:Nat) (x y:DV),l[i]?=some x->l'[i]?=some y->x.cells.length=y.cells.length/\∀(j:Nat) (d e:DV) (u:Value),x.cells[j]?=some d->y.cells[j]?=some e->d.ai=true->S i j d u->e.ai=true/\S' i j e u):qO w v sz l' S':=by
 rcases h with⟨c,rfl,rfl⟩|⟨A,cap,cell,rfl,hh⟩
 ·exact .inl ⟨c,rfl,by simpa using hl.symm⟩
 ·refine .inr ⟨A,cap,cell,by rw[hl],fun i y hy=>?_⟩
  have hi:i<l.length:=by rw[hl];exact(abA.1 hy).1
  obtain⟨a1,a2⟩:=hh i _ (aaa hi)
  obtain⟨b1,b2⟩:=hx i _ y (aaa hi) hy
  refine⟨by omega,fun j e he=>?_⟩
  have hj:j<l[i].cells.length:=by have:=(abA.1 he).1;omega
  obtain⟨c1,c2,c3,c4⟩:=a2 j _ (aaa hj)
  obtain⟨d1,d2⟩:=b2 j _ e _ (aaa hj) he c1 c4
  exact⟨d1,c2,c3,d2⟩
def gV(sz n:Nat)(cell:Nat->Nat->Value):List Value:=(List.range (n*sz)).map fun q=>cell (q/sz) (q%sz)
theorem Aw(sz n:Nat)(cell:Nat->Nat->Value):(gV sz n cell).length=n*sz:=by simp[gV]
theorem BV{sz n i j:Nat}(cell:Nat->Nat->Value)(hi:i<n)(hj:j<sz):(gV sz n cell)[i*sz+j]?=some (cell i j):=by
 have h:=qW hi hj
 obtain⟨h1,h2⟩:=pY (i:=i) hj
 simp[gV,h,h1,h2]
theorem vc{P:Program}(t ty e:TypeId)(i:TypeInfo)(ht:P.underlying t=some (.slice e))(hi:P.info? e=some i)
 (g o Jb WK:Nat) (cur:Array Value) (tt:TypeId) (hg:w.heap[g]?=some (.cells cur tt (0,0)))
 (a:Addr) (m c:Nat) (news:List Value) (hl:news.length=m*i.size) (BW:∀j u,news[j]?=some u->w.cell? (a.add j)=some u) (h1:∀u∈news,u.oneCell'=true)
 (GH:Jb+m<=WK) (cL:o+Jb*i.size+news.length<=cur.size):
 (Builtin.append_ #[t,t] ty #[.slice (some ⟨g,o,none⟩) Jb WK,.slice (some a) m c]).run P w=
  .ok (.slice (some ⟨g,o,none⟩) (Jb+m) WK) (w.setRow g (cur.toList.take (o+Jb*i.size)++news++cur.toList.drop (o+Jb*i.size+news.length)).toArray):=by
 have hf:=run_firstCells_some (P:=P) w i.size m a m c news hl BW
 have aj:=run_storeCells_at P g (o+Jb*i.size) tt news 0 cur w hg (by simpa using cL) h1
 simp only[Nat.add_zero]at aj
 simp[Builtin.append_,run_underlying ht,sizeOf,typeInfo,hi,Builtin.lenOf,GH,hf,eL,aj]
def sd(n:Nat)(R S:Nat->Nat->DV->Value->Prop):Nat->Nat->DV->Value->Prop:=fun i j d u=>if i<n then R i j d u else S (i-n) j d u
def KI(w:World)(v v':Value)(w':World)(zs:List DV):Prop:=∀a n,v=.slice (some a) n n->zs≠[]->(∀b,b<w.heap.size->w'.heap[b]?=w.heap[b]?)/\∀b,cS v'=some b->w.heap.size<=b
theorem xC{P:Program}{t ty e:TypeId}{ti:TypeInfo}{z:Value}(ht:P.underlying t=some (.slice e))(hi:P.info? e=some ti)(hz:ti.zero=some z)(Rh:z.cells.size=ti.size)(dr:0<ti.size)
 {v sv:Value} {xs zs:List DV} {R S:Nat->Nat->DV->Value->Prop} (xB:wh w v ti.size xs R) (lW:qO w sv ti.size zs S)
 (GR:xs.length+zs.length<=9223372036854775807) (AA:(xs.length+zs.length)*ti.bytes<=140737488355328):
 ∃v' w',(Builtin.append_ #[t,t] ty #[v,sv]).run P w=.ok v' w'/\wh w' v' ti.size (xs++zs) (sd xs.length R S)/\w.grownBy w' (cS v)/\(∀b,cS v'=some b->w.heap.size<=b\/cS v=some b)/\v'.oneCell'=true/\KI w v v' w' zs:=by
 have vf:v.oneCell'=true:=by rcases xB with⟨_,rfl⟩|⟨_,_,_,_,_,rfl,_⟩<;>rfl
 have QQ:∀{c:Array Value} {o:Nat},(∀(i:Nat) (x:DV),xs[i]?=some x->x.cells.length=ti.size/\∀(j:Nat) (d:DV),x.cells[j]?=some d->d.ai=true/\∃u,c[o+i*ti.size+j]?=some u/\R i j d u)->
  ∀(i:Nat) (x:DV),xs[i]?=some x->x.cells.length=ti.size/\∀(j:Nat) (d:DV),x.cells[j]?=some d->d.ai=true/\∃u,c[o+i*ti.size+j]?=some u/\sd xs.length R S i j d u:=by
  intro c o hh i x hx
  obtain⟨a1,a2⟩:=hh i x hx
  refine⟨a1,fun j d hd=>?_⟩
  obtain⟨b1,u,b2,b3⟩:=a2 j d hd
  refine⟨b1,u,b2,?_⟩
  unfold sd
  rw[if_pos (abA.1 hx).1];exact b3
 have od:zs=[]->(Builtin.append_ #[t,t] ty #[v,sv]).run P w=.ok v w->∃v' w',(Builtin.append_ #[t,t] ty #[v,sv]).run P w=.ok v' w'/\wh w' v' ti.size (xs++zs) (sd xs.length R S)/\w.grownBy w' (cS v)/\(∀b,cS v'=some b->w.heap.size<=b\/cS v=some b)/\v'.oneCell'=true/\KI w v v' w' zs:=by
  rintro rfl hr
  refine⟨v,w,hr,?_,World.grownBy.refl w _,fun b hb=>.inr hb,vf,fun _ _ _ h=>absurd rfl h⟩
  rw[List.append_nil]
  rcases xB with h|⟨g,o,cap,cc,tt,hv,dW,hw,aW,DU⟩
  ·exact .inl h
  ·exact .inr ⟨g,o,cap,cc,tt,hv,dW,hw,aW,QQ DU⟩
 rcases lW with⟨c,rfl,ra⟩|⟨A,WL,cell,rfl,cH⟩
 ·refine od ra ?_
  rcases xB with⟨_,rfl⟩|⟨g,o,cap,cc,tt,rfl,dW,hw,aW,DU⟩
  ·simp[Builtin.append_,run_underlying ht,sizeOf,typeInfo,hi,Builtin.lenOf,Builtin.firstCells]
  ·simp[Builtin.append_,run_underlying ht,sizeOf,typeInfo,hi,Builtin.lenOf,Builtin.firstCells,dW,storeCells]
 ·obtain⟨m,rP⟩:∃m,m=zs.length:=⟨_,rfl⟩
  rw[<-rP]at GR AA od⊢
  have hlen:(gV ti.size m cell).length=m*ti.size:=Aw _ _ _
  have hq:∀q,q<m*ti.size->q/ti.size<m/\q%ti.size<ti.size/\q=q/ti.size*ti.size+q%ti.size:=fun q hq=>
   ⟨(Nat.div_lt_iff_lt_mul dr).2 hq,Nat.mod_lt _ dr,by have:=Nat.div_add_mod q ti.size;rw[Nat.mul_comm]at this;exact this.symm⟩
  have BW:∀j u,(gV ti.size m cell)[j]?=some u->w.cell? (A.add j)=some u:=by
   intro q u hu
   have au:q<m*ti.size:=by rw[<-hlen];exact(abA.1 hu).1
   obtain⟨h1,h2,h3⟩:=hq q au
   obtain⟨Vm,hl3⟩:=cH (q/ti.size) (zs[q/ti.size]'(by omega)) (aaa (by omega))
   have:=(hl3 (q%ti.size) _ (aaa (by rw[Vm];exact h2))).2.1
   rw[h3]at hu⊢
   rw[BV cell h1 h2]at hu
   rw[this];exact hu
  have wj:∀u,u∈gV ti.size m cell->u.oneCell'=true:=by
   intro u hu
   obtain⟨q,GJ,rfl⟩:=List.getElem_of_mem hu
   have au:q<m*ti.size:=by rw[<-hlen];exact GJ
   obtain⟨h1,h2,h3⟩:=hq q au
   obtain⟨Vm,hl3⟩:=cH (q/ti.size) (zs[q/ti.size]'(by omega)) (aaa (by omega))
   have hj:q%ti.size<(zs[q/ti.size]'(by omega)).cells.length:=by rw[Vm];exact h2
   have:=(hl3 (q%ti.size) _ (aaa hj)).2.2.1
   have he:(gV ti.size m cell)[q]=cell (q/ti.size) (q%ti.size):=by simp[gV]
   rw[he];exact this
  have reads:∀(c':Array Value) (o':Nat),
   (∀(i:Nat) (x:DV),xs[i]?=some x->x.cells.length=ti.size/\∀(j:Nat) (d:DV),x.cells[j]?=some d->d.ai=true/\∃u,c'[o'+i*ti.size+j]?=some u/\R i j d u)->
   (∀q,q<m*ti.size->c'[o'+xs.length*ti.size+q]?=(gV ti.size m cell)[q]?)->
   ∀(i:Nat) (x:DV),(xs++zs)[i]?=some x->x.cells.length=ti.size/\∀(j:Nat) (d:DV),x.cells[j]?=some d->d.ai=true/\∃u,c'[o'+i*ti.size+j]?=some u/\sd xs.length R S i j d u:=by
   intro c' o' hold j7 i x hx
   rw[List.getElem?_append]at hx
   split at hx
   ·exact QQ hold i x hx
   ·rename_i gG
    obtain⟨h1,h3⟩:=cH _ x hx
    have au:i-xs.length<m:=by rw[rP];exact(abA.1 hx).1
    refine⟨h1,fun j d hd=>?_⟩
    have hj:j<ti.size:=by rw[<-h1];exact(abA.1 hd).1
    obtain⟨k1,k2,k3,k4⟩:=h3 j d hd
    refine⟨k1,cell (i-xs.length) j,?_,by unfold sd;rw[if_neg gG];exact k4⟩
    have:=j7 ((i-xs.length)*ti.size+j) (qW au hj)
    rw[BV cell au hj]at this
    rw[<-this]
    congr 1
    have:i*ti.size=xs.length*ti.size+(i-xs.length)*ti.size:=by rw[<-Nat.add_mul];congr 1;omega
    omega
  by_cases AU:m=0
  ·have aa8:zs=[]:=List.eq_nil_of_length_eq_zero (by omega)
   subst AU
   clear reads wj BW hq hlen cH
   refine od aa8 ?_
   clear od QQ
   rcases xB with⟨_,rfl⟩|⟨g,o,cap,cc,tt,rfl,dW,hw,aW,DU⟩
   ·simp[Builtin.append_,run_underlying ht,sizeOf,typeInfo,hi,Builtin.lenOf,Builtin.firstCells,loadCells,loadCellsFrom]
   ·simp[Builtin.append_,run_underlying ht,sizeOf,typeInfo,hi,Builtin.lenOf,Builtin.firstCells,dW,storeCells,loadCells,loadCellsFrom]
  ·have QR:∀(Tl:List Value) (cp:Nat),Tl.length=xs.length*ti.size->xs.length+m<=cp->(∀(i:Nat) (x:DV),xs[i]?=some x->x.cells.length=ti.size/\∀(j:Nat) (d:DV),x.cells[j]?=some d->d.ai=true/\∃u,Tl[i*ti.size+j]?=some u/\R i j d u)->
       wh (w.drew.alloc (.cells (Tl.toArray++(gV ti.size m cell).toArray++Builtin.zeroCells z.cells (cp-(xs.length+m))) e)) (.slice (some ⟨w.heap.size,0,none⟩) (xs.length+m) cp) ti.size (xs++zs) (sd xs.length R S):=by
    intro Tl cp VU hcp hold
    refine .inr ⟨w.heap.size,0,cp,_,e,by simp[rP],by simpa[rP]using hcp,cF w.drew _,?_,reads _ 0 ?_ ?_⟩
    ·simp only[Array.size_append,List.size_toArray,size_zeroCells,Rh,VU,hlen,<-Nat.add_mul,Nat.zero_add]
     refine ab4 _ ?_
     omega
    ·intro i x hx
     obtain⟨h1,h3⟩:=hold i x hx
     refine⟨h1,fun j d hd=>?_⟩
     obtain⟨k1,u,hu,hr⟩:=h3 j d hd
     refine⟨k1,u,?_,hr⟩
     have au:=(abA.1 hu).1
     rw[Nat.zero_add,Array.getElem?_append,if_pos (by simp;omega),Array.getElem?_append,if_pos (by simpa using au)]
     simpa using hu
    ·intro q GJ
     rw[Nat.zero_add,Array.getElem?_append,if_pos (by simp[hlen,VU];omega),Array.getElem?_append,if_neg (by simp[VU])]
     simp[VU]
   rcases xB with⟨rfl,rfl⟩|⟨g,o,cap,cc,tt,rfl,dW,hw,aW,DU⟩
   ·have hr:=run_append_nil (P:=P) w t ty e ti z ht hi hz A m WL (gV ti.size m cell) hlen BW (by omega) (by simp at GR;omega) (by simp at AA;omega)
    have hg:=QR [] (grownCap w m 0 e) (by simp) (by simpa using grownCap_ge w m 0 e) (by simp)
    simp only[List.length_nil,Nat.zero_add,Array.empty_append]at hg
    refine⟨_,_,hr,by simpa using hg,⟨rfl,rfl,rfl,by simp,fun q hq _=>bD w.drew _ hq⟩,fun b hb=>?_,rfl,fun _ _ e=>by cases e⟩
    simp[cS]at hb;exact .inl (by omega)
   ·by_cases GH:xs.length+m<=cap
    ·have cL:o+xs.length*ti.size+(gV ti.size m cell).length<=cc.size:=by
      rw[hlen]
      have:(xs.length+m)*ti.size<=cap*ti.size:=ab4 _ GH
      rw[Nat.add_mul]at this
      omega
     have hr:=vc (P:=P) t ty e ti ht hi g o xs.length cap cc tt hw A m WL (gV ti.size m cell) hlen BW wj GH cL
     refine⟨_,_,hr,.inr ⟨g,o,cap,_,tt,by simp[rP],by simpa[rP]using GH,setRow_heap w g cc _ tt _ hw,?_,reads _ o ?_ ?_⟩,⟨rfl,rfl,rfl,by simp,fun q _ hq=>setRow_other w g q _ (fun x=>hq (by simp[cS,x]))⟩,fun b hb=>.inr hb,rfl,fun a n e hz=>?_⟩
     ·simp only[List.size_toArray,abM,abU,List.length_drop,Array.length_toList]
      omega
     ·intro i x hx
      obtain⟨h1,h3⟩:=DU i x hx
      refine⟨h1,fun j d hd=>?_⟩
      obtain⟨k1,u,hu,hr⟩:=h3 j d hd
      refine⟨k1,u,?_,hr⟩
      have hj:j<ti.size:=by rw[<-h1];exact(abA.1 hd).1
      have AE:=qW (abA.1 hx).1 hj
      have Az:o+i*ti.size+j<cc.size:=(abN.1 hu).1
      simp only[List.getElem?_toArray,ab0]
      rw[List.getElem?_append_left (by simp;omega),List.getElem?_take,if_pos (by omega)]
      simpa using hu
     ·intro q GJ
      simp only[List.getElem?_toArray,ab0]
      rw[List.getElem?_append_right (by simp;omega),List.getElem?_append_left (by simp;omega)]
      congr 1
      simp;omega
     ·exfalso
      simp only[Value.slice.injEq]at e
      have:zs.length≠0:=fun h=>hz (List.eq_nil_of_length_eq_zero h)
      omega
    ·have holds:∀j u,((List.range (xs.length*ti.size)).map fun q=>cc.getD (o+q) undef)[j]?=some u->w.cell? ((⟨g,o,none⟩:Addr).add j)=some u:=by
      intro j u hj
      simp only[abB]at hj
      by_cases au:j<xs.length*ti.size
      ·simp only[List.getElem?_range au,Option.map_some]at hj
       injection hj with hj
       have iF:o+j<cc.size:=by
        have:xs.length*ti.size<=cap*ti.size:=ab4 _ dW
        omega
       rw[eL]
       simp only[World.cell?,hw]
       rw[<-hj]
       simp[iF]
      ·simp[au]at hj
     have hr:=run_append_grow (P:=P) w t ty e ti z ht hi hz ⟨g,o,none⟩ xs.length cap ((List.range (xs.length*ti.size)).map fun q=>cc.getD (o+q) undef) (by simp) holds A m WL (gV ti.size m cell) hlen BW (by omega) (by omega) (growslice_fits (by omega) AA)
     have hg:=QR ((List.range (xs.length*ti.size)).map fun q=>cc.getD (o+q) undef) (grownCap w (xs.length+m) cap e) (by simp) (grownCap_ge w (xs.length+m) cap e) (by
      intro i x hx
      obtain⟨h1,h3⟩:=DU i x hx
      refine⟨h1,fun j d hd=>?_⟩
      obtain⟨k1,u,hu,hr⟩:=h3 j d hd
      have hj:j<ti.size:=by rw[<-h1];exact(abA.1 hd).1
      have AE:=qW (abA.1 hx).1 hj
      refine⟨k1,u,?_,hr⟩
      simp only[abB,List.getElem?_range AE,Option.map_some]
      rw[show o+(i*ti.size+j)=o+i*ti.size+j by omega,abK,hu]
      rfl)
     refine⟨_,_,hr,hg,⟨rfl,rfl,rfl,by simp,fun q hq _=>bD w.drew _ hq⟩,fun b hb=>?_,rfl,fun _ _ _ _=>⟨fun b hb=>bD w.drew _ hb,fun b hb=>?_⟩⟩
     ·simp[cS]at hb;exact .inl (by omega)
     ·simp[cS]at hb;omega
end
end
section
open Go.RowKit
variable [cj]
section
variable {w w':World}
theorem bu.sub{M:Mem}{h:List PS->Option Value}{d c:DV}{p:List PS}(ht:bu M w h d)(hp:get d p=some c)(hc:c.ao=true):bu M w (fun r=>h (p++r)) c:=by
 refine⟨hc,fun q m hq hm=>?_⟩
 obtain⟨v,h1,h2,h3⟩:=ht.2 (p++q) m (by rw[get_append,hp];exact hq) hm
 exact⟨v,h1,h2,by simpa only[ab0]using h3⟩
theorem iR.sub{h:List PS->Option Value}{d c:DV}{p:List PS}(hi:iR h d)(hp:get d p=some c):iR (fun r=>h (p++r)) c:=by
 intro q q' n m u v b e1 e2 e3 e4 f1 f2 f3 f4
 have:=hi (p++q) (p++q') n m u v b (by rw[get_append,hp];exact e1) e2 e3 e4 (by rw[get_append,hp];exact f1) f2 f3 f4
 exact List.append_cancel_left this
theorem bA.sub{h:List PS->Option Value}{d c:DV}{p:List PS}{b:Nat}(hp:get d p=some c)(ho:bA (fun r=>h (p++r)) c b):bA h d b:=by
 obtain⟨q,m,v,h1,h2,h3,h4⟩:=ho
 exact⟨p++q,m,v,by rw[get_append,hp];exact h1,h2,h3,h4⟩
theorem iR.iC{h h':List PS->Option Value}{d:DV}(hi:iR h d)(hh:∀p n v,get d p=some n->n.ao=true->h' p=some v->h p=some v):iR h' d:=
 fun p q n m u v b e1 e2 e3 e4 f1 f2 f3 f4=>hi p q n m u v b e1 e2 (hh p n u e1 e2 e3) e4 f1 f2 (hh q m v f1 f2 f3) f4
def KU:List PS->Option Value
 |[]=>some (.slice none 0 0)
 |_=>none
theorem xi{sz:Nat}{p:List PS}{m:DV}(h:get (.aB sz []) p=some m):p=[]/\m=.aB sz []:=by
 cases p with
 |nil=>simp[get]at h;exact⟨rfl,h.symm⟩
 |cons s p=>cases s<;>simp[get,step]at h
theorem xp(M:Mem)(w:World)(sz:Nat):bu M w KU (.aB sz []):=by
 refine⟨rfl,fun p m hp _=>?_⟩
 obtain⟨rfl,rfl⟩:=xi hp
 exact⟨_,rfl,rfl,.inl ⟨rfl,rfl⟩⟩
theorem B2(sz:Nat):iR KU (.aB sz []):=by
 intro p q n m u v b e1 _ _ _ f1 _ _ _
 rw[(xi e1).1,(xi f1).1]
theorem j6{sz b:Nat}(h:bA KU (.aB sz []) b):False:=by
 obtain⟨p,m,v,h1,_,h3,h4⟩:=h
 obtain⟨rfl,rfl⟩:=xi h1
 simp[KU]at h3
 subst h3
 simp[cS]at h4
def r9(n:Nat)(v:Value)(h hs:List PS->Option Value):List PS->Option Value
 |[]=>some v
 |.el i j::r=>if i<n then h (.el i j::r)else hs (.el (i-n) j::r)
 |s::r=>h (s::r)
inductive Src(M:Mem)(w:World)(x:Value)(sz:Nat)(ys:List DV)(hs:List PS->Option Value):Prop
 |closed (h:qO w x sz ys fun _ _ d u=>d.ao=false/\bz M d u) (hn:hs=fun _=>none)
 |tree (ht:bu M w hs (.aB sz ys)) (hi:iR hs (.aB sz ys)) (hx:hs []=some x)
theorem dC.cQ{M:Mem}{h:Option Value}{d:DV}{u:Value}(r:dC M h d u)(hc:d.ai=true)(ho:d.ao=true->∀v,h=some v->v.oneCell'=true):u.oneCell'=true:=by
 rcases r with⟨a,b⟩|⟨a,b⟩
 ·exact ho a u b
 ·exact b.cQ hc
theorem bu.QS{M:Mem}{h:List PS->Option Value}{d c:DV}{s:PS}(ht:bu M w h d)(hs:step d s=some c)(hc:c.ao=true){v:Value}(hv:h [s]=some v):v.oneCell'=true:=by
 obtain⟨u,h1,h2,_⟩:=ht.2 [s] c (by simp[get,hs]) hc
 rw[h1]at hv;injection hv with hv;subst hv;exact h2
theorem Src.Us{M:Mem}{x:Value}{sz:Nat}{ys:List DV}{hs:List PS->Option Value}(h:Src M w x sz ys hs):qO w x sz ys fun i j d u=>d.ai=true/\dC M (hs [.el i j]) d u:=by
 cases h with
 |closed h hn=>
  refine h.mono rfl fun i x' y hx hy=>?_
  rw[hx]at hy;injection hy with hy;subst hy
  refine⟨rfl,fun j d e u hd he B0 hS=>?_⟩
  rw[hd]at he;injection he with he;subst he
  exact⟨B0,B0,.inr hS⟩
 |tree ht hi hx=>
  obtain⟨v,h1,h2,h3⟩:=ht.2 [] _ rfl rfl
  rw[hx]at h1;injection h1 with h1;subst h1
  have h4:wh w x sz ys fun i j d u=>d.ai=true/\step (.aB sz ys) (.el i j)=some d/\dC M (hs [.el i j]) d u:=by
   rcases fM.1 h3 with h3|⟨g,o,cap,c,t,a1,a2,a3,a4,a5⟩
   ·exact .inl h3
   ·refine .inr ⟨g,o,cap,c,t,a1,a2,a3,a4,fun i y hy=>⟨(a5 i y hy).1,fun j d hd=>?_⟩⟩
    obtain⟨b1,u,b2,b3⟩:=(a5 i y hy).2 j d hd
    exact⟨b1,u,b2,b1,by simp only[step,hy];exact hd,b3⟩
  refine(qO.MW h4 fun i j d u hr _=>?_).mono rfl fun i x' y hx hy=>?_
  ·exact hr.2.2.cQ hr.1 fun ho v hv=>ht.QS hr.2.1 ho hv
  ·rw[hx]at hy;injection hy with hy;subst hy
   refine⟨rfl,fun j d e u hd he B0 hS=>?_⟩
   rw[hd]at he;injection he with he;subst he
   exact⟨B0,hS.1,hS.2.2⟩
theorem lX.length:∀{l r:List DV},lX l r->l.length=r.length
 |[],[],_=>rfl
 |_::_,_::_,h=>by simp[lX.length h.2]
 |[],_::_,h=>h.elim
 |_::_,[],h=>h.elim
theorem lX.at:∀{l r:List DV},lX l r->∀(j:Nat) (d e:DV),l[j]?=some d->r[j]?=some e->(d.ao=true/\d=e)\/(d.ao=false/\d.Le e)
 |[],[],_,j,d,e,h,_=>by simp at h
 |a::l,b::r,h,0,d,e,e1,e2=>by
  simp at e1 e2;subst e1;subst e2
  have:=h.1
  cases ho:a.ao with
  |true=>rw[ho]at this;exact .inl ⟨rfl,this⟩
  |false=>rw[ho]at this;exact .inr ⟨rfl,this⟩
 |a::l,b::r,h,j+1,d,e,e1,e2=>by simp at e1 e2;exact lX.at h.2 j d e e1 e2
 |[],_::_,h,_,_,_,_,_=>h.elim
 |_::_,[],h,_,_,_,_,_=>h.elim
theorem b7.length:∀{l r:List DV},b7 l r->l.length=r.length
 |[],[],_=>rfl
 |_::_,_::_,h=>by simp[b7.length h.2]
 |[],_::_,h=>h.elim
 |_::_,[],h=>h.elim
theorem b7.at:∀{l r:List DV},b7 l r->∀(i:Nat) (x y:DV),l[i]?=some x->r[i]?=some y->lX x.cells y.cells
 |[],[],_,j,d,e,h,_=>by simp at h
 |a::l,b::r,h,0,d,e,e1,e2=>by simp at e1 e2;subst e1;subst e2;exact h.1
 |a::l,b::r,h,j+1,d,e,e1,e2=>by simp at e1 e2;exact b7.at h.2 j d e e1 e2
 |[],_::_,h,_,_,_,_,_=>h.elim
 |_::_,[],h,_,_,_,_,_=>h.elim
theorem bz.ai{M:Mem}{d:DV}{v:Value}(h:bz M d v)(hv:v.oneCell'=true):d.ai=true:=by
 cases h with
 |agg=>simp[Value.oneCell']at hv
 |_=>rfl
theorem dC.le{M:Mem}{h:Option Value}{d e:DV}{u:Value}(r:dC M h d u)(hle:(d.ao=true/\d=e)\/(d.ao=false/\d.Le e))(hc:d.ai=true):e.ai=true/\dC M h e u/\(e.ao=true->d=e):=by
 rcases hle with⟨h1,rfl⟩|⟨h1,h2⟩
 ·exact⟨hc,r,fun _=>rfl⟩
 ·rcases r with⟨a,b⟩|⟨a,b⟩
  ·rw[h1]at a;cases a
  ·have h3:=h2 M u b
   exact⟨h3.ai (b.cQ hc),.inr ⟨h3.fH,h3⟩,fun ho=>by rw[h3.fH]at ho;cases ho⟩
theorem D8{P:Program}{T:List TI}(hT:eV P T){t ty:TypeId}(cB:(nth T t).ok=true)(iQ:(nth T t).isSl=true)(tK:(nth T (nth T t).elem).ok=true)(dr:0<(nth T (nth T t).elem).size)
 {M:Mem} {h hs:List PS->Option Value} {l ys zs:List DV} {v x:Value} (ht:bu M w h (.aB (nth T (nth T t).elem).size l)) (hi:iR h (.aB (nth T (nth T t).elem).size l)) (hv:h []=some v)
 (lW:Src M w x (nth T (nth T t).elem).size ys hs) (WM:∀b,bA h (.aB (nth T (nth T t).elem).size l) b->¬bA hs (.aB (nth T (nth T t).elem).size ys) b) (au:∀b,bA hs (.aB (nth T (nth T t).elem).size ys) b->b<w.heap.size) (hle:b7 ys zs)
 (GR:l.length+zs.length<=9223372036854775807) (AA:(l.length+zs.length)*(nth T (nth T t).elem).bytes<=140737488355328):
 ∃v' w',(Builtin.append_ #[t,t] ty #[v,x]).run P w=.ok v' w'/\w.grownBy w' (cS v)/\v'.oneCell'=true/\bu M w' (r9 l.length v' h hs) (.aB (nth T (nth T t).elem).size (l++zs))/\iR (r9 l.length v' h hs) (.aB (nth T (nth T t).elem).size (l++zs))/\
  ∀b,bA (r9 l.length v' h hs) (.aB (nth T (nth T t).elem).size (l++zs)) b->bA h (.aB (nth T (nth T t).elem).size l) b\/bA hs (.aB (nth T (nth T t).elem).size ys) b\/w.heap.size<=b:=by
 obtain⟨i,u,z,tf⟩:=hT.facts cB
 obtain⟨te,ue,ze,jO⟩:=hT.facts tK
 generalize aW:(nth T (nth T t).elem).size=sz at*
 have sb:te.size=sz:=by rw[<-aW,jO.size]
 obtain⟨v0,GL,vf,bn⟩:=ht.2 [] _ rfl rfl
 rw[hv]at GL;injection GL with GL;subst GL
 have xB:=fM.1 bn
 have hsg:=lW.Us
 have Na:qO w x sz zs fun i j d u=>d.ai=true/\dC M (hs [.el i j]) d u:=by
  refine hsg.mono hle.length fun i x y hx hy=>?_
  have h1:=hle.at i x y hx hy
  refine⟨h1.length,fun j d e u hd he B0 hS=>?_⟩
  obtain⟨k1,k2,_⟩:=hS.2.le (h1.at j d e hd he) B0
  exact⟨k1,k1,k2⟩
 have zL:∀i j e,step (.aB sz zs) (.el i j)=some e->e.ao=true->step (.aB sz ys) (.el i j)=some e:=by
  intro i j e he ho
  simp only[step]at he⊢
  split at he
  ·rename_i y hy
   have zO:i<ys.length:=by rw[hle.length];exact(abA.1 hy).1
   have hx:ys[i]?=some ys[i]:=aaa zO
   rw[hx]
   have h1:=hle.at i _ y hx hy
   have hj:j<ys[i].cells.length:=by rw[h1.length];exact(abA.1 he).1
   have hd:ys[i].cells[j]?=some ys[i].cells[j]:=aaa hj
   simp only
   rcases h1.at j _ e hd he with⟨a,b⟩|⟨a,b⟩
   ·rw[hd,b]
   ·-- a closed cell aa9 aba an ao one:there is a value of it
    rcases hsg with⟨c,_,ra⟩|⟨A,cap,cell,_,cH⟩
    ·rw[ra]at zO;simp at zO
    ·obtain⟨_,h3⟩:=cH i _ hx
     obtain⟨_,_,_,h4⟩:=h3 j _ hd
     rcases h4.2 with⟨c1,_⟩|⟨_,c2⟩
     ·rw[a]at c1;cases c1
     ·rw[(b M _ c2).fH]at ho;cases ho
  ·cases he
 have Xz:ze.cells.size=te.size:=by
  have:=(eJ (M:=M) jO.zc).1.1
  simp at this
  rw[<-this,jO.zl]
 obtain⟨v',w',aZ,Ek,mu,hblk,GZ,_⟩:=xC (P:=P) (t:=t) (ty:=ty) (tf.slice iQ) jO.info jO.zero Xz (by rw[sb];exact dr) (by rw[sb];exact xB) (by rw[sb];exact Na) GR (by rw[<-jO.bytes];exact AA)
 rw[sb]at Ek
 refine⟨v',w',aZ,mu,GZ,?_⟩
 have QT:∀b,b<w.heap.size->cS v≠some b->w'.heap[b]?=w.heap[b]?:=fun b hb ck=>mu.block b hb (fun e=>ck e.symm)
 have WN:cD M w' v' (fun s=>r9 l.length v' h hs ([]++[s])) (.aB sz (l++zs)):=by
  refine fM.2 ?_
  rcases Ek with h1|⟨g,o,cap,c,tt,a1,a2,a3,a4,a5⟩
  ·exact .inl h1
  ·refine .inr ⟨g,o,cap,c,tt,a1,a2,a3,a4,fun i x hx=>⟨(a5 i x hx).1,fun j d hd=>?_⟩⟩
   obtain⟨b1,u,b2,b3⟩:=(a5 i x hx).2 j d hd
   refine⟨b1,u,b2,?_⟩
   unfold sd at b3
   simp only[List.nil_append,r9]
   split at b3
   ·rename_i iF;rw[if_pos iF];exact b3
   ·rename_i iF;rw[if_neg iF];exact b3.2
 have WO:∀i j c,i<l.length->(step (.aB sz (l++zs)) (.el i j)=some c↔step (.aB sz l) (.el i j)=some c):=by
  intro i j c iF
  simp only[step]
  rw[List.getElem?_append_left iF]
 have Jc:∀i j c,¬i<l.length->step (.aB sz (l++zs)) (.el i j)=some c->step (.aB sz zs) (.el (i-l.length) j)=some c:=by
  intro i j c gG hc
  simp only[step]at hc⊢
  rw[List.getElem?_append_right (by omega)]at hc
  exact hc
 have el:∀s c,step (.aB sz (l++zs)) s=some c->∃i j,s=.el i j:=by
  intro s c cY
  cases s with
  |el i j=>exact⟨i,j,rfl⟩
  |key=>simp[step]at cY
 have sub:∀i j c,¬i<l.length->step (.aB sz (l++zs)) (.el i j)=some c->c.ao=true->bu M w' (fun r=>hs (.el (i-l.length) j::r)) c/\iR (fun r=>hs (.el (i-l.length) j::r)) c/\∀b,bA (fun r=>hs (.el (i-l.length) j::r)) c b->bA hs (.aB sz ys) b:=by
  intro i j c gG hc ho
  have h1:=zL _ _ _ (Jc i j c gG hc) ho
  have hg:get (.aB sz ys) [.el (i-l.length) j]=some c:=by simp[get,h1]
  cases lW with
  |closed mX hn=>
   exfalso
   rcases mX with⟨_,_,ra⟩|⟨A,cap,cell,_,cH⟩
   ·subst ra;simp[step]at h1
   ·simp only[step]at h1
    split at h1
    ·rename_i x hx
     obtain⟨_,h3⟩:=cH _ x hx
     have:=(h3 j c h1).2.2.2.1
     rw[ho]at this;cases this
    ·cases h1
  |tree aj ZY hsx=>
   have t1:=aj.sub hg ho
   have t2:∀b,bA (fun r=>hs ([.el (i-l.length) j]++r)) c b->bA hs (.aB sz ys) b:=fun b hb=>hb.sub hg
   refine⟨t1.iC (Mem.Le.refl _) (fun b hb=>QT b (au b (t2 b hb)) fun e=>?_) (fun _ _ _ _ _ q=>q),ZY.sub hg,t2⟩
   exact WM b ⟨[],_,v,rfl,rfl,hv,e⟩ (t2 b hb)
 have main:=bu.qS (w:=w) (w':=w') (h':=r9 l.length v' h hs) (p:=[]) (n:=.aB sz l) (n':=.aB sz (l++zs)) (v:=v) (v':=v') (fun s=>∃i j,s=.el i j/\¬i<l.length) ht hi rfl rfl hv rfl rfl GZ (.inl rfl) WN
  (fun q hq=>absurd (List.nil_prefix) hq)
  (fun s c cY ho hN=>by
   obtain⟨i,j,rfl⟩:=el s c cY
   by_cases iF:i<l.length
   ·exact⟨(WO i j c iF).1 cY,fun r=>by simp only[List.nil_append,r9,if_pos iF]⟩
   ·exact absurd ⟨i,j,rfl,iF⟩ hN)
  (fun s c cY ho hN=>by
   obtain⟨i,j,rfl,gG⟩:=hN
   obtain⟨t1,t2,t3⟩:=sub i j c gG cY ho
   have e:(fun r=>r9 l.length v' h hs ([]++.el i j::r))=fun r=>hs (.el (i-l.length) j::r):=by funext r;simp only[List.nil_append,r9,if_neg gG]
   rw[e]
   refine⟨t1,t2,fun b hb=>⟨fun ju=>WM b ju (t3 b hb),fun dI=>?_⟩⟩
   rcases hblk b dI with h5|h5
   ·have:=au b (t3 b hb);omega
   ·exact WM b ⟨[],_,v,rfl,rfl,hv,h5⟩ (t3 b hb))
  (fun s s' c c' b js M4 Up lJ MJ Xv jP cd=>by
   obtain⟨i,j,rfl,gG⟩:=Up
   obtain⟨i',j',rfl,Z8⟩:=Xv
   have e:∀i j,¬i<l.length->(fun r=>r9 l.length v' h hs ([]++.el i j::r))=fun r=>hs (.el (i-l.length) j::r):=fun i j gG=>by funext r;simp only[List.nil_append,r9,if_neg gG]
   rw[e i j gG]at jP
   rw[e i' j' Z8]at cd
   have g1:=zL _ _ _ (Jc i j c gG js) M4
   have g2:=zL _ _ _ (Jc i' j' c' Z8 lJ) MJ
   cases lW with
   |closed mX hn=>rw[hn]at jP;obtain⟨_,_,_,_,_,q,_⟩:=jP;cases q
   |tree aj ZY hsx=>
    obtain⟨q,m,u,a1,a2,a3,a4⟩:=jP
    obtain⟨q',m',u',b1,b2,b3,b4⟩:=cd
    have:=ZY (.el (i-l.length) j::q) (.el (i'-l.length) j'::q') m m' u u' b (by simp only[get,g1];exact a1) a2 a3 a4 (by simp only[get,g2];exact b1) b2 b3 b4
    injection this with e1 e2
    injection e1 with e1 e3
    have:i=i':=by omega
    rw[this,e3])
  (fun b hb=>by
   rcases hblk b hb with h5|h5
   ·right;intro ho
    obtain⟨p,m,u,a1,a2,a3,a4⟩:=ho
    obtain⟨u',c1,_,c3⟩:=ht.2 p m a1 a2
    rw[a3]at c1;injection c1 with c1;subst c1
    have:=yc c3 a4;omega
   ·exact .inl h5)
  (fun b ho ck=>by
   obtain⟨p,m,u,a1,a2,a3,a4⟩:=ho
   obtain⟨u',c1,_,c3⟩:=ht.2 p m a1 a2
   rw[a3]at c1;injection c1 with c1;subst c1
   exact QT b (yc c3 a4) ck)
 obtain⟨m1,m2,m3⟩:=main
 refine⟨m1,m2,fun b hb=>?_⟩
 rcases m3 b hb with h1|h1|⟨s,c,s1,s2,⟨i,j,rfl,gG⟩,s4⟩
 ·exact .inl h1
 ·rcases hblk b h1 with h5|h5
  ·exact .inr (.inr h5)
  ·exact .inl ⟨[],_,v,rfl,rfl,hv,h5⟩
 ·have e:(fun r=>r9 l.length v' h hs ([]++.el i j::r))=fun r=>hs (.el (i-l.length) j::r):=by funext r;simp only[List.nil_append,r9,if_neg gG]
  rw[e]at s4
  exact .inr (.inl ((sub i j c gG s1 s2).2.2 b s4))
end
end
section
open Go.RowKit
variable [cj]
theorem MG{d nq n:DV}{q:List PS}{s:PS}{c:DV}(hq:get d q=some nq)(hs:step nq s=some c):dM d (q++[s]) n=dM d q (put nq s n):=by
 induction q generalizing d with
 |nil=>simp[get]at hq;subst hq;simp[dM,hs]
 |cons s' q ih=>
  simp only[get]at hq
  simp only[List.cons_append,dM]
  cases h1:step d s' with
  |none=>simp[h1]at hq
  |some c1=>rw[h1]at hq;simp only[ih hq]
theorem bu.lt{M:Mem}{w:World}{h:List PS->Option Value}{d:DV}(ht:bu M w h d){b:Nat}(ho:bA h d b):b<w.heap.size:=by
 obtain⟨p,m,u,a1,a2,a3,a4⟩:=ho
 obtain⟨u',c1,_,c3⟩:=ht.2 p m a1 a2
 rw[a3]at c1;injection c1 with c1;subst c1
 exact yc c3 a4
theorem bu.forget{M:Mem}{w:World}{h:List PS->Option Value}{d c:DV}{p:List PS}(ht:bu M w h d)(hi:iR h d)(hp:get d p=some c)(hc:c.ao=true)(ck:p≠[]):
 bu M w h (dM d p .any)/\iR h (dM d p .any)/\∀b,bA h (dM d p .any) b->bA h d b/\¬bA (fun r=>h (p++r)) c b:=by
 have dN:∀(q:List PS) (x:DV),get d q=some x->q≠[]->x.ai=true:=fun q x hx _=>ht.cells q x hx
 have ow:∀b,bA h (dM d p .any) b->bA h d b->¬bA (fun r=>h (p++r)) c b:=by
  rintro b ⟨q,m,u,a1,a2,a3,a4⟩ _ ⟨r,m',u',b1,b2,b3,b4⟩
  by_cases tM:p <+: q
  ·obtain⟨r',rfl⟩:=eb tM
   rw[nh hp rfl dN]at a1
   cases r' with
   |nil=>simp[get]at a1;subst a1;cases a2
   |cons s r'=>simp[get,step]at a1
  ·rw[ni rfl dN tM]at a1
   cases hx:get d q with
   |none=>rw[hx]at a1;cases a1
   |some x=>
    rw[hx]at a1
    simp only[Option.some.injEq]at a1
    have Sr:x.ao=true:=by
     by_cases hq:q <+: p
     ·rw[if_pos hq]at a1
      obtain⟨r',rfl⟩:=eb hq
      cases r' with
      |nil=>exact absurd (by simp) tM
      |cons s r'=>simp only[List.drop_left]at a1;rw[<-a1,lF]at a2;exact a2
     ·rw[if_neg hq]at a1;rw[a1];exact a2
    have:=hi q (p++r) x m' u u' b hx Sr a3 a4 (by rw[get_append,hp];exact b1) b2 b3 b4
    exact tM ⟨r,this.symm⟩
 rcases List.eq_nil_or_concat p with rfl|⟨q,s,rfl⟩
 ·exact absurd rfl ck
 ·rw[List.concat_eq_append]at hp ow⊢
  rw[get_append]at hp
  cases hq:get d q with
  |none=>rw[hq]at hp;cases hp
  |some nq=>
   rw[hq]at hp
   simp only[get]at hp
   cases hs:step nq s with
   |none=>rw[hs]at hp;cases hp
   |some c0=>
    rw[hs]at hp
    simp at hp
    subst hp
    have hnq:=fI hs
    obtain⟨v,hv,vf,bn⟩:=ht.2 q nq hq hnq
    rw[MG hq hs]at ow⊢
    have Eg:cD M w v (fun s=>h (q++[s])) (put nq s .any):=by
     refine bn.Kc hs rfl fun u hr=>.inr ⟨rfl,.any u ?_⟩
     rcases hr with⟨_,b⟩|⟨a,_⟩
     ·obtain⟨u',c1,c2,_⟩:=ht.2 (q++[s]) c0 (by rw[get_append,hq];simp[get,hs]) hc
      have b':h (q++[s])=some u:=b
      rw[c1]at b';injection b' with b';subst b';exact c2
     ·rw[hc]at a;cases a
    obtain⟨m1,m2,m3⟩:=bu.qS (w:=w) (w':=w) (h':=h) (n':=put nq s .any) (fun _=>False) ht hi hq hnq hv (by rw[qM];exact hnq) hv vf (.inr rfl) Eg (fun _ _=>rfl)
     (fun s' c' cY ho _=>by
      by_cases e:s=s'
      ·subst e;rw[lV hs rfl]at cY;injection cY with cY;subst cY;cases ho
      ·rw[oE rfl e]at cY;exact⟨cY,fun _=>rfl⟩)
     (fun _ _ _ _ hN=>hN.elim) (fun _ _ _ _ _ _ _ hN=>hN.elim) (fun b hb=>.inl hb) (fun _ _ _=>rfl)
    refine⟨m1,m2,fun b hb=>?_⟩
    have h1:bA h d b:=by
     rcases m3 b hb with h1|h1|⟨_,_,_,_,hN,_⟩
     ·exact h1
     ·exact⟨q,nq,v,hq,hnq,hv,h1⟩
     ·exact hN.elim
    exact⟨h1,ow b hb h1⟩
section
variable {g:dO} {n:Nat} {ρ:Nat->AV} {κ κ':Nat->ar} {a:Act} {w w':World} {G:Gh}
theorem cu.split(h:cu g n ρ κ a w G){i nx ver ep:Nat}{d c:DV}{p:List PS}(hi:κ i=.tree ver ep d)(hx:κ nx=.none)(hp:get d p=some c)(hc:c.ao=true)(ck:p≠[])(h1:κ' i=.tree ver (ep+1) (dM d p .any))(h2:κ' nx=.tree 0 0 c)(h3:∀j,j≠i->j≠nx->κ' j=κ j):
 ∃G',Gh.Le G G'/\G'.M=G.M/\G'.β=G.β/\(∀r,aJ G'.H nx 0 0 r=aJ G.H i ver ep (p++r))/\cu g n ρ κ' a w G':=by
 have Pl:i≠nx:=fun e=>by rw[e,hx]at hi;cases hi
 have mY:=h.fit.box i
 have eE:=h.fit.box nx
 rw[hi]at mY
 rw[hx]at eE
 obtain⟨ht,gA,Ej,dF⟩:=mY
 obtain⟨f1,f2,f3⟩:=ht.forget gA hp hc ck
 have A5:∀r,p++r≠[]:=fun r e=>ck (List.append_eq_nil_iff.1 e).1
 let fi:Nat->Nat->List PS->Option Value:=fun v e q=>if v=ver/\e=ep+1/\q≠[]then aJ G.H i ver ep q else G.H i v e q
 let fx:Nat->Nat->List PS->Option Value:=fun v e q=>if v=0/\e=0 then aJ G.H i ver ep (p++q)else none
 let G':Gh:={ G with H:=sG (sG G.H i fi) nx fx }
 have Z9:G'.H i=fi:=by show sG (sG G.H i fi) nx fx i=fi;rw[kN _ _ Pl,mI]
 have hHx:G'.H nx=fx:=mI _ _ _
 have hHo:∀j,j≠i->j≠nx->G'.H j=G.H j:=fun j e1 e2=>by show sG (sG G.H i fi) nx fx j=_;rw[kN _ _ e2,kN _ _ e1]
 have Ep:aJ G'.H i ver (ep+1)=aJ G.H i ver ep:=by
  funext q
  cases q with
  |nil=>simp only[aJ,Z9];show(if _ then _ else _)=_;rw[if_neg (by simp)]
  |cons s q=>simp only[aJ,Z9];show(if _ then _ else _)=_;rw[if_pos ⟨rfl,rfl,by simp⟩];rfl
 have hhx:aJ G'.H nx 0 0=fun r=>aJ G.H i ver ep (p++r):=by
  funext q
  cases q with
  |nil=>show G'.H nx 0 0 []=_;rw[hHx];show(if 0=0/\0=0 then aJ G.H i ver ep (p++[])else none)=_;rw[if_pos ⟨rfl,rfl⟩]
  |cons s q=>show G'.H nx 0 0 (s::q)=_;rw[hHx];show(if 0=0/\0=0 then aJ G.H i ver ep (p++s::q)else none)=_;rw[if_pos ⟨rfl,rfl⟩]
 have hle:Gh.Le G G':=⟨Mem.Le.refl _,fun _ _ q=>q,fun j v e q x hq=>by
  by_cases e1:j=i
  ·subst e1
   rw[Z9]
   show(if v=ver/\e=ep+1/\q≠[]then _ else _)=_
   split
   ·rename_i jt;obtain⟨rfl,rfl,_⟩:=jt;rw[dF (ep+1) (by omega)]at hq;cases hq
   ·exact hq
  ·by_cases e2:j=nx
   ·subst e2;rw[eE.2]at hq;cases hq
   ·rw[hHo j e1 e2];exact hq⟩
 have WQ:∀b,cx G' i (κ' i) b->bA (aJ G.H i ver ep) d b/\¬bA (fun r=>aJ G.H i ver ep (p++r)) c b:=fun b hb=>by
  rw[h1]at hb;simp only[cx]at hb;rw[Ep]at hb;exact f3 b hb
 have WR:∀b,cx G' nx (κ' nx) b->bA (fun r=>aJ G.H i ver ep (p++r)) c b:=fun b hb=>by
  rw[h2]at hb;simp only[cx]at hb;rw[hhx]at hb;exact hb
 refine⟨G',hle,rfl,rfl,fun r=>congrFun hhx r,h.r6 (C:=fun j=>j=i\/j=nx) ⟨hle,fun _ _=>rfl,fun j hj=>h3 j (fun e=>hj (.inl e)) (fun e=>hj (.inr e)),fun j hj=>⟨fun _ q=>q,fun v e q x hq=>?_⟩,fun _ _ _=>⟨rfl,rfl⟩,h.fit.sub,?_,?_,?_,ab3 _,rfl,rfl,rfl⟩ (fun _ _=>rfl)⟩
 ·rw[hHo j (fun e=>hj (.inl e)) (fun e=>hj (.inr e))]at hq;exact hq
 ·rintro j (rfl|rfl)
  ·rw[h1]
   refine⟨by rw[Ep];exact f1,by rw[Ep];exact f2,fun v hv e q=>?_,fun e he q=>?_⟩
   ·rw[Z9];show(if v=ver/\_ then _ else _)=_;rw[if_neg (by omega)];exact Ej v hv e q
   ·rw[Z9];show(if ver=ver/\e=ep+1/\q≠[]then _ else _)=_;rw[if_neg (by omega)];exact dF e (by omega) q
  ·rw[h2]
   refine⟨by rw[hhx];exact ht.sub hp hc,by rw[hhx];exact gA.sub hp,fun v hv e q=>?_,fun e he q=>?_⟩
   ·rw[hHx];show(if v=0/\e=0 then _ else _)=_;rw[if_neg (by omega)]
   ·rw[hHx];show(if 0=0/\e=0 then _ else _)=_;rw[if_neg (by omega)]
 ·rintro j b (rfl|rfl) hb
  ·have dI:=(WQ b hb).1
   have:cx G j (κ j) b:=by rw[hi];exact dI
   exact⟨.inr ⟨j,.inl rfl,this⟩,h.fit.own j b this⟩
  ·have dI:=(WR b hb).sub hp
   have:cx G i (κ i) b:=by rw[hi];exact dI
   exact⟨.inr ⟨i,.inl rfl,this⟩,h.fit.own i b this⟩
 ·rintro j j' b (rfl|rfl) (rfl|rfl) hb dI
  ·rfl
  ·exact absurd (WR b dI) (WQ b hb).2
  ·exact absurd (WR b hb) (WQ b dI).2
  ·rfl
end
end
end Go.TM
