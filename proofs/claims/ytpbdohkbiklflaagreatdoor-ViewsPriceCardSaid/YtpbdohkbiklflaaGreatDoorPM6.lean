import Derived.Test.YtpbdohkbiklflaaGreatDoorPM5
set_option linter.unusedVariables false
set_option linter.unusedSimpArgs false
set_option linter.unusedSectionVars false
namespace Go.TM
open Go.RowKit
variable [ct]
theorem og {i j sz:Nat} (hj:j<sz):(i * sz+j) / sz=i∧(i * sz+j) % sz=j:=by
 have eJ:0<sz:=by omega
 constructor
 ·rw [Nat.mul_comm,Nat.mul_add_div eJ,Nat.div_eq_of_lt hj]; omega
 ·rw [Nat.mul_comm,Nat.mul_add_mod,Nat.mod_eq_of_lt hj]
theorem pM {i j n sz:Nat} (hi:i<n) (hj:j<sz):i * sz+j<n * sz:=by
 have:(i+1) * sz≤n * sz:=Nat.mul_le_mul_right _ hi
 rw [Nat.add_mul] at this
 omega
def oo (w:World) (v:Value) (sz:Nat) (l:List DV) (R:Nat→Nat→DV→Value→Prop):Prop :=
 (l=[]∧v=.slice none 0 0) ∨
 ∃g o cap c t,v=.slice (some ⟨g,o,none⟩) l.length cap∧l.length≤cap∧w.heap[g]?=some (.cells c t (0,0))∧o+cap * sz≤c.size ∧
  ∀(i:Nat) (x:DV),l[i]?=some x→x.cells.length=sz∧∀(j:Nat) (d:DV),x.cells[j]?=some d→d.ak=true∧∃u,c[o+i * sz+j]?=some u∧R i j d u
theorem jT {M:Mem} {w:World} {v:Value} {hc:PS→Option Value} {sz:Nat} {l:List DV}:bW M w v hc (.ay sz l) ↔ oo w v sz l fun i j d u=>de M (hc (.el i j)) d u:=Iff.rfl
def oq (w:World) (v:Value) (sz:Nat) (l:List DV) (S:Nat→Nat→DV→Value→Prop):Prop :=
 (∃c,v=.slice none 0 c∧l=[]) ∨
 ∃(A:Addr) (cap:Nat) (cell:Nat→Nat→Value),v=.slice (some A) l.length cap∧∀(i:Nat) (x:DV),l[i]?=some x→x.cells.length=sz ∧
  ∀(j:Nat) (d:DV),x.cells[j]?=some d→d.ak=true∧w.cell? (A.add (i * sz+j))=some (cell i j)∧(cell i j).oneCell'=true∧S i j d (cell i j)
section
variable {w:World}
theorem oq.Tn {M:Mem} {sz:Nat} {l:List DV} {v:Value} (eo:M.In w) (h:bk M (.sl sz l) v):oq w v sz l fun _ _ d u=>bk M d u:=by
 cases h with
 | slnil=>exact .inl ⟨0,rfl,rfl⟩
 | sl _ _ A cap cell ek hlen hc hr =>
  refine .inr ⟨A,cap,cell,rfl,fun i x hx=>?_⟩
  have hm:=hlen x (List.mem_of_getElem? hx)
  refine ⟨hm.1,fun j d hd=>⟨hm.2 d (List.mem_of_getElem? hd),eo.cell (hc i j (List.getElem?_eq_some_iff.1 hx).1 ?_),(hr i x j d hx hd).cJ (hm.2 d (List.mem_of_getElem? hd)),hr i x j d hx hd⟩⟩
  rw [←hm.1]; exact (List.getElem?_eq_some_iff.1 hd).1
theorem oq.LI {sz:Nat} {l:List DV} {v:Value} {R:Nat→Nat→DV→Value→Prop} (h:oo w v sz l R) (h1:∀i j d u,R i j d u→d.ak=true→u.oneCell'=true):oq w v sz l R:=by
 rcases h with ⟨rfl,rfl⟩ | ⟨g,o,cap,c,t,rfl,ek,hw,aT,Ds⟩
 ·exact .inl ⟨0,rfl,rfl⟩
 ·refine .inr ⟨⟨g,o,none⟩,cap,fun i j=>c.getD (o+i * sz+j) undef,rfl,fun i x hx=>?_⟩
  obtain ⟨a1,a2⟩:=Ds i x hx
  refine ⟨a1,fun j d hd=>?_⟩
  obtain ⟨b1,u,hu,hr⟩:=a2 j d hd
  have e:c.getD (o+i * sz+j) undef=u:=by rw [Array.getD_eq_getD_getElem?,hu]; rfl
  refine ⟨b1,?_,?_,?_⟩
  ·rw [cE]
   simp only [World.cell?,hw]
   rw [show o+(i * sz+j)=o+i * sz+j by omega,e]
   simpa using hu
  ·show (c.getD (o+i * sz+j) undef).oneCell'=true
   rw [e]; exact h1 i j d u hr b1
  ·show R i j d (c.getD (o+i * sz+j) undef)
   rw [e]; exact hr
theorem oq.mono {sz:Nat} {l l':List DV} {v:Value} {S S':Nat→Nat→DV→Value→Prop} (h:oq w v sz l S) (hl:l.length=l'.length)
  (hx:∀(i:Nat) (x y:DV),l[i]?=some x→l'[i]?=some y→x.cells.length=y.cells.length∧∀(j:Nat) (d e:DV) (u:Value),x.cells[j]?=some d→y.cells[j]?=some e→d.ak=true→S i j d u→e.ak=true∧S' i j e u):oq w v sz l' S':=by
 rcases h with ⟨c,rfl,rfl⟩ | ⟨A,cap,cell,rfl,hh⟩
 ·exact .inl ⟨c,rfl,by simpa using hl.symm⟩
 ·refine .inr ⟨A,cap,cell,by rw [hl],fun i y hy=>?_⟩
  have hi:i<l.length:=by rw [hl]; exact (List.getElem?_eq_some_iff.1 hy).1
  obtain ⟨a1,a2⟩:=hh i _ (List.getElem?_eq_getElem hi)
  obtain ⟨b1,b2⟩:=hx i _ y (List.getElem?_eq_getElem hi) hy
  refine ⟨by omega,fun j e he=>?_⟩
  have hj:j<l[i].cells.length:=by have:=(List.getElem?_eq_some_iff.1 he).1; omega
  obtain ⟨c1,c2,c3,c4⟩:=a2 j _ (List.getElem?_eq_getElem hj)
  obtain ⟨d1,d2⟩:=b2 j _ e _ (List.getElem?_eq_getElem hj) he c1 c4
  exact ⟨d1,c2,c3,d2⟩
def fH (sz n:Nat) (cell:Nat→Nat→Value):List Value:=(List.range (n * sz)).map fun q=>cell (q / sz) (q % sz)
theorem xM (sz n:Nat) (cell:Nat→Nat→Value):(fH sz n cell).length=n * sz:=by simp [fH]
theorem y3 {sz n i j:Nat} (cell:Nat→Nat→Value) (hi:i<n) (hj:j<sz):(fH sz n cell)[i * sz+j]?=some (cell i j):=by
 have h:=pM hi hj
 obtain ⟨h1,h2⟩:=og (i:=i) hj
 simp [fH,h,h1,h2]
theorem gR {P:Program} (t ty e:TypeId) (i:TypeInfo) (ht:P.underlying t=some (.slice e)) (hi:P.info? e=some i)
  (g o tH HQ:Nat) (cur:Array Value) (tt:TypeId) (hg:w.heap[g]?=some (.cells cur tt (0,0)))
  (a:Addr) (m c:Nat) (news:List Value) (hl:news.length=m * i.size) (y4:∀j u,news[j]?=some u→w.cell? (a.add j)=some u) (h1:∀u∈news,u.oneCell'=true)
  (wh:tH+m≤HQ) (cC:o+tH * i.size+news.length≤cur.size) :
  (Builtin.append_ #[t,t] ty #[.slice (some ⟨g,o,none⟩) tH HQ,.slice (some a) m c]).run P w =
   .ok (.slice (some ⟨g,o,none⟩) (tH+m) HQ) (w.setRow g (cur.toList.take (o+tH * i.size)++news++cur.toList.drop (o+tH * i.size+news.length)).toArray):=by
 have hf:=run_firstCells_some (P:=P) w i.size m a m c news hl y4
 have ai:=run_storeCells_at P g (o+tH * i.size) tt news 0 cur w hg (by simpa using cC) h1
 simp only [Nat.add_zero] at ai
 simp [Builtin.append_,run_underlying ht,sizeOf,typeInfo,hi,Builtin.lenOf,wh,hf,cE,ai]
def kT (n:Nat) (R S:Nat→Nat→DV→Value→Prop):Nat→Nat→DV→Value→Prop:=fun i j d u=>if i<n then R i j d u else S (i - n) j d u
def GZ (w:World) (v v':Value) (w':World) (zs:List DV):Prop:=∀a n,v=.slice (some a) n n→zs ≠ []→(∀b,b<w.heap.size→w'.heap[b]?=w.heap[b]?)∧∀b,fm v'=some b→w.heap.size≤b
set_option maxHeartbeats 1000000 in
theorem pw {P:Program} {t ty e:TypeId} {ti:TypeInfo} {z:Value} (ht:P.underlying t=some (.slice e)) (hi:P.info? e=some ti) (hz:ti.zero=some z) (ny:z.cells.size=ti.size) (eJ:0<ti.size)
  {v sv:Value} {xs zs:List DV} {R S:Nat→Nat→DV→Value→Prop} (il:oo w v ti.size xs R) (gE:oq w sv ti.size zs S)
  (Fu:xs.length+zs.length≤9223372036854775807) (yz:(xs.length+zs.length) * ti.bytes≤140737488355328) :
  ∃v' w',(Builtin.append_ #[t,t] ty #[v,sv]).run P w=.ok v' w'∧oo w' v' ti.size (xs++zs) (kT xs.length R S)∧w.grownBy w' (fm v)∧(∀b,fm v'=some b→w.heap.size≤b ∨ fm v=some b)∧v'.oneCell'=true∧GZ w v v' w' zs:=by
 have pX:v.oneCell'=true:=by rcases il with ⟨_,rfl⟩ | ⟨_,_,_,_,_,rfl,_⟩ <;> rfl
 have LJ:∀{c:Array Value} {o:Nat},(∀(i:Nat) (x:DV),xs[i]?=some x→x.cells.length=ti.size∧∀(j:Nat) (d:DV),x.cells[j]?=some d→d.ak=true∧∃u,c[o+i * ti.size+j]?=some u∧R i j d u) →
   ∀(i:Nat) (x:DV),xs[i]?=some x→x.cells.length=ti.size∧∀(j:Nat) (d:DV),x.cells[j]?=some d→d.ak=true∧∃u,c[o+i * ti.size+j]?=some u∧kT xs.length R S i j d u:=by
  intro c o hh i x hx
  obtain ⟨a1,a2⟩:=hh i x hx
  refine ⟨a1,fun j d hd=>?_⟩
  obtain ⟨b1,u,b2,b3⟩:=a2 j d hd
  refine ⟨b1,u,b2,?_⟩
  unfold kT
  rw [if_pos (List.getElem?_eq_some_iff.1 hx).1]; exact b3
 have mw:zs=[]→(Builtin.append_ #[t,t] ty #[v,sv]).run P w=.ok v w→∃v' w',(Builtin.append_ #[t,t] ty #[v,sv]).run P w=.ok v' w'∧oo w' v' ti.size (xs++zs) (kT xs.length R S)∧w.grownBy w' (fm v)∧(∀b,fm v'=some b→w.heap.size≤b ∨ fm v=some b)∧v'.oneCell'=true∧GZ w v v' w' zs:=by
  rintro rfl hr
  refine ⟨v,w,hr,?_,World.grownBy.refl w _,fun b hb=>.inr hb,pX,fun _ _ _ h=>absurd rfl h⟩
  rw [List.append_nil]
  rcases il with h | ⟨g,o,cap,cc,tt,hv,ek,hw,aT,Ds⟩
  ·exact .inl h
  ·exact .inr ⟨g,o,cap,cc,tt,hv,ek,hw,aT,LJ Ds⟩
 rcases gE with ⟨c,rfl,lq⟩ | ⟨A,QQ,cell,rfl,cW⟩
 ·refine mw lq ?_
  rcases il with ⟨_,rfl⟩ | ⟨g,o,cap,cc,tt,rfl,ek,hw,aT,Ds⟩
  ·simp [Builtin.append_,run_underlying ht,sizeOf,typeInfo,hi,Builtin.lenOf,Builtin.firstCells]
  ·simp [Builtin.append_,run_underlying ht,sizeOf,typeInfo,hi,Builtin.lenOf,Builtin.firstCells,ek,storeCells]
 ·obtain ⟨m,Rs⟩:∃m,m=zs.length:=⟨_,rfl⟩
  rw [←Rs] at Fu yz mw ⊢
  have hlen:(fH ti.size m cell).length=m * ti.size:=xM _ _ _
  have hq:∀q,q<m * ti.size→q / ti.size<m∧q % ti.size<ti.size∧q=q / ti.size * ti.size+q % ti.size:=fun q hq =>
   ⟨(Nat.div_lt_iff_lt_mul eJ).2 hq,Nat.mod_lt _ eJ,by have:=Nat.div_add_mod q ti.size; rw [Nat.mul_comm] at this; exact this.symm⟩
  have y4:∀j u,(fH ti.size m cell)[j]?=some u→w.cell? (A.add j)=some u:=by
   intro q u hu
   have aJ:q<m * ti.size:=by rw [←hlen]; exact (List.getElem?_eq_some_iff.1 hu).1
   obtain ⟨h1,h2,h3⟩:=hq q aJ
   obtain ⟨Ex,V5⟩:=cW (q / ti.size) (zs[q / ti.size]'(by omega)) (List.getElem?_eq_getElem (by omega))
   have:=(V5 (q % ti.size) _ (List.getElem?_eq_getElem (by rw [Ex]; exact h2))).2.1
   rw [h3] at hu ⊢
   rw [y3 cell h1 h2] at hu
   rw [this]; exact hu
  have tG:∀u,u∈fH ti.size m cell→u.oneCell'=true:=by
   intro u hu
   obtain ⟨q,DB,rfl⟩:=List.getElem_of_mem hu
   have aJ:q<m * ti.size:=by rw [←hlen]; exact DB
   obtain ⟨h1,h2,h3⟩:=hq q aJ
   obtain ⟨Ex,V5⟩:=cW (q / ti.size) (zs[q / ti.size]'(by omega)) (List.getElem?_eq_getElem (by omega))
   have hj:q % ti.size<(zs[q / ti.size]'(by omega)).cells.length:=by rw [Ex]; exact h2
   have:=(V5 (q % ti.size) _ (List.getElem?_eq_getElem hj)).2.2.1
   have he:(fH ti.size m cell)[q]=cell (q / ti.size) (q % ti.size):=by simp [fH]
   rw [he]; exact this
  have reads:∀(c':Array Value) (o':Nat),
    (∀(i:Nat) (x:DV),xs[i]?=some x→x.cells.length=ti.size∧∀(j:Nat) (d:DV),x.cells[j]?=some d→d.ak=true∧∃u,c'[o'+i * ti.size+j]?=some u∧R i j d u) →
    (∀q,q<m * ti.size→c'[o'+xs.length * ti.size+q]?=(fH ti.size m cell)[q]?) →
    ∀(i:Nat) (x:DV),(xs++zs)[i]?=some x→x.cells.length=ti.size∧∀(j:Nat) (d:DV),x.cells[j]?=some d→d.ak=true∧∃u,c'[o'+i * ti.size+j]?=some u∧kT xs.length R S i j d u:=by
   intro c' o' hold iP i x hx
   rw [List.getElem?_append] at hx
   split at hx
   ·exact LJ hold i x hx
   ·rename_i dw
    obtain ⟨h1,h3⟩:=cW _ x hx
    have aJ:i - xs.length<m:=by rw [Rs]; exact (List.getElem?_eq_some_iff.1 hx).1
    refine ⟨h1,fun j d hd=>?_⟩
    have hj:j<ti.size:=by rw [←h1]; exact (List.getElem?_eq_some_iff.1 hd).1
    obtain ⟨k1,k2,k3,k4⟩:=h3 j d hd
    refine ⟨k1,cell (i - xs.length) j,?_,by unfold kT; rw [if_neg dw]; exact k4⟩
    have:=iP ((i - xs.length) * ti.size+j) (pM aJ hj)
    rw [y3 cell aJ hj] at this
    rw [←this]
    congr 1
    have:i * ti.size=xs.length * ti.size+(i - xs.length) * ti.size:=by rw [←Nat.add_mul]; congr 1; omega
    omega
  by_cases Hj:m=0
  ·have V6:zs=[]:=List.eq_nil_of_length_eq_zero (by omega)
   subst Hj
   clear reads tG y4 hq hlen cW
   refine mw V6 ?_
   clear mw LJ
   rcases il with ⟨_,rfl⟩ | ⟨g,o,cap,cc,tt,rfl,ek,hw,aT,Ds⟩
   ·simp [Builtin.append_,run_underlying ht,sizeOf,typeInfo,hi,Builtin.lenOf,Builtin.firstCells,loadCells,loadCellsFrom]
   ·simp [Builtin.append_,run_underlying ht,sizeOf,typeInfo,hi,Builtin.lenOf,Builtin.firstCells,ek,storeCells,loadCells,loadCellsFrom]
  ·have LK:∀(NX:List Value) (cp:Nat),NX.length=xs.length * ti.size→xs.length+m≤cp→(∀(i:Nat) (x:DV),xs[i]?=some x→x.cells.length=ti.size∧∀(j:Nat) (d:DV),x.cells[j]?=some d→d.ak=true∧∃u,NX[i * ti.size+j]?=some u∧R i j d u) →
       oo (w.drew.alloc (.cells (NX.toArray++(fH ti.size m cell).toArray++Builtin.zeroCells z.cells (cp - (xs.length+m))) e)) (.slice (some ⟨w.heap.size,0,none⟩) (xs.length+m) cp) ti.size (xs++zs) (kT xs.length R S):=by
    intro NX cp Uj YW hold
    refine .inr ⟨w.heap.size,0,cp,_,e,by simp [Rs],by simpa [Rs] using YW,cj w.drew _,?_,reads _ 0 ?_ ?_⟩
    ·simp only [Array.size_append,List.size_toArray,size_zeroCells,ny,Uj,hlen,←Nat.add_mul,Nat.zero_add]
     refine Nat.mul_le_mul_right _ ?_
     omega
    ·intro i x hx
     obtain ⟨h1,h3⟩:=hold i x hx
     refine ⟨h1,fun j d hd=>?_⟩
     obtain ⟨k1,u,hu,hr⟩:=h3 j d hd
     refine ⟨k1,u,?_,hr⟩
     have aJ:=(List.getElem?_eq_some_iff.1 hu).1
     rw [Nat.zero_add,Array.getElem?_append,if_pos (by simp; omega),Array.getElem?_append,if_pos (by simpa using aJ)]
     simpa using hu
    ·intro q DB
     rw [Nat.zero_add,Array.getElem?_append,if_pos (by simp [hlen,Uj]; omega),Array.getElem?_append,if_neg (by simp [Uj])]
     simp [Uj]
   rcases il with ⟨rfl,rfl⟩ | ⟨g,o,cap,cc,tt,rfl,ek,hw,aT,Ds⟩
   ·have hr:=run_append_nil (P:=P) w t ty e ti z ht hi hz A m QQ (fH ti.size m cell) hlen y4 (by omega) (by simp at Fu; omega) (by simp at yz; omega)
    have hg:=LK [] (grownCap w m 0 e) (by simp) (by simpa using grownCap_ge w m 0 e) (by simp)
    simp only [List.length_nil,Nat.zero_add,Array.empty_append] at hg
    refine ⟨_,_,hr,by simpa using hg,⟨rfl,rfl,rfl,by simp,fun q hq _=>aU w.drew _ hq⟩,fun b hb=>?_,rfl,fun _ _ e=>by cases e⟩
    simp [fm] at hb; exact .inl (by omega)
   ·by_cases wh:xs.length+m≤cap
    ·have cC:o+xs.length * ti.size+(fH ti.size m cell).length≤cc.size:=by
      rw [hlen]
      have:(xs.length+m) * ti.size≤cap * ti.size:=Nat.mul_le_mul_right _ wh
      rw [Nat.add_mul] at this
      omega
     have hr:=gR (P:=P) t ty e ti ht hi g o xs.length cap cc tt hw A m QQ (fH ti.size m cell) hlen y4 tG wh cC
     refine ⟨_,_,hr,.inr ⟨g,o,cap,_,tt,by simp [Rs],by simpa [Rs] using wh,setRow_heap w g cc _ tt _ hw,?_,reads _ o ?_ ?_⟩,⟨rfl,rfl,rfl,by simp,fun q _ hq=>setRow_other w g q _ (fun x=>hq (by simp [fm,x]))⟩,fun b hb=>.inr hb,rfl,fun a n e hz=>?_⟩
     ·simp only [List.size_toArray,List.length_append,List.length_take,List.length_drop,Array.length_toList]
      omega
     ·intro i x hx
      obtain ⟨h1,h3⟩:=Ds i x hx
      refine ⟨h1,fun j d hd=>?_⟩
      obtain ⟨k1,u,hu,hr⟩:=h3 j d hd
      refine ⟨k1,u,?_,hr⟩
      have hj:j<ti.size:=by rw [←h1]; exact (List.getElem?_eq_some_iff.1 hd).1
      have KO:=pM (List.getElem?_eq_some_iff.1 hx).1 hj
      have O2:o+i * ti.size+j<cc.size:=(Array.getElem?_eq_some_iff.1 hu).1
      simp only [List.getElem?_toArray,List.append_assoc]
      rw [List.getElem?_append_left (by simp; omega),List.getElem?_take,if_pos (by omega)]
      simpa using hu
     ·intro q DB
      simp only [List.getElem?_toArray,List.append_assoc]
      rw [List.getElem?_append_right (by simp; omega),List.getElem?_append_left (by simp; omega)]
      congr 1
      simp; omega
     ·exfalso
      simp only [Value.slice.injEq] at e
      have:zs.length ≠ 0:=fun h=>hz (List.eq_nil_of_length_eq_zero h)
      omega
    ·have holds:∀j u,((List.range (xs.length * ti.size)).map fun q=>cc.getD (o+q) undef)[j]?=some u→w.cell? ((⟨g,o,none⟩:Addr).add j)=some u:=by
      intro j u hj
      simp only [List.getElem?_map] at hj
      by_cases aJ:j<xs.length * ti.size
      ·simp only [List.getElem?_range aJ,Option.map_some] at hj
       injection hj with hj
       have gh:o+j<cc.size:=by
        have:xs.length * ti.size≤cap * ti.size:=Nat.mul_le_mul_right _ ek
        omega
       rw [cE]
       simp only [World.cell?,hw]
       rw [←hj]
       simp [gh]
      ·simp [aJ] at hj
     have hr:=run_append_grow (P:=P) w t ty e ti z ht hi hz ⟨g,o,none⟩ xs.length cap ((List.range (xs.length * ti.size)).map fun q=>cc.getD (o+q) undef) (by simp) holds A m QQ (fH ti.size m cell) hlen y4 (by omega) (by omega) (growslice_fits (by omega) yz)
     have hg:=LK ((List.range (xs.length * ti.size)).map fun q=>cc.getD (o+q) undef) (grownCap w (xs.length+m) cap e) (by simp) (grownCap_ge w (xs.length+m) cap e) (by
      intro i x hx
      obtain ⟨h1,h3⟩:=Ds i x hx
      refine ⟨h1,fun j d hd=>?_⟩
      obtain ⟨k1,u,hu,hr⟩:=h3 j d hd
      have hj:j<ti.size:=by rw [←h1]; exact (List.getElem?_eq_some_iff.1 hd).1
      have KO:=pM (List.getElem?_eq_some_iff.1 hx).1 hj
      refine ⟨k1,u,?_,hr⟩
      simp only [List.getElem?_map,List.getElem?_range KO,Option.map_some]
      rw [show o+(i * ti.size+j)=o+i * ti.size+j by omega,Array.getD_eq_getD_getElem?,hu]
      rfl)
     refine ⟨_,_,hr,hg,⟨rfl,rfl,rfl,by simp,fun q hq _=>aU w.drew _ hq⟩,fun b hb=>?_,rfl,fun _ _ _ _=>⟨fun b hb=>aU w.drew _ hb,fun b hb=>?_⟩⟩
     ·simp [fm] at hb; exact .inl (by omega)
     ·simp [fm] at hb; omega
end
end Go.TM
namespace Go.TM
open Go.RowKit
variable [ct]
section
variable {w w':World}
theorem aS.sub {M:Mem} {h:List PS→Option Value} {d c:DV} {p:List PS} (ht:aS M w h d) (hp:get d p=some c) (hc:c.af=true):aS M w (fun r=>h (p++r)) c:=by
 refine ⟨hc,fun q m hq hm=>?_⟩
 obtain ⟨v,h1,h2,h3⟩:=ht.2 (p++q) m (by rw [get_append,hp]; exact hq) hm
 exact ⟨v,h1,h2,by simpa only [List.append_assoc] using h3⟩
theorem fh.sub {h:List PS→Option Value} {d c:DV} {p:List PS} (hi:fh h d) (hp:get d p=some c):fh (fun r=>h (p++r)) c:=by
 intro q q' n m u v b e1 e2 e3 e4 f1 f2 f3 f4
 have:=hi (p++q) (p++q') n m u v b (by rw [get_append,hp]; exact e1) e2 e3 e4 (by rw [get_append,hp]; exact f1) f2 f3 f4
 exact List.append_cancel_left this
theorem aO.sub {h:List PS→Option Value} {d c:DV} {p:List PS} {b:Nat} (hp:get d p=some c) (ho:aO (fun r=>h (p++r)) c b):aO h d b:=by
 obtain ⟨q,m,v,h1,h2,h3,h4⟩:=ho
 exact ⟨p++q,m,v,by rw [get_append,hp]; exact h1,h2,h3,h4⟩
theorem fh.fR {h h':List PS→Option Value} {d:DV} (hi:fh h d) (hh:∀p n v,get d p=some n→n.af=true→h' p=some v→h p=some v):fh h' d :=
 fun p q n m u v b e1 e2 e3 e4 f1 f2 f3 f4=>hi p q n m u v b e1 e2 (hh p n u e1 e2 e3) e4 f1 f2 (hh q m v f1 f2 f3) f4
def G6:List PS→Option Value
 | []=>some (.slice none 0 0)
 | _=>none
theorem ux {sz:Nat} {p:List PS} {m:DV} (h:get (.ay sz []) p=some m):p=[]∧m=.ay sz []:=by
 cases p with
 | nil=>simp [get] at h; exact ⟨rfl,h.symm⟩
 | cons s p=>cases s <;> simp [get,step] at h
theorem uD (M:Mem) (w:World) (sz:Nat):aS M w G6 (.ay sz []):=by
 refine ⟨rfl,fun p m hp _=>?_⟩
 obtain ⟨rfl,rfl⟩:=ux hp
 exact ⟨_,rfl,rfl,.inl ⟨rfl,rfl⟩⟩
theorem zd (sz:Nat):fh G6 (.ay sz []):=by
 intro p q n m u v b e1 _ _ _ f1 _ _ _
 rw [(ux e1).1,(ux f1).1]
theorem iS {sz b:Nat} (h:aO G6 (.ay sz []) b):False:=by
 obtain ⟨p,m,v,h1,_,h3,h4⟩:=h
 obtain ⟨rfl,rfl⟩:=ux h1
 simp [G6] at h3
 subst h3
 simp [fm] at h4
def q7 (n:Nat) (v:Value) (h hs:List PS→Option Value):List PS→Option Value
 | []=>some v
 | .el i j::r=>if i<n then h (.el i j::r) else hs (.el (i - n) j::r)
 | s::r=>h (s::r)
inductive Src (M:Mem) (w:World) (x:Value) (sz:Nat) (ys:List DV) (hs:List PS→Option Value):Prop
 | closed (h:oq w x sz ys fun _ _ d u=>d.af=false∧bk M d u) (hn:hs=fun _=>none)
 | tree (ht:aS M w hs (.ay sz ys)) (hi:fh hs (.ay sz ys)) (hx:hs []=some x)
theorem de.cJ {M:Mem} {h:Option Value} {d:DV} {u:Value} (r:de M h d u) (hc:d.ak=true) (ho:d.af=true→∀v,h=some v→v.oneCell'=true):u.oneCell'=true:=by
 rcases r with ⟨a,b⟩ | ⟨a,b⟩
 ·exact ho a u b
 ·exact b.cJ hc
theorem aS.LL {M:Mem} {h:List PS→Option Value} {d c:DV} {s:PS} (ht:aS M w h d) (hs:step d s=some c) (hc:c.af=true) {v:Value} (hv:h [s]=some v):v.oneCell'=true:=by
 obtain ⟨u,h1,h2,_⟩:=ht.2 [s] c (by simp [get,hs]) hc
 rw [h1] at hv; injection hv with hv; subst hv; exact h2
theorem Src.O0 {M:Mem} {x:Value} {sz:Nat} {ys:List DV} {hs:List PS→Option Value} (h:Src M w x sz ys hs):oq w x sz ys fun i j d u=>d.ak=true∧de M (hs [.el i j]) d u:=by
 cases h with
 | closed h hn =>
  refine h.mono rfl fun i x' y hx hy=>?_
  rw [hx] at hy; injection hy with hy; subst hy
  refine ⟨rfl,fun j d e u hd he DC hS=>?_⟩
  rw [hd] at he; injection he with he; subst he
  exact ⟨DC,DC,.inr hS⟩
 | tree ht hi hx =>
  obtain ⟨v,h1,h2,h3⟩:=ht.2 [] _ rfl rfl
  rw [hx] at h1; injection h1 with h1; subst h1
  have h4:oo w x sz ys fun i j d u=>d.ak=true∧step (.ay sz ys) (.el i j)=some d∧de M (hs [.el i j]) d u:=by
   rcases jT.1 h3 with h3 | ⟨g,o,cap,c,t,a1,a2,a3,a4,a5⟩
   ·exact .inl h3
   ·refine .inr ⟨g,o,cap,c,t,a1,a2,a3,a4,fun i y hy=>⟨(a5 i y hy).1,fun j d hd=>?_⟩⟩
    obtain ⟨b1,u,b2,b3⟩:=(a5 i y hy).2 j d hd
    exact ⟨b1,u,b2,b1,by simp only [step,hy]; exact hd,b3⟩
  refine (oq.LI h4 fun i j d u hr _=>?_).mono rfl fun i x' y hx hy=>?_
  ·exact hr.2.2.cJ hr.1 fun ho v hv=>ht.LL hr.2.1 ho hv
  ·rw [hx] at hy; injection hy with hy; subst hy
   refine ⟨rfl,fun j d e u hd he DC hS=>?_⟩
   rw [hd] at he; injection he with he; subst he
   exact ⟨DC,hS.1,hS.2.2⟩
theorem ku.length:∀{l r:List DV},ku l r→l.length=r.length
 | [],[],_=>rfl
 | _::_,_::_,h=>by simp [ku.length h.2]
 | [],_::_,h=>h.elim
 | _::_,[],h=>h.elim
theorem ku.at:∀{l r:List DV},ku l r→∀(j:Nat) (d e:DV),l[j]?=some d→r[j]?=some e→(d.af=true∧d=e) ∨ (d.af=false∧d.Le e)
 | [],[],_,j,d,e,h,_=>by simp at h
 | a::l,b::r,h,0,d,e,e1,e2=>by
  simp at e1 e2; subst e1; subst e2
  have:=h.1
  cases ho:a.af with
  | true=>rw [ho] at this; exact .inl ⟨rfl,this⟩
  | false=>rw [ho] at this; exact .inr ⟨rfl,this⟩
 | a::l,b::r,h,j+1,d,e,e1,e2=>by simp at e1 e2; exact ku.at h.2 j d e e1 e2
 | [],_::_,h,_,_,_,_,_=>h.elim
 | _::_,[],h,_,_,_,_,_=>h.elim
theorem eO.length:∀{l r:List DV},eO l r→l.length=r.length
 | [],[],_=>rfl
 | _::_,_::_,h=>by simp [eO.length h.2]
 | [],_::_,h=>h.elim
 | _::_,[],h=>h.elim
theorem eO.at:∀{l r:List DV},eO l r→∀(i:Nat) (x y:DV),l[i]?=some x→r[i]?=some y→ku x.cells y.cells
 | [],[],_,j,d,e,h,_=>by simp at h
 | a::l,b::r,h,0,d,e,e1,e2=>by simp at e1 e2; subst e1; subst e2; exact h.1
 | a::l,b::r,h,j+1,d,e,e1,e2=>by simp at e1 e2; exact eO.at h.2 j d e e1 e2
 | [],_::_,h,_,_,_,_,_=>h.elim
 | _::_,[],h,_,_,_,_,_=>h.elim
theorem bk.ak {M:Mem} {d:DV} {v:Value} (h:bk M d v) (hv:v.oneCell'=true):d.ak=true:=by
 cases h with
 | agg=>simp [Value.oneCell'] at hv
 | _=>rfl
theorem de.le {M:Mem} {h:Option Value} {d e:DV} {u:Value} (r:de M h d u) (hle:(d.af=true∧d=e) ∨ (d.af=false∧d.Le e)) (hc:d.ak=true):e.ak=true∧de M h e u∧(e.af=true→d=e):=by
 rcases hle with ⟨h1,rfl⟩ | ⟨h1,h2⟩
 ·exact ⟨hc,r,fun _=>rfl⟩
 ·rcases r with ⟨a,b⟩ | ⟨a,b⟩
  ·rw [h1] at a; cases a
  ·have h3:=h2 M u b
   exact ⟨h3.ak (b.cJ hc),.inr ⟨h3.dH,h3⟩,fun ho=>by rw [h3.dH] at ho; cases ho⟩
theorem De {P:Program} {T:List TI} (hT:ef P T) {t ty:TypeId} (bY:(nth T t).ok=true) (iJ:(nth T t).isSl=true) (iQ:(nth T (nth T t).elem).ok=true) (eJ:0<(nth T (nth T t).elem).size)
  {M:Mem} {h hs:List PS→Option Value} {l ys zs:List DV} {v x:Value} (ht:aS M w h (.ay (nth T (nth T t).elem).size l)) (hi:fh h (.ay (nth T (nth T t).elem).size l)) (hv:h []=some v)
  (gE:Src M w x (nth T (nth T t).elem).size ys hs) (QR:∀b,aO h (.ay (nth T (nth T t).elem).size l) b→¬ aO hs (.ay (nth T (nth T t).elem).size ys) b) (aJ:∀b,aO hs (.ay (nth T (nth T t).elem).size ys) b→b<w.heap.size) (hle:eO ys zs)
  (Fu:l.length+zs.length≤9223372036854775807) (yz:(l.length+zs.length) * (nth T (nth T t).elem).bytes≤140737488355328) :
  ∃v' w',(Builtin.append_ #[t,t] ty #[v,x]).run P w=.ok v' w'∧w.grownBy w' (fm v)∧v'.oneCell'=true∧aS M w' (q7 l.length v' h hs) (.ay (nth T (nth T t).elem).size (l++zs))∧fh (q7 l.length v' h hs) (.ay (nth T (nth T t).elem).size (l++zs)) ∧
   ∀b,aO (q7 l.length v' h hs) (.ay (nth T (nth T t).elem).size (l++zs)) b→aO h (.ay (nth T (nth T t).elem).size l) b ∨ aO hs (.ay (nth T (nth T t).elem).size ys) b ∨ w.heap.size≤b:=by
 obtain ⟨i,u,z,tf⟩:=hT.facts bY
 obtain ⟨te,ue,ze,iz⟩:=hT.facts iQ
 generalize aT:(nth T (nth T t).elem).size=sz at *
 have q8:te.size=sz:=by rw [←aT,iz.size]
 obtain ⟨v0,A7,pX,aX⟩:=ht.2 [] _ rfl rfl
 rw [hv] at A7; injection A7 with A7; subst A7
 have il:=jT.1 aX
 have Xd:=gE.O0
 have LM:oq w x sz zs fun i j d u=>d.ak=true∧de M (hs [.el i j]) d u:=by
  refine Xd.mono hle.length fun i x y hx hy=>?_
  have h1:=hle.at i x y hx hy
  refine ⟨h1.length,fun j d e u hd he DC hS=>?_⟩
  obtain ⟨k1,k2,_⟩:=hS.2.le (h1.at j d e hd he) DC
  exact ⟨k1,k1,k2⟩
 have wU:∀i j e,step (.ay sz zs) (.el i j)=some e→e.af=true→step (.ay sz ys) (.el i j)=some e:=by
  intro i j e he ho
  simp only [step] at he ⊢
  split at he
  ·rename_i y hy
   have w3:i<ys.length:=by rw [hle.length]; exact (List.getElem?_eq_some_iff.1 hy).1
   have hx:ys[i]?=some ys[i]:=List.getElem?_eq_getElem w3
   rw [hx]
   have h1:=hle.at i _ y hx hy
   have hj:j<ys[i].cells.length:=by rw [h1.length]; exact (List.getElem?_eq_some_iff.1 he).1
   have hd:ys[i].cells[j]?=some ys[i].cells[j]:=List.getElem?_eq_getElem hj
   simp only
   rcases h1.at j _ e hd he with ⟨a,b⟩ | ⟨a,b⟩
   ·rw [hd,b]
   ·-- a closed cell V7 V8 an af one: there is a value of it
    rcases Xd with ⟨c,_,lq⟩ | ⟨A,cap,cell,_,cW⟩
    ·rw [lq] at w3; simp at w3
    ·obtain ⟨_,h3⟩:=cW i _ hx
     obtain ⟨_,_,_,h4⟩:=h3 j _ hd
     rcases h4.2 with ⟨c1,_⟩ | ⟨_,c2⟩
     ·rw [a] at c1; cases c1
     ·rw [(b M _ c2).dH] at ho; cases ho
  ·cases he
 have To:ze.cells.size=te.size:=by
  have:=(dW (M:=M) iz.zc).1.1
  simp at this
  rw [←this,iz.zl]
 obtain ⟨v',w',bc,Df,ld,Aj,DI,_⟩:=pw (P:=P) (t:=t) (ty:=ty) (tf.slice iJ) iz.info iz.zero To (by rw [q8]; exact eJ) (by rw [q8]; exact il) (by rw [q8]; exact LM) Fu (by rw [←iz.bytes]; exact yz)
 rw [q8] at Df
 refine ⟨v',w',bc,ld,DI,?_⟩
 have LN:∀b,b<w.heap.size→fm v ≠ some b→w'.heap[b]?=w.heap[b]?:=fun b hb bD=>ld.block b hb (fun e=>bD e.symm)
 have QS:bW M w' v' (fun s=>q7 l.length v' h hs ([]++[s])) (.ay sz (l++zs)):=by
  refine jT.2 ?_
  rcases Df with h1 | ⟨g,o,cap,c,tt,a1,a2,a3,a4,a5⟩
  ·exact .inl h1
  ·refine .inr ⟨g,o,cap,c,tt,a1,a2,a3,a4,fun i x hx=>⟨(a5 i x hx).1,fun j d hd=>?_⟩⟩
   obtain ⟨b1,u,b2,b3⟩:=(a5 i x hx).2 j d hd
   refine ⟨b1,u,b2,?_⟩
   unfold kT at b3
   simp only [List.nil_append,q7]
   split at b3
   ·rename_i gh; rw [if_pos gh]; exact b3
   ·rename_i gh; rw [if_neg gh]; exact b3.2
 have QT:∀i j c,i<l.length→(step (.ay sz (l++zs)) (.el i j)=some c ↔ step (.ay sz l) (.el i j)=some c):=by
  intro i j c gh
  simp only [step]
  rw [List.getElem?_append_left gh]
 have Fv:∀i j c,¬ i<l.length→step (.ay sz (l++zs)) (.el i j)=some c→step (.ay sz zs) (.el (i - l.length) j)=some c:=by
  intro i j c dw hc
  simp only [step] at hc ⊢
  rw [List.getElem?_append_right (by omega)] at hc
  exact hc
 have el:∀s c,step (.ay sz (l++zs)) s=some c→∃i j,s=.el i j:=by
  intro s c dD
  cases s with
  | el i j=>exact ⟨i,j,rfl⟩
  | key=>simp [step] at dD
 have sub:∀i j c,¬ i<l.length→step (.ay sz (l++zs)) (.el i j)=some c→c.af=true→aS M w' (fun r=>hs (.el (i - l.length) j::r)) c∧fh (fun r=>hs (.el (i - l.length) j::r)) c∧∀b,aO (fun r=>hs (.el (i - l.length) j::r)) c b→aO hs (.ay sz ys) b:=by
  intro i j c dw hc ho
  have h1:=wU _ _ _ (Fv i j c dw hc) ho
  have hg:get (.ay sz ys) [.el (i - l.length) j]=some c:=by simp [get,h1]
  cases gE with
  | closed jY hn =>
   exfalso
   rcases jY with ⟨_,_,lq⟩ | ⟨A,cap,cell,_,cW⟩
   ·subst lq; simp [step] at h1
   ·simp only [step] at h1
    split at h1
    ·rename_i x hx
     obtain ⟨_,h3⟩:=cW _ x hx
     have:=(h3 j c h1).2.2.2.1
     rw [ho] at this; cases this
    ·cases h1
  | tree ai V9 YX =>
   have t1:=ai.sub hg ho
   have t2:∀b,aO (fun r=>hs ([.el (i - l.length) j]++r)) c b→aO hs (.ay sz ys) b:=fun b hb=>hb.sub hg
   refine ⟨t1.fR (Mem.Le.refl _) (fun b hb=>LN b (aJ b (t2 b hb)) fun e=>?_) (fun _ _ _ _ _ q=>q),V9.sub hg,t2⟩
   exact QR b ⟨[],_,v,rfl,rfl,hv,e⟩ (t2 b hb)
 have main:=aS.oU (w:=w) (w':=w') (h':=q7 l.length v' h hs) (p:=[]) (n:=.ay sz l) (n':=.ay sz (l++zs)) (v:=v) (v':=v') (fun s=>∃i j,s=.el i j∧¬ i<l.length) ht hi rfl rfl hv rfl rfl DI (.inl rfl) QS
  (fun q hq=>absurd (List.nil_prefix) hq)
  (fun s c dD ho hN=>by
   obtain ⟨i,j,rfl⟩:=el s c dD
   by_cases gh:i<l.length
   ·exact ⟨(QT i j c gh).1 dD,fun r=>by simp only [List.nil_append,q7,if_pos gh]⟩
   ·exact absurd ⟨i,j,rfl,gh⟩ hN)
  (fun s c dD ho hN=>by
   obtain ⟨i,j,rfl,dw⟩:=hN
   obtain ⟨t1,t2,t3⟩:=sub i j c dw dD ho
   have e:(fun r=>q7 l.length v' h hs ([]++.el i j::r))=fun r=>hs (.el (i - l.length) j::r):=by funext r; simp only [List.nil_append,q7,if_neg dw]
   rw [e]
   refine ⟨t1,t2,fun b hb=>⟨fun hU=>QR b hU (t3 b hb),fun cO=>?_⟩⟩
   rcases Aj b cO with h5 | h5
   ·have:=aJ b (t3 b hb); omega
   ·exact QR b ⟨[],_,v,rfl,rfl,hv,h5⟩ (t3 b hb))
  (fun s s' c c' b fb IW KI oC Dr M1 kj cw=>by
   obtain ⟨i,j,rfl,dw⟩:=KI
   obtain ⟨i',j',rfl,Tp⟩:=M1
   have e:∀i j,¬ i<l.length→(fun r=>q7 l.length v' h hs ([]++.el i j::r))=fun r=>hs (.el (i - l.length) j::r):=fun i j dw=>by funext r; simp only [List.nil_append,q7,if_neg dw]
   rw [e i j dw] at kj
   rw [e i' j' Tp] at cw
   have g1:=wU _ _ _ (Fv i j c dw fb) IW
   have g2:=wU _ _ _ (Fv i' j' c' Tp oC) Dr
   cases gE with
   | closed jY hn=>rw [hn] at kj; obtain ⟨_,_,_,_,_,q,_⟩:=kj; cases q
   | tree ai V9 YX =>
    obtain ⟨q,m,u,a1,a2,a3,a4⟩:=kj
    obtain ⟨q',m',u',b1,b2,b3,b4⟩:=cw
    have:=V9 (.el (i - l.length) j::q) (.el (i' - l.length) j'::q') m m' u u' b (by simp only [get,g1]; exact a1) a2 a3 a4 (by simp only [get,g2]; exact b1) b2 b3 b4
    injection this with e1 e2
    injection e1 with e1 e3
    have:i=i':=by omega
    rw [this,e3])
  (fun b hb=>by
   rcases Aj b hb with h5 | h5
   ·right; intro ho
    obtain ⟨p,m,u,a1,a2,a3,a4⟩:=ho
    obtain ⟨u',c1,_,c3⟩:=ht.2 p m a1 a2
    rw [a3] at c1; injection c1 with c1; subst c1
    have:=uA c3 a4; omega
   ·exact .inl h5)
  (fun b ho bD=>by
   obtain ⟨p,m,u,a1,a2,a3,a4⟩:=ho
   obtain ⟨u',c1,_,c3⟩:=ht.2 p m a1 a2
   rw [a3] at c1; injection c1 with c1; subst c1
   exact LN b (uA c3 a4) bD)
 obtain ⟨m1,m2,m3⟩:=main
 refine ⟨m1,m2,fun b hb=>?_⟩
 rcases m3 b hb with h1 | h1 | ⟨s,c,s1,s2,⟨i,j,rfl,dw⟩,s4⟩
 ·exact .inl h1
 ·rcases Aj b h1 with h5 | h5
  ·exact .inr (.inr h5)
  ·exact .inl ⟨[],_,v,rfl,rfl,hv,h5⟩
 ·have e:(fun r=>q7 l.length v' h hs ([]++.el i j::r))=fun r=>hs (.el (i - l.length) j::r):=by funext r; simp only [List.nil_append,q7,if_neg dw]
  rw [e] at s4
  exact .inr (.inl ((sub i j c dw s1 s2).2.2 b s4))
end
end Go.TM
namespace Go.TM
open Go.RowKit
variable [ct]
theorem Ix {d nq n:DV} {q:List PS} {s:PS} {c:DV} (hq:get d q=some nq) (hs:step nq s=some c):bO d (q++[s]) n=bO d q (put nq s n):=by
 induction q generalizing d with
 | nil=>simp [get] at hq; subst hq; simp [bO,hs]
 | cons s' q ih =>
  simp only [get] at hq
  simp only [List.cons_append,bO]
  cases h1:step d s' with
  | none=>simp [h1] at hq
  | some c1=>rw [h1] at hq; simp only [ih hq]
theorem aS.lt {M:Mem} {w:World} {h:List PS→Option Value} {d:DV} (ht:aS M w h d) {b:Nat} (ho:aO h d b):b<w.heap.size:=by
 obtain ⟨p,m,u,a1,a2,a3,a4⟩:=ho
 obtain ⟨u',c1,_,c3⟩:=ht.2 p m a1 a2
 rw [a3] at c1; injection c1 with c1; subst c1
 exact uA c3 a4
theorem aS.forget {M:Mem} {w:World} {h:List PS→Option Value} {d c:DV} {p:List PS} (ht:aS M w h d) (hi:fh h d) (hp:get d p=some c) (hc:c.af=true) (bD:p ≠ []) :
  aS M w h (bO d p .any)∧fh h (bO d p .any)∧∀b,aO h (bO d p .any) b→aO h d b∧¬ aO (fun r=>h (p++r)) c b:=by
 have cV:∀(q:List PS) (x:DV),get d q=some x→q ≠ []→x.ak=true:=fun q x hx _=>ht.cells q x hx
 have mB:∀b,aO h (bO d p .any) b→aO h d b→¬ aO (fun r=>h (p++r)) c b:=by
  rintro b ⟨q,m,u,a1,a2,a3,a4⟩ _ ⟨r,m',u',b1,b2,b3,b4⟩
  by_cases gB:p <+: q
  ·obtain ⟨r',rfl⟩:=bH gB
   rw [fY hp rfl cV] at a1
   cases r' with
   | nil=>simp [get] at a1; subst a1; cases a2
   | cons s r'=>simp [get,step] at a1
  ·rw [fZ rfl cV gB] at a1
   cases hx:get d q with
   | none=>rw [hx] at a1; cases a1
   | some x =>
    rw [hx] at a1
    simp only [Option.some.injEq] at a1
    have xz:x.af=true:=by
     by_cases hq:q <+: p
     ·rw [if_pos hq] at a1
      obtain ⟨r',rfl⟩:=bH hq
      cases r' with
      | nil=>exact absurd (by simp) gB
      | cons s r'=>simp only [List.drop_left] at a1; rw [←a1,ea] at a2; exact a2
     ·rw [if_neg hq] at a1; rw [a1]; exact a2
    have:=hi q (p++r) x m' u u' b hx xz a3 a4 (by rw [get_append,hp]; exact b1) b2 b3 b4
    exact gB ⟨r,this.symm⟩
 rcases List.eq_nil_or_concat p with rfl | ⟨q,s,rfl⟩
 ·exact absurd rfl bD
 ·rw [List.concat_eq_append] at hp mB ⊢
  rw [get_append] at hp
  cases hq:get d q with
  | none=>rw [hq] at hp; cases hp
  | some nq =>
   rw [hq] at hp
   simp only [get] at hp
   cases hs:step nq s with
   | none=>rw [hs] at hp; cases hp
   | some c0 =>
    rw [hs] at hp
    simp at hp
    subst hp
    have Uk:=eb hs
    obtain ⟨v,hv,pX,aX⟩:=ht.2 q nq hq Uk
    rw [Ix hq hs] at mB ⊢
    have bP:bW M w v (fun s=>h (q++[s])) (put nq s .any):=by
     refine aX.Gx hs rfl fun u hr=>.inr ⟨rfl,.any u ?_⟩
     rcases hr with ⟨_,b⟩ | ⟨a,_⟩
     ·obtain ⟨u',c1,c2,_⟩:=ht.2 (q++[s]) c0 (by rw [get_append,hq]; simp [get,hs]) hc
      have b':h (q++[s])=some u:=b
      rw [c1] at b'; injection b' with b'; subst b'; exact c2
     ·rw [hc] at a; cases a
    obtain ⟨m1,m2,m3⟩:=aS.oU (w:=w) (w':=w) (h':=h) (n':=put nq s .any) (fun _=>False) ht hi hq Uk hv (by rw [oR]; exact Uk) hv pX (.inr rfl) bP (fun _ _=>rfl)
     (fun s' c' dD ho _=>by
      by_cases e:s=s'
      ·subst e; rw [ki hs rfl] at dD; injection dD with dD; subst dD; cases ho
      ·rw [mJ rfl e] at dD; exact ⟨dD,fun _=>rfl⟩)
     (fun _ _ _ _ hN=>hN.elim) (fun _ _ _ _ _ _ _ hN=>hN.elim) (fun b hb=>.inl hb) (fun _ _ _=>rfl)
    refine ⟨m1,m2,fun b hb=>?_⟩
    have h1:aO h d b:=by
     rcases m3 b hb with h1 | h1 | ⟨_,_,_,_,hN,_⟩
     ·exact h1
     ·exact ⟨q,nq,v,hq,Uk,hv,h1⟩
     ·exact hN.elim
    exact ⟨h1,mB b hb h1⟩
section
variable {g:dy} {n:Nat} {ρ:Nat→AV} {κ κ':Nat→ao} {a:Act} {w w':World} {G:Gh}
theorem bZ.split (h:bZ g n ρ κ a w G) {i nx ver ep:Nat} {d c:DV} {p:List PS} (hi:κ i=.tree ver ep d) (hx:κ nx=.none) (hp:get d p=some c) (hc:c.af=true) (bD:p ≠ []) (h1:κ' i=.tree ver (ep+1) (bO d p .any)) (h2:κ' nx=.tree 0 0 c) (h3:∀j,j ≠ i→j ≠ nx→κ' j=κ j) :
  ∃G',Gh.Le G G'∧G'.M=G.M∧G'.β=G.β∧(∀r,az G'.H nx 0 0 r=az G.H i ver ep (p++r))∧bZ g n ρ κ' a w G':=by
 have Al:i ≠ nx:=fun e=>by rw [e,hx] at hi; cases hi
 have om:=h.fit.box i
 have dJ:=h.fit.box nx
 rw [hi] at om
 rw [hx] at dJ
 obtain ⟨ht,dt,EE,eW⟩:=om
 obtain ⟨f1,f2,f3⟩:=ht.forget dt hp hc bD
 have yb:∀r,p++r ≠ []:=fun r e=>bD (List.append_eq_nil_iff.1 e).1
 let fi:Nat→Nat→List PS→Option Value:=fun v e q=>if v=ver∧e=ep+1∧q ≠ [] then az G.H i ver ep q else G.H i v e q
 let fx:Nat→Nat→List PS→Option Value:=fun v e q=>if v=0∧e=0 then az G.H i ver ep (p++q) else none
 let G':Gh:={ G with H:=c9 (c9 G.H i fi) nx fx }
 have Tq:G'.H i=fi:=by show c9 (c9 G.H i fi) nx fx i=fi; rw [dI _ _ Al,eD]
 have MT:G'.H nx=fx:=eD _ _ _
 have Dy:∀j,j ≠ i→j ≠ nx→G'.H j=G.H j:=fun j e1 e2=>by show c9 (c9 G.H i fi) nx fx j=_; rw [dI _ _ e2,dI _ _ e1]
 have zg:az G'.H i ver (ep+1)=az G.H i ver ep:=by
  funext q
  cases q with
  | nil=>simp only [az,Tq]; show (if _ then _ else _)=_; rw [if_neg (by simp)]
  | cons s q=>simp only [az,Tq]; show (if _ then _ else _)=_; rw [if_pos ⟨rfl,rfl,by simp⟩]; rfl
 have MU:az G'.H nx 0 0=fun r=>az G.H i ver ep (p++r):=by
  funext q
  cases q with
  | nil=>show G'.H nx 0 0 []=_; rw [MT]; show (if 0=0∧0=0 then az G.H i ver ep (p++[]) else none)=_; rw [if_pos ⟨rfl,rfl⟩]
  | cons s q=>show G'.H nx 0 0 (s::q)=_; rw [MT]; show (if 0=0∧0=0 then az G.H i ver ep (p++s::q) else none)=_; rw [if_pos ⟨rfl,rfl⟩]
 have hle:Gh.Le G G':=⟨Mem.Le.refl _,fun _ _ q=>q,fun j v e q x hq=>by
  by_cases e1:j=i
  ·subst e1
   rw [Tq]
   show (if v=ver∧e=ep+1∧q ≠ [] then _ else _)=_
   split
   ·rename_i gU; obtain ⟨rfl,rfl,_⟩:=gU; rw [eW (ep+1) (by omega)] at hq; cases hq
   ·exact hq
  ·by_cases e2:j=nx
   ·subst e2; rw [dJ.2] at hq; cases hq
   ·rw [Dy j e1 e2]; exact hq⟩
 have EF:∀b,bI G' i (κ' i) b→aO (az G.H i ver ep) d b∧¬ aO (fun r=>az G.H i ver ep (p++r)) c b:=fun b hb=>by
  rw [h1] at hb; simp only [bI] at hb; rw [zg] at hb; exact f3 b hb
 have EG:∀b,bI G' nx (κ' nx) b→aO (fun r=>az G.H i ver ep (p++r)) c b:=fun b hb=>by
  rw [h2] at hb; simp only [bI] at hb; rw [MU] at hb; exact hb
 refine ⟨G',hle,rfl,rfl,fun r=>congrFun MU r,h.oS (C:=fun j=>j=i ∨ j=nx) ⟨hle,fun _ _=>rfl,fun j hj=>h3 j (fun e=>hj (.inl e)) (fun e=>hj (.inr e)),fun j hj=>⟨fun _ q=>q,fun v e q x hq=>?_⟩,fun _ _ _=>⟨rfl,rfl⟩,h.fit.sub,?_,?_,?_,Nat.le_refl _,rfl,rfl,rfl⟩ (fun _ _=>rfl)⟩
 ·rw [Dy j (fun e=>hj (.inl e)) (fun e=>hj (.inr e))] at hq; exact hq
 ·rintro j (rfl | rfl)
  ·rw [h1]
   refine ⟨by rw [zg]; exact f1,by rw [zg]; exact f2,fun v hv e q=>?_,fun e he q=>?_⟩
   ·rw [Tq]; show (if v=ver∧_ then _ else _)=_; rw [if_neg (by omega)]; exact EE v hv e q
   ·rw [Tq]; show (if ver=ver∧e=ep+1∧q ≠ [] then _ else _)=_; rw [if_neg (by omega)]; exact eW e (by omega) q
  ·rw [h2]
   refine ⟨by rw [MU]; exact ht.sub hp hc,by rw [MU]; exact dt.sub hp,fun v hv e q=>?_,fun e he q=>?_⟩
   ·rw [MT]; show (if v=0∧e=0 then _ else _)=_; rw [if_neg (by omega)]
   ·rw [MT]; show (if 0=0∧e=0 then _ else _)=_; rw [if_neg (by omega)]
 ·rintro j b (rfl | rfl) hb
  ·have cO:=(EF b hb).1
   have:bI G j (κ j) b:=by rw [hi]; exact cO
   exact ⟨.inr ⟨j,.inl rfl,this⟩,h.fit.own j b this⟩
  ·have cO:=(EG b hb).sub hp
   have:bI G i (κ i) b:=by rw [hi]; exact cO
   exact ⟨.inr ⟨i,.inl rfl,this⟩,h.fit.own i b this⟩
 ·rintro j j' b (rfl | rfl) (rfl | rfl) hb cO
  ·rfl
  ·exact absurd (EG b cO) (EF b hb).2
  ·exact absurd (EG b hb) (EF b cO).2
  ·rfl
end
end Go.TM
