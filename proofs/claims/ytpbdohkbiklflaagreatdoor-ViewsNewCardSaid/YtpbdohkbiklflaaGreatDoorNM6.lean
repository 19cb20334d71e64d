import Derived.Test.YtpbdohkbiklflaaGreatDoorNM5
set_option linter.unusedVariables false
set_option linter.unusedSimpArgs false
set_option linter.unusedSectionVars false
namespace Go.TM
open Go.RowKit
variable [Glob]
theorem div_idx {i j sz:Nat} (hj:j<sz):(i * sz+j) / sz=i∧(i * sz+j) % sz=j:=by
 have hpos:0<sz:=by omega
 constructor
 ·rw [Nat.mul_comm,Nat.mul_add_div hpos,Nat.div_eq_of_lt hj]; omega
 ·rw [Nat.mul_comm,Nat.mul_add_mod,Nat.mod_eq_of_lt hj]
theorem lt_idx {i j n sz:Nat} (hi:i<n) (hj:j<sz):i * sz+j<n * sz:=by
 have:(i+1) * sz≤n * sz:=Nat.mul_le_mul_right _ hi
 rw [Nat.add_mul] at this
 omega
def RowG (w:World) (v:Value) (sz:Nat) (l:List DV) (R:Nat→Nat→DV→Value→Prop):Prop :=
 (l=[]∧v=.slice none 0 0) ∨
 ∃g o cap c t,v=.slice (some ⟨g,o,none⟩) l.length cap∧l.length≤cap∧w.heap[g]?=some (.cells c t (0,0))∧o+cap * sz≤c.size ∧
  ∀(i:Nat) (x:DV),l[i]?=some x→x.cells.length=sz∧∀(j:Nat) (d:DV),x.cells[j]?=some d→d.isCell=true∧∃u,c[o+i * sz+j]?=some u∧R i j d u
theorem rowG_iff {M:Mem} {w:World} {v:Value} {hc:PS→Option Value} {sz:Nat} {l:List DV}:NodeAt M w v hc (.osl sz l) ↔ RowG w v sz l fun i j d u=>CellR M (hc (.el i j)) d u:=Iff.rfl
def SrcG (w:World) (v:Value) (sz:Nat) (l:List DV) (S:Nat→Nat→DV→Value→Prop):Prop :=
 (∃c,v=.slice none 0 c∧l=[]) ∨
 ∃(A:Addr) (cap:Nat) (cell:Nat→Nat→Value),v=.slice (some A) l.length cap∧∀(i:Nat) (x:DV),l[i]?=some x→x.cells.length=sz ∧
  ∀(j:Nat) (d:DV),x.cells[j]?=some d→d.isCell=true∧w.cell? (A.add (i * sz+j))=some (cell i j)∧(cell i j).oneCell'=true∧S i j d (cell i j)
section
variable {w:World}
theorem SrcG.of_dv {M:Mem} {sz:Nat} {l:List DV} {v:Value} (hin:M.In w) (h:DRel M (.sl sz l) v):SrcG w v sz l fun _ _ d u=>DRel M d u:=by
 cases h with
 | slnil=>exact .inl ⟨0,rfl,rfl⟩
 | sl _ _ A cap cell hcap hlen hc hr =>
  refine .inr ⟨A,cap,cell,rfl,fun i x hx=>?_⟩
  have hm:=hlen x (List.mem_of_getElem? hx)
  refine ⟨hm.1,fun j d hd=>⟨hm.2 d (List.mem_of_getElem? hd),hin.cell (hc i j (List.getElem?_eq_some_iff.1 hx).1 ?_),(hr i x j d hx hd).oneCell (hm.2 d (List.mem_of_getElem? hd)),hr i x j d hx hd⟩⟩
  rw [←hm.1]; exact (List.getElem?_eq_some_iff.1 hd).1
theorem SrcG.of_row {sz:Nat} {l:List DV} {v:Value} {R:Nat→Nat→DV→Value→Prop} (h:RowG w v sz l R) (h1:∀i j d u,R i j d u→d.isCell=true→u.oneCell'=true):SrcG w v sz l R:=by
 rcases h with ⟨rfl,rfl⟩ | ⟨g,o,cap,c,t,rfl,hcap,hw,hsz,hxs⟩
 ·exact .inl ⟨0,rfl,rfl⟩
 ·refine .inr ⟨⟨g,o,none⟩,cap,fun i j=>c.getD (o+i * sz+j) undef,rfl,fun i x hx=>?_⟩
  obtain ⟨a1,a2⟩:=hxs i x hx
  refine ⟨a1,fun j d hd=>?_⟩
  obtain ⟨b1,u,hu,hr⟩:=a2 j d hd
  have e:c.getD (o+i * sz+j) undef=u:=by rw [Array.getD_eq_getD_getElem?,hu]; rfl
  refine ⟨b1,?_,?_,?_⟩
  ·rw [add_at]
   simp only [World.cell?,hw]
   rw [show o+(i * sz+j)=o+i * sz+j by omega,e]
   simpa using hu
  ·show (c.getD (o+i * sz+j) undef).oneCell'=true
   rw [e]; exact h1 i j d u hr b1
  ·show R i j d (c.getD (o+i * sz+j) undef)
   rw [e]; exact hr
theorem SrcG.mono {sz:Nat} {l l':List DV} {v:Value} {S S':Nat→Nat→DV→Value→Prop} (h:SrcG w v sz l S) (hl:l.length=l'.length)
  (hx:∀(i:Nat) (x y:DV),l[i]?=some x→l'[i]?=some y→x.cells.length=y.cells.length∧∀(j:Nat) (d e:DV) (u:Value),x.cells[j]?=some d→y.cells[j]?=some e→d.isCell=true→S i j d u→e.isCell=true∧S' i j e u):SrcG w v sz l' S':=by
 rcases h with ⟨c,rfl,rfl⟩ | ⟨A,cap,cell,rfl,hh⟩
 ·exact .inl ⟨c,rfl,by simpa using hl.symm⟩
 ·refine .inr ⟨A,cap,cell,by rw [hl],fun i y hy=>?_⟩
  have hi:i<l.length:=by rw [hl]; exact (List.getElem?_eq_some_iff.1 hy).1
  obtain ⟨a1,a2⟩:=hh i _ (List.getElem?_eq_getElem hi)
  obtain ⟨b1,b2⟩:=hx i _ y (List.getElem?_eq_getElem hi) hy
  refine ⟨by omega,fun j e he=>?_⟩
  have hj:j<l[i].cells.length:=by have:=(List.getElem?_eq_some_iff.1 he).1; omega
  obtain ⟨c1,c2,c3,c4⟩:=a2 j _ (List.getElem?_eq_getElem hj)
  obtain ⟨d1,d2⟩:=b2 j _ e _ (List.getElem?_eq_getElem hj) he c1 c4
  exact ⟨d1,c2,c3,d2⟩
def newsOf (sz n:Nat) (cell:Nat→Nat→Value):List Value:=(List.range (n * sz)).map fun q=>cell (q / sz) (q % sz)
theorem newsOf_length (sz n:Nat) (cell:Nat→Nat→Value):(newsOf sz n cell).length=n * sz:=by simp [newsOf]
theorem newsOf_at {sz n i j:Nat} (cell:Nat→Nat→Value) (hi:i<n) (hj:j<sz):(newsOf sz n cell)[i * sz+j]?=some (cell i j):=by
 have h:=lt_idx hi hj
 obtain ⟨h1,h2⟩:=div_idx (i:=i) hj
 simp [newsOf,h,h1,h2]
theorem run_append_room' {P:Program} (t ty e:TypeId) (i:TypeInfo) (ht:P.underlying t=some (.slice e)) (hi:P.info? e=some i)
  (g o sLen sCap:Nat) (cur:Array Value) (tt:TypeId) (hg:w.heap[g]?=some (.cells cur tt (0,0)))
  (a:Addr) (m c:Nat) (news:List Value) (hl:news.length=m * i.size) (hnews:∀j u,news[j]?=some u→w.cell? (a.add j)=some u) (h1:∀u∈news,u.oneCell'=true)
  (hroom:sLen+m≤sCap) (hfit:o+sLen * i.size+news.length≤cur.size) :
  (Builtin.append_ #[t,t] ty #[.slice (some ⟨g,o,none⟩) sLen sCap,.slice (some a) m c]).run P w =
   .ok (.slice (some ⟨g,o,none⟩) (sLen+m) sCap) (w.setRow g (cur.toList.take (o+sLen * i.size)++news++cur.toList.drop (o+sLen * i.size+news.length)).toArray):=by
 have hf:=run_firstCells_some (P:=P) w i.size m a m c news hl hnews
 have hst:=run_storeCells_at P g (o+sLen * i.size) tt news 0 cur w hg (by simpa using hfit) h1
 simp only [Nat.add_zero] at hst
 simp [Builtin.append_,run_underlying ht,sizeOf,typeInfo,hi,Builtin.lenOf,hroom,hf,add_at,hst]
def joinR (n:Nat) (R S:Nat→Nat→DV→Value→Prop):Nat→Nat→DV→Value→Prop:=fun i j d u=>if i<n then R i j d u else S (i - n) j d u
def FullNew (w:World) (v v':Value) (w':World) (zs:List DV):Prop:=∀a n,v=.slice (some a) n n→zs ≠ []→(∀b,b<w.heap.size→w'.heap[b]?=w.heap[b]?)∧∀b,blk v'=some b→w.heap.size≤b
set_option maxHeartbeats 1000000 in
theorem append_row {P:Program} {t ty e:TypeId} {ti:TypeInfo} {z:Value} (ht:P.underlying t=some (.slice e)) (hi:P.info? e=some ti) (hz:ti.zero=some z) (hzs:z.cells.size=ti.size) (hpos:0<ti.size)
  {v sv:Value} {xs zs:List DV} {R S:Nat→Nat→DV→Value→Prop} (hrow:RowG w v ti.size xs R) (hsrc:SrcG w sv ti.size zs S)
  (h63:xs.length+zs.length≤9223372036854775807) (hby:(xs.length+zs.length) * ti.bytes≤140737488355328) :
  ∃v' w',(Builtin.append_ #[t,t] ty #[v,sv]).run P w=.ok v' w'∧RowG w' v' ti.size (xs++zs) (joinR xs.length R S)∧w.grownBy w' (blk v)∧(∀b,blk v'=some b→w.heap.size≤b ∨ blk v=some b)∧v'.oneCell'=true∧FullNew w v v' w' zs:=by
 have hvc:v.oneCell'=true:=by rcases hrow with ⟨_,rfl⟩ | ⟨_,_,_,_,_,rfl,_⟩ <;> rfl
 have hleft:∀{c:Array Value} {o:Nat},(∀(i:Nat) (x:DV),xs[i]?=some x→x.cells.length=ti.size∧∀(j:Nat) (d:DV),x.cells[j]?=some d→d.isCell=true∧∃u,c[o+i * ti.size+j]?=some u∧R i j d u) →
   ∀(i:Nat) (x:DV),xs[i]?=some x→x.cells.length=ti.size∧∀(j:Nat) (d:DV),x.cells[j]?=some d→d.isCell=true∧∃u,c[o+i * ti.size+j]?=some u∧joinR xs.length R S i j d u:=by
  intro c o hh i x hx
  obtain ⟨a1,a2⟩:=hh i x hx
  refine ⟨a1,fun j d hd=>?_⟩
  obtain ⟨b1,u,b2,b3⟩:=a2 j d hd
  refine ⟨b1,u,b2,?_⟩
  unfold joinR
  rw [if_pos (List.getElem?_eq_some_iff.1 hx).1]; exact b3
 have hsame:zs=[]→(Builtin.append_ #[t,t] ty #[v,sv]).run P w=.ok v w→∃v' w',(Builtin.append_ #[t,t] ty #[v,sv]).run P w=.ok v' w'∧RowG w' v' ti.size (xs++zs) (joinR xs.length R S)∧w.grownBy w' (blk v)∧(∀b,blk v'=some b→w.heap.size≤b ∨ blk v=some b)∧v'.oneCell'=true∧FullNew w v v' w' zs:=by
  rintro rfl hr
  refine ⟨v,w,hr,?_,World.grownBy.refl w _,fun b hb=>.inr hb,hvc,fun _ _ _ h=>absurd rfl h⟩
  rw [List.append_nil]
  rcases hrow with h | ⟨g,o,cap,cc,tt,hv,hcap,hw,hsz,hxs⟩
  ·exact .inl h
  ·exact .inr ⟨g,o,cap,cc,tt,hv,hcap,hw,hsz,hleft hxs⟩
 rcases hsrc with ⟨c,rfl,hnil⟩ | ⟨A,cap2,cell,rfl,hcell⟩
 ·refine hsame hnil ?_
  rcases hrow with ⟨_,rfl⟩ | ⟨g,o,cap,cc,tt,rfl,hcap,hw,hsz,hxs⟩
  ·simp [Builtin.append_,run_underlying ht,sizeOf,typeInfo,hi,Builtin.lenOf,Builtin.firstCells]
  ·simp [Builtin.append_,run_underlying ht,sizeOf,typeInfo,hi,Builtin.lenOf,Builtin.firstCells,hcap,storeCells]
 ·obtain ⟨m,hmm⟩:∃m,m=zs.length:=⟨_,rfl⟩
  rw [←hmm] at h63 hby hsame ⊢
  have hlen:(newsOf ti.size m cell).length=m * ti.size:=newsOf_length _ _ _
  have hq:∀q,q<m * ti.size→q / ti.size<m∧q % ti.size<ti.size∧q=q / ti.size * ti.size+q % ti.size:=fun q hq =>
   ⟨(Nat.div_lt_iff_lt_mul hpos).2 hq,Nat.mod_lt _ hpos,by have:=Nat.div_add_mod q ti.size; rw [Nat.mul_comm] at this; exact this.symm⟩
  have hnews:∀j u,(newsOf ti.size m cell)[j]?=some u→w.cell? (A.add j)=some u:=by
   intro q u hu
   have hlt:q<m * ti.size:=by rw [←hlen]; exact (List.getElem?_eq_some_iff.1 hu).1
   obtain ⟨h1,h2,h3⟩:=hq q hlt
   obtain ⟨hl1,hl3⟩:=hcell (q / ti.size) (zs[q / ti.size]'(by omega)) (List.getElem?_eq_getElem (by omega))
   have:=(hl3 (q % ti.size) _ (List.getElem?_eq_getElem (by rw [hl1]; exact h2))).2.1
   rw [h3] at hu ⊢
   rw [newsOf_at cell h1 h2] at hu
   rw [this]; exact hu
  have hone:∀u,u∈newsOf ti.size m cell→u.oneCell'=true:=by
   intro u hu
   obtain ⟨q,hq',rfl⟩:=List.getElem_of_mem hu
   have hlt:q<m * ti.size:=by rw [←hlen]; exact hq'
   obtain ⟨h1,h2,h3⟩:=hq q hlt
   obtain ⟨hl1,hl3⟩:=hcell (q / ti.size) (zs[q / ti.size]'(by omega)) (List.getElem?_eq_getElem (by omega))
   have hj:q % ti.size<(zs[q / ti.size]'(by omega)).cells.length:=by rw [hl1]; exact h2
   have:=(hl3 (q % ti.size) _ (List.getElem?_eq_getElem hj)).2.2.1
   have he:(newsOf ti.size m cell)[q]=cell (q / ti.size) (q % ti.size):=by simp [newsOf]
   rw [he]; exact this
  have reads:∀(c':Array Value) (o':Nat),
    (∀(i:Nat) (x:DV),xs[i]?=some x→x.cells.length=ti.size∧∀(j:Nat) (d:DV),x.cells[j]?=some d→d.isCell=true∧∃u,c'[o'+i * ti.size+j]?=some u∧R i j d u) →
    (∀q,q<m * ti.size→c'[o'+xs.length * ti.size+q]?=(newsOf ti.size m cell)[q]?) →
    ∀(i:Nat) (x:DV),(xs++zs)[i]?=some x→x.cells.length=ti.size∧∀(j:Nat) (d:DV),x.cells[j]?=some d→d.isCell=true∧∃u,c'[o'+i * ti.size+j]?=some u∧joinR xs.length R S i j d u:=by
   intro c' o' hold hnew i x hx
   rw [List.getElem?_append] at hx
   split at hx
   ·exact hleft hold i x hx
   ·rename_i hge
    obtain ⟨h1,h3⟩:=hcell _ x hx
    have hlt:i - xs.length<m:=by rw [hmm]; exact (List.getElem?_eq_some_iff.1 hx).1
    refine ⟨h1,fun j d hd=>?_⟩
    have hj:j<ti.size:=by rw [←h1]; exact (List.getElem?_eq_some_iff.1 hd).1
    obtain ⟨k1,k2,k3,k4⟩:=h3 j d hd
    refine ⟨k1,cell (i - xs.length) j,?_,by unfold joinR; rw [if_neg hge]; exact k4⟩
    have:=hnew ((i - xs.length) * ti.size+j) (lt_idx hlt hj)
    rw [newsOf_at cell hlt hj] at this
    rw [←this]
    congr 1
    have:i * ti.size=xs.length * ti.size+(i - xs.length) * ti.size:=by rw [←Nat.add_mul]; congr 1; omega
    omega
  by_cases hm0:m=0
  ·have hzs0:zs=[]:=List.eq_nil_of_length_eq_zero (by omega)
   subst hm0
   clear reads hone hnews hq hlen hcell
   refine hsame hzs0 ?_
   clear hsame hleft
   rcases hrow with ⟨_,rfl⟩ | ⟨g,o,cap,cc,tt,rfl,hcap,hw,hsz,hxs⟩
   ·simp [Builtin.append_,run_underlying ht,sizeOf,typeInfo,hi,Builtin.lenOf,Builtin.firstCells,loadCells,loadCellsFrom]
   ·simp [Builtin.append_,run_underlying ht,sizeOf,typeInfo,hi,Builtin.lenOf,Builtin.firstCells,hcap,storeCells,loadCells,loadCellsFrom]
  ·have hgrown:∀(olds:List Value) (cp:Nat),olds.length=xs.length * ti.size→xs.length+m≤cp→(∀(i:Nat) (x:DV),xs[i]?=some x→x.cells.length=ti.size∧∀(j:Nat) (d:DV),x.cells[j]?=some d→d.isCell=true∧∃u,olds[i * ti.size+j]?=some u∧R i j d u) →
       RowG (w.drew.alloc (.cells (olds.toArray++(newsOf ti.size m cell).toArray++Builtin.zeroCells z.cells (cp - (xs.length+m))) e)) (.slice (some ⟨w.heap.size,0,none⟩) (xs.length+m) cp) ti.size (xs++zs) (joinR xs.length R S):=by
    intro olds cp hol hcp hold
    refine .inr ⟨w.heap.size,0,cp,_,e,by simp [hmm],by simpa [hmm] using hcp,heap_alloc_at w.drew _,?_,reads _ 0 ?_ ?_⟩
    ·simp only [Array.size_append,List.size_toArray,size_zeroCells,hzs,hol,hlen,←Nat.add_mul,Nat.zero_add]
     refine Nat.mul_le_mul_right _ ?_
     omega
    ·intro i x hx
     obtain ⟨h1,h3⟩:=hold i x hx
     refine ⟨h1,fun j d hd=>?_⟩
     obtain ⟨k1,u,hu,hr⟩:=h3 j d hd
     refine ⟨k1,u,?_,hr⟩
     have hlt:=(List.getElem?_eq_some_iff.1 hu).1
     rw [Nat.zero_add,Array.getElem?_append,if_pos (by simp; omega),Array.getElem?_append,if_pos (by simpa using hlt)]
     simpa using hu
    ·intro q hq'
     rw [Nat.zero_add,Array.getElem?_append,if_pos (by simp [hlen,hol]; omega),Array.getElem?_append,if_neg (by simp [hol])]
     simp [hol]
   rcases hrow with ⟨rfl,rfl⟩ | ⟨g,o,cap,cc,tt,rfl,hcap,hw,hsz,hxs⟩
   ·have hr:=run_append_nil (P:=P) w t ty e ti z ht hi hz A m cap2 (newsOf ti.size m cell) hlen hnews (by omega) (by simp at h63; omega) (by simp at hby; omega)
    have hg:=hgrown [] (grownCap w m 0 e) (by simp) (by simpa using grownCap_ge w m 0 e) (by simp)
    simp only [List.length_nil,Nat.zero_add,Array.empty_append] at hg
    refine ⟨_,_,hr,by simpa using hg,⟨rfl,rfl,rfl,by simp,fun q hq _=>heap_alloc_lt w.drew _ hq⟩,fun b hb=>?_,rfl,fun _ _ e=>by cases e⟩
    simp [blk] at hb; exact .inl (by omega)
   ·by_cases hroom:xs.length+m≤cap
    ·have hfit:o+xs.length * ti.size+(newsOf ti.size m cell).length≤cc.size:=by
      rw [hlen]
      have:(xs.length+m) * ti.size≤cap * ti.size:=Nat.mul_le_mul_right _ hroom
      rw [Nat.add_mul] at this
      omega
     have hr:=run_append_room' (P:=P) t ty e ti ht hi g o xs.length cap cc tt hw A m cap2 (newsOf ti.size m cell) hlen hnews hone hroom hfit
     refine ⟨_,_,hr,.inr ⟨g,o,cap,_,tt,by simp [hmm],by simpa [hmm] using hroom,setRow_heap w g cc _ tt _ hw,?_,reads _ o ?_ ?_⟩,⟨rfl,rfl,rfl,by simp,fun q _ hq=>setRow_other w g q _ (fun x=>hq (by simp [blk,x]))⟩,fun b hb=>.inr hb,rfl,fun a n e hz=>?_⟩
     ·simp only [List.size_toArray,List.length_append,List.length_take,List.length_drop,Array.length_toList]
      omega
     ·intro i x hx
      obtain ⟨h1,h3⟩:=hxs i x hx
      refine ⟨h1,fun j d hd=>?_⟩
      obtain ⟨k1,u,hu,hr⟩:=h3 j d hd
      refine ⟨k1,u,?_,hr⟩
      have hj:j<ti.size:=by rw [←h1]; exact (List.getElem?_eq_some_iff.1 hd).1
      have hil:=lt_idx (List.getElem?_eq_some_iff.1 hx).1 hj
      have hcs:o+i * ti.size+j<cc.size:=(Array.getElem?_eq_some_iff.1 hu).1
      simp only [List.getElem?_toArray,List.append_assoc]
      rw [List.getElem?_append_left (by simp; omega),List.getElem?_take,if_pos (by omega)]
      simpa using hu
     ·intro q hq'
      simp only [List.getElem?_toArray,List.append_assoc]
      rw [List.getElem?_append_right (by simp; omega),List.getElem?_append_left (by simp; omega)]
      congr 1
      simp; omega
     ·exfalso
      simp only [Value.slice.injEq] at e
      have:zs.length ≠ 0:=fun h=>hz (List.eq_nil_of_length_eq_zero h)
      omega
    ·have holds:∀j u,((List.range (xs.length * ti.size)).map fun q=>cc.getD (o+q) undef)[j]?=some u→w.cell? ((⟨g,o,none⟩:Addr).add j)=some u:=by
      intro j u hj
      simp only [List.getElem?_map] at hj
      by_cases hlt:j<xs.length * ti.size
      ·simp only [List.getElem?_range hlt,Option.map_some] at hj
       injection hj with hj
       have hlt':o+j<cc.size:=by
        have:xs.length * ti.size≤cap * ti.size:=Nat.mul_le_mul_right _ hcap
        omega
       rw [add_at]
       simp only [World.cell?,hw]
       rw [←hj]
       simp [hlt']
      ·simp [hlt] at hj
     have hr:=run_append_grow (P:=P) w t ty e ti z ht hi hz ⟨g,o,none⟩ xs.length cap ((List.range (xs.length * ti.size)).map fun q=>cc.getD (o+q) undef) (by simp) holds A m cap2 (newsOf ti.size m cell) hlen hnews (by omega) (by omega) (growslice_fits (by omega) hby)
     have hg:=hgrown ((List.range (xs.length * ti.size)).map fun q=>cc.getD (o+q) undef) (grownCap w (xs.length+m) cap e) (by simp) (grownCap_ge w (xs.length+m) cap e) (by
      intro i x hx
      obtain ⟨h1,h3⟩:=hxs i x hx
      refine ⟨h1,fun j d hd=>?_⟩
      obtain ⟨k1,u,hu,hr⟩:=h3 j d hd
      have hj:j<ti.size:=by rw [←h1]; exact (List.getElem?_eq_some_iff.1 hd).1
      have hil:=lt_idx (List.getElem?_eq_some_iff.1 hx).1 hj
      refine ⟨k1,u,?_,hr⟩
      simp only [List.getElem?_map,List.getElem?_range hil,Option.map_some]
      rw [show o+(i * ti.size+j)=o+i * ti.size+j by omega,Array.getD_eq_getD_getElem?,hu]
      rfl)
     refine ⟨_,_,hr,hg,⟨rfl,rfl,rfl,by simp,fun q hq _=>heap_alloc_lt w.drew _ hq⟩,fun b hb=>?_,rfl,fun _ _ _ _=>⟨fun b hb=>heap_alloc_lt w.drew _ hb,fun b hb=>?_⟩⟩
     ·simp [blk] at hb; exact .inl (by omega)
     ·simp [blk] at hb; omega
end
end Go.TM
namespace Go.TM
open Go.RowKit
variable [Glob]
section
variable {w w':World}
theorem TreeAt.sub {M:Mem} {h:List PS→Option Value} {d c:DV} {p:List PS} (ht:TreeAt M w h d) (hp:get d p=some c) (hc:c.owning=true):TreeAt M w (fun r=>h (p++r)) c:=by
 refine ⟨hc,fun q m hq hm=>?_⟩
 obtain ⟨v,h1,h2,h3⟩:=ht.2 (p++q) m (by rw [get_append,hp]; exact hq) hm
 exact ⟨v,h1,h2,by simpa only [List.append_assoc] using h3⟩
theorem TInj.sub {h:List PS→Option Value} {d c:DV} {p:List PS} (hi:TInj h d) (hp:get d p=some c):TInj (fun r=>h (p++r)) c:=by
 intro q q' n m u v b e1 e2 e3 e4 f1 f2 f3 f4
 have:=hi (p++q) (p++q') n m u v b (by rw [get_append,hp]; exact e1) e2 e3 e4 (by rw [get_append,hp]; exact f1) f2 f3 f4
 exact List.append_cancel_left this
theorem TOwn.sub {h:List PS→Option Value} {d c:DV} {p:List PS} {b:Nat} (hp:get d p=some c) (ho:TOwn (fun r=>h (p++r)) c b):TOwn h d b:=by
 obtain ⟨q,m,v,h1,h2,h3,h4⟩:=ho
 exact ⟨p++q,m,v,by rw [get_append,hp]; exact h1,h2,h3,h4⟩
theorem TInj.keep {h h':List PS→Option Value} {d:DV} (hi:TInj h d) (hh:∀p n v,get d p=some n→n.owning=true→h' p=some v→h p=some v):TInj h' d :=
 fun p q n m u v b e1 e2 e3 e4 f1 f2 f3 f4=>hi p q n m u v b e1 e2 (hh p n u e1 e2 e3) e4 f1 f2 (hh q m v f1 f2 f3) f4
def nilH:List PS→Option Value
 | []=>some (.slice none 0 0)
 | _=>none
theorem nil_get {sz:Nat} {p:List PS} {m:DV} (h:get (.osl sz []) p=some m):p=[]∧m=.osl sz []:=by
 cases p with
 | nil=>simp [get] at h; exact ⟨rfl,h.symm⟩
 | cons s p=>cases s <;> simp [get,step] at h
theorem nil_tree (M:Mem) (w:World) (sz:Nat):TreeAt M w nilH (.osl sz []):=by
 refine ⟨rfl,fun p m hp _=>?_⟩
 obtain ⟨rfl,rfl⟩:=nil_get hp
 exact ⟨_,rfl,rfl,.inl ⟨rfl,rfl⟩⟩
theorem nil_inj (sz:Nat):TInj nilH (.osl sz []):=by
 intro p q n m u v b e1 _ _ _ f1 _ _ _
 rw [(nil_get e1).1,(nil_get f1).1]
theorem nil_own {sz b:Nat} (h:TOwn nilH (.osl sz []) b):False:=by
 obtain ⟨p,m,v,h1,_,h3,h4⟩:=h
 obtain ⟨rfl,rfl⟩:=nil_get h1
 simp [nilH] at h3
 subst h3
 simp [blk] at h4
def catH (n:Nat) (v:Value) (h hs:List PS→Option Value):List PS→Option Value
 | []=>some v
 | .el i j::r=>if i<n then h (.el i j::r) else hs (.el (i - n) j::r)
 | s::r=>h (s::r)
inductive Src (M:Mem) (w:World) (x:Value) (sz:Nat) (ys:List DV) (hs:List PS→Option Value):Prop
 | closed (h:SrcG w x sz ys fun _ _ d u=>d.owning=false∧DRel M d u) (hn:hs=fun _=>none)
 | tree (ht:TreeAt M w hs (.osl sz ys)) (hi:TInj hs (.osl sz ys)) (hx:hs []=some x)
theorem CellR.oneCell {M:Mem} {h:Option Value} {d:DV} {u:Value} (r:CellR M h d u) (hc:d.isCell=true) (ho:d.owning=true→∀v,h=some v→v.oneCell'=true):u.oneCell'=true:=by
 rcases r with ⟨a,b⟩ | ⟨a,b⟩
 ·exact ho a u b
 ·exact b.oneCell hc
theorem TreeAt.kid_cell {M:Mem} {h:List PS→Option Value} {d c:DV} {s:PS} (ht:TreeAt M w h d) (hs:step d s=some c) (hc:c.owning=true) {v:Value} (hv:h [s]=some v):v.oneCell'=true:=by
 obtain ⟨u,h1,h2,_⟩:=ht.2 [s] c (by simp [get,hs]) hc
 rw [h1] at hv; injection hv with hv; subst hv; exact h2
theorem Src.srcG {M:Mem} {x:Value} {sz:Nat} {ys:List DV} {hs:List PS→Option Value} (h:Src M w x sz ys hs):SrcG w x sz ys fun i j d u=>d.isCell=true∧CellR M (hs [.el i j]) d u:=by
 cases h with
 | closed h hn =>
  refine h.mono rfl fun i x' y hx hy=>?_
  rw [hx] at hy; injection hy with hy; subst hy
  refine ⟨rfl,fun j d e u hd he hcd hS=>?_⟩
  rw [hd] at he; injection he with he; subst he
  exact ⟨hcd,hcd,.inr hS⟩
 | tree ht hi hx =>
  obtain ⟨v,h1,h2,h3⟩:=ht.2 [] _ rfl rfl
  rw [hx] at h1; injection h1 with h1; subst h1
  have h4:RowG w x sz ys fun i j d u=>d.isCell=true∧step (.osl sz ys) (.el i j)=some d∧CellR M (hs [.el i j]) d u:=by
   rcases rowG_iff.1 h3 with h3 | ⟨g,o,cap,c,t,a1,a2,a3,a4,a5⟩
   ·exact .inl h3
   ·refine .inr ⟨g,o,cap,c,t,a1,a2,a3,a4,fun i y hy=>⟨(a5 i y hy).1,fun j d hd=>?_⟩⟩
    obtain ⟨b1,u,b2,b3⟩:=(a5 i y hy).2 j d hd
    exact ⟨b1,u,b2,b1,by simp only [step,hy]; exact hd,b3⟩
  refine (SrcG.of_row h4 fun i j d u hr _=>?_).mono rfl fun i x' y hx hy=>?_
  ·exact hr.2.2.oneCell hr.1 fun ho v hv=>ht.kid_cell hr.2.1 ho hv
  ·rw [hx] at hy; injection hy with hy; subst hy
   refine ⟨rfl,fun j d e u hd he hcd hS=>?_⟩
   rw [hd] at he; injection he with he; subst he
   exact ⟨hcd,hS.1,hS.2.2⟩
theorem TLes.length:∀{l r:List DV},TLes l r→l.length=r.length
 | [],[],_=>rfl
 | _::_,_::_,h=>by simp [TLes.length h.2]
 | [],_::_,h=>h.elim
 | _::_,[],h=>h.elim
theorem TLes.at:∀{l r:List DV},TLes l r→∀(j:Nat) (d e:DV),l[j]?=some d→r[j]?=some e→(d.owning=true∧d=e) ∨ (d.owning=false∧d.Le e)
 | [],[],_,j,d,e,h,_=>by simp at h
 | a::l,b::r,h,0,d,e,e1,e2=>by
  simp at e1 e2; subst e1; subst e2
  have:=h.1
  cases ho:a.owning with
  | true=>rw [ho] at this; exact .inl ⟨rfl,this⟩
  | false=>rw [ho] at this; exact .inr ⟨rfl,this⟩
 | a::l,b::r,h,j+1,d,e,e1,e2=>by simp at e1 e2; exact TLes.at h.2 j d e e1 e2
 | [],_::_,h,_,_,_,_,_=>h.elim
 | _::_,[],h,_,_,_,_,_=>h.elim
theorem ELes.length:∀{l r:List DV},ELes l r→l.length=r.length
 | [],[],_=>rfl
 | _::_,_::_,h=>by simp [ELes.length h.2]
 | [],_::_,h=>h.elim
 | _::_,[],h=>h.elim
theorem ELes.at:∀{l r:List DV},ELes l r→∀(i:Nat) (x y:DV),l[i]?=some x→r[i]?=some y→TLes x.cells y.cells
 | [],[],_,j,d,e,h,_=>by simp at h
 | a::l,b::r,h,0,d,e,e1,e2=>by simp at e1 e2; subst e1; subst e2; exact h.1
 | a::l,b::r,h,j+1,d,e,e1,e2=>by simp at e1 e2; exact ELes.at h.2 j d e e1 e2
 | [],_::_,h,_,_,_,_,_=>h.elim
 | _::_,[],h,_,_,_,_,_=>h.elim
theorem DRel.isCell {M:Mem} {d:DV} {v:Value} (h:DRel M d v) (hv:v.oneCell'=true):d.isCell=true:=by
 cases h with
 | agg=>simp [Value.oneCell'] at hv
 | _=>rfl
theorem CellR.le {M:Mem} {h:Option Value} {d e:DV} {u:Value} (r:CellR M h d u) (hle:(d.owning=true∧d=e) ∨ (d.owning=false∧d.Le e)) (hc:d.isCell=true):e.isCell=true∧CellR M h e u∧(e.owning=true→d=e):=by
 rcases hle with ⟨h1,rfl⟩ | ⟨h1,h2⟩
 ·exact ⟨hc,r,fun _=>rfl⟩
 ·rcases r with ⟨a,b⟩ | ⟨a,b⟩
  ·rw [h1] at a; cases a
  ·have h3:=h2 M u b
   exact ⟨h3.isCell (b.oneCell hc),.inr ⟨h3.not_owning,h3⟩,fun ho=>by rw [h3.not_owning] at ho; cases ho⟩
theorem append_tree {P:Program} {T:List TI} (hT:TOk P T) {t ty:TypeId} (hok:(nth T t).ok=true) (hsl:(nth T t).isSl=true) (hel:(nth T (nth T t).elem).ok=true) (hpos:0<(nth T (nth T t).elem).size)
  {M:Mem} {h hs:List PS→Option Value} {l ys zs:List DV} {v x:Value} (ht:TreeAt M w h (.osl (nth T (nth T t).elem).size l)) (hi:TInj h (.osl (nth T (nth T t).elem).size l)) (hv:h []=some v)
  (hsrc:Src M w x (nth T (nth T t).elem).size ys hs) (hdis:∀b,TOwn h (.osl (nth T (nth T t).elem).size l) b→¬ TOwn hs (.osl (nth T (nth T t).elem).size ys) b) (hlt:∀b,TOwn hs (.osl (nth T (nth T t).elem).size ys) b→b<w.heap.size) (hle:ELes ys zs)
  (h63:l.length+zs.length≤9223372036854775807) (hby:(l.length+zs.length) * (nth T (nth T t).elem).bytes≤140737488355328) :
  ∃v' w',(Builtin.append_ #[t,t] ty #[v,x]).run P w=.ok v' w'∧w.grownBy w' (blk v)∧v'.oneCell'=true∧TreeAt M w' (catH l.length v' h hs) (.osl (nth T (nth T t).elem).size (l++zs))∧TInj (catH l.length v' h hs) (.osl (nth T (nth T t).elem).size (l++zs)) ∧
   ∀b,TOwn (catH l.length v' h hs) (.osl (nth T (nth T t).elem).size (l++zs)) b→TOwn h (.osl (nth T (nth T t).elem).size l) b ∨ TOwn hs (.osl (nth T (nth T t).elem).size ys) b ∨ w.heap.size≤b:=by
 obtain ⟨i,u,z,tf⟩:=hT.facts hok
 obtain ⟨te,ue,ze,tfe⟩:=hT.facts hel
 generalize hsz:(nth T (nth T t).elem).size=sz at *
 have hsize:te.size=sz:=by rw [←hsz,tfe.size]
 obtain ⟨v0,hv0,hvc,hnode⟩:=ht.2 [] _ rfl rfl
 rw [hv] at hv0; injection hv0 with hv0; subst hv0
 have hrow:=rowG_iff.1 hnode
 have hsg:=hsrc.srcG
 have hzsrc:SrcG w x sz zs fun i j d u=>d.isCell=true∧CellR M (hs [.el i j]) d u:=by
  refine hsg.mono hle.length fun i x y hx hy=>?_
  have h1:=hle.at i x y hx hy
  refine ⟨h1.length,fun j d e u hd he hcd hS=>?_⟩
  obtain ⟨k1,k2,_⟩:=hS.2.le (h1.at j d e hd he) hcd
  exact ⟨k1,k1,k2⟩
 have hown_src:∀i j e,step (.osl sz zs) (.el i j)=some e→e.owning=true→step (.osl sz ys) (.el i j)=some e:=by
  intro i j e he ho
  simp only [step] at he ⊢
  split at he
  ·rename_i y hy
   have hi':i<ys.length:=by rw [hle.length]; exact (List.getElem?_eq_some_iff.1 hy).1
   have hx:ys[i]?=some ys[i]:=List.getElem?_eq_getElem hi'
   rw [hx]
   have h1:=hle.at i _ y hx hy
   have hj:j<ys[i].cells.length:=by rw [h1.length]; exact (List.getElem?_eq_some_iff.1 he).1
   have hd:ys[i].cells[j]?=some ys[i].cells[j]:=List.getElem?_eq_getElem hj
   simp only
   rcases h1.at j _ e hd he with ⟨a,b⟩ | ⟨a,b⟩
   ·rw [hd,b]
   ·-- a closed cell cannot become an owning one: there is a value of it
    rcases hsg with ⟨c,_,hnil⟩ | ⟨A,cap,cell,_,hcell⟩
    ·rw [hnil] at hi'; simp at hi'
    ·obtain ⟨_,h3⟩:=hcell i _ hx
     obtain ⟨_,_,_,h4⟩:=h3 j _ hd
     rcases h4.2 with ⟨c1,_⟩ | ⟨_,c2⟩
     ·rw [a] at c1; cases c1
     ·rw [(b M _ c2).not_owning] at ho; cases ho
  ·cases he
 have hzc:ze.cells.size=te.size:=by
  have:=(zcells_ok (M:=M) tfe.zc).1.1
  simp at this
  rw [←this,tfe.zl]
 obtain ⟨v',w',hrun,hrow',hgrow,hblk,hvc',_⟩:=append_row (P:=P) (t:=t) (ty:=ty) (tf.slice hsl) tfe.info tfe.zero hzc (by rw [hsize]; exact hpos) (by rw [hsize]; exact hrow) (by rw [hsize]; exact hzsrc) h63 (by rw [←tfe.bytes]; exact hby)
 rw [hsize] at hrow'
 refine ⟨v',w',hrun,hgrow,hvc',?_⟩
 have hkeepw:∀b,b<w.heap.size→blk v ≠ some b→w'.heap[b]?=w.heap[b]?:=fun b hb hne=>hgrow.block b hb (fun e=>hne e.symm)
 have hnode':NodeAt M w' v' (fun s=>catH l.length v' h hs ([]++[s])) (.osl sz (l++zs)):=by
  refine rowG_iff.2 ?_
  rcases hrow' with h1 | ⟨g,o,cap,c,tt,a1,a2,a3,a4,a5⟩
  ·exact .inl h1
  ·refine .inr ⟨g,o,cap,c,tt,a1,a2,a3,a4,fun i x hx=>⟨(a5 i x hx).1,fun j d hd=>?_⟩⟩
   obtain ⟨b1,u,b2,b3⟩:=(a5 i x hx).2 j d hd
   refine ⟨b1,u,b2,?_⟩
   unfold joinR at b3
   simp only [List.nil_append,catH]
   split at b3
   ·rename_i hlt'; rw [if_pos hlt']; exact b3
   ·rename_i hlt'; rw [if_neg hlt']; exact b3.2
 have kidold:∀i j c,i<l.length→(step (.osl sz (l++zs)) (.el i j)=some c ↔ step (.osl sz l) (.el i j)=some c):=by
  intro i j c hlt'
  simp only [step]
  rw [List.getElem?_append_left hlt']
 have kidnew:∀i j c,¬ i<l.length→step (.osl sz (l++zs)) (.el i j)=some c→step (.osl sz zs) (.el (i - l.length) j)=some c:=by
  intro i j c hge hc
  simp only [step] at hc ⊢
  rw [List.getElem?_append_right (by omega)] at hc
  exact hc
 have el:∀s c,step (.osl sz (l++zs)) s=some c→∃i j,s=.el i j:=by
  intro s c hs'
  cases s with
  | el i j=>exact ⟨i,j,rfl⟩
  | key=>simp [step] at hs'
 have sub:∀i j c,¬ i<l.length→step (.osl sz (l++zs)) (.el i j)=some c→c.owning=true→TreeAt M w' (fun r=>hs (.el (i - l.length) j::r)) c∧TInj (fun r=>hs (.el (i - l.length) j::r)) c∧∀b,TOwn (fun r=>hs (.el (i - l.length) j::r)) c b→TOwn hs (.osl sz ys) b:=by
  intro i j c hge hc ho
  have h1:=hown_src _ _ _ (kidnew i j c hge hc) ho
  have hg:get (.osl sz ys) [.el (i - l.length) j]=some c:=by simp [get,h1]
  cases hsrc with
  | closed hcl hn =>
   exfalso
   rcases hcl with ⟨_,_,hnil⟩ | ⟨A,cap,cell,_,hcell⟩
   ·subst hnil; simp [step] at h1
   ·simp only [step] at h1
    split at h1
    ·rename_i x hx
     obtain ⟨_,h3⟩:=hcell _ x hx
     have:=(h3 j c h1).2.2.2.1
     rw [ho] at this; cases this
    ·cases h1
  | tree hst hsi hsx =>
   have t1:=hst.sub hg ho
   have t2:∀b,TOwn (fun r=>hs ([.el (i - l.length) j]++r)) c b→TOwn hs (.osl sz ys) b:=fun b hb=>hb.sub hg
   refine ⟨t1.keep (Mem.Le.refl _) (fun b hb=>hkeepw b (hlt b (t2 b hb)) fun e=>?_) (fun _ _ _ _ _ q=>q),hsi.sub hg,t2⟩
   exact hdis b ⟨[],_,v,rfl,rfl,hv,e⟩ (t2 b hb)
 have main:=TreeAt.reNode (w:=w) (w':=w') (h':=catH l.length v' h hs) (p:=[]) (n:=.osl sz l) (n':=.osl sz (l++zs)) (v:=v) (v':=v') (fun s=>∃i j,s=.el i j∧¬ i<l.length) ht hi rfl rfl hv rfl rfl hvc' (.inl rfl) hnode'
  (fun q hq=>absurd (List.nil_prefix) hq)
  (fun s c hs' ho hN=>by
   obtain ⟨i,j,rfl⟩:=el s c hs'
   by_cases hlt':i<l.length
   ·exact ⟨(kidold i j c hlt').1 hs',fun r=>by simp only [List.nil_append,catH,if_pos hlt']⟩
   ·exact absurd ⟨i,j,rfl,hlt'⟩ hN)
  (fun s c hs' ho hN=>by
   obtain ⟨i,j,rfl,hge⟩:=hN
   obtain ⟨t1,t2,t3⟩:=sub i j c hge hs' ho
   have e:(fun r=>catH l.length v' h hs ([]++.el i j::r))=fun r=>hs (.el (i - l.length) j::r):=by funext r; simp only [List.nil_append,catH,if_neg hge]
   rw [e]
   refine ⟨t1,t2,fun b hb=>⟨fun ho'=>hdis b ho' (t3 b hb),fun hb'=>?_⟩⟩
   rcases hblk b hb' with h5 | h5
   ·have:=hlt b (t3 b hb); omega
   ·exact hdis b ⟨[],_,v,rfl,rfl,hv,h5⟩ (t3 b hb))
  (fun s s' c c' b hs1 ho1 hN1 hs2 ho2 hN2 hb1 hb2=>by
   obtain ⟨i,j,rfl,hge⟩:=hN1
   obtain ⟨i',j',rfl,hge'⟩:=hN2
   have e:∀i j,¬ i<l.length→(fun r=>catH l.length v' h hs ([]++.el i j::r))=fun r=>hs (.el (i - l.length) j::r):=fun i j hge=>by funext r; simp only [List.nil_append,catH,if_neg hge]
   rw [e i j hge] at hb1
   rw [e i' j' hge'] at hb2
   have g1:=hown_src _ _ _ (kidnew i j c hge hs1) ho1
   have g2:=hown_src _ _ _ (kidnew i' j' c' hge' hs2) ho2
   cases hsrc with
   | closed hcl hn=>rw [hn] at hb1; obtain ⟨_,_,_,_,_,q,_⟩:=hb1; cases q
   | tree hst hsi hsx =>
    obtain ⟨q,m,u,a1,a2,a3,a4⟩:=hb1
    obtain ⟨q',m',u',b1,b2,b3,b4⟩:=hb2
    have:=hsi (.el (i - l.length) j::q) (.el (i' - l.length) j'::q') m m' u u' b (by simp only [get,g1]; exact a1) a2 a3 a4 (by simp only [get,g2]; exact b1) b2 b3 b4
    injection this with e1 e2
    injection e1 with e1 e3
    have:i=i':=by omega
    rw [this,e3])
  (fun b hb=>by
   rcases hblk b hb with h5 | h5
   ·right; intro ho
    obtain ⟨p,m,u,a1,a2,a3,a4⟩:=ho
    obtain ⟨u',c1,_,c3⟩:=ht.2 p m a1 a2
    rw [a3] at c1; injection c1 with c1; subst c1
    have:=blk_lt c3 a4; omega
   ·exact .inl h5)
  (fun b ho hne=>by
   obtain ⟨p,m,u,a1,a2,a3,a4⟩:=ho
   obtain ⟨u',c1,_,c3⟩:=ht.2 p m a1 a2
   rw [a3] at c1; injection c1 with c1; subst c1
   exact hkeepw b (blk_lt c3 a4) hne)
 obtain ⟨m1,m2,m3⟩:=main
 refine ⟨m1,m2,fun b hb=>?_⟩
 rcases m3 b hb with h1 | h1 | ⟨s,c,s1,s2,⟨i,j,rfl,hge⟩,s4⟩
 ·exact .inl h1
 ·rcases hblk b h1 with h5 | h5
  ·exact .inr (.inr h5)
  ·exact .inl ⟨[],_,v,rfl,rfl,hv,h5⟩
 ·have e:(fun r=>catH l.length v' h hs ([]++.el i j::r))=fun r=>hs (.el (i - l.length) j::r):=by funext r; simp only [List.nil_append,catH,if_neg hge]
  rw [e] at s4
  exact .inr (.inl ((sub i j c hge s1 s2).2.2 b s4))
end
end Go.TM
namespace Go.TM
open Go.RowKit
variable [Glob]
theorem setP_snoc {d nq n:DV} {q:List PS} {s:PS} {c:DV} (hq:get d q=some nq) (hs:step nq s=some c):setP d (q++[s]) n=setP d q (put nq s n):=by
 induction q generalizing d with
 | nil=>simp [get] at hq; subst hq; simp [setP,hs]
 | cons s' q ih =>
  simp only [get] at hq
  simp only [List.cons_append,setP]
  cases h1:step d s' with
  | none=>simp [h1] at hq
  | some c1=>rw [h1] at hq; simp only [ih hq]
theorem TreeAt.lt {M:Mem} {w:World} {h:List PS→Option Value} {d:DV} (ht:TreeAt M w h d) {b:Nat} (ho:TOwn h d b):b<w.heap.size:=by
 obtain ⟨p,m,u,a1,a2,a3,a4⟩:=ho
 obtain ⟨u',c1,_,c3⟩:=ht.2 p m a1 a2
 rw [a3] at c1; injection c1 with c1; subst c1
 exact blk_lt c3 a4
theorem TreeAt.forget {M:Mem} {w:World} {h:List PS→Option Value} {d c:DV} {p:List PS} (ht:TreeAt M w h d) (hi:TInj h d) (hp:get d p=some c) (hc:c.owning=true) (hne:p ≠ []) :
  TreeAt M w h (setP d p .any)∧TInj h (setP d p .any)∧∀b,TOwn h (setP d p .any) b→TOwn h d b∧¬ TOwn (fun r=>h (p++r)) c b:=by
 have hcells:∀(q:List PS) (x:DV),get d q=some x→q ≠ []→x.isCell=true:=fun q x hx _=>ht.cells q x hx
 have hfin:∀b,TOwn h (setP d p .any) b→TOwn h d b→¬ TOwn (fun r=>h (p++r)) c b:=by
  rintro b ⟨q,m,u,a1,a2,a3,a4⟩ _ ⟨r,m',u',b1,b2,b3,b4⟩
  by_cases hpq:p <+: q
  ·obtain ⟨r',rfl⟩:=prefix_split hpq
   rw [get_setP_ext hp rfl hcells] at a1
   cases r' with
   | nil=>simp [get] at a1; subst a1; cases a2
   | cons s r'=>simp [get,step] at a1
  ·rw [get_setP_off rfl hcells hpq] at a1
   cases hx:get d q with
   | none=>rw [hx] at a1; cases a1
   | some x =>
    rw [hx] at a1
    simp only [Option.some.injEq] at a1
    have hxo:x.owning=true:=by
     by_cases hq:q <+: p
     ·rw [if_pos hq] at a1
      obtain ⟨r',rfl⟩:=prefix_split hq
      cases r' with
      | nil=>exact absurd (by simp) hpq
      | cons s r'=>simp only [List.drop_left] at a1; rw [←a1,setP_owning] at a2; exact a2
     ·rw [if_neg hq] at a1; rw [a1]; exact a2
    have:=hi q (p++r) x m' u u' b hx hxo a3 a4 (by rw [get_append,hp]; exact b1) b2 b3 b4
    exact hpq ⟨r,this.symm⟩
 rcases List.eq_nil_or_concat p with rfl | ⟨q,s,rfl⟩
 ·exact absurd rfl hne
 ·rw [List.concat_eq_append] at hp hfin ⊢
  rw [get_append] at hp
  cases hq:get d q with
  | none=>rw [hq] at hp; cases hp
  | some nq =>
   rw [hq] at hp
   simp only [get] at hp
   cases hs:step nq s with
   | none=>rw [hs] at hp; cases hp
   | some c0 =>
    rw [hs] at hp
    simp at hp
    subst hp
    have hnq:=step_owning hs
    obtain ⟨v,hv,hvc,hnode⟩:=ht.2 q nq hq hnq
    rw [setP_snoc hq hs] at hfin ⊢
    have hput:NodeAt M w v (fun s=>h (q++[s])) (put nq s .any):=by
     refine hnode.put_rel hs rfl fun u hr=>.inr ⟨rfl,.any u ?_⟩
     rcases hr with ⟨_,b⟩ | ⟨a,_⟩
     ·obtain ⟨u',c1,c2,_⟩:=ht.2 (q++[s]) c0 (by rw [get_append,hq]; simp [get,hs]) hc
      have b':h (q++[s])=some u:=b
      rw [c1] at b'; injection b' with b'; subst b'; exact c2
     ·rw [hc] at a; cases a
    obtain ⟨m1,m2,m3⟩:=TreeAt.reNode (w:=w) (w':=w) (h':=h) (n':=put nq s .any) (fun _=>False) ht hi hq hnq hv (by rw [put_owning]; exact hnq) hv hvc (.inr rfl) hput (fun _ _=>rfl)
     (fun s' c' hs' ho _=>by
      by_cases e:s=s'
      ·subst e; rw [step_put_same hs rfl] at hs'; injection hs' with hs'; subst hs'; cases ho
      ·rw [step_put_other rfl e] at hs'; exact ⟨hs',fun _=>rfl⟩)
     (fun _ _ _ _ hN=>hN.elim) (fun _ _ _ _ _ _ _ hN=>hN.elim) (fun b hb=>.inl hb) (fun _ _ _=>rfl)
    refine ⟨m1,m2,fun b hb=>?_⟩
    have h1:TOwn h d b:=by
     rcases m3 b hb with h1 | h1 | ⟨_,_,_,_,hN,_⟩
     ·exact h1
     ·exact ⟨q,nq,v,hq,hnq,hv,h1⟩
     ·exact hN.elim
    exact ⟨h1,hfin b hb h1⟩
section
variable {g:Org} {n:Nat} {ρ:Nat→AV} {κ κ':Nat→Box} {a:Act} {w w':World} {G:Gh}
theorem StM.split (h:StM g n ρ κ a w G) {i nx ver ep:Nat} {d c:DV} {p:List PS} (hi:κ i=.tree ver ep d) (hx:κ nx=.none) (hp:get d p=some c) (hc:c.owning=true) (hne:p ≠ []) (h1:κ' i=.tree ver (ep+1) (setP d p .any)) (h2:κ' nx=.tree 0 0 c) (h3:∀j,j ≠ i→j ≠ nx→κ' j=κ j) :
  ∃G',Gh.Le G G'∧G'.M=G.M∧G'.β=G.β∧(∀r,hdr G'.H nx 0 0 r=hdr G.H i ver ep (p++r))∧StM g n ρ κ' a w G':=by
 have hne':i ≠ nx:=fun e=>by rw [e,hx] at hi; cases hi
 have hbi:=h.fit.box i
 have hbx:=h.fit.box nx
 rw [hi] at hbi
 rw [hx] at hbx
 obtain ⟨ht,hinj,hv1,hv2⟩:=hbi
 obtain ⟨f1,f2,f3⟩:=ht.forget hinj hp hc hne
 have hpe:∀r,p++r ≠ []:=fun r e=>hne (List.append_eq_nil_iff.1 e).1
 let fi:Nat→Nat→List PS→Option Value:=fun v e q=>if v=ver∧e=ep+1∧q ≠ [] then hdr G.H i ver ep q else G.H i v e q
 let fx:Nat→Nat→List PS→Option Value:=fun v e q=>if v=0∧e=0 then hdr G.H i ver ep (p++q) else none
 let G':Gh:={ G with H:=updH (updH G.H i fi) nx fx }
 have hHi:G'.H i=fi:=by show updH (updH G.H i fi) nx fx i=fi; rw [updH_other _ _ hne',updH_same]
 have hHx:G'.H nx=fx:=updH_same _ _ _
 have hHo:∀j,j ≠ i→j ≠ nx→G'.H j=G.H j:=fun j e1 e2=>by show updH (updH G.H i fi) nx fx j=_; rw [updH_other _ _ e2,updH_other _ _ e1]
 have hhi:hdr G'.H i ver (ep+1)=hdr G.H i ver ep:=by
  funext q
  cases q with
  | nil=>simp only [hdr,hHi]; show (if _ then _ else _)=_; rw [if_neg (by simp)]
  | cons s q=>simp only [hdr,hHi]; show (if _ then _ else _)=_; rw [if_pos ⟨rfl,rfl,by simp⟩]; rfl
 have hhx:hdr G'.H nx 0 0=fun r=>hdr G.H i ver ep (p++r):=by
  funext q
  cases q with
  | nil=>show G'.H nx 0 0 []=_; rw [hHx]; show (if 0=0∧0=0 then hdr G.H i ver ep (p++[]) else none)=_; rw [if_pos ⟨rfl,rfl⟩]
  | cons s q=>show G'.H nx 0 0 (s::q)=_; rw [hHx]; show (if 0=0∧0=0 then hdr G.H i ver ep (p++s::q) else none)=_; rw [if_pos ⟨rfl,rfl⟩]
 have hle:Gh.Le G G':=⟨Mem.Le.refl _,fun _ _ q=>q,fun j v e q x hq=>by
  by_cases e1:j=i
  ·subst e1
   rw [hHi]
   show (if v=ver∧e=ep+1∧q ≠ [] then _ else _)=_
   split
   ·rename_i hcc; obtain ⟨rfl,rfl,_⟩:=hcc; rw [hv2 (ep+1) (by omega)] at hq; cases hq
   ·exact hq
  ·by_cases e2:j=nx
   ·subst e2; rw [hbx.2] at hq; cases hq
   ·rw [hHo j e1 e2]; exact hq⟩
 have ho_i:∀b,Own G' i (κ' i) b→TOwn (hdr G.H i ver ep) d b∧¬ TOwn (fun r=>hdr G.H i ver ep (p++r)) c b:=fun b hb=>by
  rw [h1] at hb; simp only [Own] at hb; rw [hhi] at hb; exact f3 b hb
 have ho_x:∀b,Own G' nx (κ' nx) b→TOwn (fun r=>hdr G.H i ver ep (p++r)) c b:=fun b hb=>by
  rw [h2] at hb; simp only [Own] at hb; rw [hhx] at hb; exact hb
 refine ⟨G',hle,rfl,rfl,fun r=>congrFun hhx r,h.turn (C:=fun j=>j=i ∨ j=nx) ⟨hle,fun _ _=>rfl,fun j hj=>h3 j (fun e=>hj (.inl e)) (fun e=>hj (.inr e)),fun j hj=>⟨fun _ q=>q,fun v e q x hq=>?_⟩,fun _ _ _=>⟨rfl,rfl⟩,h.fit.sub,?_,?_,?_,Nat.le_refl _,rfl,rfl,rfl⟩ (fun _ _=>rfl)⟩
 ·rw [hHo j (fun e=>hj (.inl e)) (fun e=>hj (.inr e))] at hq; exact hq
 ·rintro j (rfl | rfl)
  ·rw [h1]
   refine ⟨by rw [hhi]; exact f1,by rw [hhi]; exact f2,fun v hv e q=>?_,fun e he q=>?_⟩
   ·rw [hHi]; show (if v=ver∧_ then _ else _)=_; rw [if_neg (by omega)]; exact hv1 v hv e q
   ·rw [hHi]; show (if ver=ver∧e=ep+1∧q ≠ [] then _ else _)=_; rw [if_neg (by omega)]; exact hv2 e (by omega) q
  ·rw [h2]
   refine ⟨by rw [hhx]; exact ht.sub hp hc,by rw [hhx]; exact hinj.sub hp,fun v hv e q=>?_,fun e he q=>?_⟩
   ·rw [hHx]; show (if v=0∧e=0 then _ else _)=_; rw [if_neg (by omega)]
   ·rw [hHx]; show (if 0=0∧e=0 then _ else _)=_; rw [if_neg (by omega)]
 ·rintro j b (rfl | rfl) hb
  ·have hb':=(ho_i b hb).1
   have:Own G j (κ j) b:=by rw [hi]; exact hb'
   exact ⟨.inr ⟨j,.inl rfl,this⟩,h.fit.own j b this⟩
  ·have hb':=(ho_x b hb).sub hp
   have:Own G i (κ i) b:=by rw [hi]; exact hb'
   exact ⟨.inr ⟨i,.inl rfl,this⟩,h.fit.own i b this⟩
 ·rintro j j' b (rfl | rfl) (rfl | rfl) hb hb'
  ·rfl
  ·exact absurd (ho_x b hb') (ho_i b hb).2
  ·exact absurd (ho_x b hb) (ho_i b hb').2
  ·rfl
end
end Go.TM
