import Derived.Test.YtpbdohkbiklflaaGreatDoorSM5
set_option linter.unusedVariables false
set_option linter.unusedSimpArgs false
set_option linter.unusedSectionVars false
namespace Go.TM
open Go.RowKit
variable [cj]
theorem nz {i j sz:Nat} (hj:j<sz):(i * sz+j) / sz=i∧(i * sz+j) % sz=j:=by
 have eK:0<sz:=by omega
 constructor
 ·rw [Nat.mul_comm,Nat.mul_add_div eK,Nat.div_eq_of_lt hj]; omega
 ·rw [Nat.mul_comm,Nat.mul_add_mod,Nat.mod_eq_of_lt hj]
theorem oU {i j n sz:Nat} (hi:i<n) (hj:j<sz):i * sz+j<n * sz:=by
 have:(i+1) * sz≤n * sz:=Nat.mul_le_mul_right _ hi
 rw [Nat.add_mul] at this
 omega
def nF (w:World) (v:Value) (sz:Nat) (l:List DV) (R:Nat→Nat→DV→Value→Prop):Prop :=
 (l=[]∧v=.slice none 0 0) ∨
 ∃g o cap c t,v=.slice (some ⟨g,o,none⟩) l.length cap∧l.length≤cap∧w.heap[g]?=some (.cells c t (0,0))∧o+cap * sz≤c.size ∧
  ∀(i:Nat) (x:DV),l[i]?=some x→x.cells.length=sz∧∀(j:Nat) (d:DV),x.cells[j]?=some d→d.aj=true∧∃u,c[o+i * sz+j]?=some u∧R i j d u
theorem jr {M:Mem} {w:World} {v:Value} {hc:PS→Option Value} {sz:Nat} {l:List DV}:bQ M w v hc (.ar sz l) ↔ nF w v sz l fun i j d u=>cW M (hc (.el i j)) d u:=Iff.rfl
def nG (w:World) (v:Value) (sz:Nat) (l:List DV) (S:Nat→Nat→DV→Value→Prop):Prop :=
 (∃c,v=.slice none 0 c∧l=[]) ∨
 ∃(A:Addr) (cap:Nat) (cell:Nat→Nat→Value),v=.slice (some A) l.length cap∧∀(i:Nat) (x:DV),l[i]?=some x→x.cells.length=sz ∧
  ∀(j:Nat) (d:DV),x.cells[j]?=some d→d.aj=true∧w.cell? (A.add (i * sz+j))=some (cell i j)∧(cell i j).oneCell'=true∧S i j d (cell i j)
section
variable {w:World}
theorem nG.QN {M:Mem} {sz:Nat} {l:List DV} {v:Value} (ea:M.In w) (h:bc M (.sl sz l) v):nG w v sz l fun _ _ d u=>bc M d u:=by
 cases h with
 | slnil=>exact .inl ⟨0,rfl,rfl⟩
 | sl _ _ A cap cell dY hlen hc hr =>
  refine .inr ⟨A,cap,cell,rfl,fun i x hx=>?_⟩
  have hm:=hlen x (List.mem_of_getElem? hx)
  refine ⟨hm.1,fun j d hd=>⟨hm.2 d (List.mem_of_getElem? hd),ea.cell (hc i j (List.getElem?_eq_some_iff.1 hx).1 ?_),(hr i x j d hx hd).cA (hm.2 d (List.mem_of_getElem? hd)),hr i x j d hx hd⟩⟩
  rw [←hm.1]; exact (List.getElem?_eq_some_iff.1 hd).1
theorem nG.JH {sz:Nat} {l:List DV} {v:Value} {R:Nat→Nat→DV→Value→Prop} (h:nF w v sz l R) (h1:∀i j d u,R i j d u→d.aj=true→u.oneCell'=true):nG w v sz l R:=by
 rcases h with ⟨rfl,rfl⟩ | ⟨g,o,cap,c,t,rfl,dY,hw,aN,BR⟩
 ·exact .inl ⟨0,rfl,rfl⟩
 ·refine .inr ⟨⟨g,o,none⟩,cap,fun i j=>c.getD (o+i * sz+j) undef,rfl,fun i x hx=>?_⟩
  obtain ⟨a1,a2⟩:=BR i x hx
  refine ⟨a1,fun j d hd=>?_⟩
  obtain ⟨b1,u,hu,hr⟩:=a2 j d hd
  have e:c.getD (o+i * sz+j) undef=u:=by rw [Array.getD_eq_getD_getElem?,hu]; rfl
  refine ⟨b1,?_,?_,?_⟩
  ·rw [cw]
   simp only [World.cell?,hw]
   rw [show o+(i * sz+j)=o+i * sz+j by omega,e]
   simpa using hu
  ·show (c.getD (o+i * sz+j) undef).oneCell'=true
   rw [e]; exact h1 i j d u hr b1
  ·show R i j d (c.getD (o+i * sz+j) undef)
   rw [e]; exact hr
theorem nG.mono {sz:Nat} {l l':List DV} {v:Value} {S S':Nat→Nat→DV→Value→Prop} (h:nG w v sz l S) (hl:l.length=l'.length)
  (hx:∀(i:Nat) (x y:DV),l[i]?=some x→l'[i]?=some y→x.cells.length=y.cells.length∧∀(j:Nat) (d e:DV) (u:Value),x.cells[j]?=some d→y.cells[j]?=some e→d.aj=true→S i j d u→e.aj=true∧S' i j e u):nG w v sz l' S':=by
 rcases h with ⟨c,rfl,rfl⟩ | ⟨A,cap,cell,rfl,hh⟩
 ·exact .inl ⟨c,rfl,by simpa using hl.symm⟩
 ·refine .inr ⟨A,cap,cell,by rw [hl],fun i y hy=>?_⟩
  have hi:i<l.length:=by rw [hl]; exact (List.getElem?_eq_some_iff.1 hy).1
  obtain ⟨a1,a2⟩:=hh i _ (List.getElem?_eq_getElem hi)
  obtain ⟨b1,b2⟩:=hx i _ y (List.getElem?_eq_getElem hi) hy
  refine ⟨by omega,fun j e he=>?_⟩
  have hj:j<l[i].cells.length:=by have:=(List.getElem?_eq_some_iff.1 he).1; omega
  obtain ⟨c1,c2,c3,c4⟩:=a2 j _ (List.getElem?_eq_getElem hj)
  obtain ⟨d1,d2⟩:=b2 j _ e _ (List.getElem?_eq_getElem hj) he c1 c4
  exact ⟨d1,c2,c3,d2⟩
def fp (sz n:Nat) (cell:Nat→Nat→Value):List Value:=(List.range (n * sz)).map fun q=>cell (q / sz) (q % sz)
theorem wE (sz n:Nat) (cell:Nat→Nat→Value):(fp sz n cell).length=n * sz:=by simp [fp]
theorem xK {sz n i j:Nat} (cell:Nat→Nat→Value) (hi:i<n) (hj:j<sz):(fp sz n cell)[i * sz+j]?=some (cell i j):=by
 have h:=oU hi hj
 obtain ⟨h1,h2⟩:=nz (i:=i) hj
 simp [fp,h,h1,h2]
theorem gC {P:Program} (t ty e:TypeId) (i:TypeInfo) (ht:P.underlying t=some (.slice e)) (hi:P.info? e=some i)
  (g o sC FU:Nat) (cur:Array Value) (tt:TypeId) (hg:w.heap[g]?=some (.cells cur tt (0,0)))
  (a:Addr) (m c:Nat) (news:List Value) (hl:news.length=m * i.size) (xL:∀j u,news[j]?=some u→w.cell? (a.add j)=some u) (h1:∀u∈news,u.oneCell'=true)
  (uU:sC+m≤FU) (cC:o+sC * i.size+news.length≤cur.size) :
  (Builtin.append_ #[t,t] ty #[.slice (some ⟨g,o,none⟩) sC FU,.slice (some a) m c]).run P w =
   .ok (.slice (some ⟨g,o,none⟩) (sC+m) FU) (w.setRow g (cur.toList.take (o+sC * i.size)++news++cur.toList.drop (o+sC * i.size+news.length)).toArray):=by
 have hf:=run_firstCells_some (P:=P) w i.size m a m c news hl xL
 have ai:=run_storeCells_at P g (o+sC * i.size) tt news 0 cur w hg (by simpa using cC) h1
 simp only [Nat.add_zero] at ai
 simp [Builtin.append_,run_underlying ht,sizeOf,typeInfo,hi,Builtin.lenOf,uU,hf,cw,ai]
def km (n:Nat) (R S:Nat→Nat→DV→Value→Prop):Nat→Nat→DV→Value→Prop:=fun i j d u=>if i<n then R i j d u else S (i - n) j d u
def E4 (w:World) (v v':Value) (w':World) (zs:List DV):Prop:=∀a n,v=.slice (some a) n n→zs ≠ []→(∀b,b<w.heap.size→w'.heap[b]?=w.heap[b]?)∧∀b,eW v'=some b→w.heap.size≤b
set_option maxHeartbeats 1000000 in
theorem oK {P:Program} {t ty e:TypeId} {ti:TypeInfo} {z:Value} (ht:P.underlying t=some (.slice e)) (hi:P.info? e=some ti) (hz:ti.zero=some z) (mL:z.cells.size=ti.size) (eK:0<ti.size)
  {v sv:Value} {xs zs:List DV} {R S:Nat→Nat→DV→Value→Prop} (gU:nF w v ti.size xs R) (gn:nG w sv ti.size zs S)
  (DE:xs.length+zs.length≤9223372036854775807) (xp:(xs.length+zs.length) * ti.bytes≤140737488355328) :
  ∃v' w',(Builtin.append_ #[t,t] ty #[v,sv]).run P w=.ok v' w'∧nF w' v' ti.size (xs++zs) (km xs.length R S)∧w.grownBy w' (eW v)∧(∀b,eW v'=some b→w.heap.size≤b ∨ eW v=some b)∧v'.oneCell'=true∧E4 w v v' w' zs:=by
 have o9:v.oneCell'=true:=by rcases gU with ⟨_,rfl⟩ | ⟨_,_,_,_,_,rfl,_⟩ <;> rfl
 have JI:∀{c:Array Value} {o:Nat},(∀(i:Nat) (x:DV),xs[i]?=some x→x.cells.length=ti.size∧∀(j:Nat) (d:DV),x.cells[j]?=some d→d.aj=true∧∃u,c[o+i * ti.size+j]?=some u∧R i j d u) →
   ∀(i:Nat) (x:DV),xs[i]?=some x→x.cells.length=ti.size∧∀(j:Nat) (d:DV),x.cells[j]?=some d→d.aj=true∧∃u,c[o+i * ti.size+j]?=some u∧km xs.length R S i j d u:=by
  intro c o hh i x hx
  obtain ⟨a1,a2⟩:=hh i x hx
  refine ⟨a1,fun j d hd=>?_⟩
  obtain ⟨b1,u,b2,b3⟩:=a2 j d hd
  refine ⟨b1,u,b2,?_⟩
  unfold km
  rw [if_pos (List.getElem?_eq_some_iff.1 hx).1]; exact b3
 have lO:zs=[]→(Builtin.append_ #[t,t] ty #[v,sv]).run P w=.ok v w→∃v' w',(Builtin.append_ #[t,t] ty #[v,sv]).run P w=.ok v' w'∧nF w' v' ti.size (xs++zs) (km xs.length R S)∧w.grownBy w' (eW v)∧(∀b,eW v'=some b→w.heap.size≤b ∨ eW v=some b)∧v'.oneCell'=true∧E4 w v v' w' zs:=by
  rintro rfl hr
  refine ⟨v,w,hr,?_,World.grownBy.refl w _,fun b hb=>.inr hb,o9,fun _ _ _ h=>absurd rfl h⟩
  rw [List.append_nil]
  rcases gU with h | ⟨g,o,cap,cc,tt,hv,dY,hw,aN,BR⟩
  ·exact .inl h
  ·exact .inr ⟨g,o,cap,cc,tt,hv,dY,hw,aN,JI BR⟩
 rcases gn with ⟨c,rfl,kE⟩ | ⟨A,OC,cell,rfl,cY⟩
 ·refine lO kE ?_
  rcases gU with ⟨_,rfl⟩ | ⟨g,o,cap,cc,tt,rfl,dY,hw,aN,BR⟩
  ·simp [Builtin.append_,run_underlying ht,sizeOf,typeInfo,hi,Builtin.lenOf,Builtin.firstCells]
  ·simp [Builtin.append_,run_underlying ht,sizeOf,typeInfo,hi,Builtin.lenOf,Builtin.firstCells,dY,storeCells]
 ·obtain ⟨m,Pc⟩:∃m,m=zs.length:=⟨_,rfl⟩
  rw [←Pc] at DE xp lO ⊢
  have hlen:(fp ti.size m cell).length=m * ti.size:=wE _ _ _
  have hq:∀q,q<m * ti.size→q / ti.size<m∧q % ti.size<ti.size∧q=q / ti.size * ti.size+q % ti.size:=fun q hq =>
   ⟨(Nat.div_lt_iff_lt_mul eK).2 hq,Nat.mod_lt _ eK,by have:=Nat.div_add_mod q ti.size; rw [Nat.mul_comm] at this; exact this.symm⟩
  have xL:∀j u,(fp ti.size m cell)[j]?=some u→w.cell? (A.add j)=some u:=by
   intro q u hu
   have aK:q<m * ti.size:=by rw [←hlen]; exact (List.getElem?_eq_some_iff.1 hu).1
   obtain ⟨h1,h2,h3⟩:=hq q aK
   obtain ⟨GG,Ts⟩:=cY (q / ti.size) (zs[q / ti.size]'(by omega)) (List.getElem?_eq_getElem (by omega))
   have:=(Ts (q % ti.size) _ (List.getElem?_eq_getElem (by rw [GG]; exact h2))).2.1
   rw [h3] at hu ⊢
   rw [xK cell h1 h2] at hu
   rw [this]; exact hu
  have uE:∀u,u∈fp ti.size m cell→u.oneCell'=true:=by
   intro u hu
   obtain ⟨q,B0,rfl⟩:=List.getElem_of_mem hu
   have aK:q<m * ti.size:=by rw [←hlen]; exact B0
   obtain ⟨h1,h2,h3⟩:=hq q aK
   obtain ⟨GG,Ts⟩:=cY (q / ti.size) (zs[q / ti.size]'(by omega)) (List.getElem?_eq_getElem (by omega))
   have hj:q % ti.size<(zs[q / ti.size]'(by omega)).cells.length:=by rw [GG]; exact h2
   have:=(Ts (q % ti.size) _ (List.getElem?_eq_getElem hj)).2.2.1
   have he:(fp ti.size m cell)[q]=cell (q / ti.size) (q % ti.size):=by simp [fp]
   rw [he]; exact this
  have reads:∀(c':Array Value) (o':Nat),
    (∀(i:Nat) (x:DV),xs[i]?=some x→x.cells.length=ti.size∧∀(j:Nat) (d:DV),x.cells[j]?=some d→d.aj=true∧∃u,c'[o'+i * ti.size+j]?=some u∧R i j d u) →
    (∀q,q<m * ti.size→c'[o'+xs.length * ti.size+q]?=(fp ti.size m cell)[q]?) →
    ∀(i:Nat) (x:DV),(xs++zs)[i]?=some x→x.cells.length=ti.size∧∀(j:Nat) (d:DV),x.cells[j]?=some d→d.aj=true∧∃u,c'[o'+i * ti.size+j]?=some u∧km xs.length R S i j d u:=by
   intro c' o' hold il i x hx
   rw [List.getElem?_append] at hx
   split at hx
   ·exact JI hold i x hx
   ·rename_i db
    obtain ⟨h1,h3⟩:=cY _ x hx
    have aK:i - xs.length<m:=by rw [Pc]; exact (List.getElem?_eq_some_iff.1 hx).1
    refine ⟨h1,fun j d hd=>?_⟩
    have hj:j<ti.size:=by rw [←h1]; exact (List.getElem?_eq_some_iff.1 hd).1
    obtain ⟨k1,k2,k3,k4⟩:=h3 j d hd
    refine ⟨k1,cell (i - xs.length) j,?_,by unfold km; rw [if_neg db]; exact k4⟩
    have:=il ((i - xs.length) * ti.size+j) (oU aK hj)
    rw [xK cell aK hj] at this
    rw [←this]
    congr 1
    have:i * ti.size=xs.length * ti.size+(i - xs.length) * ti.size:=by rw [←Nat.add_mul]; congr 1; omega
    omega
  by_cases Fk:m=0
  ·have Tt:zs=[]:=List.eq_nil_of_length_eq_zero (by omega)
   subst Fk
   clear reads uE xL hq hlen cY
   refine lO Tt ?_
   clear lO JI
   rcases gU with ⟨_,rfl⟩ | ⟨g,o,cap,cc,tt,rfl,dY,hw,aN,BR⟩
   ·simp [Builtin.append_,run_underlying ht,sizeOf,typeInfo,hi,Builtin.lenOf,Builtin.firstCells,loadCells,loadCellsFrom]
   ·simp [Builtin.append_,run_underlying ht,sizeOf,typeInfo,hi,Builtin.lenOf,Builtin.firstCells,dY,storeCells,loadCells,loadCellsFrom]
  ·have JJ:∀(LS:List Value) (cp:Nat),LS.length=xs.length * ti.size→xs.length+m≤cp→(∀(i:Nat) (x:DV),xs[i]?=some x→x.cells.length=ti.size∧∀(j:Nat) (d:DV),x.cells[j]?=some d→d.aj=true∧∃u,LS[i * ti.size+j]?=some u∧R i j d u) →
       nF (w.drew.alloc (.cells (LS.toArray++(fp ti.size m cell).toArray++Builtin.zeroCells z.cells (cp - (xs.length+m))) e)) (.slice (some ⟨w.heap.size,0,none⟩) (xs.length+m) cp) ti.size (xs++zs) (km xs.length R S):=by
    intro LS cp RK Wg hold
    refine .inr ⟨w.heap.size,0,cp,_,e,by simp [Pc],by simpa [Pc] using Wg,bZ w.drew _,?_,reads _ 0 ?_ ?_⟩
    ·simp only [Array.size_append,List.size_toArray,size_zeroCells,mL,RK,hlen,←Nat.add_mul,Nat.zero_add]
     refine Nat.mul_le_mul_right _ ?_
     omega
    ·intro i x hx
     obtain ⟨h1,h3⟩:=hold i x hx
     refine ⟨h1,fun j d hd=>?_⟩
     obtain ⟨k1,u,hu,hr⟩:=h3 j d hd
     refine ⟨k1,u,?_,hr⟩
     have aK:=(List.getElem?_eq_some_iff.1 hu).1
     rw [Nat.zero_add,Array.getElem?_append,if_pos (by simp; omega),Array.getElem?_append,if_pos (by simpa using aK)]
     simpa using hu
    ·intro q B0
     rw [Nat.zero_add,Array.getElem?_append,if_pos (by simp [hlen,RK]; omega),Array.getElem?_append,if_neg (by simp [RK])]
     simp [RK]
   rcases gU with ⟨rfl,rfl⟩ | ⟨g,o,cap,cc,tt,rfl,dY,hw,aN,BR⟩
   ·have hr:=run_append_nil (P:=P) w t ty e ti z ht hi hz A m OC (fp ti.size m cell) hlen xL (by omega) (by simp at DE; omega) (by simp at xp; omega)
    have hg:=JJ [] (grownCap w m 0 e) (by simp) (by simpa using grownCap_ge w m 0 e) (by simp)
    simp only [List.length_nil,Nat.zero_add,Array.empty_append] at hg
    refine ⟨_,_,hr,by simpa using hg,⟨rfl,rfl,rfl,by simp,fun q hq _=>aP w.drew _ hq⟩,fun b hb=>?_,rfl,fun _ _ e=>by cases e⟩
    simp [eW] at hb; exact .inl (by omega)
   ·by_cases uU:xs.length+m≤cap
    ·have cC:o+xs.length * ti.size+(fp ti.size m cell).length≤cc.size:=by
      rw [hlen]
      have:(xs.length+m) * ti.size≤cap * ti.size:=Nat.mul_le_mul_right _ uU
      rw [Nat.add_mul] at this
      omega
     have hr:=gC (P:=P) t ty e ti ht hi g o xs.length cap cc tt hw A m OC (fp ti.size m cell) hlen xL uE uU cC
     refine ⟨_,_,hr,.inr ⟨g,o,cap,_,tt,by simp [Pc],by simpa [Pc] using uU,setRow_heap w g cc _ tt _ hw,?_,reads _ o ?_ ?_⟩,⟨rfl,rfl,rfl,by simp,fun q _ hq=>setRow_other w g q _ (fun x=>hq (by simp [eW,x]))⟩,fun b hb=>.inr hb,rfl,fun a n e hz=>?_⟩
     ·simp only [List.size_toArray,List.length_append,List.length_take,List.length_drop,Array.length_toList]
      omega
     ·intro i x hx
      obtain ⟨h1,h3⟩:=BR i x hx
      refine ⟨h1,fun j d hd=>?_⟩
      obtain ⟨k1,u,hu,hr⟩:=h3 j d hd
      refine ⟨k1,u,?_,hr⟩
      have hj:j<ti.size:=by rw [←h1]; exact (List.getElem?_eq_some_iff.1 hd).1
      have I1:=oU (List.getElem?_eq_some_iff.1 hx).1 hj
      have MQ:o+i * ti.size+j<cc.size:=(Array.getElem?_eq_some_iff.1 hu).1
      simp only [List.getElem?_toArray,List.append_assoc]
      rw [List.getElem?_append_left (by simp; omega),List.getElem?_take,if_pos (by omega)]
      simpa using hu
     ·intro q B0
      simp only [List.getElem?_toArray,List.append_assoc]
      rw [List.getElem?_append_right (by simp; omega),List.getElem?_append_left (by simp; omega)]
      congr 1
      simp; omega
     ·exfalso
      simp only [Value.slice.injEq] at e
      have:zs.length ≠ 0:=fun h=>hz (List.eq_nil_of_length_eq_zero h)
      omega
    ·have holds:∀j u,((List.range (xs.length * ti.size)).map fun q=>cc.getD (o+q) undef)[j]?=some u→w.cell? ((⟨g,o,none⟩:Addr).add j)=some u:=by
      intro j u hj
      simp only [List.getElem?_map] at hj
      by_cases aK:j<xs.length * ti.size
      ·simp only [List.getElem?_range aK,Option.map_some] at hj
       injection hj with hj
       have fS:o+j<cc.size:=by
        have:xs.length * ti.size≤cap * ti.size:=Nat.mul_le_mul_right _ dY
        omega
       rw [cw]
       simp only [World.cell?,hw]
       rw [←hj]
       simp [fS]
      ·simp [aK] at hj
     have hr:=run_append_grow (P:=P) w t ty e ti z ht hi hz ⟨g,o,none⟩ xs.length cap ((List.range (xs.length * ti.size)).map fun q=>cc.getD (o+q) undef) (by simp) holds A m OC (fp ti.size m cell) hlen xL (by omega) (by omega) (growslice_fits (by omega) xp)
     have hg:=JJ ((List.range (xs.length * ti.size)).map fun q=>cc.getD (o+q) undef) (grownCap w (xs.length+m) cap e) (by simp) (grownCap_ge w (xs.length+m) cap e) (by
      intro i x hx
      obtain ⟨h1,h3⟩:=BR i x hx
      refine ⟨h1,fun j d hd=>?_⟩
      obtain ⟨k1,u,hu,hr⟩:=h3 j d hd
      have hj:j<ti.size:=by rw [←h1]; exact (List.getElem?_eq_some_iff.1 hd).1
      have I1:=oU (List.getElem?_eq_some_iff.1 hx).1 hj
      refine ⟨k1,u,?_,hr⟩
      simp only [List.getElem?_map,List.getElem?_range I1,Option.map_some]
      rw [show o+(i * ti.size+j)=o+i * ti.size+j by omega,Array.getD_eq_getD_getElem?,hu]
      rfl)
     refine ⟨_,_,hr,hg,⟨rfl,rfl,rfl,by simp,fun q hq _=>aP w.drew _ hq⟩,fun b hb=>?_,rfl,fun _ _ _ _=>⟨fun b hb=>aP w.drew _ hb,fun b hb=>?_⟩⟩
     ·simp [eW] at hb; exact .inl (by omega)
     ·simp [eW] at hb; omega
end
end Go.TM
namespace Go.TM
open Go.RowKit
variable [cj]
section
variable {w w':World}
theorem aO.sub {M:Mem} {h:List PS→Option Value} {d c:DV} {p:List PS} (ht:aO M w h d) (hp:get d p=some c) (hc:c.ae=true):aO M w (fun r=>h (p++r)) c:=by
 refine ⟨hc,fun q m hq hm=>?_⟩
 obtain ⟨v,h1,h2,h3⟩:=ht.2 (p++q) m (by rw [get_append,hp]; exact hq) hm
 exact ⟨v,h1,h2,by simpa only [List.append_assoc] using h3⟩
theorem eX.sub {h:List PS→Option Value} {d c:DV} {p:List PS} (hi:eX h d) (hp:get d p=some c):eX (fun r=>h (p++r)) c:=by
 intro q q' n m u v b e1 e2 e3 e4 f1 f2 f3 f4
 have:=hi (p++q) (p++q') n m u v b (by rw [get_append,hp]; exact e1) e2 e3 e4 (by rw [get_append,hp]; exact f1) f2 f3 f4
 exact List.append_cancel_left this
theorem aJ.sub {h:List PS→Option Value} {d c:DV} {p:List PS} {b:Nat} (hp:get d p=some c) (ho:aJ (fun r=>h (p++r)) c b):aJ h d b:=by
 obtain ⟨q,m,v,h1,h2,h3,h4⟩:=ho
 exact ⟨p++q,m,v,by rw [get_append,hp]; exact h1,h2,h3,h4⟩
theorem eX.fG {h h':List PS→Option Value} {d:DV} (hi:eX h d) (hh:∀p n v,get d p=some n→n.ae=true→h' p=some v→h p=some v):eX h' d :=
 fun p q n m u v b e1 e2 e3 e4 f1 f2 f3 f4=>hi p q n m u v b e1 e2 (hh p n u e1 e2 e3) e4 f1 f2 (hh q m v f1 f2 f3) f4
def E7:List PS→Option Value
 | []=>some (.slice none 0 0)
 | _=>none
theorem s6 {sz:Nat} {p:List PS} {m:DV} (h:get (.ar sz []) p=some m):p=[]∧m=.ar sz []:=by
 cases p with
 | nil=>simp [get] at h; exact ⟨rfl,h.symm⟩
 | cons s p=>cases s <;> simp [get,step] at h
theorem td (M:Mem) (w:World) (sz:Nat):aO M w E7 (.ar sz []):=by
 refine ⟨rfl,fun p m hp _=>?_⟩
 obtain ⟨rfl,rfl⟩:=s6 hp
 exact ⟨_,rfl,rfl,.inl ⟨rfl,rfl⟩⟩
theorem xT (sz:Nat):eX E7 (.ar sz []):=by
 intro p q n m u v b e1 _ _ _ f1 _ _ _
 rw [(s6 e1).1,(s6 f1).1]
theorem ir {sz b:Nat} (h:aJ E7 (.ar sz []) b):False:=by
 obtain ⟨p,m,v,h1,_,h3,h4⟩:=h
 obtain ⟨rfl,rfl⟩:=s6 h1
 simp [E7] at h3
 subst h3
 simp [eW] at h4
def qi (n:Nat) (v:Value) (h hs:List PS→Option Value):List PS→Option Value
 | []=>some v
 | .el i j::r=>if i<n then h (.el i j::r) else hs (.el (i - n) j::r)
 | s::r=>h (s::r)
inductive Src (M:Mem) (w:World) (x:Value) (sz:Nat) (ys:List DV) (hs:List PS→Option Value):Prop
 | closed (h:nG w x sz ys fun _ _ d u=>d.ae=false∧bc M d u) (hn:hs=fun _=>none)
 | tree (ht:aO M w hs (.ar sz ys)) (hi:eX hs (.ar sz ys)) (hx:hs []=some x)
theorem cW.cA {M:Mem} {h:Option Value} {d:DV} {u:Value} (r:cW M h d u) (hc:d.aj=true) (ho:d.ae=true→∀v,h=some v→v.oneCell'=true):u.oneCell'=true:=by
 rcases r with ⟨a,b⟩ | ⟨a,b⟩
 ·exact ho a u b
 ·exact b.cA hc
theorem aO.JK {M:Mem} {h:List PS→Option Value} {d c:DV} {s:PS} (ht:aO M w h d) (hs:step d s=some c) (hc:c.ae=true) {v:Value} (hv:h [s]=some v):v.oneCell'=true:=by
 obtain ⟨u,h1,h2,_⟩:=ht.2 [s] c (by simp [get,hs]) hc
 rw [h1] at hv; injection hv with hv; subst hv; exact h2
theorem Src.MO {M:Mem} {x:Value} {sz:Nat} {ys:List DV} {hs:List PS→Option Value} (h:Src M w x sz ys hs):nG w x sz ys fun i j d u=>d.aj=true∧cW M (hs [.el i j]) d u:=by
 cases h with
 | closed h hn =>
  refine h.mono rfl fun i x' y hx hy=>?_
  rw [hx] at hy; injection hy with hy; subst hy
  refine ⟨rfl,fun j d e u hd he B1 hS=>?_⟩
  rw [hd] at he; injection he with he; subst he
  exact ⟨B1,B1,.inr hS⟩
 | tree ht hi hx =>
  obtain ⟨v,h1,h2,h3⟩:=ht.2 [] _ rfl rfl
  rw [hx] at h1; injection h1 with h1; subst h1
  have h4:nF w x sz ys fun i j d u=>d.aj=true∧step (.ar sz ys) (.el i j)=some d∧cW M (hs [.el i j]) d u:=by
   rcases jr.1 h3 with h3 | ⟨g,o,cap,c,t,a1,a2,a3,a4,a5⟩
   ·exact .inl h3
   ·refine .inr ⟨g,o,cap,c,t,a1,a2,a3,a4,fun i y hy=>⟨(a5 i y hy).1,fun j d hd=>?_⟩⟩
    obtain ⟨b1,u,b2,b3⟩:=(a5 i y hy).2 j d hd
    exact ⟨b1,u,b2,b1,by simp only [step,hy]; exact hd,b3⟩
  refine (nG.JH h4 fun i j d u hr _=>?_).mono rfl fun i x' y hx hy=>?_
  ·exact hr.2.2.cA hr.1 fun ho v hv=>ht.JK hr.2.1 ho hv
  ·rw [hx] at hy; injection hy with hy; subst hy
   refine ⟨rfl,fun j d e u hd he B1 hS=>?_⟩
   rw [hd] at he; injection he with he; subst he
   exact ⟨B1,hS.1,hS.2.2⟩
theorem jV.length:∀{l r:List DV},jV l r→l.length=r.length
 | [],[],_=>rfl
 | _::_,_::_,h=>by simp [jV.length h.2]
 | [],_::_,h=>h.elim
 | _::_,[],h=>h.elim
theorem jV.at:∀{l r:List DV},jV l r→∀(j:Nat) (d e:DV),l[j]?=some d→r[j]?=some e→(d.ae=true∧d=e) ∨ (d.ae=false∧d.Le e)
 | [],[],_,j,d,e,h,_=>by simp at h
 | a::l,b::r,h,0,d,e,e1,e2=>by
  simp at e1 e2; subst e1; subst e2
  have:=h.1
  cases ho:a.ae with
  | true=>rw [ho] at this; exact .inl ⟨rfl,this⟩
  | false=>rw [ho] at this; exact .inr ⟨rfl,this⟩
 | a::l,b::r,h,j+1,d,e,e1,e2=>by simp at e1 e2; exact jV.at h.2 j d e e1 e2
 | [],_::_,h,_,_,_,_,_=>h.elim
 | _::_,[],h,_,_,_,_,_=>h.elim
theorem fK.length:∀{l r:List DV},fK l r→l.length=r.length
 | [],[],_=>rfl
 | _::_,_::_,h=>by simp [fK.length h.2]
 | [],_::_,h=>h.elim
 | _::_,[],h=>h.elim
theorem fK.at:∀{l r:List DV},fK l r→∀(i:Nat) (x y:DV),l[i]?=some x→r[i]?=some y→jV x.cells y.cells
 | [],[],_,j,d,e,h,_=>by simp at h
 | a::l,b::r,h,0,d,e,e1,e2=>by simp at e1 e2; subst e1; subst e2; exact h.1
 | a::l,b::r,h,j+1,d,e,e1,e2=>by simp at e1 e2; exact fK.at h.2 j d e e1 e2
 | [],_::_,h,_,_,_,_,_=>h.elim
 | _::_,[],h,_,_,_,_,_=>h.elim
theorem bc.aj {M:Mem} {d:DV} {v:Value} (h:bc M d v) (hv:v.oneCell'=true):d.aj=true:=by
 cases h with
 | agg=>simp [Value.oneCell'] at hv
 | _=>rfl
theorem cW.le {M:Mem} {h:Option Value} {d e:DV} {u:Value} (r:cW M h d u) (hle:(d.ae=true∧d=e) ∨ (d.ae=false∧d.Le e)) (hc:d.aj=true):e.aj=true∧cW M h e u∧(e.ae=true→d=e):=by
 rcases hle with ⟨h1,rfl⟩ | ⟨h1,h2⟩
 ·exact ⟨hc,r,fun _=>rfl⟩
 ·rcases r with ⟨a,b⟩ | ⟨a,b⟩
  ·rw [h1] at a; cases a
  ·have h3:=h2 M u b
   exact ⟨h3.aj (b.cA hc),.inr ⟨h3.dZ,h3⟩,fun ho=>by rw [h3.dZ] at ho; cases ho⟩
theorem BE {P:Program} {T:List TI} (hT:dV P T) {t ty:TypeId} (bK:(nth T t).ok=true) (im:(nth T t).isSl=true) (m5:(nth T (nth T t).elem).ok=true) (eK:0<(nth T (nth T t).elem).size)
  {M:Mem} {h hs:List PS→Option Value} {l ys zs:List DV} {v x:Value} (ht:aO M w h (.ar (nth T (nth T t).elem).size l)) (hi:eX h (.ar (nth T (nth T t).elem).size l)) (hv:h []=some v)
  (gn:Src M w x (nth T (nth T t).elem).size ys hs) (OD:∀b,aJ h (.ar (nth T (nth T t).elem).size l) b→¬ aJ hs (.ar (nth T (nth T t).elem).size ys) b) (aK:∀b,aJ hs (.ar (nth T (nth T t).elem).size ys) b→b<w.heap.size) (hle:fK ys zs)
  (DE:l.length+zs.length≤9223372036854775807) (xp:(l.length+zs.length) * (nth T (nth T t).elem).bytes≤140737488355328) :
  ∃v' w',(Builtin.append_ #[t,t] ty #[v,x]).run P w=.ok v' w'∧w.grownBy w' (eW v)∧v'.oneCell'=true∧aO M w' (qi l.length v' h hs) (.ar (nth T (nth T t).elem).size (l++zs))∧eX (qi l.length v' h hs) (.ar (nth T (nth T t).elem).size (l++zs)) ∧
   ∀b,aJ (qi l.length v' h hs) (.ar (nth T (nth T t).elem).size (l++zs)) b→aJ h (.ar (nth T (nth T t).elem).size l) b ∨ aJ hs (.ar (nth T (nth T t).elem).size ys) b ∨ w.heap.size≤b:=by
 obtain ⟨i,u,z,tf⟩:=hT.facts bK
 obtain ⟨te,ue,ze,hJ⟩:=hT.facts m5
 generalize aN:(nth T (nth T t).elem).size=sz at *
 have qj:te.size=sz:=by rw [←aN,hJ.size]
 obtain ⟨v0,zB,o9,aS⟩:=ht.2 [] _ rfl rfl
 rw [hv] at zB; injection zB with zB; subst zB
 have gU:=jr.1 aS
 have Uy:=gn.MO
 have JL:nG w x sz zs fun i j d u=>d.aj=true∧cW M (hs [.el i j]) d u:=by
  refine Uy.mono hle.length fun i x y hx hy=>?_
  have h1:=hle.at i x y hx hy
  refine ⟨h1.length,fun j d e u hd he B1 hS=>?_⟩
  obtain ⟨k1,k2,_⟩:=hS.2.le (h1.at j d e hd he) B1
  exact ⟨k1,k1,k2⟩
 have vE:∀i j e,step (.ar sz zs) (.el i j)=some e→e.ae=true→step (.ar sz ys) (.el i j)=some e:=by
  intro i j e he ho
  simp only [step] at he ⊢
  split at he
  ·rename_i y hy
   have vL:i<ys.length:=by rw [hle.length]; exact (List.getElem?_eq_some_iff.1 hy).1
   have hx:ys[i]?=some ys[i]:=List.getElem?_eq_getElem vL
   rw [hx]
   have h1:=hle.at i _ y hx hy
   have hj:j<ys[i].cells.length:=by rw [h1.length]; exact (List.getElem?_eq_some_iff.1 he).1
   have hd:ys[i].cells[j]?=some ys[i].cells[j]:=List.getElem?_eq_getElem hj
   simp only
   rcases h1.at j _ e hd he with ⟨a,b⟩ | ⟨a,b⟩
   ·rw [hd,b]
   ·-- a closed cell Tu Tv an ae one: there is a value of it
    rcases Uy with ⟨c,_,kE⟩ | ⟨A,cap,cell,_,cY⟩
    ·rw [kE] at vL; simp at vL
    ·obtain ⟨_,h3⟩:=cY i _ hx
     obtain ⟨_,_,_,h4⟩:=h3 j _ hd
     rcases h4.2 with ⟨c1,_⟩ | ⟨_,c2⟩
     ·rw [a] at c1; cases c1
     ·rw [(b M _ c2).dZ] at ho; cases ho
  ·cases he
 have QO:ze.cells.size=te.size:=by
  have:=(dN (M:=M) hJ.zc).1.1
  simp at this
  rw [←this,hJ.zl]
 obtain ⟨v',w',aV,BF,kq,yT,B7,_⟩:=oK (P:=P) (t:=t) (ty:=ty) (tf.slice im) hJ.info hJ.zero QO (by rw [qj]; exact eK) (by rw [qj]; exact gU) (by rw [qj]; exact JL) DE (by rw [←hJ.bytes]; exact xp)
 rw [qj] at BF
 refine ⟨v',w',aV,kq,B7,?_⟩
 have JM:∀b,b<w.heap.size→eW v ≠ some b→w'.heap[b]?=w.heap[b]?:=fun b hb bA=>kq.block b hb (fun e=>bA e.symm)
 have OE:bQ M w' v' (fun s=>qi l.length v' h hs ([]++[s])) (.ar sz (l++zs)):=by
  refine jr.2 ?_
  rcases BF with h1 | ⟨g,o,cap,c,tt,a1,a2,a3,a4,a5⟩
  ·exact .inl h1
  ·refine .inr ⟨g,o,cap,c,tt,a1,a2,a3,a4,fun i x hx=>⟨(a5 i x hx).1,fun j d hd=>?_⟩⟩
   obtain ⟨b1,u,b2,b3⟩:=(a5 i x hx).2 j d hd
   refine ⟨b1,u,b2,?_⟩
   unfold km at b3
   simp only [List.nil_append,qi]
   split at b3
   ·rename_i fS; rw [if_pos fS]; exact b3
   ·rename_i fS; rw [if_neg fS]; exact b3.2
 have OF:∀i j c,i<l.length→(step (.ar sz (l++zs)) (.el i j)=some c ↔ step (.ar sz l) (.el i j)=some c):=by
  intro i j c fS
  simp only [step]
  rw [List.getElem?_append_left fS]
 have DF:∀i j c,¬ i<l.length→step (.ar sz (l++zs)) (.el i j)=some c→step (.ar sz zs) (.el (i - l.length) j)=some c:=by
  intro i j c db hc
  simp only [step] at hc ⊢
  rw [List.getElem?_append_right (by omega)] at hc
  exact hc
 have el:∀s c,step (.ar sz (l++zs)) s=some c→∃i j,s=.el i j:=by
  intro s c dp
  cases s with
  | el i j=>exact ⟨i,j,rfl⟩
  | key=>simp [step] at dp
 have sub:∀i j c,¬ i<l.length→step (.ar sz (l++zs)) (.el i j)=some c→c.ae=true→aO M w' (fun r=>hs (.el (i - l.length) j::r)) c∧eX (fun r=>hs (.el (i - l.length) j::r)) c∧∀b,aJ (fun r=>hs (.el (i - l.length) j::r)) c b→aJ hs (.ar sz ys) b:=by
  intro i j c db hc ho
  have h1:=vE _ _ _ (DF i j c db hc) ho
  have hg:get (.ar sz ys) [.el (i - l.length) j]=some c:=by simp [get,h1]
  cases gn with
  | closed jL hn =>
   exfalso
   rcases jL with ⟨_,_,kE⟩ | ⟨A,cap,cell,_,cY⟩
   ·subst kE; simp [step] at h1
   ·simp only [step] at h1
    split at h1
    ·rename_i x hx
     obtain ⟨_,h3⟩:=cY _ x hx
     have:=(h3 j c h1).2.2.2.1
     rw [ho] at this; cases this
    ·cases h1
  | tree ai Tw Wh =>
   have t1:=ai.sub hg ho
   have t2:∀b,aJ (fun r=>hs ([.el (i - l.length) j]++r)) c b→aJ hs (.ar sz ys) b:=fun b hb=>hb.sub hg
   refine ⟨t1.fG (Mem.Le.refl _) (fun b hb=>JM b (aK b (t2 b hb)) fun e=>?_) (fun _ _ _ _ _ q=>q),Tw.sub hg,t2⟩
   exact OD b ⟨[],_,v,rfl,rfl,hv,e⟩ (t2 b hb)
 have main:=aO.n7 (w:=w) (w':=w') (h':=qi l.length v' h hs) (p:=[]) (n:=.ar sz l) (n':=.ar sz (l++zs)) (v:=v) (v':=v') (fun s=>∃i j,s=.el i j∧¬ i<l.length) ht hi rfl rfl hv rfl rfl B7 (.inl rfl) OE
  (fun q hq=>absurd (List.nil_prefix) hq)
  (fun s c dp ho hN=>by
   obtain ⟨i,j,rfl⟩:=el s c dp
   by_cases fS:i<l.length
   ·exact ⟨(OF i j c fS).1 dp,fun r=>by simp only [List.nil_append,qi,if_pos fS]⟩
   ·exact absurd ⟨i,j,rfl,fS⟩ hN)
  (fun s c dp ho hN=>by
   obtain ⟨i,j,rfl,db⟩:=hN
   obtain ⟨t1,t2,t3⟩:=sub i j c db dp ho
   have e:(fun r=>qi l.length v' h hs ([]++.el i j::r))=fun r=>hs (.el (i - l.length) j::r):=by funext r; simp only [List.nil_append,qi,if_neg db]
   rw [e]
   refine ⟨t1,t2,fun b hb=>⟨fun gL=>OD b gL (t3 b hb),fun cE=>?_⟩⟩
   rcases yT b cE with h5 | h5
   ·have:=aK b (t3 b hb); omega
   ·exact OD b ⟨[],_,v,rfl,rfl,hv,h5⟩ (t3 b hb))
  (fun s s' c c' b eT GU IV n8 BQ K5 jN cl=>by
   obtain ⟨i,j,rfl,db⟩:=IV
   obtain ⟨i',j',rfl,QP⟩:=K5
   have e:∀i j,¬ i<l.length→(fun r=>qi l.length v' h hs ([]++.el i j::r))=fun r=>hs (.el (i - l.length) j::r):=fun i j db=>by funext r; simp only [List.nil_append,qi,if_neg db]
   rw [e i j db] at jN
   rw [e i' j' QP] at cl
   have g1:=vE _ _ _ (DF i j c db eT) GU
   have g2:=vE _ _ _ (DF i' j' c' QP n8) BQ
   cases gn with
   | closed jL hn=>rw [hn] at jN; obtain ⟨_,_,_,_,_,q,_⟩:=jN; cases q
   | tree ai Tw Wh =>
    obtain ⟨q,m,u,a1,a2,a3,a4⟩:=jN
    obtain ⟨q',m',u',b1,b2,b3,b4⟩:=cl
    have:=Tw (.el (i - l.length) j::q) (.el (i' - l.length) j'::q') m m' u u' b (by simp only [get,g1]; exact a1) a2 a3 a4 (by simp only [get,g2]; exact b1) b2 b3 b4
    injection this with e1 e2
    injection e1 with e1 e3
    have:i=i':=by omega
    rw [this,e3])
  (fun b hb=>by
   rcases yT b hb with h5 | h5
   ·right; intro ho
    obtain ⟨p,m,u,a1,a2,a3,a4⟩:=ho
    obtain ⟨u',c1,_,c3⟩:=ht.2 p m a1 a2
    rw [a3] at c1; injection c1 with c1; subst c1
    have:=s9 c3 a4; omega
   ·exact .inl h5)
  (fun b ho bA=>by
   obtain ⟨p,m,u,a1,a2,a3,a4⟩:=ho
   obtain ⟨u',c1,_,c3⟩:=ht.2 p m a1 a2
   rw [a3] at c1; injection c1 with c1; subst c1
   exact JM b (s9 c3 a4) bA)
 obtain ⟨m1,m2,m3⟩:=main
 refine ⟨m1,m2,fun b hb=>?_⟩
 rcases m3 b hb with h1 | h1 | ⟨s,c,s1,s2,⟨i,j,rfl,db⟩,s4⟩
 ·exact .inl h1
 ·rcases yT b h1 with h5 | h5
  ·exact .inr (.inr h5)
  ·exact .inl ⟨[],_,v,rfl,rfl,hv,h5⟩
 ·have e:(fun r=>qi l.length v' h hs ([]++.el i j::r))=fun r=>hs (.el (i - l.length) j::r):=by funext r; simp only [List.nil_append,qi,if_neg db]
  rw [e] at s4
  exact .inr (.inl ((sub i j c db s1 s2).2.2 b s4))
end
end Go.TM
namespace Go.TM
open Go.RowKit
variable [cj]
theorem Gw {d nq n:DV} {q:List PS} {s:PS} {c:DV} (hq:get d q=some nq) (hs:step nq s=some c):bH d (q++[s]) n=bH d q (put nq s n):=by
 induction q generalizing d with
 | nil=>simp [get] at hq; subst hq; simp [bH,hs]
 | cons s' q ih =>
  simp only [get] at hq
  simp only [List.cons_append,bH]
  cases h1:step d s' with
  | none=>simp [h1] at hq
  | some c1=>rw [h1] at hq; simp only [ih hq]
theorem aO.lt {M:Mem} {w:World} {h:List PS→Option Value} {d:DV} (ht:aO M w h d) {b:Nat} (ho:aJ h d b):b<w.heap.size:=by
 obtain ⟨p,m,u,a1,a2,a3,a4⟩:=ho
 obtain ⟨u',c1,_,c3⟩:=ht.2 p m a1 a2
 rw [a3] at c1; injection c1 with c1; subst c1
 exact s9 c3 a4
theorem aO.forget {M:Mem} {w:World} {h:List PS→Option Value} {d c:DV} {p:List PS} (ht:aO M w h d) (hi:eX h d) (hp:get d p=some c) (hc:c.ae=true) (bA:p ≠ []) :
  aO M w h (bH d p .any)∧eX h (bH d p .any)∧∀b,aJ h (bH d p .any) b→aJ h d b∧¬ aJ (fun r=>h (p++r)) c b:=by
 have cJ:∀(q:List PS) (x:DV),get d q=some x→q ≠ []→x.aj=true:=fun q x hx _=>ht.cells q x hx
 have lS:∀b,aJ h (bH d p .any) b→aJ h d b→¬ aJ (fun r=>h (p++r)) c b:=by
  rintro b ⟨q,m,u,a1,a2,a3,a4⟩ _ ⟨r,m',u',b1,b2,b3,b4⟩
  by_cases gm:p <+: q
  ·obtain ⟨r',rfl⟩:=bB gm
   rw [fN hp rfl cJ] at a1
   cases r' with
   | nil=>simp [get] at a1; subst a1; cases a2
   | cons s r'=>simp [get,step] at a1
  ·rw [fO rfl cJ gm] at a1
   cases hx:get d q with
   | none=>rw [hx] at a1; cases a1
   | some x =>
    rw [hx] at a1
    simp only [Option.some.injEq] at a1
    have wq:x.ae=true:=by
     by_cases hq:q <+: p
     ·rw [if_pos hq] at a1
      obtain ⟨r',rfl⟩:=bB hq
      cases r' with
      | nil=>exact absurd (by simp) gm
      | cons s r'=>simp only [List.drop_left] at a1; rw [←a1,dQ] at a2; exact a2
     ·rw [if_neg hq] at a1; rw [a1]; exact a2
    have:=hi q (p++r) x m' u u' b hx wq a3 a4 (by rw [get_append,hp]; exact b1) b2 b3 b4
    exact gm ⟨r,this.symm⟩
 rcases List.eq_nil_or_concat p with rfl | ⟨q,s,rfl⟩
 ·exact absurd rfl bA
 ·rw [List.concat_eq_append] at hp lS ⊢
  rw [get_append] at hp
  cases hq:get d q with
  | none=>rw [hq] at hp; cases hp
  | some nq =>
   rw [hq] at hp
   simp only [get] at hp
   cases hs:step nq s with
   | none=>rw [hs] at hp; cases hp
   | some c0 =>
    rw [hs] at hp
    simp at hp
    subst hp
    have RL:=dR hs
    obtain ⟨v,hv,o9,aS⟩:=ht.2 q nq hq RL
    rw [Gw hq hs] at lS ⊢
    have bS:bQ M w v (fun s=>h (q++[s])) (put nq s .any):=by
     refine aS.EG hs rfl fun u hr=>.inr ⟨rfl,.any u ?_⟩
     rcases hr with ⟨_,b⟩ | ⟨a,_⟩
     ·obtain ⟨u',c1,c2,_⟩:=ht.2 (q++[s]) c0 (by rw [get_append,hq]; simp [get,hs]) hc
      have b':h (q++[s])=some u:=b
      rw [c1] at b'; injection b' with b'; subst b'; exact c2
     ·rw [hc] at a; cases a
    obtain ⟨m1,m2,m3⟩:=aO.n7 (w:=w) (w':=w) (h':=h) (n':=put nq s .any) (fun _=>False) ht hi hq RL hv (by rw [n0]; exact RL) hv o9 (.inr rfl) bS (fun _ _=>rfl)
     (fun s' c' dp ho _=>by
      by_cases e:s=s'
      ·subst e; rw [jM hs rfl] at dp; injection dp with dp; subst dp; cases ho
      ·rw [lY rfl e] at dp; exact ⟨dp,fun _=>rfl⟩)
     (fun _ _ _ _ hN=>hN.elim) (fun _ _ _ _ _ _ _ hN=>hN.elim) (fun b hb=>.inl hb) (fun _ _ _=>rfl)
    refine ⟨m1,m2,fun b hb=>?_⟩
    have h1:aJ h d b:=by
     rcases m3 b hb with h1 | h1 | ⟨_,_,_,_,hN,_⟩
     ·exact h1
     ·exact ⟨q,nq,v,hq,RL,hv,h1⟩
     ·exact hN.elim
    exact ⟨h1,lS b hb h1⟩
section
variable {g:df} {n:Nat} {ρ:Nat→AV} {κ κ':Nat→ak} {a:Act} {w w':World} {G:Gh}
theorem bT.split (h:bT g n ρ κ a w G) {i nx ver ep:Nat} {d c:DV} {p:List PS} (hi:κ i=.tree ver ep d) (hx:κ nx=.none) (hp:get d p=some c) (hc:c.ae=true) (bA:p ≠ []) (h1:κ' i=.tree ver (ep+1) (bH d p .any)) (h2:κ' nx=.tree 0 0 c) (h3:∀j,j ≠ i→j ≠ nx→κ' j=κ j) :
  ∃G',Gh.Le G G'∧G'.M=G.M∧G'.β=G.β∧(∀r,az G'.H nx 0 0 r=az G.H i ver ep (p++r))∧bT g n ρ κ' a w G':=by
 have yV:i ≠ nx:=fun e=>by rw [e,hx] at hi; cases hi
 have nE:=h.fit.box i
 have dz:=h.fit.box nx
 rw [hi] at nE
 rw [hx] at dz
 obtain ⟨ht,dk,CZ,eH⟩:=nE
 obtain ⟨f1,f2,f3⟩:=ht.forget dk hp hc bA
 have zE:∀r,p++r ≠ []:=fun r e=>bA (List.append_eq_nil_iff.1 e).1
 let fi:Nat→Nat→List PS→Option Value:=fun v e q=>if v=ver∧e=ep+1∧q ≠ [] then az G.H i ver ep q else G.H i v e q
 let fx:Nat→Nat→List PS→Option Value:=fun v e q=>if v=0∧e=0 then az G.H i ver ep (p++q) else none
 let G':Gh:={ G with H:=cX (cX G.H i fi) nx fx }
 have QQ:G'.H i=fi:=by show cX (cX G.H i fi) nx fx i=fi; rw [dy _ _ yV,ei]
 have KT:G'.H nx=fx:=ei _ _ _
 have BW:∀j,j ≠ i→j ≠ nx→G'.H j=G.H j:=fun j e1 e2=>by show cX (cX G.H i fi) nx fx j=_; rw [dy _ _ e2,dy _ _ e1]
 have xV:az G'.H i ver (ep+1)=az G.H i ver ep:=by
  funext q
  cases q with
  | nil=>simp only [az,QQ]; show (if _ then _ else _)=_; rw [if_neg (by simp)]
  | cons s q=>simp only [az,QQ]; show (if _ then _ else _)=_; rw [if_pos ⟨rfl,rfl,by simp⟩]; rfl
 have KU:az G'.H nx 0 0=fun r=>az G.H i ver ep (p++r):=by
  funext q
  cases q with
  | nil=>show G'.H nx 0 0 []=_; rw [KT]; show (if 0=0∧0=0 then az G.H i ver ep (p++[]) else none)=_; rw [if_pos ⟨rfl,rfl⟩]
  | cons s q=>show G'.H nx 0 0 (s::q)=_; rw [KT]; show (if 0=0∧0=0 then az G.H i ver ep (p++s::q) else none)=_; rw [if_pos ⟨rfl,rfl⟩]
 have hle:Gh.Le G G':=⟨Mem.Le.refl _,fun _ _ q=>q,fun j v e q x hq=>by
  by_cases e1:j=i
  ·subst e1
   rw [QQ]
   show (if v=ver∧e=ep+1∧q ≠ [] then _ else _)=_
   split
   ·rename_i hU; obtain ⟨rfl,rfl,_⟩:=hU; rw [eH (ep+1) (by omega)] at hq; cases hq
   ·exact hq
  ·by_cases e2:j=nx
   ·subst e2; rw [dz.2] at hq; cases hq
   ·rw [BW j e1 e2]; exact hq⟩
 have C0:∀b,bE G' i (κ' i) b→aJ (az G.H i ver ep) d b∧¬ aJ (fun r=>az G.H i ver ep (p++r)) c b:=fun b hb=>by
  rw [h1] at hb; simp only [bE] at hb; rw [xV] at hb; exact f3 b hb
 have C1:∀b,bE G' nx (κ' nx) b→aJ (fun r=>az G.H i ver ep (p++r)) c b:=fun b hb=>by
  rw [h2] at hb; simp only [bE] at hb; rw [KU] at hb; exact hb
 refine ⟨G',hle,rfl,rfl,fun r=>congrFun KU r,h.n3 (C:=fun j=>j=i ∨ j=nx) ⟨hle,fun _ _=>rfl,fun j hj=>h3 j (fun e=>hj (.inl e)) (fun e=>hj (.inr e)),fun j hj=>⟨fun _ q=>q,fun v e q x hq=>?_⟩,fun _ _ _=>⟨rfl,rfl⟩,h.fit.sub,?_,?_,?_,Nat.le_refl _,rfl,rfl,rfl⟩ (fun _ _=>rfl)⟩
 ·rw [BW j (fun e=>hj (.inl e)) (fun e=>hj (.inr e))] at hq; exact hq
 ·rintro j (rfl | rfl)
  ·rw [h1]
   refine ⟨by rw [xV]; exact f1,by rw [xV]; exact f2,fun v hv e q=>?_,fun e he q=>?_⟩
   ·rw [QQ]; show (if v=ver∧_ then _ else _)=_; rw [if_neg (by omega)]; exact CZ v hv e q
   ·rw [QQ]; show (if ver=ver∧e=ep+1∧q ≠ [] then _ else _)=_; rw [if_neg (by omega)]; exact eH e (by omega) q
  ·rw [h2]
   refine ⟨by rw [KU]; exact ht.sub hp hc,by rw [KU]; exact dk.sub hp,fun v hv e q=>?_,fun e he q=>?_⟩
   ·rw [KT]; show (if v=0∧e=0 then _ else _)=_; rw [if_neg (by omega)]
   ·rw [KT]; show (if 0=0∧e=0 then _ else _)=_; rw [if_neg (by omega)]
 ·rintro j b (rfl | rfl) hb
  ·have cE:=(C0 b hb).1
   have:bE G j (κ j) b:=by rw [hi]; exact cE
   exact ⟨.inr ⟨j,.inl rfl,this⟩,h.fit.own j b this⟩
  ·have cE:=(C1 b hb).sub hp
   have:bE G i (κ i) b:=by rw [hi]; exact cE
   exact ⟨.inr ⟨i,.inl rfl,this⟩,h.fit.own i b this⟩
 ·rintro j j' b (rfl | rfl) (rfl | rfl) hb cE
  ·rfl
  ·exact absurd (C1 b cE) (C0 b hb).2
  ·exact absurd (C1 b hb) (C0 b cE).2
  ·rfl
end
end Go.TM
