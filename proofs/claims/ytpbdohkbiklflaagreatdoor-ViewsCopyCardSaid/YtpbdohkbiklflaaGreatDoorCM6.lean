import Derived.Test.YtpbdohkbiklflaaGreatDoorCM5
set_option linter.unusedVariables false
set_option linter.unusedSimpArgs false
set_option linter.unusedSectionVars false
namespace Go.TM
open Go.RowKit
variable [cu]
theorem o5 {i j sz:Nat} (hj:j<sz):(i * sz+j) / sz=i∧(i * sz+j) % sz=j:=by
 have eQ:0<sz:=by omega
 constructor
 ·rw [Nat.mul_comm,Nat.mul_add_div eQ,Nat.div_eq_of_lt hj]; omega
 ·rw [Nat.mul_comm,Nat.mul_add_mod,Nat.mod_eq_of_lt hj]
theorem qC {i j n sz:Nat} (hi:i<n) (hj:j<sz):i * sz+j<n * sz:=by
 have:(i+1) * sz≤n * sz:=Nat.mul_le_mul_right _ hi
 rw [Nat.add_mul] at this
 omega
def o9 (w:World) (v:Value) (sz:Nat) (l:List DV) (R:Nat→Nat→DV→Value→Prop):Prop :=
 (l=[]∧v=.slice none 0 0) ∨
 ∃g o cap c t,v=.slice (some ⟨g,o,none⟩) l.length cap∧l.length≤cap∧w.heap[g]?=some (.cells c t (0,0))∧o+cap * sz≤c.size ∧
  ∀(i:Nat) (x:DV),l[i]?=some x→x.cells.length=sz∧∀(j:Nat) (d:DV),x.cells[j]?=some d→d.aq=true∧∃u,c[o+i * sz+j]?=some u∧R i j d u
theorem kf {M:Mem} {w:World} {v:Value} {hc:PS→Option Value} {sz:Nat} {l:List DV}:ca M w v hc (.aw sz l) ↔ o9 w v sz l fun i j d u=>db M (hc (.el i j)) d u:=Iff.rfl
def pa (w:World) (v:Value) (sz:Nat) (l:List DV) (S:Nat→Nat→DV→Value→Prop):Prop :=
 (∃c,v=.slice none 0 c∧l=[]) ∨
 ∃(A:Addr) (cap:Nat) (cell:Nat→Nat→Value),v=.slice (some A) l.length cap∧∀(i:Nat) (x:DV),l[i]?=some x→x.cells.length=sz ∧
  ∀(j:Nat) (d:DV),x.cells[j]?=some d→d.aq=true∧w.cell? (A.add (i * sz+j))=some (cell i j)∧(cell i j).oneCell'=true∧S i j d (cell i j)
section
variable {w:World}
theorem pa.Vw {M:Mem} {sz:Nat} {l:List DV} {v:Value} (eB:M.In w) (h:bo M (.sl sz l) v):pa w v sz l fun _ _ d u=>bo M d u:=by
 cases h with
 | slnil=>exact .inl ⟨0,rfl,rfl⟩
 | sl _ _ A cap cell eA hlen hc hr =>
  refine .inr ⟨A,cap,cell,rfl,fun i x hx=>?_⟩
  have hm:=hlen x (List.mem_of_getElem? hx)
  refine ⟨hm.1,fun j d hd=>⟨hm.2 d (List.mem_of_getElem? hd),eB.cell (hc i j (List.getElem?_eq_some_iff.1 hx).1 ?_),(hr i x j d hx hd).cT (hm.2 d (List.mem_of_getElem? hd)),hr i x j d hx hd⟩⟩
  rw [←hm.1]; exact (List.getElem?_eq_some_iff.1 hd).1
theorem pa.Nx {sz:Nat} {l:List DV} {v:Value} {R:Nat→Nat→DV→Value→Prop} (h:o9 w v sz l R) (h1:∀i j d u,R i j d u→d.aq=true→u.oneCell'=true):pa w v sz l R:=by
 rcases h with ⟨rfl,rfl⟩ | ⟨g,o,cap,c,t,rfl,eA,hw,aU,EE⟩
 ·exact .inl ⟨0,rfl,rfl⟩
 ·refine .inr ⟨⟨g,o,none⟩,cap,fun i j=>c.getD (o+i * sz+j) undef,rfl,fun i x hx=>?_⟩
  obtain ⟨a1,a2⟩:=EE i x hx
  refine ⟨a1,fun j d hd=>?_⟩
  obtain ⟨b1,u,hu,hr⟩:=a2 j d hd
  have e:c.getD (o+i * sz+j) undef=u:=by rw [Array.getD_eq_getD_getElem?,hu]; rfl
  refine ⟨b1,?_,?_,?_⟩
  ·rw [cO]
   simp only [World.cell?,hw]
   rw [show o+(i * sz+j)=o+i * sz+j by omega,e]
   simpa using hu
  ·show (c.getD (o+i * sz+j) undef).oneCell'=true
   rw [e]; exact h1 i j d u hr b1
  ·show R i j d (c.getD (o+i * sz+j) undef)
   rw [e]; exact hr
theorem pa.mono {sz:Nat} {l l':List DV} {v:Value} {S S':Nat→Nat→DV→Value→Prop} (h:pa w v sz l S) (hl:l.length=l'.length)
  (hx:∀(i:Nat) (x y:DV),l[i]?=some x→l'[i]?=some y→x.cells.length=y.cells.length∧∀(j:Nat) (d e:DV) (u:Value),x.cells[j]?=some d→y.cells[j]?=some e→d.aq=true→S i j d u→e.aq=true∧S' i j e u):pa w v sz l' S':=by
 rcases h with ⟨c,rfl,rfl⟩ | ⟨A,cap,cell,rfl,hh⟩
 ·exact .inl ⟨c,rfl,by simpa using hl.symm⟩
 ·refine .inr ⟨A,cap,cell,by rw [hl],fun i y hy=>?_⟩
  have hi:i<l.length:=by rw [hl]; exact (List.getElem?_eq_some_iff.1 hy).1
  obtain ⟨a1,a2⟩:=hh i _ (List.getElem?_eq_getElem hi)
  obtain ⟨b1,b2⟩:=hx i _ y (List.getElem?_eq_getElem hi) hy
  refine ⟨by omega,fun j e he=>?_⟩
  have hj:j<l[i].cells.length:=by have:=(List.getElem?_eq_some_iff.1 he).1; omega
  obtain ⟨c1,c2,c3,c4⟩:=a2 j _ (List.getElem?_eq_getElem hj)
  obtain ⟨d1,d2⟩:=b2 j _ e _ (List.getElem?_eq_getElem hj) he c1 c4
  exact ⟨d1,c2,c3,d2⟩
def fV (sz n:Nat) (cell:Nat→Nat→Value):List Value:=(List.range (n * sz)).map fun q=>cell (q / sz) (q % sz)
theorem yK (sz n:Nat) (cell:Nat→Nat→Value):(fV sz n cell).length=n * sz:=by simp [fV]
theorem z7 {sz n i j:Nat} (cell:Nat→Nat→Value) (hi:i<n) (hj:j<sz):(fV sz n cell)[i * sz+j]?=some (cell i j):=by
 have h:=qC hi hj
 obtain ⟨h1,h2⟩:=o5 (i:=i) hj
 simp [fV,h,h1,h2]
theorem ic {P:Program} (t ty e:TypeId) (i:TypeInfo) (ht:P.underlying t=some (.slice e)) (hi:P.info? e=some i)
  (g o uH Jw:Nat) (cur:Array Value) (tt:TypeId) (hg:w.heap[g]?=some (.cells cur tt (0,0)))
  (a:Addr) (m c:Nat) (news:List Value) (hl:news.length=m * i.size) (z8:∀j u,news[j]?=some u→w.cell? (a.add j)=some u) (h1:∀u∈news,u.oneCell'=true)
  (w8:uH+m≤Jw) (ck:o+uH * i.size+news.length≤cur.size) :
  (Builtin.append_ #[t,t] ty #[.slice (some ⟨g,o,none⟩) uH Jw,.slice (some a) m c]).run P w =
   .ok (.slice (some ⟨g,o,none⟩) (uH+m) Jw) (w.setRow g (cur.toList.take (o+uH * i.size)++news++cur.toList.drop (o+uH * i.size+news.length)).toArray):=by
 have hf:=run_firstCells_some (P:=P) w i.size m a m c news hl z8
 have ak:=run_storeCells_at P g (o+uH * i.size) tt news 0 cur w hg (by simpa using ck) h1
 simp only [Nat.add_zero] at ak
 simp [Builtin.append_,run_underlying ht,sizeOf,typeInfo,hi,Builtin.lenOf,w8,hf,cO,ak]
def lr (n:Nat) (R S:Nat→Nat→DV→Value→Prop):Nat→Nat→DV→Value→Prop:=fun i j d u=>if i<n then R i j d u else S (i - n) j d u
def IJ (w:World) (v v':Value) (w':World) (zs:List DV):Prop:=∀a n,v=.slice (some a) n n→zs ≠ []→(∀b,b<w.heap.size→w'.heap[b]?=w.heap[b]?)∧∀b,fj v'=some b→w.heap.size≤b
set_option maxHeartbeats 1000000 in
theorem ql {P:Program} {t ty e:TypeId} {ti:TypeInfo} {z:Value} (ht:P.underlying t=some (.slice e)) (hi:P.info? e=some ti) (hz:ti.zero=some z) (nW:z.cells.size=ti.size) (eQ:0<ti.size)
  {v sv:Value} {xs zs:List DV} {R S:Nat→Nat→DV→Value→Prop} (iK:o9 w v ti.size xs R) (gT:pa w sv ti.size zs S)
  (GY:xs.length+zs.length≤9223372036854775807) (zw:(xs.length+zs.length) * ti.bytes≤140737488355328) :
  ∃v' w',(Builtin.append_ #[t,t] ty #[v,sv]).run P w=.ok v' w'∧o9 w' v' ti.size (xs++zs) (lr xs.length R S)∧w.grownBy w' (fj v)∧(∀b,fj v'=some b→w.heap.size≤b ∨ fj v=some b)∧v'.oneCell'=true∧IJ w v v' w' zs:=by
 have qM:v.oneCell'=true:=by rcases iK with ⟨_,rfl⟩ | ⟨_,_,_,_,_,rfl,_⟩ <;> rfl
 have Ny:∀{c:Array Value} {o:Nat},(∀(i:Nat) (x:DV),xs[i]?=some x→x.cells.length=ti.size∧∀(j:Nat) (d:DV),x.cells[j]?=some d→d.aq=true∧∃u,c[o+i * ti.size+j]?=some u∧R i j d u) →
   ∀(i:Nat) (x:DV),xs[i]?=some x→x.cells.length=ti.size∧∀(j:Nat) (d:DV),x.cells[j]?=some d→d.aq=true∧∃u,c[o+i * ti.size+j]?=some u∧lr xs.length R S i j d u:=by
  intro c o hh i x hx
  obtain ⟨a1,a2⟩:=hh i x hx
  refine ⟨a1,fun j d hd=>?_⟩
  obtain ⟨b1,u,b2,b3⟩:=a2 j d hd
  refine ⟨b1,u,b2,?_⟩
  unfold lr
  rw [if_pos (List.getElem?_eq_some_iff.1 hx).1]; exact b3
 have mS:zs=[]→(Builtin.append_ #[t,t] ty #[v,sv]).run P w=.ok v w→∃v' w',(Builtin.append_ #[t,t] ty #[v,sv]).run P w=.ok v' w'∧o9 w' v' ti.size (xs++zs) (lr xs.length R S)∧w.grownBy w' (fj v)∧(∀b,fj v'=some b→w.heap.size≤b ∨ fj v=some b)∧v'.oneCell'=true∧IJ w v v' w' zs:=by
  rintro rfl hr
  refine ⟨v,w,hr,?_,World.grownBy.refl w _,fun b hb=>.inr hb,qM,fun _ _ _ h=>absurd rfl h⟩
  rw [List.append_nil]
  rcases iK with h | ⟨g,o,cap,cc,tt,hv,eA,hw,aU,EE⟩
  ·exact .inl h
  ·exact .inr ⟨g,o,cap,cc,tt,hv,eA,hw,aU,Ny EE⟩
 rcases gT with ⟨c,rfl,lM⟩ | ⟨A,S5,cell,rfl,cE⟩
 ·refine mS lM ?_
  rcases iK with ⟨_,rfl⟩ | ⟨g,o,cap,cc,tt,rfl,eA,hw,aU,EE⟩
  ·simp [Builtin.append_,run_underlying ht,sizeOf,typeInfo,hi,Builtin.lenOf,Builtin.firstCells]
  ·simp [Builtin.append_,run_underlying ht,sizeOf,typeInfo,hi,Builtin.lenOf,Builtin.firstCells,eA,storeCells]
 ·obtain ⟨m,TB⟩:∃m,m=zs.length:=⟨_,rfl⟩
  rw [←TB] at GY zw mS ⊢
  have hlen:(fV ti.size m cell).length=m * ti.size:=yK _ _ _
  have hq:∀q,q<m * ti.size→q / ti.size<m∧q % ti.size<ti.size∧q=q / ti.size * ti.size+q % ti.size:=fun q hq =>
   ⟨(Nat.div_lt_iff_lt_mul eQ).2 hq,Nat.mod_lt _ eQ,by have:=Nat.div_add_mod q ti.size; rw [Nat.mul_comm] at this; exact this.symm⟩
  have z8:∀j u,(fV ti.size m cell)[j]?=some u→w.cell? (A.add j)=some u:=by
   intro q u hu
   have aK:q<m * ti.size:=by rw [←hlen]; exact (List.getElem?_eq_some_iff.1 hu).1
   obtain ⟨h1,h2,h3⟩:=hq q aK
   obtain ⟨FN,Yi⟩:=cE (q / ti.size) (zs[q / ti.size]'(by omega)) (List.getElem?_eq_getElem (by omega))
   have:=(Yi (q % ti.size) _ (List.getElem?_eq_getElem (by rw [FN]; exact h2))).2.1
   rw [h3] at hu ⊢
   rw [z7 cell h1 h2] at hu
   rw [this]; exact hu
  have uG:∀u,u∈fV ti.size m cell→u.oneCell'=true:=by
   intro u hu
   obtain ⟨q,ER,rfl⟩:=List.getElem_of_mem hu
   have aK:q<m * ti.size:=by rw [←hlen]; exact ER
   obtain ⟨h1,h2,h3⟩:=hq q aK
   obtain ⟨FN,Yi⟩:=cE (q / ti.size) (zs[q / ti.size]'(by omega)) (List.getElem?_eq_getElem (by omega))
   have hj:q % ti.size<(zs[q / ti.size]'(by omega)).cells.length:=by rw [FN]; exact h2
   have:=(Yi (q % ti.size) _ (List.getElem?_eq_getElem hj)).2.2.1
   have he:(fV ti.size m cell)[q]=cell (q / ti.size) (q % ti.size):=by simp [fV]
   rw [he]; exact this
  have reads:∀(c':Array Value) (o':Nat),
    (∀(i:Nat) (x:DV),xs[i]?=some x→x.cells.length=ti.size∧∀(j:Nat) (d:DV),x.cells[j]?=some d→d.aq=true∧∃u,c'[o'+i * ti.size+j]?=some u∧R i j d u) →
    (∀q,q<m * ti.size→c'[o'+xs.length * ti.size+q]?=(fV ti.size m cell)[q]?) →
    ∀(i:Nat) (x:DV),(xs++zs)[i]?=some x→x.cells.length=ti.size∧∀(j:Nat) (d:DV),x.cells[j]?=some d→d.aq=true∧∃u,c'[o'+i * ti.size+j]?=some u∧lr xs.length R S i j d u:=by
   intro c' o' hold jh i x hx
   rw [List.getElem?_append] at hx
   split at hx
   ·exact Ny hold i x hx
   ·rename_i dy
    obtain ⟨h1,h3⟩:=cE _ x hx
    have aK:i - xs.length<m:=by rw [TB]; exact (List.getElem?_eq_some_iff.1 hx).1
    refine ⟨h1,fun j d hd=>?_⟩
    have hj:j<ti.size:=by rw [←h1]; exact (List.getElem?_eq_some_iff.1 hd).1
    obtain ⟨k1,k2,k3,k4⟩:=h3 j d hd
    refine ⟨k1,cell (i - xs.length) j,?_,by unfold lr; rw [if_neg dy]; exact k4⟩
    have:=jh ((i - xs.length) * ti.size+j) (qC aK hj)
    rw [z7 cell aK hj] at this
    rw [←this]
    congr 1
    have:i * ti.size=xs.length * ti.size+(i - xs.length) * ti.size:=by rw [←Nat.add_mul]; congr 1; omega
    omega
  by_cases I2:m=0
  ·have Yj:zs=[]:=List.eq_nil_of_length_eq_zero (by omega)
   subst I2
   clear reads uG z8 hq hlen cE
   refine mS Yj ?_
   clear mS Ny
   rcases iK with ⟨_,rfl⟩ | ⟨g,o,cap,cc,tt,rfl,eA,hw,aU,EE⟩
   ·simp [Builtin.append_,run_underlying ht,sizeOf,typeInfo,hi,Builtin.lenOf,Builtin.firstCells,loadCells,loadCellsFrom]
   ·simp [Builtin.append_,run_underlying ht,sizeOf,typeInfo,hi,Builtin.lenOf,Builtin.firstCells,eA,storeCells,loadCells,loadCellsFrom]
  ·have Nz:∀(PW:List Value) (cp:Nat),PW.length=xs.length * ti.size→xs.length+m≤cp→(∀(i:Nat) (x:DV),xs[i]?=some x→x.cells.length=ti.size∧∀(j:Nat) (d:DV),x.cells[j]?=some d→d.aq=true∧∃u,PW[i * ti.size+j]?=some u∧R i j d u) →
       o9 (w.drew.alloc (.cells (PW.toArray++(fV ti.size m cell).toArray++Builtin.zeroCells z.cells (cp - (xs.length+m))) e)) (.slice (some ⟨w.heap.size,0,none⟩) (xs.length+m) cp) ti.size (xs++zs) (lr xs.length R S):=by
    intro PW cp Ty Vq hold
    refine .inr ⟨w.heap.size,0,cp,_,e,by simp [TB],by simpa [TB] using Vq,bY w.drew _,?_,reads _ 0 ?_ ?_⟩
    ·simp only [Array.size_append,List.size_toArray,size_zeroCells,nW,Ty,hlen,←Nat.add_mul,Nat.zero_add]
     refine Nat.mul_le_mul_right _ ?_
     omega
    ·intro i x hx
     obtain ⟨h1,h3⟩:=hold i x hx
     refine ⟨h1,fun j d hd=>?_⟩
     obtain ⟨k1,u,hu,hr⟩:=h3 j d hd
     refine ⟨k1,u,?_,hr⟩
     have aK:=(List.getElem?_eq_some_iff.1 hu).1
     rw [Nat.zero_add,Array.getElem?_append,if_pos (by simp; omega),Array.getElem?_append,if_pos (by simpa using aK)]
     simpa using hu
    ·intro q ER
     rw [Nat.zero_add,Array.getElem?_append,if_pos (by simp [hlen,Ty]; omega),Array.getElem?_append,if_neg (by simp [Ty])]
     simp [Ty]
   rcases iK with ⟨rfl,rfl⟩ | ⟨g,o,cap,cc,tt,rfl,eA,hw,aU,EE⟩
   ·have hr:=run_append_nil (P:=P) w t ty e ti z ht hi hz A m S5 (fV ti.size m cell) hlen z8 (by omega) (by simp at GY; omega) (by simp at zw; omega)
    have hg:=Nz [] (grownCap w m 0 e) (by simp) (by simpa using grownCap_ge w m 0 e) (by simp)
    simp only [List.length_nil,Nat.zero_add,Array.empty_append] at hg
    refine ⟨_,_,hr,by simpa using hg,⟨rfl,rfl,rfl,by simp,fun q hq _=>aV w.drew _ hq⟩,fun b hb=>?_,rfl,fun _ _ e=>by cases e⟩
    simp [fj] at hb; exact .inl (by omega)
   ·by_cases w8:xs.length+m≤cap
    ·have ck:o+xs.length * ti.size+(fV ti.size m cell).length≤cc.size:=by
      rw [hlen]
      have:(xs.length+m) * ti.size≤cap * ti.size:=Nat.mul_le_mul_right _ w8
      rw [Nat.add_mul] at this
      omega
     have hr:=ic (P:=P) t ty e ti ht hi g o xs.length cap cc tt hw A m S5 (fV ti.size m cell) hlen z8 uG w8 ck
     refine ⟨_,_,hr,.inr ⟨g,o,cap,_,tt,by simp [TB],by simpa [TB] using w8,setRow_heap w g cc _ tt _ hw,?_,reads _ o ?_ ?_⟩,⟨rfl,rfl,rfl,by simp,fun q _ hq=>setRow_other w g q _ (fun x=>hq (by simp [fj,x]))⟩,fun b hb=>.inr hb,rfl,fun a n e hz=>?_⟩
     ·simp only [List.size_toArray,List.length_append,List.length_take,List.length_drop,Array.length_toList]
      omega
     ·intro i x hx
      obtain ⟨h1,h3⟩:=EE i x hx
      refine ⟨h1,fun j d hd=>?_⟩
      obtain ⟨k1,u,hu,hr⟩:=h3 j d hd
      refine ⟨k1,u,?_,hr⟩
      have hj:j<ti.size:=by rw [←h1]; exact (List.getElem?_eq_some_iff.1 hd).1
      have MB:=qC (List.getElem?_eq_some_iff.1 hx).1 hj
      have Q2:o+i * ti.size+j<cc.size:=(Array.getElem?_eq_some_iff.1 hu).1
      simp only [List.getElem?_toArray,List.append_assoc]
      rw [List.getElem?_append_left (by simp; omega),List.getElem?_take,if_pos (by omega)]
      simpa using hu
     ·intro q ER
      simp only [List.getElem?_toArray,List.append_assoc]
      rw [List.getElem?_append_right (by simp; omega),List.getElem?_append_left (by simp; omega)]
      congr 1
      simp; omega
     ·exfalso
      simp only [Value.slice.injEq] at e
      have:zs.length ≠ 0:=fun h=>hz (List.eq_nil_of_length_eq_zero h)
      omega
    ·have holds:∀j u,((List.range (xs.length * ti.size)).map fun q=>cc.getD (o+q) undef)[j]?=some u→w.cell? ((⟨g,o,none⟩:Addr).add j)=some u:=by
      intro j u hj
      simp only [List.getElem?_map] at hj
      by_cases aK:j<xs.length * ti.size
      ·simp only [List.getElem?_range aK,Option.map_some] at hj
       injection hj with hj
       have gB:o+j<cc.size:=by
        have:xs.length * ti.size≤cap * ti.size:=Nat.mul_le_mul_right _ eA
        omega
       rw [cO]
       simp only [World.cell?,hw]
       rw [←hj]
       simp [gB]
      ·simp [aK] at hj
     have hr:=run_append_grow (P:=P) w t ty e ti z ht hi hz ⟨g,o,none⟩ xs.length cap ((List.range (xs.length * ti.size)).map fun q=>cc.getD (o+q) undef) (by simp) holds A m S5 (fV ti.size m cell) hlen z8 (by omega) (by omega) (growslice_fits (by omega) zw)
     have hg:=Nz ((List.range (xs.length * ti.size)).map fun q=>cc.getD (o+q) undef) (grownCap w (xs.length+m) cap e) (by simp) (grownCap_ge w (xs.length+m) cap e) (by
      intro i x hx
      obtain ⟨h1,h3⟩:=EE i x hx
      refine ⟨h1,fun j d hd=>?_⟩
      obtain ⟨k1,u,hu,hr⟩:=h3 j d hd
      have hj:j<ti.size:=by rw [←h1]; exact (List.getElem?_eq_some_iff.1 hd).1
      have MB:=qC (List.getElem?_eq_some_iff.1 hx).1 hj
      refine ⟨k1,u,?_,hr⟩
      simp only [List.getElem?_map,List.getElem?_range MB,Option.map_some]
      rw [show o+(i * ti.size+j)=o+i * ti.size+j by omega,Array.getD_eq_getD_getElem?,hu]
      rfl)
     refine ⟨_,_,hr,hg,⟨rfl,rfl,rfl,by simp,fun q hq _=>aV w.drew _ hq⟩,fun b hb=>?_,rfl,fun _ _ _ _=>⟨fun b hb=>aV w.drew _ hb,fun b hb=>?_⟩⟩
     ·simp [fj] at hb; exact .inl (by omega)
     ·simp [fj] at hb; omega
end
end Go.TM
namespace Go.TM
open Go.RowKit
variable [cu]
section
variable {w w':World}
theorem aX.sub {M:Mem} {h:List PS→Option Value} {d c:DV} {p:List PS} (ht:aX M w h d) (hp:get d p=some c) (hc:c.ah=true):aX M w (fun r=>h (p++r)) c:=by
 refine ⟨hc,fun q m hq hm=>?_⟩
 obtain ⟨v,h1,h2,h3⟩:=ht.2 (p++q) m (by rw [get_append,hp]; exact hq) hm
 exact ⟨v,h1,h2,by simpa only [List.append_assoc] using h3⟩
theorem fk.sub {h:List PS→Option Value} {d c:DV} {p:List PS} (hi:fk h d) (hp:get d p=some c):fk (fun r=>h (p++r)) c:=by
 intro q q' n m u v b e1 e2 e3 e4 f1 f2 f3 f4
 have:=hi (p++q) (p++q') n m u v b (by rw [get_append,hp]; exact e1) e2 e3 e4 (by rw [get_append,hp]; exact f1) f2 f3 f4
 exact List.append_cancel_left this
theorem aQ.sub {h:List PS→Option Value} {d c:DV} {p:List PS} {b:Nat} (hp:get d p=some c) (ho:aQ (fun r=>h (p++r)) c b):aQ h d b:=by
 obtain ⟨q,m,v,h1,h2,h3,h4⟩:=ho
 exact ⟨p++q,m,v,by rw [get_append,hp]; exact h1,h2,h3,h4⟩
theorem fk.gm {h h':List PS→Option Value} {d:DV} (hi:fk h d) (hh:∀p n v,get d p=some n→n.ah=true→h' p=some v→h p=some v):fk h' d :=
 fun p q n m u v b e1 e2 e3 e4 f1 f2 f3 f4=>hi p q n m u v b e1 e2 (hh p n u e1 e2 e3) e4 f1 f2 (hh q m v f1 f2 f3) f4
def IN:List PS→Option Value
 | []=>some (.slice none 0 0)
 | _=>none
theorem vp {sz:Nat} {p:List PS} {m:DV} (h:get (.aw sz []) p=some m):p=[]∧m=.aw sz []:=by
 cases p with
 | nil=>simp [get] at h; exact ⟨rfl,h.symm⟩
 | cons s p=>cases s <;> simp [get,step] at h
theorem vB (M:Mem) (w:World) (sz:Nat):aX M w IN (.aw sz []):=by
 refine ⟨rfl,fun p m hp _=>?_⟩
 obtain ⟨rfl,rfl⟩:=vp hp
 exact ⟨_,rfl,rfl,.inl ⟨rfl,rfl⟩⟩
theorem Ai (sz:Nat):fk IN (.aw sz []):=by
 intro p q n m u v b e1 _ _ _ f1 _ _ _
 rw [(vp e1).1,(vp f1).1]
theorem jk {sz b:Nat} (h:aQ IN (.aw sz []) b):False:=by
 obtain ⟨p,m,v,h1,_,h3,h4⟩:=h
 obtain ⟨rfl,rfl⟩:=vp h1
 simp [IN] at h3
 subst h3
 simp [fj] at h4
def r5 (n:Nat) (v:Value) (h hs:List PS→Option Value):List PS→Option Value
 | []=>some v
 | .el i j::r=>if i<n then h (.el i j::r) else hs (.el (i - n) j::r)
 | s::r=>h (s::r)
inductive Src (M:Mem) (w:World) (x:Value) (sz:Nat) (ys:List DV) (hs:List PS→Option Value):Prop
 | closed (h:pa w x sz ys fun _ _ d u=>d.ah=false∧bo M d u) (hn:hs=fun _=>none)
 | tree (ht:aX M w hs (.aw sz ys)) (hi:fk hs (.aw sz ys)) (hx:hs []=some x)
theorem db.cT {M:Mem} {h:Option Value} {d:DV} {u:Value} (r:db M h d u) (hc:d.aq=true) (ho:d.ah=true→∀v,h=some v→v.oneCell'=true):u.oneCell'=true:=by
 rcases r with ⟨a,b⟩ | ⟨a,b⟩
 ·exact ho a u b
 ·exact b.cT hc
theorem aX.NA {M:Mem} {h:List PS→Option Value} {d c:DV} {s:PS} (ht:aX M w h d) (hs:step d s=some c) (hc:c.ah=true) {v:Value} (hv:h [s]=some v):v.oneCell'=true:=by
 obtain ⟨u,h1,h2,_⟩:=ht.2 [s] c (by simp [get,hs]) hc
 rw [h1] at hv; injection hv with hv; subst hv; exact h2
theorem Src.Q0 {M:Mem} {x:Value} {sz:Nat} {ys:List DV} {hs:List PS→Option Value} (h:Src M w x sz ys hs):pa w x sz ys fun i j d u=>d.aq=true∧db M (hs [.el i j]) d u:=by
 cases h with
 | closed h hn =>
  refine h.mono rfl fun i x' y hx hy=>?_
  rw [hx] at hy; injection hy with hy; subst hy
  refine ⟨rfl,fun j d e u hd he ES hS=>?_⟩
  rw [hd] at he; injection he with he; subst he
  exact ⟨ES,ES,.inr hS⟩
 | tree ht hi hx =>
  obtain ⟨v,h1,h2,h3⟩:=ht.2 [] _ rfl rfl
  rw [hx] at h1; injection h1 with h1; subst h1
  have h4:o9 w x sz ys fun i j d u=>d.aq=true∧step (.aw sz ys) (.el i j)=some d∧db M (hs [.el i j]) d u:=by
   rcases kf.1 h3 with h3 | ⟨g,o,cap,c,t,a1,a2,a3,a4,a5⟩
   ·exact .inl h3
   ·refine .inr ⟨g,o,cap,c,t,a1,a2,a3,a4,fun i y hy=>⟨(a5 i y hy).1,fun j d hd=>?_⟩⟩
    obtain ⟨b1,u,b2,b3⟩:=(a5 i y hy).2 j d hd
    exact ⟨b1,u,b2,b1,by simp only [step,hy]; exact hd,b3⟩
  refine (pa.Nx h4 fun i j d u hr _=>?_).mono rfl fun i x' y hx hy=>?_
  ·exact hr.2.2.cT hr.1 fun ho v hv=>ht.NA hr.2.1 ho hv
  ·rw [hx] at hy; injection hy with hy; subst hy
   refine ⟨rfl,fun j d e u hd he ES hS=>?_⟩
   rw [hd] at he; injection he with he; subst he
   exact ⟨ES,hS.1,hS.2.2⟩
theorem kO.length:∀{l r:List DV},kO l r→l.length=r.length
 | [],[],_=>rfl
 | _::_,_::_,h=>by simp [kO.length h.2]
 | [],_::_,h=>h.elim
 | _::_,[],h=>h.elim
theorem kO.at:∀{l r:List DV},kO l r→∀(j:Nat) (d e:DV),l[j]?=some d→r[j]?=some e→(d.ah=true∧d=e) ∨ (d.ah=false∧d.Le e)
 | [],[],_,j,d,e,h,_=>by simp at h
 | a::l,b::r,h,0,d,e,e1,e2=>by
  simp at e1 e2; subst e1; subst e2
  have:=h.1
  cases ho:a.ah with
  | true=>rw [ho] at this; exact .inl ⟨rfl,this⟩
  | false=>rw [ho] at this; exact .inr ⟨rfl,this⟩
 | a::l,b::r,h,j+1,d,e,e1,e2=>by simp at e1 e2; exact kO.at h.2 j d e e1 e2
 | [],_::_,h,_,_,_,_,_=>h.elim
 | _::_,[],h,_,_,_,_,_=>h.elim
theorem dm.length:∀{l r:List DV},dm l r→l.length=r.length
 | [],[],_=>rfl
 | _::_,_::_,h=>by simp [dm.length h.2]
 | [],_::_,h=>h.elim
 | _::_,[],h=>h.elim
theorem dm.at:∀{l r:List DV},dm l r→∀(i:Nat) (x y:DV),l[i]?=some x→r[i]?=some y→kO x.cells y.cells
 | [],[],_,j,d,e,h,_=>by simp at h
 | a::l,b::r,h,0,d,e,e1,e2=>by simp at e1 e2; subst e1; subst e2; exact h.1
 | a::l,b::r,h,j+1,d,e,e1,e2=>by simp at e1 e2; exact dm.at h.2 j d e e1 e2
 | [],_::_,h,_,_,_,_,_=>h.elim
 | _::_,[],h,_,_,_,_,_=>h.elim
theorem bo.aq {M:Mem} {d:DV} {v:Value} (h:bo M d v) (hv:v.oneCell'=true):d.aq=true:=by
 cases h with
 | agg=>simp [Value.oneCell'] at hv
 | _=>rfl
theorem db.le {M:Mem} {h:Option Value} {d e:DV} {u:Value} (r:db M h d u) (hle:(d.ah=true∧d=e) ∨ (d.ah=false∧d.Le e)) (hc:d.aq=true):e.aq=true∧db M h e u∧(e.ah=true→d=e):=by
 rcases hle with ⟨h1,rfl⟩ | ⟨h1,h2⟩
 ·exact ⟨hc,r,fun _=>rfl⟩
 ·rcases r with ⟨a,b⟩ | ⟨a,b⟩
  ·rw [h1] at a; cases a
  ·have h3:=h2 M u b
   exact ⟨h3.aq (b.cT hc),.inr ⟨h3.dO,h3⟩,fun ho=>by rw [h3.dO] at ho; cases ho⟩
theorem Es {P:Program} {T:List TI} (hT:er P T) {t ty:TypeId} (bK:(nth T t).ok=true) (gX:(nth T t).isSl=true) (fJ:(nth T (nth T t).elem).ok=true) (eQ:0<(nth T (nth T t).elem).size)
  {M:Mem} {h hs:List PS→Option Value} {l ys zs:List DV} {v x:Value} (ht:aX M w h (.aw (nth T (nth T t).elem).size l)) (hi:fk h (.aw (nth T (nth T t).elem).size l)) (hv:h []=some v)
  (gT:Src M w x (nth T (nth T t).elem).size ys hs) (S6:∀b,aQ h (.aw (nth T (nth T t).elem).size l) b→¬ aQ hs (.aw (nth T (nth T t).elem).size ys) b) (aK:∀b,aQ hs (.aw (nth T (nth T t).elem).size ys) b→b<w.heap.size) (hle:dm ys zs)
  (GY:l.length+zs.length≤9223372036854775807) (zw:(l.length+zs.length) * (nth T (nth T t).elem).bytes≤140737488355328) :
  ∃v' w',(Builtin.append_ #[t,t] ty #[v,x]).run P w=.ok v' w'∧w.grownBy w' (fj v)∧v'.oneCell'=true∧aX M w' (r5 l.length v' h hs) (.aw (nth T (nth T t).elem).size (l++zs))∧fk (r5 l.length v' h hs) (.aw (nth T (nth T t).elem).size (l++zs)) ∧
   ∀b,aQ (r5 l.length v' h hs) (.aw (nth T (nth T t).elem).size (l++zs)) b→aQ h (.aw (nth T (nth T t).elem).size l) b ∨ aQ hs (.aw (nth T (nth T t).elem).size ys) b ∨ w.heap.size≤b:=by
 obtain ⟨i,u,z,tf⟩:=hT.facts bK
 obtain ⟨te,ue,ze,iT⟩:=hT.facts fJ
 generalize aU:(nth T (nth T t).elem).size=sz at *
 have r6:te.size=sz:=by rw [←aU,iT.size]
 obtain ⟨v0,Ah,qM,bf⟩:=ht.2 [] _ rfl rfl
 rw [hv] at Ah; injection Ah with Ah; subst Ah
 have iK:=kf.1 bf
 have Zr:=gT.Q0
 have NB:pa w x sz zs fun i j d u=>d.aq=true∧db M (hs [.el i j]) d u:=by
  refine Zr.mono hle.length fun i x y hx hy=>?_
  have h1:=hle.at i x y hx hy
  refine ⟨h1.length,fun j d e u hd he ES hS=>?_⟩
  obtain ⟨k1,k2,_⟩:=hS.2.le (h1.at j d e hd he) ES
  exact ⟨k1,k1,k2⟩
 have xU:∀i j e,step (.aw sz zs) (.el i j)=some e→e.ah=true→step (.aw sz ys) (.el i j)=some e:=by
  intro i j e he ho
  simp only [step] at he ⊢
  split at he
  ·rename_i y hy
   have uB:i<ys.length:=by rw [hle.length]; exact (List.getElem?_eq_some_iff.1 hy).1
   have hx:ys[i]?=some ys[i]:=List.getElem?_eq_getElem uB
   rw [hx]
   have h1:=hle.at i _ y hx hy
   have hj:j<ys[i].cells.length:=by rw [h1.length]; exact (List.getElem?_eq_some_iff.1 he).1
   have hd:ys[i].cells[j]?=some ys[i].cells[j]:=List.getElem?_eq_getElem hj
   simp only
   rcases h1.at j _ e hd he with ⟨a,b⟩ | ⟨a,b⟩
   ·rw [hd,b]
   ·-- a closed cell Yk Yl an ah one: there is a value of it
    rcases Zr with ⟨c,_,lM⟩ | ⟨A,cap,cell,_,cE⟩
    ·rw [lM] at uB; simp at uB
    ·obtain ⟨_,h3⟩:=cE i _ hx
     obtain ⟨_,_,_,h4⟩:=h3 j _ hd
     rcases h4.2 with ⟨c1,_⟩ | ⟨_,c2⟩
     ·rw [a] at c1; cases c1
     ·rw [(b M _ c2).dO] at ho; cases ho
  ·cases he
 have Vx:ze.cells.size=te.size:=by
  have:=(ed (M:=M) iT.zc).1.1
  simp at this
  rw [←this,iT.zl]
 obtain ⟨v',w',bj,Et,lF,Bi,EX,_⟩:=ql (P:=P) (t:=t) (ty:=ty) (tf.slice gX) iT.info iT.zero Vx (by rw [r6]; exact eQ) (by rw [r6]; exact iK) (by rw [r6]; exact NB) GY (by rw [←iT.bytes]; exact zw)
 rw [r6] at Et
 refine ⟨v',w',bj,lF,EX,?_⟩
 have NC:∀b,b<w.heap.size→fj v ≠ some b→w'.heap[b]?=w.heap[b]?:=fun b hb bJ=>lF.block b hb (fun e=>bJ e.symm)
 have S7:ca M w' v' (fun s=>r5 l.length v' h hs ([]++[s])) (.aw sz (l++zs)):=by
  refine kf.2 ?_
  rcases Et with h1 | ⟨g,o,cap,c,tt,a1,a2,a3,a4,a5⟩
  ·exact .inl h1
  ·refine .inr ⟨g,o,cap,c,tt,a1,a2,a3,a4,fun i x hx=>⟨(a5 i x hx).1,fun j d hd=>?_⟩⟩
   obtain ⟨b1,u,b2,b3⟩:=(a5 i x hx).2 j d hd
   refine ⟨b1,u,b2,?_⟩
   unfold lr at b3
   simp only [List.nil_append,r5]
   split at b3
   ·rename_i gB; rw [if_pos gB]; exact b3
   ·rename_i gB; rw [if_neg gB]; exact b3.2
 have S8:∀i j c,i<l.length→(step (.aw sz (l++zs)) (.el i j)=some c ↔ step (.aw sz l) (.el i j)=some c):=by
  intro i j c gB
  simp only [step]
  rw [List.getElem?_append_left gB]
 have GZ:∀i j c,¬ i<l.length→step (.aw sz (l++zs)) (.el i j)=some c→step (.aw sz zs) (.el (i - l.length) j)=some c:=by
  intro i j c dy hc
  simp only [step] at hc ⊢
  rw [List.getElem?_append_right (by omega)] at hc
  exact hc
 have el:∀s c,step (.aw sz (l++zs)) s=some c→∃i j,s=.el i j:=by
  intro s c dI
  cases s with
  | el i j=>exact ⟨i,j,rfl⟩
  | key=>simp [step] at dI
 have sub:∀i j c,¬ i<l.length→step (.aw sz (l++zs)) (.el i j)=some c→c.ah=true→aX M w' (fun r=>hs (.el (i - l.length) j::r)) c∧fk (fun r=>hs (.el (i - l.length) j::r)) c∧∀b,aQ (fun r=>hs (.el (i - l.length) j::r)) c b→aQ hs (.aw sz ys) b:=by
  intro i j c dy hc ho
  have h1:=xU _ _ _ (GZ i j c dy hc) ho
  have hg:get (.aw sz ys) [.el (i - l.length) j]=some c:=by simp [get,h1]
  cases gT with
  | closed fM hn =>
   exfalso
   rcases fM with ⟨_,_,lM⟩ | ⟨A,cap,cell,_,cE⟩
   ·subst lM; simp [step] at h1
   ·simp only [step] at h1
    split at h1
    ·rename_i x hx
     obtain ⟨_,h3⟩:=cE _ x hx
     have:=(h3 j c h1).2.2.2.1
     rw [ho] at this; cases this
    ·cases h1
  | tree ak Ym hsx =>
   have t1:=ak.sub hg ho
   have t2:∀b,aQ (fun r=>hs ([.el (i - l.length) j]++r)) c b→aQ hs (.aw sz ys) b:=fun b hb=>hb.sub hg
   refine ⟨t1.gm (Mem.Le.refl _) (fun b hb=>NC b (aK b (t2 b hb)) fun e=>?_) (fun _ _ _ _ _ q=>q),Ym.sub hg,t2⟩
   exact S6 b ⟨[],_,v,rfl,rfl,hv,e⟩ (t2 b hb)
 have main:=aX.pK (w:=w) (w':=w') (h':=r5 l.length v' h hs) (p:=[]) (n:=.aw sz l) (n':=.aw sz (l++zs)) (v:=v) (v':=v') (fun s=>∃i j,s=.el i j∧¬ i<l.length) ht hi rfl rfl hv rfl rfl EX (.inl rfl) S7
  (fun q hq=>absurd (List.nil_prefix) hq)
  (fun s c dI ho hN=>by
   obtain ⟨i,j,rfl⟩:=el s c dI
   by_cases gB:i<l.length
   ·exact ⟨(S8 i j c gB).1 dI,fun r=>by simp only [List.nil_append,r5,if_pos gB]⟩
   ·exact absurd ⟨i,j,rfl,gB⟩ hN)
  (fun s c dI ho hN=>by
   obtain ⟨i,j,rfl,dy⟩:=hN
   obtain ⟨t1,t2,t3⟩:=sub i j c dy dI ho
   have e:(fun r=>r5 l.length v' h hs ([]++.el i j::r))=fun r=>hs (.el (i - l.length) j::r):=by funext r; simp only [List.nil_append,r5,if_neg dy]
   rw [e]
   refine ⟨t1,t2,fun b hb=>⟨fun iC=>S6 b iC (t3 b hb),fun cL=>?_⟩⟩
   rcases Bi b cL with h5 | h5
   ·have:=aK b (t3 b hb); omega
   ·exact S6 b ⟨[],_,v,rfl,rfl,hv,h5⟩ (t3 b hb))
  (fun s s' c c' b fh KA Mu ph ED OU ki cy=>by
   obtain ⟨i,j,rfl,dy⟩:=Mu
   obtain ⟨i',j',rfl,Vy⟩:=OU
   have e:∀i j,¬ i<l.length→(fun r=>r5 l.length v' h hs ([]++.el i j::r))=fun r=>hs (.el (i - l.length) j::r):=fun i j dy=>by funext r; simp only [List.nil_append,r5,if_neg dy]
   rw [e i j dy] at ki
   rw [e i' j' Vy] at cy
   have g1:=xU _ _ _ (GZ i j c dy fh) KA
   have g2:=xU _ _ _ (GZ i' j' c' Vy ph) ED
   cases gT with
   | closed fM hn=>rw [hn] at ki; obtain ⟨_,_,_,_,_,q,_⟩:=ki; cases q
   | tree ak Ym hsx =>
    obtain ⟨q,m,u,a1,a2,a3,a4⟩:=ki
    obtain ⟨q',m',u',b1,b2,b3,b4⟩:=cy
    have:=Ym (.el (i - l.length) j::q) (.el (i' - l.length) j'::q') m m' u u' b (by simp only [get,g1]; exact a1) a2 a3 a4 (by simp only [get,g2]; exact b1) b2 b3 b4
    injection this with e1 e2
    injection e1 with e1 e3
    have:i=i':=by omega
    rw [this,e3])
  (fun b hb=>by
   rcases Bi b hb with h5 | h5
   ·right; intro ho
    obtain ⟨p,m,u,a1,a2,a3,a4⟩:=ho
    obtain ⟨u',c1,_,c3⟩:=ht.2 p m a1 a2
    rw [a3] at c1; injection c1 with c1; subst c1
    have:=vw c3 a4; omega
   ·exact .inl h5)
  (fun b ho bJ=>by
   obtain ⟨p,m,u,a1,a2,a3,a4⟩:=ho
   obtain ⟨u',c1,_,c3⟩:=ht.2 p m a1 a2
   rw [a3] at c1; injection c1 with c1; subst c1
   exact NC b (vw c3 a4) bJ)
 obtain ⟨m1,m2,m3⟩:=main
 refine ⟨m1,m2,fun b hb=>?_⟩
 rcases m3 b hb with h1 | h1 | ⟨s,c,s1,s2,⟨i,j,rfl,dy⟩,s4⟩
 ·exact .inl h1
 ·rcases Bi b h1 with h5 | h5
  ·exact .inr (.inr h5)
  ·exact .inl ⟨[],_,v,rfl,rfl,hv,h5⟩
 ·have e:(fun r=>r5 l.length v' h hs ([]++.el i j::r))=fun r=>hs (.el (i - l.length) j::r):=by funext r; simp only [List.nil_append,r5,if_neg dy]
  rw [e] at s4
  exact .inr (.inl ((sub i j c dy s1 s2).2.2 b s4))
end
end Go.TM
namespace Go.TM
open Go.RowKit
variable [cu]
theorem Kd {d nq n:DV} {q:List PS} {s:PS} {c:DV} (hq:get d q=some nq) (hs:step nq s=some c):bP d (q++[s]) n=bP d q (put nq s n):=by
 induction q generalizing d with
 | nil=>simp [get] at hq; subst hq; simp [bP,hs]
 | cons s' q ih =>
  simp only [get] at hq
  simp only [List.cons_append,bP]
  cases h1:step d s' with
  | none=>simp [h1] at hq
  | some c1=>rw [h1] at hq; simp only [ih hq]
theorem aX.lt {M:Mem} {w:World} {h:List PS→Option Value} {d:DV} (ht:aX M w h d) {b:Nat} (ho:aQ h d b):b<w.heap.size:=by
 obtain ⟨p,m,u,a1,a2,a3,a4⟩:=ho
 obtain ⟨u',c1,_,c3⟩:=ht.2 p m a1 a2
 rw [a3] at c1; injection c1 with c1; subst c1
 exact vw c3 a4
theorem aX.forget {M:Mem} {w:World} {h:List PS→Option Value} {d c:DV} {p:List PS} (ht:aX M w h d) (hi:fk h d) (hp:get d p=some c) (hc:c.ah=true) (bJ:p ≠ []) :
  aX M w h (bP d p .any)∧fk h (bP d p .any)∧∀b,aQ h (bP d p .any) b→aQ h d b∧¬ aQ (fun r=>h (p++r)) c b:=by
 have cZ:∀(q:List PS) (x:DV),get d q=some x→q ≠ []→x.aq=true:=fun q x hx _=>ht.cells q x hx
 have kL:∀b,aQ h (bP d p .any) b→aQ h d b→¬ aQ (fun r=>h (p++r)) c b:=by
  rintro b ⟨q,m,u,a1,a2,a3,a4⟩ _ ⟨r,m',u',b1,b2,b3,b4⟩
  by_cases gQ:p <+: q
  ·obtain ⟨r',rfl⟩:=bO gQ
   rw [gx hp rfl cZ] at a1
   cases r' with
   | nil=>simp [get] at a1; subst a1; cases a2
   | cons s r'=>simp [get,step] at a1
  ·rw [gy rfl cZ gQ] at a1
   cases hx:get d q with
   | none=>rw [hx] at a1; cases a1
   | some x =>
    rw [hx] at a1
    simp only [Option.some.injEq] at a1
    have yv:x.ah=true:=by
     by_cases hq:q <+: p
     ·rw [if_pos hq] at a1
      obtain ⟨r',rfl⟩:=bO hq
      cases r' with
      | nil=>exact absurd (by simp) gQ
      | cons s r'=>simp only [List.drop_left] at a1; rw [←a1,eh] at a2; exact a2
     ·rw [if_neg hq] at a1; rw [a1]; exact a2
    have:=hi q (p++r) x m' u u' b hx yv a3 a4 (by rw [get_append,hp]; exact b1) b2 b3 b4
    exact gQ ⟨r,this.symm⟩
 rcases List.eq_nil_or_concat p with rfl | ⟨q,s,rfl⟩
 ·exact absurd rfl bJ
 ·rw [List.concat_eq_append] at hp kL ⊢
  rw [get_append] at hp
  cases hq:get d q with
  | none=>rw [hq] at hp; cases hp
  | some nq =>
   rw [hq] at hp
   simp only [get] at hp
   cases hs:step nq s with
   | none=>rw [hs] at hp; cases hp
   | some c0 =>
    rw [hs] at hp
    simp at hp
    subst hp
    have Wn:=ei hs
    obtain ⟨v,hv,qM,bf⟩:=ht.2 q nq hq Wn
    rw [Kd hq hs] at kL ⊢
    have bT:ca M w v (fun s=>h (q++[s])) (put nq s .any):=by
     refine bf.H9 hs rfl fun u hr=>.inr ⟨rfl,.any u ?_⟩
     rcases hr with ⟨_,b⟩ | ⟨a,_⟩
     ·obtain ⟨u',c1,c2,_⟩:=ht.2 (q++[s]) c0 (by rw [get_append,hq]; simp [get,hs]) hc
      have b':h (q++[s])=some u:=b
      rw [c1] at b'; injection b' with b'; subst b'; exact c2
     ·rw [hc] at a; cases a
    obtain ⟨m1,m2,m3⟩:=aX.pK (w:=w) (w':=w) (h':=h) (n':=put nq s .any) (fun _=>False) ht hi hq Wn hv (by rw [pG]; exact Wn) hv qM (.inr rfl) bT (fun _ _=>rfl)
     (fun s' c' dI ho _=>by
      by_cases e:s=s'
      ·subst e; rw [kE hs rfl] at dI; injection dI with dI; subst dI; cases ho
      ·rw [nj rfl e] at dI; exact ⟨dI,fun _=>rfl⟩)
     (fun _ _ _ _ hN=>hN.elim) (fun _ _ _ _ _ _ _ hN=>hN.elim) (fun b hb=>.inl hb) (fun _ _ _=>rfl)
    refine ⟨m1,m2,fun b hb=>?_⟩
    have h1:aQ h d b:=by
     rcases m3 b hb with h1 | h1 | ⟨_,_,_,_,hN,_⟩
     ·exact h1
     ·exact ⟨q,nq,v,hq,Wn,hv,h1⟩
     ·exact hN.elim
    exact ⟨h1,kL b hb h1⟩
section
variable {g:dD} {n:Nat} {ρ:Nat→AV} {κ κ':Nat→ar} {a:Act} {w w':World} {G:Gh}
theorem cf.split (h:cf g n ρ κ a w G) {i nx ver ep:Nat} {d c:DV} {p:List PS} (hi:κ i=.tree ver ep d) (hx:κ nx=.none) (hp:get d p=some c) (hc:c.ah=true) (bJ:p ≠ []) (h1:κ' i=.tree ver (ep+1) (bP d p .any)) (h2:κ' nx=.tree 0 0 c) (h3:∀j,j ≠ i→j ≠ nx→κ' j=κ j) :
  ∃G',Gh.Le G G'∧G'.M=G.M∧G'.β=G.β∧(∀r,aB G'.H nx 0 0 r=aB G.H i ver ep (p++r))∧cf g n ρ κ' a w G':=by
 have Bk:i ≠ nx:=fun e=>by rw [e,hx] at hi; cases hi
 have nc:=h.fit.box i
 have dQ:=h.fit.box nx
 rw [hi] at nc
 rw [hx] at dQ
 obtain ⟨ht,dB,FW,fe⟩:=nc
 obtain ⟨f1,f2,f3⟩:=ht.forget dB hp hc bJ
 have y7:∀r,p++r ≠ []:=fun r e=>bJ (List.append_eq_nil_iff.1 e).1
 let fi:Nat→Nat→List PS→Option Value:=fun v e q=>if v=ver∧e=ep+1∧q ≠ [] then aB G.H i ver ep q else G.H i v e q
 let fx:Nat→Nat→List PS→Option Value:=fun v e q=>if v=0∧e=0 then aB G.H i ver ep (p++q) else none
 let G':Gh:={ G with H:=df (df G.H i fi) nx fx }
 have Vz:G'.H i=fi:=by show df (df G.H i fi) nx fx i=fi; rw [dP _ _ Bk,eK]
 have OM:G'.H nx=fx:=eK _ _ _
 have EJ:∀j,j ≠ i→j ≠ nx→G'.H j=G.H j:=fun j e1 e2=>by show df (df G.H i fi) nx fx j=_; rw [dP _ _ e2,dP _ _ e1]
 have Aj:aB G'.H i ver (ep+1)=aB G.H i ver ep:=by
  funext q
  cases q with
  | nil=>simp only [aB,Vz]; show (if _ then _ else _)=_; rw [if_neg (by simp)]
  | cons s q=>simp only [aB,Vz]; show (if _ then _ else _)=_; rw [if_pos ⟨rfl,rfl,by simp⟩]; rfl
 have ON:aB G'.H nx 0 0=fun r=>aB G.H i ver ep (p++r):=by
  funext q
  cases q with
  | nil=>show G'.H nx 0 0 []=_; rw [OM]; show (if 0=0∧0=0 then aB G.H i ver ep (p++[]) else none)=_; rw [if_pos ⟨rfl,rfl⟩]
  | cons s q=>show G'.H nx 0 0 (s::q)=_; rw [OM]; show (if 0=0∧0=0 then aB G.H i ver ep (p++s::q) else none)=_; rw [if_pos ⟨rfl,rfl⟩]
 have hle:Gh.Le G G':=⟨Mem.Le.refl _,fun _ _ q=>q,fun j v e q x hq=>by
  by_cases e1:j=i
  ·subst e1
   rw [Vz]
   show (if v=ver∧e=ep+1∧q ≠ [] then _ else _)=_
   split
   ·rename_i il; obtain ⟨rfl,rfl,_⟩:=il; rw [fe (ep+1) (by omega)] at hq; cases hq
   ·exact hq
  ·by_cases e2:j=nx
   ·subst e2; rw [dQ.2] at hq; cases hq
   ·rw [EJ j e1 e2]; exact hq⟩
 have FX:∀b,bL G' i (κ' i) b→aQ (aB G.H i ver ep) d b∧¬ aQ (fun r=>aB G.H i ver ep (p++r)) c b:=fun b hb=>by
  rw [h1] at hb; simp only [bL] at hb; rw [Aj] at hb; exact f3 b hb
 have FY:∀b,bL G' nx (κ' nx) b→aQ (fun r=>aB G.H i ver ep (p++r)) c b:=fun b hb=>by
  rw [h2] at hb; simp only [bL] at hb; rw [ON] at hb; exact hb
 refine ⟨G',hle,rfl,rfl,fun r=>congrFun ON r,h.pI (C:=fun j=>j=i ∨ j=nx) ⟨hle,fun _ _=>rfl,fun j hj=>h3 j (fun e=>hj (.inl e)) (fun e=>hj (.inr e)),fun j hj=>⟨fun _ q=>q,fun v e q x hq=>?_⟩,fun _ _ _=>⟨rfl,rfl⟩,h.fit.sub,?_,?_,?_,Nat.le_refl _,rfl,rfl,rfl⟩ (fun _ _=>rfl)⟩
 ·rw [EJ j (fun e=>hj (.inl e)) (fun e=>hj (.inr e))] at hq; exact hq
 ·rintro j (rfl | rfl)
  ·rw [h1]
   refine ⟨by rw [Aj]; exact f1,by rw [Aj]; exact f2,fun v hv e q=>?_,fun e he q=>?_⟩
   ·rw [Vz]; show (if v=ver∧_ then _ else _)=_; rw [if_neg (by omega)]; exact FW v hv e q
   ·rw [Vz]; show (if ver=ver∧e=ep+1∧q ≠ [] then _ else _)=_; rw [if_neg (by omega)]; exact fe e (by omega) q
  ·rw [h2]
   refine ⟨by rw [ON]; exact ht.sub hp hc,by rw [ON]; exact dB.sub hp,fun v hv e q=>?_,fun e he q=>?_⟩
   ·rw [OM]; show (if v=0∧e=0 then _ else _)=_; rw [if_neg (by omega)]
   ·rw [OM]; show (if 0=0∧e=0 then _ else _)=_; rw [if_neg (by omega)]
 ·rintro j b (rfl | rfl) hb
  ·have cL:=(FX b hb).1
   have:bL G j (κ j) b:=by rw [hi]; exact cL
   exact ⟨.inr ⟨j,.inl rfl,this⟩,h.fit.own j b this⟩
  ·have cL:=(FY b hb).sub hp
   have:bL G i (κ i) b:=by rw [hi]; exact cL
   exact ⟨.inr ⟨i,.inl rfl,this⟩,h.fit.own i b this⟩
 ·rintro j j' b (rfl | rfl) (rfl | rfl) hb cL
  ·rfl
  ·exact absurd (FY b cL) (FX b hb).2
  ·exact absurd (FY b hb) (FX b cL).2
  ·rfl
end
end Go.TM
