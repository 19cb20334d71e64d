import Derived.Test.YtpbdohkbiklflaaGreatDoorWM5
set_option linter.unusedVariables false
set_option linter.unusedSimpArgs false
set_option linter.unusedSectionVars false
namespace Go.TM
open Go.RowKit
variable [ct]
theorem n9 {i j sz:Nat} (hj:j<sz):(i * sz+j) / sz=i∧(i * sz+j) % sz=j:=by
 have eU:0<sz:=by omega
 constructor
 ·rw [Nat.mul_comm,Nat.mul_add_div eU,Nat.div_eq_of_lt hj]; omega
 ·rw [Nat.mul_comm,Nat.mul_add_mod,Nat.mod_eq_of_lt hj]
theorem pE {i j n sz:Nat} (hi:i<n) (hj:j<sz):i * sz+j<n * sz:=by
 have:(i+1) * sz≤n * sz:=Nat.mul_le_mul_right _ hi
 rw [Nat.add_mul] at this
 omega
def og (w:World) (v:Value) (sz:Nat) (l:List DV) (R:Nat→Nat→DV→Value→Prop):Prop :=
 (l=[]∧v=.slice none 0 0) ∨
 ∃g o cap c t,v=.slice (some ⟨g,o,none⟩) l.length cap∧l.length≤cap∧w.heap[g]?=some (.cells c t (0,0))∧o+cap * sz≤c.size ∧
  ∀(i:Nat) (x:DV),l[i]?=some x→x.cells.length=sz∧∀(j:Nat) (d:DV),x.cells[j]?=some d→d.ak=true∧∃u,c[o+i * sz+j]?=some u∧R i j d u
theorem jN {M:Mem} {w:World} {v:Value} {hc:PS→Option Value} {sz:Nat} {l:List DV}:bW M w v hc (.ax sz l) ↔ og w v sz l fun i j d u=>da M (hc (.el i j)) d u:=Iff.rfl
def oh (w:World) (v:Value) (sz:Nat) (l:List DV) (S:Nat→Nat→DV→Value→Prop):Prop :=
 (∃c,v=.slice none 0 c∧l=[]) ∨
 ∃(A:Addr) (cap:Nat) (cell:Nat→Nat→Value),v=.slice (some A) l.length cap∧∀(i:Nat) (x:DV),l[i]?=some x→x.cells.length=sz ∧
  ∀(j:Nat) (d:DV),x.cells[j]?=some d→d.ak=true∧w.cell? (A.add (i * sz+j))=some (cell i j)∧(cell i j).oneCell'=true∧S i j d (cell i j)
section
variable {w:World}
theorem oh.SH {M:Mem} {sz:Nat} {l:List DV} {v:Value} (ei:M.In w) (h:bj M (.sl sz l) v):oh w v sz l fun _ _ d u=>bj M d u:=by
 cases h with
 | slnil=>exact .inl ⟨0,rfl,rfl⟩
 | sl _ _ A cap cell eh hlen hc hr =>
  refine .inr ⟨A,cap,cell,rfl,fun i x hx=>?_⟩
  have hm:=hlen x (List.mem_of_getElem? hx)
  refine ⟨hm.1,fun j d hd=>⟨hm.2 d (List.mem_of_getElem? hd),ei.cell (hc i j (List.getElem?_eq_some_iff.1 hx).1 ?_),(hr i x j d hx hd).cI (hm.2 d (List.mem_of_getElem? hd)),hr i x j d hx hd⟩⟩
  rw [←hm.1]; exact (List.getElem?_eq_some_iff.1 hd).1
theorem oh.Lc {sz:Nat} {l:List DV} {v:Value} {R:Nat→Nat→DV→Value→Prop} (h:og w v sz l R) (h1:∀i j d u,R i j d u→d.ak=true→u.oneCell'=true):oh w v sz l R:=by
 rcases h with ⟨rfl,rfl⟩ | ⟨g,o,cap,c,t,rfl,eh,hw,aT,C3⟩
 ·exact .inl ⟨0,rfl,rfl⟩
 ·refine .inr ⟨⟨g,o,none⟩,cap,fun i j=>c.getD (o+i * sz+j) undef,rfl,fun i x hx=>?_⟩
  obtain ⟨a1,a2⟩:=C3 i x hx
  refine ⟨a1,fun j d hd=>?_⟩
  obtain ⟨b1,u,hu,hr⟩:=a2 j d hd
  have e:c.getD (o+i * sz+j) undef=u:=by rw [Array.getD_eq_getD_getElem?,hu]; rfl
  refine ⟨b1,?_,?_,?_⟩
  ·rw [cD]
   simp only [World.cell?,hw]
   rw [show o+(i * sz+j)=o+i * sz+j by omega,e]
   simpa using hu
  ·show (c.getD (o+i * sz+j) undef).oneCell'=true
   rw [e]; exact h1 i j d u hr b1
  ·show R i j d (c.getD (o+i * sz+j) undef)
   rw [e]; exact hr
theorem oh.mono {sz:Nat} {l l':List DV} {v:Value} {S S':Nat→Nat→DV→Value→Prop} (h:oh w v sz l S) (hl:l.length=l'.length)
  (hx:∀(i:Nat) (x y:DV),l[i]?=some x→l'[i]?=some y→x.cells.length=y.cells.length∧∀(j:Nat) (d e:DV) (u:Value),x.cells[j]?=some d→y.cells[j]?=some e→d.ak=true→S i j d u→e.ak=true∧S' i j e u):oh w v sz l' S':=by
 rcases h with ⟨c,rfl,rfl⟩ | ⟨A,cap,cell,rfl,hh⟩
 ·exact .inl ⟨c,rfl,by simpa using hl.symm⟩
 ·refine .inr ⟨A,cap,cell,by rw [hl],fun i y hy=>?_⟩
  have hi:i<l.length:=by rw [hl]; exact (List.getElem?_eq_some_iff.1 hy).1
  obtain ⟨a1,a2⟩:=hh i _ (List.getElem?_eq_getElem hi)
  obtain ⟨b1,b2⟩:=hx i _ y (List.getElem?_eq_getElem hi) hy
  refine ⟨by omega,fun j e he=>?_⟩
  have hj:j<l[i].cells.length:=by have:=(List.getElem?_eq_some_iff.1 he).1; omega
  obtain ⟨c1,c2,c3,c4⟩:=a2 j _ (List.getElem?_eq_getElem hj)
  obtain ⟨d1,d2⟩:=b2 j _ e _ (List.getElem?_eq_getElem hj) he c1 c4
  exact ⟨d1,c2,c3,d2⟩
def fD (sz n:Nat) (cell:Nat→Nat→Value):List Value:=(List.range (n * sz)).map fun q=>cell (q / sz) (q % sz)
theorem xx (sz n:Nat) (cell:Nat→Nat→Value):(fD sz n cell).length=n * sz:=by simp [fD]
theorem yL {sz n i j:Nat} (cell:Nat→Nat→Value) (hi:i<n) (hj:j<sz):(fD sz n cell)[i * sz+j]?=some (cell i j):=by
 have h:=pE hi hj
 obtain ⟨h1,h2⟩:=n9 (i:=i) hj
 simp [fD,h,h1,h2]
theorem gO {P:Program} (t ty e:TypeId) (i:TypeInfo) (ht:P.underlying t=some (.slice e)) (hi:P.info? e=some i)
  (g o tB Hq:Nat) (cur:Array Value) (tt:TypeId) (hg:w.heap[g]?=some (.cells cur tt (0,0)))
  (a:Addr) (m c:Nat) (news:List Value) (hl:news.length=m * i.size) (yM:∀j u,news[j]?=some u→w.cell? (a.add j)=some u) (h1:∀u∈news,u.oneCell'=true)
  (vY:tB+m≤Hq) (cB:o+tB * i.size+news.length≤cur.size) :
  (Builtin.append_ #[t,t] ty #[.slice (some ⟨g,o,none⟩) tB Hq,.slice (some a) m c]).run P w =
   .ok (.slice (some ⟨g,o,none⟩) (tB+m) Hq) (w.setRow g (cur.toList.take (o+tB * i.size)++news++cur.toList.drop (o+tB * i.size+news.length)).toArray):=by
 have hf:=run_firstCells_some (P:=P) w i.size m a m c news hl yM
 have aj:=run_storeCells_at P g (o+tB * i.size) tt news 0 cur w hg (by simpa using cB) h1
 simp only [Nat.add_zero] at aj
 simp [Builtin.append_,run_underlying ht,sizeOf,typeInfo,hi,Builtin.lenOf,vY,hf,cD,aj]
def kL (n:Nat) (R S:Nat→Nat→DV→Value→Prop):Nat→Nat→DV→Value→Prop:=fun i j d u=>if i<n then R i j d u else S (i - n) j d u
def Gz (w:World) (v v':Value) (w':World) (zs:List DV):Prop:=∀a n,v=.slice (some a) n n→zs ≠ []→(∀b,b<w.heap.size→w'.heap[b]?=w.heap[b]?)∧∀b,fh v'=some b→w.heap.size≤b
set_option maxHeartbeats 1000000 in
theorem pg {P:Program} {t ty e:TypeId} {ti:TypeInfo} {z:Value} (ht:P.underlying t=some (.slice e)) (hi:P.info? e=some ti) (hz:ti.zero=some z) (np:z.cells.size=ti.size) (eU:0<ti.size)
  {v sv:Value} {xs zs:List DV} {R S:Nat→Nat→DV→Value→Prop} (ie:og w v ti.size xs R) (gA:oh w sv ti.size zs S)
  (E5:xs.length+zs.length≤9223372036854775807) (yg:(xs.length+zs.length) * ti.bytes≤140737488355328) :
  ∃v' w',(Builtin.append_ #[t,t] ty #[v,sv]).run P w=.ok v' w'∧og w' v' ti.size (xs++zs) (kL xs.length R S)∧w.grownBy w' (fh v)∧(∀b,fh v'=some b→w.heap.size≤b ∨ fh v=some b)∧v'.oneCell'=true∧Gz w v v' w' zs:=by
 have pO:v.oneCell'=true:=by rcases ie with ⟨_,rfl⟩ | ⟨_,_,_,_,_,rfl,_⟩ <;> rfl
 have Ld:∀{c:Array Value} {o:Nat},(∀(i:Nat) (x:DV),xs[i]?=some x→x.cells.length=ti.size∧∀(j:Nat) (d:DV),x.cells[j]?=some d→d.ak=true∧∃u,c[o+i * ti.size+j]?=some u∧R i j d u) →
   ∀(i:Nat) (x:DV),xs[i]?=some x→x.cells.length=ti.size∧∀(j:Nat) (d:DV),x.cells[j]?=some d→d.ak=true∧∃u,c[o+i * ti.size+j]?=some u∧kL xs.length R S i j d u:=by
  intro c o hh i x hx
  obtain ⟨a1,a2⟩:=hh i x hx
  refine ⟨a1,fun j d hd=>?_⟩
  obtain ⟨b1,u,b2,b3⟩:=a2 j d hd
  refine ⟨b1,u,b2,?_⟩
  unfold kL
  rw [if_pos (List.getElem?_eq_some_iff.1 hx).1]; exact b3
 have mj:zs=[]→(Builtin.append_ #[t,t] ty #[v,sv]).run P w=.ok v w→∃v' w',(Builtin.append_ #[t,t] ty #[v,sv]).run P w=.ok v' w'∧og w' v' ti.size (xs++zs) (kL xs.length R S)∧w.grownBy w' (fh v)∧(∀b,fh v'=some b→w.heap.size≤b ∨ fh v=some b)∧v'.oneCell'=true∧Gz w v v' w' zs:=by
  rintro rfl hr
  refine ⟨v,w,hr,?_,World.grownBy.refl w _,fun b hb=>.inr hb,pO,fun _ _ _ h=>absurd rfl h⟩
  rw [List.append_nil]
  rcases ie with h | ⟨g,o,cap,cc,tt,hv,eh,hw,aT,C3⟩
  ·exact .inl h
  ·exact .inr ⟨g,o,cap,cc,tt,hv,eh,hw,aT,Ld C3⟩
 rcases gA with ⟨c,rfl,mF⟩ | ⟨A,Qk,cell,rfl,cT⟩
 ·refine mj mF ?_
  rcases ie with ⟨_,rfl⟩ | ⟨g,o,cap,cc,tt,rfl,eh,hw,aT,C3⟩
  ·simp [Builtin.append_,run_underlying ht,sizeOf,typeInfo,hi,Builtin.lenOf,Builtin.firstCells]
  ·simp [Builtin.append_,run_underlying ht,sizeOf,typeInfo,hi,Builtin.lenOf,Builtin.firstCells,eh,storeCells]
 ·obtain ⟨m,QT⟩:∃m,m=zs.length:=⟨_,rfl⟩
  rw [←QT] at E5 yg mj ⊢
  have hlen:(fD ti.size m cell).length=m * ti.size:=xx _ _ _
  have hq:∀q,q<m * ti.size→q / ti.size<m∧q % ti.size<ti.size∧q=q / ti.size * ti.size+q % ti.size:=fun q hq =>
   ⟨(Nat.div_lt_iff_lt_mul eU).2 hq,Nat.mod_lt _ eU,by have:=Nat.div_add_mod q ti.size; rw [Nat.mul_comm] at this; exact this.symm⟩
  have yM:∀j u,(fD ti.size m cell)[j]?=some u→w.cell? (A.add j)=some u:=by
   intro q u hu
   have aJ:q<m * ti.size:=by rw [←hlen]; exact (List.getElem?_eq_some_iff.1 hu).1
   obtain ⟨h1,h2,h3⟩:=hq q aJ
   obtain ⟨D8,Vn⟩:=cT (q / ti.size) (zs[q / ti.size]'(by omega)) (List.getElem?_eq_getElem (by omega))
   have:=(Vn (q % ti.size) _ (List.getElem?_eq_getElem (by rw [D8]; exact h2))).2.1
   rw [h3] at hu ⊢
   rw [yL cell h1 h2] at hu
   rw [this]; exact hu
  have tA:∀u,u∈fD ti.size m cell→u.oneCell'=true:=by
   intro u hu
   obtain ⟨q,Dc,rfl⟩:=List.getElem_of_mem hu
   have aJ:q<m * ti.size:=by rw [←hlen]; exact Dc
   obtain ⟨h1,h2,h3⟩:=hq q aJ
   obtain ⟨D8,Vn⟩:=cT (q / ti.size) (zs[q / ti.size]'(by omega)) (List.getElem?_eq_getElem (by omega))
   have hj:q % ti.size<(zs[q / ti.size]'(by omega)).cells.length:=by rw [D8]; exact h2
   have:=(Vn (q % ti.size) _ (List.getElem?_eq_getElem hj)).2.2.1
   have he:(fD ti.size m cell)[q]=cell (q / ti.size) (q % ti.size):=by simp [fD]
   rw [he]; exact this
  have reads:∀(c':Array Value) (o':Nat),
    (∀(i:Nat) (x:DV),xs[i]?=some x→x.cells.length=ti.size∧∀(j:Nat) (d:DV),x.cells[j]?=some d→d.ak=true∧∃u,c'[o'+i * ti.size+j]?=some u∧R i j d u) →
    (∀q,q<m * ti.size→c'[o'+xs.length * ti.size+q]?=(fD ti.size m cell)[q]?) →
    ∀(i:Nat) (x:DV),(xs++zs)[i]?=some x→x.cells.length=ti.size∧∀(j:Nat) (d:DV),x.cells[j]?=some d→d.ak=true∧∃u,c'[o'+i * ti.size+j]?=some u∧kL xs.length R S i j d u:=by
   intro c' o' hold iM i x hx
   rw [List.getElem?_append] at hx
   split at hx
   ·exact Ld hold i x hx
   ·rename_i du
    obtain ⟨h1,h3⟩:=cT _ x hx
    have aJ:i - xs.length<m:=by rw [QT]; exact (List.getElem?_eq_some_iff.1 hx).1
    refine ⟨h1,fun j d hd=>?_⟩
    have hj:j<ti.size:=by rw [←h1]; exact (List.getElem?_eq_some_iff.1 hd).1
    obtain ⟨k1,k2,k3,k4⟩:=h3 j d hd
    refine ⟨k1,cell (i - xs.length) j,?_,by unfold kL; rw [if_neg du]; exact k4⟩
    have:=iM ((i - xs.length) * ti.size+j) (pE aJ hj)
    rw [yL cell aJ hj] at this
    rw [←this]
    congr 1
    have:i * ti.size=xs.length * ti.size+(i - xs.length) * ti.size:=by rw [←Nat.add_mul]; congr 1; omega
    omega
  by_cases GQ:m=0
  ·have Vo:zs=[]:=List.eq_nil_of_length_eq_zero (by omega)
   subst GQ
   clear reads tA yM hq hlen cT
   refine mj Vo ?_
   clear mj Ld
   rcases ie with ⟨_,rfl⟩ | ⟨g,o,cap,cc,tt,rfl,eh,hw,aT,C3⟩
   ·simp [Builtin.append_,run_underlying ht,sizeOf,typeInfo,hi,Builtin.lenOf,Builtin.firstCells,loadCells,loadCellsFrom]
   ·simp [Builtin.append_,run_underlying ht,sizeOf,typeInfo,hi,Builtin.lenOf,Builtin.firstCells,eh,storeCells,loadCells,loadCellsFrom]
  ·have Lf:∀(Nv:List Value) (cp:Nat),Nv.length=xs.length * ti.size→xs.length+m≤cp→(∀(i:Nat) (x:DV),xs[i]?=some x→x.cells.length=ti.size∧∀(j:Nat) (d:DV),x.cells[j]?=some d→d.ak=true∧∃u,Nv[i * ti.size+j]?=some u∧R i j d u) →
       og (w.drew.alloc (.cells (Nv.toArray++(fD ti.size m cell).toArray++Builtin.zeroCells z.cells (cp - (xs.length+m))) e)) (.slice (some ⟨w.heap.size,0,none⟩) (xs.length+m) cp) ti.size (xs++zs) (kL xs.length R S):=by
    intro Nv cp TD Yl hold
    refine .inr ⟨w.heap.size,0,cp,_,e,by simp [QT],by simpa [QT] using Yl,cg w.drew _,?_,reads _ 0 ?_ ?_⟩
    ·simp only [Array.size_append,List.size_toArray,size_zeroCells,np,TD,hlen,←Nat.add_mul,Nat.zero_add]
     refine Nat.mul_le_mul_right _ ?_
     omega
    ·intro i x hx
     obtain ⟨h1,h3⟩:=hold i x hx
     refine ⟨h1,fun j d hd=>?_⟩
     obtain ⟨k1,u,hu,hr⟩:=h3 j d hd
     refine ⟨k1,u,?_,hr⟩
     have aJ:=(List.getElem?_eq_some_iff.1 hu).1
     rw [Nat.zero_add,Array.getElem?_append,if_pos (by simp; omega),Array.getElem?_append,if_pos (by simpa using aJ)]
     simpa using hu
    ·intro q Dc
     rw [Nat.zero_add,Array.getElem?_append,if_pos (by simp [hlen,TD]; omega),Array.getElem?_append,if_neg (by simp [TD])]
     simp [TD]
   rcases ie with ⟨rfl,rfl⟩ | ⟨g,o,cap,cc,tt,rfl,eh,hw,aT,C3⟩
   ·have hr:=run_append_nil (P:=P) w t ty e ti z ht hi hz A m Qk (fD ti.size m cell) hlen yM (by omega) (by simp at E5; omega) (by simp at yg; omega)
    have hg:=Lf [] (grownCap w m 0 e) (by simp) (by simpa using grownCap_ge w m 0 e) (by simp)
    simp only [List.length_nil,Nat.zero_add,Array.empty_append] at hg
    refine ⟨_,_,hr,by simpa using hg,⟨rfl,rfl,rfl,by simp,fun q hq _=>aU w.drew _ hq⟩,fun b hb=>?_,rfl,fun _ _ e=>by cases e⟩
    simp [fh] at hb; exact .inl (by omega)
   ·by_cases vY:xs.length+m≤cap
    ·have cB:o+xs.length * ti.size+(fD ti.size m cell).length≤cc.size:=by
      rw [hlen]
      have:(xs.length+m) * ti.size≤cap * ti.size:=Nat.mul_le_mul_right _ vY
      rw [Nat.add_mul] at this
      omega
     have hr:=gO (P:=P) t ty e ti ht hi g o xs.length cap cc tt hw A m Qk (fD ti.size m cell) hlen yM tA vY cB
     refine ⟨_,_,hr,.inr ⟨g,o,cap,_,tt,by simp [QT],by simpa [QT] using vY,setRow_heap w g cc _ tt _ hw,?_,reads _ o ?_ ?_⟩,⟨rfl,rfl,rfl,by simp,fun q _ hq=>setRow_other w g q _ (fun x=>hq (by simp [fh,x]))⟩,fun b hb=>.inr hb,rfl,fun a n e hz=>?_⟩
     ·simp only [List.size_toArray,List.length_append,List.length_take,List.length_drop,Array.length_toList]
      omega
     ·intro i x hx
      obtain ⟨h1,h3⟩:=C3 i x hx
      refine ⟨h1,fun j d hd=>?_⟩
      obtain ⟨k1,u,hu,hr⟩:=h3 j d hd
      refine ⟨k1,u,?_,hr⟩
      have hj:j<ti.size:=by rw [←h1]; exact (List.getElem?_eq_some_iff.1 hd).1
      have Kk:=pE (List.getElem?_eq_some_iff.1 hx).1 hj
      have OA:o+i * ti.size+j<cc.size:=(Array.getElem?_eq_some_iff.1 hu).1
      simp only [List.getElem?_toArray,List.append_assoc]
      rw [List.getElem?_append_left (by simp; omega),List.getElem?_take,if_pos (by omega)]
      simpa using hu
     ·intro q Dc
      simp only [List.getElem?_toArray,List.append_assoc]
      rw [List.getElem?_append_right (by simp; omega),List.getElem?_append_left (by simp; omega)]
      congr 1
      simp; omega
     ·exfalso
      simp only [Value.slice.injEq] at e
      have:zs.length ≠ 0:=fun h=>hz (List.eq_nil_of_length_eq_zero h)
      omega
    ·have holds:∀j u,((List.range (xs.length * ti.size)).map fun q=>cc.getD (o+q) undef)[j]?=some u→w.cell? ((⟨g,o,none⟩:Addr).add j)=some u:=by
      intro j u hj
      simp only [List.getElem?_map] at hj
      by_cases aJ:j<xs.length * ti.size
      ·simp only [List.getElem?_range aJ,Option.map_some] at hj
       injection hj with hj
       have fX:o+j<cc.size:=by
        have:xs.length * ti.size≤cap * ti.size:=Nat.mul_le_mul_right _ eh
        omega
       rw [cD]
       simp only [World.cell?,hw]
       rw [←hj]
       simp [fX]
      ·simp [aJ] at hj
     have hr:=run_append_grow (P:=P) w t ty e ti z ht hi hz ⟨g,o,none⟩ xs.length cap ((List.range (xs.length * ti.size)).map fun q=>cc.getD (o+q) undef) (by simp) holds A m Qk (fD ti.size m cell) hlen yM (by omega) (by omega) (growslice_fits (by omega) yg)
     have hg:=Lf ((List.range (xs.length * ti.size)).map fun q=>cc.getD (o+q) undef) (grownCap w (xs.length+m) cap e) (by simp) (grownCap_ge w (xs.length+m) cap e) (by
      intro i x hx
      obtain ⟨h1,h3⟩:=C3 i x hx
      refine ⟨h1,fun j d hd=>?_⟩
      obtain ⟨k1,u,hu,hr⟩:=h3 j d hd
      have hj:j<ti.size:=by rw [←h1]; exact (List.getElem?_eq_some_iff.1 hd).1
      have Kk:=pE (List.getElem?_eq_some_iff.1 hx).1 hj
      refine ⟨k1,u,?_,hr⟩
      simp only [List.getElem?_map,List.getElem?_range Kk,Option.map_some]
      rw [show o+(i * ti.size+j)=o+i * ti.size+j by omega,Array.getD_eq_getD_getElem?,hu]
      rfl)
     refine ⟨_,_,hr,hg,⟨rfl,rfl,rfl,by simp,fun q hq _=>aU w.drew _ hq⟩,fun b hb=>?_,rfl,fun _ _ _ _=>⟨fun b hb=>aU w.drew _ hb,fun b hb=>?_⟩⟩
     ·simp [fh] at hb; exact .inl (by omega)
     ·simp [fh] at hb; omega
end
end Go.TM
namespace Go.TM
open Go.RowKit
variable [ct]
section
variable {w w':World}
theorem aS.sub {M:Mem} {h:List PS→Option Value} {d c:DV} {p:List PS} (ht:aS M w h d) (hp:get d p=some c) (hc:c.af=true):aS M w (fun r=>h (p++r)) c:=by
 refine ⟨hc,fun q m hq hm=>?_⟩
 obtain ⟨v,h1,h2,h3⟩:=ht.2 (p++q) m (by rw [get_append,hp]; exact hq) hm
 exact ⟨v,h1,h2,by simpa only [List.append_assoc] using h3⟩
theorem fc.sub {h:List PS→Option Value} {d c:DV} {p:List PS} (hi:fc h d) (hp:get d p=some c):fc (fun r=>h (p++r)) c:=by
 intro q q' n m u v b e1 e2 e3 e4 f1 f2 f3 f4
 have:=hi (p++q) (p++q') n m u v b (by rw [get_append,hp]; exact e1) e2 e3 e4 (by rw [get_append,hp]; exact f1) f2 f3 f4
 exact List.append_cancel_left this
theorem aN.sub {h:List PS→Option Value} {d c:DV} {p:List PS} {b:Nat} (hp:get d p=some c) (ho:aN (fun r=>h (p++r)) c b):aN h d b:=by
 obtain ⟨q,m,v,h1,h2,h3,h4⟩:=ho
 exact ⟨p++q,m,v,by rw [get_append,hp]; exact h1,h2,h3,h4⟩
theorem fc.fO {h h':List PS→Option Value} {d:DV} (hi:fc h d) (hh:∀p n v,get d p=some n→n.af=true→h' p=some v→h p=some v):fc h' d :=
 fun p q n m u v b e1 e2 e3 e4 f1 f2 f3 f4=>hi p q n m u v b e1 e2 (hh p n u e1 e2 e3) e4 f1 f2 (hh q m v f1 f2 f3) f4
def GC:List PS→Option Value
 | []=>some (.slice none 0 0)
 | _=>none
theorem ug {sz:Nat} {p:List PS} {m:DV} (h:get (.ax sz []) p=some m):p=[]∧m=.ax sz []:=by
 cases p with
 | nil=>simp [get] at h; exact ⟨rfl,h.symm⟩
 | cons s p=>cases s <;> simp [get,step] at h
theorem uv (M:Mem) (w:World) (sz:Nat):aS M w GC (.ax sz []):=by
 refine ⟨rfl,fun p m hp _=>?_⟩
 obtain ⟨rfl,rfl⟩:=ug hp
 exact ⟨_,rfl,rfl,.inl ⟨rfl,rfl⟩⟩
theorem yU (sz:Nat):fc GC (.ax sz []):=by
 intro p q n m u v b e1 _ _ _ f1 _ _ _
 rw [(ug e1).1,(ug f1).1]
theorem iO {sz b:Nat} (h:aN GC (.ax sz []) b):False:=by
 obtain ⟨p,m,v,h1,_,h3,h4⟩:=h
 obtain ⟨rfl,rfl⟩:=ug h1
 simp [GC] at h3
 subst h3
 simp [fh] at h4
def qT (n:Nat) (v:Value) (h hs:List PS→Option Value):List PS→Option Value
 | []=>some v
 | .el i j::r=>if i<n then h (.el i j::r) else hs (.el (i - n) j::r)
 | s::r=>h (s::r)
inductive Src (M:Mem) (w:World) (x:Value) (sz:Nat) (ys:List DV) (hs:List PS→Option Value):Prop
 | closed (h:oh w x sz ys fun _ _ d u=>d.af=false∧bj M d u) (hn:hs=fun _=>none)
 | tree (ht:aS M w hs (.ax sz ys)) (hi:fc hs (.ax sz ys)) (hx:hs []=some x)
theorem da.cI {M:Mem} {h:Option Value} {d:DV} {u:Value} (r:da M h d u) (hc:d.ak=true) (ho:d.af=true→∀v,h=some v→v.oneCell'=true):u.oneCell'=true:=by
 rcases r with ⟨a,b⟩ | ⟨a,b⟩
 ·exact ho a u b
 ·exact b.cI hc
theorem aS.Lg {M:Mem} {h:List PS→Option Value} {d c:DV} {s:PS} (ht:aS M w h d) (hs:step d s=some c) (hc:c.af=true) {v:Value} (hv:h [s]=some v):v.oneCell'=true:=by
 obtain ⟨u,h1,h2,_⟩:=ht.2 [s] c (by simp [get,hs]) hc
 rw [h1] at hv; injection hv with hv; subst hv; exact h2
theorem Src.Oy {M:Mem} {x:Value} {sz:Nat} {ys:List DV} {hs:List PS→Option Value} (h:Src M w x sz ys hs):oh w x sz ys fun i j d u=>d.ak=true∧da M (hs [.el i j]) d u:=by
 cases h with
 | closed h hn =>
  refine h.mono rfl fun i x' y hx hy=>?_
  rw [hx] at hy; injection hy with hy; subst hy
  refine ⟨rfl,fun j d e u hd he Dd hS=>?_⟩
  rw [hd] at he; injection he with he; subst he
  exact ⟨Dd,Dd,.inr hS⟩
 | tree ht hi hx =>
  obtain ⟨v,h1,h2,h3⟩:=ht.2 [] _ rfl rfl
  rw [hx] at h1; injection h1 with h1; subst h1
  have h4:og w x sz ys fun i j d u=>d.ak=true∧step (.ax sz ys) (.el i j)=some d∧da M (hs [.el i j]) d u:=by
   rcases jN.1 h3 with h3 | ⟨g,o,cap,c,t,a1,a2,a3,a4,a5⟩
   ·exact .inl h3
   ·refine .inr ⟨g,o,cap,c,t,a1,a2,a3,a4,fun i y hy=>⟨(a5 i y hy).1,fun j d hd=>?_⟩⟩
    obtain ⟨b1,u,b2,b3⟩:=(a5 i y hy).2 j d hd
    exact ⟨b1,u,b2,b1,by simp only [step,hy]; exact hd,b3⟩
  refine (oh.Lc h4 fun i j d u hr _=>?_).mono rfl fun i x' y hx hy=>?_
  ·exact hr.2.2.cI hr.1 fun ho v hv=>ht.Lg hr.2.1 ho hv
  ·rw [hx] at hy; injection hy with hy; subst hy
   refine ⟨rfl,fun j d e u hd he Dd hS=>?_⟩
   rw [hd] at he; injection he with he; subst he
   exact ⟨Dd,hS.1,hS.2.2⟩
theorem kl.length:∀{l r:List DV},kl l r→l.length=r.length
 | [],[],_=>rfl
 | _::_,_::_,h=>by simp [kl.length h.2]
 | [],_::_,h=>h.elim
 | _::_,[],h=>h.elim
theorem kl.at:∀{l r:List DV},kl l r→∀(j:Nat) (d e:DV),l[j]?=some d→r[j]?=some e→(d.af=true∧d=e) ∨ (d.af=false∧d.Le e)
 | [],[],_,j,d,e,h,_=>by simp at h
 | a::l,b::r,h,0,d,e,e1,e2=>by
  simp at e1 e2; subst e1; subst e2
  have:=h.1
  cases ho:a.af with
  | true=>rw [ho] at this; exact .inl ⟨rfl,this⟩
  | false=>rw [ho] at this; exact .inr ⟨rfl,this⟩
 | a::l,b::r,h,j+1,d,e,e1,e2=>by simp at e1 e2; exact kl.at h.2 j d e e1 e2
 | [],_::_,h,_,_,_,_,_=>h.elim
 | _::_,[],h,_,_,_,_,_=>h.elim
theorem eJ.length:∀{l r:List DV},eJ l r→l.length=r.length
 | [],[],_=>rfl
 | _::_,_::_,h=>by simp [eJ.length h.2]
 | [],_::_,h=>h.elim
 | _::_,[],h=>h.elim
theorem eJ.at:∀{l r:List DV},eJ l r→∀(i:Nat) (x y:DV),l[i]?=some x→r[i]?=some y→kl x.cells y.cells
 | [],[],_,j,d,e,h,_=>by simp at h
 | a::l,b::r,h,0,d,e,e1,e2=>by simp at e1 e2; subst e1; subst e2; exact h.1
 | a::l,b::r,h,j+1,d,e,e1,e2=>by simp at e1 e2; exact eJ.at h.2 j d e e1 e2
 | [],_::_,h,_,_,_,_,_=>h.elim
 | _::_,[],h,_,_,_,_,_=>h.elim
theorem bj.ak {M:Mem} {d:DV} {v:Value} (h:bj M d v) (hv:v.oneCell'=true):d.ak=true:=by
 cases h with
 | agg=>simp [Value.oneCell'] at hv
 | _=>rfl
theorem da.le {M:Mem} {h:Option Value} {d e:DV} {u:Value} (r:da M h d u) (hle:(d.af=true∧d=e) ∨ (d.af=false∧d.Le e)) (hc:d.ak=true):e.ak=true∧da M h e u∧(e.af=true→d=e):=by
 rcases hle with ⟨h1,rfl⟩ | ⟨h1,h2⟩
 ·exact ⟨hc,r,fun _=>rfl⟩
 ·rcases r with ⟨a,b⟩ | ⟨a,b⟩
  ·rw [h1] at a; cases a
  ·have h3:=h2 M u b
   exact ⟨h3.ak (b.cI hc),.inr ⟨h3.dG,h3⟩,fun ho=>by rw [h3.dG] at ho; cases ho⟩
theorem CQ {P:Program} {T:List TI} (hT:ec P T) {t ty:TypeId} (bU:(nth T t).ok=true) (gY:(nth T t).isSl=true) (jO:(nth T (nth T t).elem).ok=true) (eU:0<(nth T (nth T t).elem).size)
  {M:Mem} {h hs:List PS→Option Value} {l ys zs:List DV} {v x:Value} (ht:aS M w h (.ax (nth T (nth T t).elem).size l)) (hi:fc h (.ax (nth T (nth T t).elem).size l)) (hv:h []=some v)
  (gA:Src M w x (nth T (nth T t).elem).size ys hs) (Ql:∀b,aN h (.ax (nth T (nth T t).elem).size l) b→¬ aN hs (.ax (nth T (nth T t).elem).size ys) b) (aJ:∀b,aN hs (.ax (nth T (nth T t).elem).size ys) b→b<w.heap.size) (hle:eJ ys zs)
  (E5:l.length+zs.length≤9223372036854775807) (yg:(l.length+zs.length) * (nth T (nth T t).elem).bytes≤140737488355328) :
  ∃v' w',(Builtin.append_ #[t,t] ty #[v,x]).run P w=.ok v' w'∧w.grownBy w' (fh v)∧v'.oneCell'=true∧aS M w' (qT l.length v' h hs) (.ax (nth T (nth T t).elem).size (l++zs))∧fc (qT l.length v' h hs) (.ax (nth T (nth T t).elem).size (l++zs)) ∧
   ∀b,aN (qT l.length v' h hs) (.ax (nth T (nth T t).elem).size (l++zs)) b→aN h (.ax (nth T (nth T t).elem).size l) b ∨ aN hs (.ax (nth T (nth T t).elem).size ys) b ∨ w.heap.size≤b:=by
 obtain ⟨i,u,z,tf⟩:=hT.facts bU
 obtain ⟨te,ue,ze,iu⟩:=hT.facts jO
 generalize aT:(nth T (nth T t).elem).size=sz at *
 have qU:te.size=sz:=by rw [←aT,iu.size]
 obtain ⟨v0,AI,pO,aX⟩:=ht.2 [] _ rfl rfl
 rw [hv] at AI; injection AI with AI; subst AI
 have ie:=jN.1 aX
 have Wx:=gA.Oy
 have Lh:oh w x sz zs fun i j d u=>d.ak=true∧da M (hs [.el i j]) d u:=by
  refine Wx.mono hle.length fun i x y hx hy=>?_
  have h1:=hle.at i x y hx hy
  refine ⟨h1.length,fun j d e u hd he Dd hS=>?_⟩
  obtain ⟨k1,k2,_⟩:=hS.2.le (h1.at j d e hd he) Dd
  exact ⟨k1,k1,k2⟩
 have wG:∀i j e,step (.ax sz zs) (.el i j)=some e→e.af=true→step (.ax sz ys) (.el i j)=some e:=by
  intro i j e he ho
  simp only [step] at he ⊢
  split at he
  ·rename_i y hy
   have wM:i<ys.length:=by rw [hle.length]; exact (List.getElem?_eq_some_iff.1 hy).1
   have hx:ys[i]?=some ys[i]:=List.getElem?_eq_getElem wM
   rw [hx]
   have h1:=hle.at i _ y hx hy
   have hj:j<ys[i].cells.length:=by rw [h1.length]; exact (List.getElem?_eq_some_iff.1 he).1
   have hd:ys[i].cells[j]?=some ys[i].cells[j]:=List.getElem?_eq_getElem hj
   simp only
   rcases h1.at j _ e hd he with ⟨a,b⟩ | ⟨a,b⟩
   ·rw [hd,b]
   ·-- a closed cell Vp Vq an af one: there is a value of it
    rcases Wx with ⟨c,_,mF⟩ | ⟨A,cap,cell,_,cT⟩
    ·rw [mF] at wM; simp at wM
    ·obtain ⟨_,h3⟩:=cT i _ hx
     obtain ⟨_,_,_,h4⟩:=h3 j _ hd
     rcases h4.2 with ⟨c1,_⟩ | ⟨_,c2⟩
     ·rw [a] at c1; cases c1
     ·rw [(b M _ c2).dG] at ho; cases ho
  ·cases he
 have SI:ze.cells.size=te.size:=by
  have:=(dU (M:=M) iu.zc).1.1
  simp at this
  rw [←this,iu.zl]
 obtain ⟨v',w',aZ,CR,kU,zV,Dj,_⟩:=pg (P:=P) (t:=t) (ty:=ty) (tf.slice gY) iu.info iu.zero SI (by rw [qU]; exact eU) (by rw [qU]; exact ie) (by rw [qU]; exact Lh) E5 (by rw [←iu.bytes]; exact yg)
 rw [qU] at CR
 refine ⟨v',w',aZ,kU,Dj,?_⟩
 have Li:∀b,b<w.heap.size→fh v ≠ some b→w'.heap[b]?=w.heap[b]?:=fun b hb bB=>kU.block b hb (fun e=>bB e.symm)
 have Qm:bW M w' v' (fun s=>qT l.length v' h hs ([]++[s])) (.ax sz (l++zs)):=by
  refine jN.2 ?_
  rcases CR with h1 | ⟨g,o,cap,c,tt,a1,a2,a3,a4,a5⟩
  ·exact .inl h1
  ·refine .inr ⟨g,o,cap,c,tt,a1,a2,a3,a4,fun i x hx=>⟨(a5 i x hx).1,fun j d hd=>?_⟩⟩
   obtain ⟨b1,u,b2,b3⟩:=(a5 i x hx).2 j d hd
   refine ⟨b1,u,b2,?_⟩
   unfold kL at b3
   simp only [List.nil_append,qT]
   split at b3
   ·rename_i fX; rw [if_pos fX]; exact b3
   ·rename_i fX; rw [if_neg fX]; exact b3.2
 have Qn:∀i j c,i<l.length→(step (.ax sz (l++zs)) (.el i j)=some c ↔ step (.ax sz l) (.el i j)=some c):=by
  intro i j c fX
  simp only [step]
  rw [List.getElem?_append_left fX]
 have E6:∀i j c,¬ i<l.length→step (.ax sz (l++zs)) (.el i j)=some c→step (.ax sz zs) (.el (i - l.length) j)=some c:=by
  intro i j c du hc
  simp only [step] at hc ⊢
  rw [List.getElem?_append_right (by omega)] at hc
  exact hc
 have el:∀s c,step (.ax sz (l++zs)) s=some c→∃i j,s=.el i j:=by
  intro s c dC
  cases s with
  | el i j=>exact ⟨i,j,rfl⟩
  | key=>simp [step] at dC
 have sub:∀i j c,¬ i<l.length→step (.ax sz (l++zs)) (.el i j)=some c→c.af=true→aS M w' (fun r=>hs (.el (i - l.length) j::r)) c∧fc (fun r=>hs (.el (i - l.length) j::r)) c∧∀b,aN (fun r=>hs (.el (i - l.length) j::r)) c b→aN hs (.ax sz ys) b:=by
  intro i j c du hc ho
  have h1:=wG _ _ _ (E6 i j c du hc) ho
  have hg:get (.ax sz ys) [.el (i - l.length) j]=some c:=by simp [get,h1]
  cases gA with
  | closed j7 hn =>
   exfalso
   rcases j7 with ⟨_,_,mF⟩ | ⟨A,cap,cell,_,cT⟩
   ·subst mF; simp [step] at h1
   ·simp only [step] at h1
    split at h1
    ·rename_i x hx
     obtain ⟨_,h3⟩:=cT _ x hx
     have:=(h3 j c h1).2.2.2.1
     rw [ho] at this; cases this
    ·cases h1
  | tree aj Vr Ym =>
   have t1:=aj.sub hg ho
   have t2:∀b,aN (fun r=>hs ([.el (i - l.length) j]++r)) c b→aN hs (.ax sz ys) b:=fun b hb=>hb.sub hg
   refine ⟨t1.fO (Mem.Le.refl _) (fun b hb=>Li b (aJ b (t2 b hb)) fun e=>?_) (fun _ _ _ _ _ q=>q),Vr.sub hg,t2⟩
   exact Ql b ⟨[],_,v,rfl,rfl,hv,e⟩ (t2 b hb)
 have main:=aS.oM (w:=w) (w':=w') (h':=qT l.length v' h hs) (p:=[]) (n:=.ax sz l) (n':=.ax sz (l++zs)) (v:=v) (v':=v') (fun s=>∃i j,s=.el i j∧¬ i<l.length) ht hi rfl rfl hv rfl rfl Dj (.inl rfl) Qm
  (fun q hq=>absurd (List.nil_prefix) hq)
  (fun s c dC ho hN=>by
   obtain ⟨i,j,rfl⟩:=el s c dC
   by_cases fX:i<l.length
   ·exact ⟨(Qn i j c fX).1 dC,fun r=>by simp only [List.nil_append,qT,if_pos fX]⟩
   ·exact absurd ⟨i,j,rfl,fX⟩ hN)
  (fun s c dC ho hN=>by
   obtain ⟨i,j,rfl,du⟩:=hN
   obtain ⟨t1,t2,t3⟩:=sub i j c du dC ho
   have e:(fun r=>qT l.length v' h hs ([]++.el i j::r))=fun r=>hs (.el (i - l.length) j::r):=by funext r; simp only [List.nil_append,qT,if_neg du]
   rw [e]
   refine ⟨t1,t2,fun b hb=>⟨fun gX=>Ql b gX (t3 b hb),fun cM=>?_⟩⟩
   rcases zV b cM with h5 | h5
   ·have:=aJ b (t3 b hb); omega
   ·exact Ql b ⟨[],_,v,rfl,rfl,hv,h5⟩ (t3 b hb))
  (fun s s' c c' b eT Ir Ke ot C2 My j9 cw=>by
   obtain ⟨i,j,rfl,du⟩:=Ke
   obtain ⟨i',j',rfl,SJ⟩:=My
   have e:∀i j,¬ i<l.length→(fun r=>qT l.length v' h hs ([]++.el i j::r))=fun r=>hs (.el (i - l.length) j::r):=fun i j du=>by funext r; simp only [List.nil_append,qT,if_neg du]
   rw [e i j du] at j9
   rw [e i' j' SJ] at cw
   have g1:=wG _ _ _ (E6 i j c du eT) Ir
   have g2:=wG _ _ _ (E6 i' j' c' SJ ot) C2
   cases gA with
   | closed j7 hn=>rw [hn] at j9; obtain ⟨_,_,_,_,_,q,_⟩:=j9; cases q
   | tree aj Vr Ym =>
    obtain ⟨q,m,u,a1,a2,a3,a4⟩:=j9
    obtain ⟨q',m',u',b1,b2,b3,b4⟩:=cw
    have:=Vr (.el (i - l.length) j::q) (.el (i' - l.length) j'::q') m m' u u' b (by simp only [get,g1]; exact a1) a2 a3 a4 (by simp only [get,g2]; exact b1) b2 b3 b4
    injection this with e1 e2
    injection e1 with e1 e3
    have:i=i':=by omega
    rw [this,e3])
  (fun b hb=>by
   rcases zV b hb with h5 | h5
   ·right; intro ho
    obtain ⟨p,m,u,a1,a2,a3,a4⟩:=ho
    obtain ⟨u',c1,_,c3⟩:=ht.2 p m a1 a2
    rw [a3] at c1; injection c1 with c1; subst c1
    have:=uo c3 a4; omega
   ·exact .inl h5)
  (fun b ho bB=>by
   obtain ⟨p,m,u,a1,a2,a3,a4⟩:=ho
   obtain ⟨u',c1,_,c3⟩:=ht.2 p m a1 a2
   rw [a3] at c1; injection c1 with c1; subst c1
   exact Li b (uo c3 a4) bB)
 obtain ⟨m1,m2,m3⟩:=main
 refine ⟨m1,m2,fun b hb=>?_⟩
 rcases m3 b hb with h1 | h1 | ⟨s,c,s1,s2,⟨i,j,rfl,du⟩,s4⟩
 ·exact .inl h1
 ·rcases zV b h1 with h5 | h5
  ·exact .inr (.inr h5)
  ·exact .inl ⟨[],_,v,rfl,rfl,hv,h5⟩
 ·have e:(fun r=>qT l.length v' h hs ([]++.el i j::r))=fun r=>hs (.el (i - l.length) j::r):=by funext r; simp only [List.nil_append,qT,if_neg du]
  rw [e] at s4
  exact .inr (.inl ((sub i j c du s1 s2).2.2 b s4))
end
end Go.TM
namespace Go.TM
open Go.RowKit
variable [ct]
theorem H5 {d nq n:DV} {q:List PS} {s:PS} {c:DV} (hq:get d q=some nq) (hs:step nq s=some c):bL d (q++[s]) n=bL d q (put nq s n):=by
 induction q generalizing d with
 | nil=>simp [get] at hq; subst hq; simp [bL,hs]
 | cons s' q ih =>
  simp only [get] at hq
  simp only [List.cons_append,bL]
  cases h1:step d s' with
  | none=>simp [h1] at hq
  | some c1=>rw [h1] at hq; simp only [ih hq]
theorem aS.lt {M:Mem} {w:World} {h:List PS→Option Value} {d:DV} (ht:aS M w h d) {b:Nat} (ho:aN h d b):b<w.heap.size:=by
 obtain ⟨p,m,u,a1,a2,a3,a4⟩:=ho
 obtain ⟨u',c1,_,c3⟩:=ht.2 p m a1 a2
 rw [a3] at c1; injection c1 with c1; subst c1
 exact uo c3 a4
theorem aS.forget {M:Mem} {w:World} {h:List PS→Option Value} {d c:DV} {p:List PS} (ht:aS M w h d) (hi:fc h d) (hp:get d p=some c) (hc:c.af=true) (bB:p ≠ []) :
  aS M w h (bL d p .any)∧fc h (bL d p .any)∧∀b,aN h (bL d p .any) b→aN h d b∧¬ aN (fun r=>h (p++r)) c b:=by
 have cS:∀(q:List PS) (x:DV),get d q=some x→q ≠ []→x.ak=true:=fun q x hx _=>ht.cells q x hx
 have mr:∀b,aN h (bL d p .any) b→aN h d b→¬ aN (fun r=>h (p++r)) c b:=by
  rintro b ⟨q,m,u,a1,a2,a3,a4⟩ _ ⟨r,m',u',b1,b2,b3,b4⟩
  by_cases gy:p <+: q
  ·obtain ⟨r',rfl⟩:=bF gy
   rw [fT hp rfl cS] at a1
   cases r' with
   | nil=>simp [get] at a1; subst a1; cases a2
   | cons s r'=>simp [get,step] at a1
  ·rw [fU rfl cS gy] at a1
   cases hx:get d q with
   | none=>rw [hx] at a1; cases a1
   | some x =>
    rw [hx] at a1
    simp only [Option.some.injEq] at a1
    have xg:x.af=true:=by
     by_cases hq:q <+: p
     ·rw [if_pos hq] at a1
      obtain ⟨r',rfl⟩:=bF hq
      cases r' with
      | nil=>exact absurd (by simp) gy
      | cons s r'=>simp only [List.drop_left] at a1; rw [←a1,dY] at a2; exact a2
     ·rw [if_neg hq] at a1; rw [a1]; exact a2
    have:=hi q (p++r) x m' u u' b hx xg a3 a4 (by rw [get_append,hp]; exact b1) b2 b3 b4
    exact gy ⟨r,this.symm⟩
 rcases List.eq_nil_or_concat p with rfl | ⟨q,s,rfl⟩
 ·exact absurd rfl bB
 ·rw [List.concat_eq_append] at hp mr ⊢
  rw [get_append] at hp
  cases hq:get d q with
  | none=>rw [hq] at hp; cases hp
  | some nq =>
   rw [hq] at hp
   simp only [get] at hp
   cases hs:step nq s with
   | none=>rw [hs] at hp; cases hp
   | some c0 =>
    rw [hs] at hp
    simp at hp
    subst hp
    have TE:=dZ hs
    obtain ⟨v,hv,pO,aX⟩:=ht.2 q nq hq TE
    rw [H5 hq hs] at mr ⊢
    have bM:bW M w v (fun s=>h (q++[s])) (put nq s .any):=by
     refine aX.F9 hs rfl fun u hr=>.inr ⟨rfl,.any u ?_⟩
     rcases hr with ⟨_,b⟩ | ⟨a,_⟩
     ·obtain ⟨u',c1,c2,_⟩:=ht.2 (q++[s]) c0 (by rw [get_append,hq]; simp [get,hs]) hc
      have b':h (q++[s])=some u:=b
      rw [c1] at b'; injection b' with b'; subst b'; exact c2
     ·rw [hc] at a; cases a
    obtain ⟨m1,m2,m3⟩:=aS.oM (w:=w) (w':=w) (h':=h) (n':=put nq s .any) (fun _=>False) ht hi hq TE hv (by rw [oJ]; exact TE) hv pO (.inr rfl) bM (fun _ _=>rfl)
     (fun s' c' dC ho _=>by
      by_cases e:s=s'
      ·subst e; rw [j8 hs rfl] at dC; injection dC with dC; subst dC; cases ho
      ·rw [mC rfl e] at dC; exact ⟨dC,fun _=>rfl⟩)
     (fun _ _ _ _ hN=>hN.elim) (fun _ _ _ _ _ _ _ hN=>hN.elim) (fun b hb=>.inl hb) (fun _ _ _=>rfl)
    refine ⟨m1,m2,fun b hb=>?_⟩
    have h1:aN h d b:=by
     rcases m3 b hb with h1 | h1 | ⟨_,_,_,_,hN,_⟩
     ·exact h1
     ·exact ⟨q,nq,v,hq,TE,hv,h1⟩
     ·exact hN.elim
    exact ⟨h1,mr b hb h1⟩
section
variable {g:dx} {n:Nat} {ρ:Nat→AV} {κ κ':Nat→ao} {a:Act} {w w':World} {G:Gh}
theorem bY.split (h:bY g n ρ κ a w G) {i nx ver ep:Nat} {d c:DV} {p:List PS} (hi:κ i=.tree ver ep d) (hx:κ nx=.none) (hp:get d p=some c) (hc:c.af=true) (bB:p ≠ []) (h1:κ' i=.tree ver (ep+1) (bL d p .any)) (h2:κ' nx=.tree 0 0 c) (h3:∀j,j ≠ i→j ≠ nx→κ' j=κ j) :
  ∃G',Gh.Le G G'∧G'.M=G.M∧G'.β=G.β∧(∀r,aA G'.H nx 0 0 r=aA G.H i ver ep (p++r))∧bY g n ρ κ' a w G':=by
 have zX:i ≠ nx:=fun e=>by rw [e,hx] at hi; cases hi
 have oe:=h.fit.box i
 have dI:=h.fit.box nx
 rw [hi] at oe
 rw [hx] at dI
 obtain ⟨ht,dr,Ef,eQ⟩:=oe
 obtain ⟨f1,f2,f3⟩:=ht.forget dr hp hc bB
 have AK:∀r,p++r ≠ []:=fun r e=>bB (List.append_eq_nil_iff.1 e).1
 let fi:Nat→Nat→List PS→Option Value:=fun v e q=>if v=ver∧e=ep+1∧q ≠ [] then aA G.H i ver ep q else G.H i v e q
 let fx:Nat→Nat→List PS→Option Value:=fun v e q=>if v=0∧e=0 then aA G.H i ver ep (p++q) else none
 let G':Gh:={ G with H:=c7 (c7 G.H i fi) nx fx }
 have SK:G'.H i=fi:=by show c7 (c7 G.H i fi) nx fx i=fi; rw [dH _ _ zX,eA]
 have Mp:G'.H nx=fx:=eA _ _ _
 have C9:∀j,j ≠ i→j ≠ nx→G'.H j=G.H j:=fun j e1 e2=>by show c7 (c7 G.H i fi) nx fx j=_; rw [dH _ _ e2,dH _ _ e1]
 have yW:aA G'.H i ver (ep+1)=aA G.H i ver ep:=by
  funext q
  cases q with
  | nil=>simp only [aA,SK]; show (if _ then _ else _)=_; rw [if_neg (by simp)]
  | cons s q=>simp only [aA,SK]; show (if _ then _ else _)=_; rw [if_pos ⟨rfl,rfl,by simp⟩]; rfl
 have Mq:aA G'.H nx 0 0=fun r=>aA G.H i ver ep (p++r):=by
  funext q
  cases q with
  | nil=>show G'.H nx 0 0 []=_; rw [Mp]; show (if 0=0∧0=0 then aA G.H i ver ep (p++[]) else none)=_; rw [if_pos ⟨rfl,rfl⟩]
  | cons s q=>show G'.H nx 0 0 (s::q)=_; rw [Mp]; show (if 0=0∧0=0 then aA G.H i ver ep (p++s::q) else none)=_; rw [if_pos ⟨rfl,rfl⟩]
 have hle:Gh.Le G G':=⟨Mem.Le.refl _,fun _ _ q=>q,fun j v e q x hq=>by
  by_cases e1:j=i
  ·subst e1
   rw [SK]
   show (if v=ver∧e=ep+1∧q ≠ [] then _ else _)=_
   split
   ·rename_i iy; obtain ⟨rfl,rfl,_⟩:=iy; rw [eQ (ep+1) (by omega)] at hq; cases hq
   ·exact hq
  ·by_cases e2:j=nx
   ·subst e2; rw [dI.2] at hq; cases hq
   ·rw [C9 j e1 e2]; exact hq⟩
 have Eg:∀b,bG G' i (κ' i) b→aN (aA G.H i ver ep) d b∧¬ aN (fun r=>aA G.H i ver ep (p++r)) c b:=fun b hb=>by
  rw [h1] at hb; simp only [bG] at hb; rw [yW] at hb; exact f3 b hb
 have Eh:∀b,bG G' nx (κ' nx) b→aN (fun r=>aA G.H i ver ep (p++r)) c b:=fun b hb=>by
  rw [h2] at hb; simp only [bG] at hb; rw [Mq] at hb; exact hb
 refine ⟨G',hle,rfl,rfl,fun r=>congrFun Mq r,h.oK (C:=fun j=>j=i ∨ j=nx) ⟨hle,fun _ _=>rfl,fun j hj=>h3 j (fun e=>hj (.inl e)) (fun e=>hj (.inr e)),fun j hj=>⟨fun _ q=>q,fun v e q x hq=>?_⟩,fun _ _ _=>⟨rfl,rfl⟩,h.fit.sub,?_,?_,?_,Nat.le_refl _,rfl,rfl,rfl⟩ (fun _ _=>rfl)⟩
 ·rw [C9 j (fun e=>hj (.inl e)) (fun e=>hj (.inr e))] at hq; exact hq
 ·rintro j (rfl | rfl)
  ·rw [h1]
   refine ⟨by rw [yW]; exact f1,by rw [yW]; exact f2,fun v hv e q=>?_,fun e he q=>?_⟩
   ·rw [SK]; show (if v=ver∧_ then _ else _)=_; rw [if_neg (by omega)]; exact Ef v hv e q
   ·rw [SK]; show (if ver=ver∧e=ep+1∧q ≠ [] then _ else _)=_; rw [if_neg (by omega)]; exact eQ e (by omega) q
  ·rw [h2]
   refine ⟨by rw [Mq]; exact ht.sub hp hc,by rw [Mq]; exact dr.sub hp,fun v hv e q=>?_,fun e he q=>?_⟩
   ·rw [Mp]; show (if v=0∧e=0 then _ else _)=_; rw [if_neg (by omega)]
   ·rw [Mp]; show (if 0=0∧e=0 then _ else _)=_; rw [if_neg (by omega)]
 ·rintro j b (rfl | rfl) hb
  ·have cM:=(Eg b hb).1
   have:bG G j (κ j) b:=by rw [hi]; exact cM
   exact ⟨.inr ⟨j,.inl rfl,this⟩,h.fit.own j b this⟩
  ·have cM:=(Eh b hb).sub hp
   have:bG G i (κ i) b:=by rw [hi]; exact cM
   exact ⟨.inr ⟨i,.inl rfl,this⟩,h.fit.own i b this⟩
 ·rintro j j' b (rfl | rfl) (rfl | rfl) hb cM
  ·rfl
  ·exact absurd (Eh b cM) (Eg b hb).2
  ·exact absurd (Eh b hb) (Eg b cM).2
  ·rfl
end
end Go.TM
