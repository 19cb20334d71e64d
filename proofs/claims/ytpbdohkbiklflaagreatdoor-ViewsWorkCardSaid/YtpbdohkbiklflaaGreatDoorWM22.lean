import Derived.Test.YtpbdohkbiklflaaGreatDoorWM21
set_option linter.unusedVariables false
set_option linter.unusedSimpArgs false
set_option linter.unusedSectionVars false
namespace Go.Proofs.YtpbdohkbiklflaaGreatDoor
open Go.TM Go.RowKit Go.Lib
variable [ct]
def qD (b off n i:Nat) (cc:Array Value) (x0 x1:Value) (w:World) (e:Ending) (w':World):Prop :=
 ∃g o cp c' t',e=.returned (.slice (some ⟨g,o,none⟩) (n+1) cp)∧n+1≤cp∧w'.heap[g]?=some (.cells c' t' (0,0))∧o+cp * 2≤c'.size∧(∀k,k<i * 2→c'[o+k]?=cc[off+k]?)∧c'[o+i * 2]?=some x0∧c'[o+i * 2+1]?=some x1 ∧
  (∀k,k<(n - i) * 2→c'[o+(i+1) * 2+k]?=cc[off+i * 2+k]?)∧w.grownBy w' (some b)∧(g=b ∨ w.heap.size≤g)
set_option maxHeartbeats 4000000 in
set_option maxRecDepth 100000 in
theorem Hr (b off n c i vb vo vc:Nat) (cc vv:Array Value) (tt vt:TypeId) (x0 x1:Value) (w:World) (hw:w.heap[b]?=some (.cells cc tt (0,0))) (hv:w.heap[vb]?=some (.cells vv vt (0,0))) (ka:vv[vo]?=some x0) (Ih:vv[vo+1]?=some x1) (Tm:vb ≠ b)
  (RZ:n+1≤c) (hi:i<n) (cB:off+c * 2≤cc.size) (Kb:n<9223372036854775807)
  (h1:∀k v,off≤k→k<off+n * 2→cc[k]?=some v→v.oneCell'=true) (Gd:x0.oneCell'=true) (B3:x1.oneCell'=true) :
  Calls Tryz.prog 129 #[.slice (some ⟨b,off,none⟩) n c,.int .i64 (i:Int),.slice (some ⟨vb,vo,none⟩) 1 vc] w (qD b off n i cc x0 x1 w):=by
 have mixed:=Go.Proofs.YtpbdohkbiklflaaGreatDoor.mixed
 obtain ⟨i0,El,Db,np,Mu⟩:=info_parts (show (Tryz.prog.info? 82).map (fun i=>(i.zero,i.size,i.bytes))=some (some (.agg #[.int .i64 0,.int .i64 0]),2,16) by kernel_rfl)
 have Da:w.drew.heap[b]?=some (.cells cc tt (0,0)):=hw
 have XB:∀lb cb,(callFunc 138 #[.slice (some ⟨vb,vo,none⟩) 1 vc,.slice (some ⟨b,off+(i+1) * 2,none⟩) lb cb]).run Tryz.prog w=.ok (.value (.bool false)) w:=fun lb cb=>by
  rw [run_callFunc_extern Tryz.func138 (by kernel_rfl) (by kernel_rfl) (by kernel_rfl) (e:=Extern.SlicesOverlaps.overlaps #[65,65] #[4]) (by kernel_rfl),
   Lib.run_overlaps_apart w 65 4 82 Tryz.underlying65 2 (fun w=>by simp [Go.sizeOf,typeInfo,El,np]) ⟨vb,vo,none⟩ ⟨b,off+(i+1) * 2,none⟩ 1 vc lb cb Tm vt tt vv.size cc.size (by simp [World.shape?,hv]) (by simp [World.shape?,hw]) (by omega) (by simp [World.frozen?,hv]) (by simp [World.frozen?,hv])]
  rfl
 have l1:=cW cc (off+i * 2) ((n - i) * 2)
 obtain ⟨c1,gw⟩:∃c1,c1=over cc (off+(i+1) * 2) (jE cc (off+i * 2) ((n - i) * 2)):=⟨_,rfl⟩
 obtain ⟨W1,iU⟩:∃W1,W1=w.drew.setRow b c1:=⟨_,rfl⟩
 have eT:c1.size=cc.size:=by rw [gw,fM _ _ _ (by rw [l1]; omega)]
 have wQ:W1.heap[b]?=some (.cells c1 tt (0,0)):=by rw [iU]; exact setRow_heap w.drew b cc _ tt _ Da
 have Ef:W1.heap[vb]?=some (.cells vv vt (0,0)):=by rw [iU,setRow_other _ _ _ _ Tm]; exact hv
 have UM:∀ty dc sc,(Builtin.copy_ #[65,65] ty #[.slice (some ⟨b,off+(i+1) * 2,none⟩) (n - i) dc,.slice (some ⟨b,off+i * 2,none⟩) (n+1 - i) sc]).run Tryz.prog w.drew=.ok (goInt (n - i:Nat)) W1:=fun ty dc sc=>by
  rw [iU,gw]
  refine run_copy_row 65 82 ty i0 Tryz.underlying65 El Da _ _ dc ⟨b,off+i * 2,none⟩ _ sc (n - i) _ (by simp only [Nat.min_def]; split <;> omega) (fun j u hu=>?_) (by rw [l1,np]) (fun u hu=>?_) (by rw [l1]; omega)
  ·have hj:j<(n - i) * 2:=by have:=(List.getElem?_eq_some_iff.1 hu).1; rwa [l1] at this
   rw [eH cc _ _ j hj (by omega)] at hu
   rw [cD,ig Da]; exact hu
  ·obtain ⟨k,hk,rfl⟩:=List.getElem_of_mem hu
   have er:k<(n - i) * 2:=by rwa [l1] at hk
   have h2:=eH cc (off+i * 2) ((n - i) * 2) k er (by omega)
   rw [List.getElem?_eq_getElem hk] at h2
   exact h1 (off+i * 2+k) _ (by omega) (by omega) h2.symm
 obtain ⟨c2,gC⟩:∃c2,c2=over c1 (off+i * 2) [x0,x1]:=⟨_,rfl⟩
 have XD:∀ty dc,(Builtin.copy_ #[65,65] ty #[.slice (some ⟨b,off+i * 2,none⟩) (n+1 - i) dc,.slice (some ⟨vb,vo,none⟩) 1 vc]).run Tryz.prog W1=.ok (goInt (1:Nat)) (W1.setRow b c2):=fun ty dc=>by
  rw [gC]
  refine run_copy_row 65 82 ty i0 Tryz.underlying65 El wQ _ _ dc ⟨vb,vo,none⟩ _ vc 1 _ (by simp only [Nat.min_def]; split <;> omega) (fun j u hu=>?_) (by simp [np]) (fun u hu=>?_) (by simp; omega)
  ·rw [cD,ig Ef]
   match j,hu with
   | 0,hu=>simp at hu; subst hu; exact ka
   | 1,hu=>simp at hu; subst hu; exact Ih
   | j+2,hu=>simp at hu
  ·simp at hu
   rcases hu with rfl | rfl
   ·exact Gd
   ·exact B3
 have PN:Hid (W1=w.drew.setRow b c1):=iU
 have R1:Hid (c1=over cc (off+(i+1) * 2) (jE cc (off+i * 2) ((n - i) * 2))):=gw
 have R2:Hid (c2=over c1 (off+i * 2) [x0,x1]):=gC
 clear iU gw gC wQ Ef
 have R3:¬ ((i:Int)=(n:Int)):=by omega
 have wQ:IntKind.i64.wrap ((i:Int)+1)=(i:Int)+1:=by rw [IntKind.wrap_i64]; omega
 have PD:IntKind.i64.wrap ((n:Int)+1)=(n:Int)+1:=by rw [IntKind.wrap_i64]; omega
 have j9:(0:Int)≤(i:Int)+1:=by omega
 have ei:i≤n:=by omega
 have cw:¬ (c=i+1):=by omega
 have wO:(i:Int)≤(n:Int)+1:=by omega
 have Th:¬ (c=i):=by omega
 have XE:¬ ((c:Int)<(n:Int)+1):=by omega
 have YO:(0:Int)≤(n:Int)+1:=by omega
 have XF:(i:Int)+1≤(n:Int)+1:=by omega
 have yf:(n:Int)+1≤(c:Int):=by omega
 go_enter Tryz.func129,Tryz.ntmps129
 go_wp2_with (simp only [XB])
 go_region_law_o (refine step_copy_runI rfl _ _ 65 65 rfl _ _ (by simp [Act.eval,Act.put]) (by simp [Act.eval,Act.put]) (UM _ _ _) ?_)
 go_wp2
 go_ret
 have iU:=PN.out
 have gw:=R1.out
 have gC:=R2.out
 have wQ:W1.heap[b]?=some (.cells c1 tt (0,0)):=by rw [iU]; exact setRow_heap w.drew b cc _ tt _ Da
 have gz:(W1.setRow b c2).heap[b]?=some (.cells c2 tt (0,0)):=setRow_heap W1 b c1 _ tt _ wQ
 have e2:∀k,c2[k]?=if off+i * 2≤k∧k<off+i * 2+2 then [x0,x1][k - (off+i * 2)]? else c1[k]?:=fun k=>by rw [gC,fp _ _ _ (by simp; omega)]; rfl
 have e1:∀k,c1[k]?=if off+(i+1) * 2≤k∧k<off+(i+1) * 2+(n - i) * 2 then (jE cc (off+i * 2) ((n - i) * 2))[k - (off+(i+1) * 2)]? else cc[k]?:=fun k=>by rw [gw,fp _ _ _ (by rw [l1]; omega),l1]
 refine ⟨b,off,c,c2,tt,rfl,RZ,gz,?_,fun k hk=>?_,?_,?_,fun k hk=>?_,⟨by rw [iU]; rfl,by rw [iU]; rfl,by rw [iU]; rfl,by rw [iU]; simp,fun q hq bB=>?_⟩,.inl rfl⟩
 ·rw [gC,fM _ _ _ (by simp; omega),eT]; exact cB
 ·rw [e2,if_neg (by omega),e1,if_neg (by omega)]
 ·rw [e2,if_pos (by omega),Nat.sub_self]; rfl
 ·rw [e2,if_pos (by omega),show off+i * 2+1 - (off+i * 2)=1 by omega]; rfl
 ·rw [e2,if_neg (by omega),e1,if_pos (by omega),show off+(i+1) * 2+k - (off+(i+1) * 2)=k by omega,eH _ _ _ _ hk (by omega)]
 ·have Kc:q ≠ b:=fun e=>bB (by rw [e])
  rw [setRow_other _ _ _ _ Kc,iU,setRow_other _ _ _ _ Kc]
  rfl
set_option maxHeartbeats 4000000 in
set_option maxRecDepth 100000 in
theorem Mw (b off n c vb vo vc:Nat) (cc vv:Array Value) (tt vt:TypeId) (x0 x1:Value) (w:World) (hw:w.heap[b]?=some (.cells cc tt (0,0))) (hv:w.heap[vb]?=some (.cells vv vt (0,0))) (ka:vv[vo]?=some x0) (Ih:vv[vo+1]?=some x1)
  (RZ:n≤c) (cB:off+c * 2≤cc.size) (PO:(n+1) * 16≤140737488355328) (Gd:x0.oneCell'=true) (B3:x1.oneCell'=true) :
  Calls Tryz.prog 129 #[.slice (some ⟨b,off,none⟩) n c,.int .i64 (n:Int),.slice (some ⟨vb,vo,none⟩) 1 vc] w (qD b off n n cc x0 x1 w):=by
 have mixed:=Go.Proofs.YtpbdohkbiklflaaGreatDoor.mixed
 obtain ⟨i0,El,Db,np,Mu⟩:=info_parts (show (Tryz.prog.info? 82).map (fun i=>(i.zero,i.size,i.bytes))=some (some (.agg #[.int .i64 0,.int .i64 0]),2,16) by kernel_rfl)
 have hd:∀d,d∈(DV.agg [.int .i64 0,.int .i64 0]).cells→d.ak=true:=by intro d hd; simp [DV.cells] at hd; subst hd; rfl
 have ie:og w (.slice (some ⟨b,off,none⟩) n c) i0.size (List.replicate n (DV.agg [.int .i64 0,.int .i64 0])) (fun i j _ u=>cc[off+i * 2+j]?=some u):=by
  refine .inr ⟨b,off,c,cc,tt,by simp,by simpa using RZ,hw,by rw [np]; exact cB,fun i x hx=>?_⟩
  have aJ:i<n:=by have:=(List.getElem?_eq_some_iff.1 hx).1; simpa using this
  have wR:=List.mem_of_getElem? hx
  rw [List.eq_of_mem_replicate wR]
  refine ⟨by rw [np]; rfl,fun j d hj=>⟨hd d (List.mem_of_getElem? hj),?_⟩⟩
  have V9:j<2:=(List.getElem?_eq_some_iff.1 hj).1
  rw [np]
  exact ⟨_,Array.getElem?_eq_getElem (by omega),Array.getElem?_eq_getElem (by omega)⟩
 have gA:oh w (.slice (some ⟨vb,vo,none⟩) 1 vc) i0.size [DV.agg [.int .i64 0,.int .i64 0]] (fun _ j _ u=>(j=0→u=x0)∧(j=1→u=x1)):=by
  refine .inr ⟨⟨vb,vo,none⟩,vc,fun _ j=>if j=0 then x0 else x1,rfl,fun i x hx=>?_⟩
  match i,hx with
  | 0,hx =>
   simp at hx; subst hx
   refine ⟨by rw [np]; rfl,fun j d hj=>⟨hd d (List.mem_of_getElem? hj),?_⟩⟩
   have V9:j<2:=(List.getElem?_eq_some_iff.1 hj).1
   rw [cD,ig hv]
   match j,V9 with
   | 0,_=>exact ⟨by simpa using ka,Gd,fun _=>rfl,by simp⟩
   | 1,_=>exact ⟨by simpa using Ih,B3,by simp,fun _=>rfl⟩
  | i+1,hx=>simp at hx
 have R4:∀ty,∃v' w',(Builtin.append_ #[65,65] ty #[.slice (some ⟨b,off,none⟩) n c,.slice (some ⟨vb,vo,none⟩) 1 vc]).run Tryz.prog w=.ok v' w'∧qD b off n n cc x0 x1 w (.returned v') w':=fun ty=>by
  obtain ⟨v',w',r1,r2,r3,r4,_⟩:=pg (P:=Tryz.prog) (ty:=ty) Tryz.underlying65 El Db (by rw [np]; rfl) (by rw [np]; omega) ie gA (by simp; omega) (by rw [Mu]; simp; omega)
  refine ⟨v',w',r1,?_⟩
  rcases r2 with ⟨h,_⟩ | ⟨g,o,cp,c',t',rfl,k1,k2,k3,k4⟩
  ·simp at h
  ·have key:∀i j,i<n+1→j<2→∃u,c'[o+i * 2+j]?=some u∧kL n (fun i j _ u=>cc[off+i * 2+j]?=some u) (fun _ j _ u=>(j=0→u=x0)∧(j=1→u=x1)) i j (.int .i64 0) u:=by
    intro i j hi hj
    have hx:(List.replicate n (DV.agg [.int .i64 0,.int .i64 0])++[DV.agg [.int .i64 0,.int .i64 0]])[i]?=some (DV.agg [.int .i64 0,.int .i64 0]):=by
     rw [←List.replicate_succ',List.getElem?_replicate,if_pos hi]
    obtain ⟨_,q⟩:=k4 i _ hx
    obtain ⟨_,u,q1,q2⟩:=q j (.int .i64 0) (by
     match j,hj with
     | 0,_=>rfl
     | 1,_=>rfl)
    rw [np] at q1
    rw [List.length_replicate] at q2
    exact ⟨u,q1,q2⟩
   have hb:g=b ∨ w.heap.size≤g:=by
    rcases r4 g rfl with h | h
    ·exact .inr h
    ·left; simpa [fh] using h.symm
   rw [np] at k3
   refine ⟨g,o,cp,c',t',by simp,by simpa using k1,k2,k3,fun k hk=>?_,?_,?_,fun k hk=>by omega,r3,hb⟩
   ·obtain ⟨u,q1,q2⟩:=key (k / 2) (k % 2) (by omega) (by omega)
    unfold kL at q2
    rw [if_pos (by omega)] at q2
    rw [show o+k=o+k / 2 * 2+k % 2 by omega,show off+k=off+k / 2 * 2+k % 2 by omega,q1,q2]
   ·obtain ⟨u,q1,q2⟩:=key n 0 (by omega) (by omega)
    unfold kL at q2
    rw [if_neg (by omega)] at q2
    rw [Nat.add_zero] at q1
    rw [q1,q2.1 rfl]
   ·obtain ⟨u,q1,q2⟩:=key n 1 (by omega) (by omega)
    unfold kL at q2
    rw [if_neg (by omega)] at q2
    rw [q1,q2.2 rfl]
 obtain ⟨v',W',hr,B4⟩:=R4 65
 have ei:n≤n:=Nat.le_refl _
 clear R4 gA ie
 go_enter Tryz.func129,Tryz.ntmps129
 go_wp2_with (at_builtin; refine Lib.wpList_append_run _ rfl _ _ _ _ rfl _ _ rfl rfl _ _ hr ?_)
 all_goals (go_ret; exact B4)
set_option maxHeartbeats 4000000 in
set_option maxRecDepth 100000 in
theorem Kd (b off n i vb vo vc:Nat) (cc vv:Array Value) (tt vt:TypeId) (x0 x1:Value) (w:World) (hw:w.heap[b]?=some (.cells cc tt (0,0))) (hv:w.heap[vb]?=some (.cells vv vt (0,0))) (ka:vv[vo]?=some x0) (Ih:vv[vo+1]?=some x1)
  (hi:i<n) (cB:off+n * 2≤cc.size) (PO:(n+1) * 16≤140737488355328)
  (h1:∀k v,off≤k→k<off+n * 2→cc[k]?=some v→v.oneCell'=true) (Gd:x0.oneCell'=true) (B3:x1.oneCell'=true) :
  Calls Tryz.prog 129 #[.slice (some ⟨b,off,none⟩) n n,.int .i64 (i:Int),.slice (some ⟨vb,vo,none⟩) 1 vc] w (qD b off n i cc x0 x1 w):=by
 have mixed:=Go.Proofs.YtpbdohkbiklflaaGreatDoor.mixed
 obtain ⟨i0,El,Db,np,Mu⟩:=info_parts (show (Tryz.prog.info? 82).map (fun i=>(i.zero,i.size,i.bytes))=some (some (.agg #[.int .i64 0,.int .i64 0]),2,16) by kernel_rfl)
 have Da:w.drew.heap[b]?=some (.cells cc tt (0,0)):=hw
 have XG:b<w.heap.size:=(Array.getElem?_eq_some_iff.1 hw).1
 have XH:vb<w.heap.size:=(Array.getElem?_eq_some_iff.1 hv).1
 have l0:=cW cc off (i * 2)
 have l1:=cW cc (off+i * 2) ((n - i) * 2)
 have hold:(Builtin.firstCells i0.size i (.slice (some ⟨b,off,none⟩) i n)).run Tryz.prog w.drew=.ok (jE cc off (i * 2)).toArray w.drew :=
  run_firstCells_some w.drew i0.size i ⟨b,off,none⟩ i n _ (by rw [l0,np]) (fun j u hu=>by
   have hj:j<i * 2:=by have:=(List.getElem?_eq_some_iff.1 hu).1; rwa [l0] at this
   rw [eH cc _ _ j hj (by omega)] at hu
   rw [cD,ig Da]; exact hu)
 have ye:i+(n+1 - i)=n+1:=by omega
 have G8:(n:Int)+1 - (i:Int)=((n+1 - i:Nat):Int):=by omega
 obtain ⟨G,hG⟩:∃G,G=grownCap w (n+1) n 82:=⟨_,rfl⟩
 obtain ⟨Ii,Mx⟩:∃Ii:Array Value,Ii=(jE cc off (i * 2)).toArray++Builtin.zeroCells (Value.agg #[.int .i64 0,.int .i64 0]).cells (n+1 - i)++Builtin.zeroCells (Value.agg #[.int .i64 0,.int .i64 0]).cells (G - (n+1)):=⟨_,rfl⟩
 have Wa:∀ty,(Builtin.append_ #[65,3] ty #[.slice (some ⟨b,off,none⟩) i n,.int .i64 ((n:Int)+1 - (i:Int))]).run Tryz.prog w=.ok (.slice (some ⟨w.heap.size,0,none⟩) (n+1) G) (w.drew.alloc (.cells Ii 82)):=fun ty=>by
  have h:=Lib.run_append_grow_zeros (P:=Tryz.prog) (ty:=ty) w 65 3 82 i0 _ .i64 .i64 Tryz.underlying65 Tryz.underlying3 El Db (some ⟨b,off,none⟩) i n _ hold (n+1 - i) (by omega) (by rw [np]; omega) (by omega) (by omega) (by rw [Mu]; omega) (by rw [Mu,ye]; exact growslice_fits (by omega) PO)
  rw [ye,←hG] at h
  rw [G8,Mx]
  exact h
 have XI:n+1≤G:=by rw [hG]; exact grownCap_ge w _ _ _
 have XJ:G≤9223372036854775807:=by
  have:=grownCap_le_maxLen w (n+1) n 82 (by unfold maxLen; omega)
  rw [←hG] at this
  unfold maxLen at this
  omega
 have QL:∀m,(Builtin.zeroCells (Value.agg #[.int .i64 0,.int .i64 0]).cells m).size=m * 2:=fun m=>by simp [Builtin.zeroCells,Value.cells]
 have XK:Ii.size=G * 2:=by rw [Mx]; simp only [Array.size_append,List.size_toArray,l0,QL]; omega
 obtain ⟨W1,iU⟩:∃W1,W1=w.drew.alloc (.cells Ii 82):=⟨_,rfl⟩
 have Ke:W1.heap[w.heap.size]?=some (.cells Ii 82 (0,0)):=by rw [iU]; exact cg w.drew _
 have Ef:W1.heap[vb]?=some (.cells vv vt (0,0)):=by rw [iU,aU w.drew _ XH]; exact hv
 have j9:W1.heap[b]?=some (.cells cc tt (0,0)):=by rw [iU,aU w.drew _ XG]; exact hw
 obtain ⟨r1,N8⟩:∃r1,r1=over Ii (i * 2) [x0,x1]:=⟨_,rfl⟩
 have eT:r1.size=G * 2:=by rw [N8,fM _ _ _ (by simp; omega),XK]
 have R5:∀ty dc,(Builtin.copy_ #[65,65] ty #[.slice (some ⟨w.heap.size,i * 2,none⟩) (n+1 - i) dc,.slice (some ⟨vb,vo,none⟩) 1 vc]).run Tryz.prog W1=.ok (goInt (1:Nat)) (W1.setRow w.heap.size r1):=fun ty dc=>by
  rw [N8]
  refine run_copy_row 65 82 ty i0 Tryz.underlying65 El Ke _ _ dc ⟨vb,vo,none⟩ _ vc 1 _ (by simp only [Nat.min_def]; split <;> omega) (fun j u hu=>?_) (by simp [np]) (fun u hu=>?_) (by simp; omega)
  ·rw [cD,ig Ef]
   match j,hu with
   | 0,hu=>simp at hu; subst hu; exact ka
   | 1,hu=>simp at hu; subst hu; exact Ih
   | j+2,hu=>simp at hu
  ·simp at hu
   rcases hu with rfl | rfl
   ·exact Gd
   ·exact B3
 obtain ⟨W2,Kf⟩:∃W2,W2=W1.setRow w.heap.size r1:=⟨_,rfl⟩
 have My:W2.drew.heap[w.heap.size]?=some (.cells r1 82 (0,0)):=by rw [Kf]; exact setRow_heap W1 _ Ii _ _ _ Ke
 have cw:W2.drew.heap[b]?=some (.cells cc tt (0,0)):=by
  show W2.heap[b]?=_
  rw [Kf,setRow_other _ _ _ _ (by omega)]; exact j9
 obtain ⟨r2,N9⟩:∃r2,r2=over r1 ((i+1) * 2) (jE cc (off+i * 2) ((n - i) * 2)):=⟨_,rfl⟩
 have UN:∀ty dc sc,(Builtin.copy_ #[65,65] ty #[.slice (some ⟨w.heap.size,(i+1) * 2,none⟩) (n - i) dc,.slice (some ⟨b,off+i * 2,none⟩) (n - i) sc]).run Tryz.prog W2.drew=.ok (goInt (n - i:Nat)) (W2.drew.setRow w.heap.size r2):=fun ty dc sc=>by
  rw [N9]
  refine run_copy_row 65 82 ty i0 Tryz.underlying65 El My _ _ dc ⟨b,off+i * 2,none⟩ _ sc (n - i) _ (by simp only [Nat.min_def]; split <;> omega) (fun j u hu=>?_) (by rw [l1,np]) (fun u hu=>?_) (by rw [l1]; omega)
  ·have hj:j<(n - i) * 2:=by have:=(List.getElem?_eq_some_iff.1 hu).1; rwa [l1] at this
   rw [eH cc _ _ j hj (by omega)] at hu
   rw [cD,ig cw]; exact hu
  ·obtain ⟨k,hk,rfl⟩:=List.getElem_of_mem hu
   have er:k<(n - i) * 2:=by rwa [l1] at hk
   have h2:=eH cc (off+i * 2) ((n - i) * 2) k er (by omega)
   rw [List.getElem?_eq_getElem hk] at h2
   exact h1 (off+i * 2+k) _ (by omega) (by omega) h2.symm
 have PN:Hid (W1=w.drew.alloc (.cells Ii 82)):=iU
 have XM:Hid (W2=W1.setRow w.heap.size r1):=Kf
 have eR:Hid (Ii=(jE cc off (i * 2)).toArray++Builtin.zeroCells (Value.agg #[.int .i64 0,.int .i64 0]).cells (n+1 - i)++Builtin.zeroCells (Value.agg #[.int .i64 0,.int .i64 0]).cells (G - (n+1))):=Mx
 have XO:Hid (r1=over Ii (i * 2) [x0,x1]):=N8
 have XP:Hid (r2=over r1 ((i+1) * 2) (jE cc (off+i * 2) ((n - i) * 2))):=N9
 rw [←iU] at Wa
 rw [←Kf] at R5
 have XQ:Hid (W2.drew.heap[w.heap.size]?=some (.cells r1 82 (0,0))):=My
 clear iU Kf Mx N8 N9 hG hold G8 ye Ke Ef j9 My cw
 have R3:¬ ((i:Int)=(n:Int)):=by omega
 have wQ:IntKind.i64.wrap ((i:Int)+1)=(i:Int)+1:=by rw [IntKind.wrap_i64]; omega
 have PD:IntKind.i64.wrap ((n:Int)+1)=(n:Int)+1:=by rw [IntKind.wrap_i64]; omega
 have YP:IntKind.i64.wrap ((n:Int)+1 - (i:Int))=(n:Int)+1 - (i:Int):=by rw [IntKind.wrap_i64]; omega
 have j9:(0:Int)≤(i:Int)+1:=by omega
 have ei:i≤n:=by omega
 have cw:¬ (G=i+1):=by omega
 have wO:(i:Int)≤(n:Int)+1:=by omega
 have Th:¬ (G=i):=by omega
 have XE:¬ (n=i):=by omega
 have XF:(i:Int)+1≤(n:Int)+1:=by omega
 have yf:(n:Int)<(n:Int)+1:=by omega
 have YQ:(i:Int)≤(n:Int):=by omega
 go_enter Tryz.func129,Tryz.ntmps129
 go_wp2_with (first
  | (at_builtin; refine Lib.wpList_append_run _ rfl _ _ _ _ rfl _ _ rfl rfl _ _ (Wa _) ?_)
  | (at_builtin; refine wpList_copy_runI _ rfl _ _ 65 65 rfl _ _ rfl rfl (R5 _ _) ?_))
 go_region_law_o (refine step_copy_runI rfl _ _ 65 65 rfl _ _ (by simp [Act.eval,Act.put]) (by simp [Act.eval,Act.put]) (UN _ _ _) ?_)
 go_wp2
 go_ret
 have iU:=PN.out
 have Kf:=XM.out
 have N8:=XO.out
 have N9:=XP.out
 have e2:∀k,r2[k]?=if (i+1) * 2≤k∧k<(i+1) * 2+(n - i) * 2 then (jE cc (off+i * 2) ((n - i) * 2))[k - (i+1) * 2]? else r1[k]?:=fun k=>by rw [N9,fp _ _ _ (by rw [l1]; omega),l1]
 have e1:∀k,r1[k]?=if i * 2≤k∧k<i * 2+2 then [x0,x1][k - i * 2]? else Ii[k]?:=fun k=>by rw [N8,fp _ _ _ (by simp; omega)]; rfl
 refine ⟨w.heap.size,0,G,r2,82,rfl,XI,setRow_heap W2.drew _ r1 _ _ _ XQ.out,?_,fun k hk=>?_,?_,?_,fun k hk=>?_,⟨by rw [Kf,iU]; rfl,by rw [Kf,iU]; rfl,by rw [Kf,iU]; rfl,by rw [Kf,iU]; simp,fun q hq bB=>?_⟩,.inr (Nat.le_refl _)⟩
 ·rw [N9,fM _ _ _ (by rw [l1]; omega),eT]; omega
 ·rw [Nat.zero_add,e2,if_neg (by omega),e1,if_neg (by omega),eR.out,Array.getElem?_append,if_pos (by simp only [Array.size_append,List.size_toArray,l0,QL]; omega),Array.getElem?_append,if_pos (by simp only [List.size_toArray,l0]; omega),List.getElem?_toArray,eH _ _ _ _ hk (by omega)]
 ·rw [Nat.zero_add,e2,if_neg (by omega),e1,if_pos (by omega),Nat.sub_self]; rfl
 ·rw [Nat.zero_add,e2,if_neg (by omega),e1,if_pos (by omega),show i * 2+1 - i * 2=1 by omega]; rfl
 ·rw [Nat.zero_add,e2,if_pos (by omega),show (i+1) * 2+k - (i+1) * 2=k by omega,eH _ _ _ _ hk (by omega)]
 ·have Kc:q ≠ w.heap.size:=by omega
  rw [setRow_other _ _ _ _ Kc]
  show W2.heap[q]?=_
  rw [Kf,setRow_other _ _ _ _ Kc,iU,aU w.drew _ hq]
  rfl
end Go.Proofs.YtpbdohkbiklflaaGreatDoor
namespace Go.Proofs.YtpbdohkbiklflaaGreatDoor
open Go.TM Go.RowKit
variable [cZ]
theorem Kg {M:Mem} {h:Option Value} {n:Int} {u:Value} (r:da M h (I n) u):u=.int .i64 n:=by
 rcases r with ⟨a,_⟩ | ⟨_,r⟩
 ·cases a
 ·cases r; rfl
theorem vW {M:Mem} {w:World} {v:Value} {hc:PS→Option Value} {l:List Rk} (h:bW M w v hc (.ax 2 (l.map eR))) (hl:l ≠ []) :
  ∃b off c cc tt,v=.slice (some ⟨b,off,none⟩) l.length c∧l.length≤c∧w.heap[b]?=some (.cells cc tt (0,0))∧off+c * 2≤cc.size∧∀i y,l[i]?=some y→cc[off+i * 2]?=some (.int .i64 y.1)∧cc[off+i * 2+1]?=some (.int .i64 y.2):=by
 rcases h with ⟨h,_⟩ | ⟨b,off,c,cc,tt,rfl,h1,h2,h3,h4⟩
 ·simp at h; exact absurd h hl
 ·refine ⟨b,off,c,cc,tt,by rw [List.length_map],by simpa using h1,h2,h3,fun i y hy=>?_⟩
  obtain ⟨_,q⟩:=h4 i (eR y) (by rw [List.getElem?_map,hy]; rfl)
  obtain ⟨_,u,e1,e2⟩:=q 0 (I y.1) rfl
  obtain ⟨_,u',e3,e4⟩:=q 1 (I y.2) rfl
  rw [Kg e2] at e1
  rw [Kg e4] at e3
  exact ⟨e1,e3⟩
theorem Ge {M:Mem} {w:World} {g o cp:Nat} {c:Array Value} {t:TypeId} {l:List Rk} (h1:l.length≤cp) (h2:w.heap[g]?=some (.cells c t (0,0))) (h3:o+cp * 2≤c.size)
  (h4:∀i y,l[i]?=some y→c[o+i * 2]?=some (.int .i64 y.1)∧c[o+i * 2+1]?=some (.int .i64 y.2)) :
  og w (.slice (some ⟨g,o,none⟩) l.length cp) 2 (l.map eR) (fun _ _ d u=>d.af=false∧bj M d u):=by
 refine .inr ⟨g,o,cp,c,t,by rw [List.length_map],by simpa using h1,h2,h3,fun i x hx=>?_⟩
 rw [List.getElem?_map] at hx
 cases hy:l[i]? with
 | none=>rw [hy] at hx; simp at hx
 | some y =>
  rw [hy] at hx; simp at hx; subst hx
  obtain ⟨e1,e2⟩:=h4 i y hy
  refine ⟨rfl,fun j d hd=>?_⟩
  match j,hd with
  | 0,hd=>simp [eR,DV.cells] at hd; subst hd; exact ⟨rfl,_,e1,rfl,.int _ _⟩
  | 1,hd=>simp [eR,DV.cells] at hd; subst hd; exact ⟨rfl,_,e2,rfl,.int _ _⟩
  | j+2,hd=>simp [eR,DV.cells] at hd
theorem B5 {cc:Array Value} {off n:Nat} {l:List Rk} (hn:n=l.length) (h:∀i y,l[i]?=some y→cc[off+i * 2]?=some (.int .i64 y.1)∧cc[off+i * 2+1]?=some (.int .i64 y.2)) :
  ∀k v,off≤k→k<off+n * 2→cc[k]?=some v→v.oneCell'=true:=by
 intro k v h1 h2 h3
 obtain ⟨e1,e2⟩:=h ((k - off) / 2) _ (List.getElem?_eq_getElem (by omega))
 rcases Nat.mod_two_eq_zero_or_one (k - off) with h4 | h4
 ·rw [show off+(k - off) / 2 * 2=k by omega,h3] at e1; injection e1 with e1; subst e1; rfl
 ·rw [show off+(k - off) / 2 * 2+1=k by omega,h3] at e2; injection e2 with e2; subst e2; rfl
theorem Mz (l:List Rk) (k:Nat) (x:Rk) (hk:k≤l.length) (i:Nat):(qC l k x)[i]?=if i<k then l[i]? else if i=k then some x else l[i - 1]?:=by
 unfold qC
 have ht:(l.take k).length=k:=by simp; omega
 rw [List.getElem?_append,ht]
 by_cases h1:i<k
 ·rw [if_pos h1,if_pos h1,List.getElem?_take,if_pos h1]
 ·rw [if_neg h1,if_neg h1]
  by_cases h2:i=k
  ·subst h2; simp
  ·rw [if_neg h2,show i - k=(i - 1 - k)+1 by omega,List.getElem?_cons_succ,List.getElem?_drop,show k+(i - 1 - k)=i - 1 by omega]
theorem vX (l:List Rk) (k:Nat) (x:Rk) (hk:k≤l.length):(qC l k x).length=l.length+1:=by simp [qC]; omega
theorem MA (l:List Rk) (k:Nat) (hk:k<l.length) (i:Nat):(xi l k)[i]?=if i<k then l[i]? else l[i+1]?:=by
 unfold xi
 have ht:(l.take k).length=k:=by simp; omega
 rw [List.getElem?_append,ht]
 by_cases h1:i<k
 ·rw [if_pos h1,if_pos h1,List.getElem?_take,if_pos h1]
 ·rw [if_neg h1,if_neg h1,List.getElem?_drop,show k+1+(i - k)=i+1 by omega]
theorem B6 (l:List Rk) (k:Nat) (hk:k<l.length):(xi l k).length=l.length - 1:=by simp [xi]; omega
theorem Hs {D:DV} {p:List PS} {l:List Rk} (hp:get D p=some (.ax 2 (l.map eR))) (bB:p ≠ []) (x:Rk) (k:Nat) (hk:k≤l.length) (hl:l ≠ []) (hlen:l.length≤1000) :
  bl Tryz.prog 129 [.own 0 0 0 p,.dv (I k),.own 1 0 0 []] 2 [(0,.tree 0 0 D),(1,.tree 0 0 (.ax 2 [eR x]))] 1 [.own 2 1 0 []]
   [(2,.tree 1 0 (.ax 2 ((qC l k x).map eR))),(0,.tree 0 0 (bL D p .any)),(1,.tree 0 0 (.ax 2 [eR x]))]:=by
 refine rY ⟨_,Tryz.func129,by kernel_rfl,rfl⟩ hp bB (by omega) (fun i hi=>by simp only [aa]; rw [TM.beq_false (show i ≠ 1 by omega)]; rfl) (Ab _) ?_
 intro w G v xs cB hu aX hr
 obtain ⟨v0,v1,rfl⟩:∃v0 v1,xs=[v0,v1]:=by
  match xs,hr.1 with
  | [a,b],_=>exact ⟨a,b,rfl⟩
 have r0:=hr.2 0 _ v0 rfl rfl
 have r1:=hr.2 1 _ v1 rfl rfl
 cases r0 with | dv r0=>cases r0 with | int =>
 cases r1 with | own _ _ _ _ _ hh hc =>
 obtain ⟨b,off,c,cc,tt,rfl,gw,hw,s9,ie⟩:=vW aX hl
 obtain ⟨u1,ND,_,GM⟩:=cB.node (i:=1) (ver:=0) (ep:=0) (d:=.ax 2 [eR x]) (p:=[]) rfl rfl rfl
 rw [ND] at hh; injection hh with hh; subst hh
 obtain ⟨vb,vo,vc,vv,vt,rfl,_,hv,_,XT⟩:=vW (l:=[x]) GM (by simp)
 obtain ⟨ka,Ih⟩:=XT 0 x rfl
 simp only [Nat.zero_mul,Nat.add_zero] at ka Ih
 have Tm:vb ≠ b:=by
  rintro rfl
  have h0:bG G 0 (aa [(0,ao.tree 0 0 D),(1,ao.tree 0 0 (.ax 2 [eR x]))] 0) vb:=⟨p,_,_,hp,rfl,hu,rfl⟩
  have h1:bG G 1 (aa [(0,ao.tree 0 0 D),(1,ao.tree 0 0 (.ax 2 [eR x]))] 1) vb:=⟨[],_,_,rfl,rfl,ND,rfl⟩
  have:=cB.inj 0 1 vb h0 h1
  cases this
 have tA:=B5 rfl ie
 have B4:∀e w',qD b off l.length k cc (.int .i64 x.1) (.int .i64 x.2) w e w'→∃v',e=.returned v'∧v'.oneCell'=true∧w.grownBy w' (some b)∧og w' v' 2 ((qC l k x).map eR) (fun _ _ d u=>d.af=false∧bj G.M d u)∧∀q,fh v'=some q→some b=some q ∨ w.heap.size≤q:=by
  rintro e w' ⟨g,o,cp,c',t',rfl,p1,p2,p3,p4,p5,p6,p7,p8,p9⟩
  refine ⟨_,rfl,rfl,p8,?_,fun q hq=>?_⟩
  ·have hL:=vX l k x hk
   rw [←hL]
   refine Ge (by rw [hL]; exact p1) p2 p3 fun i y hy=>?_
   rw [Mz l k x hk] at hy
   by_cases h1:i<k
   ·rw [if_pos h1] at hy
    obtain ⟨e1,e2⟩:=ie i y hy
    rw [p4 (i * 2) (by omega),Nat.add_assoc,p4 (i * 2+1) (by omega),←Nat.add_assoc]
    exact ⟨e1,e2⟩
   ·rw [if_neg h1] at hy
    by_cases h2:i=k
    ·subst h2; rw [if_pos rfl] at hy; injection hy with hy; subst hy; exact ⟨p5,p6⟩
    ·rw [if_neg h2] at hy
     have aJ:=(List.getElem?_eq_some_iff.1 hy).1
     obtain ⟨e1,e2⟩:=ie _ y hy
     have q1:=p7 ((i - 1 - k) * 2) (by omega)
     have q2:=p7 ((i - 1 - k) * 2+1) (by omega)
     rw [show o+(k+1) * 2+(i - 1 - k) * 2=o+i * 2 by omega,show off+k * 2+(i - 1 - k) * 2=off+(i - 1) * 2 by omega] at q1
     rw [show o+(k+1) * 2+((i - 1 - k) * 2+1)=o+i * 2+1 by omega,show off+k * 2+((i - 1 - k) * 2+1)=off+(i - 1) * 2+1 by omega] at q2
     exact ⟨q1.trans e1,q2.trans e2⟩
  ·simp only [fh,Option.some.injEq] at hq
   subst hq
   rcases p9 with h | h
   ·exact .inl (by rw [h])
   ·exact .inr h
 rcases Nat.lt_or_ge k l.length with aJ | du
 ·rcases Nat.lt_or_ge l.length c with vY | mS
  ·exact (Hr b off l.length c k vb vo vc cc vv tt vt _ _ w hw hv ka Ih Tm vY aJ s9 (by omega) tA rfl rfl).mono fun e w' h=>B4 e w' h
  ·obtain rfl:c=l.length:=by omega
   exact (Kd b off l.length k vb vo vc cc vv tt vt _ _ w hw hv ka Ih aJ s9 (by omega) tA rfl rfl).mono fun e w' h=>B4 e w' h
 ·obtain rfl:k=l.length:=by omega
  exact (Mw b off l.length c vb vo vc cc vv tt vt _ _ w hw hv ka Ih gw s9 (by omega) rfl rfl).mono fun e w' h=>B4 e w' h
theorem Ht {D:DV} {p:List PS} {l:List Rk} (hp:get D p=some (.ax 2 (l.map eR))) (bB:p ≠ []) (k:Nat) (hk:k<l.length) (hlen:l.length≤1000) :
  bl Tryz.prog 127 [.own 0 0 0 p,.dv (I k),.dv (I ((k:Int)+1))] 1 [(0,.tree 0 0 D)] 1 [.own 1 1 0 []]
   [(1,.tree 1 0 (.ax 2 ((xi l k).map eR))),(0,.tree 0 0 (bL D p .any))]:=by
 have hl:l ≠ []:=by rintro rfl; simp at hk
 refine rY (K3:=[]) ⟨_,Tryz.func127,by kernel_rfl,rfl⟩ hp bB (by omega) (fun i hi=>rfl) (Ab _) ?_
 intro w G v xs cB hu aX hr
 obtain ⟨v0,v1,rfl⟩:∃v0 v1,xs=[v0,v1]:=by
  match xs,hr.1 with
  | [a,b],_=>exact ⟨a,b,rfl⟩
 have r0:=hr.2 0 _ v0 rfl rfl
 have r1:=hr.2 1 _ v1 rfl rfl
 cases r0 with | dv r0=>cases r0 with | int =>
 cases r1 with | dv r1=>cases r1 with | int =>
 obtain ⟨b,off,c,cc,tt,rfl,gw,hw,s9,ie⟩:=vW aX hl
 refine (Ek b off l.length c k cc tt w hw gw hk s9 (by omega) (B5 rfl ie)).mono ?_
 rintro e w' ⟨rfl,c',p1,p2,p3,p4,p5⟩
 refine ⟨_,rfl,rfl,p5,?_,fun q hq=>.inl hq⟩
 have hL:=B6 l k hk
 rw [←hL]
 refine Ge (by omega) p1 (by omega) fun i y hy=>?_
 rw [MA l k hk] at hy
 by_cases h1:i<k
 ·rw [if_pos h1] at hy
  obtain ⟨e1,e2⟩:=ie i y hy
  rw [p3 (i * 2) (by omega),Nat.add_assoc,p3 (i * 2+1) (by omega),←Nat.add_assoc]
  exact ⟨e1,e2⟩
 ·rw [if_neg h1] at hy
  have aJ:=(List.getElem?_eq_some_iff.1 hy).1
  obtain ⟨e1,e2⟩:=ie _ y hy
  have q1:=p4 ((i - k) * 2) (by omega)
  have q2:=p4 ((i - k) * 2+1) (by omega)
  rw [show off+k * 2+(i - k) * 2=off+i * 2 by omega,show off+(k+1) * 2+(i - k) * 2=off+(i+1) * 2 by omega] at q1
  rw [show off+k * 2+((i - k) * 2+1)=off+i * 2+1 by omega,show off+(k+1) * 2+((i - k) * 2+1)=off+(i+1) * 2+1 by omega] at q2
  exact ⟨q1.trans e1,q2.trans e2⟩
theorem Hu {D:DV} {p:List PS} {y:DV} (hp:get D p=some (.ax 1 [y])) (hy:y.af=true) (bB:p ≠ []) :
  bl Tryz.prog 128 [.own 0 0 0 p,.dv (I 0),.dv (I 1)] 1 [(0,.tree 0 0 D)] 1 [.own 1 1 0 []]
   [(1,.tree 1 0 (.ax 1 [])),(0,.tree 0 0 (bL D p .any))]:=by
 refine rY (K3:=[]) ⟨_,Tryz.func128,by kernel_rfl,rfl⟩ hp bB (by omega) (fun i hi=>rfl) (by simp) ?_
 intro w G v xs cB hu aX hr
 obtain ⟨v0,v1,rfl⟩:∃v0 v1,xs=[v0,v1]:=by
  match xs,hr.1 with
  | [a,b],_=>exact ⟨a,b,rfl⟩
 have r0:=hr.2 0 _ v0 rfl rfl
 have r1:=hr.2 1 _ v1 rfl rfl
 cases r0 with | dv r0=>cases r0 with | int =>
 cases r1 with | dv r1=>cases r1 with | int =>
 have Tn:y.cells=[y]:=by cases y <;> first | rfl | cases hy
 rcases aX with ⟨h,_⟩ | ⟨b,off,c,cc,tt,rfl,gw,hw,s9,ie⟩
 ·simp at h
 ·obtain ⟨_,q⟩:=ie 0 y rfl
  obtain ⟨_,u,e1,e2⟩:=q 0 y (by rw [Tn]; rfl)
  have ND:u.oneCell'=true:=by
   rcases e2 with ⟨_,e2⟩ | ⟨e2,_⟩
   ·have aj:TM.step (.ax 1 [y]) (.el 0 0)=some y:=by show y.cells[0]?=some y; rw [Tn]; rfl
    have XU:aA G.H 0 0 0 (p++[.el 0 0])=some u:=e2
    obtain ⟨u',f1,f2,_⟩:=cB.node (i:=0) (ver:=0) (ep:=0) (d:=D) (p:=p++[.el 0 0]) (nd:=y) rfl (by rw [get_append,hp]; simp only [TM.get,aj]) hy
    rw [XU] at f1; injection f1 with f1; subst f1; exact f2
   ·rw [hy] at e2; cases e2
  simp only [Nat.zero_mul,Nat.add_zero] at e1
  have:=Em b off 1 c 0 cc tt w hw (by simpa using gw) (by omega) (by simpa using s9) (by omega) (fun k v h1 h2 h3=>by
   obtain rfl:k=off:=by omega
   rw [e1] at h3; injection h3 with h3; subst h3; exact ND)
  refine this.mono ?_
  rintro e w' ⟨rfl,c',p1,p2,p3,p4,p5⟩
  refine ⟨_,rfl,rfl,p5,?_,fun q hq=>.inl hq⟩
  exact .inr ⟨b,off,c,c',tt,rfl,by simp,p1,by rw [p2]; exact s9,by simp⟩
end Go.Proofs.YtpbdohkbiklflaaGreatDoor
namespace Go.Proofs.YtpbdohkbiklflaaGreatDoor
open Go.TM
variable [cZ]
structure lI (l:List Rk) (k:Nat) (x:Rk):Prop where
 le:k≤l.length
 lo:∀i y,i<k→l[i]?=some y→km y x=true
 hi:∀i y,k≤i→l[i]?=some y→km y x=false
set_option maxRecDepth 100000
set_option maxHeartbeats 4000000 in
theorem Hv (f:Bool) (x:Rk):bl Tryz.prog 116 [.own 0 0 0 [],.agg [.dv (I x.1),.dv (I x.2)]] 1 (kM f []) 0 [] [(0,.tree 0 1 (dX false [x]))]:=by
 have yg:(nth tab (nth tab 111).elem).bytes=24:=by kernel_rfl
 cases f
 ·refine bn aO mixed (aq _) (ar _) Tryz.func116 rfl rfl (by kernel_rfl) ?_
  refine .inr ⟨[0],[.own 0 0 0 [],.agg [.dv (I x.1),.dv (I x.2)]],_,0,_,_,s7 false x,by kernel_rfl,by kernel_rfl,⟨rfl,⟨rf,rf,tv⟩,tv⟩,⟨⟨rfl,rfl⟩,tv⟩,?_⟩
  refine ⟨fun _=>?_,fun h=>by simp at h⟩
  refine .inr (.inl ⟨[eR x],rfl,⟨rf,rf,tv⟩,by simp [eR,DV.cells]; rfl,?_⟩)
  refine .inr (.inl ⟨[.ax 2 [eR x]],rfl,⟨rfl,tv⟩,by simp [DV.cells]; rfl,?_⟩)
  refine .inr (.inr ⟨rfl,[.ax 2 [eR x]],eJ.refl _,by rw [yg]; simp,by simp,?_⟩)
  refine ⟨[.ax 1 [.ax 2 [eR x]]],⟨rfl,tv⟩,?_⟩
  exact ⟨by kernel_rfl,_,_,⟨rfl,rfl⟩,by kernel_rfl,tv,⟨rfl,rfl⟩,tv⟩
 ·refine bn aO mixed (aq _) (ar _) Tryz.func116 rfl rfl (by kernel_rfl) ?_
  refine .inr ⟨[0],[.own 0 0 0 [],.agg [.dv (I x.1),.dv (I x.2)]],_,0,_,_,s7 true x,by kernel_rfl,by kernel_rfl,⟨rfl,⟨rf,rf,tv⟩,tv⟩,⟨⟨rfl,rfl⟩,tv⟩,?_⟩
  refine ⟨fun _=>?_,fun h=>by simp at h⟩
  refine .inr (.inl ⟨[eR x],rfl,⟨rf,rf,tv⟩,by simp [eR,DV.cells]; rfl,?_⟩)
  refine .inr (.inl ⟨[.ax 2 [eR x]],rfl,⟨rfl,tv⟩,by simp [DV.cells]; rfl,?_⟩)
  refine .inr (.inr ⟨rfl,[.ax 2 [eR x]],eJ.refl _,by rw [yg]; simp,by simp,?_⟩)
  refine ⟨[.ax 1 [.ax 2 [eR x]]],⟨rfl,tv⟩,?_⟩
  exact ⟨by kernel_rfl,_,_,⟨rfl,rfl⟩,by kernel_rfl,tv,⟨rfl,rfl⟩,tv⟩
set_option maxHeartbeats 4000000 in
theorem Hw (x r:Rk) (l:List Rk) (k:Nat) (hl:(r::l).length≤511) (hp:lI (r::l) k x):bl Tryz.prog 116 [.own 0 0 0 [],.agg [.dv (I x.1),.dv (I x.2)]] 1 (kM false (r::l)) 0 [] [(0,.tree 0 1 (dX false (qC (r::l) k x)))]:=by
 have wN:=Hs (D:=dX false (r::l)) (p:=[.el 0 1,.el 0 0]) (l:=r::l) rfl (by simp) x k hp.le (by simp) (by omega)
 obtain ⟨y,L',hL⟩:∃y L',qC (r::l) k x=y::L':=by
  cases h:qC (r::l) k x with
  | nil=>have:=vX (r::l) k x hp.le; rw [h] at this; simp at this
  | cons y L'=>exact ⟨y,L',rfl⟩
 rw [hL] at wN ⊢
 refine bn aO mixed (aq _) (ar _) Tryz.func116 rfl rfl (by kernel_rfl) ?_
 refine .inr ⟨[0],[.own 0 0 0 [],.agg [.dv (I x.1),.dv (I x.2)]],_,0,_,_,s8 x r l k hp.le (by omega) hp.lo hp.hi,by kernel_rfl,by kernel_rfl,⟨rfl,⟨rf,rf,tv⟩,tv⟩,⟨⟨rfl,rfl⟩,tv⟩,?_⟩
 refine ⟨fun h=>by simp at h,fun _=>?_⟩
 refine ⟨fun _=>⟨by omega,by show (0:Int)<1; omega⟩,.ax 2 ((r::l).map eR),fun _=>rfl,?_⟩
 refine .inr (.inl ⟨[eR x],rfl,⟨rf,rf,tv⟩,by simp [eR,DV.cells]; rfl,?_⟩)
 refine .inr ⟨[0,2],[.own 0 0 0 [.el 0 1,.el 0 0],.dv (I k),.own 1 0 0 []],_,1,_,_,wN,by kernel_rfl,by kernel_rfl,⟨rfl,rf,rfl,tv⟩,⟨⟨rfl,rfl⟩,⟨rfl,rfl⟩,tv⟩,?_⟩
 refine ⟨by kernel_rfl,?_⟩
 refine ⟨fun _=>⟨by omega,by show (0:Int)<1; omega⟩,[.ax 2 ((y::L').map eR)],⟨rfl,tv⟩,.any,rfl,?_⟩
 refine ⟨fun h=>?_,fun _=>?_⟩
 ·exfalso
  have:=of_decide_eq_true h
  rw [List.length_map,List.length_map,←hL,vX _ _ _ hp.le] at this
  omega
 ·exact ⟨_,_,⟨rfl,rfl⟩,by kernel_rfl,tv,⟨rfl,rfl⟩,tv⟩
set_option maxHeartbeats 4000000 in
theorem Kh (x r:Rk) (l:List Rk) (k:Nat) (hl:(r::l).length≤511) (hk:k<(r::l).length) (hp:lI (r::l) k x):bl Tryz.prog 115 [.own 0 0 0 [],.agg [.dv (I x.1),.dv (I x.2)]] 1 (kM false (r::l)) 0 [] [(0,.tree 0 1 (dX false (xi (r::l) k)))]:=by
 have wN:=Ht (D:=dX false (r::l)) (p:=[.el 0 1,.el 0 0]) (l:=r::l) rfl (by simp) k hk (by omega)
 generalize hL:xi (r::l) k=L at wN
 refine vd aO mixed (aq _) (ar _) Tryz.func115 rfl rfl (by kernel_rfl) ?_
 refine .inl (.inr ⟨[0],[.own 0 0 0 [],.agg [.dv (I x.1),.dv (I x.2)]],_,0,_,_,s8 x r l k hp.le (by omega) hp.lo hp.hi,by kernel_rfl,by kernel_rfl,⟨rfl,⟨rf,rf,tv⟩,tv⟩,⟨⟨rfl,rfl⟩,tv⟩,?_⟩)
 refine ⟨fun _=>⟨by omega,by show (0:Int)<1; omega⟩,.ax 2 ((r::l).map eR),fun _=>rfl,?_⟩
 refine ⟨fun _=>⟨by omega,by have:(r::l).length≤511:=hl; omega⟩,?_⟩
 refine .inr ⟨[0],[.own 0 0 0 [.el 0 1,.el 0 0],.dv (I k),.dv (I ((k:Int)+1))],_,1,_,_,wN,by kernel_rfl,by kernel_rfl,⟨rfl,rf,rf,tv⟩,⟨⟨rfl,rfl⟩,tv⟩,?_⟩
 refine ⟨fun _=>⟨by omega,by show (0:Int)<1; omega⟩,[.ax 2 (L.map eR)],⟨rfl,tv⟩,.any,rfl,?_⟩
 refine .inr ⟨[(0,15),(1,15),(2,15),(3,15),(16,15)],by kernel_rfl,qB (pol:=Ei) (by kernel_rfl) (by kernel_rfl),?_⟩
 refine ⟨fun _=>⟨by omega,by show (0:Int)<1; omega⟩,.ax 2 (L.map eR),fun _=>rfl,?_⟩
 refine ⟨.ax 2 (L.map eR),fun _=>rfl,?_⟩
 cases L with
 | nil =>
  refine ⟨fun _=>?_,fun h=>by simp at h⟩
  have hB:=Hu (D:=.cQ (.agg [.fn 33 [],.ax 1 [.ax 2 []]])) (p:=[.el 0 1]) (y:=.ax 2 []) rfl rfl (by simp)
  refine ⟨fun _=>⟨by omega,by omega⟩,?_⟩
  refine .inl (.inr ⟨[0],[.own 0 0 0 [.el 0 1],.dv (I 0),.dv (I 1)],_,1,_,_,hB,by kernel_rfl,by kernel_rfl,⟨rfl,rf,rf,tv⟩,⟨⟨rfl,rfl⟩,tv⟩,?_⟩)
  exact ⟨[.ax 1 []],⟨rfl,tv⟩,_,_,⟨rfl,rfl⟩,by kernel_rfl,tv,⟨rfl,rfl⟩,tv⟩
 | cons y L' =>
  refine ⟨fun h=>by simp at h; omega,fun _=>?_⟩
  exact ⟨_,_,⟨rfl,rfl⟩,by kernel_rfl,tv,⟨rfl,rfl⟩,tv⟩
end Go.Proofs.YtpbdohkbiklflaaGreatDoor
namespace Go.Proofs.YtpbdohkbiklflaaGreatDoor
open Go.TM
variable [cZ]
set_option maxRecDepth 100000
theorem qE (sz:Nat):DV.Le .aG (.sl sz []):=fun M v h=>by cases h; exact .slnil _
set_option maxHeartbeats 4000000 in
theorem B7 (f:Bool) (n:Int):bl Tryz.prog 55 [.own 0 0 0 [],.dv (I n)] 1 (kM f []) 0 [.dv (.sl 2 [])] (kM f []):=by
 cases f
 all_goals
  refine bn aO mixed (aq _) (ar _) Tryz.func55 rfl rfl (by kernel_rfl) ?_
 ·refine ⟨Unit,fun _=>⟨1,[(5,.dv .aG),(12,.dv (I 0)),(13,.dv (I 0))],kM false []⟩,fun _=>True,fun _=>0,(),fun _=>rfl,⟨⟨rf,rf,rf,tv⟩,⟨⟨rfl,rfl⟩,tv⟩,rfl,rfl⟩,tv,?_⟩
  rintro _ _
  refine ⟨fun h=>by simp at h,fun _=>?_⟩
  exact ⟨_,_,⟨rfl,rfl⟩,by kernel_rfl,⟨qE _,tv⟩,⟨rfl,rfl⟩,tv⟩
 ·refine ⟨Unit,fun _=>⟨1,[(5,.dv .aG),(12,.dv (I 0)),(13,.dv (I 0))],kM true []⟩,fun _=>True,fun _=>0,(),fun _=>rfl,⟨⟨rf,rf,rf,tv⟩,⟨⟨rfl,rfl⟩,tv⟩,rfl,rfl⟩,tv,?_⟩
  rintro _ _
  refine ⟨fun h=>by simp at h,fun _=>?_⟩
  exact ⟨_,_,⟨rfl,rfl⟩,by kernel_rfl,⟨qE _,tv⟩,⟨rfl,rfl⟩,tv⟩
def R6 (n:Nat) (l:List Rk) (q:Bool):br:=⟨2,[(0,.own 0 0 0 []),(1,.dv (I n)),(5,.own 1 0 0 []),(11,.own 0 0 0 [.el 0 1]),(12,.dv (I 1)),(13,.dv (I (bif q then 1 else 0)))],[(0,.tree 0 0 (dX false l)),(1,.tree 0 0 (.ax 2 (bif q then (l.take n).map eR else [])))]⟩
theorem PQ {n:Nat} (hn:1≤n):decide ((n:Int)≤(([]:List DV).length:Int))=false:=by simp; omega
set_option maxHeartbeats 4000000 in
theorem B8 (n:Nat) (hn:1≤n) (Kb:n≤9223372036854775807) (r:Rk) (l:List Rk) (hl:(r::l).length≤1000):bl Tryz.prog 55 [.own 0 0 0 [],.dv (I n)] 1 (kM false (r::l)) 0 [.dv (.sl 2 (((r::l).take n).map eR))] (kM false (r::l)):=by
 have yg:(nth tab (nth tab 65).elem).bytes=16:=by kernel_rfl
 refine bn aO mixed (aq _) (ar _) Tryz.func55 rfl rfl (by kernel_rfl) ?_
 refine ⟨Bool,R6 n (r::l),fun _=>True,fun q=>bif q then 0 else 1,false,fun q=>by cases q <;> rfl,⟨⟨rfl,rf,⟨rfl,rfl,rfl,rfl,2,rfl⟩,rfl,rf,rf,tv⟩,⟨⟨rfl,rfl⟩,⟨rfl,rfl,2,rfl⟩,tv⟩,rfl,rfl⟩,tv,?_⟩
 intro q _
 cases q with
 | true =>
  refine ⟨fun h=>by simp at h,fun _=>?_⟩
  refine ⟨_,_,⟨rfl,rfl⟩,by kernel_rfl,⟨?_,tv⟩,⟨rfl,rfl⟩,tv⟩
  show DV.Le (.sl 2 (Ho (((r::l).take n).map eR))) _
  rw [tS fun x=>rfl]
  exact rf
 | false =>
  refine ⟨fun _=>?_,fun h=>by simp at h⟩
  refine ⟨fun _=>⟨by show (0:Int)≤0; omega,by show (0:Int)<1; omega⟩,.ax 2 ((r::l).map eR),fun _=>rfl,?_⟩
  refine ⟨fun h=>absurd ((PQ hn).symm.trans h) (by simp),fun _=>?_⟩
  refine ⟨.ax 2 ((r::l).map eR),fun _=>rfl,?_⟩
  refine ⟨fun _=>⟨by show (-9223372036854775808:Int)≤(n:Int) - 0; omega,by show (n:Int) - 0≤9223372036854775807; omega⟩,?_⟩
  refine .inr (.inl ⟨.ax 2 ((r::l).map eR),fun _=>rfl,fun _=>⟨Int.le_refl _,?_,?_⟩,?_⟩)
  ·show (0:Int)≤if (n:Int) - 0<(((r::l).map eR).length:Int) then (n:Int) - 0 else (((r::l).map eR).length:Int)
   split <;> omega
  ·show (if (n:Int) - 0<(((r::l).map eR).length:Int) then (n:Int) - 0 else (((r::l).map eR).length:Int))≤(((r::l).map eR).length:Int)
   split <;> omega
  have hM:((((r::l).map eR).drop 0).take ((if (n:Int) - 0<(((r::l).map eR).length:Int) then (n:Int) - 0 else (((r::l).map eR).length:Int)).toNat - 0))=((r::l).take n).map eR:=by
   rw [List.drop_zero,List.map_take]
   split
   ·rename_i h; rw [show ((n:Int) - 0).toNat - 0=n by omega]
   ·rename_i h
    rw [show (((((r::l).map eR).length:Int)).toNat - 0)=((r::l).map eR).length by omega,List.take_length,List.take_of_length_le (by omega)]
  have hz:(((r::l).take n).map eR).length≤1000:=by simp; simp at hl; omega
  refine .inr ⟨.ax 2 ((r::l).map eR),fun _=>rfl,?_,Ab _,((r::l).take n).map eR,?_,?_,?_,?_⟩
  ·show (0:Nat)+((if (n:Int) - 0<(((r::l).map eR).length:Int) then (n:Int) - 0 else (((r::l).map eR).length:Int)).toNat - 0)≤((r::l).map eR).length
   split <;> omega
  ·show eJ ((((r::l).map eR).drop 0).take ((if (n:Int) - 0<(((r::l).map eR).length:Int) then (n:Int) - 0 else (((r::l).map eR).length:Int)).toNat - 0)) _
   rw [hM]; exact eJ.refl _
  ·rw [yg]; show (0+(((r::l).take n).map eR).length) * 16≤_; omega
  ·show 0+(((r::l).take n).map eR).length≤_; omega
  ·refine ⟨fun _=>⟨by show (-9223372036854775808:Int)≤0+1; omega,by show (0:Int)+1≤9223372036854775807; omega⟩,?_⟩
   exact ⟨true,⟨⟨rfl,rf,rfl,rfl,rf,rf,tv⟩,⟨⟨rfl,rfl⟩,⟨rfl,rfl⟩,tv⟩,rfl,rfl⟩,tv,by decide⟩
end Go.Proofs.YtpbdohkbiklflaaGreatDoor
namespace Go.Proofs.YtpbdohkbiklflaaGreatDoor
open Go.TM
variable [cZ]
abbrev Ky:=Int × Int
def wU (k:Ky):DV:=.agg [I k.1,I k.2]
abbrev HM:=List (Ky × Int)
def qF (p:Ky × Int):DV:=.fa (wU p.1) (I p.2)
def bm:HM→Ky→Option Int
 | [],_=>none
 | p::r,k=>if p.1=k then some p.2 else bm r k
def bM:HM→Ky→Int→HM
 | [],k,x=>[(k,x)]
 | p::r,k,x=>if p.1=k then (k,x)::r else p::bM r k x
def iD:HM→Ky→HM
 | [],_=>[]
 | p::r,k=>if p.1=k then r else p::iD r k
def hv (m:HM) (k:Ky):Int:=(bm m k).getD 0
theorem En (a b:Ky):tE (wU a) (wU b)=decide (a=b):=by
 obtain ⟨a1,a2⟩:=a
 obtain ⟨b1,b2⟩:=b
 simp only [wU,tE,yR,AS,Prod.mk.injEq]
 simp
 try rw [Bool.eq_iff_iff]; simp
theorem Eo (k:Ky):∀m:HM,bH (m.map qF) (wU k)=(bm m k).map I
 | []=>rfl
 | p::r=>by
  simp only [List.map_cons,qF,bH,En,bm]
  by_cases h:p.1=k
  ·simp [h]
  ·simp only [h,decide_false,cond_false,if_false]
   exact Eo k r
theorem rZ (k:Ky) (x:Int):∀m:HM,eu (m.map qF) (wU k) (I x)=(bM m k x).map qF
 | []=>rfl
 | p::r=>by
  simp only [List.map_cons,qF,eu,En,bM]
  by_cases h:p.1=k
  ·simp [h,qF]
  ·simp only [h,decide_false,cond_false,if_false,List.map_cons]
   have:=rZ k x r
   rw [this]
   rfl
theorem Ki (k:Ky):∀m:HM,fB (m.map qF) (wU k)=(iD m k).map qF
 | []=>rfl
 | p::r=>by
  simp only [List.map_cons,qF,fB,En,iD]
  by_cases h:p.1=k
  ·simp [h]
  ·simp only [h,decide_false,cond_false,if_false,List.map_cons]
   have:=Ki k r
   rw [this]
   rfl
structure Sl where
 tick:Int
 n:Int
 c:Int
 gn:Int
 gr:Int
def bT (x:Sl):DV:=.agg [I x.tick,I x.n,I x.c,I x.gn,I x.gr]
def To:Bool→List Sl→DV
 | true,_=>.aG
 | false,l=>.ax 5 (l.map bT)
structure Vs where
 coin:Int
 ab:Int
 aC:Int
 last:Int
 work:Int
 H:HM
 dm:List Int
 rk:List (Bool × List Rk)
 sl:List (Bool × List Sl)
 bQ:List Int
def Gf (x:Bool × List Rk):DV:=dX x.1 x.2
def mA (x:Bool × List Sl):DV:=To x.1 x.2
def vC (f:Bool) (s:Vs):List AV:=[.dv (I 4),.dv (I s.coin),.dv (I s.ab),.dv (I s.aC),.dv (I s.last),.dv (I s.work),.own 1 0 0 [],.own 2 0 0 [],.own 3 0 (bif f then 1 else 0) [],.own 4 0 0 [],.own 5 0 0 []]
def vK (f:Bool) (s:Vs):ah:=[(0,.cells (vC f s)),(1,.tree 0 0 (.omap eg (s.H.map qF))),(2,.tree 0 0 (iJ s.dm)),(3,.tree 0 (bif f then 1 else 0) (.ax 1 (s.rk.map Gf))),(4,.tree 0 0 (.ax 1 (s.sl.map mA))),(5,.tree 0 0 (iJ s.bQ))]
where
 iJ (l:List Int):DV:=.ax 1 (l.map I)
def oi (l:List Rk) (x:Rk):Nat:=l.countP fun y=>km y x
def r5 (l:List Rk) (x:Rk):List Rk:=qC l (oi l x) x
def lJ (l:List Rk) (x:Rk):List Rk:=xi l (oi l x)
theorem Gg {L:List DV} {i:Nat} {c:DV} (h:L[i]?=some c) (hc:c.af=true):TM.step (.ax 1 L) (.el i 0)=some c:=by
 have iy:c.cells=[c]:=by cases c <;> first | rfl | cases hc
 show (match L[i]? with | some x=>x.cells[0]? | none=>none)=_
 rw [h]
 show c.cells[0]?=_
 rw [iy]; rfl
theorem tT {L:List DV} {i:Nat} {c c':DV} (h:L[i]?=some c) (hc:c.af=true) (mo:c'.ak=true):bL (.ax 1 L) [.el i 0] c'=.ax 1 (L.set i c'):=by
 simp only [bL,Gg h hc]
 show (match L[i]? with | some x=>DV.ax 1 (L.set i (pK x 0 c')) | none=>DV.ax 1 L)=_
 rw [h]
 cases c <;> first | (cases hc; done) | simp [pK,mo]
theorem vZ {L:List DV} {i:Nat} {c:DV} (h:L[i]?=some c) (hc:c.af=true):TM.get (.ax 1 L) [.el i 0]=some c:=by
 simp only [TM.get,Gg h hc]
set_option maxRecDepth 100000
theorem yh {L:List DV} {i:Nat} {l:List Rk} (h:L[i]?=some (dX false l)) (x:Rk) (hl:l.length≤511) (hk:oi l x<l.length) (hp:lI l (oi l x) x) :
  bl Tryz.prog 115 [.own 0 0 0 [.el i 0],.agg [.dv (I x.1),.dv (I x.2)]] 1 [(0,.tree 0 0 (.ax 1 L))] 0 [] [(0,.tree 0 2 (.ax 1 (L.set i (dX false (lJ l x)))))]:=by
 obtain ⟨r,l',rfl⟩:∃r l',l=r::l':=by
  cases l with
  | nil=>simp at hk
  | cons r l'=>exact ⟨r,l',rfl⟩
 have:=pf (p:=[.el i 0]) (D:=.ax 1 L) (Kh x r l' _ hl hk hp) (vZ h rfl) (by simp) rfl rfl rfl rfl
 rw [tT h rfl rfl] at this
 exact this
theorem yi {L:List DV} {i:Nat} {f:Bool} {l:List Rk} (h:L[i]?=some (dX f l)) (hf:f=true→l=[]) (x:Rk) (hl:l.length≤511) (hp:lI l (oi l x) x) :
  bl Tryz.prog 116 [.own 0 0 0 [.el i 0],.agg [.dv (I x.1),.dv (I x.2)]] 1 [(0,.tree 0 0 (.ax 1 L))] 0 [] [(0,.tree 0 2 (.ax 1 (L.set i (dX false (r5 l x)))))]:=by
 cases l with
 | nil =>
  have:=pf (p:=[.el i 0]) (D:=.ax 1 L) (Hv f x) (vZ h rfl) (by simp) rfl rfl rfl rfl
  rw [tT h rfl rfl] at this
  exact this
 | cons r l' =>
  cases f with
  | true=>have:=hf rfl; cases this
  | false =>
   have:=pf (p:=[.el i 0]) (D:=.ax 1 L) (Hw x r l' _ hl hp) (vZ h rfl) (by simp) rfl rfl rfl rfl
   rw [tT h rfl rfl] at this
   exact this
theorem gT:rH Tryz.prog (nth tab 74).key eg:=xT aO (by kernel_rfl)
def cF (s:Vs) (k:Ky) (i:Nat) (now:Int):Vs :=
 if hv s.H k=now then s else
 let s1:={ s with work:=s.work+1,dm:=s.dm.set i (s.dm.getD i 0+(now - hv s.H k)),H:=if now=0 then iD s.H k else bM s.H k now }
 if 1048576≤k.1 then s1 else
 let l0:=(s.rk.getD i (true,[])).2
 let l1:=if hv s.H k ≠ 0 then lJ l0 (k.1,hv s.H k) else l0
 let f1:=if hv s.H k ≠ 0 then false else (s.rk.getD i (true,[])).1
 let r2:=if now ≠ 0 then (false,r5 l1 (k.1,now)) else (f1,l1)
 {s1 with rk:=s.rk.set i r2 }
def cu (s:Vs) (k:Ky) (now:Int):Bool:=!decide (hv s.H k=now) && !decide (1048576≤k.1)
structure Kj (s:Vs) (k:Ky) (i:Nat) (now:Int):Prop where
 it:k.2=(i:Int)
 tl:i<s.dm.length
 rl:i<s.rk.length
 nb:0≤now∧now≤4611686018427387904
 hb:0≤hv s.H k∧hv s.H k≤4611686018427387904
 tb:-4611686018427387904≤s.dm.getD i 0∧s.dm.getD i 0≤4611686018427387904∧s.dm.getD i 0+(now - hv s.H k)≤4611686018427387904∧-4611686018427387904≤s.dm.getD i 0+(now - hv s.H k)
 wb:0≤s.work∧s.work≤4611686018427387904
 ll:(s.rk.getD i (true,[])).2.length≤510
 lf:(s.rk.getD i (true,[])).1=true→(s.rk.getD i (true,[])).2=[]
 rem:k.1<1048576→hv s.H k ≠ 0→oi (s.rk.getD i (true,[])).2 (k.1,hv s.H k)<(s.rk.getD i (true,[])).2.length∧lI (s.rk.getD i (true,[])).2 (oi (s.rk.getD i (true,[])).2 (k.1,hv s.H k)) (k.1,hv s.H k)
 ins:k.1<1048576→now ≠ 0→∀l1,l1=(if hv s.H k ≠ 0 then lJ (s.rk.getD i (true,[])).2 (k.1,hv s.H k) else (s.rk.getD i (true,[])).2)→lI l1 (oi l1 (k.1,now)) (k.1,now)
set_option maxHeartbeats 4000000 in
theorem B9 (s:Vs) (k:Ky) (i:Nat) (now:Int) (ok:Kj s k i now):bl Tryz.prog 53 [.ptr 0 0,.agg [.dv (I k.1),.dv (I k.2)],.dv (I now)] 6 (vK false s) 0 [] (vK (cu s k now) (cF s k i now)):=by
 obtain ⟨a,it⟩:=k
 obtain rfl:it=(i:Int):=ok.it
 refine bn aO mixed (aq _) (ar _) Tryz.func53 rfl rfl (by kernel_rfl) ?_
 have hg:bH (s.H.map qF) (wU (a,(i:Int)))=bif (bm s.H (a,(i:Int))).isSome then some (I (hv s.H (a,(i:Int)))) else none:=by
  rw [Eo]
  unfold hv
  cases bm s.H (a,(i:Int)) <;> rfl
 refine ⟨gT,wU (a,(i:Int)),rfl,rfl,I (hv s.H (a,(i:Int))),(bm s.H (a,(i:Int))).isSome,fun _=>hg,fun h=>?_,rfl,?_⟩
 ·unfold hv
  cases hq:bm s.H (a,(i:Int)) with
  | none=>rfl
  | some x=>rw [hq] at h; cases h
 have YR:=ok.nb
 have YS:=ok.hb
 have YT:=ok.tb
 have YU:=ok.wb
 have ht:s.dm[i]?=some (s.dm.getD i 0):=by rw [List.getD_eq_getElem?_getD,List.getElem?_eq_getElem ok.tl]; rfl
 generalize hb:hv s.H (a,(i:Int))=before at *
 refine ⟨by kernel_rfl,fun he=>?_,fun bB=>?_⟩
 ·have he:before=now:=by simpa using he
  rw [show cF s (a,(i:Int)) i now=s by simp only [cF]; rw [if_pos (hb.trans he)],show cu s (a,(i:Int)) now=false by simp only [cu]; rw [hb,he]; simp]
  exact ⟨_,_,⟨rfl,rfl⟩,by kernel_rfl,tv,⟨rf,rf,rf,rf,rf,rf,rfl,rfl,rfl,rfl,rfl,tv⟩,⟨rfl,rfl⟩,⟨rfl,rfl⟩,⟨rfl,rfl⟩,⟨rfl,rfl⟩,⟨rfl,rfl⟩,tv⟩
 have bB:before ≠ now:=by simpa using bB
 refine ⟨fun _=>⟨by omega,by omega⟩,?_⟩
 have Kk:(i:Int)<((s.dm.map I).length:Int):=by rw [List.length_map]; have:=ok.tl; omega
 refine ⟨fun _=>⟨by show (0:Int)≤(i:Int); omega,Kk⟩,I (s.dm.getD i 0),fun _=>by show (s.dm.map I)[((i:Int)).toNat]?=_; rw [Int.toNat_natCast,List.getElem?_map,ht]; rfl,?_⟩
 refine ⟨fun _=>⟨by omega,by omega⟩,?_⟩
 refine ⟨fun _=>⟨by omega,by omega⟩,?_⟩
 have jO:(s.dm.map I)[((i:Int)).toNat]?=some (I (s.dm.getD i 0)):=by rw [Int.toNat_natCast,List.getElem?_map,ht]; rfl
 refine ⟨fun _=>⟨by show (0:Int)≤(i:Int); omega,Kk⟩,[I (s.dm.getD i 0+(now - before))],⟨rf,tv⟩,I (s.dm.getD i 0),jO,?_⟩
 have b2:DV.ax 1 ((s.dm.map I).set i (I (s.dm.getD i 0+(now - before))))=vK.iJ (s.dm.set i (s.dm.getD i 0+(now - before))):=by simp only [vK.iJ,List.map_set]
 have b1:DV.omap eg (fB (s.H.map qF) (wU (a,(i:Int))))=.omap eg ((iD s.H (a,(i:Int))).map qF):=by rw [Ki]
 have UO:DV.omap eg (eu (s.H.map qF) (wU (a,(i:Int))) (I now))=.omap eg ((bM s.H (a,(i:Int)) now).map qF):=by rw [rZ]
 have Tp:(i:Int)<((s.rk.map Gf).length:Int):=by rw [List.length_map]; have:=ok.rl; omega
 have PR:s.rk[i]?=some (s.rk.getD i (true,[])):=by rw [List.getD_eq_getElem?_getD,List.getElem?_eq_getElem ok.rl]; rfl
 have N7:(s.rk.map Gf)[((i:Int)).toNat]?=some (Gf (s.rk.getD i (true,[]))):=by rw [Int.toNat_natCast,List.getElem?_map,PR]; rfl
 have XW:=ok.ll
 have Tq:=ok.lf
 have Tr:=ok.rem
 have Ts:=ok.ins
 rw [hb] at Tr Ts
 generalize iE:s.rk.getD i (true,[])=q0 at *
 obtain ⟨f0,l0⟩:=q0
 simp only at XW Tq Tr Ts
 have PT:(s.rk.map Gf)[i]?=some (dX f0 l0):=by rw [List.getElem?_map,PR]; rfl
 refine ⟨by kernel_rfl,fun h0=>?_,fun h0=>?_⟩
 ·have h0:now=0:=by simpa using h0
  subst h0
  refine ⟨gT,wU (a,(i:Int)),rfl,rfl,by kernel_rfl,fun hp=>?_,fun hp=>?_⟩
  ·have hp:1048576≤a:=of_decide_eq_true hp
   rw [show cF s (a,(i:Int)) i 0={ s with work:=s.work+1,dm:=s.dm.set i (s.dm.getD i 0+(0 - before)),H:=iD s.H (a,(i:Int)) } by simp only [cF,hb]; rw [if_neg bB,if_pos hp]; rfl,show cu s (a,(i:Int)) 0=false by simp only [cu]; simp [hp]]
   exact ⟨_,_,⟨rfl,rfl⟩,by kernel_rfl,tv,⟨rf,rf,rf,rf,rf,rf,rfl,rfl,rfl,rfl,rfl,tv⟩,⟨rfl,b1⟩,⟨rfl,b2⟩,⟨rfl,rfl⟩,⟨rfl,rfl⟩,⟨rfl,rfl⟩,tv⟩
  ·have hp:a<1048576:=by have:=of_decide_eq_false hp; simp only at this; omega
   refine ⟨fun _=>?_,fun h=>absurd h (by simpa using bB)⟩
   refine ⟨fun _=>⟨by show (0:Int)≤(i:Int); omega,Tp⟩,dX f0 l0,fun _=>N7,?_⟩
   obtain ⟨r1,r2⟩:=Tr hp bB
   obtain rfl:f0=false:=by
    cases f0 with
    | false=>rfl
    | true=>rw [Tq rfl] at r1; simp at r1
   have PU:=yh PT (a,before) (by omega) r1 r2
   refine .inr ⟨[3],[.own 0 0 0 [.el i 0],.agg [.dv (I a),.dv (I before)]],[(0,.tree 0 0 (.ax 1 (s.rk.map Gf)))],0,_,_,PU,by kernel_rfl,by kernel_rfl,⟨rfl,⟨rf,rf,tv⟩,tv⟩,⟨⟨rfl,rfl⟩,tv⟩,?_⟩
   refine ⟨by kernel_rfl,fun h=>absurd h (by simp),fun _=>?_⟩
   rw [show cF s (a,(i:Int)) i 0={ s with work:=s.work+1,dm:=s.dm.set i (s.dm.getD i 0+(0 - before)),H:=iD s.H (a,(i:Int)),rk:=s.rk.set i (false,lJ l0 (a,before)) } by simp only [cF,hb]; rw [if_neg bB,if_neg (by omega)]; simp only [iE,ne_eq,not_true_eq_false,if_false,bB,not_false_eq_true,if_true],show cu s (a,(i:Int)) 0=true by simp only [cu,hb]; simp [bB]; omega]
   exact ⟨_,_,⟨rfl,rfl⟩,by kernel_rfl,tv,⟨rf,rf,rf,rf,rf,rf,rfl,rfl,rfl,rfl,rfl,tv⟩,⟨rfl,b1⟩,⟨rfl,b2⟩,⟨rfl,by simp only [List.map_set]; rfl⟩,⟨rfl,rfl⟩,⟨rfl,rfl⟩,tv⟩
 ·have h0:now ≠ 0:=by simpa using h0
  refine ⟨gT,wU (a,(i:Int)),rfl,rfl,I now,⟨rf,tv⟩,rfl,false,fun _=>⟨?_,?_⟩,by kernel_rfl,fun hp=>?_,fun hp=>?_⟩
  ·intro x hx d hd
   rw [hg] at hx
   cases hk:(bm s.H (a,(i:Int))).isSome with
   | false=>rw [hk] at hx; cases hx
   | true=>rw [hk] at hx; injection hx with hx; subst hx; simp [DV.cells] at hd; subst hd; rfl
  ·intro d hd
   simp [DV.cells] at hd; subst hd; rfl
  ·have hp:1048576≤a:=of_decide_eq_true hp
   rw [show cF s (a,(i:Int)) i now={ s with work:=s.work+1,dm:=s.dm.set i (s.dm.getD i 0+(now - before)),H:=bM s.H (a,(i:Int)) now } by simp only [cF,hb]; rw [if_neg bB,if_pos hp,if_neg h0],show cu s (a,(i:Int)) now=false by simp only [cu]; simp [hp]]
   exact ⟨_,_,⟨rfl,rfl⟩,by kernel_rfl,tv,⟨rf,rf,rf,rf,rf,rf,rfl,rfl,rfl,rfl,rfl,tv⟩,⟨rfl,UO⟩,⟨rfl,b2⟩,⟨rfl,rfl⟩,⟨rfl,rfl⟩,⟨rfl,rfl⟩,tv⟩
  ·have hp:a<1048576:=by have:=of_decide_eq_false hp; simp only at this; omega
   refine ⟨fun MB=>?_,fun MB=>?_⟩
   ·have MB:before ≠ 0:=by simpa using MB
    refine ⟨fun _=>⟨by show (0:Int)≤(i:Int); omega,Tp⟩,dX f0 l0,fun _=>N7,?_⟩
    obtain ⟨r1,r2⟩:=Tr hp MB
    obtain rfl:f0=false:=by
     cases f0 with
     | false=>rfl
     | true=>rw [Tq rfl] at r1; simp at r1
    have PU:=yh PT (a,before) (by omega) r1 r2
    refine .inr ⟨[3],[.own 0 0 0 [.el i 0],.agg [.dv (I a),.dv (I before)]],[(0,.tree 0 0 (.ax 1 (s.rk.map Gf)))],0,_,_,PU,by kernel_rfl,by kernel_rfl,⟨rfl,⟨rf,rf,tv⟩,tv⟩,⟨⟨rfl,rfl⟩,tv⟩,?_⟩
    refine ⟨by kernel_rfl,fun _=>?_,fun h=>absurd h (by simpa using h0)⟩
    have R7:(lJ l0 (a,before)).length≤511:=by unfold lJ; rw [B6 _ _ r1]; omega
    have iK:((s.rk.map Gf).set i (dX false (lJ l0 (a,before))))[i]?=some (dX false (lJ l0 (a,before))):=by rw [List.getElem?_set_self (by rw [List.length_map]; exact ok.rl)]
    have PV:=yi iK (fun h=>by cases h) (a,now) R7 (Ts hp h0 _ (by rw [if_pos MB]))
    refine ⟨fun _=>⟨by show (0:Int)≤(i:Int); omega,by rw [List.length_set]; exact Tp⟩,dX false (lJ l0 (a,before)),fun _=>iK,?_⟩
    refine .inr ⟨[3],[.own 0 0 0 [.el i 0],.agg [.dv (I a),.dv (I now)]],[(0,.tree 0 0 (.ax 1 ((s.rk.map Gf).set i (dX false (lJ l0 (a,before))))))],0,_,_,PV,by kernel_rfl,by kernel_rfl,⟨rfl,⟨rf,rf,tv⟩,tv⟩,⟨⟨rfl,rfl⟩,tv⟩,?_⟩
    refine ⟨by kernel_rfl,?_⟩
    rw [show cF s (a,(i:Int)) i now={ s with work:=s.work+1,dm:=s.dm.set i (s.dm.getD i 0+(now - before)),H:=bM s.H (a,(i:Int)) now,rk:=s.rk.set i (false,r5 (lJ l0 (a,before)) (a,now)) } by simp only [cF,hb]; rw [if_neg bB,if_neg (by omega)]; simp only [iE,ne_eq,h0,if_false,MB,not_false_eq_true,if_true],show cu s (a,(i:Int)) now=true by simp only [cu,hb]; simp [bB]; omega]
    exact ⟨_,_,⟨rfl,rfl⟩,by kernel_rfl,tv,⟨rf,rf,rf,rf,rf,rf,rfl,rfl,rfl,rfl,rfl,tv⟩,⟨rfl,UO⟩,⟨rfl,b2⟩,⟨rfl,by rw [List.set_set,List.map_set]; rfl⟩,⟨rfl,rfl⟩,⟨rfl,rfl⟩,tv⟩
   ·have MB:before=0:=by simpa using MB
    subst MB
    refine ⟨fun _=>?_,fun h=>absurd h (by simpa using h0)⟩
    refine ⟨fun _=>⟨by show (0:Int)≤(i:Int); omega,Tp⟩,dX f0 l0,fun _=>N7,?_⟩
    have PV:=yi PT Tq (a,now) (by omega) (Ts hp h0 _ (by rw [if_neg (by simp)]))
    refine .inr ⟨[3],[.own 0 0 0 [.el i 0],.agg [.dv (I a),.dv (I now)]],[(0,.tree 0 0 (.ax 1 (s.rk.map Gf)))],0,_,_,PV,by kernel_rfl,by kernel_rfl,⟨rfl,⟨rf,rf,tv⟩,tv⟩,⟨⟨rfl,rfl⟩,tv⟩,?_⟩
    refine ⟨by kernel_rfl,?_⟩
    rw [show cF s (a,(i:Int)) i now={ s with work:=s.work+1,dm:=s.dm.set i (s.dm.getD i 0+(now - 0)),H:=bM s.H (a,(i:Int)) now,rk:=s.rk.set i (false,r5 l0 (a,now)) } by simp only [cF,hb]; rw [if_neg bB,if_neg (by omega)]; simp only [iE,ne_eq,h0,if_false,not_true_eq_false,not_false_eq_true,if_true],show cu s (a,(i:Int)) now=true by simp only [cu,hb]; simp [bB]; omega]
    exact ⟨_,_,⟨rfl,rfl⟩,by kernel_rfl,tv,⟨rf,rf,rf,rf,rf,rf,rfl,rfl,rfl,rfl,rfl,tv⟩,⟨rfl,UO⟩,⟨rfl,b2⟩,⟨rfl,by simp only [List.map_set]; rfl⟩,⟨rfl,rfl⟩,⟨rfl,rfl⟩,tv⟩
end Go.Proofs.YtpbdohkbiklflaaGreatDoor
