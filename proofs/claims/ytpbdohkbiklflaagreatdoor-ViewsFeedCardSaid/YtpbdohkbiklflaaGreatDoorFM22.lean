import Derived.Test.YtpbdohkbiklflaaGreatDoorFM21
set_option linter.unusedVariables false
set_option linter.unusedSimpArgs false
set_option linter.unusedSectionVars false
namespace Go.Proofs.YtpbdohkbiklflaaGreatDoor
open Go.TM Go.RowKit Go.Lib
variable [cu]
def qQ (b off n i:Nat) (cc:Array Value) (x0 x1:Value) (w:World) (e:Ending) (w':World):Prop :=
 ∃g o cp c' t',e=.returned (.slice (some ⟨g,o,none⟩) (n+1) cp)∧n+1≤cp∧w'.heap[g]?=some (.cells c' t' (0,0))∧o+cp * 2≤c'.size∧(∀k,k<i * 2→c'[o+k]?=cc[off+k]?)∧c'[o+i * 2]?=some x0∧c'[o+i * 2+1]?=some x1 ∧
  (∀k,k<(n - i) * 2→c'[o+(i+1) * 2+k]?=cc[off+i * 2+k]?)∧w.grownBy w' (some b)∧(g=b ∨ w.heap.size≤g)
set_option maxHeartbeats 4000000 in
set_option maxRecDepth 100000 in
theorem H7 (b off n c i vb vo vc:Nat) (cc vv:Array Value) (tt vt:TypeId) (x0 x1:Value) (w:World) (hw:w.heap[b]?=some (.cells cc tt (0,0))) (hv:w.heap[vb]?=some (.cells vv vt (0,0))) (ke:vv[vo]?=some x0) (IY:vv[vo+1]?=some x1) (T9:vb ≠ b)
  (SI:n+1≤c) (hi:i<n) (cB:off+c * 2≤cc.size) (KR:n<9223372036854775807)
  (h1:∀k v,off≤k→k<off+n * 2→cc[k]?=some v→v.oneCell'=true) (GM:x0.oneCell'=true) (Cr:x1.oneCell'=true) :
  Calls Tryz.prog 129 #[.slice (some ⟨b,off,none⟩) n c,.int .i64 (i:Int),.slice (some ⟨vb,vo,none⟩) 1 vc] w (qQ b off n i cc x0 x1 w):=by
 have mixed:=Go.Proofs.YtpbdohkbiklflaaGreatDoor.mixed
 obtain ⟨i0,EU,DG,nu,M6⟩:=info_parts (show (Tryz.prog.info? 82).map (fun i=>(i.zero,i.size,i.bytes))=some (some (.agg #[.int .i64 0,.int .i64 0]),2,16) by kernel_rfl)
 have DF:w.drew.heap[b]?=some (.cells cc tt (0,0)):=hw
 have Yn:∀lb cb,(callFunc 138 #[.slice (some ⟨vb,vo,none⟩) 1 vc,.slice (some ⟨b,off+(i+1) * 2,none⟩) lb cb]).run Tryz.prog w=.ok (.value (.bool false)) w:=fun lb cb=>by
  rw [run_callFunc_extern Tryz.func138 (by kernel_rfl) (by kernel_rfl) (by kernel_rfl) (e:=Extern.SlicesOverlaps.overlaps #[65,65] #[4]) (by kernel_rfl),
   Lib.run_overlaps_apart w 65 4 82 Tryz.underlying65 2 (fun w=>by simp [Go.sizeOf,typeInfo,EU,nu]) ⟨vb,vo,none⟩ ⟨b,off+(i+1) * 2,none⟩ 1 vc lb cb T9 vt tt vv.size cc.size (by simp [World.shape?,hv]) (by simp [World.shape?,hw]) (by omega) (by simp [World.frozen?,hv]) (by simp [World.frozen?,hv])]
  rfl
 have l1:=cX cc (off+i * 2) ((n - i) * 2)
 obtain ⟨c1,gB⟩:∃c1,c1=over cc (off+(i+1) * 2) (jH cc (off+i * 2) ((n - i) * 2)):=⟨_,rfl⟩
 obtain ⟨W1,iX⟩:∃W1,W1=w.drew.setRow b c1:=⟨_,rfl⟩
 have eZ:c1.size=cc.size:=by rw [gB,fP _ _ _ (by rw [l1]; omega)]
 have xg:W1.heap[b]?=some (.cells c1 tt (0,0)):=by rw [iX]; exact setRow_heap w.drew b cc _ tt _ DF
 have EM:W1.heap[vb]?=some (.cells vv vt (0,0)):=by rw [iX,setRow_other _ _ _ _ T9]; exact hv
 have Vz:∀ty dc sc,(Builtin.copy_ #[65,65] ty #[.slice (some ⟨b,off+(i+1) * 2,none⟩) (n - i) dc,.slice (some ⟨b,off+i * 2,none⟩) (n+1 - i) sc]).run Tryz.prog w.drew=.ok (goInt (n - i:Nat)) W1:=fun ty dc sc=>by
  rw [iX,gB]
  refine run_copy_row 65 82 ty i0 Tryz.underlying65 EU DF _ _ dc ⟨b,off+i * 2,none⟩ _ sc (n - i) _ (by simp only [Nat.min_def]; split <;> omega) (fun j u hu=>?_) (by rw [l1,nu]) (fun u hu=>?_) (by rw [l1]; omega)
  ·have hj:j<(n - i) * 2:=by have:=(List.getElem?_eq_some_iff.1 hu).1; rwa [l1] at this
   rw [eI cc _ _ j hj (by omega)] at hu
   rw [cE,ik DF]; exact hu
  ·obtain ⟨k,hk,rfl⟩:=List.getElem_of_mem hu
   have ey:k<(n - i) * 2:=by rwa [l1] at hk
   have h2:=eI cc (off+i * 2) ((n - i) * 2) k ey (by omega)
   rw [List.getElem?_eq_getElem hk] at h2
   exact h1 (off+i * 2+k) _ (by omega) (by omega) h2.symm
 obtain ⟨c2,fW⟩:∃c2,c2=over c1 (off+i * 2) [x0,x1]:=⟨_,rfl⟩
 have Yo:∀ty dc,(Builtin.copy_ #[65,65] ty #[.slice (some ⟨b,off+i * 2,none⟩) (n+1 - i) dc,.slice (some ⟨vb,vo,none⟩) 1 vc]).run Tryz.prog W1=.ok (goInt (1:Nat)) (W1.setRow b c2):=fun ty dc=>by
  rw [fW]
  refine run_copy_row 65 82 ty i0 Tryz.underlying65 EU xg _ _ dc ⟨vb,vo,none⟩ _ vc 1 _ (by simp only [Nat.min_def]; split <;> omega) (fun j u hu=>?_) (by simp [nu]) (fun u hu=>?_) (by simp; omega)
  ·rw [cE,ik EM]
   match j,hu with
   | 0,hu=>simp at hu; subst hu; exact ke
   | 1,hu=>simp at hu; subst hu; exact IY
   | j+2,hu=>simp at hu
  ·simp at hu
   rcases hu with rfl | rfl
   ·exact GM
   ·exact Cr
 have Qs:Hid (W1=w.drew.setRow b c1):=iX
 have SJ:Hid (c1=over cc (off+(i+1) * 2) (jH cc (off+i * 2) ((n - i) * 2))):=gB
 have SK:Hid (c2=over c1 (off+i * 2) [x0,x1]):=fW
 clear iX gB fW xg EM
 have Qt:¬ ((i:Int)=(n:Int)):=by omega
 have xg:IntKind.i64.wrap ((i:Int)+1)=(i:Int)+1:=by rw [IntKind.wrap_i64]; omega
 have Qi:IntKind.i64.wrap ((n:Int)+1)=(n:Int)+1:=by rw [IntKind.wrap_i64]; omega
 have jV:(0:Int)≤(i:Int)+1:=by omega
 have ek:i≤n:=by omega
 have cw:¬ (c=i+1):=by omega
 have xe:(i:Int)≤(n:Int)+1:=by omega
 have T4:¬ (c=i):=by omega
 have Yp:¬ ((c:Int)<(n:Int)+1):=by omega
 have Zu:(0:Int)≤(n:Int)+1:=by omega
 have Yq:(i:Int)+1≤(n:Int)+1:=by omega
 have oQ:(n:Int)+1≤(c:Int):=by omega
 go_enter Tryz.func129,Tryz.ntmps129
 go_wp2_with (simp only [Yn])
 go_region_law_o (refine step_copy_runI rfl _ _ 65 65 rfl _ _ (by simp [Act.eval,Act.put]) (by simp [Act.eval,Act.put]) (Vz _ _ _) ?_)
 go_wp2
 go_ret
 have iX:=Qs.out
 have gB:=SJ.out
 have fW:=SK.out
 have xg:W1.heap[b]?=some (.cells c1 tt (0,0)):=by rw [iX]; exact setRow_heap w.drew b cc _ tt _ DF
 have gE:(W1.setRow b c2).heap[b]?=some (.cells c2 tt (0,0)):=setRow_heap W1 b c1 _ tt _ xg
 have e2:∀k,c2[k]?=if off+i * 2≤k∧k<off+i * 2+2 then [x0,x1][k - (off+i * 2)]? else c1[k]?:=fun k=>by rw [fW,fv _ _ _ (by simp; omega)]; rfl
 have e1:∀k,c1[k]?=if off+(i+1) * 2≤k∧k<off+(i+1) * 2+(n - i) * 2 then (jH cc (off+i * 2) ((n - i) * 2))[k - (off+(i+1) * 2)]? else cc[k]?:=fun k=>by rw [gB,fv _ _ _ (by rw [l1]; omega),l1]
 refine ⟨b,off,c,c2,tt,rfl,SI,gE,?_,fun k hk=>?_,?_,?_,fun k hk=>?_,⟨by rw [iX]; rfl,by rw [iX]; rfl,by rw [iX]; rfl,by rw [iX]; simp,fun q hq bD=>?_⟩,.inl rfl⟩
 ·rw [fW,fP _ _ _ (by simp; omega),eZ]; exact cB
 ·rw [e2,if_neg (by omega),e1,if_neg (by omega)]
 ·rw [e2,if_pos (by omega),Nat.sub_self]; rfl
 ·rw [e2,if_pos (by omega),show off+i * 2+1 - (off+i * 2)=1 by omega]; rfl
 ·rw [e2,if_neg (by omega),e1,if_pos (by omega),show off+(i+1) * 2+k - (off+(i+1) * 2)=k by omega,eI _ _ _ _ hk (by omega)]
 ·have KT:q ≠ b:=fun e=>bD (by rw [e])
  rw [setRow_other _ _ _ _ KT,iX,setRow_other _ _ _ _ KT]
  rfl
set_option maxHeartbeats 4000000 in
set_option maxRecDepth 100000 in
theorem M7 (b off n c vb vo vc:Nat) (cc vv:Array Value) (tt vt:TypeId) (x0 x1:Value) (w:World) (hw:w.heap[b]?=some (.cells cc tt (0,0))) (hv:w.heap[vb]?=some (.cells vv vt (0,0))) (ke:vv[vo]?=some x0) (IY:vv[vo+1]?=some x1)
  (SI:n≤c) (cB:off+c * 2≤cc.size) (Qu:(n+1) * 16≤140737488355328) (GM:x0.oneCell'=true) (Cr:x1.oneCell'=true) :
  Calls Tryz.prog 129 #[.slice (some ⟨b,off,none⟩) n c,.int .i64 (n:Int),.slice (some ⟨vb,vo,none⟩) 1 vc] w (qQ b off n n cc x0 x1 w):=by
 have mixed:=Go.Proofs.YtpbdohkbiklflaaGreatDoor.mixed
 obtain ⟨i0,EU,DG,nu,M6⟩:=info_parts (show (Tryz.prog.info? 82).map (fun i=>(i.zero,i.size,i.bytes))=some (some (.agg #[.int .i64 0,.int .i64 0]),2,16) by kernel_rfl)
 have hd:∀d,d∈(DV.agg [.int .i64 0,.int .i64 0]).cells→d.ak=true:=by intro d hd; simp [DV.cells] at hd; subst hd; rfl
 have ij:oA w (.slice (some ⟨b,off,none⟩) n c) i0.size (List.replicate n (DV.agg [.int .i64 0,.int .i64 0])) (fun i j _ u=>cc[off+i * 2+j]?=some u):=by
  refine .inr ⟨b,off,c,cc,tt,by simp,by simpa using SI,hw,by rw [nu]; exact cB,fun i x hx=>?_⟩
  have aK:i<n:=by have:=(List.getElem?_eq_some_iff.1 hx).1; simpa using this
  have xh:=List.mem_of_getElem? hx
  rw [List.eq_of_mem_replicate xh]
  refine ⟨by rw [nu]; rfl,fun j d hj=>⟨hd d (List.mem_of_getElem? hj),?_⟩⟩
  have Ua:j<2:=(List.getElem?_eq_some_iff.1 hj).1
  rw [nu]
  exact ⟨_,Array.getElem?_eq_getElem (by omega),Array.getElem?_eq_getElem (by omega)⟩
 have gF:oB w (.slice (some ⟨vb,vo,none⟩) 1 vc) i0.size [DV.agg [.int .i64 0,.int .i64 0]] (fun _ j _ u=>(j=0→u=x0)∧(j=1→u=x1)):=by
  refine .inr ⟨⟨vb,vo,none⟩,vc,fun _ j=>if j=0 then x0 else x1,rfl,fun i x hx=>?_⟩
  match i,hx with
  | 0,hx =>
   simp at hx; subst hx
   refine ⟨by rw [nu]; rfl,fun j d hj=>⟨hd d (List.mem_of_getElem? hj),?_⟩⟩
   have Ua:j<2:=(List.getElem?_eq_some_iff.1 hj).1
   rw [cE,ik hv]
   match j,Ua with
   | 0,_=>exact ⟨by simpa using ke,GM,fun _=>rfl,by simp⟩
   | 1,_=>exact ⟨by simpa using IY,Cr,by simp,fun _=>rfl⟩
  | i+1,hx=>simp at hx
 have SL:∀ty,∃v' w',(Builtin.append_ #[65,65] ty #[.slice (some ⟨b,off,none⟩) n c,.slice (some ⟨vb,vo,none⟩) 1 vc]).run Tryz.prog w=.ok v' w'∧qQ b off n n cc x0 x1 w (.returned v') w':=fun ty=>by
  obtain ⟨v',w',r1,r2,r3,r4,_⟩:=pB (P:=Tryz.prog) (ty:=ty) Tryz.underlying65 EU DG (by rw [nu]; rfl) (by rw [nu]; omega) ij gF (by simp; omega) (by rw [M6]; simp; omega)
  refine ⟨v',w',r1,?_⟩
  rcases r2 with ⟨h,_⟩ | ⟨g,o,cp,c',t',rfl,k1,k2,k3,k4⟩
  ·simp at h
  ·have key:∀i j,i<n+1→j<2→∃u,c'[o+i * 2+j]?=some u∧kL n (fun i j _ u=>cc[off+i * 2+j]?=some u) (fun _ j _ u=>(j=0→u=x0)∧(j=1→u=x1)) i j (.int .i64 0) u:=by
    intro i j hi hj
    have hx:(List.replicate n (DV.agg [.int .i64 0,.int .i64 0])++[DV.agg [.int .i64 0,.int .i64 0]])[i]?=some (DV.agg [.int .i64 0,.int .i64 0]):=by
     rw [←List.replicate_succ',List.getElem?_replicate,if_pos hi]
    obtain ⟨_,q⟩:=k4 i _ hx
    obtain ⟨_,u,q1,q2⟩:=q j (.int .i64 0) (by
     match j,hj with
     | 0,_=>rfl
     | 1,_=>rfl)
    rw [nu] at q1
    rw [List.length_replicate] at q2
    exact ⟨u,q1,q2⟩
   have hb:g=b ∨ w.heap.size≤g:=by
    rcases r4 g rfl with h | h
    ·exact .inr h
    ·left; simpa [fh] using h.symm
   rw [nu] at k3
   refine ⟨g,o,cp,c',t',by simp,by simpa using k1,k2,k3,fun k hk=>?_,?_,?_,fun k hk=>by omega,r3,hb⟩
   ·obtain ⟨u,q1,q2⟩:=key (k / 2) (k % 2) (by omega) (by omega)
    unfold kL at q2
    rw [if_pos (by omega)] at q2
    rw [show o+k=o+k / 2 * 2+k % 2 by omega,show off+k=off+k / 2 * 2+k % 2 by omega,q1,q2]
   ·obtain ⟨u,q1,q2⟩:=key n 0 (by omega) (by omega)
    unfold kL at q2
    rw [if_neg (by omega)] at q2
    rw [Nat.add_zero] at q1
    rw [q1,q2.1 rfl]
   ·obtain ⟨u,q1,q2⟩:=key n 1 (by omega) (by omega)
    unfold kL at q2
    rw [if_neg (by omega)] at q2
    rw [q1,q2.2 rfl]
 obtain ⟨v',W',hr,Cs⟩:=SL 65
 have ek:n≤n:=Nat.le_refl _
 clear SL gF ij
 go_enter Tryz.func129,Tryz.ntmps129
 go_wp2_with (at_builtin; refine Lib.wpList_append_run _ rfl _ _ _ _ rfl _ _ rfl rfl _ _ hr ?_)
 all_goals (go_ret; exact Cs)
set_option maxHeartbeats 4000000 in
set_option maxRecDepth 100000 in
theorem KU (b off n i vb vo vc:Nat) (cc vv:Array Value) (tt vt:TypeId) (x0 x1:Value) (w:World) (hw:w.heap[b]?=some (.cells cc tt (0,0))) (hv:w.heap[vb]?=some (.cells vv vt (0,0))) (ke:vv[vo]?=some x0) (IY:vv[vo+1]?=some x1)
  (hi:i<n) (cB:off+n * 2≤cc.size) (Qu:(n+1) * 16≤140737488355328)
  (h1:∀k v,off≤k→k<off+n * 2→cc[k]?=some v→v.oneCell'=true) (GM:x0.oneCell'=true) (Cr:x1.oneCell'=true) :
  Calls Tryz.prog 129 #[.slice (some ⟨b,off,none⟩) n n,.int .i64 (i:Int),.slice (some ⟨vb,vo,none⟩) 1 vc] w (qQ b off n i cc x0 x1 w):=by
 have mixed:=Go.Proofs.YtpbdohkbiklflaaGreatDoor.mixed
 obtain ⟨i0,EU,DG,nu,M6⟩:=info_parts (show (Tryz.prog.info? 82).map (fun i=>(i.zero,i.size,i.bytes))=some (some (.agg #[.int .i64 0,.int .i64 0]),2,16) by kernel_rfl)
 have DF:w.drew.heap[b]?=some (.cells cc tt (0,0)):=hw
 have Yr:b<w.heap.size:=(Array.getElem?_eq_some_iff.1 hw).1
 have Ys:vb<w.heap.size:=(Array.getElem?_eq_some_iff.1 hv).1
 have l0:=cX cc off (i * 2)
 have l1:=cX cc (off+i * 2) ((n - i) * 2)
 have hold:(Builtin.firstCells i0.size i (.slice (some ⟨b,off,none⟩) i n)).run Tryz.prog w.drew=.ok (jH cc off (i * 2)).toArray w.drew :=
  run_firstCells_some w.drew i0.size i ⟨b,off,none⟩ i n _ (by rw [l0,nu]) (fun j u hu=>by
   have hj:j<i * 2:=by have:=(List.getElem?_eq_some_iff.1 hu).1; rwa [l0] at this
   rw [eI cc _ _ j hj (by omega)] at hu
   rw [cE,ik DF]; exact hu)
 have yI:i+(n+1 - i)=n+1:=by omega
 have Ez:(n:Int)+1 - (i:Int)=((n+1 - i:Nat):Int):=by omega
 obtain ⟨G,hG⟩:∃G,G=grownCap w (n+1) n 82:=⟨_,rfl⟩
 obtain ⟨IZ,M8⟩:∃IZ:Array Value,IZ=(jH cc off (i * 2)).toArray++Builtin.zeroCells (Value.agg #[.int .i64 0,.int .i64 0]).cells (n+1 - i)++Builtin.zeroCells (Value.agg #[.int .i64 0,.int .i64 0]).cells (G - (n+1)):=⟨_,rfl⟩
 have WV:∀ty,(Builtin.append_ #[65,3] ty #[.slice (some ⟨b,off,none⟩) i n,.int .i64 ((n:Int)+1 - (i:Int))]).run Tryz.prog w=.ok (.slice (some ⟨w.heap.size,0,none⟩) (n+1) G) (w.drew.alloc (.cells IZ 82)):=fun ty=>by
  have h:=Lib.run_append_grow_zeros (P:=Tryz.prog) (ty:=ty) w 65 3 82 i0 _ .i64 .i64 Tryz.underlying65 Tryz.underlying3 EU DG (some ⟨b,off,none⟩) i n _ hold (n+1 - i) (by omega) (by rw [nu]; omega) (by omega) (by omega) (by rw [M6]; omega) (by rw [M6,yI]; exact growslice_fits (by omega) Qu)
  rw [yI,←hG] at h
  rw [Ez,M8]
  exact h
 have Yt:n+1≤G:=by rw [hG]; exact grownCap_ge w _ _ _
 have Yu:G≤9223372036854775807:=by
  have:=grownCap_le_maxLen w (n+1) n 82 (by unfold maxLen; omega)
  rw [←hG] at this
  unfold maxLen at this
  omega
 have OO:∀m,(Builtin.zeroCells (Value.agg #[.int .i64 0,.int .i64 0]).cells m).size=m * 2:=fun m=>by simp [Builtin.zeroCells,Value.cells]
 have Yv:IZ.size=G * 2:=by rw [M8]; simp only [Array.size_append,List.size_toArray,l0,OO]; omega
 obtain ⟨W1,iX⟩:∃W1,W1=w.drew.alloc (.cells IZ 82):=⟨_,rfl⟩
 have KV:W1.heap[w.heap.size]?=some (.cells IZ 82 (0,0)):=by rw [iX]; exact cj w.drew _
 have EM:W1.heap[vb]?=some (.cells vv vt (0,0)):=by rw [iX,aV w.drew _ Ys]; exact hv
 have jV:W1.heap[b]?=some (.cells cc tt (0,0)):=by rw [iX,aV w.drew _ Yr]; exact hw
 obtain ⟨r1,OL⟩:∃r1,r1=over IZ (i * 2) [x0,x1]:=⟨_,rfl⟩
 have eZ:r1.size=G * 2:=by rw [OL,fP _ _ _ (by simp; omega),Yv]
 have SM:∀ty dc,(Builtin.copy_ #[65,65] ty #[.slice (some ⟨w.heap.size,i * 2,none⟩) (n+1 - i) dc,.slice (some ⟨vb,vo,none⟩) 1 vc]).run Tryz.prog W1=.ok (goInt (1:Nat)) (W1.setRow w.heap.size r1):=fun ty dc=>by
  rw [OL]
  refine run_copy_row 65 82 ty i0 Tryz.underlying65 EU KV _ _ dc ⟨vb,vo,none⟩ _ vc 1 _ (by simp only [Nat.min_def]; split <;> omega) (fun j u hu=>?_) (by simp [nu]) (fun u hu=>?_) (by simp; omega)
  ·rw [cE,ik EM]
   match j,hu with
   | 0,hu=>simp at hu; subst hu; exact ke
   | 1,hu=>simp at hu; subst hu; exact IY
   | j+2,hu=>simp at hu
  ·simp at hu
   rcases hu with rfl | rfl
   ·exact GM
   ·exact Cr
 obtain ⟨W2,KW⟩:∃W2,W2=W1.setRow w.heap.size r1:=⟨_,rfl⟩
 have M9:W2.drew.heap[w.heap.size]?=some (.cells r1 82 (0,0)):=by rw [KW]; exact setRow_heap W1 _ IZ _ _ _ KV
 have cw:W2.drew.heap[b]?=some (.cells cc tt (0,0)):=by
  show W2.heap[b]?=_
  rw [KW,setRow_other _ _ _ _ (by omega)]; exact jV
 obtain ⟨r2,OM⟩:∃r2,r2=over r1 ((i+1) * 2) (jH cc (off+i * 2) ((n - i) * 2)):=⟨_,rfl⟩
 have VA:∀ty dc sc,(Builtin.copy_ #[65,65] ty #[.slice (some ⟨w.heap.size,(i+1) * 2,none⟩) (n - i) dc,.slice (some ⟨b,off+i * 2,none⟩) (n - i) sc]).run Tryz.prog W2.drew=.ok (goInt (n - i:Nat)) (W2.drew.setRow w.heap.size r2):=fun ty dc sc=>by
  rw [OM]
  refine run_copy_row 65 82 ty i0 Tryz.underlying65 EU M9 _ _ dc ⟨b,off+i * 2,none⟩ _ sc (n - i) _ (by simp only [Nat.min_def]; split <;> omega) (fun j u hu=>?_) (by rw [l1,nu]) (fun u hu=>?_) (by rw [l1]; omega)
  ·have hj:j<(n - i) * 2:=by have:=(List.getElem?_eq_some_iff.1 hu).1; rwa [l1] at this
   rw [eI cc _ _ j hj (by omega)] at hu
   rw [cE,ik cw]; exact hu
  ·obtain ⟨k,hk,rfl⟩:=List.getElem_of_mem hu
   have ey:k<(n - i) * 2:=by rwa [l1] at hk
   have h2:=eI cc (off+i * 2) ((n - i) * 2) k ey (by omega)
   rw [List.getElem?_eq_getElem hk] at h2
   exact h1 (off+i * 2+k) _ (by omega) (by omega) h2.symm
 have Qs:Hid (W1=w.drew.alloc (.cells IZ 82)):=iX
 have Yw:Hid (W2=W1.setRow w.heap.size r1):=KW
 have eR:Hid (IZ=(jH cc off (i * 2)).toArray++Builtin.zeroCells (Value.agg #[.int .i64 0,.int .i64 0]).cells (n+1 - i)++Builtin.zeroCells (Value.agg #[.int .i64 0,.int .i64 0]).cells (G - (n+1))):=M8
 have Yx:Hid (r1=over IZ (i * 2) [x0,x1]):=OL
 have Yy:Hid (r2=over r1 ((i+1) * 2) (jH cc (off+i * 2) ((n - i) * 2))):=OM
 rw [←iX] at WV
 rw [←KW] at SM
 have Yz:Hid (W2.drew.heap[w.heap.size]?=some (.cells r1 82 (0,0))):=M9
 clear iX KW M8 OL OM hG hold Ez yI KV EM jV M9 cw
 have Qt:¬ ((i:Int)=(n:Int)):=by omega
 have xg:IntKind.i64.wrap ((i:Int)+1)=(i:Int)+1:=by rw [IntKind.wrap_i64]; omega
 have Qi:IntKind.i64.wrap ((n:Int)+1)=(n:Int)+1:=by rw [IntKind.wrap_i64]; omega
 have Zv:IntKind.i64.wrap ((n:Int)+1 - (i:Int))=(n:Int)+1 - (i:Int):=by rw [IntKind.wrap_i64]; omega
 have jV:(0:Int)≤(i:Int)+1:=by omega
 have ek:i≤n:=by omega
 have cw:¬ (G=i+1):=by omega
 have xe:(i:Int)≤(n:Int)+1:=by omega
 have T4:¬ (G=i):=by omega
 have Yp:¬ (n=i):=by omega
 have Yq:(i:Int)+1≤(n:Int)+1:=by omega
 have oQ:(n:Int)<(n:Int)+1:=by omega
 have Zw:(i:Int)≤(n:Int):=by omega
 go_enter Tryz.func129,Tryz.ntmps129
 go_wp2_with (first
  | (at_builtin; refine Lib.wpList_append_run _ rfl _ _ _ _ rfl _ _ rfl rfl _ _ (WV _) ?_)
  | (at_builtin; refine wpList_copy_runI _ rfl _ _ 65 65 rfl _ _ rfl rfl (SM _ _) ?_))
 go_region_law_o (refine step_copy_runI rfl _ _ 65 65 rfl _ _ (by simp [Act.eval,Act.put]) (by simp [Act.eval,Act.put]) (VA _ _ _) ?_)
 go_wp2
 go_ret
 have iX:=Qs.out
 have KW:=Yw.out
 have OL:=Yx.out
 have OM:=Yy.out
 have e2:∀k,r2[k]?=if (i+1) * 2≤k∧k<(i+1) * 2+(n - i) * 2 then (jH cc (off+i * 2) ((n - i) * 2))[k - (i+1) * 2]? else r1[k]?:=fun k=>by rw [OM,fv _ _ _ (by rw [l1]; omega),l1]
 have e1:∀k,r1[k]?=if i * 2≤k∧k<i * 2+2 then [x0,x1][k - i * 2]? else IZ[k]?:=fun k=>by rw [OL,fv _ _ _ (by simp; omega)]; rfl
 refine ⟨w.heap.size,0,G,r2,82,rfl,Yt,setRow_heap W2.drew _ r1 _ _ _ Yz.out,?_,fun k hk=>?_,?_,?_,fun k hk=>?_,⟨by rw [KW,iX]; rfl,by rw [KW,iX]; rfl,by rw [KW,iX]; rfl,by rw [KW,iX]; simp,fun q hq bD=>?_⟩,.inr (Nat.le_refl _)⟩
 ·rw [OM,fP _ _ _ (by rw [l1]; omega),eZ]; omega
 ·rw [Nat.zero_add,e2,if_neg (by omega),e1,if_neg (by omega),eR.out,Array.getElem?_append,if_pos (by simp only [Array.size_append,List.size_toArray,l0,OO]; omega),Array.getElem?_append,if_pos (by simp only [List.size_toArray,l0]; omega),List.getElem?_toArray,eI _ _ _ _ hk (by omega)]
 ·rw [Nat.zero_add,e2,if_neg (by omega),e1,if_pos (by omega),Nat.sub_self]; rfl
 ·rw [Nat.zero_add,e2,if_neg (by omega),e1,if_pos (by omega),show i * 2+1 - i * 2=1 by omega]; rfl
 ·rw [Nat.zero_add,e2,if_pos (by omega),show (i+1) * 2+k - (i+1) * 2=k by omega,eI _ _ _ _ hk (by omega)]
 ·have KT:q ≠ w.heap.size:=by omega
  rw [setRow_other _ _ _ _ KT]
  show W2.heap[q]?=_
  rw [KW,setRow_other _ _ _ _ KT,iX,aV w.drew _ hq]
  rfl
end Go.Proofs.YtpbdohkbiklflaaGreatDoor
namespace Go.Proofs.YtpbdohkbiklflaaGreatDoor
open Go.TM Go.RowKit
variable [de]
theorem KX {M:Mem} {h:Option Value} {n:Int} {u:Value} (r:da M h (I n) u):u=.int .i64 n:=by
 rcases r with ⟨a,_⟩ | ⟨_,r⟩
 ·cases a
 ·cases r; rfl
theorem wm {M:Mem} {w:World} {v:Value} {hc:PS→Option Value} {l:List Rk} (h:bV M w v hc (.ay 2 (l.map eR))) (hl:l ≠ []) :
  ∃b off c cc tt,v=.slice (some ⟨b,off,none⟩) l.length c∧l.length≤c∧w.heap[b]?=some (.cells cc tt (0,0))∧off+c * 2≤cc.size∧∀i y,l[i]?=some y→cc[off+i * 2]?=some (.int .i64 y.1)∧cc[off+i * 2+1]?=some (.int .i64 y.2):=by
 rcases h with ⟨h,_⟩ | ⟨b,off,c,cc,tt,rfl,h1,h2,h3,h4⟩
 ·simp at h; exact absurd h hl
 ·refine ⟨b,off,c,cc,tt,by rw [List.length_map],by simpa using h1,h2,h3,fun i y hy=>?_⟩
  obtain ⟨_,q⟩:=h4 i (eR y) (by rw [List.getElem?_map,hy]; rfl)
  obtain ⟨_,u,e1,e2⟩:=q 0 (I y.1) rfl
  obtain ⟨_,u',e3,e4⟩:=q 1 (I y.2) rfl
  rw [KX e2] at e1
  rw [KX e4] at e3
  exact ⟨e1,e3⟩
theorem GN {M:Mem} {w:World} {g o cp:Nat} {c:Array Value} {t:TypeId} {l:List Rk} (h1:l.length≤cp) (h2:w.heap[g]?=some (.cells c t (0,0))) (h3:o+cp * 2≤c.size)
  (h4:∀i y,l[i]?=some y→c[o+i * 2]?=some (.int .i64 y.1)∧c[o+i * 2+1]?=some (.int .i64 y.2)) :
  oA w (.slice (some ⟨g,o,none⟩) l.length cp) 2 (l.map eR) (fun _ _ d u=>d.af=false∧bj M d u):=by
 refine .inr ⟨g,o,cp,c,t,by rw [List.length_map],by simpa using h1,h2,h3,fun i x hx=>?_⟩
 rw [List.getElem?_map] at hx
 cases hy:l[i]? with
 | none=>rw [hy] at hx; simp at hx
 | some y =>
  rw [hy] at hx; simp at hx; subst hx
  obtain ⟨e1,e2⟩:=h4 i y hy
  refine ⟨rfl,fun j d hd=>?_⟩
  match j,hd with
  | 0,hd=>simp [eR,DV.cells] at hd; subst hd; exact ⟨rfl,_,e1,rfl,.int _ _⟩
  | 1,hd=>simp [eR,DV.cells] at hd; subst hd; exact ⟨rfl,_,e2,rfl,.int _ _⟩
  | j+2,hd=>simp [eR,DV.cells] at hd
theorem Ct {cc:Array Value} {off n:Nat} {l:List Rk} (hn:n=l.length) (h:∀i y,l[i]?=some y→cc[off+i * 2]?=some (.int .i64 y.1)∧cc[off+i * 2+1]?=some (.int .i64 y.2)) :
  ∀k v,off≤k→k<off+n * 2→cc[k]?=some v→v.oneCell'=true:=by
 intro k v h1 h2 h3
 obtain ⟨e1,e2⟩:=h ((k - off) / 2) _ (List.getElem?_eq_getElem (by omega))
 rcases Nat.mod_two_eq_zero_or_one (k - off) with h4 | h4
 ·rw [show off+(k - off) / 2 * 2=k by omega,h3] at e1; injection e1 with e1; subst e1; rfl
 ·rw [show off+(k - off) / 2 * 2+1=k by omega,h3] at e2; injection e2 with e2; subst e2; rfl
theorem Na (l:List Rk) (k:Nat) (x:Rk) (hk:k≤l.length) (i:Nat):(qP l k x)[i]?=if i<k then l[i]? else if i=k then some x else l[i - 1]?:=by
 unfold qP
 have ht:(l.take k).length=k:=by simp; omega
 rw [List.getElem?_append,ht]
 by_cases h1:i<k
 ·rw [if_pos h1,if_pos h1,List.getElem?_take,if_pos h1]
 ·rw [if_neg h1,if_neg h1]
  by_cases h2:i=k
  ·subst h2; simp
  ·rw [if_neg h2,show i - k=(i - 1 - k)+1 by omega,List.getElem?_cons_succ,List.getElem?_drop,show k+(i - 1 - k)=i - 1 by omega]
theorem wo (l:List Rk) (k:Nat) (x:Rk) (hk:k≤l.length):(qP l k x).length=l.length+1:=by simp [qP]; omega
theorem Nb (l:List Rk) (k:Nat) (hk:k<l.length) (i:Nat):(xN l k)[i]?=if i<k then l[i]? else l[i+1]?:=by
 unfold xN
 have ht:(l.take k).length=k:=by simp; omega
 rw [List.getElem?_append,ht]
 by_cases h1:i<k
 ·rw [if_pos h1,if_pos h1,List.getElem?_take,if_pos h1]
 ·rw [if_neg h1,if_neg h1,List.getElem?_drop,show k+1+(i - k)=i+1 by omega]
theorem Cu (l:List Rk) (k:Nat) (hk:k<l.length):(xN l k).length=l.length - 1:=by simp [xN]; omega
theorem H8 {D:DV} {p:List PS} {l:List Rk} (hp:get D p=some (.ay 2 (l.map eR))) (bD:p ≠ []) (x:Rk) (k:Nat) (hk:k≤l.length) (hl:l ≠ []) (hlen:l.length≤1000) :
  bn Tryz.prog 129 [.own 0 0 0 p,.dv (I k),.own 1 0 0 []] 2 [(0,.tree 0 0 D),(1,.tree 0 0 (.ay 2 [eR x]))] 1 [.own 2 1 0 []]
   [(2,.tree 1 0 (.ay 2 ((qP l k x).map eR))),(0,.tree 0 0 (bN D p .any)),(1,.tree 0 0 (.ay 2 [eR x]))]:=by
 refine si ⟨_,Tryz.func129,by kernel_rfl,rfl⟩ hp bD (by omega) (fun i hi=>by simp only [aa]; rw [TM.beq_false (show i ≠ 1 by omega)]; rfl) (Az _) ?_
 intro w G v xs cB hu aY hr
 obtain ⟨v0,v1,rfl⟩:∃v0 v1,xs=[v0,v1]:=by
  match xs,hr.1 with
  | [a,b],_=>exact ⟨a,b,rfl⟩
 have r0:=hr.2 0 _ v0 rfl rfl
 have r1:=hr.2 1 _ v1 rfl rfl
 cases r0 with | dv r0=>cases r0 with | int =>
 cases r1 with | own _ _ _ _ _ hh hc =>
 obtain ⟨b,off,c,cc,tt,rfl,gB,hw,tr,ij⟩:=wm aY hl
 obtain ⟨u1,Oe,_,Ht⟩:=cB.node (i:=1) (ver:=0) (ep:=0) (d:=.ay 2 [eR x]) (p:=[]) rfl rfl rfl
 rw [Oe] at hh; injection hh with hh; subst hh
 obtain ⟨vb,vo,vc,vv,vt,rfl,_,hv,_,YA⟩:=wm (l:=[x]) Ht (by simp)
 obtain ⟨ke,IY⟩:=YA 0 x rfl
 simp only [Nat.zero_mul,Nat.add_zero] at ke IY
 have T9:vb ≠ b:=by
  rintro rfl
  have h0:bI G 0 (aa [(0,ao.tree 0 0 D),(1,ao.tree 0 0 (.ay 2 [eR x]))] 0) vb:=⟨p,_,_,hp,rfl,hu,rfl⟩
  have h1:bI G 1 (aa [(0,ao.tree 0 0 D),(1,ao.tree 0 0 (.ay 2 [eR x]))] 1) vb:=⟨[],_,_,rfl,rfl,Oe,rfl⟩
  have:=cB.inj 0 1 vb h0 h1
  cases this
 have tL:=Ct rfl ij
 have Cs:∀e w',qQ b off l.length k cc (.int .i64 x.1) (.int .i64 x.2) w e w'→∃v',e=.returned v'∧v'.oneCell'=true∧w.grownBy w' (some b)∧oA w' v' 2 ((qP l k x).map eR) (fun _ _ d u=>d.af=false∧bj G.M d u)∧∀q,fh v'=some q→some b=some q ∨ w.heap.size≤q:=by
  rintro e w' ⟨g,o,cp,c',t',rfl,p1,p2,p3,p4,p5,p6,p7,p8,p9⟩
  refine ⟨_,rfl,rfl,p8,?_,fun q hq=>?_⟩
  ·have hL:=wo l k x hk
   rw [←hL]
   refine GN (by rw [hL]; exact p1) p2 p3 fun i y hy=>?_
   rw [Na l k x hk] at hy
   by_cases h1:i<k
   ·rw [if_pos h1] at hy
    obtain ⟨e1,e2⟩:=ij i y hy
    rw [p4 (i * 2) (by omega),Nat.add_assoc,p4 (i * 2+1) (by omega),←Nat.add_assoc]
    exact ⟨e1,e2⟩
   ·rw [if_neg h1] at hy
    by_cases h2:i=k
    ·subst h2; rw [if_pos rfl] at hy; injection hy with hy; subst hy; exact ⟨p5,p6⟩
    ·rw [if_neg h2] at hy
     have aK:=(List.getElem?_eq_some_iff.1 hy).1
     obtain ⟨e1,e2⟩:=ij _ y hy
     have q1:=p7 ((i - 1 - k) * 2) (by omega)
     have q2:=p7 ((i - 1 - k) * 2+1) (by omega)
     rw [show o+(k+1) * 2+(i - 1 - k) * 2=o+i * 2 by omega,show off+k * 2+(i - 1 - k) * 2=off+(i - 1) * 2 by omega] at q1
     rw [show o+(k+1) * 2+((i - 1 - k) * 2+1)=o+i * 2+1 by omega,show off+k * 2+((i - 1 - k) * 2+1)=off+(i - 1) * 2+1 by omega] at q2
     exact ⟨q1.trans e1,q2.trans e2⟩
  ·simp only [fh,Option.some.injEq] at hq
   subst hq
   rcases p9 with h | h
   ·exact .inl (by rw [h])
   ·exact .inr h
 rcases Nat.lt_or_ge k l.length with aK | dk
 ·rcases Nat.lt_or_ge l.length c with wq | mV
  ·exact (H7 b off l.length c k vb vo vc cc vv tt vt _ _ w hw hv ke IY T9 wq aK tr (by omega) tL rfl rfl).mono fun e w' h=>Cs e w' h
  ·obtain rfl:c=l.length:=by omega
   exact (KU b off l.length k vb vo vc cc vv tt vt _ _ w hw hv ke IY aK tr (by omega) tL rfl rfl).mono fun e w' h=>Cs e w' h
 ·obtain rfl:k=l.length:=by omega
  exact (M7 b off l.length c vb vo vc cc vv tt vt _ _ w hw hv ke IY gB tr (by omega) rfl rfl).mono fun e w' h=>Cs e w' h
theorem H9 {D:DV} {p:List PS} {l:List Rk} (hp:get D p=some (.ay 2 (l.map eR))) (bD:p ≠ []) (k:Nat) (hk:k<l.length) (hlen:l.length≤1000) :
  bn Tryz.prog 127 [.own 0 0 0 p,.dv (I k),.dv (I ((k:Int)+1))] 1 [(0,.tree 0 0 D)] 1 [.own 1 1 0 []]
   [(1,.tree 1 0 (.ay 2 ((xN l k).map eR))),(0,.tree 0 0 (bN D p .any))]:=by
 have hl:l ≠ []:=by rintro rfl; simp at hk
 refine si (K3:=[]) ⟨_,Tryz.func127,by kernel_rfl,rfl⟩ hp bD (by omega) (fun i hi=>rfl) (Az _) ?_
 intro w G v xs cB hu aY hr
 obtain ⟨v0,v1,rfl⟩:∃v0 v1,xs=[v0,v1]:=by
  match xs,hr.1 with
  | [a,b],_=>exact ⟨a,b,rfl⟩
 have r0:=hr.2 0 _ v0 rfl rfl
 have r1:=hr.2 1 _ v1 rfl rfl
 cases r0 with | dv r0=>cases r0 with | int =>
 cases r1 with | dv r1=>cases r1 with | int =>
 obtain ⟨b,off,c,cc,tt,rfl,gB,hw,tr,ij⟩:=wm aY hl
 refine (ET b off l.length c k cc tt w hw gB hk tr (by omega) (Ct rfl ij)).mono ?_
 rintro e w' ⟨rfl,c',p1,p2,p3,p4,p5⟩
 refine ⟨_,rfl,rfl,p5,?_,fun q hq=>.inl hq⟩
 have hL:=Cu l k hk
 rw [←hL]
 refine GN (by omega) p1 (by omega) fun i y hy=>?_
 rw [Nb l k hk] at hy
 by_cases h1:i<k
 ·rw [if_pos h1] at hy
  obtain ⟨e1,e2⟩:=ij i y hy
  rw [p3 (i * 2) (by omega),Nat.add_assoc,p3 (i * 2+1) (by omega),←Nat.add_assoc]
  exact ⟨e1,e2⟩
 ·rw [if_neg h1] at hy
  have aK:=(List.getElem?_eq_some_iff.1 hy).1
  obtain ⟨e1,e2⟩:=ij _ y hy
  have q1:=p4 ((i - k) * 2) (by omega)
  have q2:=p4 ((i - k) * 2+1) (by omega)
  rw [show off+k * 2+(i - k) * 2=off+i * 2 by omega,show off+(k+1) * 2+(i - k) * 2=off+(i+1) * 2 by omega] at q1
  rw [show off+k * 2+((i - k) * 2+1)=off+i * 2+1 by omega,show off+(k+1) * 2+((i - k) * 2+1)=off+(i+1) * 2+1 by omega] at q2
  exact ⟨q1.trans e1,q2.trans e2⟩
theorem Ia {D:DV} {p:List PS} {y:DV} (hp:get D p=some (.ay 1 [y])) (hy:y.af=true) (bD:p ≠ []) :
  bn Tryz.prog 128 [.own 0 0 0 p,.dv (I 0),.dv (I 1)] 1 [(0,.tree 0 0 D)] 1 [.own 1 1 0 []]
   [(1,.tree 1 0 (.ay 1 [])),(0,.tree 0 0 (bN D p .any))]:=by
 refine si (K3:=[]) ⟨_,Tryz.func128,by kernel_rfl,rfl⟩ hp bD (by omega) (fun i hi=>rfl) (by simp) ?_
 intro w G v xs cB hu aY hr
 obtain ⟨v0,v1,rfl⟩:∃v0 v1,xs=[v0,v1]:=by
  match xs,hr.1 with
  | [a,b],_=>exact ⟨a,b,rfl⟩
 have r0:=hr.2 0 _ v0 rfl rfl
 have r1:=hr.2 1 _ v1 rfl rfl
 cases r0 with | dv r0=>cases r0 with | int =>
 cases r1 with | dv r1=>cases r1 with | int =>
 have Ub:y.cells=[y]:=by cases y <;> first | rfl | cases hy
 rcases aY with ⟨h,_⟩ | ⟨b,off,c,cc,tt,rfl,gB,hw,tr,ij⟩
 ·simp at h
 ·obtain ⟨_,q⟩:=ij 0 y rfl
  obtain ⟨_,u,e1,e2⟩:=q 0 y (by rw [Ub]; rfl)
  have Oe:u.oneCell'=true:=by
   rcases e2 with ⟨_,e2⟩ | ⟨e2,_⟩
   ·have aj:TM.step (.ay 1 [y]) (.el 0 0)=some y:=by show y.cells[0]?=some y; rw [Ub]; rfl
    have YB:aB G.H 0 0 0 (p++[.el 0 0])=some u:=e2
    obtain ⟨u',f1,f2,_⟩:=cB.node (i:=0) (ver:=0) (ep:=0) (d:=D) (p:=p++[.el 0 0]) (nd:=y) rfl (by rw [get_append,hp]; simp only [TM.get,aj]) hy
    rw [YB] at f1; injection f1 with f1; subst f1; exact f2
   ·rw [hy] at e2; cases e2
  simp only [Nat.zero_mul,Nat.add_zero] at e1
  have:=EV b off 1 c 0 cc tt w hw (by simpa using gB) (by omega) (by simpa using tr) (by omega) (fun k v h1 h2 h3=>by
   obtain rfl:k=off:=by omega
   rw [e1] at h3; injection h3 with h3; subst h3; exact Oe)
  refine this.mono ?_
  rintro e w' ⟨rfl,c',p1,p2,p3,p4,p5⟩
  refine ⟨_,rfl,rfl,p5,?_,fun q hq=>.inl hq⟩
  exact .inr ⟨b,off,c,c',tt,rfl,by simp,p1,by rw [p2]; exact tr,by simp⟩
end Go.Proofs.YtpbdohkbiklflaaGreatDoor
namespace Go.Proofs.YtpbdohkbiklflaaGreatDoor
open Go.TM
variable [de]
structure lK (l:List Rk) (k:Nat) (x:Rk):Prop where
 le:k≤l.length
 lo:∀i y,i<k→l[i]?=some y→jT y x=true
 hi:∀i y,k≤i→l[i]?=some y→jT y x=false
set_option maxRecDepth 100000
set_option maxHeartbeats 4000000 in
theorem Ib (f:Bool) (x:Rk):bn Tryz.prog 116 [.own 0 0 0 [],.agg [.dv (I x.1),.dv (I x.2)]] 1 (kM f []) 0 [] [(0,.tree 0 1 (dY false [x]))]:=by
 have yJ:(nth tab (nth tab 111).elem).bytes=24:=by kernel_rfl
 cases f
 ·refine bl aG mixed (aq _) (ar _) Tryz.func116 rfl rfl (by kernel_rfl) ?_
  refine .inr ⟨[0],[.own 0 0 0 [],.agg [.dv (I x.1),.dv (I x.2)]],_,0,_,_,tp false x,by kernel_rfl,by kernel_rfl,⟨rfl,⟨rf,rf,tv⟩,tv⟩,⟨⟨rfl,rfl⟩,tv⟩,?_⟩
  refine ⟨fun _=>?_,fun h=>by simp at h⟩
  refine .inr (.inl ⟨[eR x],rfl,⟨rf,rf,tv⟩,by simp [eR,DV.cells]; rfl,?_⟩)
  refine .inr (.inl ⟨[.ay 2 [eR x]],rfl,⟨rfl,tv⟩,by simp [DV.cells]; rfl,?_⟩)
  refine .inr (.inr ⟨rfl,[.ay 2 [eR x]],dX.refl _,by rw [yJ]; simp,by simp,?_⟩)
  refine ⟨[.ay 1 [.ay 2 [eR x]]],⟨rfl,tv⟩,?_⟩
  exact ⟨by kernel_rfl,_,_,⟨rfl,rfl⟩,by kernel_rfl,tv,⟨rfl,rfl⟩,tv⟩
 ·refine bl aG mixed (aq _) (ar _) Tryz.func116 rfl rfl (by kernel_rfl) ?_
  refine .inr ⟨[0],[.own 0 0 0 [],.agg [.dv (I x.1),.dv (I x.2)]],_,0,_,_,tp true x,by kernel_rfl,by kernel_rfl,⟨rfl,⟨rf,rf,tv⟩,tv⟩,⟨⟨rfl,rfl⟩,tv⟩,?_⟩
  refine ⟨fun _=>?_,fun h=>by simp at h⟩
  refine .inr (.inl ⟨[eR x],rfl,⟨rf,rf,tv⟩,by simp [eR,DV.cells]; rfl,?_⟩)
  refine .inr (.inl ⟨[.ay 2 [eR x]],rfl,⟨rfl,tv⟩,by simp [DV.cells]; rfl,?_⟩)
  refine .inr (.inr ⟨rfl,[.ay 2 [eR x]],dX.refl _,by rw [yJ]; simp,by simp,?_⟩)
  refine ⟨[.ay 1 [.ay 2 [eR x]]],⟨rfl,tv⟩,?_⟩
  exact ⟨by kernel_rfl,_,_,⟨rfl,rfl⟩,by kernel_rfl,tv,⟨rfl,rfl⟩,tv⟩
set_option maxHeartbeats 4000000 in
theorem Ic (x r:Rk) (l:List Rk) (k:Nat) (hl:(r::l).length≤511) (hp:lK (r::l) k x):bn Tryz.prog 116 [.own 0 0 0 [],.agg [.dv (I x.1),.dv (I x.2)]] 1 (kM false (r::l)) 0 [] [(0,.tree 0 1 (dY false (qP (r::l) k x)))]:=by
 have xd:=H8 (D:=dY false (r::l)) (p:=[.el 0 1,.el 0 0]) (l:=r::l) rfl (by simp) x k hp.le (by simp) (by omega)
 obtain ⟨y,L',hL⟩:∃y L',qP (r::l) k x=y::L':=by
  cases h:qP (r::l) k x with
  | nil=>have:=wo (r::l) k x hp.le; rw [h] at this; simp at this
  | cons y L'=>exact ⟨y,L',rfl⟩
 rw [hL] at xd ⊢
 refine bl aG mixed (aq _) (ar _) Tryz.func116 rfl rfl (by kernel_rfl) ?_
 refine .inr ⟨[0],[.own 0 0 0 [],.agg [.dv (I x.1),.dv (I x.2)]],_,0,_,_,tq x r l k hp.le (by omega) hp.lo hp.hi,by kernel_rfl,by kernel_rfl,⟨rfl,⟨rf,rf,tv⟩,tv⟩,⟨⟨rfl,rfl⟩,tv⟩,?_⟩
 refine ⟨fun h=>by simp at h,fun _=>?_⟩
 refine ⟨fun _=>⟨by omega,by show (0:Int)<1; omega⟩,.ay 2 ((r::l).map eR),fun _=>rfl,?_⟩
 refine .inr (.inl ⟨[eR x],rfl,⟨rf,rf,tv⟩,by simp [eR,DV.cells]; rfl,?_⟩)
 refine .inr ⟨[0,2],[.own 0 0 0 [.el 0 1,.el 0 0],.dv (I k),.own 1 0 0 []],_,1,_,_,xd,by kernel_rfl,by kernel_rfl,⟨rfl,rf,rfl,tv⟩,⟨⟨rfl,rfl⟩,⟨rfl,rfl⟩,tv⟩,?_⟩
 refine ⟨by kernel_rfl,?_⟩
 refine ⟨fun _=>⟨by omega,by show (0:Int)<1; omega⟩,[.ay 2 ((y::L').map eR)],⟨rfl,tv⟩,.any,rfl,?_⟩
 refine ⟨fun h=>?_,fun _=>?_⟩
 ·exfalso
  have:=of_decide_eq_true h
  rw [List.length_map,List.length_map,←hL,wo _ _ _ hp.le] at this
  omega
 ·exact ⟨_,_,⟨rfl,rfl⟩,by kernel_rfl,tv,⟨rfl,rfl⟩,tv⟩
set_option maxHeartbeats 4000000 in
theorem KY (x r:Rk) (l:List Rk) (k:Nat) (hl:(r::l).length≤511) (hk:k<(r::l).length) (hp:lK (r::l) k x):bn Tryz.prog 115 [.own 0 0 0 [],.agg [.dv (I x.1),.dv (I x.2)]] 1 (kM false (r::l)) 0 [] [(0,.tree 0 1 (dY false (xN (r::l) k)))]:=by
 have xd:=H9 (D:=dY false (r::l)) (p:=[.el 0 1,.el 0 0]) (l:=r::l) rfl (by simp) k hk (by omega)
 generalize hL:xN (r::l) k=L at xd
 refine vz aG mixed (aq _) (ar _) Tryz.func115 rfl rfl (by kernel_rfl) ?_
 refine .inl (.inr ⟨[0],[.own 0 0 0 [],.agg [.dv (I x.1),.dv (I x.2)]],_,0,_,_,tq x r l k hp.le (by omega) hp.lo hp.hi,by kernel_rfl,by kernel_rfl,⟨rfl,⟨rf,rf,tv⟩,tv⟩,⟨⟨rfl,rfl⟩,tv⟩,?_⟩)
 refine ⟨fun _=>⟨by omega,by show (0:Int)<1; omega⟩,.ay 2 ((r::l).map eR),fun _=>rfl,?_⟩
 refine ⟨fun _=>⟨by omega,by have:(r::l).length≤511:=hl; omega⟩,?_⟩
 refine .inr ⟨[0],[.own 0 0 0 [.el 0 1,.el 0 0],.dv (I k),.dv (I ((k:Int)+1))],_,1,_,_,xd,by kernel_rfl,by kernel_rfl,⟨rfl,rf,rf,tv⟩,⟨⟨rfl,rfl⟩,tv⟩,?_⟩
 refine ⟨fun _=>⟨by omega,by show (0:Int)<1; omega⟩,[.ay 2 (L.map eR)],⟨rfl,tv⟩,.any,rfl,?_⟩
 refine .inr ⟨[(0,15),(1,15),(2,15),(3,15),(16,15)],by kernel_rfl,qO (pol:=ER) (by kernel_rfl) (by kernel_rfl),?_⟩
 refine ⟨fun _=>⟨by omega,by show (0:Int)<1; omega⟩,.ay 2 (L.map eR),fun _=>rfl,?_⟩
 refine ⟨.ay 2 (L.map eR),fun _=>rfl,?_⟩
 cases L with
 | nil =>
  refine ⟨fun _=>?_,fun h=>by simp at h⟩
  have hB:=Ia (D:=.cN (.agg [.fn 33 [],.ay 1 [.ay 2 []]])) (p:=[.el 0 1]) (y:=.ay 2 []) rfl rfl (by simp)
  refine ⟨fun _=>⟨by omega,by omega⟩,?_⟩
  refine .inl (.inr ⟨[0],[.own 0 0 0 [.el 0 1],.dv (I 0),.dv (I 1)],_,1,_,_,hB,by kernel_rfl,by kernel_rfl,⟨rfl,rf,rf,tv⟩,⟨⟨rfl,rfl⟩,tv⟩,?_⟩)
  exact ⟨[.ay 1 []],⟨rfl,tv⟩,_,_,⟨rfl,rfl⟩,by kernel_rfl,tv,⟨rfl,rfl⟩,tv⟩
 | cons y L' =>
  refine ⟨fun h=>by simp at h; omega,fun _=>?_⟩
  exact ⟨_,_,⟨rfl,rfl⟩,by kernel_rfl,tv,⟨rfl,rfl⟩,tv⟩
end Go.Proofs.YtpbdohkbiklflaaGreatDoor
namespace Go.Proofs.YtpbdohkbiklflaaGreatDoor
open Go.TM
variable [de]
set_option maxRecDepth 100000
theorem od (sz:Nat):DV.Le .aH (.sl sz []):=fun M v h=>by cases h; exact .slnil _
set_option maxHeartbeats 4000000 in
theorem Cv (f:Bool) (n:Int):bn Tryz.prog 55 [.own 0 0 0 [],.dv (I n)] 1 (kM f []) 0 [.dv (.sl 2 [])] (kM f []):=by
 cases f
 all_goals
  refine bl aG mixed (aq _) (ar _) Tryz.func55 rfl rfl (by kernel_rfl) ?_
 ·refine ⟨Unit,fun _=>⟨1,[(5,.dv .aH),(12,.dv (I 0)),(13,.dv (I 0))],kM false []⟩,fun _=>True,fun _=>0,(),fun _=>rfl,⟨⟨rf,rf,rf,tv⟩,⟨⟨rfl,rfl⟩,tv⟩,rfl,rfl⟩,tv,?_⟩
  rintro _ _
  refine ⟨fun h=>by simp at h,fun _=>?_⟩
  exact ⟨_,_,⟨rfl,rfl⟩,by kernel_rfl,⟨od _,tv⟩,⟨rfl,rfl⟩,tv⟩
 ·refine ⟨Unit,fun _=>⟨1,[(5,.dv .aH),(12,.dv (I 0)),(13,.dv (I 0))],kM true []⟩,fun _=>True,fun _=>0,(),fun _=>rfl,⟨⟨rf,rf,rf,tv⟩,⟨⟨rfl,rfl⟩,tv⟩,rfl,rfl⟩,tv,?_⟩
  rintro _ _
  refine ⟨fun h=>by simp at h,fun _=>?_⟩
  exact ⟨_,_,⟨rfl,rfl⟩,by kernel_rfl,⟨od _,tv⟩,⟨rfl,rfl⟩,tv⟩
def SN (n:Nat) (l:List Rk) (q:Bool):bh:=⟨2,[(0,.own 0 0 0 []),(1,.dv (I n)),(5,.own 1 0 0 []),(11,.own 0 0 0 [.el 0 1]),(12,.dv (I 1)),(13,.dv (I (bif q then 1 else 0)))],[(0,.tree 0 0 (dY false l)),(1,.tree 0 0 (.ay 2 (bif q then (l.take n).map eR else [])))]⟩
theorem Qv {n:Nat} (hn:1≤n):decide ((n:Int)≤(([]:List DV).length:Int))=false:=by simp; omega
set_option maxHeartbeats 4000000 in
theorem Cw (n:Nat) (hn:1≤n) (KR:n≤9223372036854775807) (r:Rk) (l:List Rk) (hl:(r::l).length≤1000):bn Tryz.prog 55 [.own 0 0 0 [],.dv (I n)] 1 (kM false (r::l)) 0 [.dv (.sl 2 (((r::l).take n).map eR))] (kM false (r::l)):=by
 have yJ:(nth tab (nth tab 65).elem).bytes=16:=by kernel_rfl
 refine bl aG mixed (aq _) (ar _) Tryz.func55 rfl rfl (by kernel_rfl) ?_
 refine ⟨Bool,SN n (r::l),fun _=>True,fun q=>bif q then 0 else 1,false,fun q=>by cases q <;> rfl,⟨⟨rfl,rf,⟨rfl,rfl,rfl,rfl,2,rfl⟩,rfl,rf,rf,tv⟩,⟨⟨rfl,rfl⟩,⟨rfl,rfl,2,rfl⟩,tv⟩,rfl,rfl⟩,tv,?_⟩
 intro q _
 cases q with
 | true =>
  refine ⟨fun h=>by simp at h,fun _=>?_⟩
  refine ⟨_,_,⟨rfl,rfl⟩,by kernel_rfl,⟨?_,tv⟩,⟨rfl,rfl⟩,tv⟩
  show DV.Le (.sl 2 (EG (((r::l).take n).map eR))) _
  rw [oc fun x=>rfl]
  exact rf
 | false =>
  refine ⟨fun _=>?_,fun h=>by simp at h⟩
  refine ⟨fun _=>⟨by show (0:Int)≤0; omega,by show (0:Int)<1; omega⟩,.ay 2 ((r::l).map eR),fun _=>rfl,?_⟩
  refine ⟨fun h=>absurd ((Qv hn).symm.trans h) (by simp),fun _=>?_⟩
  refine ⟨.ay 2 ((r::l).map eR),fun _=>rfl,?_⟩
  refine ⟨fun _=>⟨by show (-9223372036854775808:Int)≤(n:Int) - 0; omega,by show (n:Int) - 0≤9223372036854775807; omega⟩,?_⟩
  refine .inr (.inl ⟨.ay 2 ((r::l).map eR),fun _=>rfl,fun _=>⟨Int.le_refl _,?_,?_⟩,?_⟩)
  ·show (0:Int)≤if (n:Int) - 0<(((r::l).map eR).length:Int) then (n:Int) - 0 else (((r::l).map eR).length:Int)
   split <;> omega
  ·show (if (n:Int) - 0<(((r::l).map eR).length:Int) then (n:Int) - 0 else (((r::l).map eR).length:Int))≤(((r::l).map eR).length:Int)
   split <;> omega
  have hM:((((r::l).map eR).drop 0).take ((if (n:Int) - 0<(((r::l).map eR).length:Int) then (n:Int) - 0 else (((r::l).map eR).length:Int)).toNat - 0))=((r::l).take n).map eR:=by
   rw [List.drop_zero,List.map_take]
   split
   ·rename_i h; rw [show ((n:Int) - 0).toNat - 0=n by omega]
   ·rename_i h
    rw [show (((((r::l).map eR).length:Int)).toNat - 0)=((r::l).map eR).length by omega,List.take_length,List.take_of_length_le (by omega)]
  have hz:(((r::l).take n).map eR).length≤1000:=by simp; simp at hl; omega
  refine .inr ⟨.ay 2 ((r::l).map eR),fun _=>rfl,?_,Az _,((r::l).take n).map eR,?_,?_,?_,?_⟩
  ·show (0:Nat)+((if (n:Int) - 0<(((r::l).map eR).length:Int) then (n:Int) - 0 else (((r::l).map eR).length:Int)).toNat - 0)≤((r::l).map eR).length
   split <;> omega
  ·show dX ((((r::l).map eR).drop 0).take ((if (n:Int) - 0<(((r::l).map eR).length:Int) then (n:Int) - 0 else (((r::l).map eR).length:Int)).toNat - 0)) _
   rw [hM]; exact dX.refl _
  ·rw [yJ]; show (0+(((r::l).take n).map eR).length) * 16≤_; omega
  ·show 0+(((r::l).take n).map eR).length≤_; omega
  ·refine ⟨fun _=>⟨by show (-9223372036854775808:Int)≤0+1; omega,by show (0:Int)+1≤9223372036854775807; omega⟩,?_⟩
   exact ⟨true,⟨⟨rfl,rf,rfl,rfl,rf,rf,tv⟩,⟨⟨rfl,rfl⟩,⟨rfl,rfl⟩,tv⟩,rfl,rfl⟩,tv,by decide⟩
end Go.Proofs.YtpbdohkbiklflaaGreatDoor
namespace Go.Proofs.YtpbdohkbiklflaaGreatDoor
open Go.TM
variable [de]
abbrev Ky:=Int × Int
def ug (k:Ky):DV:=.agg [I k.1,I k.2]
abbrev HM:=List (Ky × Int)
def pT (p:Ky × Int):DV:=.fa (ug p.1) (I p.2)
def bm:HM→Ky→Option Int
 | [],_=>none
 | p::r,k=>if p.1=k then some p.2 else bm r k
def bO:HM→Ky→Int→HM
 | [],k,x=>[(k,x)]
 | p::r,k,x=>if p.1=k then (k,x)::r else p::bO r k x
def iE:HM→Ky→HM
 | [],_=>[]
 | p::r,k=>if p.1=k then r else p::iE r k
def hv (m:HM) (k:Ky):Int:=(bm m k).getD 0
theorem EW (a b:Ky):tP (ug a) (ug b)=decide (a=b):=by
 obtain ⟨a1,a2⟩:=a
 obtain ⟨b1,b2⟩:=b
 simp only [ug,tP,zh,Bl,Prod.mk.injEq]
 simp
 try rw [Bool.eq_iff_iff]; simp
theorem AA (k:Ky):∀m:HM,bH (m.map pT) (ug k)=(bm m k).map I
 | []=>rfl
 | p::r=>by
  simp only [List.map_cons,pT,bH,EW,bm]
  by_cases h:p.1=k
  ·simp [h]
  ·simp only [h,decide_false,cond_false,if_false]
   exact AA k r
theorem sj (k:Ky) (x:Int):∀m:HM,ez (m.map pT) (ug k) (I x)=(bO m k x).map pT
 | []=>rfl
 | p::r=>by
  simp only [List.map_cons,pT,ez,EW,bO]
  by_cases h:p.1=k
  ·simp [h,pT]
  ·simp only [h,decide_false,cond_false,if_false,List.map_cons]
   have:=sj k x r
   rw [this]
   rfl
theorem KZ (k:Ky):∀m:HM,fE (m.map pT) (ug k)=(iE m k).map pT
 | []=>rfl
 | p::r=>by
  simp only [List.map_cons,pT,fE,EW,iE]
  by_cases h:p.1=k
  ·simp [h]
  ·simp only [h,decide_false,cond_false,if_false,List.map_cons]
   have:=KZ k r
   rw [this]
   rfl
structure Sl where
 tick:Int
 n:Int
 c:Int
 gx:Int
 gy:Int
def bT (x:Sl):DV:=.agg [I x.tick,I x.n,I x.c,I x.gx,I x.gy]
def Uc:Bool→List Sl→DV
 | true,_=>.aH
 | false,l=>.ay 5 (l.map bT)
structure Vs where
 coin:Int
 ab:Int
 aC:Int
 last:Int
 work:Int
 H:HM
 cS:List Int
 rk:List (Bool × List Rk)
 sl:List (Bool × List Sl)
 bL:List Int
def GO (x:Bool × List Rk):DV:=dY x.1 x.2
def mD (x:Bool × List Sl):DV:=Uc x.1 x.2
def vC (f:Bool) (s:Vs):List AV:=[.dv (I 4),.dv (I s.coin),.dv (I s.ab),.dv (I s.aC),.dv (I s.last),.dv (I s.work),.own 1 0 0 [],.own 2 0 0 [],.own 3 0 (bif f then 1 else 0) [],.own 4 0 0 [],.own 5 0 0 []]
def vK (f:Bool) (s:Vs):ah:=[(0,.cells (vC f s)),(1,.tree 0 0 (.omap eh (s.H.map pT))),(2,.tree 0 0 (iL s.cS)),(3,.tree 0 (bif f then 1 else 0) (.ay 1 (s.rk.map GO))),(4,.tree 0 0 (.ay 1 (s.sl.map mD))),(5,.tree 0 0 (iL s.bL))]
where
 iL (l:List Int):DV:=.ay 1 (l.map I)
def oC (l:List Rk) (x:Rk):Nat:=l.countP fun y=>jT y x
def sk (l:List Rk) (x:Rk):List Rk:=qP l (oC l x) x
def lL (l:List Rk) (x:Rk):List Rk:=xN l (oC l x)
theorem GP {L:List DV} {i:Nat} {c:DV} (h:L[i]?=some c) (hc:c.af=true):TM.step (.ay 1 L) (.el i 0)=some c:=by
 have iA:c.cells=[c]:=by cases c <;> first | rfl | cases hc
 show (match L[i]? with | some x=>x.cells[0]? | none=>none)=_
 rw [h]
 show c.cells[0]?=_
 rw [iA]; rfl
theorem uh {L:List DV} {i:Nat} {c c':DV} (h:L[i]?=some c) (hc:c.af=true) (mu:c'.ak=true):bN (.ay 1 L) [.el i 0] c'=.ay 1 (L.set i c'):=by
 simp only [bN,GP h hc]
 show (match L[i]? with | some x=>DV.ay 1 (L.set i (pX x 0 c')) | none=>DV.ay 1 L)=_
 rw [h]
 cases c <;> first | (cases hc; done) | simp [pX,mu]
theorem wu {L:List DV} {i:Nat} {c:DV} (h:L[i]?=some c) (hc:c.af=true):TM.get (.ay 1 L) [.el i 0]=some c:=by
 simp only [TM.get,GP h hc]
set_option maxRecDepth 100000
theorem yK {L:List DV} {i:Nat} {l:List Rk} (h:L[i]?=some (dY false l)) (x:Rk) (hl:l.length≤511) (hk:oC l x<l.length) (hp:lK l (oC l x) x) :
  bn Tryz.prog 115 [.own 0 0 0 [.el i 0],.agg [.dv (I x.1),.dv (I x.2)]] 1 [(0,.tree 0 0 (.ay 1 L))] 0 [] [(0,.tree 0 2 (.ay 1 (L.set i (dY false (lL l x)))))]:=by
 obtain ⟨r,l',rfl⟩:∃r l',l=r::l':=by
  cases l with
  | nil=>simp at hk
  | cons r l'=>exact ⟨r,l',rfl⟩
 have:=pA (p:=[.el i 0]) (D:=.ay 1 L) (KY x r l' _ hl hk hp) (wu h rfl) (by simp) rfl rfl rfl rfl
 rw [uh h rfl rfl] at this
 exact this
theorem yL {L:List DV} {i:Nat} {f:Bool} {l:List Rk} (h:L[i]?=some (dY f l)) (hf:f=true→l=[]) (x:Rk) (hl:l.length≤511) (hp:lK l (oC l x) x) :
  bn Tryz.prog 116 [.own 0 0 0 [.el i 0],.agg [.dv (I x.1),.dv (I x.2)]] 1 [(0,.tree 0 0 (.ay 1 L))] 0 [] [(0,.tree 0 2 (.ay 1 (L.set i (dY false (sk l x)))))]:=by
 cases l with
 | nil =>
  have:=pA (p:=[.el i 0]) (D:=.ay 1 L) (Ib f x) (wu h rfl) (by simp) rfl rfl rfl rfl
  rw [uh h rfl rfl] at this
  exact this
 | cons r l' =>
  cases f with
  | true=>have:=hf rfl; cases this
  | false =>
   have:=pA (p:=[.el i 0]) (D:=.ay 1 L) (Ic x r l' _ hl hp) (wu h rfl) (by simp) rfl rfl rfl rfl
   rw [uh h rfl rfl] at this
   exact this
theorem gz:rR Tryz.prog (nth tab 74).key eh:=yk aG (by kernel_rfl)
def cG (s:Vs) (k:Ky) (i:Nat) (now:Int):Vs :=
 if hv s.H k=now then s else
 let s1:={ s with work:=s.work+1,cS:=s.cS.set i (s.cS.getD i 0+(now - hv s.H k)),H:=if now=0 then iE s.H k else bO s.H k now }
 if 1048576≤k.1 then s1 else
 let l0:=(s.rk.getD i (true,[])).2
 let l1:=if hv s.H k ≠ 0 then lL l0 (k.1,hv s.H k) else l0
 let f1:=if hv s.H k ≠ 0 then false else (s.rk.getD i (true,[])).1
 let r2:=if now ≠ 0 then (false,sk l1 (k.1,now)) else (f1,l1)
 {s1 with rk:=s.rk.set i r2 }
def cx (s:Vs) (k:Ky) (now:Int):Bool:=!decide (hv s.H k=now) && !decide (1048576≤k.1)
structure K4 (s:Vs) (k:Ky) (i:Nat) (now:Int):Prop where
 it:k.2=(i:Int)
 tl:i<s.cS.length
 rl:i<s.rk.length
 nb:0≤now∧now≤4611686018427387904
 hb:0≤hv s.H k∧hv s.H k≤4611686018427387904
 tb:-4611686018427387904≤s.cS.getD i 0∧s.cS.getD i 0≤4611686018427387904∧s.cS.getD i 0+(now - hv s.H k)≤4611686018427387904∧-4611686018427387904≤s.cS.getD i 0+(now - hv s.H k)
 wb:0≤s.work∧s.work≤4611686018427387904
 ll:(s.rk.getD i (true,[])).2.length≤510
 lf:(s.rk.getD i (true,[])).1=true→(s.rk.getD i (true,[])).2=[]
 rem:k.1<1048576→hv s.H k ≠ 0→oC (s.rk.getD i (true,[])).2 (k.1,hv s.H k)<(s.rk.getD i (true,[])).2.length∧lK (s.rk.getD i (true,[])).2 (oC (s.rk.getD i (true,[])).2 (k.1,hv s.H k)) (k.1,hv s.H k)
 ins:k.1<1048576→now ≠ 0→∀l1,l1=(if hv s.H k ≠ 0 then lL (s.rk.getD i (true,[])).2 (k.1,hv s.H k) else (s.rk.getD i (true,[])).2)→lK l1 (oC l1 (k.1,now)) (k.1,now)
set_option maxHeartbeats 4000000 in
theorem Cx (s:Vs) (k:Ky) (i:Nat) (now:Int) (ok:K4 s k i now):bn Tryz.prog 53 [.ptr 0 0,.agg [.dv (I k.1),.dv (I k.2)],.dv (I now)] 6 (vK false s) 0 [] (vK (cx s k now) (cG s k i now)):=by
 obtain ⟨a,it⟩:=k
 obtain rfl:it=(i:Int):=ok.it
 refine bl aG mixed (aq _) (ar _) Tryz.func53 rfl rfl (by kernel_rfl) ?_
 have hg:bH (s.H.map pT) (ug (a,(i:Int)))=bif (bm s.H (a,(i:Int))).isSome then some (I (hv s.H (a,(i:Int)))) else none:=by
  rw [AA]
  unfold hv
  cases bm s.H (a,(i:Int)) <;> rfl
 refine ⟨gz,ug (a,(i:Int)),rfl,rfl,I (hv s.H (a,(i:Int))),(bm s.H (a,(i:Int))).isSome,fun _=>hg,fun h=>?_,rfl,?_⟩
 ·unfold hv
  cases hq:bm s.H (a,(i:Int)) with
  | none=>rfl
  | some x=>rw [hq] at h; cases h
 have Zx:=ok.nb
 have Zy:=ok.hb
 have Zz:=ok.tb
 have ZA:=ok.wb
 have ht:s.cS[i]?=some (s.cS.getD i 0):=by rw [List.getD_eq_getElem?_getD,List.getElem?_eq_getElem ok.tl]; rfl
 generalize hb:hv s.H (a,(i:Int))=before at *
 refine ⟨by kernel_rfl,fun he=>?_,fun bD=>?_⟩
 ·have he:before=now:=by simpa using he
  rw [show cG s (a,(i:Int)) i now=s by simp only [cG]; rw [if_pos (hb.trans he)],show cx s (a,(i:Int)) now=false by simp only [cx]; rw [hb,he]; simp]
  exact ⟨_,_,⟨rfl,rfl⟩,by kernel_rfl,tv,⟨rf,rf,rf,rf,rf,rf,rfl,rfl,rfl,rfl,rfl,tv⟩,⟨rfl,rfl⟩,⟨rfl,rfl⟩,⟨rfl,rfl⟩,⟨rfl,rfl⟩,⟨rfl,rfl⟩,tv⟩
 have bD:before ≠ now:=by simpa using bD
 refine ⟨fun _=>⟨by omega,by omega⟩,?_⟩
 have K5:(i:Int)<((s.cS.map I).length:Int):=by rw [List.length_map]; have:=ok.tl; omega
 refine ⟨fun _=>⟨by show (0:Int)≤(i:Int); omega,K5⟩,I (s.cS.getD i 0),fun _=>by show (s.cS.map I)[((i:Int)).toNat]?=_; rw [Int.toNat_natCast,List.getElem?_map,ht]; rfl,?_⟩
 refine ⟨fun _=>⟨by omega,by omega⟩,?_⟩
 refine ⟨fun _=>⟨by omega,by omega⟩,?_⟩
 have fS:(s.cS.map I)[((i:Int)).toNat]?=some (I (s.cS.getD i 0)):=by rw [Int.toNat_natCast,List.getElem?_map,ht]; rfl
 refine ⟨fun _=>⟨by show (0:Int)≤(i:Int); omega,K5⟩,[I (s.cS.getD i 0+(now - before))],⟨rf,tv⟩,I (s.cS.getD i 0),fS,?_⟩
 have b2:DV.ay 1 ((s.cS.map I).set i (I (s.cS.getD i 0+(now - before))))=vK.iL (s.cS.set i (s.cS.getD i 0+(now - before))):=by simp only [vK.iL,List.map_set]
 have b1:DV.omap eh (fE (s.H.map pT) (ug (a,(i:Int))))=.omap eh ((iE s.H (a,(i:Int))).map pT):=by rw [KZ]
 have VB:DV.omap eh (ez (s.H.map pT) (ug (a,(i:Int))) (I now))=.omap eh ((bO s.H (a,(i:Int)) now).map pT):=by rw [sj]
 have Ud:(i:Int)<((s.rk.map GO).length:Int):=by rw [List.length_map]; have:=ok.rl; omega
 have K6:s.rk[i]?=some (s.rk.getD i (true,[])):=by rw [List.getD_eq_getElem?_getD,List.getElem?_eq_getElem ok.rl]; rfl
 have OK:(s.rk.map GO)[((i:Int)).toNat]?=some (GO (s.rk.getD i (true,[]))):=by rw [Int.toNat_natCast,List.getElem?_map,K6]; rfl
 have YC:=ok.ll
 have Ue:=ok.lf
 have Uf:=ok.rem
 have Ug:=ok.ins
 rw [hb] at Uf Ug
 generalize iF:s.rk.getD i (true,[])=q0 at *
 obtain ⟨f0,l0⟩:=q0
 simp only at YC Ue Uf Ug
 have Qw:(s.rk.map GO)[i]?=some (dY f0 l0):=by rw [List.getElem?_map,K6]; rfl
 refine ⟨by kernel_rfl,fun h0=>?_,fun h0=>?_⟩
 ·have h0:now=0:=by simpa using h0
  subst h0
  refine ⟨gz,ug (a,(i:Int)),rfl,rfl,by kernel_rfl,fun hp=>?_,fun hp=>?_⟩
  ·have hp:1048576≤a:=of_decide_eq_true hp
   rw [show cG s (a,(i:Int)) i 0={ s with work:=s.work+1,cS:=s.cS.set i (s.cS.getD i 0+(0 - before)),H:=iE s.H (a,(i:Int)) } by simp only [cG,hb]; rw [if_neg bD,if_pos hp]; rfl,show cx s (a,(i:Int)) 0=false by simp only [cx]; simp [hp]]
   exact ⟨_,_,⟨rfl,rfl⟩,by kernel_rfl,tv,⟨rf,rf,rf,rf,rf,rf,rfl,rfl,rfl,rfl,rfl,tv⟩,⟨rfl,b1⟩,⟨rfl,b2⟩,⟨rfl,rfl⟩,⟨rfl,rfl⟩,⟨rfl,rfl⟩,tv⟩
  ·have hp:a<1048576:=by have:=of_decide_eq_false hp; simp only at this; omega
   refine ⟨fun _=>?_,fun h=>absurd h (by simpa using bD)⟩
   refine ⟨fun _=>⟨by show (0:Int)≤(i:Int); omega,Ud⟩,dY f0 l0,fun _=>OK,?_⟩
   obtain ⟨r1,r2⟩:=Uf hp bD
   obtain rfl:f0=false:=by
    cases f0 with
    | false=>rfl
    | true=>rw [Ue rfl] at r1; simp at r1
   have Qx:=yK Qw (a,before) (by omega) r1 r2
   refine .inr ⟨[3],[.own 0 0 0 [.el i 0],.agg [.dv (I a),.dv (I before)]],[(0,.tree 0 0 (.ay 1 (s.rk.map GO)))],0,_,_,Qx,by kernel_rfl,by kernel_rfl,⟨rfl,⟨rf,rf,tv⟩,tv⟩,⟨⟨rfl,rfl⟩,tv⟩,?_⟩
   refine ⟨by kernel_rfl,fun h=>absurd h (by simp),fun _=>?_⟩
   rw [show cG s (a,(i:Int)) i 0={ s with work:=s.work+1,cS:=s.cS.set i (s.cS.getD i 0+(0 - before)),H:=iE s.H (a,(i:Int)),rk:=s.rk.set i (false,lL l0 (a,before)) } by simp only [cG,hb]; rw [if_neg bD,if_neg (by omega)]; simp only [iF,ne_eq,not_true_eq_false,if_false,bD,not_false_eq_true,if_true],show cx s (a,(i:Int)) 0=true by simp only [cx,hb]; simp [bD]; omega]
   exact ⟨_,_,⟨rfl,rfl⟩,by kernel_rfl,tv,⟨rf,rf,rf,rf,rf,rf,rfl,rfl,rfl,rfl,rfl,tv⟩,⟨rfl,b1⟩,⟨rfl,b2⟩,⟨rfl,by simp only [List.map_set]; rfl⟩,⟨rfl,rfl⟩,⟨rfl,rfl⟩,tv⟩
 ·have h0:now ≠ 0:=by simpa using h0
  refine ⟨gz,ug (a,(i:Int)),rfl,rfl,I now,⟨rf,tv⟩,rfl,false,fun _=>⟨?_,?_⟩,by kernel_rfl,fun hp=>?_,fun hp=>?_⟩
  ·intro x hx d hd
   rw [hg] at hx
   cases hk:(bm s.H (a,(i:Int))).isSome with
   | false=>rw [hk] at hx; cases hx
   | true=>rw [hk] at hx; injection hx with hx; subst hx; simp [DV.cells] at hd; subst hd; rfl
  ·intro d hd
   simp [DV.cells] at hd; subst hd; rfl
  ·have hp:1048576≤a:=of_decide_eq_true hp
   rw [show cG s (a,(i:Int)) i now={ s with work:=s.work+1,cS:=s.cS.set i (s.cS.getD i 0+(now - before)),H:=bO s.H (a,(i:Int)) now } by simp only [cG,hb]; rw [if_neg bD,if_pos hp,if_neg h0],show cx s (a,(i:Int)) now=false by simp only [cx]; simp [hp]]
   exact ⟨_,_,⟨rfl,rfl⟩,by kernel_rfl,tv,⟨rf,rf,rf,rf,rf,rf,rfl,rfl,rfl,rfl,rfl,tv⟩,⟨rfl,VB⟩,⟨rfl,b2⟩,⟨rfl,rfl⟩,⟨rfl,rfl⟩,⟨rfl,rfl⟩,tv⟩
  ·have hp:a<1048576:=by have:=of_decide_eq_false hp; simp only at this; omega
   refine ⟨fun Nc=>?_,fun Nc=>?_⟩
   ·have Nc:before ≠ 0:=by simpa using Nc
    refine ⟨fun _=>⟨by show (0:Int)≤(i:Int); omega,Ud⟩,dY f0 l0,fun _=>OK,?_⟩
    obtain ⟨r1,r2⟩:=Uf hp Nc
    obtain rfl:f0=false:=by
     cases f0 with
     | false=>rfl
     | true=>rw [Ue rfl] at r1; simp at r1
    have Qx:=yK Qw (a,before) (by omega) r1 r2
    refine .inr ⟨[3],[.own 0 0 0 [.el i 0],.agg [.dv (I a),.dv (I before)]],[(0,.tree 0 0 (.ay 1 (s.rk.map GO)))],0,_,_,Qx,by kernel_rfl,by kernel_rfl,⟨rfl,⟨rf,rf,tv⟩,tv⟩,⟨⟨rfl,rfl⟩,tv⟩,?_⟩
    refine ⟨by kernel_rfl,fun _=>?_,fun h=>absurd h (by simpa using h0)⟩
    have SO:(lL l0 (a,before)).length≤511:=by unfold lL; rw [Cu _ _ r1]; omega
    have iM:((s.rk.map GO).set i (dY false (lL l0 (a,before))))[i]?=some (dY false (lL l0 (a,before))):=by rw [List.getElem?_set_self (by rw [List.length_map]; exact ok.rl)]
    have Qy:=yL iM (fun h=>by cases h) (a,now) SO (Ug hp h0 _ (by rw [if_pos Nc]))
    refine ⟨fun _=>⟨by show (0:Int)≤(i:Int); omega,by rw [List.length_set]; exact Ud⟩,dY false (lL l0 (a,before)),fun _=>iM,?_⟩
    refine .inr ⟨[3],[.own 0 0 0 [.el i 0],.agg [.dv (I a),.dv (I now)]],[(0,.tree 0 0 (.ay 1 ((s.rk.map GO).set i (dY false (lL l0 (a,before))))))],0,_,_,Qy,by kernel_rfl,by kernel_rfl,⟨rfl,⟨rf,rf,tv⟩,tv⟩,⟨⟨rfl,rfl⟩,tv⟩,?_⟩
    refine ⟨by kernel_rfl,?_⟩
    rw [show cG s (a,(i:Int)) i now={ s with work:=s.work+1,cS:=s.cS.set i (s.cS.getD i 0+(now - before)),H:=bO s.H (a,(i:Int)) now,rk:=s.rk.set i (false,sk (lL l0 (a,before)) (a,now)) } by simp only [cG,hb]; rw [if_neg bD,if_neg (by omega)]; simp only [iF,ne_eq,h0,if_false,Nc,not_false_eq_true,if_true],show cx s (a,(i:Int)) now=true by simp only [cx,hb]; simp [bD]; omega]
    exact ⟨_,_,⟨rfl,rfl⟩,by kernel_rfl,tv,⟨rf,rf,rf,rf,rf,rf,rfl,rfl,rfl,rfl,rfl,tv⟩,⟨rfl,VB⟩,⟨rfl,b2⟩,⟨rfl,by rw [List.set_set,List.map_set]; rfl⟩,⟨rfl,rfl⟩,⟨rfl,rfl⟩,tv⟩
   ·have Nc:before=0:=by simpa using Nc
    subst Nc
    refine ⟨fun _=>?_,fun h=>absurd h (by simpa using h0)⟩
    refine ⟨fun _=>⟨by show (0:Int)≤(i:Int); omega,Ud⟩,dY f0 l0,fun _=>OK,?_⟩
    have Qy:=yL Qw Ue (a,now) (by omega) (Ug hp h0 _ (by rw [if_neg (by simp)]))
    refine .inr ⟨[3],[.own 0 0 0 [.el i 0],.agg [.dv (I a),.dv (I now)]],[(0,.tree 0 0 (.ay 1 (s.rk.map GO)))],0,_,_,Qy,by kernel_rfl,by kernel_rfl,⟨rfl,⟨rf,rf,tv⟩,tv⟩,⟨⟨rfl,rfl⟩,tv⟩,?_⟩
    refine ⟨by kernel_rfl,?_⟩
    rw [show cG s (a,(i:Int)) i now={ s with work:=s.work+1,cS:=s.cS.set i (s.cS.getD i 0+(now - 0)),H:=bO s.H (a,(i:Int)) now,rk:=s.rk.set i (false,sk l0 (a,now)) } by simp only [cG,hb]; rw [if_neg bD,if_neg (by omega)]; simp only [iF,ne_eq,h0,if_false,not_true_eq_false,not_false_eq_true,if_true],show cx s (a,(i:Int)) now=true by simp only [cx,hb]; simp [bD]; omega]
    exact ⟨_,_,⟨rfl,rfl⟩,by kernel_rfl,tv,⟨rf,rf,rf,rf,rf,rf,rfl,rfl,rfl,rfl,rfl,tv⟩,⟨rfl,VB⟩,⟨rfl,b2⟩,⟨rfl,by simp only [List.map_set]; rfl⟩,⟨rfl,rfl⟩,⟨rfl,rfl⟩,tv⟩
end Go.Proofs.YtpbdohkbiklflaaGreatDoor
