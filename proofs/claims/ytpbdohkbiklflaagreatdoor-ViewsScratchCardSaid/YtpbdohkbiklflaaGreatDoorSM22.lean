import Derived.Test.YtpbdohkbiklflaaGreatDoorSM21
set_option linter.unusedVariables false
set_option linter.unusedSimpArgs false
set_option linter.unusedSectionVars false
namespace Go.Proofs.YtpbdohkbiklflaaGreatDoor
open Go.TM Go.RowKit Go.Lib
variable [cj]
def pZ (b off n i:Nat) (cc:Array Value) (x0 x1:Value) (w:World) (e:Ending) (w':World):Prop :=
 ∃g o cp c' t',e=.returned (.slice (some ⟨g,o,none⟩) (n+1) cp)∧n+1≤cp∧w'.heap[g]?=some (.cells c' t' (0,0))∧o+cp * 2≤c'.size∧(∀k,k<i * 2→c'[o+k]?=cc[off+k]?)∧c'[o+i * 2]?=some x0∧c'[o+i * 2+1]?=some x1 ∧
  (∀k,k<(n - i) * 2→c'[o+(i+1) * 2+k]?=cc[off+i * 2+k]?)∧w.grownBy w' (some b)∧(g=b ∨ w.heap.size≤g)
set_option maxHeartbeats 4000000 in
set_option maxRecDepth 100000 in
theorem FV (b off n c i vb vo vc:Nat) (cc vv:Array Value) (tt vt:TypeId) (x0 x1:Value) (w:World) (hw:w.heap[b]?=some (.cells cc tt (0,0))) (hv:w.heap[vb]?=some (.cells vv vt (0,0))) (jO:vv[vo]?=some x0) (GJ:vv[vo+1]?=some x1) (Rr:vb ≠ b)
  (Qi:n+1≤c) (hi:i<n) (cC:off+c * 2≤cc.size) (IS:n<9223372036854775807)
  (h1:∀k v,off≤k→k<off+n * 2→cc[k]?=some v→v.oneCell'=true) (Ql:x0.oneCell'=true) (C6:x1.oneCell'=true) :
  Calls Tryz.prog 129 #[.slice (some ⟨b,off,none⟩) n c,.int .i64 (i:Int),.slice (some ⟨vb,vo,none⟩) 1 vc] w (pZ b off n i cc x0 x1 w):=by
 have mixed:=Go.Proofs.YtpbdohkbiklflaaGreatDoor.mixed
 obtain ⟨i0,C4,BY,mL,KY⟩:=info_parts (show (Tryz.prog.info? 82).map (fun i=>(i.zero,i.size,i.bytes))=some (some (.agg #[.int .i64 0,.int .i64 0]),2,16) by kernel_rfl)
 have BX:w.drew.heap[b]?=some (.cells cc tt (0,0)):=hw
 have VC:∀lb cb,(callFunc 138 #[.slice (some ⟨vb,vo,none⟩) 1 vc,.slice (some ⟨b,off+(i+1) * 2,none⟩) lb cb]).run Tryz.prog w=.ok (.value (.bool false)) w:=fun lb cb=>by
  rw [run_callFunc_extern Tryz.func138 (by kernel_rfl) (by kernel_rfl) (by kernel_rfl) (e:=Extern.SlicesOverlaps.overlaps #[65,65] #[4]) (by kernel_rfl),
   Lib.run_overlaps_apart w 65 4 82 Tryz.underlying65 2 (fun w=>by simp [Go.sizeOf,typeInfo,C4,mL]) ⟨vb,vo,none⟩ ⟨b,off+(i+1) * 2,none⟩ 1 vc lb cb Rr vt tt vv.size cc.size (by simp [World.shape?,hv]) (by simp [World.shape?,hw]) (by omega) (by simp [World.frozen?,hv]) (by simp [World.frozen?,hv])]
  rfl
 have l1:=cN cc (off+i * 2) ((n - i) * 2)
 obtain ⟨c1,jy⟩:∃c1,c1=over cc (off+(i+1) * 2) (jh cc (off+i * 2) ((n - i) * 2)):=⟨_,rfl⟩
 obtain ⟨W1,iB⟩:∃W1,W1=w.drew.setRow b c1:=⟨_,rfl⟩
 have eT:c1.size=cc.size:=by rw [jy,fD _ _ _ (by rw [l1]; omega)]
 have wa:W1.heap[b]?=some (.cells c1 tt (0,0)):=by rw [iB]; exact setRow_heap w.drew b cc _ tt _ BX
 have CZ:W1.heap[vb]?=some (.cells vv vt (0,0)):=by rw [iB,setRow_other _ _ _ _ Rr]; exact hv
 have SX:∀ty dc sc,(Builtin.copy_ #[65,65] ty #[.slice (some ⟨b,off+(i+1) * 2,none⟩) (n - i) dc,.slice (some ⟨b,off+i * 2,none⟩) (n+1 - i) sc]).run Tryz.prog w.drew=.ok (goInt (n - i:Nat)) W1:=fun ty dc sc=>by
  rw [iB,jy]
  refine run_copy_row 65 82 ty i0 Tryz.underlying65 C4 BX _ _ dc ⟨b,off+i * 2,none⟩ _ sc (n - i) _ (by simp only [Nat.min_def]; split <;> omega) (fun j u hu=>?_) (by rw [l1,mL]) (fun u hu=>?_) (by rw [l1]; omega)
  ·have hj:j<(n - i) * 2:=by have:=(List.getElem?_eq_some_iff.1 hu).1; rwa [l1] at this
   rw [eA cc _ _ j hj (by omega)] at hu
   rw [cw,gW BX]; exact hu
  ·obtain ⟨k,hk,rfl⟩:=List.getElem_of_mem hu
   have ed:k<(n - i) * 2:=by rwa [l1] at hk
   have h2:=eA cc (off+i * 2) ((n - i) * 2) k ed (by omega)
   rw [List.getElem?_eq_getElem hk] at h2
   exact h1 (off+i * 2+k) _ (by omega) (by omega) h2.symm
 obtain ⟨c2,oX⟩:∃c2,c2=over c1 (off+i * 2) [x0,x1]:=⟨_,rfl⟩
 have VD:∀ty dc,(Builtin.copy_ #[65,65] ty #[.slice (some ⟨b,off+i * 2,none⟩) (n+1 - i) dc,.slice (some ⟨vb,vo,none⟩) 1 vc]).run Tryz.prog W1=.ok (goInt (1:Nat)) (W1.setRow b c2):=fun ty dc=>by
  rw [oX]
  refine run_copy_row 65 82 ty i0 Tryz.underlying65 C4 wa _ _ dc ⟨vb,vo,none⟩ _ vc 1 _ (by simp only [Nat.min_def]; split <;> omega) (fun j u hu=>?_) (by simp [mL]) (fun u hu=>?_) (by simp; omega)
  ·rw [cw,gW CZ]
   match j,hu with
   | 0,hu=>simp at hu; subst hu; exact jO
   | 1,hu=>simp at hu; subst hu; exact GJ
   | j+2,hu=>simp at hu
  ·simp at hu
   rcases hu with rfl | rfl
   ·exact Ql
   ·exact C6
 have N5:Hid (W1=w.drew.setRow b c1):=iB
 have Qj:Hid (c1=over cc (off+(i+1) * 2) (jh cc (off+i * 2) ((n - i) * 2))):=jy
 have Qk:Hid (c2=over c1 (off+i * 2) [x0,x1]):=oX
 clear iB jy oX wa CZ
 have VE:¬ ((i:Int)=(n:Int)):=by omega
 have wa:IntKind.i64.wrap ((i:Int)+1)=(i:Int)+1:=by rw [IntKind.wrap_i64]; omega
 have NV:IntKind.i64.wrap ((n:Int)+1)=(n:Int)+1:=by rw [IntKind.wrap_i64]; omega
 have jN:(0:Int)≤(i:Int)+1:=by omega
 have ea:i≤n:=by omega
 have cl:¬ (c=i+1):=by omega
 have vM:(i:Int)≤(n:Int)+1:=by omega
 have SG:¬ (c=i):=by omega
 have VF:¬ ((c:Int)<(n:Int)+1):=by omega
 have WL:(0:Int)≤(n:Int)+1:=by omega
 have VG:(i:Int)+1≤(n:Int)+1:=by omega
 have Rs:(n:Int)+1≤(c:Int):=by omega
 go_enter Tryz.func129,Tryz.ntmps129
 go_wp2_with (simp only [VC])
 go_region_law_o (refine step_copy_runI rfl _ _ 65 65 rfl _ _ (by simp [Act.eval,Act.put]) (by simp [Act.eval,Act.put]) (SX _ _ _) ?_)
 go_wp2
 go_ret
 have iB:=N5.out
 have jy:=Qj.out
 have oX:=Qk.out
 have wa:W1.heap[b]?=some (.cells c1 tt (0,0)):=by rw [iB]; exact setRow_heap w.drew b cc _ tt _ BX
 have fL:(W1.setRow b c2).heap[b]?=some (.cells c2 tt (0,0)):=setRow_heap W1 b c1 _ tt _ wa
 have e2:∀k,c2[k]?=if off+i * 2≤k∧k<off+i * 2+2 then [x0,x1][k - (off+i * 2)]? else c1[k]?:=fun k=>by rw [oX,fb _ _ _ (by simp; omega)]; rfl
 have e1:∀k,c1[k]?=if off+(i+1) * 2≤k∧k<off+(i+1) * 2+(n - i) * 2 then (jh cc (off+i * 2) ((n - i) * 2))[k - (off+(i+1) * 2)]? else cc[k]?:=fun k=>by rw [jy,fb _ _ _ (by rw [l1]; omega),l1]
 refine ⟨b,off,c,c2,tt,rfl,Qi,fL,?_,fun k hk=>?_,?_,?_,fun k hk=>?_,⟨by rw [iB]; rfl,by rw [iB]; rfl,by rw [iB]; rfl,by rw [iB]; simp,fun q hq bA=>?_⟩,.inl rfl⟩
 ·rw [oX,fD _ _ _ (by simp; omega),eT]; exact cC
 ·rw [e2,if_neg (by omega),e1,if_neg (by omega)]
 ·rw [e2,if_pos (by omega),Nat.sub_self]; rfl
 ·rw [e2,if_pos (by omega),show off+i * 2+1 - (off+i * 2)=1 by omega]; rfl
 ·rw [e2,if_neg (by omega),e1,if_pos (by omega),show off+(i+1) * 2+k - (off+(i+1) * 2)=k by omega,eA _ _ _ _ hk (by omega)]
 ·have IT:q ≠ b:=fun e=>bA (by rw [e])
  rw [setRow_other _ _ _ _ IT,iB,setRow_other _ _ _ _ IT]
  rfl
set_option maxHeartbeats 4000000 in
set_option maxRecDepth 100000 in
theorem KZ (b off n c vb vo vc:Nat) (cc vv:Array Value) (tt vt:TypeId) (x0 x1:Value) (w:World) (hw:w.heap[b]?=some (.cells cc tt (0,0))) (hv:w.heap[vb]?=some (.cells vv vt (0,0))) (jO:vv[vo]?=some x0) (GJ:vv[vo+1]?=some x1)
  (Qi:n≤c) (cC:off+c * 2≤cc.size) (N6:(n+1) * 16≤140737488355328) (Ql:x0.oneCell'=true) (C6:x1.oneCell'=true) :
  Calls Tryz.prog 129 #[.slice (some ⟨b,off,none⟩) n c,.int .i64 (n:Int),.slice (some ⟨vb,vo,none⟩) 1 vc] w (pZ b off n n cc x0 x1 w):=by
 have mixed:=Go.Proofs.YtpbdohkbiklflaaGreatDoor.mixed
 obtain ⟨i0,C4,BY,mL,KY⟩:=info_parts (show (Tryz.prog.info? 82).map (fun i=>(i.zero,i.size,i.bytes))=some (some (.agg #[.int .i64 0,.int .i64 0]),2,16) by kernel_rfl)
 have hd:∀d,d∈(DV.agg [.int .i64 0,.int .i64 0]).cells→d.aj=true:=by intro d hd; simp [DV.cells] at hd; subst hd; rfl
 have gU:nF w (.slice (some ⟨b,off,none⟩) n c) i0.size (List.replicate n (DV.agg [.int .i64 0,.int .i64 0])) (fun i j _ u=>cc[off+i * 2+j]?=some u):=by
  refine .inr ⟨b,off,c,cc,tt,by simp,by simpa using Qi,hw,by rw [mL]; exact cC,fun i x hx=>?_⟩
  have aK:i<n:=by have:=(List.getElem?_eq_some_iff.1 hx).1; simpa using this
  have vO:=List.mem_of_getElem? hx
  rw [List.eq_of_mem_replicate vO]
  refine ⟨by rw [mL]; rfl,fun j d hj=>⟨hd d (List.mem_of_getElem? hj),?_⟩⟩
  have Uf:j<2:=(List.getElem?_eq_some_iff.1 hj).1
  rw [mL]
  exact ⟨_,Array.getElem?_eq_getElem (by omega),Array.getElem?_eq_getElem (by omega)⟩
 have gn:nG w (.slice (some ⟨vb,vo,none⟩) 1 vc) i0.size [DV.agg [.int .i64 0,.int .i64 0]] (fun _ j _ u=>(j=0→u=x0)∧(j=1→u=x1)):=by
  refine .inr ⟨⟨vb,vo,none⟩,vc,fun _ j=>if j=0 then x0 else x1,rfl,fun i x hx=>?_⟩
  match i,hx with
  | 0,hx =>
   simp at hx; subst hx
   refine ⟨by rw [mL]; rfl,fun j d hj=>⟨hd d (List.mem_of_getElem? hj),?_⟩⟩
   have Uf:j<2:=(List.getElem?_eq_some_iff.1 hj).1
   rw [cw,gW hv]
   match j,Uf with
   | 0,_=>exact ⟨by simpa using jO,Ql,fun _=>rfl,by simp⟩
   | 1,_=>exact ⟨by simpa using GJ,C6,by simp,fun _=>rfl⟩
  | i+1,hx=>simp at hx
 have Qm:∀ty,∃v' w',(Builtin.append_ #[65,65] ty #[.slice (some ⟨b,off,none⟩) n c,.slice (some ⟨vb,vo,none⟩) 1 vc]).run Tryz.prog w=.ok v' w'∧pZ b off n n cc x0 x1 w (.returned v') w':=fun ty=>by
  obtain ⟨v',w',r1,r2,r3,r4,_⟩:=oK (P:=Tryz.prog) (ty:=ty) Tryz.underlying65 C4 BY (by rw [mL]; rfl) (by rw [mL]; omega) gU gn (by simp; omega) (by rw [KY]; simp; omega)
  refine ⟨v',w',r1,?_⟩
  rcases r2 with ⟨h,_⟩ | ⟨g,o,cp,c',t',rfl,k1,k2,k3,k4⟩
  ·simp at h
  ·have key:∀i j,i<n+1→j<2→∃u,c'[o+i * 2+j]?=some u∧km n (fun i j _ u=>cc[off+i * 2+j]?=some u) (fun _ j _ u=>(j=0→u=x0)∧(j=1→u=x1)) i j (.int .i64 0) u:=by
    intro i j hi hj
    have hx:(List.replicate n (DV.agg [.int .i64 0,.int .i64 0])++[DV.agg [.int .i64 0,.int .i64 0]])[i]?=some (DV.agg [.int .i64 0,.int .i64 0]):=by
     rw [←List.replicate_succ',List.getElem?_replicate,if_pos hi]
    obtain ⟨_,q⟩:=k4 i _ hx
    obtain ⟨_,u,q1,q2⟩:=q j (.int .i64 0) (by
     match j,hj with
     | 0,_=>rfl
     | 1,_=>rfl)
    rw [mL] at q1
    rw [List.length_replicate] at q2
    exact ⟨u,q1,q2⟩
   have hb:g=b ∨ w.heap.size≤g:=by
    rcases r4 g rfl with h | h
    ·exact .inr h
    ·left; simpa [eW] using h.symm
   rw [mL] at k3
   refine ⟨g,o,cp,c',t',by simp,by simpa using k1,k2,k3,fun k hk=>?_,?_,?_,fun k hk=>by omega,r3,hb⟩
   ·obtain ⟨u,q1,q2⟩:=key (k / 2) (k % 2) (by omega) (by omega)
    unfold km at q2
    rw [if_pos (by omega)] at q2
    rw [show o+k=o+k / 2 * 2+k % 2 by omega,show off+k=off+k / 2 * 2+k % 2 by omega,q1,q2]
   ·obtain ⟨u,q1,q2⟩:=key n 0 (by omega) (by omega)
    unfold km at q2
    rw [if_neg (by omega)] at q2
    rw [Nat.add_zero] at q1
    rw [q1,q2.1 rfl]
   ·obtain ⟨u,q1,q2⟩:=key n 1 (by omega) (by omega)
    unfold km at q2
    rw [if_neg (by omega)] at q2
    rw [q1,q2.2 rfl]
 obtain ⟨v',W',hr,AY⟩:=Qm 65
 have ea:n≤n:=Nat.le_refl _
 clear Qm gn gU
 go_enter Tryz.func129,Tryz.ntmps129
 go_wp2_with (at_builtin; refine Lib.wpList_append_run _ rfl _ _ _ _ rfl _ _ rfl rfl _ _ hr ?_)
 all_goals (go_ret; exact AY)
set_option maxHeartbeats 4000000 in
set_option maxRecDepth 100000 in
theorem IU (b off n i vb vo vc:Nat) (cc vv:Array Value) (tt vt:TypeId) (x0 x1:Value) (w:World) (hw:w.heap[b]?=some (.cells cc tt (0,0))) (hv:w.heap[vb]?=some (.cells vv vt (0,0))) (jO:vv[vo]?=some x0) (GJ:vv[vo+1]?=some x1)
  (hi:i<n) (cC:off+n * 2≤cc.size) (N6:(n+1) * 16≤140737488355328)
  (h1:∀k v,off≤k→k<off+n * 2→cc[k]?=some v→v.oneCell'=true) (Ql:x0.oneCell'=true) (C6:x1.oneCell'=true) :
  Calls Tryz.prog 129 #[.slice (some ⟨b,off,none⟩) n n,.int .i64 (i:Int),.slice (some ⟨vb,vo,none⟩) 1 vc] w (pZ b off n i cc x0 x1 w):=by
 have mixed:=Go.Proofs.YtpbdohkbiklflaaGreatDoor.mixed
 obtain ⟨i0,C4,BY,mL,KY⟩:=info_parts (show (Tryz.prog.info? 82).map (fun i=>(i.zero,i.size,i.bytes))=some (some (.agg #[.int .i64 0,.int .i64 0]),2,16) by kernel_rfl)
 have BX:w.drew.heap[b]?=some (.cells cc tt (0,0)):=hw
 have VH:b<w.heap.size:=(Array.getElem?_eq_some_iff.1 hw).1
 have VI:vb<w.heap.size:=(Array.getElem?_eq_some_iff.1 hv).1
 have l0:=cN cc off (i * 2)
 have l1:=cN cc (off+i * 2) ((n - i) * 2)
 have hold:(Builtin.firstCells i0.size i (.slice (some ⟨b,off,none⟩) i n)).run Tryz.prog w.drew=.ok (jh cc off (i * 2)).toArray w.drew :=
  run_firstCells_some w.drew i0.size i ⟨b,off,none⟩ i n _ (by rw [l0,mL]) (fun j u hu=>by
   have hj:j<i * 2:=by have:=(List.getElem?_eq_some_iff.1 hu).1; rwa [l0] at this
   rw [eA cc _ _ j hj (by omega)] at hu
   rw [cw,gW BX]; exact hu)
 have xm:i+(n+1 - i)=n+1:=by omega
 have FA:(n:Int)+1 - (i:Int)=((n+1 - i:Nat):Int):=by omega
 obtain ⟨G,hG⟩:∃G,G=grownCap w (n+1) n 82:=⟨_,rfl⟩
 obtain ⟨GK,K4⟩:∃GK:Array Value,GK=(jh cc off (i * 2)).toArray++Builtin.zeroCells (Value.agg #[.int .i64 0,.int .i64 0]).cells (n+1 - i)++Builtin.zeroCells (Value.agg #[.int .i64 0,.int .i64 0]).cells (G - (n+1)):=⟨_,rfl⟩
 have Ug:∀ty,(Builtin.append_ #[65,3] ty #[.slice (some ⟨b,off,none⟩) i n,.int .i64 ((n:Int)+1 - (i:Int))]).run Tryz.prog w=.ok (.slice (some ⟨w.heap.size,0,none⟩) (n+1) G) (w.drew.alloc (.cells GK 82)):=fun ty=>by
  have h:=Lib.run_append_grow_zeros (P:=Tryz.prog) (ty:=ty) w 65 3 82 i0 _ .i64 .i64 Tryz.underlying65 Tryz.underlying3 C4 BY (some ⟨b,off,none⟩) i n _ hold (n+1 - i) (by omega) (by rw [mL]; omega) (by omega) (by omega) (by rw [KY]; omega) (by rw [KY,xm]; exact growslice_fits (by omega) N6)
  rw [xm,←hG] at h
  rw [FA,K4]
  exact h
 have VJ:n+1≤G:=by rw [hG]; exact grownCap_ge w _ _ _
 have VK:G≤9223372036854775807:=by
  have:=grownCap_le_maxLen w (n+1) n 82 (by unfold maxLen; omega)
  rw [←hG] at this
  unfold maxLen at this
  omega
 have Rt:∀m,(Builtin.zeroCells (Value.agg #[.int .i64 0,.int .i64 0]).cells m).size=m * 2:=fun m=>by simp [Builtin.zeroCells,Value.cells]
 have VL:GK.size=G * 2:=by rw [K4]; simp only [Array.size_append,List.size_toArray,l0,Rt]; omega
 obtain ⟨W1,iB⟩:∃W1,W1=w.drew.alloc (.cells GK 82):=⟨_,rfl⟩
 have IV:W1.heap[w.heap.size]?=some (.cells GK 82 (0,0)):=by rw [iB]; exact bZ w.drew _
 have CZ:W1.heap[vb]?=some (.cells vv vt (0,0)):=by rw [iB,aP w.drew _ VI]; exact hv
 have jN:W1.heap[b]?=some (.cells cc tt (0,0)):=by rw [iB,aP w.drew _ VH]; exact hw
 obtain ⟨r1,Mw⟩:∃r1,r1=over GK (i * 2) [x0,x1]:=⟨_,rfl⟩
 have eT:r1.size=G * 2:=by rw [Mw,fD _ _ _ (by simp; omega),VL]
 have Qn:∀ty dc,(Builtin.copy_ #[65,65] ty #[.slice (some ⟨w.heap.size,i * 2,none⟩) (n+1 - i) dc,.slice (some ⟨vb,vo,none⟩) 1 vc]).run Tryz.prog W1=.ok (goInt (1:Nat)) (W1.setRow w.heap.size r1):=fun ty dc=>by
  rw [Mw]
  refine run_copy_row 65 82 ty i0 Tryz.underlying65 C4 IV _ _ dc ⟨vb,vo,none⟩ _ vc 1 _ (by simp only [Nat.min_def]; split <;> omega) (fun j u hu=>?_) (by simp [mL]) (fun u hu=>?_) (by simp; omega)
  ·rw [cw,gW CZ]
   match j,hu with
   | 0,hu=>simp at hu; subst hu; exact jO
   | 1,hu=>simp at hu; subst hu; exact GJ
   | j+2,hu=>simp at hu
  ·simp at hu
   rcases hu with rfl | rfl
   ·exact Ql
   ·exact C6
 obtain ⟨W2,IW⟩:∃W2,W2=W1.setRow w.heap.size r1:=⟨_,rfl⟩
 have K5:W2.drew.heap[w.heap.size]?=some (.cells r1 82 (0,0)):=by rw [IW]; exact setRow_heap W1 _ GK _ _ _ IV
 have cl:W2.drew.heap[b]?=some (.cells cc tt (0,0)):=by
  show W2.heap[b]?=_
  rw [IW,setRow_other _ _ _ _ (by omega)]; exact jN
 obtain ⟨r2,Mx⟩:∃r2,r2=over r1 ((i+1) * 2) (jh cc (off+i * 2) ((n - i) * 2)):=⟨_,rfl⟩
 have SY:∀ty dc sc,(Builtin.copy_ #[65,65] ty #[.slice (some ⟨w.heap.size,(i+1) * 2,none⟩) (n - i) dc,.slice (some ⟨b,off+i * 2,none⟩) (n - i) sc]).run Tryz.prog W2.drew=.ok (goInt (n - i:Nat)) (W2.drew.setRow w.heap.size r2):=fun ty dc sc=>by
  rw [Mx]
  refine run_copy_row 65 82 ty i0 Tryz.underlying65 C4 K5 _ _ dc ⟨b,off+i * 2,none⟩ _ sc (n - i) _ (by simp only [Nat.min_def]; split <;> omega) (fun j u hu=>?_) (by rw [l1,mL]) (fun u hu=>?_) (by rw [l1]; omega)
  ·have hj:j<(n - i) * 2:=by have:=(List.getElem?_eq_some_iff.1 hu).1; rwa [l1] at this
   rw [eA cc _ _ j hj (by omega)] at hu
   rw [cw,gW cl]; exact hu
  ·obtain ⟨k,hk,rfl⟩:=List.getElem_of_mem hu
   have ed:k<(n - i) * 2:=by rwa [l1] at hk
   have h2:=eA cc (off+i * 2) ((n - i) * 2) k ed (by omega)
   rw [List.getElem?_eq_getElem hk] at h2
   exact h1 (off+i * 2+k) _ (by omega) (by omega) h2.symm
 have N5:Hid (W1=w.drew.alloc (.cells GK 82)):=iB
 have VM:Hid (W2=W1.setRow w.heap.size r1):=IW
 have eR:Hid (GK=(jh cc off (i * 2)).toArray++Builtin.zeroCells (Value.agg #[.int .i64 0,.int .i64 0]).cells (n+1 - i)++Builtin.zeroCells (Value.agg #[.int .i64 0,.int .i64 0]).cells (G - (n+1))):=K4
 have VN:Hid (r1=over GK (i * 2) [x0,x1]):=Mw
 have VO:Hid (r2=over r1 ((i+1) * 2) (jh cc (off+i * 2) ((n - i) * 2))):=Mx
 rw [←iB] at Ug
 rw [←IW] at Qn
 have VP:Hid (W2.drew.heap[w.heap.size]?=some (.cells r1 82 (0,0))):=K5
 clear iB IW K4 Mw Mx hG hold FA xm IV CZ jN K5 cl
 have VE:¬ ((i:Int)=(n:Int)):=by omega
 have wa:IntKind.i64.wrap ((i:Int)+1)=(i:Int)+1:=by rw [IntKind.wrap_i64]; omega
 have NV:IntKind.i64.wrap ((n:Int)+1)=(n:Int)+1:=by rw [IntKind.wrap_i64]; omega
 have WM:IntKind.i64.wrap ((n:Int)+1 - (i:Int))=(n:Int)+1 - (i:Int):=by rw [IntKind.wrap_i64]; omega
 have jN:(0:Int)≤(i:Int)+1:=by omega
 have ea:i≤n:=by omega
 have cl:¬ (G=i+1):=by omega
 have vM:(i:Int)≤(n:Int)+1:=by omega
 have SG:¬ (G=i):=by omega
 have VF:¬ (n=i):=by omega
 have VG:(i:Int)+1≤(n:Int)+1:=by omega
 have Rs:(n:Int)<(n:Int)+1:=by omega
 have WN:(i:Int)≤(n:Int):=by omega
 go_enter Tryz.func129,Tryz.ntmps129
 go_wp2_with (first
  | (at_builtin; refine Lib.wpList_append_run _ rfl _ _ _ _ rfl _ _ rfl rfl _ _ (Ug _) ?_)
  | (at_builtin; refine wpList_copy_runI _ rfl _ _ 65 65 rfl _ _ rfl rfl (Qn _ _) ?_))
 go_region_law_o (refine step_copy_runI rfl _ _ 65 65 rfl _ _ (by simp [Act.eval,Act.put]) (by simp [Act.eval,Act.put]) (SY _ _ _) ?_)
 go_wp2
 go_ret
 have iB:=N5.out
 have IW:=VM.out
 have Mw:=VN.out
 have Mx:=VO.out
 have e2:∀k,r2[k]?=if (i+1) * 2≤k∧k<(i+1) * 2+(n - i) * 2 then (jh cc (off+i * 2) ((n - i) * 2))[k - (i+1) * 2]? else r1[k]?:=fun k=>by rw [Mx,fb _ _ _ (by rw [l1]; omega),l1]
 have e1:∀k,r1[k]?=if i * 2≤k∧k<i * 2+2 then [x0,x1][k - i * 2]? else GK[k]?:=fun k=>by rw [Mw,fb _ _ _ (by simp; omega)]; rfl
 refine ⟨w.heap.size,0,G,r2,82,rfl,VJ,setRow_heap W2.drew _ r1 _ _ _ VP.out,?_,fun k hk=>?_,?_,?_,fun k hk=>?_,⟨by rw [IW,iB]; rfl,by rw [IW,iB]; rfl,by rw [IW,iB]; rfl,by rw [IW,iB]; simp,fun q hq bA=>?_⟩,.inr (Nat.le_refl _)⟩
 ·rw [Mx,fD _ _ _ (by rw [l1]; omega),eT]; omega
 ·rw [Nat.zero_add,e2,if_neg (by omega),e1,if_neg (by omega),eR.out,Array.getElem?_append,if_pos (by simp only [Array.size_append,List.size_toArray,l0,Rt]; omega),Array.getElem?_append,if_pos (by simp only [List.size_toArray,l0]; omega),List.getElem?_toArray,eA _ _ _ _ hk (by omega)]
 ·rw [Nat.zero_add,e2,if_neg (by omega),e1,if_pos (by omega),Nat.sub_self]; rfl
 ·rw [Nat.zero_add,e2,if_neg (by omega),e1,if_pos (by omega),show i * 2+1 - i * 2=1 by omega]; rfl
 ·rw [Nat.zero_add,e2,if_pos (by omega),show (i+1) * 2+k - (i+1) * 2=k by omega,eA _ _ _ _ hk (by omega)]
 ·have IT:q ≠ w.heap.size:=by omega
  rw [setRow_other _ _ _ _ IT]
  show W2.heap[q]?=_
  rw [IW,setRow_other _ _ _ _ IT,iB,aP w.drew _ hq]
  rfl
end Go.Proofs.YtpbdohkbiklflaaGreatDoor
namespace Go.Proofs.YtpbdohkbiklflaaGreatDoor
open Go.TM Go.RowKit
variable [cQ]
theorem IX {M:Mem} {h:Option Value} {n:Int} {u:Value} (r:cW M h (I n) u):u=.int .i64 n:=by
 rcases r with ⟨a,_⟩ | ⟨_,r⟩
 ·cases a
 ·cases r; rfl
theorem uS {M:Mem} {w:World} {v:Value} {hc:PS→Option Value} {l:List Rk} (h:bQ M w v hc (.ar 2 (l.map eR))) (hl:l ≠ []) :
  ∃b off c cc tt,v=.slice (some ⟨b,off,none⟩) l.length c∧l.length≤c∧w.heap[b]?=some (.cells cc tt (0,0))∧off+c * 2≤cc.size∧∀i y,l[i]?=some y→cc[off+i * 2]?=some (.int .i64 y.1)∧cc[off+i * 2+1]?=some (.int .i64 y.2):=by
 rcases h with ⟨h,_⟩ | ⟨b,off,c,cc,tt,rfl,h1,h2,h3,h4⟩
 ·simp at h; exact absurd h hl
 ·refine ⟨b,off,c,cc,tt,by rw [List.length_map],by simpa using h1,h2,h3,fun i y hy=>?_⟩
  obtain ⟨_,q⟩:=h4 i (eR y) (by rw [List.getElem?_map,hy]; rfl)
  obtain ⟨_,u,e1,e2⟩:=q 0 (I y.1) rfl
  obtain ⟨_,u',e3,e4⟩:=q 1 (I y.2) rfl
  rw [IX e2] at e1
  rw [IX e4] at e3
  exact ⟨e1,e3⟩
theorem EL {M:Mem} {w:World} {g o cp:Nat} {c:Array Value} {t:TypeId} {l:List Rk} (h1:l.length≤cp) (h2:w.heap[g]?=some (.cells c t (0,0))) (h3:o+cp * 2≤c.size)
  (h4:∀i y,l[i]?=some y→c[o+i * 2]?=some (.int .i64 y.1)∧c[o+i * 2+1]?=some (.int .i64 y.2)) :
  nF w (.slice (some ⟨g,o,none⟩) l.length cp) 2 (l.map eR) (fun _ _ d u=>d.ae=false∧bc M d u):=by
 refine .inr ⟨g,o,cp,c,t,by rw [List.length_map],by simpa using h1,h2,h3,fun i x hx=>?_⟩
 rw [List.getElem?_map] at hx
 cases hy:l[i]? with
 | none=>rw [hy] at hx; simp at hx
 | some y =>
  rw [hy] at hx; simp at hx; subst hx
  obtain ⟨e1,e2⟩:=h4 i y hy
  refine ⟨rfl,fun j d hd=>?_⟩
  match j,hd with
  | 0,hd=>simp [eR,DV.cells] at hd; subst hd; exact ⟨rfl,_,e1,rfl,.int _ _⟩
  | 1,hd=>simp [eR,DV.cells] at hd; subst hd; exact ⟨rfl,_,e2,rfl,.int _ _⟩
  | j+2,hd=>simp [eR,DV.cells] at hd
theorem AZ {cc:Array Value} {off n:Nat} {l:List Rk} (hn:n=l.length) (h:∀i y,l[i]?=some y→cc[off+i * 2]?=some (.int .i64 y.1)∧cc[off+i * 2+1]?=some (.int .i64 y.2)) :
  ∀k v,off≤k→k<off+n * 2→cc[k]?=some v→v.oneCell'=true:=by
 intro k v h1 h2 h3
 obtain ⟨e1,e2⟩:=h ((k - off) / 2) _ (List.getElem?_eq_getElem (by omega))
 rcases Nat.mod_two_eq_zero_or_one (k - off) with h4 | h4
 ·rw [show off+(k - off) / 2 * 2=k by omega,h3] at e1; injection e1 with e1; subst e1; rfl
 ·rw [show off+(k - off) / 2 * 2+1=k by omega,h3] at e2; injection e2 with e2; subst e2; rfl
theorem K6 (l:List Rk) (k:Nat) (x:Rk) (hk:k≤l.length) (i:Nat):(pY l k x)[i]?=if i<k then l[i]? else if i=k then some x else l[i - 1]?:=by
 unfold pY
 have ht:(l.take k).length=k:=by simp; omega
 rw [List.getElem?_append,ht]
 by_cases h1:i<k
 ·rw [if_pos h1,if_pos h1,List.getElem?_take,if_pos h1]
 ·rw [if_neg h1,if_neg h1]
  by_cases h2:i=k
  ·subst h2; simp
  ·rw [if_neg h2,show i - k=(i - 1 - k)+1 by omega,List.getElem?_cons_succ,List.getElem?_drop,show k+(i - 1 - k)=i - 1 by omega]
theorem uT (l:List Rk) (k:Nat) (x:Rk) (hk:k≤l.length):(pY l k x).length=l.length+1:=by simp [pY]; omega
theorem K7 (l:List Rk) (k:Nat) (hk:k<l.length) (i:Nat):(wv l k)[i]?=if i<k then l[i]? else l[i+1]?:=by
 unfold wv
 have ht:(l.take k).length=k:=by simp; omega
 rw [List.getElem?_append,ht]
 by_cases h1:i<k
 ·rw [if_pos h1,if_pos h1,List.getElem?_take,if_pos h1]
 ·rw [if_neg h1,if_neg h1,List.getElem?_drop,show k+1+(i - k)=i+1 by omega]
theorem A0 (l:List Rk) (k:Nat) (hk:k<l.length):(wv l k).length=l.length - 1:=by simp [wv]; omega
theorem FW {D:DV} {p:List PS} {l:List Rk} (hp:get D p=some (.ar 2 (l.map eR))) (bA:p ≠ []) (x:Rk) (k:Nat) (hk:k≤l.length) (hl:l ≠ []) (hlen:l.length≤1000) :
  bg Tryz.prog 129 [.own 0 0 0 p,.dv (I k),.own 1 0 0 []] 2 [(0,.tree 0 0 D),(1,.tree 0 0 (.ar 2 [eR x]))] 1 [.own 2 1 0 []]
   [(2,.tree 1 0 (.ar 2 ((pY l k x).map eR))),(0,.tree 0 0 (bH D p .any)),(1,.tree 0 0 (.ar 2 [eR x]))]:=by
 refine qZ ⟨_,Tryz.func129,by kernel_rfl,rfl⟩ hp bA (by omega) (fun i hi=>by simp only [aa]; rw [TM.beq_false (show i ≠ 1 by omega)]; rfl) (y3 _) ?_
 intro w G v xs cC hu aS hr
 obtain ⟨v0,v1,rfl⟩:∃v0 v1,xs=[v0,v1]:=by
  match xs,hr.1 with
  | [a,b],_=>exact ⟨a,b,rfl⟩
 have r0:=hr.2 0 _ v0 rfl rfl
 have r1:=hr.2 1 _ v1 rfl rfl
 cases r0 with | dv r0=>cases r0 with | int =>
 cases r1 with | own _ _ _ _ _ hh hc =>
 obtain ⟨b,off,c,cc,tt,rfl,jy,hw,sd,gU⟩:=uS aS hl
 obtain ⟨u1,L1,_,Fg⟩:=cC.node (i:=1) (ver:=0) (ep:=0) (d:=.ar 2 [eR x]) (p:=[]) rfl rfl rfl
 rw [L1] at hh; injection hh with hh; subst hh
 obtain ⟨vb,vo,vc,vv,vt,rfl,_,hv,_,VQ⟩:=uS (l:=[x]) Fg (by simp)
 obtain ⟨jO,GJ⟩:=VQ 0 x rfl
 simp only [Nat.zero_mul,Nat.add_zero] at jO GJ
 have Rr:vb ≠ b:=by
  rintro rfl
  have h0:bE G 0 (aa [(0,ak.tree 0 0 D),(1,ak.tree 0 0 (.ar 2 [eR x]))] 0) vb:=⟨p,_,_,hp,rfl,hu,rfl⟩
  have h1:bE G 1 (aa [(0,ak.tree 0 0 D),(1,ak.tree 0 0 (.ar 2 [eR x]))] 1) vb:=⟨[],_,_,rfl,rfl,L1,rfl⟩
  have:=cC.inj 0 1 vb h0 h1
  cases this
 have uE:=AZ rfl gU
 have AY:∀e w',pZ b off l.length k cc (.int .i64 x.1) (.int .i64 x.2) w e w'→∃v',e=.returned v'∧v'.oneCell'=true∧w.grownBy w' (some b)∧nF w' v' 2 ((pY l k x).map eR) (fun _ _ d u=>d.ae=false∧bc G.M d u)∧∀q,eW v'=some q→some b=some q ∨ w.heap.size≤q:=by
  rintro e w' ⟨g,o,cp,c',t',rfl,p1,p2,p3,p4,p5,p6,p7,p8,p9⟩
  refine ⟨_,rfl,rfl,p8,?_,fun q hq=>?_⟩
  ·have hL:=uT l k x hk
   rw [←hL]
   refine EL (by rw [hL]; exact p1) p2 p3 fun i y hy=>?_
   rw [K6 l k x hk] at hy
   by_cases h1:i<k
   ·rw [if_pos h1] at hy
    obtain ⟨e1,e2⟩:=gU i y hy
    rw [p4 (i * 2) (by omega),Nat.add_assoc,p4 (i * 2+1) (by omega),←Nat.add_assoc]
    exact ⟨e1,e2⟩
   ·rw [if_neg h1] at hy
    by_cases h2:i=k
    ·subst h2; rw [if_pos rfl] at hy; injection hy with hy; subst hy; exact ⟨p5,p6⟩
    ·rw [if_neg h2] at hy
     have aK:=(List.getElem?_eq_some_iff.1 hy).1
     obtain ⟨e1,e2⟩:=gU _ y hy
     have q1:=p7 ((i - 1 - k) * 2) (by omega)
     have q2:=p7 ((i - 1 - k) * 2+1) (by omega)
     rw [show o+(k+1) * 2+(i - 1 - k) * 2=o+i * 2 by omega,show off+k * 2+(i - 1 - k) * 2=off+(i - 1) * 2 by omega] at q1
     rw [show o+(k+1) * 2+((i - 1 - k) * 2+1)=o+i * 2+1 by omega,show off+k * 2+((i - 1 - k) * 2+1)=off+(i - 1) * 2+1 by omega] at q2
     exact ⟨q1.trans e1,q2.trans e2⟩
  ·simp only [eW,Option.some.injEq] at hq
   subst hq
   rcases p9 with h | h
   ·exact .inl (by rw [h])
   ·exact .inr h
 rcases Nat.lt_or_ge k l.length with aK | db
 ·rcases Nat.lt_or_ge l.length c with uU | mq
  ·exact (FV b off l.length c k vb vo vc cc vv tt vt _ _ w hw hv jO GJ Rr uU aK sd (by omega) uE rfl rfl).mono fun e w' h=>AY e w' h
  ·obtain rfl:c=l.length:=by omega
   exact (IU b off l.length k vb vo vc cc vv tt vt _ _ w hw hv jO GJ aK sd (by omega) uE rfl rfl).mono fun e w' h=>AY e w' h
 ·obtain rfl:k=l.length:=by omega
  exact (KZ b off l.length c vb vo vc cc vv tt vt _ _ w hw hv jO GJ jy sd (by omega) rfl rfl).mono fun e w' h=>AY e w' h
theorem FX {D:DV} {p:List PS} {l:List Rk} (hp:get D p=some (.ar 2 (l.map eR))) (bA:p ≠ []) (k:Nat) (hk:k<l.length) (hlen:l.length≤1000) :
  bg Tryz.prog 127 [.own 0 0 0 p,.dv (I k),.dv (I ((k:Int)+1))] 1 [(0,.tree 0 0 D)] 1 [.own 1 1 0 []]
   [(1,.tree 1 0 (.ar 2 ((wv l k).map eR))),(0,.tree 0 0 (bH D p .any))]:=by
 have hl:l ≠ []:=by rintro rfl; simp at hk
 refine qZ (K3:=[]) ⟨_,Tryz.func127,by kernel_rfl,rfl⟩ hp bA (by omega) (fun i hi=>rfl) (y3 _) ?_
 intro w G v xs cC hu aS hr
 obtain ⟨v0,v1,rfl⟩:∃v0 v1,xs=[v0,v1]:=by
  match xs,hr.1 with
  | [a,b],_=>exact ⟨a,b,rfl⟩
 have r0:=hr.2 0 _ v0 rfl rfl
 have r1:=hr.2 1 _ v1 rfl rfl
 cases r0 with | dv r0=>cases r0 with | int =>
 cases r1 with | dv r1=>cases r1 with | int =>
 obtain ⟨b,off,c,cc,tt,rfl,jy,hw,sd,gU⟩:=uS aS hl
 refine (C3 b off l.length c k cc tt w hw jy hk sd (by omega) (AZ rfl gU)).mono ?_
 rintro e w' ⟨rfl,c',p1,p2,p3,p4,p5⟩
 refine ⟨_,rfl,rfl,p5,?_,fun q hq=>.inl hq⟩
 have hL:=A0 l k hk
 rw [←hL]
 refine EL (by omega) p1 (by omega) fun i y hy=>?_
 rw [K7 l k hk] at hy
 by_cases h1:i<k
 ·rw [if_pos h1] at hy
  obtain ⟨e1,e2⟩:=gU i y hy
  rw [p3 (i * 2) (by omega),Nat.add_assoc,p3 (i * 2+1) (by omega),←Nat.add_assoc]
  exact ⟨e1,e2⟩
 ·rw [if_neg h1] at hy
  have aK:=(List.getElem?_eq_some_iff.1 hy).1
  obtain ⟨e1,e2⟩:=gU _ y hy
  have q1:=p4 ((i - k) * 2) (by omega)
  have q2:=p4 ((i - k) * 2+1) (by omega)
  rw [show off+k * 2+(i - k) * 2=off+i * 2 by omega,show off+(k+1) * 2+(i - k) * 2=off+(i+1) * 2 by omega] at q1
  rw [show off+k * 2+((i - k) * 2+1)=off+i * 2+1 by omega,show off+(k+1) * 2+((i - k) * 2+1)=off+(i+1) * 2+1 by omega] at q2
  exact ⟨q1.trans e1,q2.trans e2⟩
theorem FY {D:DV} {p:List PS} {y:DV} (hp:get D p=some (.ar 1 [y])) (hy:y.ae=true) (bA:p ≠ []) :
  bg Tryz.prog 128 [.own 0 0 0 p,.dv (I 0),.dv (I 1)] 1 [(0,.tree 0 0 D)] 1 [.own 1 1 0 []]
   [(1,.tree 1 0 (.ar 1 [])),(0,.tree 0 0 (bH D p .any))]:=by
 refine qZ (K3:=[]) ⟨_,Tryz.func128,by kernel_rfl,rfl⟩ hp bA (by omega) (fun i hi=>rfl) (by simp) ?_
 intro w G v xs cC hu aS hr
 obtain ⟨v0,v1,rfl⟩:∃v0 v1,xs=[v0,v1]:=by
  match xs,hr.1 with
  | [a,b],_=>exact ⟨a,b,rfl⟩
 have r0:=hr.2 0 _ v0 rfl rfl
 have r1:=hr.2 1 _ v1 rfl rfl
 cases r0 with | dv r0=>cases r0 with | int =>
 cases r1 with | dv r1=>cases r1 with | int =>
 have Ru:y.cells=[y]:=by cases y <;> first | rfl | cases hy
 rcases aS with ⟨h,_⟩ | ⟨b,off,c,cc,tt,rfl,jy,hw,sd,gU⟩
 ·simp at h
 ·obtain ⟨_,q⟩:=gU 0 y rfl
  obtain ⟨_,u,e1,e2⟩:=q 0 y (by rw [Ru]; rfl)
  have L1:u.oneCell'=true:=by
   rcases e2 with ⟨_,e2⟩ | ⟨e2,_⟩
   ·have ai:TM.step (.ar 1 [y]) (.el 0 0)=some y:=by show y.cells[0]?=some y; rw [Ru]; rfl
    have VR:az G.H 0 0 0 (p++[.el 0 0])=some u:=e2
    obtain ⟨u',f1,f2,_⟩:=cC.node (i:=0) (ver:=0) (ep:=0) (d:=D) (p:=p++[.el 0 0]) (nd:=y) rfl (by rw [get_append,hp]; simp only [TM.get,ai]) hy
    rw [VR] at f1; injection f1 with f1; subst f1; exact f2
   ·rw [hy] at e2; cases e2
  simp only [Nat.zero_mul,Nat.add_zero] at e1
  have:=C5 b off 1 c 0 cc tt w hw (by simpa using jy) (by omega) (by simpa using sd) (by omega) (fun k v h1 h2 h3=>by
   obtain rfl:k=off:=by omega
   rw [e1] at h3; injection h3 with h3; subst h3; exact L1)
  refine this.mono ?_
  rintro e w' ⟨rfl,c',p1,p2,p3,p4,p5⟩
  refine ⟨_,rfl,rfl,p5,?_,fun q hq=>.inl hq⟩
  exact .inr ⟨b,off,c,c',tt,rfl,by simp,p1,by rw [p2]; exact sd,by simp⟩
end Go.Proofs.YtpbdohkbiklflaaGreatDoor
namespace Go.Proofs.YtpbdohkbiklflaaGreatDoor
open Go.TM
variable [cQ]
structure lg (l:List Rk) (k:Nat) (x:Rk):Prop where
 le:k≤l.length
 lo:∀i y,i<k→l[i]?=some y→jW y x=true
 hi:∀i y,k≤i→l[i]?=some y→jW y x=false
set_option maxRecDepth 100000
set_option maxHeartbeats 4000000 in
theorem FZ (f:Bool) (x:Rk):bg Tryz.prog 116 [.own 0 0 0 [],.agg [.dv (I x.1),.dv (I x.2)]] 1 (kM f []) 0 [] [(0,.tree 0 1 (dP false [x]))]:=by
 have xp:(nth tab (nth tab 111).elem).bytes=24:=by kernel_rfl
 cases f
 ·refine bk aW mixed (aw _) (ay _) Tryz.func116 rfl rfl (by kernel_rfl) ?_
  refine .inr ⟨[0],[.own 0 0 0 [],.agg [.dv (I x.1),.dv (I x.2)]],_,0,_,_,r9 false x,by kernel_rfl,by kernel_rfl,⟨rfl,⟨rf,rf,tv⟩,tv⟩,⟨⟨rfl,rfl⟩,tv⟩,?_⟩
  refine ⟨fun _=>?_,fun h=>by simp at h⟩
  refine .inr (.inl ⟨[eR x],rfl,⟨rf,rf,tv⟩,by simp [eR,DV.cells]; rfl,?_⟩)
  refine .inr (.inl ⟨[.ar 2 [eR x]],rfl,⟨rfl,tv⟩,by simp [DV.cells]; rfl,?_⟩)
  refine .inr (.inr ⟨rfl,[.ar 2 [eR x]],fK.refl _,by rw [xp]; simp,by simp,?_⟩)
  refine ⟨[.ar 1 [.ar 2 [eR x]]],⟨rfl,tv⟩,?_⟩
  exact ⟨by kernel_rfl,_,_,⟨rfl,rfl⟩,by kernel_rfl,tv,⟨rfl,rfl⟩,tv⟩
 ·refine bk aW mixed (aw _) (ay _) Tryz.func116 rfl rfl (by kernel_rfl) ?_
  refine .inr ⟨[0],[.own 0 0 0 [],.agg [.dv (I x.1),.dv (I x.2)]],_,0,_,_,r9 true x,by kernel_rfl,by kernel_rfl,⟨rfl,⟨rf,rf,tv⟩,tv⟩,⟨⟨rfl,rfl⟩,tv⟩,?_⟩
  refine ⟨fun _=>?_,fun h=>by simp at h⟩
  refine .inr (.inl ⟨[eR x],rfl,⟨rf,rf,tv⟩,by simp [eR,DV.cells]; rfl,?_⟩)
  refine .inr (.inl ⟨[.ar 2 [eR x]],rfl,⟨rfl,tv⟩,by simp [DV.cells]; rfl,?_⟩)
  refine .inr (.inr ⟨rfl,[.ar 2 [eR x]],fK.refl _,by rw [xp]; simp,by simp,?_⟩)
  refine ⟨[.ar 1 [.ar 2 [eR x]]],⟨rfl,tv⟩,?_⟩
  exact ⟨by kernel_rfl,_,_,⟨rfl,rfl⟩,by kernel_rfl,tv,⟨rfl,rfl⟩,tv⟩
set_option maxHeartbeats 4000000 in
theorem F0 (x r:Rk) (l:List Rk) (k:Nat) (hl:(r::l).length≤511) (hp:lg (r::l) k x):bg Tryz.prog 116 [.own 0 0 0 [],.agg [.dv (I x.1),.dv (I x.2)]] 1 (kM false (r::l)) 0 [] [(0,.tree 0 1 (dP false (pY (r::l) k x)))]:=by
 have zD:=FW (D:=dP false (r::l)) (p:=[.el 0 1,.el 0 0]) (l:=r::l) rfl (by simp) x k hp.le (by simp) (by omega)
 obtain ⟨y,L',hL⟩:∃y L',pY (r::l) k x=y::L':=by
  cases h:pY (r::l) k x with
  | nil=>have:=uT (r::l) k x hp.le; rw [h] at this; simp at this
  | cons y L'=>exact ⟨y,L',rfl⟩
 rw [hL] at zD ⊢
 refine bk aW mixed (aw _) (ay _) Tryz.func116 rfl rfl (by kernel_rfl) ?_
 refine .inr ⟨[0],[.own 0 0 0 [],.agg [.dv (I x.1),.dv (I x.2)]],_,0,_,_,sb x r l k hp.le (by omega) hp.lo hp.hi,by kernel_rfl,by kernel_rfl,⟨rfl,⟨rf,rf,tv⟩,tv⟩,⟨⟨rfl,rfl⟩,tv⟩,?_⟩
 refine ⟨fun h=>by simp at h,fun _=>?_⟩
 refine ⟨fun _=>⟨by omega,by show (0:Int)<1; omega⟩,.ar 2 ((r::l).map eR),fun _=>rfl,?_⟩
 refine .inr (.inl ⟨[eR x],rfl,⟨rf,rf,tv⟩,by simp [eR,DV.cells]; rfl,?_⟩)
 refine .inr ⟨[0,2],[.own 0 0 0 [.el 0 1,.el 0 0],.dv (I k),.own 1 0 0 []],_,1,_,_,zD,by kernel_rfl,by kernel_rfl,⟨rfl,rf,rfl,tv⟩,⟨⟨rfl,rfl⟩,⟨rfl,rfl⟩,tv⟩,?_⟩
 refine ⟨by kernel_rfl,?_⟩
 refine ⟨fun _=>⟨by omega,by show (0:Int)<1; omega⟩,[.ar 2 ((y::L').map eR)],⟨rfl,tv⟩,.any,rfl,?_⟩
 refine ⟨fun h=>?_,fun _=>?_⟩
 ·exfalso
  have:=of_decide_eq_true h
  rw [List.length_map,List.length_map,←hL,uT _ _ _ hp.le] at this
  omega
 ·exact ⟨_,_,⟨rfl,rfl⟩,by kernel_rfl,tv,⟨rfl,rfl⟩,tv⟩
set_option maxHeartbeats 4000000 in
theorem IY (x r:Rk) (l:List Rk) (k:Nat) (hl:(r::l).length≤511) (hk:k<(r::l).length) (hp:lg (r::l) k x):bg Tryz.prog 115 [.own 0 0 0 [],.agg [.dv (I x.1),.dv (I x.2)]] 1 (kM false (r::l)) 0 [] [(0,.tree 0 1 (dP false (wv (r::l) k)))]:=by
 have zD:=FX (D:=dP false (r::l)) (p:=[.el 0 1,.el 0 0]) (l:=r::l) rfl (by simp) k hk (by omega)
 generalize hL:wv (r::l) k=L at zD
 refine tY aW mixed (aw _) (ay _) Tryz.func115 rfl rfl (by kernel_rfl) ?_
 refine .inl (.inr ⟨[0],[.own 0 0 0 [],.agg [.dv (I x.1),.dv (I x.2)]],_,0,_,_,sb x r l k hp.le (by omega) hp.lo hp.hi,by kernel_rfl,by kernel_rfl,⟨rfl,⟨rf,rf,tv⟩,tv⟩,⟨⟨rfl,rfl⟩,tv⟩,?_⟩)
 refine ⟨fun _=>⟨by omega,by show (0:Int)<1; omega⟩,.ar 2 ((r::l).map eR),fun _=>rfl,?_⟩
 refine ⟨fun _=>⟨by omega,by have:(r::l).length≤511:=hl; omega⟩,?_⟩
 refine .inr ⟨[0],[.own 0 0 0 [.el 0 1,.el 0 0],.dv (I k),.dv (I ((k:Int)+1))],_,1,_,_,zD,by kernel_rfl,by kernel_rfl,⟨rfl,rf,rf,tv⟩,⟨⟨rfl,rfl⟩,tv⟩,?_⟩
 refine ⟨fun _=>⟨by omega,by show (0:Int)<1; omega⟩,[.ar 2 (L.map eR)],⟨rfl,tv⟩,.any,rfl,?_⟩
 refine .inr ⟨[(0,15),(1,15),(2,15),(3,15),(16,15)],by kernel_rfl,pW (pol:=FT) (by kernel_rfl) (by kernel_rfl),?_⟩
 refine ⟨fun _=>⟨by omega,by show (0:Int)<1; omega⟩,.ar 2 (L.map eR),fun _=>rfl,?_⟩
 refine ⟨.ar 2 (L.map eR),fun _=>rfl,?_⟩
 cases L with
 | nil =>
  refine ⟨fun _=>?_,fun h=>by simp at h⟩
  have hB:=FY (D:=.dG (.agg [.fn 33 [],.ar 1 [.ar 2 []]])) (p:=[.el 0 1]) (y:=.ar 2 []) rfl rfl (by simp)
  refine ⟨fun _=>⟨by omega,by omega⟩,?_⟩
  refine .inl (.inr ⟨[0],[.own 0 0 0 [.el 0 1],.dv (I 0),.dv (I 1)],_,1,_,_,hB,by kernel_rfl,by kernel_rfl,⟨rfl,rf,rf,tv⟩,⟨⟨rfl,rfl⟩,tv⟩,?_⟩)
  exact ⟨[.ar 1 []],⟨rfl,tv⟩,_,_,⟨rfl,rfl⟩,by kernel_rfl,tv,⟨rfl,rfl⟩,tv⟩
 | cons y L' =>
  refine ⟨fun h=>by simp at h; omega,fun _=>?_⟩
  exact ⟨_,_,⟨rfl,rfl⟩,by kernel_rfl,tv,⟨rfl,rfl⟩,tv⟩
end Go.Proofs.YtpbdohkbiklflaaGreatDoor
namespace Go.Proofs.YtpbdohkbiklflaaGreatDoor
open Go.TM
variable [cQ]
set_option maxRecDepth 100000
theorem y4 (sz:Nat):DV.Le .aD (.sl sz []):=fun M v h=>by cases h; exact .slnil _
set_option maxHeartbeats 4000000 in
theorem A3 (f:Bool) (n:Int):bg Tryz.prog 55 [.own 0 0 0 [],.dv (I n)] 1 (kM f []) 0 [.dv (.sl 2 [])] (kM f []):=by
 cases f
 all_goals
  refine bk aW mixed (aw _) (ay _) Tryz.func55 rfl rfl (by kernel_rfl) ?_
 ·refine ⟨Unit,fun _=>⟨1,[(5,.dv .aD),(12,.dv (I 0)),(13,.dv (I 0))],kM false []⟩,fun _=>True,fun _=>0,(),fun _=>rfl,⟨⟨rf,rf,rf,tv⟩,⟨⟨rfl,rfl⟩,tv⟩,rfl,rfl⟩,tv,?_⟩
  rintro _ _
  refine ⟨fun h=>by simp at h,fun _=>?_⟩
  exact ⟨_,_,⟨rfl,rfl⟩,by kernel_rfl,⟨y4 _,tv⟩,⟨rfl,rfl⟩,tv⟩
 ·refine ⟨Unit,fun _=>⟨1,[(5,.dv .aD),(12,.dv (I 0)),(13,.dv (I 0))],kM true []⟩,fun _=>True,fun _=>0,(),fun _=>rfl,⟨⟨rf,rf,rf,tv⟩,⟨⟨rfl,rfl⟩,tv⟩,rfl,rfl⟩,tv,?_⟩
  rintro _ _
  refine ⟨fun h=>by simp at h,fun _=>?_⟩
  exact ⟨_,_,⟨rfl,rfl⟩,by kernel_rfl,⟨y4 _,tv⟩,⟨rfl,rfl⟩,tv⟩
def Qo (n:Nat) (l:List Rk) (q:Bool):bN:=⟨2,[(0,.own 0 0 0 []),(1,.dv (I n)),(5,.own 1 0 0 []),(11,.own 0 0 0 [.el 0 1]),(12,.dv (I 1)),(13,.dv (I (bif q then 1 else 0)))],[(0,.tree 0 0 (dP false l)),(1,.tree 0 0 (.ar 2 (bif q then (l.take n).map eR else [])))]⟩
theorem N7 {n:Nat} (hn:1≤n):decide ((n:Int)≤(([]:List DV).length:Int))=false:=by simp; omega
set_option maxHeartbeats 4000000 in
theorem A4 (n:Nat) (hn:1≤n) (IS:n≤9223372036854775807) (r:Rk) (l:List Rk) (hl:(r::l).length≤1000):bg Tryz.prog 55 [.own 0 0 0 [],.dv (I n)] 1 (kM false (r::l)) 0 [.dv (.sl 2 (((r::l).take n).map eR))] (kM false (r::l)):=by
 have xp:(nth tab (nth tab 65).elem).bytes=16:=by kernel_rfl
 refine bk aW mixed (aw _) (ay _) Tryz.func55 rfl rfl (by kernel_rfl) ?_
 refine ⟨Bool,Qo n (r::l),fun _=>True,fun q=>bif q then 0 else 1,false,fun q=>by cases q <;> rfl,⟨⟨rfl,rf,⟨rfl,rfl,rfl,rfl,2,rfl⟩,rfl,rf,rf,tv⟩,⟨⟨rfl,rfl⟩,⟨rfl,rfl,2,rfl⟩,tv⟩,rfl,rfl⟩,tv,?_⟩
 intro q _
 cases q with
 | true =>
  refine ⟨fun h=>by simp at h,fun _=>?_⟩
  refine ⟨_,_,⟨rfl,rfl⟩,by kernel_rfl,⟨?_,tv⟩,⟨rfl,rfl⟩,tv⟩
  show DV.Le (.sl 2 (Iv (((r::l).take n).map eR))) _
  rw [EK fun x=>rfl]
  exact rf
 | false =>
  refine ⟨fun _=>?_,fun h=>by simp at h⟩
  refine ⟨fun _=>⟨by show (0:Int)≤0; omega,by show (0:Int)<1; omega⟩,.ar 2 ((r::l).map eR),fun _=>rfl,?_⟩
  refine ⟨fun h=>absurd ((N7 hn).symm.trans h) (by simp),fun _=>?_⟩
  refine ⟨.ar 2 ((r::l).map eR),fun _=>rfl,?_⟩
  refine ⟨fun _=>⟨by show (-9223372036854775808:Int)≤(n:Int) - 0; omega,by show (n:Int) - 0≤9223372036854775807; omega⟩,?_⟩
  refine .inr (.inl ⟨.ar 2 ((r::l).map eR),fun _=>rfl,fun _=>⟨Int.le_refl _,?_,?_⟩,?_⟩)
  ·show (0:Int)≤if (n:Int) - 0<(((r::l).map eR).length:Int) then (n:Int) - 0 else (((r::l).map eR).length:Int)
   split <;> omega
  ·show (if (n:Int) - 0<(((r::l).map eR).length:Int) then (n:Int) - 0 else (((r::l).map eR).length:Int))≤(((r::l).map eR).length:Int)
   split <;> omega
  have hM:((((r::l).map eR).drop 0).take ((if (n:Int) - 0<(((r::l).map eR).length:Int) then (n:Int) - 0 else (((r::l).map eR).length:Int)).toNat - 0))=((r::l).take n).map eR:=by
   rw [List.drop_zero,List.map_take]
   split
   ·rename_i h; rw [show ((n:Int) - 0).toNat - 0=n by omega]
   ·rename_i h
    rw [show (((((r::l).map eR).length:Int)).toNat - 0)=((r::l).map eR).length by omega,List.take_length,List.take_of_length_le (by omega)]
  have hz:(((r::l).take n).map eR).length≤1000:=by simp; simp at hl; omega
  refine .inr ⟨.ar 2 ((r::l).map eR),fun _=>rfl,?_,y3 _,((r::l).take n).map eR,?_,?_,?_,?_⟩
  ·show (0:Nat)+((if (n:Int) - 0<(((r::l).map eR).length:Int) then (n:Int) - 0 else (((r::l).map eR).length:Int)).toNat - 0)≤((r::l).map eR).length
   split <;> omega
  ·show fK ((((r::l).map eR).drop 0).take ((if (n:Int) - 0<(((r::l).map eR).length:Int) then (n:Int) - 0 else (((r::l).map eR).length:Int)).toNat - 0)) _
   rw [hM]; exact fK.refl _
  ·rw [xp]; show (0+(((r::l).take n).map eR).length) * 16≤_; omega
  ·show 0+(((r::l).take n).map eR).length≤_; omega
  ·refine ⟨fun _=>⟨by show (-9223372036854775808:Int)≤0+1; omega,by show (0:Int)+1≤9223372036854775807; omega⟩,?_⟩
   exact ⟨true,⟨⟨rfl,rf,rfl,rfl,rf,rf,tv⟩,⟨⟨rfl,rfl⟩,⟨rfl,rfl⟩,tv⟩,rfl,rfl⟩,tv,by decide⟩
end Go.Proofs.YtpbdohkbiklflaaGreatDoor
namespace Go.Proofs.YtpbdohkbiklflaaGreatDoor
open Go.TM
variable [cQ]
abbrev Ky:=Int × Int
def vR (k:Ky):DV:=.agg [I k.1,I k.2]
abbrev HM:=List (Ky × Int)
def oY (p:Ky × Int):DV:=.eQ (vR p.1) (I p.2)
def bs:HM→Ky→Option Int
 | [],_=>none
 | p::r,k=>if p.1=k then some p.2 else bs r k
def bS:HM→Ky→Int→HM
 | [],k,x=>[(k,x)]
 | p::r,k,x=>if p.1=k then (k,x)::r else p::bS r k x
def jx:HM→Ky→HM
 | [],_=>[]
 | p::r,k=>if p.1=k then r else p::jx r k
def hv (m:HM) (k:Ky):Int:=(bs m k).getD 0
theorem C7 (a b:Ky):sF (vR a) (vR b)=decide (a=b):=by
 obtain ⟨a1,a2⟩:=a
 obtain ⟨b1,b2⟩:=b
 simp only [vR,sF,xQ,zJ,Prod.mk.injEq]
 simp
 try rw [Bool.eq_iff_iff]; simp
theorem C8 (k:Ky):∀m:HM,bC (m.map oY) (vR k)=(bs m k).map I
 | []=>rfl
 | p::r=>by
  simp only [List.map_cons,oY,bC,C7,bs]
  by_cases h:p.1=k
  ·simp [h]
  ·simp only [h,decide_false,cond_false,if_false]
   exact C8 k r
theorem q5 (k:Ky) (x:Int):∀m:HM,ef (m.map oY) (vR k) (I x)=(bS m k x).map oY
 | []=>rfl
 | p::r=>by
  simp only [List.map_cons,oY,ef,C7,bS]
  by_cases h:p.1=k
  ·simp [h,oY]
  ·simp only [h,decide_false,cond_false,if_false,List.map_cons]
   have:=q5 k x r
   rw [this]
   rfl
theorem IZ (k:Ky):∀m:HM,fk (m.map oY) (vR k)=(jx m k).map oY
 | []=>rfl
 | p::r=>by
  simp only [List.map_cons,oY,fk,C7,jx]
  by_cases h:p.1=k
  ·simp [h]
  ·simp only [h,decide_false,cond_false,if_false,List.map_cons]
   have:=IZ k r
   rw [this]
   rfl
structure Sl where
 tick:Int
 n:Int
 c:Int
 gi:Int
 gj:Int
def bO (x:Sl):DV:=.agg [I x.tick,I x.n,I x.c,I x.gi,I x.gj]
def Rv:Bool→List Sl→DV
 | true,_=>.aD
 | false,l=>.ar 5 (l.map bO)
structure Vs where
 aZ:Int
 au:Int
 aU:Int
 last:Int
 work:Int
 H:HM
 cF:List Int
 rk:List (Bool × List Rk)
 sl:List (Bool × List Sl)
 bD:List Int
def C9 (x:Bool × List Rk):DV:=dP x.1 x.2
def lI (x:Bool × List Sl):DV:=Rv x.1 x.2
def vC (f:Bool) (s:Vs):List AV:=[.dv (I 4),.dv (I s.aZ),.dv (I s.au),.dv (I s.aU),.dv (I s.last),.dv (I s.work),.own 1 0 0 [],.own 2 0 0 [],.own 3 0 (bif f then 1 else 0) [],.own 4 0 0 [],.own 5 0 0 []]
def vK (f:Bool) (s:Vs):af:=[(0,.cells (vC f s)),(1,.tree 0 0 (.omap dL (s.H.map oY))),(2,.tree 0 0 (gv s.cF)),(3,.tree 0 (bif f then 1 else 0) (.ar 1 (s.rk.map C9))),(4,.tree 0 0 (.ar 1 (s.sl.map lI))),(5,.tree 0 0 (gv s.bD))]
where
 gv (l:List Int):DV:=.ar 1 (l.map I)
def nH (l:List Rk) (x:Rk):Nat:=l.countP fun y=>jW y x
def q6 (l:List Rk) (x:Rk):List Rk:=pY l (nH l x) x
def lh (l:List Rk) (x:Rk):List Rk:=wv l (nH l x)
theorem EM {L:List DV} {i:Nat} {c:DV} (h:L[i]?=some c) (hc:c.ae=true):TM.step (.ar 1 L) (.el i 0)=some c:=by
 have hU:c.cells=[c]:=by cases c <;> first | rfl | cases hc
 show (match L[i]? with | some x=>x.cells[0]? | none=>none)=_
 rw [h]
 show c.cells[0]?=_
 rw [hU]; rfl
theorem sU {L:List DV} {i:Nat} {c c':DV} (h:L[i]?=some c) (hc:c.ae=true) (lQ:c'.aj=true):bH (.ar 1 L) [.el i 0] c'=.ar 1 (L.set i c'):=by
 simp only [bH,EM h hc]
 show (match L[i]? with | some x=>DV.ar 1 (L.set i (o4 x 0 c')) | none=>DV.ar 1 L)=_
 rw [h]
 cases c <;> first | (cases hc; done) | simp [o4,lQ]
theorem uV {L:List DV} {i:Nat} {c:DV} (h:L[i]?=some c) (hc:c.ae=true):TM.get (.ar 1 L) [.el i 0]=some c:=by
 simp only [TM.get,EM h hc]
set_option maxRecDepth 100000
theorem xq {L:List DV} {i:Nat} {l:List Rk} (h:L[i]?=some (dP false l)) (x:Rk) (hl:l.length≤511) (hk:nH l x<l.length) (hp:lg l (nH l x) x) :
  bg Tryz.prog 115 [.own 0 0 0 [.el i 0],.agg [.dv (I x.1),.dv (I x.2)]] 1 [(0,.tree 0 0 (.ar 1 L))] 0 [] [(0,.tree 0 2 (.ar 1 (L.set i (dP false (lh l x)))))]:=by
 obtain ⟨r,l',rfl⟩:∃r l',l=r::l':=by
  cases l with
  | nil=>simp at hk
  | cons r l'=>exact ⟨r,l',rfl⟩
 have:=oJ (p:=[.el i 0]) (D:=.ar 1 L) (IY x r l' _ hl hk hp) (uV h rfl) (by simp) rfl rfl rfl rfl
 rw [sU h rfl rfl] at this
 exact this
theorem xt {L:List DV} {i:Nat} {f:Bool} {l:List Rk} (h:L[i]?=some (dP f l)) (hf:f=true→l=[]) (x:Rk) (hl:l.length≤511) (hp:lg l (nH l x) x) :
  bg Tryz.prog 116 [.own 0 0 0 [.el i 0],.agg [.dv (I x.1),.dv (I x.2)]] 1 [(0,.tree 0 0 (.ar 1 L))] 0 [] [(0,.tree 0 2 (.ar 1 (L.set i (dP false (q6 l x)))))]:=by
 cases l with
 | nil =>
  have:=oJ (p:=[.el i 0]) (D:=.ar 1 L) (FZ f x) (uV h rfl) (by simp) rfl rfl rfl rfl
  rw [sU h rfl rfl] at this
  exact this
 | cons r l' =>
  cases f with
  | true=>have:=hf rfl; cases this
  | false =>
   have:=oJ (p:=[.el i 0]) (D:=.ar 1 L) (F0 x r l' _ hl hp) (uV h rfl) (by simp) rfl rfl rfl rfl
   rw [sU h rfl rfl] at this
   exact this
theorem gH:qJ Tryz.prog (nth tab 74).key dL:=wZ aW (by kernel_rfl)
def cu (s:Vs) (k:Ky) (i:Nat) (now:Int):Vs :=
 if hv s.H k=now then s else
 let s1:={ s with work:=s.work+1,cF:=s.cF.set i (s.cF.getD i 0+(now - hv s.H k)),H:=if now=0 then jx s.H k else bS s.H k now }
 if 1048576≤k.1 then s1 else
 let l0:=(s.rk.getD i (true,[])).2
 let l1:=if hv s.H k ≠ 0 then lh l0 (k.1,hv s.H k) else l0
 let f1:=if hv s.H k ≠ 0 then false else (s.rk.getD i (true,[])).1
 let r2:=if now ≠ 0 then (false,q6 l1 (k.1,now)) else (f1,l1)
 {s1 with rk:=s.rk.set i r2 }
def ck (s:Vs) (k:Ky) (now:Int):Bool:=!decide (hv s.H k=now) && !decide (1048576≤k.1)
structure I0 (s:Vs) (k:Ky) (i:Nat) (now:Int):Prop where
 it:k.2=(i:Int)
 tl:i<s.cF.length
 rl:i<s.rk.length
 nb:0≤now∧now≤4611686018427387904
 hb:0≤hv s.H k∧hv s.H k≤4611686018427387904
 tb:-4611686018427387904≤s.cF.getD i 0∧s.cF.getD i 0≤4611686018427387904∧s.cF.getD i 0+(now - hv s.H k)≤4611686018427387904∧-4611686018427387904≤s.cF.getD i 0+(now - hv s.H k)
 wb:0≤s.work∧s.work≤4611686018427387904
 ll:(s.rk.getD i (true,[])).2.length≤510
 lf:(s.rk.getD i (true,[])).1=true→(s.rk.getD i (true,[])).2=[]
 rem:k.1<1048576→hv s.H k ≠ 0→nH (s.rk.getD i (true,[])).2 (k.1,hv s.H k)<(s.rk.getD i (true,[])).2.length∧lg (s.rk.getD i (true,[])).2 (nH (s.rk.getD i (true,[])).2 (k.1,hv s.H k)) (k.1,hv s.H k)
 ins:k.1<1048576→now ≠ 0→∀l1,l1=(if hv s.H k ≠ 0 then lh (s.rk.getD i (true,[])).2 (k.1,hv s.H k) else (s.rk.getD i (true,[])).2)→lg l1 (nH l1 (k.1,now)) (k.1,now)
set_option maxHeartbeats 4000000 in
theorem A5 (s:Vs) (k:Ky) (i:Nat) (now:Int) (ok:I0 s k i now):bg Tryz.prog 53 [.ptr 0 0,.agg [.dv (I k.1),.dv (I k.2)],.dv (I now)] 6 (vK false s) 0 [] (vK (ck s k now) (cu s k i now)):=by
 obtain ⟨a,it⟩:=k
 obtain rfl:it=(i:Int):=ok.it
 refine bk aW mixed (aw _) (ay _) Tryz.func53 rfl rfl (by kernel_rfl) ?_
 have hg:bC (s.H.map oY) (vR (a,(i:Int)))=bif (bs s.H (a,(i:Int))).isSome then some (I (hv s.H (a,(i:Int)))) else none:=by
  rw [C8]
  unfold hv
  cases bs s.H (a,(i:Int)) <;> rfl
 refine ⟨gH,vR (a,(i:Int)),rfl,rfl,I (hv s.H (a,(i:Int))),(bs s.H (a,(i:Int))).isSome,fun _=>hg,fun h=>?_,rfl,?_⟩
 ·unfold hv
  cases hq:bs s.H (a,(i:Int)) with
  | none=>rfl
  | some x=>rw [hq] at h; cases h
 have WO:=ok.nb
 have WQ:=ok.hb
 have WR:=ok.tb
 have WS:=ok.wb
 have ht:s.cF[i]?=some (s.cF.getD i 0):=by rw [List.getD_eq_getElem?_getD,List.getElem?_eq_getElem ok.tl]; rfl
 generalize hb:hv s.H (a,(i:Int))=before at *
 refine ⟨by kernel_rfl,fun he=>?_,fun bA=>?_⟩
 ·have he:before=now:=by simpa using he
  rw [show cu s (a,(i:Int)) i now=s by simp only [cu]; rw [if_pos (hb.trans he)],show ck s (a,(i:Int)) now=false by simp only [ck]; rw [hb,he]; simp]
  exact ⟨_,_,⟨rfl,rfl⟩,by kernel_rfl,tv,⟨rf,rf,rf,rf,rf,rf,rfl,rfl,rfl,rfl,rfl,tv⟩,⟨rfl,rfl⟩,⟨rfl,rfl⟩,⟨rfl,rfl⟩,⟨rfl,rfl⟩,⟨rfl,rfl⟩,tv⟩
 have bA:before ≠ now:=by simpa using bA
 refine ⟨fun _=>⟨by omega,by omega⟩,?_⟩
 have I1:(i:Int)<((s.cF.map I).length:Int):=by rw [List.length_map]; have:=ok.tl; omega
 refine ⟨fun _=>⟨by show (0:Int)≤(i:Int); omega,I1⟩,I (s.cF.getD i 0),fun _=>by show (s.cF.map I)[((i:Int)).toNat]?=_; rw [Int.toNat_natCast,List.getElem?_map,ht]; rfl,?_⟩
 refine ⟨fun _=>⟨by omega,by omega⟩,?_⟩
 refine ⟨fun _=>⟨by omega,by omega⟩,?_⟩
 have m5:(s.cF.map I)[((i:Int)).toNat]?=some (I (s.cF.getD i 0)):=by rw [Int.toNat_natCast,List.getElem?_map,ht]; rfl
 refine ⟨fun _=>⟨by show (0:Int)≤(i:Int); omega,I1⟩,[I (s.cF.getD i 0+(now - before))],⟨rf,tv⟩,I (s.cF.getD i 0),m5,?_⟩
 have b2:DV.ar 1 ((s.cF.map I).set i (I (s.cF.getD i 0+(now - before))))=vK.gv (s.cF.set i (s.cF.getD i 0+(now - before))):=by simp only [vK.gv,List.map_set]
 have b1:DV.omap dL (fk (s.H.map oY) (vR (a,(i:Int))))=.omap dL ((jx s.H (a,(i:Int))).map oY):=by rw [IZ]
 have SZ:DV.omap dL (ef (s.H.map oY) (vR (a,(i:Int))) (I now))=.omap dL ((bS s.H (a,(i:Int)) now).map oY):=by rw [q5]
 have Rw:(i:Int)<((s.rk.map C9).length:Int):=by rw [List.length_map]; have:=ok.rl; omega
 have F1:s.rk[i]?=some (s.rk.getD i (true,[])):=by rw [List.getD_eq_getElem?_getD,List.getElem?_eq_getElem ok.rl]; rfl
 have Mu:(s.rk.map C9)[((i:Int)).toNat]?=some (C9 (s.rk.getD i (true,[]))):=by rw [Int.toNat_natCast,List.getElem?_map,F1]; rfl
 have VS:=ok.ll
 have Rx:=ok.lf
 have Ry:=ok.rem
 have Rz:=ok.ins
 rw [hb] at Ry Rz
 generalize ie:s.rk.getD i (true,[])=q0 at *
 obtain ⟨f0,l0⟩:=q0
 simp only at VS Rx Ry Rz
 have N8:(s.rk.map C9)[i]?=some (dP f0 l0):=by rw [List.getElem?_map,F1]; rfl
 refine ⟨by kernel_rfl,fun h0=>?_,fun h0=>?_⟩
 ·have h0:now=0:=by simpa using h0
  subst h0
  refine ⟨gH,vR (a,(i:Int)),rfl,rfl,by kernel_rfl,fun hp=>?_,fun hp=>?_⟩
  ·have hp:1048576≤a:=of_decide_eq_true hp
   rw [show cu s (a,(i:Int)) i 0={ s with work:=s.work+1,cF:=s.cF.set i (s.cF.getD i 0+(0 - before)),H:=jx s.H (a,(i:Int)) } by simp only [cu,hb]; rw [if_neg bA,if_pos hp]; rfl,show ck s (a,(i:Int)) 0=false by simp only [ck]; simp [hp]]
   exact ⟨_,_,⟨rfl,rfl⟩,by kernel_rfl,tv,⟨rf,rf,rf,rf,rf,rf,rfl,rfl,rfl,rfl,rfl,tv⟩,⟨rfl,b1⟩,⟨rfl,b2⟩,⟨rfl,rfl⟩,⟨rfl,rfl⟩,⟨rfl,rfl⟩,tv⟩
  ·have hp:a<1048576:=by have:=of_decide_eq_false hp; simp only at this; omega
   refine ⟨fun _=>?_,fun h=>absurd h (by simpa using bA)⟩
   refine ⟨fun _=>⟨by show (0:Int)≤(i:Int); omega,Rw⟩,dP f0 l0,fun _=>Mu,?_⟩
   obtain ⟨r1,r2⟩:=Ry hp bA
   obtain rfl:f0=false:=by
    cases f0 with
    | false=>rfl
    | true=>rw [Rx rfl] at r1; simp at r1
   have N9:=xq N8 (a,before) (by omega) r1 r2
   refine .inr ⟨[3],[.own 0 0 0 [.el i 0],.agg [.dv (I a),.dv (I before)]],[(0,.tree 0 0 (.ar 1 (s.rk.map C9)))],0,_,_,N9,by kernel_rfl,by kernel_rfl,⟨rfl,⟨rf,rf,tv⟩,tv⟩,⟨⟨rfl,rfl⟩,tv⟩,?_⟩
   refine ⟨by kernel_rfl,fun h=>absurd h (by simp),fun _=>?_⟩
   rw [show cu s (a,(i:Int)) i 0={ s with work:=s.work+1,cF:=s.cF.set i (s.cF.getD i 0+(0 - before)),H:=jx s.H (a,(i:Int)),rk:=s.rk.set i (false,lh l0 (a,before)) } by simp only [cu,hb]; rw [if_neg bA,if_neg (by omega)]; simp only [ie,ne_eq,not_true_eq_false,if_false,bA,not_false_eq_true,if_true],show ck s (a,(i:Int)) 0=true by simp only [ck,hb]; simp [bA]; omega]
   exact ⟨_,_,⟨rfl,rfl⟩,by kernel_rfl,tv,⟨rf,rf,rf,rf,rf,rf,rfl,rfl,rfl,rfl,rfl,tv⟩,⟨rfl,b1⟩,⟨rfl,b2⟩,⟨rfl,by simp only [List.map_set]; rfl⟩,⟨rfl,rfl⟩,⟨rfl,rfl⟩,tv⟩
 ·have h0:now ≠ 0:=by simpa using h0
  refine ⟨gH,vR (a,(i:Int)),rfl,rfl,I now,⟨rf,tv⟩,rfl,false,fun _=>⟨?_,?_⟩,by kernel_rfl,fun hp=>?_,fun hp=>?_⟩
  ·intro x hx d hd
   rw [hg] at hx
   cases hk:(bs s.H (a,(i:Int))).isSome with
   | false=>rw [hk] at hx; cases hx
   | true=>rw [hk] at hx; injection hx with hx; subst hx; simp [DV.cells] at hd; subst hd; rfl
  ·intro d hd
   simp [DV.cells] at hd; subst hd; rfl
  ·have hp:1048576≤a:=of_decide_eq_true hp
   rw [show cu s (a,(i:Int)) i now={ s with work:=s.work+1,cF:=s.cF.set i (s.cF.getD i 0+(now - before)),H:=bS s.H (a,(i:Int)) now } by simp only [cu,hb]; rw [if_neg bA,if_pos hp,if_neg h0],show ck s (a,(i:Int)) now=false by simp only [ck]; simp [hp]]
   exact ⟨_,_,⟨rfl,rfl⟩,by kernel_rfl,tv,⟨rf,rf,rf,rf,rf,rf,rfl,rfl,rfl,rfl,rfl,tv⟩,⟨rfl,SZ⟩,⟨rfl,b2⟩,⟨rfl,rfl⟩,⟨rfl,rfl⟩,⟨rfl,rfl⟩,tv⟩
  ·have hp:a<1048576:=by have:=of_decide_eq_false hp; simp only at this; omega
   refine ⟨fun K8=>?_,fun K8=>?_⟩
   ·have K8:before ≠ 0:=by simpa using K8
    refine ⟨fun _=>⟨by show (0:Int)≤(i:Int); omega,Rw⟩,dP f0 l0,fun _=>Mu,?_⟩
    obtain ⟨r1,r2⟩:=Ry hp K8
    obtain rfl:f0=false:=by
     cases f0 with
     | false=>rfl
     | true=>rw [Rx rfl] at r1; simp at r1
    have N9:=xq N8 (a,before) (by omega) r1 r2
    refine .inr ⟨[3],[.own 0 0 0 [.el i 0],.agg [.dv (I a),.dv (I before)]],[(0,.tree 0 0 (.ar 1 (s.rk.map C9)))],0,_,_,N9,by kernel_rfl,by kernel_rfl,⟨rfl,⟨rf,rf,tv⟩,tv⟩,⟨⟨rfl,rfl⟩,tv⟩,?_⟩
    refine ⟨by kernel_rfl,fun _=>?_,fun h=>absurd h (by simpa using h0)⟩
    have Qp:(lh l0 (a,before)).length≤511:=by unfold lh; rw [A0 _ _ r1]; omega
    have ik:((s.rk.map C9).set i (dP false (lh l0 (a,before))))[i]?=some (dP false (lh l0 (a,before))):=by rw [List.getElem?_set_self (by rw [List.length_map]; exact ok.rl)]
    have Oa:=xt ik (fun h=>by cases h) (a,now) Qp (Rz hp h0 _ (by rw [if_pos K8]))
    refine ⟨fun _=>⟨by show (0:Int)≤(i:Int); omega,by rw [List.length_set]; exact Rw⟩,dP false (lh l0 (a,before)),fun _=>ik,?_⟩
    refine .inr ⟨[3],[.own 0 0 0 [.el i 0],.agg [.dv (I a),.dv (I now)]],[(0,.tree 0 0 (.ar 1 ((s.rk.map C9).set i (dP false (lh l0 (a,before))))))],0,_,_,Oa,by kernel_rfl,by kernel_rfl,⟨rfl,⟨rf,rf,tv⟩,tv⟩,⟨⟨rfl,rfl⟩,tv⟩,?_⟩
    refine ⟨by kernel_rfl,?_⟩
    rw [show cu s (a,(i:Int)) i now={ s with work:=s.work+1,cF:=s.cF.set i (s.cF.getD i 0+(now - before)),H:=bS s.H (a,(i:Int)) now,rk:=s.rk.set i (false,q6 (lh l0 (a,before)) (a,now)) } by simp only [cu,hb]; rw [if_neg bA,if_neg (by omega)]; simp only [ie,ne_eq,h0,if_false,K8,not_false_eq_true,if_true],show ck s (a,(i:Int)) now=true by simp only [ck,hb]; simp [bA]; omega]
    exact ⟨_,_,⟨rfl,rfl⟩,by kernel_rfl,tv,⟨rf,rf,rf,rf,rf,rf,rfl,rfl,rfl,rfl,rfl,tv⟩,⟨rfl,SZ⟩,⟨rfl,b2⟩,⟨rfl,by rw [List.set_set,List.map_set]; rfl⟩,⟨rfl,rfl⟩,⟨rfl,rfl⟩,tv⟩
   ·have K8:before=0:=by simpa using K8
    subst K8
    refine ⟨fun _=>?_,fun h=>absurd h (by simpa using h0)⟩
    refine ⟨fun _=>⟨by show (0:Int)≤(i:Int); omega,Rw⟩,dP f0 l0,fun _=>Mu,?_⟩
    have Oa:=xt N8 Rx (a,now) (by omega) (Rz hp h0 _ (by rw [if_neg (by simp)]))
    refine .inr ⟨[3],[.own 0 0 0 [.el i 0],.agg [.dv (I a),.dv (I now)]],[(0,.tree 0 0 (.ar 1 (s.rk.map C9)))],0,_,_,Oa,by kernel_rfl,by kernel_rfl,⟨rfl,⟨rf,rf,tv⟩,tv⟩,⟨⟨rfl,rfl⟩,tv⟩,?_⟩
    refine ⟨by kernel_rfl,?_⟩
    rw [show cu s (a,(i:Int)) i now={ s with work:=s.work+1,cF:=s.cF.set i (s.cF.getD i 0+(now - 0)),H:=bS s.H (a,(i:Int)) now,rk:=s.rk.set i (false,q6 l0 (a,now)) } by simp only [cu,hb]; rw [if_neg bA,if_neg (by omega)]; simp only [ie,ne_eq,h0,if_false,not_true_eq_false,not_false_eq_true,if_true],show ck s (a,(i:Int)) now=true by simp only [ck,hb]; simp [bA]; omega]
    exact ⟨_,_,⟨rfl,rfl⟩,by kernel_rfl,tv,⟨rf,rf,rf,rf,rf,rf,rfl,rfl,rfl,rfl,rfl,tv⟩,⟨rfl,SZ⟩,⟨rfl,b2⟩,⟨rfl,by simp only [List.map_set]; rfl⟩,⟨rfl,rfl⟩,⟨rfl,rfl⟩,tv⟩
end Go.Proofs.YtpbdohkbiklflaaGreatDoor
