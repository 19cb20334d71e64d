import Derived.Test.YtpbdohkbiklflaaGreatDoorCM21
set_option linter.unusedVariables false
set_option linter.unusedSimpArgs false
set_option linter.unusedSectionVars false
namespace Go.Proofs.YtpbdohkbiklflaaGreatDoor
open Go.TM Go.RowKit Go.Lib
variable [cu]
def rL (b off n i:Nat) (cc:Array Value) (x0 x1:Value) (w:World) (e:Ending) (w':World):Prop :=
 ∃g o cp c' t',e=.returned (.slice (some ⟨g,o,none⟩) (n+1) cp)∧n+1≤cp∧w'.heap[g]?=some (.cells c' t' (0,0))∧o+cp * 2≤c'.size∧(∀k,k<i * 2→c'[o+k]?=cc[off+k]?)∧c'[o+i * 2]?=some x0∧c'[o+i * 2+1]?=some x1 ∧
  (∀k,k<(n - i) * 2→c'[o+(i+1) * 2+k]?=cc[off+i * 2+k]?)∧w.grownBy w' (some b)∧(g=b ∨ w.heap.size≤g)
set_option maxHeartbeats 4000000 in
set_option maxRecDepth 100000 in
theorem Jx (b off n c i vb vo vc:Nat) (cc vv:Array Value) (tt vt:TypeId) (x0 x1:Value) (w:World) (hw:w.heap[b]?=some (.cells cc tt (0,0))) (hv:w.heap[vb]?=some (.cells vv vt (0,0))) (kF:vv[vo]?=some x0) (Kn:vv[vo+1]?=some x1) (V7:vb ≠ b)
  (UB:n+1≤c) (hi:i<n) (ck:off+c * 2≤cc.size) (Mr:n<9223372036854775807)
  (h1:∀k v,off≤k→k<off+n * 2→cc[k]?=some v→v.oneCell'=true) (EM:x0.oneCell'=true) (Dn:x1.oneCell'=true) :
  Calls Tryz.prog 129 #[.slice (some ⟨b,off,none⟩) n c,.int .i64 (i:Int),.slice (some ⟨vb,vo,none⟩) 1 vc] w (rL b off n i cc x0 x1 w):=by
 have mixed:=Go.Proofs.YtpbdohkbiklflaaGreatDoor.mixed
 obtain ⟨i0,F2,EL,nW,OR⟩:=info_parts (show (Tryz.prog.info? 82).map (fun i=>(i.zero,i.size,i.bytes))=some (some (.agg #[.int .i64 0,.int .i64 0]),2,16) by kernel_rfl)
 have EK:w.drew.heap[b]?=some (.cells cc tt (0,0)):=hw
 have hov:∀lb cb,(callFunc 138 #[.slice (some ⟨vb,vo,none⟩) 1 vc,.slice (some ⟨b,off+(i+1) * 2,none⟩) lb cb]).run Tryz.prog w=.ok (.value (.bool false)) w:=fun lb cb=>by
  rw [run_callFunc_extern Tryz.func138 (by kernel_rfl) (by kernel_rfl) (by kernel_rfl) (e:=Extern.SlicesOverlaps.overlaps #[65,65] #[4]) (by kernel_rfl),
   Lib.run_overlaps_apart w 65 4 82 Tryz.underlying65 2 (fun w=>by simp [Go.sizeOf,typeInfo,F2,nW]) ⟨vb,vo,none⟩ ⟨b,off+(i+1) * 2,none⟩ 1 vc lb cb V7 vt tt vv.size cc.size (by simp [World.shape?,hv]) (by simp [World.shape?,hw]) (by omega) (by simp [World.frozen?,hv]) (by simp [World.frozen?,hv])]
  rfl
 have l1:=c7 cc (off+i * 2) ((n - i) * 2)
 obtain ⟨c1,gP⟩:∃c1,c1=over cc (off+(i+1) * 2) (j3 cc (off+i * 2) ((n - i) * 2)):=⟨_,rfl⟩
 obtain ⟨W1,jr⟩:∃W1,W1=w.drew.setRow b c1:=⟨_,rfl⟩
 have fh:c1.size=cc.size:=by rw [gP,gj _ _ _ (by rw [l1]; omega)]
 have uR:W1.heap[b]?=some (.cells c1 tt (0,0)):=by rw [jr]; exact setRow_heap w.drew b cc _ tt _ EK
 have FW:W1.heap[vb]?=some (.cells vv vt (0,0)):=by rw [jr,setRow_other _ _ _ _ V7]; exact hv
 have Xx:∀ty dc sc,(Builtin.copy_ #[65,65] ty #[.slice (some ⟨b,off+(i+1) * 2,none⟩) (n - i) dc,.slice (some ⟨b,off+i * 2,none⟩) (n+1 - i) sc]).run Tryz.prog w.drew=.ok (goInt (n - i:Nat)) W1:=fun ty dc sc=>by
  rw [jr,gP]
  refine run_copy_row 65 82 ty i0 Tryz.underlying65 F2 EK _ _ dc ⟨b,off+i * 2,none⟩ _ sc (n - i) _ (by simp only [Nat.min_def]; split <;> omega) (fun j u hu=>?_) (by rw [l1,nW]) (fun u hu=>?_) (by rw [l1]; omega)
  ·have hj:j<(n - i) * 2:=by have:=(List.getElem?_eq_some_iff.1 hu).1; rwa [l1] at this
   rw [eT cc _ _ j hj (by omega)] at hu
   rw [cO,iL EK]; exact hu
  ·obtain ⟨k,hk,rfl⟩:=List.getElem_of_mem hu
   have eG:k<(n - i) * 2:=by rwa [l1] at hk
   have h2:=eT cc (off+i * 2) ((n - i) * 2) k eG (by omega)
   rw [List.getElem?_eq_getElem hk] at h2
   exact h1 (off+i * 2+k) _ (by omega) (by omega) h2.symm
 obtain ⟨c2,fC⟩:∃c2,c2=over c1 (off+i * 2) [x0,x1]:=⟨_,rfl⟩
 have aab:∀ty dc,(Builtin.copy_ #[65,65] ty #[.slice (some ⟨b,off+i * 2,none⟩) (n+1 - i) dc,.slice (some ⟨vb,vo,none⟩) 1 vc]).run Tryz.prog W1=.ok (goInt (1:Nat)) (W1.setRow b c2):=fun ty dc=>by
  rw [fC]
  refine run_copy_row 65 82 ty i0 Tryz.underlying65 F2 uR _ _ dc ⟨vb,vo,none⟩ _ vc 1 _ (by simp only [Nat.min_def]; split <;> omega) (fun j u hu=>?_) (by simp [nW]) (fun u hu=>?_) (by simp; omega)
  ·rw [cO,iL FW]
   match j,hu with
   | 0,hu=>simp at hu; subst hu; exact kF
   | 1,hu=>simp at hu; subst hu; exact Kn
   | j+2,hu=>simp at hu
  ·simp at hu
   rcases hu with rfl | rfl
   ·exact EM
   ·exact Dn
 have Si:Hid (W1=w.drew.setRow b c1):=jr
 have UC:Hid (c1=over cc (off+(i+1) * 2) (j3 cc (off+i * 2) ((n - i) * 2))):=gP
 have UD:Hid (c2=over c1 (off+i * 2) [x0,x1]):=fC
 clear jr gP fC uR FW
 have EO:¬ ((i:Int)=(n:Int)):=by omega
 have uR:IntKind.i64.wrap ((i:Int)+1)=(i:Int)+1:=by rw [IntKind.wrap_i64]; omega
 have NV:IntKind.i64.wrap ((n:Int)+1)=(n:Int)+1:=by rw [IntKind.wrap_i64]; omega
 have ki:(0:Int)≤(i:Int)+1:=by omega
 have eB:i≤n:=by omega
 have cy:¬ (c=i+1):=by omega
 have x5:(i:Int)≤(n:Int)+1:=by omega
 have V2:¬ (c=i):=by omega
 have hb5:¬ ((c:Int)<(n:Int)+1):=by omega
 have hb6:(0:Int)≤(n:Int)+1:=by omega
 have hb7:(i:Int)+1≤(n:Int)+1:=by omega
 have pz:(n:Int)+1≤(c:Int):=by omega
 go_enter Tryz.func129,Tryz.ntmps129
 go_wp2_with (simp only [hov])
 go_region_law_o (refine step_copy_runI rfl _ _ 65 65 rfl _ _ (by simp [Act.eval,Act.put]) (by simp [Act.eval,Act.put]) (Xx _ _ _) ?_)
 go_wp2
 go_ret
 have jr:=Si.out
 have gP:=UC.out
 have fC:=UD.out
 have uR:W1.heap[b]?=some (.cells c1 tt (0,0)):=by rw [jr]; exact setRow_heap w.drew b cc _ tt _ EK
 have gR:(W1.setRow b c2).heap[b]?=some (.cells c2 tt (0,0)):=setRow_heap W1 b c1 _ tt _ uR
 have e2:∀k,c2[k]?=if off+i * 2≤k∧k<off+i * 2+2 then [x0,x1][k - (off+i * 2)]? else c1[k]?:=fun k=>by rw [fC,fL _ _ _ (by simp; omega)]; rfl
 have e1:∀k,c1[k]?=if off+(i+1) * 2≤k∧k<off+(i+1) * 2+(n - i) * 2 then (j3 cc (off+i * 2) ((n - i) * 2))[k - (off+(i+1) * 2)]? else cc[k]?:=fun k=>by rw [gP,fL _ _ _ (by rw [l1]; omega),l1]
 refine ⟨b,off,c,c2,tt,rfl,UB,gR,?_,fun k hk=>?_,?_,?_,fun k hk=>?_,⟨by rw [jr]; rfl,by rw [jr]; rfl,by rw [jr]; rfl,by rw [jr]; simp,fun q hq bJ=>?_⟩,.inl rfl⟩
 ·rw [fC,gj _ _ _ (by simp; omega),fh]; exact ck
 ·rw [e2,if_neg (by omega),e1,if_neg (by omega)]
 ·rw [e2,if_pos (by omega),Nat.sub_self]; rfl
 ·rw [e2,if_pos (by omega),show off+i * 2+1 - (off+i * 2)=1 by omega]; rfl
 ·rw [e2,if_neg (by omega),e1,if_pos (by omega),show off+(i+1) * 2+k - (off+(i+1) * 2)=k by omega,eT _ _ _ _ hk (by omega)]
 ·have Ms:q ≠ b:=fun e=>bJ (by rw [e])
  rw [setRow_other _ _ _ _ Ms,jr,setRow_other _ _ _ _ Ms]
  rfl
set_option maxHeartbeats 4000000 in
set_option maxRecDepth 100000 in
theorem OS (b off n c vb vo vc:Nat) (cc vv:Array Value) (tt vt:TypeId) (x0 x1:Value) (w:World) (hw:w.heap[b]?=some (.cells cc tt (0,0))) (hv:w.heap[vb]?=some (.cells vv vt (0,0))) (kF:vv[vo]?=some x0) (Kn:vv[vo+1]?=some x1)
  (UB:n≤c) (ck:off+c * 2≤cc.size) (Sj:(n+1) * 16≤140737488355328) (EM:x0.oneCell'=true) (Dn:x1.oneCell'=true) :
  Calls Tryz.prog 129 #[.slice (some ⟨b,off,none⟩) n c,.int .i64 (n:Int),.slice (some ⟨vb,vo,none⟩) 1 vc] w (rL b off n n cc x0 x1 w):=by
 have mixed:=Go.Proofs.YtpbdohkbiklflaaGreatDoor.mixed
 obtain ⟨i0,F2,EL,nW,OR⟩:=info_parts (show (Tryz.prog.info? 82).map (fun i=>(i.zero,i.size,i.bytes))=some (some (.agg #[.int .i64 0,.int .i64 0]),2,16) by kernel_rfl)
 have hd:∀d,d∈(DV.agg [.int .i64 0,.int .i64 0]).cells→d.aq=true:=by intro d hd; simp [DV.cells] at hd; subst hd; rfl
 have iK:o9 w (.slice (some ⟨b,off,none⟩) n c) i0.size (List.replicate n (DV.agg [.int .i64 0,.int .i64 0])) (fun i j _ u=>cc[off+i * 2+j]?=some u):=by
  refine .inr ⟨b,off,c,cc,tt,by simp,by simpa using UB,hw,by rw [nW]; exact ck,fun i x hx=>?_⟩
  have aK:i<n:=by have:=(List.getElem?_eq_some_iff.1 hx).1; simpa using this
  have x7:=List.mem_of_getElem? hx
  rw [List.eq_of_mem_replicate x7]
  refine ⟨by rw [nW]; rfl,fun j d hj=>⟨hd d (List.mem_of_getElem? hj),?_⟩⟩
  have Sk:j<2:=(List.getElem?_eq_some_iff.1 hj).1
  rw [nW]
  exact ⟨_,Array.getElem?_eq_getElem (by omega),Array.getElem?_eq_getElem (by omega)⟩
 have gT:pa w (.slice (some ⟨vb,vo,none⟩) 1 vc) i0.size [DV.agg [.int .i64 0,.int .i64 0]] (fun _ j _ u=>(j=0→u=x0)∧(j=1→u=x1)):=by
  refine .inr ⟨⟨vb,vo,none⟩,vc,fun _ j=>if j=0 then x0 else x1,rfl,fun i x hx=>?_⟩
  match i,hx with
  | 0,hx =>
   simp at hx; subst hx
   refine ⟨by rw [nW]; rfl,fun j d hj=>⟨hd d (List.mem_of_getElem? hj),?_⟩⟩
   have Sk:j<2:=(List.getElem?_eq_some_iff.1 hj).1
   rw [cO,iL hv]
   match j,Sk with
   | 0,_=>exact ⟨by simpa using kF,EM,fun _=>rfl,by simp⟩
   | 1,_=>exact ⟨by simpa using Kn,Dn,by simp,fun _=>rfl⟩
  | i+1,hx=>simp at hx
 have UE:∀ty,∃v' w',(Builtin.append_ #[65,65] ty #[.slice (some ⟨b,off,none⟩) n c,.slice (some ⟨vb,vo,none⟩) 1 vc]).run Tryz.prog w=.ok v' w'∧rL b off n n cc x0 x1 w (.returned v') w':=fun ty=>by
  obtain ⟨v',w',r1,r2,r3,r4,_⟩:=ql (P:=Tryz.prog) (ty:=ty) Tryz.underlying65 F2 EL (by rw [nW]; rfl) (by rw [nW]; omega) iK gT (by simp; omega) (by rw [OR]; simp; omega)
  refine ⟨v',w',r1,?_⟩
  rcases r2 with ⟨h,_⟩ | ⟨g,o,cp,c',t',rfl,k1,k2,k3,k4⟩
  ·simp at h
  ·have key:∀i j,i<n+1→j<2→∃u,c'[o+i * 2+j]?=some u∧lr n (fun i j _ u=>cc[off+i * 2+j]?=some u) (fun _ j _ u=>(j=0→u=x0)∧(j=1→u=x1)) i j (.int .i64 0) u:=by
    intro i j hi hj
    have hx:(List.replicate n (DV.agg [.int .i64 0,.int .i64 0])++[DV.agg [.int .i64 0,.int .i64 0]])[i]?=some (DV.agg [.int .i64 0,.int .i64 0]):=by
     rw [←List.replicate_succ',List.getElem?_replicate,if_pos hi]
    obtain ⟨_,q⟩:=k4 i _ hx
    obtain ⟨_,u,q1,q2⟩:=q j (.int .i64 0) (by
     match j,hj with
     | 0,_=>rfl
     | 1,_=>rfl)
    rw [nW] at q1
    rw [List.length_replicate] at q2
    exact ⟨u,q1,q2⟩
   have hb:g=b ∨ w.heap.size≤g:=by
    rcases r4 g rfl with h | h
    ·exact .inr h
    ·left; simpa [fj] using h.symm
   rw [nW] at k3
   refine ⟨g,o,cp,c',t',by simp,by simpa using k1,k2,k3,fun k hk=>?_,?_,?_,fun k hk=>by omega,r3,hb⟩
   ·obtain ⟨u,q1,q2⟩:=key (k / 2) (k % 2) (by omega) (by omega)
    unfold lr at q2
    rw [if_pos (by omega)] at q2
    rw [show o+k=o+k / 2 * 2+k % 2 by omega,show off+k=off+k / 2 * 2+k % 2 by omega,q1,q2]
   ·obtain ⟨u,q1,q2⟩:=key n 0 (by omega) (by omega)
    unfold lr at q2
    rw [if_neg (by omega)] at q2
    rw [Nat.add_zero] at q1
    rw [q1,q2.1 rfl]
   ·obtain ⟨u,q1,q2⟩:=key n 1 (by omega) (by omega)
    unfold lr at q2
    rw [if_neg (by omega)] at q2
    rw [q1,q2.2 rfl]
 obtain ⟨v',W',hr,Dp⟩:=UE 65
 have eB:n≤n:=Nat.le_refl _
 clear UE gT iK
 go_enter Tryz.func129,Tryz.ntmps129
 go_wp2_with (at_builtin; refine Lib.wpList_append_run _ rfl _ _ _ _ rfl _ _ rfl rfl _ _ hr ?_)
 all_goals (go_ret; exact Dp)
set_option maxHeartbeats 4000000 in
set_option maxRecDepth 100000 in
theorem Mt (b off n i vb vo vc:Nat) (cc vv:Array Value) (tt vt:TypeId) (x0 x1:Value) (w:World) (hw:w.heap[b]?=some (.cells cc tt (0,0))) (hv:w.heap[vb]?=some (.cells vv vt (0,0))) (kF:vv[vo]?=some x0) (Kn:vv[vo+1]?=some x1)
  (hi:i<n) (ck:off+n * 2≤cc.size) (Sj:(n+1) * 16≤140737488355328)
  (h1:∀k v,off≤k→k<off+n * 2→cc[k]?=some v→v.oneCell'=true) (EM:x0.oneCell'=true) (Dn:x1.oneCell'=true) :
  Calls Tryz.prog 129 #[.slice (some ⟨b,off,none⟩) n n,.int .i64 (i:Int),.slice (some ⟨vb,vo,none⟩) 1 vc] w (rL b off n i cc x0 x1 w):=by
 have mixed:=Go.Proofs.YtpbdohkbiklflaaGreatDoor.mixed
 obtain ⟨i0,F2,EL,nW,OR⟩:=info_parts (show (Tryz.prog.info? 82).map (fun i=>(i.zero,i.size,i.bytes))=some (some (.agg #[.int .i64 0,.int .i64 0]),2,16) by kernel_rfl)
 have EK:w.drew.heap[b]?=some (.cells cc tt (0,0)):=hw
 have V8:b<w.heap.size:=(Array.getElem?_eq_some_iff.1 hw).1
 have hvw:vb<w.heap.size:=(Array.getElem?_eq_some_iff.1 hv).1
 have l0:=c7 cc off (i * 2)
 have l1:=c7 cc (off+i * 2) ((n - i) * 2)
 have hold:(Builtin.firstCells i0.size i (.slice (some ⟨b,off,none⟩) i n)).run Tryz.prog w.drew=.ok (j3 cc off (i * 2)).toArray w.drew :=
  run_firstCells_some w.drew i0.size i ⟨b,off,none⟩ i n _ (by rw [l0,nW]) (fun j u hu=>by
   have hj:j<i * 2:=by have:=(List.getElem?_eq_some_iff.1 hu).1; rwa [l0] at this
   rw [eT cc _ _ j hj (by omega)] at hu
   rw [cO,iL EK]; exact hu)
 have zv:i+(n+1 - i)=n+1:=by omega
 have FI:(n:Int)+1 - (i:Int)=((n+1 - i:Nat):Int):=by omega
 obtain ⟨G,hG⟩:∃G,G=grownCap w (n+1) n 82:=⟨_,rfl⟩
 obtain ⟨Ko,OT⟩:∃Ko:Array Value,Ko=(j3 cc off (i * 2)).toArray++Builtin.zeroCells (Value.agg #[.int .i64 0,.int .i64 0]).cells (n+1 - i)++Builtin.zeroCells (Value.agg #[.int .i64 0,.int .i64 0]).cells (G - (n+1)):=⟨_,rfl⟩
 have Y1:∀ty,(Builtin.append_ #[65,3] ty #[.slice (some ⟨b,off,none⟩) i n,.int .i64 ((n:Int)+1 - (i:Int))]).run Tryz.prog w=.ok (.slice (some ⟨w.heap.size,0,none⟩) (n+1) G) (w.drew.alloc (.cells Ko 82)):=fun ty=>by
  have h:=Lib.run_append_grow_zeros (P:=Tryz.prog) (ty:=ty) w 65 3 82 i0 _ .i64 .i64 Tryz.underlying65 Tryz.underlying3 F2 EL (some ⟨b,off,none⟩) i n _ hold (n+1 - i) (by omega) (by rw [nW]; omega) (by omega) (by omega) (by rw [OR]; omega) (by rw [OR,zv]; exact growslice_fits (by omega) Sj)
  rw [zv,←hG] at h
  rw [FI,OT]
  exact h
 have hGn:n+1≤G:=by rw [hG]; exact grownCap_ge w _ _ _
 have aac:G≤9223372036854775807:=by
  have:=grownCap_le_maxLen w (n+1) n 82 (by unfold maxLen; omega)
  rw [←hG] at this
  unfold maxLen at this
  omega
 have Jy:∀m,(Builtin.zeroCells (Value.agg #[.int .i64 0,.int .i64 0]).cells m).size=m * 2:=fun m=>by simp [Builtin.zeroCells,Value.cells]
 have hRs:Ko.size=G * 2:=by rw [OT]; simp only [Array.size_append,List.size_toArray,l0,Jy]; omega
 obtain ⟨W1,jr⟩:∃W1,W1=w.drew.alloc (.cells Ko 82):=⟨_,rfl⟩
 have Mu:W1.heap[w.heap.size]?=some (.cells Ko 82 (0,0)):=by rw [jr]; exact bY w.drew _
 have FW:W1.heap[vb]?=some (.cells vv vt (0,0)):=by rw [jr,aV w.drew _ hvw]; exact hv
 have ki:W1.heap[b]?=some (.cells cc tt (0,0)):=by rw [jr,aV w.drew _ V8]; exact hw
 obtain ⟨r1,Qz⟩:∃r1,r1=over Ko (i * 2) [x0,x1]:=⟨_,rfl⟩
 have fh:r1.size=G * 2:=by rw [Qz,gj _ _ _ (by simp; omega),hRs]
 have UF:∀ty dc,(Builtin.copy_ #[65,65] ty #[.slice (some ⟨w.heap.size,i * 2,none⟩) (n+1 - i) dc,.slice (some ⟨vb,vo,none⟩) 1 vc]).run Tryz.prog W1=.ok (goInt (1:Nat)) (W1.setRow w.heap.size r1):=fun ty dc=>by
  rw [Qz]
  refine run_copy_row 65 82 ty i0 Tryz.underlying65 F2 Mu _ _ dc ⟨vb,vo,none⟩ _ vc 1 _ (by simp only [Nat.min_def]; split <;> omega) (fun j u hu=>?_) (by simp [nW]) (fun u hu=>?_) (by simp; omega)
  ·rw [cO,iL FW]
   match j,hu with
   | 0,hu=>simp at hu; subst hu; exact kF
   | 1,hu=>simp at hu; subst hu; exact Kn
   | j+2,hu=>simp at hu
  ·simp at hu
   rcases hu with rfl | rfl
   ·exact EM
   ·exact Dn
 obtain ⟨W2,Mw⟩:∃W2,W2=W1.setRow w.heap.size r1:=⟨_,rfl⟩
 have OU:W2.drew.heap[w.heap.size]?=some (.cells r1 82 (0,0)):=by rw [Mw]; exact setRow_heap W1 _ Ko _ _ _ Mu
 have cy:W2.drew.heap[b]?=some (.cells cc tt (0,0)):=by
  show W2.heap[b]?=_
  rw [Mw,setRow_other _ _ _ _ (by omega)]; exact ki
 obtain ⟨r2,NU⟩:∃r2,r2=over r1 ((i+1) * 2) (j3 cc (off+i * 2) ((n - i) * 2)):=⟨_,rfl⟩
 have Xy:∀ty dc sc,(Builtin.copy_ #[65,65] ty #[.slice (some ⟨w.heap.size,(i+1) * 2,none⟩) (n - i) dc,.slice (some ⟨b,off+i * 2,none⟩) (n - i) sc]).run Tryz.prog W2.drew=.ok (goInt (n - i:Nat)) (W2.drew.setRow w.heap.size r2):=fun ty dc sc=>by
  rw [NU]
  refine run_copy_row 65 82 ty i0 Tryz.underlying65 F2 OU _ _ dc ⟨b,off+i * 2,none⟩ _ sc (n - i) _ (by simp only [Nat.min_def]; split <;> omega) (fun j u hu=>?_) (by rw [l1,nW]) (fun u hu=>?_) (by rw [l1]; omega)
  ·have hj:j<(n - i) * 2:=by have:=(List.getElem?_eq_some_iff.1 hu).1; rwa [l1] at this
   rw [eT cc _ _ j hj (by omega)] at hu
   rw [cO,iL cy]; exact hu
  ·obtain ⟨k,hk,rfl⟩:=List.getElem_of_mem hu
   have eG:k<(n - i) * 2:=by rwa [l1] at hk
   have h2:=eT cc (off+i * 2) ((n - i) * 2) k eG (by omega)
   rw [List.getElem?_eq_getElem hk] at h2
   exact h1 (off+i * 2+k) _ (by omega) (by omega) h2.symm
 have Si:Hid (W1=w.drew.alloc (.cells Ko 82)):=jr
 have eW2:Hid (W2=W1.setRow w.heap.size r1):=Mw
 have eR:Hid (Ko=(j3 cc off (i * 2)).toArray++Builtin.zeroCells (Value.agg #[.int .i64 0,.int .i64 0]).cells (n+1 - i)++Builtin.zeroCells (Value.agg #[.int .i64 0,.int .i64 0]).cells (G - (n+1))):=OT
 have er1:Hid (r1=over Ko (i * 2) [x0,x1]):=Qz
 have er2:Hid (r2=over r1 ((i+1) * 2) (j3 cc (off+i * 2) ((n - i) * 2))):=NU
 rw [←jr] at Y1
 rw [←Mw] at UF
 have eN2:Hid (W2.drew.heap[w.heap.size]?=some (.cells r1 82 (0,0))):=OU
 clear jr Mw OT Qz NU hG hold FI zv Mu FW ki OU cy
 have EO:¬ ((i:Int)=(n:Int)):=by omega
 have uR:IntKind.i64.wrap ((i:Int)+1)=(i:Int)+1:=by rw [IntKind.wrap_i64]; omega
 have NV:IntKind.i64.wrap ((n:Int)+1)=(n:Int)+1:=by rw [IntKind.wrap_i64]; omega
 have hw3:IntKind.i64.wrap ((n:Int)+1 - (i:Int))=(n:Int)+1 - (i:Int):=by rw [IntKind.wrap_i64]; omega
 have ki:(0:Int)≤(i:Int)+1:=by omega
 have eB:i≤n:=by omega
 have cy:¬ (G=i+1):=by omega
 have x5:(i:Int)≤(n:Int)+1:=by omega
 have V2:¬ (G=i):=by omega
 have hb5:¬ (n=i):=by omega
 have hb7:(i:Int)+1≤(n:Int)+1:=by omega
 have pz:(n:Int)<(n:Int)+1:=by omega
 have hb9:(i:Int)≤(n:Int):=by omega
 go_enter Tryz.func129,Tryz.ntmps129
 go_wp2_with (first
  | (at_builtin; refine Lib.wpList_append_run _ rfl _ _ _ _ rfl _ _ rfl rfl _ _ (Y1 _) ?_)
  | (at_builtin; refine wpList_copy_runI _ rfl _ _ 65 65 rfl _ _ rfl rfl (UF _ _) ?_))
 go_region_law_o (refine step_copy_runI rfl _ _ 65 65 rfl _ _ (by simp [Act.eval,Act.put]) (by simp [Act.eval,Act.put]) (Xy _ _ _) ?_)
 go_wp2
 go_ret
 have jr:=Si.out
 have Mw:=eW2.out
 have Qz:=er1.out
 have NU:=er2.out
 have e2:∀k,r2[k]?=if (i+1) * 2≤k∧k<(i+1) * 2+(n - i) * 2 then (j3 cc (off+i * 2) ((n - i) * 2))[k - (i+1) * 2]? else r1[k]?:=fun k=>by rw [NU,fL _ _ _ (by rw [l1]; omega),l1]
 have e1:∀k,r1[k]?=if i * 2≤k∧k<i * 2+2 then [x0,x1][k - i * 2]? else Ko[k]?:=fun k=>by rw [Qz,fL _ _ _ (by simp; omega)]; rfl
 refine ⟨w.heap.size,0,G,r2,82,rfl,hGn,setRow_heap W2.drew _ r1 _ _ _ eN2.out,?_,fun k hk=>?_,?_,?_,fun k hk=>?_,⟨by rw [Mw,jr]; rfl,by rw [Mw,jr]; rfl,by rw [Mw,jr]; rfl,by rw [Mw,jr]; simp,fun q hq bJ=>?_⟩,.inr (Nat.le_refl _)⟩
 ·rw [NU,gj _ _ _ (by rw [l1]; omega),fh]; omega
 ·rw [Nat.zero_add,e2,if_neg (by omega),e1,if_neg (by omega),eR.out,Array.getElem?_append,if_pos (by simp only [Array.size_append,List.size_toArray,l0,Jy]; omega),Array.getElem?_append,if_pos (by simp only [List.size_toArray,l0]; omega),List.getElem?_toArray,eT _ _ _ _ hk (by omega)]
 ·rw [Nat.zero_add,e2,if_neg (by omega),e1,if_pos (by omega),Nat.sub_self]; rfl
 ·rw [Nat.zero_add,e2,if_neg (by omega),e1,if_pos (by omega),show i * 2+1 - i * 2=1 by omega]; rfl
 ·rw [Nat.zero_add,e2,if_pos (by omega),show (i+1) * 2+k - (i+1) * 2=k by omega,eT _ _ _ _ hk (by omega)]
 ·have Ms:q ≠ w.heap.size:=by omega
  rw [setRow_other _ _ _ _ Ms]
  show W2.heap[q]?=_
  rw [Mw,setRow_other _ _ _ _ Ms,jr,aV w.drew _ hq]
  rfl
end Go.Proofs.YtpbdohkbiklflaaGreatDoor
namespace Go.Proofs.YtpbdohkbiklflaaGreatDoor
open Go.TM Go.RowKit
variable [cG]
theorem Mx {M:Mem} {h:Option Value} {n:Int} {u:Value} (r:db M h (I n) u):u=.int .i64 n:=by
 rcases r with ⟨a,_⟩ | ⟨_,r⟩
 ·cases a
 ·cases r; rfl
theorem w6 {M:Mem} {w:World} {v:Value} {hc:PS→Option Value} {l:List Rk} (h:ca M w v hc (.aw 2 (l.map eR))) (hl:l ≠ []) :
  ∃b off c cc tt,v=.slice (some ⟨b,off,none⟩) l.length c∧l.length≤c∧w.heap[b]?=some (.cells cc tt (0,0))∧off+c * 2≤cc.size∧∀i y,l[i]?=some y→cc[off+i * 2]?=some (.int .i64 y.1)∧cc[off+i * 2+1]?=some (.int .i64 y.2):=by
 rcases h with ⟨h,_⟩ | ⟨b,off,c,cc,tt,rfl,h1,h2,h3,h4⟩
 ·simp at h; exact absurd h hl
 ·refine ⟨b,off,c,cc,tt,by rw [List.length_map],by simpa using h1,h2,h3,fun i y hy=>?_⟩
  obtain ⟨_,q⟩:=h4 i (eR y) (by rw [List.getElem?_map,hy]; rfl)
  obtain ⟨_,u,e1,e2⟩:=q 0 (I y.1) rfl
  obtain ⟨_,u',e3,e4⟩:=q 1 (I y.2) rfl
  rw [Mx e2] at e1
  rw [Mx e4] at e3
  exact ⟨e1,e3⟩
theorem Ie {M:Mem} {w:World} {g o cp:Nat} {c:Array Value} {t:TypeId} {l:List Rk} (h1:l.length≤cp) (h2:w.heap[g]?=some (.cells c t (0,0))) (h3:o+cp * 2≤c.size)
  (h4:∀i y,l[i]?=some y→c[o+i * 2]?=some (.int .i64 y.1)∧c[o+i * 2+1]?=some (.int .i64 y.2)) :
  o9 w (.slice (some ⟨g,o,none⟩) l.length cp) 2 (l.map eR) (fun _ _ d u=>d.ah=false∧bo M d u):=by
 refine .inr ⟨g,o,cp,c,t,by rw [List.length_map],by simpa using h1,h2,h3,fun i x hx=>?_⟩
 rw [List.getElem?_map] at hx
 cases hy:l[i]? with
 | none=>rw [hy] at hx; simp at hx
 | some y =>
  rw [hy] at hx; simp at hx; subst hx
  obtain ⟨e1,e2⟩:=h4 i y hy
  refine ⟨rfl,fun j d hd=>?_⟩
  match j,hd with
  | 0,hd=>simp [eR,DV.cells] at hd; subst hd; exact ⟨rfl,_,e1,rfl,.int _ _⟩
  | 1,hd=>simp [eR,DV.cells] at hd; subst hd; exact ⟨rfl,_,e2,rfl,.int _ _⟩
  | j+2,hd=>simp [eR,DV.cells] at hd
theorem Dq {cc:Array Value} {off n:Nat} {l:List Rk} (hn:n=l.length) (h:∀i y,l[i]?=some y→cc[off+i * 2]?=some (.int .i64 y.1)∧cc[off+i * 2+1]?=some (.int .i64 y.2)) :
  ∀k v,off≤k→k<off+n * 2→cc[k]?=some v→v.oneCell'=true:=by
 intro k v h1 h2 h3
 obtain ⟨e1,e2⟩:=h ((k - off) / 2) _ (List.getElem?_eq_getElem (by omega))
 rcases Nat.mod_two_eq_zero_or_one (k - off) with h4 | h4
 ·rw [show off+(k - off) / 2 * 2=k by omega,h3] at e1; injection e1 with e1; subst e1; rfl
 ·rw [show off+(k - off) / 2 * 2+1=k by omega,h3] at e2; injection e2 with e2; subst e2; rfl
theorem OV (l:List Rk) (k:Nat) (x:Rk) (hk:k≤l.length) (i:Nat):(rK l k x)[i]?=if i<k then l[i]? else if i=k then some x else l[i - 1]?:=by
 unfold rK
 have ht:(l.take k).length=k:=by simp; omega
 rw [List.getElem?_append,ht]
 by_cases h1:i<k
 ·rw [if_pos h1,if_pos h1,List.getElem?_take,if_pos h1]
 ·rw [if_neg h1,if_neg h1]
  by_cases h2:i=k
  ·subst h2; simp
  ·rw [if_neg h2,show i - k=(i - 1 - k)+1 by omega,List.getElem?_cons_succ,List.getElem?_drop,show k+(i - 1 - k)=i - 1 by omega]
theorem w7 (l:List Rk) (k:Nat) (x:Rk) (hk:k≤l.length):(rK l k x).length=l.length+1:=by simp [rK]; omega
theorem OW (l:List Rk) (k:Nat) (hk:k<l.length) (i:Nat):(yx l k)[i]?=if i<k then l[i]? else l[i+1]?:=by
 unfold yx
 have ht:(l.take k).length=k:=by simp; omega
 rw [List.getElem?_append,ht]
 by_cases h1:i<k
 ·rw [if_pos h1,if_pos h1,List.getElem?_take,if_pos h1]
 ·rw [if_neg h1,if_neg h1,List.getElem?_drop,show k+1+(i - k)=i+1 by omega]
theorem Dr (l:List Rk) (k:Nat) (hk:k<l.length):(yx l k).length=l.length - 1:=by simp [yx]; omega
theorem Jz {D:DV} {p:List PS} {l:List Rk} (hp:get D p=some (.aw 2 (l.map eR))) (bJ:p ≠ []) (x:Rk) (k:Nat) (hk:k≤l.length) (hl:l ≠ []) (hlen:l.length≤1000) :
  aO Tryz.prog 129 [.own 0 0 0 p,.dv (I k),.own 1 0 0 []] 2 [(0,.tree 0 0 D),(1,.tree 0 0 (.aw 2 [eR x]))] 1 [.own 2 1 0 []]
   [(2,.tree 1 0 (.aw 2 ((rK l k x).map eR))),(0,.tree 0 0 (bP D p .any)),(1,.tree 0 0 (.aw 2 [eR x]))]:=by
 refine sY ⟨_,Tryz.func129,by kernel_rfl,rfl⟩ hp bJ (by omega) (fun i hi=>by simp only [aa]; rw [TM.beq_false (show i ≠ 1 by omega)]; rfl) (Br _) ?_
 intro w G v xs ck hu bf hr
 obtain ⟨v0,v1,rfl⟩:∃v0 v1,xs=[v0,v1]:=by
  match xs,hr.1 with
  | [a,b],_=>exact ⟨a,b,rfl⟩
 have r0:=hr.2 0 _ v0 rfl rfl
 have r1:=hr.2 1 _ v1 rfl rfl
 cases r0 with | dv r0=>cases r0 with | int =>
 cases r1 with | own _ _ _ _ _ hh hc =>
 obtain ⟨b,off,c,cc,tt,rfl,gP,hw,pA,iK⟩:=w6 bf hl
 obtain ⟨u1,P4,_,IY⟩:=ck.node (i:=1) (ver:=0) (ep:=0) (d:=.aw 2 [eR x]) (p:=[]) rfl rfl rfl
 rw [P4] at hh; injection hh with hh; subst hh
 obtain ⟨vb,vo,vc,vv,vt,rfl,_,hv,_,hvx⟩:=w6 (l:=[x]) IY (by simp)
 obtain ⟨kF,Kn⟩:=hvx 0 x rfl
 simp only [Nat.zero_mul,Nat.add_zero] at kF Kn
 have V7:vb ≠ b:=by
  rintro rfl
  have h0:bL G 0 (aa [(0,ar.tree 0 0 D),(1,ar.tree 0 0 (.aw 2 [eR x]))] 0) vb:=⟨p,_,_,hp,rfl,hu,rfl⟩
  have h1:bL G 1 (aa [(0,ar.tree 0 0 D),(1,ar.tree 0 0 (.aw 2 [eR x]))] 1) vb:=⟨[],_,_,rfl,rfl,P4,rfl⟩
  have:=ck.inj 0 1 vb h0 h1
  cases this
 have uG:=Dq rfl iK
 have Dp:∀e w',rL b off l.length k cc (.int .i64 x.1) (.int .i64 x.2) w e w'→∃v',e=.returned v'∧v'.oneCell'=true∧w.grownBy w' (some b)∧o9 w' v' 2 ((rK l k x).map eR) (fun _ _ d u=>d.ah=false∧bo G.M d u)∧∀q,fj v'=some q→some b=some q ∨ w.heap.size≤q:=by
  rintro e w' ⟨g,o,cp,c',t',rfl,p1,p2,p3,p4,p5,p6,p7,p8,p9⟩
  refine ⟨_,rfl,rfl,p8,?_,fun q hq=>?_⟩
  ·have hL:=w7 l k x hk
   rw [←hL]
   refine Ie (by rw [hL]; exact p1) p2 p3 fun i y hy=>?_
   rw [OV l k x hk] at hy
   by_cases h1:i<k
   ·rw [if_pos h1] at hy
    obtain ⟨e1,e2⟩:=iK i y hy
    rw [p4 (i * 2) (by omega),Nat.add_assoc,p4 (i * 2+1) (by omega),←Nat.add_assoc]
    exact ⟨e1,e2⟩
   ·rw [if_neg h1] at hy
    by_cases h2:i=k
    ·subst h2; rw [if_pos rfl] at hy; injection hy with hy; subst hy; exact ⟨p5,p6⟩
    ·rw [if_neg h2] at hy
     have aK:=(List.getElem?_eq_some_iff.1 hy).1
     obtain ⟨e1,e2⟩:=iK _ y hy
     have q1:=p7 ((i - 1 - k) * 2) (by omega)
     have q2:=p7 ((i - 1 - k) * 2+1) (by omega)
     rw [show o+(k+1) * 2+(i - 1 - k) * 2=o+i * 2 by omega,show off+k * 2+(i - 1 - k) * 2=off+(i - 1) * 2 by omega] at q1
     rw [show o+(k+1) * 2+((i - 1 - k) * 2+1)=o+i * 2+1 by omega,show off+k * 2+((i - 1 - k) * 2+1)=off+(i - 1) * 2+1 by omega] at q2
     exact ⟨q1.trans e1,q2.trans e2⟩
  ·simp only [fj,Option.some.injEq] at hq
   subst hq
   rcases p9 with h | h
   ·exact .inl (by rw [h])
   ·exact .inr h
 rcases Nat.lt_or_ge k l.length with aK | dy
 ·rcases Nat.lt_or_ge l.length c with w8 | nF
  ·exact (Jx b off l.length c k vb vo vc cc vv tt vt _ _ w hw hv kF Kn V7 w8 aK pA (by omega) uG rfl rfl).mono fun e w' h=>Dp e w' h
  ·obtain rfl:c=l.length:=by omega
   exact (Mt b off l.length k vb vo vc cc vv tt vt _ _ w hw hv kF Kn aK pA (by omega) uG rfl rfl).mono fun e w' h=>Dp e w' h
 ·obtain rfl:k=l.length:=by omega
  exact (OS b off l.length c vb vo vc cc vv tt vt _ _ w hw hv kF Kn gP pA (by omega) rfl rfl).mono fun e w' h=>Dp e w' h
theorem JA {D:DV} {p:List PS} {l:List Rk} (hp:get D p=some (.aw 2 (l.map eR))) (bJ:p ≠ []) (k:Nat) (hk:k<l.length) (hlen:l.length≤1000) :
  aO Tryz.prog 127 [.own 0 0 0 p,.dv (I k),.dv (I ((k:Int)+1))] 1 [(0,.tree 0 0 D)] 1 [.own 1 1 0 []]
   [(1,.tree 1 0 (.aw 2 ((yx l k).map eR))),(0,.tree 0 0 (bP D p .any))]:=by
 have hl:l ≠ []:=by rintro rfl; simp at hk
 refine sY (K3:=[]) ⟨_,Tryz.func127,by kernel_rfl,rfl⟩ hp bJ (by omega) (fun i hi=>rfl) (Br _) ?_
 intro w G v xs ck hu bf hr
 obtain ⟨v0,v1,rfl⟩:∃v0 v1,xs=[v0,v1]:=by
  match xs,hr.1 with
  | [a,b],_=>exact ⟨a,b,rfl⟩
 have r0:=hr.2 0 _ v0 rfl rfl
 have r1:=hr.2 1 _ v1 rfl rfl
 cases r0 with | dv r0=>cases r0 with | int =>
 cases r1 with | dv r1=>cases r1 with | int =>
 obtain ⟨b,off,c,cc,tt,rfl,gP,hw,pA,iK⟩:=w6 bf hl
 refine (F1 b off l.length c k cc tt w hw gP hk pA (by omega) (Dq rfl iK)).mono ?_
 rintro e w' ⟨rfl,c',p1,p2,p3,p4,p5⟩
 refine ⟨_,rfl,rfl,p5,?_,fun q hq=>.inl hq⟩
 have hL:=Dr l k hk
 rw [←hL]
 refine Ie (by omega) p1 (by omega) fun i y hy=>?_
 rw [OW l k hk] at hy
 by_cases h1:i<k
 ·rw [if_pos h1] at hy
  obtain ⟨e1,e2⟩:=iK i y hy
  rw [p3 (i * 2) (by omega),Nat.add_assoc,p3 (i * 2+1) (by omega),←Nat.add_assoc]
  exact ⟨e1,e2⟩
 ·rw [if_neg h1] at hy
  have aK:=(List.getElem?_eq_some_iff.1 hy).1
  obtain ⟨e1,e2⟩:=iK _ y hy
  have q1:=p4 ((i - k) * 2) (by omega)
  have q2:=p4 ((i - k) * 2+1) (by omega)
  rw [show off+k * 2+(i - k) * 2=off+i * 2 by omega,show off+(k+1) * 2+(i - k) * 2=off+(i+1) * 2 by omega] at q1
  rw [show off+k * 2+((i - k) * 2+1)=off+i * 2+1 by omega,show off+(k+1) * 2+((i - k) * 2+1)=off+(i+1) * 2+1 by omega] at q2
  exact ⟨q1.trans e1,q2.trans e2⟩
theorem JB {D:DV} {p:List PS} {y:DV} (hp:get D p=some (.aw 1 [y])) (hy:y.ah=true) (bJ:p ≠ []) :
  aO Tryz.prog 128 [.own 0 0 0 p,.dv (I 0),.dv (I 1)] 1 [(0,.tree 0 0 D)] 1 [.own 1 1 0 []]
   [(1,.tree 1 0 (.aw 1 [])),(0,.tree 0 0 (bP D p .any))]:=by
 refine sY (K3:=[]) ⟨_,Tryz.func128,by kernel_rfl,rfl⟩ hp bJ (by omega) (fun i hi=>rfl) (by simp) ?_
 intro w G v xs ck hu bf hr
 obtain ⟨v0,v1,rfl⟩:∃v0 v1,xs=[v0,v1]:=by
  match xs,hr.1 with
  | [a,b],_=>exact ⟨a,b,rfl⟩
 have r0:=hr.2 0 _ v0 rfl rfl
 have r1:=hr.2 1 _ v1 rfl rfl
 cases r0 with | dv r0=>cases r0 with | int =>
 cases r1 with | dv r1=>cases r1 with | int =>
 have V9:y.cells=[y]:=by cases y <;> first | rfl | cases hy
 rcases bf with ⟨h,_⟩ | ⟨b,off,c,cc,tt,rfl,gP,hw,pA,iK⟩
 ·simp at h
 ·obtain ⟨_,q⟩:=iK 0 y rfl
  obtain ⟨_,u,e1,e2⟩:=q 0 y (by rw [V9]; rfl)
  have P4:u.oneCell'=true:=by
   rcases e2 with ⟨_,e2⟩ | ⟨e2,_⟩
   ·have ak:TM.step (.aw 1 [y]) (.el 0 0)=some y:=by show y.cells[0]?=some y; rw [V9]; rfl
    have e2':aB G.H 0 0 0 (p++[.el 0 0])=some u:=e2
    obtain ⟨u',f1,f2,_⟩:=ck.node (i:=0) (ver:=0) (ep:=0) (d:=D) (p:=p++[.el 0 0]) (nd:=y) rfl (by rw [get_append,hp]; simp only [TM.get,ak]) hy
    rw [e2'] at f1; injection f1 with f1; subst f1; exact f2
   ·rw [hy] at e2; cases e2
  simp only [Nat.zero_mul,Nat.add_zero] at e1
  have:=F3 b off 1 c 0 cc tt w hw (by simpa using gP) (by omega) (by simpa using pA) (by omega) (fun k v h1 h2 h3=>by
   obtain rfl:k=off:=by omega
   rw [e1] at h3; injection h3 with h3; subst h3; exact P4)
  refine this.mono ?_
  rintro e w' ⟨rfl,c',p1,p2,p3,p4,p5⟩
  refine ⟨_,rfl,rfl,p5,?_,fun q hq=>.inl hq⟩
  exact .inr ⟨b,off,c,c',tt,rfl,by simp,p1,by rw [p2]; exact pA,by simp⟩
end Go.Proofs.YtpbdohkbiklflaaGreatDoor
namespace Go.Proofs.YtpbdohkbiklflaaGreatDoor
open Go.TM
variable [cG]
structure mg (l:List Rk) (k:Nat) (x:Rk):Prop where
 le:k≤l.length
 lo:∀i y,i<k→l[i]?=some y→kh y x=true
 hi:∀i y,k≤i→l[i]?=some y→kh y x=false
set_option maxRecDepth 100000
set_option maxHeartbeats 4000000 in
theorem JC (f:Bool) (x:Rk):aO Tryz.prog 116 [.own 0 0 0 [],.agg [.dv (I x.1),.dv (I x.2)]] 1 (kM f []) 0 [] [(0,.tree 0 1 (cz false [x]))]:=by
 have zw:(nth tab (nth tab 111).elem).bytes=24:=by kernel_rfl
 cases f
 ·refine aJ aD mixed (af _) (ai _) Tryz.func116 rfl rfl (by kernel_rfl) ?_
  refine .inr ⟨[0],[.own 0 0 0 [],.agg [.dv (I x.1),.dv (I x.2)]],_,0,_,_,tY false x,by kernel_rfl,by kernel_rfl,⟨rfl,⟨rf,rf,tv⟩,tv⟩,⟨⟨rfl,rfl⟩,tv⟩,?_⟩
  refine ⟨fun _=>?_,fun h=>by simp at h⟩
  refine .inr (.inl ⟨[eR x],rfl,⟨rf,rf,tv⟩,by simp [eR,DV.cells]; rfl,?_⟩)
  refine .inr (.inl ⟨[.aw 2 [eR x]],rfl,⟨rfl,tv⟩,by simp [DV.cells]; rfl,?_⟩)
  refine .inr (.inr ⟨rfl,[.aw 2 [eR x]],dm.refl _,by rw [zw]; simp,by simp,?_⟩)
  refine ⟨[.aw 1 [.aw 2 [eR x]]],⟨rfl,tv⟩,?_⟩
  exact ⟨by kernel_rfl,_,_,⟨rfl,rfl⟩,by kernel_rfl,tv,⟨rfl,rfl⟩,tv⟩
 ·refine aJ aD mixed (af _) (ai _) Tryz.func116 rfl rfl (by kernel_rfl) ?_
  refine .inr ⟨[0],[.own 0 0 0 [],.agg [.dv (I x.1),.dv (I x.2)]],_,0,_,_,tY true x,by kernel_rfl,by kernel_rfl,⟨rfl,⟨rf,rf,tv⟩,tv⟩,⟨⟨rfl,rfl⟩,tv⟩,?_⟩
  refine ⟨fun _=>?_,fun h=>by simp at h⟩
  refine .inr (.inl ⟨[eR x],rfl,⟨rf,rf,tv⟩,by simp [eR,DV.cells]; rfl,?_⟩)
  refine .inr (.inl ⟨[.aw 2 [eR x]],rfl,⟨rfl,tv⟩,by simp [DV.cells]; rfl,?_⟩)
  refine .inr (.inr ⟨rfl,[.aw 2 [eR x]],dm.refl _,by rw [zw]; simp,by simp,?_⟩)
  refine ⟨[.aw 1 [.aw 2 [eR x]]],⟨rfl,tv⟩,?_⟩
  exact ⟨by kernel_rfl,_,_,⟨rfl,rfl⟩,by kernel_rfl,tv,⟨rfl,rfl⟩,tv⟩
set_option maxHeartbeats 4000000 in
theorem JD (x r:Rk) (l:List Rk) (k:Nat) (hl:(r::l).length≤511) (hp:mg (r::l) k x):aO Tryz.prog 116 [.own 0 0 0 [],.agg [.dv (I x.1),.dv (I x.2)]] 1 (kM false (r::l)) 0 [] [(0,.tree 0 1 (cz false (rK (r::l) k x)))]:=by
 have uK:=Jz (D:=cz false (r::l)) (p:=[.el 0 1,.el 0 0]) (l:=r::l) rfl (by simp) x k hp.le (by simp) (by omega)
 obtain ⟨y,L',hL⟩:∃y L',rK (r::l) k x=y::L':=by
  cases h:rK (r::l) k x with
  | nil=>have:=w7 (r::l) k x hp.le; rw [h] at this; simp at this
  | cons y L'=>exact ⟨y,L',rfl⟩
 rw [hL] at uK ⊢
 refine aJ aD mixed (af _) (ai _) Tryz.func116 rfl rfl (by kernel_rfl) ?_
 refine .inr ⟨[0],[.own 0 0 0 [],.agg [.dv (I x.1),.dv (I x.2)]],_,0,_,_,tZ x r l k hp.le (by omega) hp.lo hp.hi,by kernel_rfl,by kernel_rfl,⟨rfl,⟨rf,rf,tv⟩,tv⟩,⟨⟨rfl,rfl⟩,tv⟩,?_⟩
 refine ⟨fun h=>by simp at h,fun _=>?_⟩
 refine ⟨fun _=>⟨by omega,by show (0:Int)<1; omega⟩,.aw 2 ((r::l).map eR),fun _=>rfl,?_⟩
 refine .inr (.inl ⟨[eR x],rfl,⟨rf,rf,tv⟩,by simp [eR,DV.cells]; rfl,?_⟩)
 refine .inr ⟨[0,2],[.own 0 0 0 [.el 0 1,.el 0 0],.dv (I k),.own 1 0 0 []],_,1,_,_,uK,by kernel_rfl,by kernel_rfl,⟨rfl,rf,rfl,tv⟩,⟨⟨rfl,rfl⟩,⟨rfl,rfl⟩,tv⟩,?_⟩
 refine ⟨by kernel_rfl,?_⟩
 refine ⟨fun _=>⟨by omega,by show (0:Int)<1; omega⟩,[.aw 2 ((y::L').map eR)],⟨rfl,tv⟩,.any,rfl,?_⟩
 refine ⟨fun h=>?_,fun _=>?_⟩
 ·exfalso
  have:=of_decide_eq_true h
  rw [List.length_map,List.length_map,←hL,w7 _ _ _ hp.le] at this
  omega
 ·exact ⟨_,_,⟨rfl,rfl⟩,by kernel_rfl,tv,⟨rfl,rfl⟩,tv⟩
set_option maxHeartbeats 4000000 in
theorem My (x r:Rk) (l:List Rk) (k:Nat) (hl:(r::l).length≤511) (hk:k<(r::l).length) (hp:mg (r::l) k x):aO Tryz.prog 115 [.own 0 0 0 [],.agg [.dv (I x.1),.dv (I x.2)]] 1 (kM false (r::l)) 0 [] [(0,.tree 0 1 (cz false (yx (r::l) k)))]:=by
 have uK:=JA (D:=cz false (r::l)) (p:=[.el 0 1,.el 0 0]) (l:=r::l) rfl (by simp) k hk (by omega)
 generalize hL:yx (r::l) k=L at uK
 refine wq aD mixed (af _) (ai _) Tryz.func115 rfl rfl (by kernel_rfl) ?_
 refine .inl (.inr ⟨[0],[.own 0 0 0 [],.agg [.dv (I x.1),.dv (I x.2)]],_,0,_,_,tZ x r l k hp.le (by omega) hp.lo hp.hi,by kernel_rfl,by kernel_rfl,⟨rfl,⟨rf,rf,tv⟩,tv⟩,⟨⟨rfl,rfl⟩,tv⟩,?_⟩)
 refine ⟨fun _=>⟨by omega,by show (0:Int)<1; omega⟩,.aw 2 ((r::l).map eR),fun _=>rfl,?_⟩
 refine ⟨fun _=>⟨by omega,by have:(r::l).length≤511:=hl; omega⟩,?_⟩
 refine .inr ⟨[0],[.own 0 0 0 [.el 0 1,.el 0 0],.dv (I k),.dv (I ((k:Int)+1))],_,1,_,_,uK,by kernel_rfl,by kernel_rfl,⟨rfl,rf,rf,tv⟩,⟨⟨rfl,rfl⟩,tv⟩,?_⟩
 refine ⟨fun _=>⟨by omega,by show (0:Int)<1; omega⟩,[.aw 2 (L.map eR)],⟨rfl,tv⟩,.any,rfl,?_⟩
 refine .inr ⟨[(0,15),(1,15),(2,15),(3,15),(16,15)],by kernel_rfl,rJ (pol:=FZ) (by kernel_rfl) (by kernel_rfl),?_⟩
 refine ⟨fun _=>⟨by omega,by show (0:Int)<1; omega⟩,.aw 2 (L.map eR),fun _=>rfl,?_⟩
 refine ⟨.aw 2 (L.map eR),fun _=>rfl,?_⟩
 cases L with
 | nil =>
  refine ⟨fun _=>?_,fun h=>by simp at h⟩
  have hB:=JB (D:=.cB (.agg [.fn 33 [],.aw 1 [.aw 2 []]])) (p:=[.el 0 1]) (y:=.aw 2 []) rfl rfl (by simp)
  refine ⟨fun _=>⟨by omega,by omega⟩,?_⟩
  refine .inl (.inr ⟨[0],[.own 0 0 0 [.el 0 1],.dv (I 0),.dv (I 1)],_,1,_,_,hB,by kernel_rfl,by kernel_rfl,⟨rfl,rf,rf,tv⟩,⟨⟨rfl,rfl⟩,tv⟩,?_⟩)
  exact ⟨[.aw 1 []],⟨rfl,tv⟩,_,_,⟨rfl,rfl⟩,by kernel_rfl,tv,⟨rfl,rfl⟩,tv⟩
 | cons y L' =>
  refine ⟨fun h=>by simp at h; omega,fun _=>?_⟩
  exact ⟨_,_,⟨rfl,rfl⟩,by kernel_rfl,tv,⟨rfl,rfl⟩,tv⟩
end Go.Proofs.YtpbdohkbiklflaaGreatDoor
namespace Go.Proofs.YtpbdohkbiklflaaGreatDoor
open Go.TM
variable [cG]
set_option maxRecDepth 100000
theorem oQ (sz:Nat):DV.Le .aG (.sl sz []):=fun M v h=>by cases h; exact .slnil _
set_option maxHeartbeats 4000000 in
theorem Ds (f:Bool) (n:Int):aO Tryz.prog 55 [.own 0 0 0 [],.dv (I n)] 1 (kM f []) 0 [.dv (.sl 2 [])] (kM f []):=by
 cases f
 all_goals
  refine aJ aD mixed (af _) (ai _) Tryz.func55 rfl rfl (by kernel_rfl) ?_
 ·refine ⟨Unit,fun _=>⟨1,[(5,.dv .aG),(12,.dv (I 0)),(13,.dv (I 0))],kM false []⟩,fun _=>True,fun _=>0,(),fun _=>rfl,⟨⟨rf,rf,rf,tv⟩,⟨⟨rfl,rfl⟩,tv⟩,rfl,rfl⟩,tv,?_⟩
  rintro _ _
  refine ⟨fun h=>by simp at h,fun _=>?_⟩
  exact ⟨_,_,⟨rfl,rfl⟩,by kernel_rfl,⟨oQ _,tv⟩,⟨rfl,rfl⟩,tv⟩
 ·refine ⟨Unit,fun _=>⟨1,[(5,.dv .aG),(12,.dv (I 0)),(13,.dv (I 0))],kM true []⟩,fun _=>True,fun _=>0,(),fun _=>rfl,⟨⟨rf,rf,rf,tv⟩,⟨⟨rfl,rfl⟩,tv⟩,rfl,rfl⟩,tv,?_⟩
  rintro _ _
  refine ⟨fun h=>by simp at h,fun _=>?_⟩
  exact ⟨_,_,⟨rfl,rfl⟩,by kernel_rfl,⟨oQ _,tv⟩,⟨rfl,rfl⟩,tv⟩
def UG (n:Nat) (l:List Rk) (q:Bool):aY:=⟨2,[(0,.own 0 0 0 []),(1,.dv (I n)),(5,.own 1 0 0 []),(11,.own 0 0 0 [.el 0 1]),(12,.dv (I 1)),(13,.dv (I (bif q then 1 else 0)))],[(0,.tree 0 0 (cz false l)),(1,.tree 0 0 (.aw 2 (bif q then (l.take n).map eR else [])))]⟩
theorem Sm {n:Nat} (hn:1≤n):decide ((n:Int)≤(([]:List DV).length:Int))=false:=by simp; omega
set_option maxHeartbeats 4000000 in
theorem Dt (n:Nat) (hn:1≤n) (Mr:n≤9223372036854775807) (r:Rk) (l:List Rk) (hl:(r::l).length≤1000):aO Tryz.prog 55 [.own 0 0 0 [],.dv (I n)] 1 (kM false (r::l)) 0 [.dv (.sl 2 (((r::l).take n).map eR))] (kM false (r::l)):=by
 have zw:(nth tab (nth tab 65).elem).bytes=16:=by kernel_rfl
 refine aJ aD mixed (af _) (ai _) Tryz.func55 rfl rfl (by kernel_rfl) ?_
 refine ⟨Bool,UG n (r::l),fun _=>True,fun q=>bif q then 0 else 1,false,fun q=>by cases q <;> rfl,⟨⟨rfl,rf,⟨rfl,rfl,rfl,rfl,2,rfl⟩,rfl,rf,rf,tv⟩,⟨⟨rfl,rfl⟩,⟨rfl,rfl,2,rfl⟩,tv⟩,rfl,rfl⟩,tv,?_⟩
 intro q _
 cases q with
 | true =>
  refine ⟨fun h=>by simp at h,fun _=>?_⟩
  refine ⟨_,_,⟨rfl,rfl⟩,by kernel_rfl,⟨?_,tv⟩,⟨rfl,rfl⟩,tv⟩
  show DV.Le (.sl 2 (FP (((r::l).take n).map eR))) _
  rw [oP fun x=>rfl]
  exact rf
 | false =>
  refine ⟨fun _=>?_,fun h=>by simp at h⟩
  refine ⟨fun _=>⟨by show (0:Int)≤0; omega,by show (0:Int)<1; omega⟩,.aw 2 ((r::l).map eR),fun _=>rfl,?_⟩
  refine ⟨fun h=>absurd ((Sm hn).symm.trans h) (by simp),fun _=>?_⟩
  refine ⟨.aw 2 ((r::l).map eR),fun _=>rfl,?_⟩
  refine ⟨fun _=>⟨by show (-9223372036854775808:Int)≤(n:Int) - 0; omega,by show (n:Int) - 0≤9223372036854775807; omega⟩,?_⟩
  refine .inr (.inl ⟨.aw 2 ((r::l).map eR),fun _=>rfl,fun _=>⟨Int.le_refl _,?_,?_⟩,?_⟩)
  ·show (0:Int)≤if (n:Int) - 0<(((r::l).map eR).length:Int) then (n:Int) - 0 else (((r::l).map eR).length:Int)
   split <;> omega
  ·show (if (n:Int) - 0<(((r::l).map eR).length:Int) then (n:Int) - 0 else (((r::l).map eR).length:Int))≤(((r::l).map eR).length:Int)
   split <;> omega
  have hM:((((r::l).map eR).drop 0).take ((if (n:Int) - 0<(((r::l).map eR).length:Int) then (n:Int) - 0 else (((r::l).map eR).length:Int)).toNat - 0))=((r::l).take n).map eR:=by
   rw [List.drop_zero,List.map_take]
   split
   ·rename_i h; rw [show ((n:Int) - 0).toNat - 0=n by omega]
   ·rename_i h
    rw [show (((((r::l).map eR).length:Int)).toNat - 0)=((r::l).map eR).length by omega,List.take_length,List.take_of_length_le (by omega)]
  have hz:(((r::l).take n).map eR).length≤1000:=by simp; simp at hl; omega
  refine .inr ⟨.aw 2 ((r::l).map eR),fun _=>rfl,?_,Br _,((r::l).take n).map eR,?_,?_,?_,?_⟩
  ·show (0:Nat)+((if (n:Int) - 0<(((r::l).map eR).length:Int) then (n:Int) - 0 else (((r::l).map eR).length:Int)).toNat - 0)≤((r::l).map eR).length
   split <;> omega
  ·show dm ((((r::l).map eR).drop 0).take ((if (n:Int) - 0<(((r::l).map eR).length:Int) then (n:Int) - 0 else (((r::l).map eR).length:Int)).toNat - 0)) _
   rw [hM]; exact dm.refl _
  ·rw [zw]; show (0+(((r::l).take n).map eR).length) * 16≤_; omega
  ·show 0+(((r::l).take n).map eR).length≤_; omega
  ·refine ⟨fun _=>⟨by show (-9223372036854775808:Int)≤0+1; omega,by show (0:Int)+1≤9223372036854775807; omega⟩,?_⟩
   exact ⟨true,⟨⟨rfl,rf,rfl,rfl,rf,rf,tv⟩,⟨⟨rfl,rfl⟩,⟨rfl,rfl⟩,tv⟩,rfl,rfl⟩,tv,by decide⟩
end Go.Proofs.YtpbdohkbiklflaaGreatDoor
namespace Go.Proofs.YtpbdohkbiklflaaGreatDoor
open Go.TM
variable [cG]
abbrev Ky:=Int × Int
def u4 (k:Ky):DV:=.agg [I k.1,I k.2]
abbrev HM:=List (Ky × Int)
def ni (p:Ky × Int):DV:=.eW (u4 p.1) (I p.2)
def bt:HM→Ky→Option Int
 | [],_=>none
 | p::r,k=>if p.1=k then some p.2 else bt r k
def bT:HM→Ky→Int→HM
 | [],k,x=>[(k,x)]
 | p::r,k,x=>if p.1=k then (k,x)::r else p::bT r k x
def iY:HM→Ky→HM
 | [],_=>[]
 | p::r,k=>if p.1=k then r else p::iY r k
def hv (m:HM) (k:Ky):Int:=(bt m k).getD 0
theorem F4 (a b:Ky):uz (u4 a) (u4 b)=decide (a=b):=by
 obtain ⟨a1,a2⟩:=a
 obtain ⟨b1,b2⟩:=b
 simp only [u4,uz,Ae,Ci,Prod.mk.injEq]
 simp
 try rw [Bool.eq_iff_iff]; simp
theorem Bs (k:Ky):∀m:HM,bn (m.map ni) (u4 k)=(bt m k).map I
 | []=>rfl
 | p::r=>by
  simp only [List.map_cons,ni,bn,F4,bt]
  by_cases h:p.1=k
  ·simp [h]
  ·simp only [h,decide_false,cond_false,if_false]
   exact Bs k r
theorem sZ (k:Ky) (x:Int):∀m:HM,eH (m.map ni) (u4 k) (I x)=(bT m k x).map ni
 | []=>rfl
 | p::r=>by
  simp only [List.map_cons,ni,eH,F4,bT]
  by_cases h:p.1=k
  ·simp [h,ni]
  ·simp only [h,decide_false,cond_false,if_false,List.map_cons]
   have:=sZ k x r
   rw [this]
   rfl
theorem Mz (k:Ky):∀m:HM,fS (m.map ni) (u4 k)=(iY m k).map ni
 | []=>rfl
 | p::r=>by
  simp only [List.map_cons,ni,fS,F4,iY]
  by_cases h:p.1=k
  ·simp [h]
  ·simp only [h,decide_false,cond_false,if_false,List.map_cons]
   have:=Mz k r
   rw [this]
   rfl
structure Sl where
 tick:Int
 n:Int
 c:Int
 bS:Int
 cH:Int
def bQ (x:Sl):DV:=.agg [I x.tick,I x.n,I x.c,I x.bS,I x.cH]
def Sn:Bool→List Sl→DV
 | true,_=>.aG
 | false,l=>.aw 5 (l.map bQ)
structure Vs where
 coin:Int
 ab:Int
 aE:Int
 last:Int
 work:Int
 H:HM
 cI:List Int
 rk:List (Bool × List Rk)
 sl:List (Bool × List Sl)
 bH:List Int
def Cc (x:Bool × List Rk):DV:=cz x.1 x.2
def kj (x:Bool × List Sl):DV:=Sn x.1 x.2
def vC (f:Bool) (s:Vs):List AV:=[.dv (I 4),.dv (I s.coin),.dv (I s.ab),.dv (I s.aE),.dv (I s.last),.dv (I s.work),.own 1 0 0 [],.own 2 0 0 [],.own 3 0 (bif f then 1 else 0) [],.own 4 0 0 [],.own 5 0 0 []]
def vK (f:Bool) (s:Vs):aj:=[(0,.cells (vC f s)),(1,.tree 0 0 (.omap dw (s.H.map ni))),(2,.tree 0 0 (gk s.cI)),(3,.tree 0 (bif f then 1 else 0) (.aw 1 (s.rk.map Cc))),(4,.tree 0 0 (.aw 1 (s.sl.map kj))),(5,.tree 0 0 (gk s.bH))]
where
 gk (l:List Int):DV:=.aw 1 (l.map I)
def pb (l:List Rk) (x:Rk):Nat:=l.countP fun y=>kh y x
def s5 (l:List Rk) (x:Rk):List Rk:=rK l (pb l x) x
def mi (l:List Rk) (x:Rk):List Rk:=yx l (pb l x)
theorem Ig {L:List DV} {i:Nat} {c:DV} (h:L[i]?=some c) (hc:c.ah=true):TM.step (.aw 1 L) (.el i 0)=some c:=by
 have il:c.cells=[c]:=by cases c <;> first | rfl | cases hc
 show (match L[i]? with | some x=>x.cells[0]? | none=>none)=_
 rw [h]
 show c.cells[0]?=_
 rw [il]; rfl
theorem oR {L:List DV} {i:Nat} {c c':DV} (h:L[i]?=some c) (hc:c.ah=true) (mV:c'.aq=true):bP (.aw 1 L) [.el i 0] c'=.aw 1 (L.set i c'):=by
 simp only [bP,Ig h hc]
 show (match L[i]? with | some x=>DV.aw 1 (L.set i (qJ x 0 c')) | none=>DV.aw 1 L)=_
 rw [h]
 cases c <;> first | (cases hc; done) | simp [qJ,mV]
theorem nX {L:List DV} {i:Nat} {c:DV} (h:L[i]?=some c) (hc:c.ah=true):TM.get (.aw 1 L) [.el i 0]=some c:=by
 simp only [TM.get,Ig h hc]
set_option maxRecDepth 100000
theorem zx {L:List DV} {i:Nat} {l:List Rk} (h:L[i]?=some (cz false l)) (x:Rk) (hl:l.length≤511) (hk:pb l x<l.length) (hp:mg l (pb l x) x) :
  aO Tryz.prog 115 [.own 0 0 0 [.el i 0],.agg [.dv (I x.1),.dv (I x.2)]] 1 [(0,.tree 0 0 (.aw 1 L))] 0 [] [(0,.tree 0 2 (.aw 1 (L.set i (cz false (mi l x)))))]:=by
 obtain ⟨r,l',rfl⟩:∃r l',l=r::l':=by
  cases l with
  | nil=>simp at hk
  | cons r l'=>exact ⟨r,l',rfl⟩
 have:=qk (p:=[.el i 0]) (D:=.aw 1 L) (My x r l' _ hl hk hp) (nX h rfl) (by simp) rfl rfl rfl rfl
 rw [oR h rfl rfl] at this
 exact this
theorem zy {L:List DV} {i:Nat} {f:Bool} {l:List Rk} (h:L[i]?=some (cz f l)) (hf:f=true→l=[]) (x:Rk) (hl:l.length≤511) (hp:mg l (pb l x) x) :
  aO Tryz.prog 116 [.own 0 0 0 [.el i 0],.agg [.dv (I x.1),.dv (I x.2)]] 1 [(0,.tree 0 0 (.aw 1 L))] 0 [] [(0,.tree 0 2 (.aw 1 (L.set i (cz false (s5 l x)))))]:=by
 cases l with
 | nil =>
  have:=qk (p:=[.el i 0]) (D:=.aw 1 L) (JC f x) (nX h rfl) (by simp) rfl rfl rfl rfl
  rw [oR h rfl rfl] at this
  exact this
 | cons r l' =>
  cases f with
  | true=>have:=hf rfl; cases this
  | false =>
   have:=qk (p:=[.el i 0]) (D:=.aw 1 L) (JD x r l' _ hl hp) (nX h rfl) (by simp) rfl rfl rfl rfl
   rw [oR h rfl rfl] at this
   exact this
theorem gM:sG Tryz.prog (nth tab 74).key dw:=y5 aD (by kernel_rfl)
def cQ (s:Vs) (k:Ky) (i:Nat) (now:Int):Vs :=
 if hv s.H k=now then s else
 let s1:={ s with work:=s.work+1,cI:=s.cI.set i (s.cI.getD i 0+(now - hv s.H k)),H:=if now=0 then iY s.H k else bT s.H k now }
 if 1048576≤k.1 then s1 else
 let l0:=(s.rk.getD i (true,[])).2
 let l1:=if hv s.H k ≠ 0 then mi l0 (k.1,hv s.H k) else l0
 let f1:=if hv s.H k ≠ 0 then false else (s.rk.getD i (true,[])).1
 let r2:=if now ≠ 0 then (false,s5 l1 (k.1,now)) else (f1,l1)
 {s1 with rk:=s.rk.set i r2 }
def cA (s:Vs) (k:Ky) (now:Int):Bool:=!decide (hv s.H k=now) && !decide (1048576≤k.1)
structure MA (s:Vs) (k:Ky) (i:Nat) (now:Int):Prop where
 it:k.2=(i:Int)
 tl:i<s.cI.length
 rl:i<s.rk.length
 nb:0≤now∧now≤4611686018427387904
 hb:0≤hv s.H k∧hv s.H k≤4611686018427387904
 tb:-4611686018427387904≤s.cI.getD i 0∧s.cI.getD i 0≤4611686018427387904∧s.cI.getD i 0+(now - hv s.H k)≤4611686018427387904∧-4611686018427387904≤s.cI.getD i 0+(now - hv s.H k)
 wb:0≤s.work∧s.work≤4611686018427387904
 ll:(s.rk.getD i (true,[])).2.length≤510
 lf:(s.rk.getD i (true,[])).1=true→(s.rk.getD i (true,[])).2=[]
 rem:k.1<1048576→hv s.H k ≠ 0→pb (s.rk.getD i (true,[])).2 (k.1,hv s.H k)<(s.rk.getD i (true,[])).2.length∧mg (s.rk.getD i (true,[])).2 (pb (s.rk.getD i (true,[])).2 (k.1,hv s.H k)) (k.1,hv s.H k)
 ins:k.1<1048576→now ≠ 0→∀l1,l1=(if hv s.H k ≠ 0 then mi (s.rk.getD i (true,[])).2 (k.1,hv s.H k) else (s.rk.getD i (true,[])).2)→mg l1 (pb l1 (k.1,now)) (k.1,now)
set_option maxHeartbeats 4000000 in
theorem Du (s:Vs) (k:Ky) (i:Nat) (now:Int) (ok:MA s k i now):aO Tryz.prog 53 [.ptr 0 0,.agg [.dv (I k.1),.dv (I k.2)],.dv (I now)] 6 (vK false s) 0 [] (vK (cA s k now) (cQ s k i now)):=by
 obtain ⟨a,it⟩:=k
 obtain rfl:it=(i:Int):=ok.it
 refine aJ aD mixed (af _) (ai _) Tryz.func53 rfl rfl (by kernel_rfl) ?_
 have hg:bn (s.H.map ni) (u4 (a,(i:Int)))=bif (bt s.H (a,(i:Int))).isSome then some (I (hv s.H (a,(i:Int)))) else none:=by
  rw [Bs]
  unfold hv
  cases bt s.H (a,(i:Int)) <;> rfl
 refine ⟨gM,u4 (a,(i:Int)),rfl,rfl,I (hv s.H (a,(i:Int))),(bt s.H (a,(i:Int))).isSome,fun _=>hg,fun h=>?_,rfl,?_⟩
 ·unfold hv
  cases hq:bt s.H (a,(i:Int)) with
  | none=>rfl
  | some x=>rw [hq] at h; cases h
 have ok1:=ok.nb
 have ok2:=ok.hb
 have ok3:=ok.tb
 have ok4:=ok.wb
 have ht:s.cI[i]?=some (s.cI.getD i 0):=by rw [List.getD_eq_getElem?_getD,List.getElem?_eq_getElem ok.tl]; rfl
 generalize hb:hv s.H (a,(i:Int))=before at *
 refine ⟨by kernel_rfl,fun he=>?_,fun bJ=>?_⟩
 ·have he:before=now:=by simpa using he
  rw [show cQ s (a,(i:Int)) i now=s by simp only [cQ]; rw [if_pos (hb.trans he)],show cA s (a,(i:Int)) now=false by simp only [cA]; rw [hb,he]; simp]
  exact ⟨_,_,⟨rfl,rfl⟩,by kernel_rfl,tv,⟨rf,rf,rf,rf,rf,rf,rfl,rfl,rfl,rfl,rfl,tv⟩,⟨rfl,rfl⟩,⟨rfl,rfl⟩,⟨rfl,rfl⟩,⟨rfl,rfl⟩,⟨rfl,rfl⟩,tv⟩
 have bJ:before ≠ now:=by simpa using bJ
 refine ⟨fun _=>⟨by omega,by omega⟩,?_⟩
 have MB:(i:Int)<((s.cI.map I).length:Int):=by rw [List.length_map]; have:=ok.tl; omega
 refine ⟨fun _=>⟨by show (0:Int)≤(i:Int); omega,MB⟩,I (s.cI.getD i 0),fun _=>by show (s.cI.map I)[((i:Int)).toNat]?=_; rw [Int.toNat_natCast,List.getElem?_map,ht]; rfl,?_⟩
 refine ⟨fun _=>⟨by omega,by omega⟩,?_⟩
 refine ⟨fun _=>⟨by omega,by omega⟩,?_⟩
 have fJ:(s.cI.map I)[((i:Int)).toNat]?=some (I (s.cI.getD i 0)):=by rw [Int.toNat_natCast,List.getElem?_map,ht]; rfl
 refine ⟨fun _=>⟨by show (0:Int)≤(i:Int); omega,MB⟩,[I (s.cI.getD i 0+(now - before))],⟨rf,tv⟩,I (s.cI.getD i 0),fJ,?_⟩
 have b2:DV.aw 1 ((s.cI.map I).set i (I (s.cI.getD i 0+(now - before))))=vK.gk (s.cI.set i (s.cI.getD i 0+(now - before))):=by simp only [vK.gk,List.map_set]
 have b1:DV.omap dw (fS (s.H.map ni) (u4 (a,(i:Int))))=.omap dw ((iY s.H (a,(i:Int))).map ni):=by rw [Mz]
 have Xz:DV.omap dw (eH (s.H.map ni) (u4 (a,(i:Int))) (I now))=.omap dw ((bT s.H (a,(i:Int)) now).map ni):=by rw [sZ]
 have QB:(i:Int)<((s.rk.map Cc).length:Int):=by rw [List.length_map]; have:=ok.rl; omega
 have JE:s.rk[i]?=some (s.rk.getD i (true,[])):=by rw [List.getD_eq_getElem?_getD,List.getElem?_eq_getElem ok.rl]; rfl
 have H4:(s.rk.map Cc)[((i:Int)).toNat]?=some (Cc (s.rk.getD i (true,[]))):=by rw [Int.toNat_natCast,List.getElem?_map,JE]; rfl
 have okl:=ok.ll
 have Wa:=ok.lf
 have Wb:=ok.rem
 have Wc:=ok.ins
 rw [hb] at Wb Wc
 generalize iZ:s.rk.getD i (true,[])=q0 at *
 obtain ⟨f0,l0⟩:=q0
 simp only at okl Wa Wb Wc
 have So:(s.rk.map Cc)[i]?=some (cz f0 l0):=by rw [List.getElem?_map,JE]; rfl
 refine ⟨by kernel_rfl,fun h0=>?_,fun h0=>?_⟩
 ·have h0:now=0:=by simpa using h0
  subst h0
  refine ⟨gM,u4 (a,(i:Int)),rfl,rfl,by kernel_rfl,fun hp=>?_,fun hp=>?_⟩
  ·have hp:1048576≤a:=of_decide_eq_true hp
   rw [show cQ s (a,(i:Int)) i 0={ s with work:=s.work+1,cI:=s.cI.set i (s.cI.getD i 0+(0 - before)),H:=iY s.H (a,(i:Int)) } by simp only [cQ,hb]; rw [if_neg bJ,if_pos hp]; rfl,show cA s (a,(i:Int)) 0=false by simp only [cA]; simp [hp]]
   exact ⟨_,_,⟨rfl,rfl⟩,by kernel_rfl,tv,⟨rf,rf,rf,rf,rf,rf,rfl,rfl,rfl,rfl,rfl,tv⟩,⟨rfl,b1⟩,⟨rfl,b2⟩,⟨rfl,rfl⟩,⟨rfl,rfl⟩,⟨rfl,rfl⟩,tv⟩
  ·have hp:a<1048576:=by have:=of_decide_eq_false hp; simp only at this; omega
   refine ⟨fun _=>?_,fun h=>absurd h (by simpa using bJ)⟩
   refine ⟨fun _=>⟨by show (0:Int)≤(i:Int); omega,QB⟩,cz f0 l0,fun _=>H4,?_⟩
   obtain ⟨r1,r2⟩:=Wb hp bJ
   obtain rfl:f0=false:=by
    cases f0 with
    | false=>rfl
    | true=>rw [Wa rfl] at r1; simp at r1
   have Sp:=zx So (a,before) (by omega) r1 r2
   refine .inr ⟨[3],[.own 0 0 0 [.el i 0],.agg [.dv (I a),.dv (I before)]],[(0,.tree 0 0 (.aw 1 (s.rk.map Cc)))],0,_,_,Sp,by kernel_rfl,by kernel_rfl,⟨rfl,⟨rf,rf,tv⟩,tv⟩,⟨⟨rfl,rfl⟩,tv⟩,?_⟩
   refine ⟨by kernel_rfl,fun h=>absurd h (by simp),fun _=>?_⟩
   rw [show cQ s (a,(i:Int)) i 0={ s with work:=s.work+1,cI:=s.cI.set i (s.cI.getD i 0+(0 - before)),H:=iY s.H (a,(i:Int)),rk:=s.rk.set i (false,mi l0 (a,before)) } by simp only [cQ,hb]; rw [if_neg bJ,if_neg (by omega)]; simp only [iZ,ne_eq,not_true_eq_false,if_false,bJ,not_false_eq_true,if_true],show cA s (a,(i:Int)) 0=true by simp only [cA,hb]; simp [bJ]; omega]
   exact ⟨_,_,⟨rfl,rfl⟩,by kernel_rfl,tv,⟨rf,rf,rf,rf,rf,rf,rfl,rfl,rfl,rfl,rfl,tv⟩,⟨rfl,b1⟩,⟨rfl,b2⟩,⟨rfl,by simp only [List.map_set]; rfl⟩,⟨rfl,rfl⟩,⟨rfl,rfl⟩,tv⟩
 ·have h0:now ≠ 0:=by simpa using h0
  refine ⟨gM,u4 (a,(i:Int)),rfl,rfl,I now,⟨rf,tv⟩,rfl,false,fun _=>⟨?_,?_⟩,by kernel_rfl,fun hp=>?_,fun hp=>?_⟩
  ·intro x hx d hd
   rw [hg] at hx
   cases hk:(bt s.H (a,(i:Int))).isSome with
   | false=>rw [hk] at hx; cases hx
   | true=>rw [hk] at hx; injection hx with hx; subst hx; simp [DV.cells] at hd; subst hd; rfl
  ·intro d hd
   simp [DV.cells] at hd; subst hd; rfl
  ·have hp:1048576≤a:=of_decide_eq_true hp
   rw [show cQ s (a,(i:Int)) i now={ s with work:=s.work+1,cI:=s.cI.set i (s.cI.getD i 0+(now - before)),H:=bT s.H (a,(i:Int)) now } by simp only [cQ,hb]; rw [if_neg bJ,if_pos hp,if_neg h0],show cA s (a,(i:Int)) now=false by simp only [cA]; simp [hp]]
   exact ⟨_,_,⟨rfl,rfl⟩,by kernel_rfl,tv,⟨rf,rf,rf,rf,rf,rf,rfl,rfl,rfl,rfl,rfl,tv⟩,⟨rfl,Xz⟩,⟨rfl,b2⟩,⟨rfl,rfl⟩,⟨rfl,rfl⟩,⟨rfl,rfl⟩,tv⟩
  ·have hp:a<1048576:=by have:=of_decide_eq_false hp; simp only at this; omega
   refine ⟨fun OX=>?_,fun OX=>?_⟩
   ·have OX:before ≠ 0:=by simpa using OX
    refine ⟨fun _=>⟨by show (0:Int)≤(i:Int); omega,QB⟩,cz f0 l0,fun _=>H4,?_⟩
    obtain ⟨r1,r2⟩:=Wb hp OX
    obtain rfl:f0=false:=by
     cases f0 with
     | false=>rfl
     | true=>rw [Wa rfl] at r1; simp at r1
    have Sp:=zx So (a,before) (by omega) r1 r2
    refine .inr ⟨[3],[.own 0 0 0 [.el i 0],.agg [.dv (I a),.dv (I before)]],[(0,.tree 0 0 (.aw 1 (s.rk.map Cc)))],0,_,_,Sp,by kernel_rfl,by kernel_rfl,⟨rfl,⟨rf,rf,tv⟩,tv⟩,⟨⟨rfl,rfl⟩,tv⟩,?_⟩
    refine ⟨by kernel_rfl,fun _=>?_,fun h=>absurd h (by simpa using h0)⟩
    have UH:(mi l0 (a,before)).length≤511:=by unfold mi; rw [Dr _ _ r1]; omega
    have je:((s.rk.map Cc).set i (cz false (mi l0 (a,before))))[i]?=some (cz false (mi l0 (a,before))):=by rw [List.getElem?_set_self (by rw [List.length_map]; exact ok.rl)]
    have Sq:=zy je (fun h=>by cases h) (a,now) UH (Wc hp h0 _ (by rw [if_pos OX]))
    refine ⟨fun _=>⟨by show (0:Int)≤(i:Int); omega,by rw [List.length_set]; exact QB⟩,cz false (mi l0 (a,before)),fun _=>je,?_⟩
    refine .inr ⟨[3],[.own 0 0 0 [.el i 0],.agg [.dv (I a),.dv (I now)]],[(0,.tree 0 0 (.aw 1 ((s.rk.map Cc).set i (cz false (mi l0 (a,before))))))],0,_,_,Sq,by kernel_rfl,by kernel_rfl,⟨rfl,⟨rf,rf,tv⟩,tv⟩,⟨⟨rfl,rfl⟩,tv⟩,?_⟩
    refine ⟨by kernel_rfl,?_⟩
    rw [show cQ s (a,(i:Int)) i now={ s with work:=s.work+1,cI:=s.cI.set i (s.cI.getD i 0+(now - before)),H:=bT s.H (a,(i:Int)) now,rk:=s.rk.set i (false,s5 (mi l0 (a,before)) (a,now)) } by simp only [cQ,hb]; rw [if_neg bJ,if_neg (by omega)]; simp only [iZ,ne_eq,h0,if_false,OX,not_false_eq_true,if_true],show cA s (a,(i:Int)) now=true by simp only [cA,hb]; simp [bJ]; omega]
    exact ⟨_,_,⟨rfl,rfl⟩,by kernel_rfl,tv,⟨rf,rf,rf,rf,rf,rf,rfl,rfl,rfl,rfl,rfl,tv⟩,⟨rfl,Xz⟩,⟨rfl,b2⟩,⟨rfl,by rw [List.set_set,List.map_set]; rfl⟩,⟨rfl,rfl⟩,⟨rfl,rfl⟩,tv⟩
   ·have OX:before=0:=by simpa using OX
    subst OX
    refine ⟨fun _=>?_,fun h=>absurd h (by simpa using h0)⟩
    refine ⟨fun _=>⟨by show (0:Int)≤(i:Int); omega,QB⟩,cz f0 l0,fun _=>H4,?_⟩
    have Sq:=zy So Wa (a,now) (by omega) (Wc hp h0 _ (by rw [if_neg (by simp)]))
    refine .inr ⟨[3],[.own 0 0 0 [.el i 0],.agg [.dv (I a),.dv (I now)]],[(0,.tree 0 0 (.aw 1 (s.rk.map Cc)))],0,_,_,Sq,by kernel_rfl,by kernel_rfl,⟨rfl,⟨rf,rf,tv⟩,tv⟩,⟨⟨rfl,rfl⟩,tv⟩,?_⟩
    refine ⟨by kernel_rfl,?_⟩
    rw [show cQ s (a,(i:Int)) i now={ s with work:=s.work+1,cI:=s.cI.set i (s.cI.getD i 0+(now - 0)),H:=bT s.H (a,(i:Int)) now,rk:=s.rk.set i (false,s5 l0 (a,now)) } by simp only [cQ,hb]; rw [if_neg bJ,if_neg (by omega)]; simp only [iZ,ne_eq,h0,if_false,not_true_eq_false,not_false_eq_true,if_true],show cA s (a,(i:Int)) now=true by simp only [cA,hb]; simp [bJ]; omega]
    exact ⟨_,_,⟨rfl,rfl⟩,by kernel_rfl,tv,⟨rf,rf,rf,rf,rf,rf,rfl,rfl,rfl,rfl,rfl,tv⟩,⟨rfl,Xz⟩,⟨rfl,b2⟩,⟨rfl,by simp only [List.map_set]; rfl⟩,⟨rfl,rfl⟩,⟨rfl,rfl⟩,tv⟩
end Go.Proofs.YtpbdohkbiklflaaGreatDoor
