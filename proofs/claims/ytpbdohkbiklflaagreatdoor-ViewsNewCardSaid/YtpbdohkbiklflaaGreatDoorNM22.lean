import Derived.Test.YtpbdohkbiklflaaGreatDoorNM21
set_option linter.unusedVariables false
set_option linter.unusedSimpArgs false
set_option linter.unusedSectionVars false
namespace Go.Proofs.YtpbdohkbiklflaaGreatDoor
open Go.TM Go.RowKit Go.Lib
variable [Glob]
def InsPost (b off n i:Nat) (cc:Array Value) (x0 x1:Value) (w:World) (e:Ending) (w':World):Prop :=
 ∃g o cp c' t',e=.returned (.slice (some ⟨g,o,none⟩) (n+1) cp)∧n+1≤cp∧w'.heap[g]?=some (.cells c' t' (0,0))∧o+cp * 2≤c'.size∧(∀k,k<i * 2→c'[o+k]?=cc[off+k]?)∧c'[o+i * 2]?=some x0∧c'[o+i * 2+1]?=some x1 ∧
  (∀k,k<(n - i) * 2→c'[o+(i+1) * 2+k]?=cc[off+i * 2+k]?)∧w.grownBy w' (some b)∧(g=b ∨ w.heap.size≤g)
set_option maxHeartbeats 4000000 in
set_option maxRecDepth 100000 in
theorem ins_shift (b off n c i vb vo vc:Nat) (cc vv:Array Value) (tt vt:TypeId) (x0 x1:Value) (w:World) (hw:w.heap[b]?=some (.cells cc tt (0,0))) (hv:w.heap[vb]?=some (.cells vv vt (0,0))) (hx0:vv[vo]?=some x0) (hx1:vv[vo+1]?=some x1) (hvb:vb ≠ b)
  (hnc:n+1≤c) (hi:i<n) (hfit:off+c * 2≤cc.size) (hn63:n<9223372036854775807)
  (h1:∀k v,off≤k→k<off+n * 2→cc[k]?=some v→v.oneCell'=true) (h10:x0.oneCell'=true) (h11:x1.oneCell'=true) :
  Calls Tryz.prog 129 #[.slice (some ⟨b,off,none⟩) n c,.int .i64 (i:Int),.slice (some ⟨vb,vo,none⟩) 1 vc] w (InsPost b off n i cc x0 x1 w):=by
 have mixed:=Go.Proofs.YtpbdohkbiklflaaGreatDoor.mixed
 obtain ⟨i0,hi0,hz0,hzs,hzb⟩:=info_parts (show (Tryz.prog.info? 82).map (fun i=>(i.zero,i.size,i.bytes))=some (some (.agg #[.int .i64 0,.int .i64 0]),2,16) by kernel_rfl)
 have hwd:w.drew.heap[b]?=some (.cells cc tt (0,0)):=hw
 have hov:∀lb cb,(callFunc 138 #[.slice (some ⟨vb,vo,none⟩) 1 vc,.slice (some ⟨b,off+(i+1) * 2,none⟩) lb cb]).run Tryz.prog w=.ok (.value (.bool false)) w:=fun lb cb=>by
  rw [run_callFunc_extern Tryz.func138 (by kernel_rfl) (by kernel_rfl) (by kernel_rfl) (e:=Extern.SlicesOverlaps.overlaps #[65,65] #[4]) (by kernel_rfl),
   Lib.run_overlaps_apart w 65 4 82 Tryz.underlying65 2 (fun w=>by simp [Go.sizeOf,typeInfo,hi0,hzs]) ⟨vb,vo,none⟩ ⟨b,off+(i+1) * 2,none⟩ 1 vc lb cb hvb vt tt vv.size cc.size (by simp [World.shape?,hv]) (by simp [World.shape?,hw]) (by omega) (by simp [World.frozen?,hv]) (by simp [World.frozen?,hv])]
  rfl
 have l1:=cut2_len cc (off+i * 2) ((n - i) * 2)
 obtain ⟨c1,hc1⟩:∃c1,c1=over cc (off+(i+1) * 2) (cut2 cc (off+i * 2) ((n - i) * 2)):=⟨_,rfl⟩
 obtain ⟨W1,hW1⟩:∃W1,W1=w.drew.setRow b c1:=⟨_,rfl⟩
 have hs1:c1.size=cc.size:=by rw [hc1,over_size _ _ _ (by rw [l1]; omega)]
 have hw1:W1.heap[b]?=some (.cells c1 tt (0,0)):=by rw [hW1]; exact setRow_heap w.drew b cc _ tt _ hwd
 have hv1:W1.heap[vb]?=some (.cells vv vt (0,0)):=by rw [hW1,setRow_other _ _ _ _ hvb]; exact hv
 have hcp1:∀ty dc sc,(Builtin.copy_ #[65,65] ty #[.slice (some ⟨b,off+(i+1) * 2,none⟩) (n - i) dc,.slice (some ⟨b,off+i * 2,none⟩) (n+1 - i) sc]).run Tryz.prog w.drew=.ok (goInt (n - i:Nat)) W1:=fun ty dc sc=>by
  rw [hW1,hc1]
  refine run_copy_row 65 82 ty i0 Tryz.underlying65 hi0 hwd _ _ dc ⟨b,off+i * 2,none⟩ _ sc (n - i) _ (by simp only [Nat.min_def]; split <;> omega) (fun j u hu=>?_) (by rw [l1,hzs]) (fun u hu=>?_) (by rw [l1]; omega)
  ·have hj:j<(n - i) * 2:=by have:=(List.getElem?_eq_some_iff.1 hu).1; rwa [l1] at this
   rw [cut2_at cc _ _ j hj (by omega)] at hu
   rw [add_at,cell_row hwd]; exact hu
  ·obtain ⟨k,hk,rfl⟩:=List.getElem_of_mem hu
   have hk':k<(n - i) * 2:=by rwa [l1] at hk
   have h2:=cut2_at cc (off+i * 2) ((n - i) * 2) k hk' (by omega)
   rw [List.getElem?_eq_getElem hk] at h2
   exact h1 (off+i * 2+k) _ (by omega) (by omega) h2.symm
 obtain ⟨c2,hc2⟩:∃c2,c2=over c1 (off+i * 2) [x0,x1]:=⟨_,rfl⟩
 have hcp2:∀ty dc,(Builtin.copy_ #[65,65] ty #[.slice (some ⟨b,off+i * 2,none⟩) (n+1 - i) dc,.slice (some ⟨vb,vo,none⟩) 1 vc]).run Tryz.prog W1=.ok (goInt (1:Nat)) (W1.setRow b c2):=fun ty dc=>by
  rw [hc2]
  refine run_copy_row 65 82 ty i0 Tryz.underlying65 hi0 hw1 _ _ dc ⟨vb,vo,none⟩ _ vc 1 _ (by simp only [Nat.min_def]; split <;> omega) (fun j u hu=>?_) (by simp [hzs]) (fun u hu=>?_) (by simp; omega)
  ·rw [add_at,cell_row hv1]
   match j,hu with
   | 0,hu=>simp at hu; subst hu; exact hx0
   | 1,hu=>simp at hu; subst hu; exact hx1
   | j+2,hu=>simp at hu
  ·simp at hu
   rcases hu with rfl | rfl
   ·exact h10
   ·exact h11
 have eW1:Hid (W1=w.drew.setRow b c1):=hW1
 have ec1:Hid (c1=over cc (off+(i+1) * 2) (cut2 cc (off+i * 2) ((n - i) * 2))):=hc1
 have ec2:Hid (c2=over c1 (off+i * 2) [x0,x1]):=hc2
 clear hW1 hc1 hc2 hw1 hv1
 have hz1:¬ ((i:Int)=(n:Int)):=by omega
 have hw1:IntKind.i64.wrap ((i:Int)+1)=(i:Int)+1:=by rw [IntKind.wrap_i64]; omega
 have hw2:IntKind.i64.wrap ((n:Int)+1)=(n:Int)+1:=by rw [IntKind.wrap_i64]; omega
 have hb1:(0:Int)≤(i:Int)+1:=by omega
 have hin:i≤n:=by omega
 have hb2:¬ (c=i+1):=by omega
 have hb3:(i:Int)≤(n:Int)+1:=by omega
 have hb4:¬ (c=i):=by omega
 have hb5:¬ ((c:Int)<(n:Int)+1):=by omega
 have hb6:(0:Int)≤(n:Int)+1:=by omega
 have hb7:(i:Int)+1≤(n:Int)+1:=by omega
 have hb8:(n:Int)+1≤(c:Int):=by omega
 go_enter Tryz.func129,Tryz.ntmps129
 go_wp2_with (simp only [hov])
 go_region_law_o (refine step_copy_runI rfl _ _ 65 65 rfl _ _ (by simp [Act.eval,Act.put]) (by simp [Act.eval,Act.put]) (hcp1 _ _ _) ?_)
 go_wp2
 go_ret
 have hW1:=eW1.out
 have hc1:=ec1.out
 have hc2:=ec2.out
 have hw1:W1.heap[b]?=some (.cells c1 tt (0,0)):=by rw [hW1]; exact setRow_heap w.drew b cc _ tt _ hwd
 have hq2:(W1.setRow b c2).heap[b]?=some (.cells c2 tt (0,0)):=setRow_heap W1 b c1 _ tt _ hw1
 have e2:∀k,c2[k]?=if off+i * 2≤k∧k<off+i * 2+2 then [x0,x1][k - (off+i * 2)]? else c1[k]?:=fun k=>by rw [hc2,over_at _ _ _ (by simp; omega)]; rfl
 have e1:∀k,c1[k]?=if off+(i+1) * 2≤k∧k<off+(i+1) * 2+(n - i) * 2 then (cut2 cc (off+i * 2) ((n - i) * 2))[k - (off+(i+1) * 2)]? else cc[k]?:=fun k=>by rw [hc1,over_at _ _ _ (by rw [l1]; omega),l1]
 refine ⟨b,off,c,c2,tt,rfl,hnc,hq2,?_,fun k hk=>?_,?_,?_,fun k hk=>?_,⟨by rw [hW1]; rfl,by rw [hW1]; rfl,by rw [hW1]; rfl,by rw [hW1]; simp,fun q hq hne=>?_⟩,.inl rfl⟩
 ·rw [hc2,over_size _ _ _ (by simp; omega),hs1]; exact hfit
 ·rw [e2,if_neg (by omega),e1,if_neg (by omega)]
 ·rw [e2,if_pos (by omega),Nat.sub_self]; rfl
 ·rw [e2,if_pos (by omega),show off+i * 2+1 - (off+i * 2)=1 by omega]; rfl
 ·rw [e2,if_neg (by omega),e1,if_pos (by omega),show off+(i+1) * 2+k - (off+(i+1) * 2)=k by omega,cut2_at _ _ _ _ hk (by omega)]
 ·have hqb:q ≠ b:=fun e=>hne (by rw [e])
  rw [setRow_other _ _ _ _ hqb,hW1,setRow_other _ _ _ _ hqb]
  rfl
set_option maxHeartbeats 4000000 in
set_option maxRecDepth 100000 in
theorem ins_end (b off n c vb vo vc:Nat) (cc vv:Array Value) (tt vt:TypeId) (x0 x1:Value) (w:World) (hw:w.heap[b]?=some (.cells cc tt (0,0))) (hv:w.heap[vb]?=some (.cells vv vt (0,0))) (hx0:vv[vo]?=some x0) (hx1:vv[vo+1]?=some x1)
  (hnc:n≤c) (hfit:off+c * 2≤cc.size) (hbig:(n+1) * 16≤140737488355328) (h10:x0.oneCell'=true) (h11:x1.oneCell'=true) :
  Calls Tryz.prog 129 #[.slice (some ⟨b,off,none⟩) n c,.int .i64 (n:Int),.slice (some ⟨vb,vo,none⟩) 1 vc] w (InsPost b off n n cc x0 x1 w):=by
 have mixed:=Go.Proofs.YtpbdohkbiklflaaGreatDoor.mixed
 obtain ⟨i0,hi0,hz0,hzs,hzb⟩:=info_parts (show (Tryz.prog.info? 82).map (fun i=>(i.zero,i.size,i.bytes))=some (some (.agg #[.int .i64 0,.int .i64 0]),2,16) by kernel_rfl)
 have hd:∀d,d∈(DV.agg [.int .i64 0,.int .i64 0]).cells→d.isCell=true:=by intro d hd; simp [DV.cells] at hd; subst hd; rfl
 have hrow:RowG w (.slice (some ⟨b,off,none⟩) n c) i0.size (List.replicate n (DV.agg [.int .i64 0,.int .i64 0])) (fun i j _ u=>cc[off+i * 2+j]?=some u):=by
  refine .inr ⟨b,off,c,cc,tt,by simp,by simpa using hnc,hw,by rw [hzs]; exact hfit,fun i x hx=>?_⟩
  have hlt:i<n:=by have:=(List.getElem?_eq_some_iff.1 hx).1; simpa using this
  have hx':=List.mem_of_getElem? hx
  rw [List.eq_of_mem_replicate hx']
  refine ⟨by rw [hzs]; rfl,fun j d hj=>⟨hd d (List.mem_of_getElem? hj),?_⟩⟩
  have hj2:j<2:=(List.getElem?_eq_some_iff.1 hj).1
  rw [hzs]
  exact ⟨_,Array.getElem?_eq_getElem (by omega),Array.getElem?_eq_getElem (by omega)⟩
 have hsrc:SrcG w (.slice (some ⟨vb,vo,none⟩) 1 vc) i0.size [DV.agg [.int .i64 0,.int .i64 0]] (fun _ j _ u=>(j=0→u=x0)∧(j=1→u=x1)):=by
  refine .inr ⟨⟨vb,vo,none⟩,vc,fun _ j=>if j=0 then x0 else x1,rfl,fun i x hx=>?_⟩
  match i,hx with
  | 0,hx =>
   simp at hx; subst hx
   refine ⟨by rw [hzs]; rfl,fun j d hj=>⟨hd d (List.mem_of_getElem? hj),?_⟩⟩
   have hj2:j<2:=(List.getElem?_eq_some_iff.1 hj).1
   rw [add_at,cell_row hv]
   match j,hj2 with
   | 0,_=>exact ⟨by simpa using hx0,h10,fun _=>rfl,by simp⟩
   | 1,_=>exact ⟨by simpa using hx1,h11,by simp,fun _=>rfl⟩
  | i+1,hx=>simp at hx
 have happ:∀ty,∃v' w',(Builtin.append_ #[65,65] ty #[.slice (some ⟨b,off,none⟩) n c,.slice (some ⟨vb,vo,none⟩) 1 vc]).run Tryz.prog w=.ok v' w'∧InsPost b off n n cc x0 x1 w (.returned v') w':=fun ty=>by
  obtain ⟨v',w',r1,r2,r3,r4,_⟩:=append_row (P:=Tryz.prog) (ty:=ty) Tryz.underlying65 hi0 hz0 (by rw [hzs]; rfl) (by rw [hzs]; omega) hrow hsrc (by simp; omega) (by rw [hzb]; simp; omega)
  refine ⟨v',w',r1,?_⟩
  rcases r2 with ⟨h,_⟩ | ⟨g,o,cp,c',t',rfl,k1,k2,k3,k4⟩
  ·simp at h
  ·have key:∀i j,i<n+1→j<2→∃u,c'[o+i * 2+j]?=some u∧joinR n (fun i j _ u=>cc[off+i * 2+j]?=some u) (fun _ j _ u=>(j=0→u=x0)∧(j=1→u=x1)) i j (.int .i64 0) u:=by
    intro i j hi hj
    have hx:(List.replicate n (DV.agg [.int .i64 0,.int .i64 0])++[DV.agg [.int .i64 0,.int .i64 0]])[i]?=some (DV.agg [.int .i64 0,.int .i64 0]):=by
     rw [←List.replicate_succ',List.getElem?_replicate,if_pos hi]
    obtain ⟨_,q⟩:=k4 i _ hx
    obtain ⟨_,u,q1,q2⟩:=q j (.int .i64 0) (by
     match j,hj with
     | 0,_=>rfl
     | 1,_=>rfl)
    rw [hzs] at q1
    rw [List.length_replicate] at q2
    exact ⟨u,q1,q2⟩
   have hb:g=b ∨ w.heap.size≤g:=by
    rcases r4 g rfl with h | h
    ·exact .inr h
    ·left; simpa [blk] using h.symm
   rw [hzs] at k3
   refine ⟨g,o,cp,c',t',by simp,by simpa using k1,k2,k3,fun k hk=>?_,?_,?_,fun k hk=>by omega,r3,hb⟩
   ·obtain ⟨u,q1,q2⟩:=key (k / 2) (k % 2) (by omega) (by omega)
    unfold joinR at q2
    rw [if_pos (by omega)] at q2
    rw [show o+k=o+k / 2 * 2+k % 2 by omega,show off+k=off+k / 2 * 2+k % 2 by omega,q1,q2]
   ·obtain ⟨u,q1,q2⟩:=key n 0 (by omega) (by omega)
    unfold joinR at q2
    rw [if_neg (by omega)] at q2
    rw [Nat.add_zero] at q1
    rw [q1,q2.1 rfl]
   ·obtain ⟨u,q1,q2⟩:=key n 1 (by omega) (by omega)
    unfold joinR at q2
    rw [if_neg (by omega)] at q2
    rw [q1,q2.2 rfl]
 obtain ⟨v',W',hr,hpost⟩:=happ 65
 have hin:n≤n:=Nat.le_refl _
 clear happ hsrc hrow
 go_enter Tryz.func129,Tryz.ntmps129
 go_wp2_with (at_builtin; refine Lib.wpList_append_run _ rfl _ _ _ _ rfl _ _ rfl rfl _ _ hr ?_)
 all_goals (go_ret; exact hpost)
set_option maxHeartbeats 4000000 in
set_option maxRecDepth 100000 in
theorem ins_grow (b off n i vb vo vc:Nat) (cc vv:Array Value) (tt vt:TypeId) (x0 x1:Value) (w:World) (hw:w.heap[b]?=some (.cells cc tt (0,0))) (hv:w.heap[vb]?=some (.cells vv vt (0,0))) (hx0:vv[vo]?=some x0) (hx1:vv[vo+1]?=some x1)
  (hi:i<n) (hfit:off+n * 2≤cc.size) (hbig:(n+1) * 16≤140737488355328)
  (h1:∀k v,off≤k→k<off+n * 2→cc[k]?=some v→v.oneCell'=true) (h10:x0.oneCell'=true) (h11:x1.oneCell'=true) :
  Calls Tryz.prog 129 #[.slice (some ⟨b,off,none⟩) n n,.int .i64 (i:Int),.slice (some ⟨vb,vo,none⟩) 1 vc] w (InsPost b off n i cc x0 x1 w):=by
 have mixed:=Go.Proofs.YtpbdohkbiklflaaGreatDoor.mixed
 obtain ⟨i0,hi0,hz0,hzs,hzb⟩:=info_parts (show (Tryz.prog.info? 82).map (fun i=>(i.zero,i.size,i.bytes))=some (some (.agg #[.int .i64 0,.int .i64 0]),2,16) by kernel_rfl)
 have hwd:w.drew.heap[b]?=some (.cells cc tt (0,0)):=hw
 have hbw:b<w.heap.size:=(Array.getElem?_eq_some_iff.1 hw).1
 have hvw:vb<w.heap.size:=(Array.getElem?_eq_some_iff.1 hv).1
 have l0:=cut2_len cc off (i * 2)
 have l1:=cut2_len cc (off+i * 2) ((n - i) * 2)
 have hold:(Builtin.firstCells i0.size i (.slice (some ⟨b,off,none⟩) i n)).run Tryz.prog w.drew=.ok (cut2 cc off (i * 2)).toArray w.drew :=
  run_firstCells_some w.drew i0.size i ⟨b,off,none⟩ i n _ (by rw [l0,hzs]) (fun j u hu=>by
   have hj:j<i * 2:=by have:=(List.getElem?_eq_some_iff.1 hu).1; rwa [l0] at this
   rw [cut2_at cc _ _ j hj (by omega)] at hu
   rw [add_at,cell_row hwd]; exact hu)
 have hik:i+(n+1 - i)=n+1:=by omega
 have hkk:(n:Int)+1 - (i:Int)=((n+1 - i:Nat):Int):=by omega
 obtain ⟨G,hG⟩:∃G,G=grownCap w (n+1) n 82:=⟨_,rfl⟩
 obtain ⟨ROW,hROW⟩:∃ROW:Array Value,ROW=(cut2 cc off (i * 2)).toArray++Builtin.zeroCells (Value.agg #[.int .i64 0,.int .i64 0]).cells (n+1 - i)++Builtin.zeroCells (Value.agg #[.int .i64 0,.int .i64 0]).cells (G - (n+1)):=⟨_,rfl⟩
 have hrz:∀ty,(Builtin.append_ #[65,3] ty #[.slice (some ⟨b,off,none⟩) i n,.int .i64 ((n:Int)+1 - (i:Int))]).run Tryz.prog w=.ok (.slice (some ⟨w.heap.size,0,none⟩) (n+1) G) (w.drew.alloc (.cells ROW 82)):=fun ty=>by
  have h:=Lib.run_append_grow_zeros (P:=Tryz.prog) (ty:=ty) w 65 3 82 i0 _ .i64 .i64 Tryz.underlying65 Tryz.underlying3 hi0 hz0 (some ⟨b,off,none⟩) i n _ hold (n+1 - i) (by omega) (by rw [hzs]; omega) (by omega) (by omega) (by rw [hzb]; omega) (by rw [hzb,hik]; exact growslice_fits (by omega) hbig)
  rw [hik,←hG] at h
  rw [hkk,hROW]
  exact h
 have hGn:n+1≤G:=by rw [hG]; exact grownCap_ge w _ _ _
 have hG63:G≤9223372036854775807:=by
  have:=grownCap_le_maxLen w (n+1) n 82 (by unfold maxLen; omega)
  rw [←hG] at this
  unfold maxLen at this
  omega
 have hz2:∀m,(Builtin.zeroCells (Value.agg #[.int .i64 0,.int .i64 0]).cells m).size=m * 2:=fun m=>by simp [Builtin.zeroCells,Value.cells]
 have hRs:ROW.size=G * 2:=by rw [hROW]; simp only [Array.size_append,List.size_toArray,l0,hz2]; omega
 obtain ⟨W1,hW1⟩:∃W1,W1=w.drew.alloc (.cells ROW 82):=⟨_,rfl⟩
 have hN1:W1.heap[w.heap.size]?=some (.cells ROW 82 (0,0)):=by rw [hW1]; exact heap_alloc_at w.drew _
 have hv1:W1.heap[vb]?=some (.cells vv vt (0,0)):=by rw [hW1,heap_alloc_lt w.drew _ hvw]; exact hv
 have hb1:W1.heap[b]?=some (.cells cc tt (0,0)):=by rw [hW1,heap_alloc_lt w.drew _ hbw]; exact hw
 obtain ⟨r1,hr1⟩:∃r1,r1=over ROW (i * 2) [x0,x1]:=⟨_,rfl⟩
 have hs1:r1.size=G * 2:=by rw [hr1,over_size _ _ _ (by simp; omega),hRs]
 have hcpA:∀ty dc,(Builtin.copy_ #[65,65] ty #[.slice (some ⟨w.heap.size,i * 2,none⟩) (n+1 - i) dc,.slice (some ⟨vb,vo,none⟩) 1 vc]).run Tryz.prog W1=.ok (goInt (1:Nat)) (W1.setRow w.heap.size r1):=fun ty dc=>by
  rw [hr1]
  refine run_copy_row 65 82 ty i0 Tryz.underlying65 hi0 hN1 _ _ dc ⟨vb,vo,none⟩ _ vc 1 _ (by simp only [Nat.min_def]; split <;> omega) (fun j u hu=>?_) (by simp [hzs]) (fun u hu=>?_) (by simp; omega)
  ·rw [add_at,cell_row hv1]
   match j,hu with
   | 0,hu=>simp at hu; subst hu; exact hx0
   | 1,hu=>simp at hu; subst hu; exact hx1
   | j+2,hu=>simp at hu
  ·simp at hu
   rcases hu with rfl | rfl
   ·exact h10
   ·exact h11
 obtain ⟨W2,hW2⟩:∃W2,W2=W1.setRow w.heap.size r1:=⟨_,rfl⟩
 have hN2:W2.drew.heap[w.heap.size]?=some (.cells r1 82 (0,0)):=by rw [hW2]; exact setRow_heap W1 _ ROW _ _ _ hN1
 have hb2:W2.drew.heap[b]?=some (.cells cc tt (0,0)):=by
  show W2.heap[b]?=_
  rw [hW2,setRow_other _ _ _ _ (by omega)]; exact hb1
 obtain ⟨r2,hr2⟩:∃r2,r2=over r1 ((i+1) * 2) (cut2 cc (off+i * 2) ((n - i) * 2)):=⟨_,rfl⟩
 have hcpB:∀ty dc sc,(Builtin.copy_ #[65,65] ty #[.slice (some ⟨w.heap.size,(i+1) * 2,none⟩) (n - i) dc,.slice (some ⟨b,off+i * 2,none⟩) (n - i) sc]).run Tryz.prog W2.drew=.ok (goInt (n - i:Nat)) (W2.drew.setRow w.heap.size r2):=fun ty dc sc=>by
  rw [hr2]
  refine run_copy_row 65 82 ty i0 Tryz.underlying65 hi0 hN2 _ _ dc ⟨b,off+i * 2,none⟩ _ sc (n - i) _ (by simp only [Nat.min_def]; split <;> omega) (fun j u hu=>?_) (by rw [l1,hzs]) (fun u hu=>?_) (by rw [l1]; omega)
  ·have hj:j<(n - i) * 2:=by have:=(List.getElem?_eq_some_iff.1 hu).1; rwa [l1] at this
   rw [cut2_at cc _ _ j hj (by omega)] at hu
   rw [add_at,cell_row hb2]; exact hu
  ·obtain ⟨k,hk,rfl⟩:=List.getElem_of_mem hu
   have hk':k<(n - i) * 2:=by rwa [l1] at hk
   have h2:=cut2_at cc (off+i * 2) ((n - i) * 2) k hk' (by omega)
   rw [List.getElem?_eq_getElem hk] at h2
   exact h1 (off+i * 2+k) _ (by omega) (by omega) h2.symm
 have eW1:Hid (W1=w.drew.alloc (.cells ROW 82)):=hW1
 have eW2:Hid (W2=W1.setRow w.heap.size r1):=hW2
 have eR:Hid (ROW=(cut2 cc off (i * 2)).toArray++Builtin.zeroCells (Value.agg #[.int .i64 0,.int .i64 0]).cells (n+1 - i)++Builtin.zeroCells (Value.agg #[.int .i64 0,.int .i64 0]).cells (G - (n+1))):=hROW
 have er1:Hid (r1=over ROW (i * 2) [x0,x1]):=hr1
 have er2:Hid (r2=over r1 ((i+1) * 2) (cut2 cc (off+i * 2) ((n - i) * 2))):=hr2
 rw [←hW1] at hrz
 rw [←hW2] at hcpA
 have eN2:Hid (W2.drew.heap[w.heap.size]?=some (.cells r1 82 (0,0))):=hN2
 clear hW1 hW2 hROW hr1 hr2 hG hold hkk hik hN1 hv1 hb1 hN2 hb2
 have hz1:¬ ((i:Int)=(n:Int)):=by omega
 have hw1:IntKind.i64.wrap ((i:Int)+1)=(i:Int)+1:=by rw [IntKind.wrap_i64]; omega
 have hw2:IntKind.i64.wrap ((n:Int)+1)=(n:Int)+1:=by rw [IntKind.wrap_i64]; omega
 have hw3:IntKind.i64.wrap ((n:Int)+1 - (i:Int))=(n:Int)+1 - (i:Int):=by rw [IntKind.wrap_i64]; omega
 have hb1:(0:Int)≤(i:Int)+1:=by omega
 have hin:i≤n:=by omega
 have hb2:¬ (G=i+1):=by omega
 have hb3:(i:Int)≤(n:Int)+1:=by omega
 have hb4:¬ (G=i):=by omega
 have hb5:¬ (n=i):=by omega
 have hb7:(i:Int)+1≤(n:Int)+1:=by omega
 have hb8:(n:Int)<(n:Int)+1:=by omega
 have hb9:(i:Int)≤(n:Int):=by omega
 go_enter Tryz.func129,Tryz.ntmps129
 go_wp2_with (first
  | (at_builtin; refine Lib.wpList_append_run _ rfl _ _ _ _ rfl _ _ rfl rfl _ _ (hrz _) ?_)
  | (at_builtin; refine wpList_copy_runI _ rfl _ _ 65 65 rfl _ _ rfl rfl (hcpA _ _) ?_))
 go_region_law_o (refine step_copy_runI rfl _ _ 65 65 rfl _ _ (by simp [Act.eval,Act.put]) (by simp [Act.eval,Act.put]) (hcpB _ _ _) ?_)
 go_wp2
 go_ret
 have hW1:=eW1.out
 have hW2:=eW2.out
 have hr1:=er1.out
 have hr2:=er2.out
 have e2:∀k,r2[k]?=if (i+1) * 2≤k∧k<(i+1) * 2+(n - i) * 2 then (cut2 cc (off+i * 2) ((n - i) * 2))[k - (i+1) * 2]? else r1[k]?:=fun k=>by rw [hr2,over_at _ _ _ (by rw [l1]; omega),l1]
 have e1:∀k,r1[k]?=if i * 2≤k∧k<i * 2+2 then [x0,x1][k - i * 2]? else ROW[k]?:=fun k=>by rw [hr1,over_at _ _ _ (by simp; omega)]; rfl
 refine ⟨w.heap.size,0,G,r2,82,rfl,hGn,setRow_heap W2.drew _ r1 _ _ _ eN2.out,?_,fun k hk=>?_,?_,?_,fun k hk=>?_,⟨by rw [hW2,hW1]; rfl,by rw [hW2,hW1]; rfl,by rw [hW2,hW1]; rfl,by rw [hW2,hW1]; simp,fun q hq hne=>?_⟩,.inr (Nat.le_refl _)⟩
 ·rw [hr2,over_size _ _ _ (by rw [l1]; omega),hs1]; omega
 ·rw [Nat.zero_add,e2,if_neg (by omega),e1,if_neg (by omega),eR.out,Array.getElem?_append,if_pos (by simp only [Array.size_append,List.size_toArray,l0,hz2]; omega),Array.getElem?_append,if_pos (by simp only [List.size_toArray,l0]; omega),List.getElem?_toArray,cut2_at _ _ _ _ hk (by omega)]
 ·rw [Nat.zero_add,e2,if_neg (by omega),e1,if_pos (by omega),Nat.sub_self]; rfl
 ·rw [Nat.zero_add,e2,if_neg (by omega),e1,if_pos (by omega),show i * 2+1 - i * 2=1 by omega]; rfl
 ·rw [Nat.zero_add,e2,if_pos (by omega),show (i+1) * 2+k - (i+1) * 2=k by omega,cut2_at _ _ _ _ hk (by omega)]
 ·have hqb:q ≠ w.heap.size:=by omega
  rw [setRow_other _ _ _ _ hqb]
  show W2.heap[q]?=_
  rw [hW2,setRow_other _ _ _ _ hqb,hW1,heap_alloc_lt w.drew _ hq]
  rfl
end Go.Proofs.YtpbdohkbiklflaaGreatDoor
namespace Go.Proofs.YtpbdohkbiklflaaGreatDoor
open Go.TM Go.RowKit
variable [KObj]
theorem int_of {M:Mem} {h:Option Value} {n:Int} {u:Value} (r:CellR M h (I n) u):u=.int .i64 n:=by
 rcases r with ⟨a,_⟩ | ⟨_,r⟩
 ·cases a
 ·cases r; rfl
theorem rowR_out {M:Mem} {w:World} {v:Value} {hc:PS→Option Value} {l:List Rk} (h:NodeAt M w v hc (.osl 2 (l.map eR))) (hl:l ≠ []) :
  ∃b off c cc tt,v=.slice (some ⟨b,off,none⟩) l.length c∧l.length≤c∧w.heap[b]?=some (.cells cc tt (0,0))∧off+c * 2≤cc.size∧∀i y,l[i]?=some y→cc[off+i * 2]?=some (.int .i64 y.1)∧cc[off+i * 2+1]?=some (.int .i64 y.2):=by
 rcases h with ⟨h,_⟩ | ⟨b,off,c,cc,tt,rfl,h1,h2,h3,h4⟩
 ·simp at h; exact absurd h hl
 ·refine ⟨b,off,c,cc,tt,by rw [List.length_map],by simpa using h1,h2,h3,fun i y hy=>?_⟩
  obtain ⟨_,q⟩:=h4 i (eR y) (by rw [List.getElem?_map,hy]; rfl)
  obtain ⟨_,u,e1,e2⟩:=q 0 (I y.1) rfl
  obtain ⟨_,u',e3,e4⟩:=q 1 (I y.2) rfl
  rw [int_of e2] at e1
  rw [int_of e4] at e3
  exact ⟨e1,e3⟩
theorem rowR_in {M:Mem} {w:World} {g o cp:Nat} {c:Array Value} {t:TypeId} {l:List Rk} (h1:l.length≤cp) (h2:w.heap[g]?=some (.cells c t (0,0))) (h3:o+cp * 2≤c.size)
  (h4:∀i y,l[i]?=some y→c[o+i * 2]?=some (.int .i64 y.1)∧c[o+i * 2+1]?=some (.int .i64 y.2)) :
  RowG w (.slice (some ⟨g,o,none⟩) l.length cp) 2 (l.map eR) (fun _ _ d u=>d.owning=false∧DRel M d u):=by
 refine .inr ⟨g,o,cp,c,t,by rw [List.length_map],by simpa using h1,h2,h3,fun i x hx=>?_⟩
 rw [List.getElem?_map] at hx
 cases hy:l[i]? with
 | none=>rw [hy] at hx; simp at hx
 | some y =>
  rw [hy] at hx; simp at hx; subst hx
  obtain ⟨e1,e2⟩:=h4 i y hy
  refine ⟨rfl,fun j d hd=>?_⟩
  match j,hd with
  | 0,hd=>simp [eR,DV.cells] at hd; subst hd; exact ⟨rfl,_,e1,rfl,.int _ _⟩
  | 1,hd=>simp [eR,DV.cells] at hd; subst hd; exact ⟨rfl,_,e2,rfl,.int _ _⟩
  | j+2,hd=>simp [eR,DV.cells] at hd
theorem rowR_one {cc:Array Value} {off n:Nat} {l:List Rk} (hn:n=l.length) (h:∀i y,l[i]?=some y→cc[off+i * 2]?=some (.int .i64 y.1)∧cc[off+i * 2+1]?=some (.int .i64 y.2)) :
  ∀k v,off≤k→k<off+n * 2→cc[k]?=some v→v.oneCell'=true:=by
 intro k v h1 h2 h3
 obtain ⟨e1,e2⟩:=h ((k - off) / 2) _ (List.getElem?_eq_getElem (by omega))
 rcases Nat.mod_two_eq_zero_or_one (k - off) with h4 | h4
 ·rw [show off+(k - off) / 2 * 2=k by omega,h3] at e1; injection e1 with e1; subst e1; rfl
 ·rw [show off+(k - off) / 2 * 2+1=k by omega,h3] at e2; injection e2 with e2; subst e2; rfl
theorem insR_at (l:List Rk) (k:Nat) (x:Rk) (hk:k≤l.length) (i:Nat):(insR l k x)[i]?=if i<k then l[i]? else if i=k then some x else l[i - 1]?:=by
 unfold insR
 have ht:(l.take k).length=k:=by simp; omega
 rw [List.getElem?_append,ht]
 by_cases h1:i<k
 ·rw [if_pos h1,if_pos h1,List.getElem?_take,if_pos h1]
 ·rw [if_neg h1,if_neg h1]
  by_cases h2:i=k
  ·subst h2; simp
  ·rw [if_neg h2,show i - k=(i - 1 - k)+1 by omega,List.getElem?_cons_succ,List.getElem?_drop,show k+(i - 1 - k)=i - 1 by omega]
theorem insR_len (l:List Rk) (k:Nat) (x:Rk) (hk:k≤l.length):(insR l k x).length=l.length+1:=by simp [insR]; omega
theorem delR_at (l:List Rk) (k:Nat) (hk:k<l.length) (i:Nat):(delR l k)[i]?=if i<k then l[i]? else l[i+1]?:=by
 unfold delR
 have ht:(l.take k).length=k:=by simp; omega
 rw [List.getElem?_append,ht]
 by_cases h1:i<k
 ·rw [if_pos h1,if_pos h1,List.getElem?_take,if_pos h1]
 ·rw [if_neg h1,if_neg h1,List.getElem?_drop,show k+1+(i - k)=i+1 by omega]
theorem delR_len (l:List Rk) (k:Nat) (hk:k<l.length):(delR l k).length=l.length - 1:=by simp [delR]; omega
theorem insF_spec {D:DV} {p:List PS} {l:List Rk} (hp:get D p=some (.osl 2 (l.map eR))) (hne:p ≠ []) (x:Rk) (k:Nat) (hk:k≤l.length) (hl:l ≠ []) (hlen:l.length≤1000) :
  CSpec Tryz.prog 129 [.own 0 0 0 p,.dv (I k),.own 1 0 0 []] 2 [(0,.tree 0 0 D),(1,.tree 0 0 (.osl 2 [eR x]))] 1 [.own 2 1 0 []]
   [(2,.tree 1 0 (.osl 2 ((insR l k x).map eR))),(0,.tree 0 0 (setP D p .any)),(1,.tree 0 0 (.osl 2 [eR x]))]:=by
 refine cspec_row ⟨_,Tryz.func129,by kernel_rfl,rfl⟩ hp hne (by omega) (fun i hi=>by simp only [lookB]; rw [TM.beq_false (show i ≠ 1 by omega)]; rfl) (closedR _) ?_
 intro w G v xs hfit hu hnode hr
 obtain ⟨v0,v1,rfl⟩:∃v0 v1,xs=[v0,v1]:=by
  match xs,hr.1 with
  | [a,b],_=>exact ⟨a,b,rfl⟩
 have r0:=hr.2 0 _ v0 rfl rfl
 have r1:=hr.2 1 _ v1 rfl rfl
 cases r0 with | dv r0=>cases r0 with | int =>
 cases r1 with | own _ _ _ _ _ hh hc =>
 obtain ⟨b,off,c,cc,tt,rfl,hc1,hw,hfit2,hrow⟩:=rowR_out hnode hl
 obtain ⟨u1,hu1,_,hn1⟩:=hfit.node (i:=1) (ver:=0) (ep:=0) (d:=.osl 2 [eR x]) (p:=[]) rfl rfl rfl
 rw [hu1] at hh; injection hh with hh; subst hh
 obtain ⟨vb,vo,vc,vv,vt,rfl,_,hv,_,hvx⟩:=rowR_out (l:=[x]) hn1 (by simp)
 obtain ⟨hx0,hx1⟩:=hvx 0 x rfl
 simp only [Nat.zero_mul,Nat.add_zero] at hx0 hx1
 have hvb:vb ≠ b:=by
  rintro rfl
  have h0:Own G 0 (lookB [(0,Box.tree 0 0 D),(1,Box.tree 0 0 (.osl 2 [eR x]))] 0) vb:=⟨p,_,_,hp,rfl,hu,rfl⟩
  have h1:Own G 1 (lookB [(0,Box.tree 0 0 D),(1,Box.tree 0 0 (.osl 2 [eR x]))] 1) vb:=⟨[],_,_,rfl,rfl,hu1,rfl⟩
  have:=hfit.inj 0 1 vb h0 h1
  cases this
 have hone:=rowR_one rfl hrow
 have hpost:∀e w',InsPost b off l.length k cc (.int .i64 x.1) (.int .i64 x.2) w e w'→∃v',e=.returned v'∧v'.oneCell'=true∧w.grownBy w' (some b)∧RowG w' v' 2 ((insR l k x).map eR) (fun _ _ d u=>d.owning=false∧DRel G.M d u)∧∀q,blk v'=some q→some b=some q ∨ w.heap.size≤q:=by
  rintro e w' ⟨g,o,cp,c',t',rfl,p1,p2,p3,p4,p5,p6,p7,p8,p9⟩
  refine ⟨_,rfl,rfl,p8,?_,fun q hq=>?_⟩
  ·have hL:=insR_len l k x hk
   rw [←hL]
   refine rowR_in (by rw [hL]; exact p1) p2 p3 fun i y hy=>?_
   rw [insR_at l k x hk] at hy
   by_cases h1:i<k
   ·rw [if_pos h1] at hy
    obtain ⟨e1,e2⟩:=hrow i y hy
    rw [p4 (i * 2) (by omega),Nat.add_assoc,p4 (i * 2+1) (by omega),←Nat.add_assoc]
    exact ⟨e1,e2⟩
   ·rw [if_neg h1] at hy
    by_cases h2:i=k
    ·subst h2; rw [if_pos rfl] at hy; injection hy with hy; subst hy; exact ⟨p5,p6⟩
    ·rw [if_neg h2] at hy
     have hlt:=(List.getElem?_eq_some_iff.1 hy).1
     obtain ⟨e1,e2⟩:=hrow _ y hy
     have q1:=p7 ((i - 1 - k) * 2) (by omega)
     have q2:=p7 ((i - 1 - k) * 2+1) (by omega)
     rw [show o+(k+1) * 2+(i - 1 - k) * 2=o+i * 2 by omega,show off+k * 2+(i - 1 - k) * 2=off+(i - 1) * 2 by omega] at q1
     rw [show o+(k+1) * 2+((i - 1 - k) * 2+1)=o+i * 2+1 by omega,show off+k * 2+((i - 1 - k) * 2+1)=off+(i - 1) * 2+1 by omega] at q2
     exact ⟨q1.trans e1,q2.trans e2⟩
  ·simp only [blk,Option.some.injEq] at hq
   subst hq
   rcases p9 with h | h
   ·exact .inl (by rw [h])
   ·exact .inr h
 rcases Nat.lt_or_ge k l.length with hlt | hge
 ·rcases Nat.lt_or_ge l.length c with hroom | hfull
  ·exact (ins_shift b off l.length c k vb vo vc cc vv tt vt _ _ w hw hv hx0 hx1 hvb hroom hlt hfit2 (by omega) hone rfl rfl).mono fun e w' h=>hpost e w' h
  ·obtain rfl:c=l.length:=by omega
   exact (ins_grow b off l.length k vb vo vc cc vv tt vt _ _ w hw hv hx0 hx1 hlt hfit2 (by omega) hone rfl rfl).mono fun e w' h=>hpost e w' h
 ·obtain rfl:k=l.length:=by omega
  exact (ins_end b off l.length c vb vo vc cc vv tt vt _ _ w hw hv hx0 hx1 hc1 hfit2 (by omega) rfl rfl).mono fun e w' h=>hpost e w' h
theorem delF_spec {D:DV} {p:List PS} {l:List Rk} (hp:get D p=some (.osl 2 (l.map eR))) (hne:p ≠ []) (k:Nat) (hk:k<l.length) (hlen:l.length≤1000) :
  CSpec Tryz.prog 127 [.own 0 0 0 p,.dv (I k),.dv (I ((k:Int)+1))] 1 [(0,.tree 0 0 D)] 1 [.own 1 1 0 []]
   [(1,.tree 1 0 (.osl 2 ((delR l k).map eR))),(0,.tree 0 0 (setP D p .any))]:=by
 have hl:l ≠ []:=by rintro rfl; simp at hk
 refine cspec_row (K3:=[]) ⟨_,Tryz.func127,by kernel_rfl,rfl⟩ hp hne (by omega) (fun i hi=>rfl) (closedR _) ?_
 intro w G v xs hfit hu hnode hr
 obtain ⟨v0,v1,rfl⟩:∃v0 v1,xs=[v0,v1]:=by
  match xs,hr.1 with
  | [a,b],_=>exact ⟨a,b,rfl⟩
 have r0:=hr.2 0 _ v0 rfl rfl
 have r1:=hr.2 1 _ v1 rfl rfl
 cases r0 with | dv r0=>cases r0 with | int =>
 cases r1 with | dv r1=>cases r1 with | int =>
 obtain ⟨b,off,c,cc,tt,rfl,hc1,hw,hfit2,hrow⟩:=rowR_out hnode hl
 refine (delR_calls b off l.length c k cc tt w hw hc1 hk hfit2 (by omega) (rowR_one rfl hrow)).mono ?_
 rintro e w' ⟨rfl,c',p1,p2,p3,p4,p5⟩
 refine ⟨_,rfl,rfl,p5,?_,fun q hq=>.inl hq⟩
 have hL:=delR_len l k hk
 rw [←hL]
 refine rowR_in (by omega) p1 (by omega) fun i y hy=>?_
 rw [delR_at l k hk] at hy
 by_cases h1:i<k
 ·rw [if_pos h1] at hy
  obtain ⟨e1,e2⟩:=hrow i y hy
  rw [p3 (i * 2) (by omega),Nat.add_assoc,p3 (i * 2+1) (by omega),←Nat.add_assoc]
  exact ⟨e1,e2⟩
 ·rw [if_neg h1] at hy
  have hlt:=(List.getElem?_eq_some_iff.1 hy).1
  obtain ⟨e1,e2⟩:=hrow _ y hy
  have q1:=p4 ((i - k) * 2) (by omega)
  have q2:=p4 ((i - k) * 2+1) (by omega)
  rw [show off+k * 2+(i - k) * 2=off+i * 2 by omega,show off+(k+1) * 2+(i - k) * 2=off+(i+1) * 2 by omega] at q1
  rw [show off+k * 2+((i - k) * 2+1)=off+i * 2+1 by omega,show off+(k+1) * 2+((i - k) * 2+1)=off+(i+1) * 2+1 by omega] at q2
  exact ⟨q1.trans e1,q2.trans e2⟩
theorem delB_spec {D:DV} {p:List PS} {y:DV} (hp:get D p=some (.osl 1 [y])) (hy:y.owning=true) (hne:p ≠ []) :
  CSpec Tryz.prog 128 [.own 0 0 0 p,.dv (I 0),.dv (I 1)] 1 [(0,.tree 0 0 D)] 1 [.own 1 1 0 []]
   [(1,.tree 1 0 (.osl 1 [])),(0,.tree 0 0 (setP D p .any))]:=by
 refine cspec_row (K3:=[]) ⟨_,Tryz.func128,by kernel_rfl,rfl⟩ hp hne (by omega) (fun i hi=>rfl) (by simp) ?_
 intro w G v xs hfit hu hnode hr
 obtain ⟨v0,v1,rfl⟩:∃v0 v1,xs=[v0,v1]:=by
  match xs,hr.1 with
  | [a,b],_=>exact ⟨a,b,rfl⟩
 have r0:=hr.2 0 _ v0 rfl rfl
 have r1:=hr.2 1 _ v1 rfl rfl
 cases r0 with | dv r0=>cases r0 with | int =>
 cases r1 with | dv r1=>cases r1 with | int =>
 have hyc:y.cells=[y]:=by cases y <;> first | rfl | cases hy
 rcases hnode with ⟨h,_⟩ | ⟨b,off,c,cc,tt,rfl,hc1,hw,hfit2,hrow⟩
 ·simp at h
 ·obtain ⟨_,q⟩:=hrow 0 y rfl
  obtain ⟨_,u,e1,e2⟩:=q 0 y (by rw [hyc]; rfl)
  have hu1:u.oneCell'=true:=by
   rcases e2 with ⟨_,e2⟩ | ⟨e2,_⟩
   ·have hst:TM.step (.osl 1 [y]) (.el 0 0)=some y:=by show y.cells[0]?=some y; rw [hyc]; rfl
    have e2':hdr G.H 0 0 0 (p++[.el 0 0])=some u:=e2
    obtain ⟨u',f1,f2,_⟩:=hfit.node (i:=0) (ver:=0) (ep:=0) (d:=D) (p:=p++[.el 0 0]) (nd:=y) rfl (by rw [get_append,hp]; simp only [TM.get,hst]) hy
    rw [e2'] at f1; injection f1 with f1; subst f1; exact f2
   ·rw [hy] at e2; cases e2
  simp only [Nat.zero_mul,Nat.add_zero] at e1
  have:=delB_calls b off 1 c 0 cc tt w hw (by simpa using hc1) (by omega) (by simpa using hfit2) (by omega) (fun k v h1 h2 h3=>by
   obtain rfl:k=off:=by omega
   rw [e1] at h3; injection h3 with h3; subst h3; exact hu1)
  refine this.mono ?_
  rintro e w' ⟨rfl,c',p1,p2,p3,p4,p5⟩
  refine ⟨_,rfl,rfl,p5,?_,fun q hq=>.inl hq⟩
  exact .inr ⟨b,off,c,c',tt,rfl,by simp,p1,by rw [p2]; exact hfit2,by simp⟩
end Go.Proofs.YtpbdohkbiklflaaGreatDoor
namespace Go.Proofs.YtpbdohkbiklflaaGreatDoor
open Go.TM
variable [KObj]
structure PlaceAt (l:List Rk) (k:Nat) (x:Rk):Prop where
 le:k≤l.length
 lo:∀i y,i<k→l[i]?=some y→bef y x=true
 hi:∀i y,k≤i→l[i]?=some y→bef y x=false
set_option maxRecDepth 100000
set_option maxHeartbeats 4000000 in
theorem ins0_spec (f:Bool) (x:Rk):CSpec Tryz.prog 116 [.own 0 0 0 [],.agg [.dv (I x.1),.dv (I x.2)]] 1 (kM f []) 0 [] [(0,.tree 0 1 (srtD false [x]))]:=by
 have hby:(nth tab (nth tab 111).elem).bytes=24:=by kernel_rfl
 cases f
 ·refine cspec_of tab_ok mixed (calls_snd _) (range_snd _) Tryz.func116 rfl rfl (by kernel_rfl) ?_
  refine .inr ⟨[0],[.own 0 0 0 [],.agg [.dv (I x.1),.dv (I x.2)]],_,0,_,_,place0_spec false x,by kernel_rfl,by kernel_rfl,⟨rfl,⟨rf,rf,tv⟩,tv⟩,⟨⟨rfl,rfl⟩,tv⟩,?_⟩
  refine ⟨fun _=>?_,fun h=>by simp at h⟩
  refine .inr (.inl ⟨[eR x],rfl,⟨rf,rf,tv⟩,by simp [eR,DV.cells]; rfl,?_⟩)
  refine .inr (.inl ⟨[.osl 2 [eR x]],rfl,⟨rfl,tv⟩,by simp [DV.cells]; rfl,?_⟩)
  refine .inr (.inr ⟨rfl,[.osl 2 [eR x]],ELes.refl _,by rw [hby]; simp,by simp,?_⟩)
  refine ⟨[.osl 1 [.osl 2 [eR x]]],⟨rfl,tv⟩,?_⟩
  exact ⟨by kernel_rfl,_,_,⟨rfl,rfl⟩,by kernel_rfl,tv,⟨rfl,rfl⟩,tv⟩
 ·refine cspec_of tab_ok mixed (calls_snd _) (range_snd _) Tryz.func116 rfl rfl (by kernel_rfl) ?_
  refine .inr ⟨[0],[.own 0 0 0 [],.agg [.dv (I x.1),.dv (I x.2)]],_,0,_,_,place0_spec true x,by kernel_rfl,by kernel_rfl,⟨rfl,⟨rf,rf,tv⟩,tv⟩,⟨⟨rfl,rfl⟩,tv⟩,?_⟩
  refine ⟨fun _=>?_,fun h=>by simp at h⟩
  refine .inr (.inl ⟨[eR x],rfl,⟨rf,rf,tv⟩,by simp [eR,DV.cells]; rfl,?_⟩)
  refine .inr (.inl ⟨[.osl 2 [eR x]],rfl,⟨rfl,tv⟩,by simp [DV.cells]; rfl,?_⟩)
  refine .inr (.inr ⟨rfl,[.osl 2 [eR x]],ELes.refl _,by rw [hby]; simp,by simp,?_⟩)
  refine ⟨[.osl 1 [.osl 2 [eR x]]],⟨rfl,tv⟩,?_⟩
  exact ⟨by kernel_rfl,_,_,⟨rfl,rfl⟩,by kernel_rfl,tv,⟨rfl,rfl⟩,tv⟩
set_option maxHeartbeats 4000000 in
theorem ins1_spec (x r:Rk) (l:List Rk) (k:Nat) (hl:(r::l).length≤511) (hp:PlaceAt (r::l) k x):CSpec Tryz.prog 116 [.own 0 0 0 [],.agg [.dv (I x.1),.dv (I x.2)]] 1 (kM false (r::l)) 0 [] [(0,.tree 0 1 (srtD false (insR (r::l) k x)))]:=by
 have hsp:=insF_spec (D:=srtD false (r::l)) (p:=[.el 0 1,.el 0 0]) (l:=r::l) rfl (by simp) x k hp.le (by simp) (by omega)
 obtain ⟨y,L',hL⟩:∃y L',insR (r::l) k x=y::L':=by
  cases h:insR (r::l) k x with
  | nil=>have:=insR_len (r::l) k x hp.le; rw [h] at this; simp at this
  | cons y L'=>exact ⟨y,L',rfl⟩
 rw [hL] at hsp ⊢
 refine cspec_of tab_ok mixed (calls_snd _) (range_snd _) Tryz.func116 rfl rfl (by kernel_rfl) ?_
 refine .inr ⟨[0],[.own 0 0 0 [],.agg [.dv (I x.1),.dv (I x.2)]],_,0,_,_,place1_spec x r l k hp.le (by omega) hp.lo hp.hi,by kernel_rfl,by kernel_rfl,⟨rfl,⟨rf,rf,tv⟩,tv⟩,⟨⟨rfl,rfl⟩,tv⟩,?_⟩
 refine ⟨fun h=>by simp at h,fun _=>?_⟩
 refine ⟨fun _=>⟨by omega,by show (0:Int)<1; omega⟩,.osl 2 ((r::l).map eR),fun _=>rfl,?_⟩
 refine .inr (.inl ⟨[eR x],rfl,⟨rf,rf,tv⟩,by simp [eR,DV.cells]; rfl,?_⟩)
 refine .inr ⟨[0,2],[.own 0 0 0 [.el 0 1,.el 0 0],.dv (I k),.own 1 0 0 []],_,1,_,_,hsp,by kernel_rfl,by kernel_rfl,⟨rfl,rf,rfl,tv⟩,⟨⟨rfl,rfl⟩,⟨rfl,rfl⟩,tv⟩,?_⟩
 refine ⟨by kernel_rfl,?_⟩
 refine ⟨fun _=>⟨by omega,by show (0:Int)<1; omega⟩,[.osl 2 ((y::L').map eR)],⟨rfl,tv⟩,.any,rfl,?_⟩
 refine ⟨fun h=>?_,fun _=>?_⟩
 ·exfalso
  have:=of_decide_eq_true h
  rw [List.length_map,List.length_map,←hL,insR_len _ _ _ hp.le] at this
  omega
 ·exact ⟨_,_,⟨rfl,rfl⟩,by kernel_rfl,tv,⟨rfl,rfl⟩,tv⟩
set_option maxHeartbeats 4000000 in
theorem rem_spec (x r:Rk) (l:List Rk) (k:Nat) (hl:(r::l).length≤511) (hk:k<(r::l).length) (hp:PlaceAt (r::l) k x):CSpec Tryz.prog 115 [.own 0 0 0 [],.agg [.dv (I x.1),.dv (I x.2)]] 1 (kM false (r::l)) 0 [] [(0,.tree 0 1 (srtD false (delR (r::l) k)))]:=by
 have hsp:=delF_spec (D:=srtD false (r::l)) (p:=[.el 0 1,.el 0 0]) (l:=r::l) rfl (by simp) k hk (by omega)
 generalize hL:delR (r::l) k=L at hsp
 refine cspecXX_of tab_ok mixed (calls_snd _) (range_snd _) Tryz.func115 rfl rfl (by kernel_rfl) ?_
 refine .inl (.inr ⟨[0],[.own 0 0 0 [],.agg [.dv (I x.1),.dv (I x.2)]],_,0,_,_,place1_spec x r l k hp.le (by omega) hp.lo hp.hi,by kernel_rfl,by kernel_rfl,⟨rfl,⟨rf,rf,tv⟩,tv⟩,⟨⟨rfl,rfl⟩,tv⟩,?_⟩)
 refine ⟨fun _=>⟨by omega,by show (0:Int)<1; omega⟩,.osl 2 ((r::l).map eR),fun _=>rfl,?_⟩
 refine ⟨fun _=>⟨by omega,by have:(r::l).length≤511:=hl; omega⟩,?_⟩
 refine .inr ⟨[0],[.own 0 0 0 [.el 0 1,.el 0 0],.dv (I k),.dv (I ((k:Int)+1))],_,1,_,_,hsp,by kernel_rfl,by kernel_rfl,⟨rfl,rf,rf,tv⟩,⟨⟨rfl,rfl⟩,tv⟩,?_⟩
 refine ⟨fun _=>⟨by omega,by show (0:Int)<1; omega⟩,[.osl 2 (L.map eR)],⟨rfl,tv⟩,.any,rfl,?_⟩
 refine .inr ⟨[(0,15),(1,15),(2,15),(3,15),(16,15)],by kernel_rfl,softQ_x (pol:=pol1) (by kernel_rfl) (by kernel_rfl),?_⟩
 refine ⟨fun _=>⟨by omega,by show (0:Int)<1; omega⟩,.osl 2 (L.map eR),fun _=>rfl,?_⟩
 refine ⟨.osl 2 (L.map eR),fun _=>rfl,?_⟩
 cases L with
 | nil =>
  refine ⟨fun _=>?_,fun h=>by simp at h⟩
  have hB:=delB_spec (D:=.optr (.agg [.fn 33 [],.osl 1 [.osl 2 []]])) (p:=[.el 0 1]) (y:=.osl 2 []) rfl rfl (by simp)
  refine ⟨fun _=>⟨by omega,by omega⟩,?_⟩
  refine .inl (.inr ⟨[0],[.own 0 0 0 [.el 0 1],.dv (I 0),.dv (I 1)],_,1,_,_,hB,by kernel_rfl,by kernel_rfl,⟨rfl,rf,rf,tv⟩,⟨⟨rfl,rfl⟩,tv⟩,?_⟩)
  exact ⟨[.osl 1 []],⟨rfl,tv⟩,_,_,⟨rfl,rfl⟩,by kernel_rfl,tv,⟨rfl,rfl⟩,tv⟩
 | cons y L' =>
  refine ⟨fun h=>by simp at h; omega,fun _=>?_⟩
  exact ⟨_,_,⟨rfl,rfl⟩,by kernel_rfl,tv,⟨rfl,rfl⟩,tv⟩
end Go.Proofs.YtpbdohkbiklflaaGreatDoor
namespace Go.Proofs.YtpbdohkbiklflaaGreatDoor
open Go.TM
variable [KObj]
set_option maxRecDepth 100000
theorem nils_le (sz:Nat):DV.Le .nils (.sl sz []):=fun M v h=>by cases h; exact .slnil _
set_option maxHeartbeats 4000000 in
theorem first0_spec (f:Bool) (n:Int):CSpec Tryz.prog 55 [.own 0 0 0 [],.dv (I n)] 1 (kM f []) 0 [.dv (.sl 2 [])] (kM f []):=by
 cases f
 all_goals
  refine cspec_of tab_ok mixed (calls_snd _) (range_snd _) Tryz.func55 rfl rfl (by kernel_rfl) ?_
 ·refine ⟨Unit,fun _=>⟨1,[(5,.dv .nils),(12,.dv (I 0)),(13,.dv (I 0))],kM false []⟩,fun _=>True,fun _=>0,(),fun _=>rfl,⟨⟨rf,rf,rf,tv⟩,⟨⟨rfl,rfl⟩,tv⟩,rfl,rfl⟩,tv,?_⟩
  rintro _ _
  refine ⟨fun h=>by simp at h,fun _=>?_⟩
  exact ⟨_,_,⟨rfl,rfl⟩,by kernel_rfl,⟨nils_le _,tv⟩,⟨rfl,rfl⟩,tv⟩
 ·refine ⟨Unit,fun _=>⟨1,[(5,.dv .nils),(12,.dv (I 0)),(13,.dv (I 0))],kM true []⟩,fun _=>True,fun _=>0,(),fun _=>rfl,⟨⟨rf,rf,rf,tv⟩,⟨⟨rfl,rfl⟩,tv⟩,rfl,rfl⟩,tv,?_⟩
  rintro _ _
  refine ⟨fun h=>by simp at h,fun _=>?_⟩
  exact ⟨_,_,⟨rfl,rfl⟩,by kernel_rfl,⟨nils_le _,tv⟩,⟨rfl,rfl⟩,tv⟩
def frInv (n:Nat) (l:List Rk) (q:Bool):AState:=⟨2,[(0,.own 0 0 0 []),(1,.dv (I n)),(5,.own 1 0 0 []),(11,.own 0 0 0 [.el 0 1]),(12,.dv (I 1)),(13,.dv (I (bif q then 1 else 0)))],[(0,.tree 0 0 (srtD false l)),(1,.tree 0 0 (.osl 2 (bif q then (l.take n).map eR else [])))]⟩
theorem fr_lt0 {n:Nat} (hn:1≤n):decide ((n:Int)≤(([]:List DV).length:Int))=false:=by simp; omega
set_option maxHeartbeats 4000000 in
theorem first1_spec (n:Nat) (hn:1≤n) (hn63:n≤9223372036854775807) (r:Rk) (l:List Rk) (hl:(r::l).length≤1000):CSpec Tryz.prog 55 [.own 0 0 0 [],.dv (I n)] 1 (kM false (r::l)) 0 [.dv (.sl 2 (((r::l).take n).map eR))] (kM false (r::l)):=by
 have hby:(nth tab (nth tab 65).elem).bytes=16:=by kernel_rfl
 refine cspec_of tab_ok mixed (calls_snd _) (range_snd _) Tryz.func55 rfl rfl (by kernel_rfl) ?_
 refine ⟨Bool,frInv n (r::l),fun _=>True,fun q=>bif q then 0 else 1,false,fun q=>by cases q <;> rfl,⟨⟨rfl,rf,⟨rfl,rfl,rfl,rfl,2,rfl⟩,rfl,rf,rf,tv⟩,⟨⟨rfl,rfl⟩,⟨rfl,rfl,2,rfl⟩,tv⟩,rfl,rfl⟩,tv,?_⟩
 intro q _
 cases q with
 | true =>
  refine ⟨fun h=>by simp at h,fun _=>?_⟩
  refine ⟨_,_,⟨rfl,rfl⟩,by kernel_rfl,⟨?_,tv⟩,⟨rfl,rfl⟩,tv⟩
  show DV.Le (.sl 2 (fzL (((r::l).take n).map eR))) _
  rw [fzL_map fun x=>rfl]
  exact rf
 | false =>
  refine ⟨fun _=>?_,fun h=>by simp at h⟩
  refine ⟨fun _=>⟨by show (0:Int)≤0; omega,by show (0:Int)<1; omega⟩,.osl 2 ((r::l).map eR),fun _=>rfl,?_⟩
  refine ⟨fun h=>absurd ((fr_lt0 hn).symm.trans h) (by simp),fun _=>?_⟩
  refine ⟨.osl 2 ((r::l).map eR),fun _=>rfl,?_⟩
  refine ⟨fun _=>⟨by show (-9223372036854775808:Int)≤(n:Int) - 0; omega,by show (n:Int) - 0≤9223372036854775807; omega⟩,?_⟩
  refine .inr (.inl ⟨.osl 2 ((r::l).map eR),fun _=>rfl,fun _=>⟨Int.le_refl _,?_,?_⟩,?_⟩)
  ·show (0:Int)≤if (n:Int) - 0<(((r::l).map eR).length:Int) then (n:Int) - 0 else (((r::l).map eR).length:Int)
   split <;> omega
  ·show (if (n:Int) - 0<(((r::l).map eR).length:Int) then (n:Int) - 0 else (((r::l).map eR).length:Int))≤(((r::l).map eR).length:Int)
   split <;> omega
  have hM:((((r::l).map eR).drop 0).take ((if (n:Int) - 0<(((r::l).map eR).length:Int) then (n:Int) - 0 else (((r::l).map eR).length:Int)).toNat - 0))=((r::l).take n).map eR:=by
   rw [List.drop_zero,List.map_take]
   split
   ·rename_i h; rw [show ((n:Int) - 0).toNat - 0=n by omega]
   ·rename_i h
    rw [show (((((r::l).map eR).length:Int)).toNat - 0)=((r::l).map eR).length by omega,List.take_length,List.take_of_length_le (by omega)]
  have hz:(((r::l).take n).map eR).length≤1000:=by simp; simp at hl; omega
  refine .inr ⟨.osl 2 ((r::l).map eR),fun _=>rfl,?_,closedR _,((r::l).take n).map eR,?_,?_,?_,?_⟩
  ·show (0:Nat)+((if (n:Int) - 0<(((r::l).map eR).length:Int) then (n:Int) - 0 else (((r::l).map eR).length:Int)).toNat - 0)≤((r::l).map eR).length
   split <;> omega
  ·show ELes ((((r::l).map eR).drop 0).take ((if (n:Int) - 0<(((r::l).map eR).length:Int) then (n:Int) - 0 else (((r::l).map eR).length:Int)).toNat - 0)) _
   rw [hM]; exact ELes.refl _
  ·rw [hby]; show (0+(((r::l).take n).map eR).length) * 16≤_; omega
  ·show 0+(((r::l).take n).map eR).length≤_; omega
  ·refine ⟨fun _=>⟨by show (-9223372036854775808:Int)≤0+1; omega,by show (0:Int)+1≤9223372036854775807; omega⟩,?_⟩
   exact ⟨true,⟨⟨rfl,rf,rfl,rfl,rf,rf,tv⟩,⟨⟨rfl,rfl⟩,⟨rfl,rfl⟩,tv⟩,rfl,rfl⟩,tv,by decide⟩
end Go.Proofs.YtpbdohkbiklflaaGreatDoor
namespace Go.Proofs.YtpbdohkbiklflaaGreatDoor
open Go.TM
variable [KObj]
abbrev Ky:=Int × Int
def eKy (k:Ky):DV:=.agg [I k.1,I k.2]
abbrev HM:=List (Ky × Int)
def eHe (p:Ky × Int):DV:=.ent (eKy p.1) (I p.2)
def hget:HM→Ky→Option Int
 | [],_=>none
 | p::r,k=>if p.1=k then some p.2 else hget r k
def hput:HM→Ky→Int→HM
 | [],k,x=>[(k,x)]
 | p::r,k,x=>if p.1=k then (k,x)::r else p::hput r k x
def hdel:HM→Ky→HM
 | [],_=>[]
 | p::r,k=>if p.1=k then r else p::hdel r k
def hv (m:HM) (k:Ky):Int:=(hget m k).getD 0
theorem keq_ky (a b:Ky):keq (eKy a) (eKy b)=decide (a=b):=by
 obtain ⟨a1,a2⟩:=a
 obtain ⟨b1,b2⟩:=b
 simp only [eKy,keq,keqs,keq1,Prod.mk.injEq]
 simp
 try rw [Bool.eq_iff_iff]; simp
theorem mget_h (k:Ky):∀m:HM,mget (m.map eHe) (eKy k)=(hget m k).map I
 | []=>rfl
 | p::r=>by
  simp only [List.map_cons,eHe,mget,keq_ky,hget]
  by_cases h:p.1=k
  ·simp [h]
  ·simp only [h,decide_false,cond_false,if_false]
   exact mget_h k r
theorem mput_h (k:Ky) (x:Int):∀m:HM,mput (m.map eHe) (eKy k) (I x)=(hput m k x).map eHe
 | []=>rfl
 | p::r=>by
  simp only [List.map_cons,eHe,mput,keq_ky,hput]
  by_cases h:p.1=k
  ·simp [h,eHe]
  ·simp only [h,decide_false,cond_false,if_false,List.map_cons]
   have:=mput_h k x r
   rw [this]
   rfl
theorem mdel_h (k:Ky):∀m:HM,mdel (m.map eHe) (eKy k)=(hdel m k).map eHe
 | []=>rfl
 | p::r=>by
  simp only [List.map_cons,eHe,mdel,keq_ky,hdel]
  by_cases h:p.1=k
  ·simp [h]
  ·simp only [h,decide_false,cond_false,if_false,List.map_cons]
   have:=mdel_h k r
   rw [this]
   rfl
structure Sl where
 tick:Int
 n:Int
 c:Int
 units:Int
 coins:Int
def eSl (x:Sl):DV:=.agg [I x.tick,I x.n,I x.c,I x.units,I x.coins]
def slD:Bool→List Sl→DV
 | true,_=>.nils
 | false,l=>.osl 5 (l.map eSl)
structure Vs where
 coin:Int
 window:Int
 budget:Int
 last:Int
 work:Int
 H:HM
 tots:List Int
 rk:List (Bool × List Rk)
 sl:List (Bool × List Sl)
 sold:List Int
def eRk (x:Bool × List Rk):DV:=srtD x.1 x.2
def eSs (x:Bool × List Sl):DV:=slD x.1 x.2
def vC (f:Bool) (s:Vs):List AV:=[.dv (I 4),.dv (I s.coin),.dv (I s.window),.dv (I s.budget),.dv (I s.last),.dv (I s.work),.own 1 0 0 [],.own 2 0 0 [],.own 3 0 (bif f then 1 else 0) [],.own 4 0 0 [],.own 5 0 0 []]
def vK (f:Bool) (s:Vs):Boxes:=[(0,.cells (vC f s)),(1,.tree 0 0 (.omap pairK (s.H.map eHe))),(2,.tree 0 0 (Ints2 s.tots)),(3,.tree 0 (bif f then 1 else 0) (.osl 1 (s.rk.map eRk))),(4,.tree 0 0 (.osl 1 (s.sl.map eSs))),(5,.tree 0 0 (Ints2 s.sold))]
where
 Ints2 (l:List Int):DV:=.osl 1 (l.map I)
def posR (l:List Rk) (x:Rk):Nat:=l.countP fun y=>bef y x
def insL (l:List Rk) (x:Rk):List Rk:=insR l (posR l x) x
def remL (l:List Rk) (x:Rk):List Rk:=delR l (posR l x)
theorem step_rk {L:List DV} {i:Nat} {c:DV} (h:L[i]?=some c) (hc:c.owning=true):TM.step (.osl 1 L) (.el i 0)=some c:=by
 have hcc:c.cells=[c]:=by cases c <;> first | rfl | cases hc
 show (match L[i]? with | some x=>x.cells[0]? | none=>none)=_
 rw [h]
 show c.cells[0]?=_
 rw [hcc]; rfl
theorem setP_rk {L:List DV} {i:Nat} {c c':DV} (h:L[i]?=some c) (hc:c.owning=true) (hc':c'.isCell=true):setP (.osl 1 L) [.el i 0] c'=.osl 1 (L.set i c'):=by
 simp only [setP,step_rk h hc]
 show (match L[i]? with | some x=>DV.osl 1 (L.set i (setC x 0 c')) | none=>DV.osl 1 L)=_
 rw [h]
 cases c <;> first | (cases hc; done) | simp [setC,hc']
theorem get_rk {L:List DV} {i:Nat} {c:DV} (h:L[i]?=some c) (hc:c.owning=true):TM.get (.osl 1 L) [.el i 0]=some c:=by
 simp only [TM.get,step_rk h hc]
set_option maxRecDepth 100000
theorem remA_spec {L:List DV} {i:Nat} {l:List Rk} (h:L[i]?=some (srtD false l)) (x:Rk) (hl:l.length≤511) (hk:posR l x<l.length) (hp:PlaceAt l (posR l x) x) :
  CSpec Tryz.prog 115 [.own 0 0 0 [.el i 0],.agg [.dv (I x.1),.dv (I x.2)]] 1 [(0,.tree 0 0 (.osl 1 L))] 0 [] [(0,.tree 0 2 (.osl 1 (L.set i (srtD false (remL l x)))))]:=by
 obtain ⟨r,l',rfl⟩:∃r l',l=r::l':=by
  cases l with
  | nil=>simp at hk
  | cons r l'=>exact ⟨r,l',rfl⟩
 have:=cspec_lend (p:=[.el i 0]) (D:=.osl 1 L) (rem_spec x r l' _ hl hk hp) (get_rk h rfl) (by simp) rfl rfl rfl rfl
 rw [setP_rk h rfl rfl] at this
 exact this
theorem insA_spec {L:List DV} {i:Nat} {f:Bool} {l:List Rk} (h:L[i]?=some (srtD f l)) (hf:f=true→l=[]) (x:Rk) (hl:l.length≤511) (hp:PlaceAt l (posR l x) x) :
  CSpec Tryz.prog 116 [.own 0 0 0 [.el i 0],.agg [.dv (I x.1),.dv (I x.2)]] 1 [(0,.tree 0 0 (.osl 1 L))] 0 [] [(0,.tree 0 2 (.osl 1 (L.set i (srtD false (insL l x)))))]:=by
 cases l with
 | nil =>
  have:=cspec_lend (p:=[.el i 0]) (D:=.osl 1 L) (ins0_spec f x) (get_rk h rfl) (by simp) rfl rfl rfl rfl
  rw [setP_rk h rfl rfl] at this
  exact this
 | cons r l' =>
  cases f with
  | true=>have:=hf rfl; cases this
  | false =>
   have:=cspec_lend (p:=[.el i 0]) (D:=.osl 1 L) (ins1_spec x r l' _ hl hp) (get_rk h rfl) (by simp) rfl rfl rfl rfl
   rw [setP_rk h rfl rfl] at this
   exact this
theorem keyT_ky:KeyT Tryz.prog (nth tab 74).key pairK:=keyT_pair tab_ok (by kernel_rfl)
def setM (s:Vs) (k:Ky) (i:Nat) (now:Int):Vs :=
 if hv s.H k=now then s else
 let s1:={ s with work:=s.work+1,tots:=s.tots.set i (s.tots.getD i 0+(now - hv s.H k)),H:=if now=0 then hdel s.H k else hput s.H k now }
 if 1048576≤k.1 then s1 else
 let l0:=(s.rk.getD i (true,[])).2
 let l1:=if hv s.H k ≠ 0 then remL l0 (k.1,hv s.H k) else l0
 let f1:=if hv s.H k ≠ 0 then false else (s.rk.getD i (true,[])).1
 let r2:=if now ≠ 0 then (false,insL l1 (k.1,now)) else (f1,l1)
 {s1 with rk:=s.rk.set i r2 }
def touchM (s:Vs) (k:Ky) (now:Int):Bool:=!decide (hv s.H k=now) && !decide (1048576≤k.1)
structure SetOk (s:Vs) (k:Ky) (i:Nat) (now:Int):Prop where
 it:k.2=(i:Int)
 tl:i<s.tots.length
 rl:i<s.rk.length
 nb:0≤now∧now≤4611686018427387904
 hb:0≤hv s.H k∧hv s.H k≤4611686018427387904
 tb:-4611686018427387904≤s.tots.getD i 0∧s.tots.getD i 0≤4611686018427387904∧s.tots.getD i 0+(now - hv s.H k)≤4611686018427387904∧-4611686018427387904≤s.tots.getD i 0+(now - hv s.H k)
 wb:0≤s.work∧s.work≤4611686018427387904
 ll:(s.rk.getD i (true,[])).2.length≤510
 lf:(s.rk.getD i (true,[])).1=true→(s.rk.getD i (true,[])).2=[]
 rem:k.1<1048576→hv s.H k ≠ 0→posR (s.rk.getD i (true,[])).2 (k.1,hv s.H k)<(s.rk.getD i (true,[])).2.length∧PlaceAt (s.rk.getD i (true,[])).2 (posR (s.rk.getD i (true,[])).2 (k.1,hv s.H k)) (k.1,hv s.H k)
 ins:k.1<1048576→now ≠ 0→∀l1,l1=(if hv s.H k ≠ 0 then remL (s.rk.getD i (true,[])).2 (k.1,hv s.H k) else (s.rk.getD i (true,[])).2)→PlaceAt l1 (posR l1 (k.1,now)) (k.1,now)
set_option maxHeartbeats 4000000 in
theorem set_spec (s:Vs) (k:Ky) (i:Nat) (now:Int) (ok:SetOk s k i now):CSpec Tryz.prog 53 [.ptr 0 0,.agg [.dv (I k.1),.dv (I k.2)],.dv (I now)] 6 (vK false s) 0 [] (vK (touchM s k now) (setM s k i now)):=by
 obtain ⟨a,it⟩:=k
 obtain rfl:it=(i:Int):=ok.it
 refine cspec_of tab_ok mixed (calls_snd _) (range_snd _) Tryz.func53 rfl rfl (by kernel_rfl) ?_
 have hg:mget (s.H.map eHe) (eKy (a,(i:Int)))=bif (hget s.H (a,(i:Int))).isSome then some (I (hv s.H (a,(i:Int)))) else none:=by
  rw [mget_h]
  unfold hv
  cases hget s.H (a,(i:Int)) <;> rfl
 refine ⟨keyT_ky,eKy (a,(i:Int)),rfl,rfl,I (hv s.H (a,(i:Int))),(hget s.H (a,(i:Int))).isSome,fun _=>hg,fun h=>?_,rfl,?_⟩
 ·unfold hv
  cases hq:hget s.H (a,(i:Int)) with
  | none=>rfl
  | some x=>rw [hq] at h; cases h
 have ok1:=ok.nb
 have ok2:=ok.hb
 have ok3:=ok.tb
 have ok4:=ok.wb
 have ht:s.tots[i]?=some (s.tots.getD i 0):=by rw [List.getD_eq_getElem?_getD,List.getElem?_eq_getElem ok.tl]; rfl
 generalize hb:hv s.H (a,(i:Int))=before at *
 refine ⟨by kernel_rfl,fun he=>?_,fun hne=>?_⟩
 ·have he:before=now:=by simpa using he
  rw [show setM s (a,(i:Int)) i now=s by simp only [setM]; rw [if_pos (hb.trans he)],show touchM s (a,(i:Int)) now=false by simp only [touchM]; rw [hb,he]; simp]
  exact ⟨_,_,⟨rfl,rfl⟩,by kernel_rfl,tv,⟨rf,rf,rf,rf,rf,rf,rfl,rfl,rfl,rfl,rfl,tv⟩,⟨rfl,rfl⟩,⟨rfl,rfl⟩,⟨rfl,rfl⟩,⟨rfl,rfl⟩,⟨rfl,rfl⟩,tv⟩
 have hne:before ≠ now:=by simpa using hne
 refine ⟨fun _=>⟨by omega,by omega⟩,?_⟩
 have hil:(i:Int)<((s.tots.map I).length:Int):=by rw [List.length_map]; have:=ok.tl; omega
 refine ⟨fun _=>⟨by show (0:Int)≤(i:Int); omega,hil⟩,I (s.tots.getD i 0),fun _=>by show (s.tots.map I)[((i:Int)).toNat]?=_; rw [Int.toNat_natCast,List.getElem?_map,ht]; rfl,?_⟩
 refine ⟨fun _=>⟨by omega,by omega⟩,?_⟩
 refine ⟨fun _=>⟨by omega,by omega⟩,?_⟩
 have hel:(s.tots.map I)[((i:Int)).toNat]?=some (I (s.tots.getD i 0)):=by rw [Int.toNat_natCast,List.getElem?_map,ht]; rfl
 refine ⟨fun _=>⟨by show (0:Int)≤(i:Int); omega,hil⟩,[I (s.tots.getD i 0+(now - before))],⟨rf,tv⟩,I (s.tots.getD i 0),hel,?_⟩
 have b2:DV.osl 1 ((s.tots.map I).set i (I (s.tots.getD i 0+(now - before))))=vK.Ints2 (s.tots.set i (s.tots.getD i 0+(now - before))):=by simp only [vK.Ints2,List.map_set]
 have b1:DV.omap pairK (mdel (s.H.map eHe) (eKy (a,(i:Int))))=.omap pairK ((hdel s.H (a,(i:Int))).map eHe):=by rw [mdel_h]
 have b1p:DV.omap pairK (mput (s.H.map eHe) (eKy (a,(i:Int))) (I now))=.omap pairK ((hput s.H (a,(i:Int)) now).map eHe):=by rw [mput_h]
 have hrl:(i:Int)<((s.rk.map eRk).length:Int):=by rw [List.length_map]; have:=ok.rl; omega
 have hrk:s.rk[i]?=some (s.rk.getD i (true,[])):=by rw [List.getD_eq_getElem?_getD,List.getElem?_eq_getElem ok.rl]; rfl
 have hre:(s.rk.map eRk)[((i:Int)).toNat]?=some (eRk (s.rk.getD i (true,[]))):=by rw [Int.toNat_natCast,List.getElem?_map,hrk]; rfl
 have okl:=ok.ll
 have okf:=ok.lf
 have okr:=ok.rem
 have oki:=ok.ins
 rw [hb] at okr oki
 generalize hq0:s.rk.getD i (true,[])=q0 at *
 obtain ⟨f0,l0⟩:=q0
 simp only at okl okf okr oki
 have hre':(s.rk.map eRk)[i]?=some (srtD f0 l0):=by rw [List.getElem?_map,hrk]; rfl
 refine ⟨by kernel_rfl,fun h0=>?_,fun h0=>?_⟩
 ·have h0:now=0:=by simpa using h0
  subst h0
  refine ⟨keyT_ky,eKy (a,(i:Int)),rfl,rfl,by kernel_rfl,fun hp=>?_,fun hp=>?_⟩
  ·have hp:1048576≤a:=of_decide_eq_true hp
   rw [show setM s (a,(i:Int)) i 0={ s with work:=s.work+1,tots:=s.tots.set i (s.tots.getD i 0+(0 - before)),H:=hdel s.H (a,(i:Int)) } by simp only [setM,hb]; rw [if_neg hne,if_pos hp]; rfl,show touchM s (a,(i:Int)) 0=false by simp only [touchM]; simp [hp]]
   exact ⟨_,_,⟨rfl,rfl⟩,by kernel_rfl,tv,⟨rf,rf,rf,rf,rf,rf,rfl,rfl,rfl,rfl,rfl,tv⟩,⟨rfl,b1⟩,⟨rfl,b2⟩,⟨rfl,rfl⟩,⟨rfl,rfl⟩,⟨rfl,rfl⟩,tv⟩
  ·have hp:a<1048576:=by have:=of_decide_eq_false hp; simp only at this; omega
   refine ⟨fun _=>?_,fun h=>absurd h (by simpa using hne)⟩
   refine ⟨fun _=>⟨by show (0:Int)≤(i:Int); omega,hrl⟩,srtD f0 l0,fun _=>hre,?_⟩
   obtain ⟨r1,r2⟩:=okr hp hne
   obtain rfl:f0=false:=by
    cases f0 with
    | false=>rfl
    | true=>rw [okf rfl] at r1; simp at r1
   have hrem:=remA_spec hre' (a,before) (by omega) r1 r2
   refine .inr ⟨[3],[.own 0 0 0 [.el i 0],.agg [.dv (I a),.dv (I before)]],[(0,.tree 0 0 (.osl 1 (s.rk.map eRk)))],0,_,_,hrem,by kernel_rfl,by kernel_rfl,⟨rfl,⟨rf,rf,tv⟩,tv⟩,⟨⟨rfl,rfl⟩,tv⟩,?_⟩
   refine ⟨by kernel_rfl,fun h=>absurd h (by simp),fun _=>?_⟩
   rw [show setM s (a,(i:Int)) i 0={ s with work:=s.work+1,tots:=s.tots.set i (s.tots.getD i 0+(0 - before)),H:=hdel s.H (a,(i:Int)),rk:=s.rk.set i (false,remL l0 (a,before)) } by simp only [setM,hb]; rw [if_neg hne,if_neg (by omega)]; simp only [hq0,ne_eq,not_true_eq_false,if_false,hne,not_false_eq_true,if_true],show touchM s (a,(i:Int)) 0=true by simp only [touchM,hb]; simp [hne]; omega]
   exact ⟨_,_,⟨rfl,rfl⟩,by kernel_rfl,tv,⟨rf,rf,rf,rf,rf,rf,rfl,rfl,rfl,rfl,rfl,tv⟩,⟨rfl,b1⟩,⟨rfl,b2⟩,⟨rfl,by simp only [List.map_set]; rfl⟩,⟨rfl,rfl⟩,⟨rfl,rfl⟩,tv⟩
 ·have h0:now ≠ 0:=by simpa using h0
  refine ⟨keyT_ky,eKy (a,(i:Int)),rfl,rfl,I now,⟨rf,tv⟩,rfl,false,fun _=>⟨?_,?_⟩,by kernel_rfl,fun hp=>?_,fun hp=>?_⟩
  ·intro x hx d hd
   rw [hg] at hx
   cases hk:(hget s.H (a,(i:Int))).isSome with
   | false=>rw [hk] at hx; cases hx
   | true=>rw [hk] at hx; injection hx with hx; subst hx; simp [DV.cells] at hd; subst hd; rfl
  ·intro d hd
   simp [DV.cells] at hd; subst hd; rfl
  ·have hp:1048576≤a:=of_decide_eq_true hp
   rw [show setM s (a,(i:Int)) i now={ s with work:=s.work+1,tots:=s.tots.set i (s.tots.getD i 0+(now - before)),H:=hput s.H (a,(i:Int)) now } by simp only [setM,hb]; rw [if_neg hne,if_pos hp,if_neg h0],show touchM s (a,(i:Int)) now=false by simp only [touchM]; simp [hp]]
   exact ⟨_,_,⟨rfl,rfl⟩,by kernel_rfl,tv,⟨rf,rf,rf,rf,rf,rf,rfl,rfl,rfl,rfl,rfl,tv⟩,⟨rfl,b1p⟩,⟨rfl,b2⟩,⟨rfl,rfl⟩,⟨rfl,rfl⟩,⟨rfl,rfl⟩,tv⟩
  ·have hp:a<1048576:=by have:=of_decide_eq_false hp; simp only at this; omega
   refine ⟨fun hbz=>?_,fun hbz=>?_⟩
   ·have hbz:before ≠ 0:=by simpa using hbz
    refine ⟨fun _=>⟨by show (0:Int)≤(i:Int); omega,hrl⟩,srtD f0 l0,fun _=>hre,?_⟩
    obtain ⟨r1,r2⟩:=okr hp hbz
    obtain rfl:f0=false:=by
     cases f0 with
     | false=>rfl
     | true=>rw [okf rfl] at r1; simp at r1
    have hrem:=remA_spec hre' (a,before) (by omega) r1 r2
    refine .inr ⟨[3],[.own 0 0 0 [.el i 0],.agg [.dv (I a),.dv (I before)]],[(0,.tree 0 0 (.osl 1 (s.rk.map eRk)))],0,_,_,hrem,by kernel_rfl,by kernel_rfl,⟨rfl,⟨rf,rf,tv⟩,tv⟩,⟨⟨rfl,rfl⟩,tv⟩,?_⟩
    refine ⟨by kernel_rfl,fun _=>?_,fun h=>absurd h (by simpa using h0)⟩
    have hlen1:(remL l0 (a,before)).length≤511:=by unfold remL; rw [delR_len _ _ r1]; omega
    have hq1:((s.rk.map eRk).set i (srtD false (remL l0 (a,before))))[i]?=some (srtD false (remL l0 (a,before))):=by rw [List.getElem?_set_self (by rw [List.length_map]; exact ok.rl)]
    have hins:=insA_spec hq1 (fun h=>by cases h) (a,now) hlen1 (oki hp h0 _ (by rw [if_pos hbz]))
    refine ⟨fun _=>⟨by show (0:Int)≤(i:Int); omega,by rw [List.length_set]; exact hrl⟩,srtD false (remL l0 (a,before)),fun _=>hq1,?_⟩
    refine .inr ⟨[3],[.own 0 0 0 [.el i 0],.agg [.dv (I a),.dv (I now)]],[(0,.tree 0 0 (.osl 1 ((s.rk.map eRk).set i (srtD false (remL l0 (a,before))))))],0,_,_,hins,by kernel_rfl,by kernel_rfl,⟨rfl,⟨rf,rf,tv⟩,tv⟩,⟨⟨rfl,rfl⟩,tv⟩,?_⟩
    refine ⟨by kernel_rfl,?_⟩
    rw [show setM s (a,(i:Int)) i now={ s with work:=s.work+1,tots:=s.tots.set i (s.tots.getD i 0+(now - before)),H:=hput s.H (a,(i:Int)) now,rk:=s.rk.set i (false,insL (remL l0 (a,before)) (a,now)) } by simp only [setM,hb]; rw [if_neg hne,if_neg (by omega)]; simp only [hq0,ne_eq,h0,if_false,hbz,not_false_eq_true,if_true],show touchM s (a,(i:Int)) now=true by simp only [touchM,hb]; simp [hne]; omega]
    exact ⟨_,_,⟨rfl,rfl⟩,by kernel_rfl,tv,⟨rf,rf,rf,rf,rf,rf,rfl,rfl,rfl,rfl,rfl,tv⟩,⟨rfl,b1p⟩,⟨rfl,b2⟩,⟨rfl,by rw [List.set_set,List.map_set]; rfl⟩,⟨rfl,rfl⟩,⟨rfl,rfl⟩,tv⟩
   ·have hbz:before=0:=by simpa using hbz
    subst hbz
    refine ⟨fun _=>?_,fun h=>absurd h (by simpa using h0)⟩
    refine ⟨fun _=>⟨by show (0:Int)≤(i:Int); omega,hrl⟩,srtD f0 l0,fun _=>hre,?_⟩
    have hins:=insA_spec hre' okf (a,now) (by omega) (oki hp h0 _ (by rw [if_neg (by simp)]))
    refine .inr ⟨[3],[.own 0 0 0 [.el i 0],.agg [.dv (I a),.dv (I now)]],[(0,.tree 0 0 (.osl 1 (s.rk.map eRk)))],0,_,_,hins,by kernel_rfl,by kernel_rfl,⟨rfl,⟨rf,rf,tv⟩,tv⟩,⟨⟨rfl,rfl⟩,tv⟩,?_⟩
    refine ⟨by kernel_rfl,?_⟩
    rw [show setM s (a,(i:Int)) i now={ s with work:=s.work+1,tots:=s.tots.set i (s.tots.getD i 0+(now - 0)),H:=hput s.H (a,(i:Int)) now,rk:=s.rk.set i (false,insL l0 (a,now)) } by simp only [setM,hb]; rw [if_neg hne,if_neg (by omega)]; simp only [hq0,ne_eq,h0,if_false,not_true_eq_false,not_false_eq_true,if_true],show touchM s (a,(i:Int)) now=true by simp only [touchM,hb]; simp [hne]; omega]
    exact ⟨_,_,⟨rfl,rfl⟩,by kernel_rfl,tv,⟨rf,rf,rf,rf,rf,rf,rfl,rfl,rfl,rfl,rfl,tv⟩,⟨rfl,b1p⟩,⟨rfl,b2⟩,⟨rfl,by simp only [List.map_set]; rfl⟩,⟨rfl,rfl⟩,⟨rfl,rfl⟩,tv⟩
end Go.Proofs.YtpbdohkbiklflaaGreatDoor
namespace Go.Proofs.YtpbdohkbiklflaaGreatDoor
open Go.TM
variable [KObj]
theorem cat_spec:PSpec Tryz.prog 9 [] [catV nameIron]:=pspec_run (pol:=pol1) (fuel:=1000) tab_ok mixed names_ok (by kernel_rfl)
theorem valid_spec:PSpec Tryz.prog 13 [catV nameIron] [I 0]:=pspec_run (pol:=pol1) (fuel:=1000) tab_ok mixed names_ok (by kernel_rfl)
theorem valid2_spec:PSpec Tryz.prog 13 [catV nameGold] [I 8]:=pspec_run (pol:=pol1) (fuel:=1000) tab_ok mixed names_ok (by kernel_rfl)
theorem rvalid_spec:PSpec Tryz.prog 34 [catV nameIron] [I 0]:=pspec_run (pol:=pol1) (fuel:=1000) tab_ok mixed names_ok (by kernel_rfl)
end Go.Proofs.YtpbdohkbiklflaaGreatDoor
