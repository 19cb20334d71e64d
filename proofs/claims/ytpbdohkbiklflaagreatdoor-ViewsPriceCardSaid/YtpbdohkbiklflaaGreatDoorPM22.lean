import Derived.Test.YtpbdohkbiklflaaGreatDoorPM21
set_option linter.unusedVariables false
set_option linter.unusedSimpArgs false
set_option linter.unusedSectionVars false
namespace Go.Proofs.YtpbdohkbiklflaaGreatDoor
open Go.TM Go.RowKit Go.Lib
variable [ct]
def qM (b off n i:Nat) (cc:Array Value) (x0 x1:Value) (w:World) (e:Ending) (w':World):Prop :=
 ∃g o cp c' t',e=.returned (.slice (some ⟨g,o,none⟩) (n+1) cp)∧n+1≤cp∧w'.heap[g]?=some (.cells c' t' (0,0))∧o+cp * 2≤c'.size∧(∀k,k<i * 2→c'[o+k]?=cc[off+k]?)∧c'[o+i * 2]?=some x0∧c'[o+i * 2+1]?=some x1 ∧
  (∀k,k<(n - i) * 2→c'[o+(i+1) * 2+k]?=cc[off+i * 2+k]?)∧w.grownBy w' (some b)∧(g=b ∨ w.heap.size≤g)
set_option maxHeartbeats 4000000 in
set_option maxRecDepth 100000 in
theorem HR (b off n c i vb vo vc:Nat) (cc vv:Array Value) (tt vt:TypeId) (x0 x1:Value) (w:World) (hw:w.heap[b]?=some (.cells cc tt (0,0))) (hv:w.heap[vb]?=some (.cells vv vt (0,0))) (kl:vv[vo]?=some x0) (IH:vv[vo+1]?=some x1) (T0:vb ≠ b)
  (Sy:n+1≤c) (hi:i<n) (cC:off+c * 2≤cc.size) (KF:n<9223372036854775807)
  (h1:∀k v,off≤k→k<off+n * 2→cc[k]?=some v→v.oneCell'=true) (GB:x0.oneCell'=true) (Cl:x1.oneCell'=true) :
  Calls Tryz.prog 129 #[.slice (some ⟨b,off,none⟩) n c,.int .i64 (i:Int),.slice (some ⟨vb,vo,none⟩) 1 vc] w (qM b off n i cc x0 x1 w):=by
 have mixed:=Go.Proofs.YtpbdohkbiklflaaGreatDoor.mixed
 obtain ⟨i0,EK,DA,ny,MY⟩:=info_parts (show (Tryz.prog.info? 82).map (fun i=>(i.zero,i.size,i.bytes))=some (some (.agg #[.int .i64 0,.int .i64 0]),2,16) by kernel_rfl)
 have Dz:w.drew.heap[b]?=some (.cells cc tt (0,0)):=hw
 have Yi:∀lb cb,(callFunc 138 #[.slice (some ⟨vb,vo,none⟩) 1 vc,.slice (some ⟨b,off+(i+1) * 2,none⟩) lb cb]).run Tryz.prog w=.ok (.value (.bool false)) w:=fun lb cb=>by
  rw [run_callFunc_extern Tryz.func138 (by kernel_rfl) (by kernel_rfl) (by kernel_rfl) (e:=Extern.SlicesOverlaps.overlaps #[65,65] #[4]) (by kernel_rfl),
   Lib.run_overlaps_apart w 65 4 82 Tryz.underlying65 2 (fun w=>by simp [Go.sizeOf,typeInfo,EK,ny]) ⟨vb,vo,none⟩ ⟨b,off+(i+1) * 2,none⟩ 1 vc lb cb T0 vt tt vv.size cc.size (by simp [World.shape?,hv]) (by simp [World.shape?,hw]) (by omega) (by simp [World.frozen?,hv]) (by simp [World.frozen?,hv])]
  rfl
 have l1:=cZ cc (off+i * 2) ((n - i) * 2)
 obtain ⟨c1,gz⟩:∃c1,c1=over cc (off+(i+1) * 2) (jI cc (off+i * 2) ((n - i) * 2)):=⟨_,rfl⟩
 obtain ⟨W1,iY⟩:∃W1,W1=w.drew.setRow b c1:=⟨_,rfl⟩
 have fb:c1.size=cc.size:=by rw [gz,fQ _ _ _ (by rw [l1]; omega)]
 have w6:W1.heap[b]?=some (.cells c1 tt (0,0)):=by rw [iY]; exact setRow_heap w.drew b cc _ tt _ Dz
 have EE:W1.heap[vb]?=some (.cells vv vt (0,0)):=by rw [iY,setRow_other _ _ _ _ T0]; exact hv
 have Vr:∀ty dc sc,(Builtin.copy_ #[65,65] ty #[.slice (some ⟨b,off+(i+1) * 2,none⟩) (n - i) dc,.slice (some ⟨b,off+i * 2,none⟩) (n+1 - i) sc]).run Tryz.prog w.drew=.ok (goInt (n - i:Nat)) W1:=fun ty dc sc=>by
  rw [iY,gz]
  refine run_copy_row 65 82 ty i0 Tryz.underlying65 EK Dz _ _ dc ⟨b,off+i * 2,none⟩ _ sc (n - i) _ (by simp only [Nat.min_def]; split <;> omega) (fun j u hu=>?_) (by rw [l1,ny]) (fun u hu=>?_) (by rw [l1]; omega)
  ·have hj:j<(n - i) * 2:=by have:=(List.getElem?_eq_some_iff.1 hu).1; rwa [l1] at this
   rw [eL cc _ _ j hj (by omega)] at hu
   rw [cE,im Dz]; exact hu
  ·obtain ⟨k,hk,rfl⟩:=List.getElem_of_mem hu
   have ey:k<(n - i) * 2:=by rwa [l1] at hk
   have h2:=eL cc (off+i * 2) ((n - i) * 2) k ey (by omega)
   rw [List.getElem?_eq_getElem hk] at h2
   exact h1 (off+i * 2+k) _ (by omega) (by omega) h2.symm
 obtain ⟨c2,fE⟩:∃c2,c2=over c1 (off+i * 2) [x0,x1]:=⟨_,rfl⟩
 have Yj:∀ty dc,(Builtin.copy_ #[65,65] ty #[.slice (some ⟨b,off+i * 2,none⟩) (n+1 - i) dc,.slice (some ⟨vb,vo,none⟩) 1 vc]).run Tryz.prog W1=.ok (goInt (1:Nat)) (W1.setRow b c2):=fun ty dc=>by
  rw [fE]
  refine run_copy_row 65 82 ty i0 Tryz.underlying65 EK w6 _ _ dc ⟨vb,vo,none⟩ _ vc 1 _ (by simp only [Nat.min_def]; split <;> omega) (fun j u hu=>?_) (by simp [ny]) (fun u hu=>?_) (by simp; omega)
  ·rw [cE,im EE]
   match j,hu with
   | 0,hu=>simp at hu; subst hu; exact kl
   | 1,hu=>simp at hu; subst hu; exact IH
   | j+2,hu=>simp at hu
  ·simp at hu
   rcases hu with rfl | rfl
   ·exact GB
   ·exact Cl
 have Qj:Hid (W1=w.drew.setRow b c1):=iY
 have Sz:Hid (c1=over cc (off+(i+1) * 2) (jI cc (off+i * 2) ((n - i) * 2))):=gz
 have SA:Hid (c2=over c1 (off+i * 2) [x0,x1]):=fE
 clear iY gz fE w6 EE
 have OF:¬ ((i:Int)=(n:Int)):=by omega
 have w6:IntKind.i64.wrap ((i:Int)+1)=(i:Int)+1:=by rw [IntKind.wrap_i64]; omega
 have P8:IntKind.i64.wrap ((n:Int)+1)=(n:Int)+1:=by rw [IntKind.wrap_i64]; omega
 have kj:(0:Int)≤(i:Int)+1:=by omega
 have eo:i≤n:=by omega
 have cw:¬ (c=i+1):=by omega
 have w4:(i:Int)≤(n:Int)+1:=by omega
 have TV:¬ (c=i):=by omega
 have Yk:¬ ((c:Int)<(n:Int)+1):=by omega
 have Zq:(0:Int)≤(n:Int)+1:=by omega
 have Yl:(i:Int)+1≤(n:Int)+1:=by omega
 have yx:(n:Int)+1≤(c:Int):=by omega
 go_enter Tryz.func129,Tryz.ntmps129
 go_wp2_with (simp only [Yi])
 go_region_law_o (refine step_copy_runI rfl _ _ 65 65 rfl _ _ (by simp [Act.eval,Act.put]) (by simp [Act.eval,Act.put]) (Vr _ _ _) ?_)
 go_wp2
 go_ret
 have iY:=Qj.out
 have gz:=Sz.out
 have fE:=SA.out
 have w6:W1.heap[b]?=some (.cells c1 tt (0,0)):=by rw [iY]; exact setRow_heap w.drew b cc _ tt _ Dz
 have gC:(W1.setRow b c2).heap[b]?=some (.cells c2 tt (0,0)):=setRow_heap W1 b c1 _ tt _ w6
 have e2:∀k,c2[k]?=if off+i * 2≤k∧k<off+i * 2+2 then [x0,x1][k - (off+i * 2)]? else c1[k]?:=fun k=>by rw [fE,fw _ _ _ (by simp; omega)]; rfl
 have e1:∀k,c1[k]?=if off+(i+1) * 2≤k∧k<off+(i+1) * 2+(n - i) * 2 then (jI cc (off+i * 2) ((n - i) * 2))[k - (off+(i+1) * 2)]? else cc[k]?:=fun k=>by rw [gz,fw _ _ _ (by rw [l1]; omega),l1]
 refine ⟨b,off,c,c2,tt,rfl,Sy,gC,?_,fun k hk=>?_,?_,?_,fun k hk=>?_,⟨by rw [iY]; rfl,by rw [iY]; rfl,by rw [iY]; rfl,by rw [iY]; simp,fun q hq bD=>?_⟩,.inl rfl⟩
 ·rw [fE,fQ _ _ _ (by simp; omega),fb]; exact cC
 ·rw [e2,if_neg (by omega),e1,if_neg (by omega)]
 ·rw [e2,if_pos (by omega),Nat.sub_self]; rfl
 ·rw [e2,if_pos (by omega),show off+i * 2+1 - (off+i * 2)=1 by omega]; rfl
 ·rw [e2,if_neg (by omega),e1,if_pos (by omega),show off+(i+1) * 2+k - (off+(i+1) * 2)=k by omega,eL _ _ _ _ hk (by omega)]
 ·have KG:q ≠ b:=fun e=>bD (by rw [e])
  rw [setRow_other _ _ _ _ KG,iY,setRow_other _ _ _ _ KG]
  rfl
set_option maxHeartbeats 4000000 in
set_option maxRecDepth 100000 in
theorem MZ (b off n c vb vo vc:Nat) (cc vv:Array Value) (tt vt:TypeId) (x0 x1:Value) (w:World) (hw:w.heap[b]?=some (.cells cc tt (0,0))) (hv:w.heap[vb]?=some (.cells vv vt (0,0))) (kl:vv[vo]?=some x0) (IH:vv[vo+1]?=some x1)
  (Sy:n≤c) (cC:off+c * 2≤cc.size) (Qk:(n+1) * 16≤140737488355328) (GB:x0.oneCell'=true) (Cl:x1.oneCell'=true) :
  Calls Tryz.prog 129 #[.slice (some ⟨b,off,none⟩) n c,.int .i64 (n:Int),.slice (some ⟨vb,vo,none⟩) 1 vc] w (qM b off n n cc x0 x1 w):=by
 have mixed:=Go.Proofs.YtpbdohkbiklflaaGreatDoor.mixed
 obtain ⟨i0,EK,DA,ny,MY⟩:=info_parts (show (Tryz.prog.info? 82).map (fun i=>(i.zero,i.size,i.bytes))=some (some (.agg #[.int .i64 0,.int .i64 0]),2,16) by kernel_rfl)
 have hd:∀d,d∈(DV.agg [.int .i64 0,.int .i64 0]).cells→d.ak=true:=by intro d hd; simp [DV.cells] at hd; subst hd; rfl
 have il:oo w (.slice (some ⟨b,off,none⟩) n c) i0.size (List.replicate n (DV.agg [.int .i64 0,.int .i64 0])) (fun i j _ u=>cc[off+i * 2+j]?=some u):=by
  refine .inr ⟨b,off,c,cc,tt,by simp,by simpa using Sy,hw,by rw [ny]; exact cC,fun i x hx=>?_⟩
  have aJ:i<n:=by have:=(List.getElem?_eq_some_iff.1 hx).1; simpa using this
  have w7:=List.mem_of_getElem? hx
  rw [List.eq_of_mem_replicate w7]
  refine ⟨by rw [ny]; rfl,fun j d hj=>⟨hd d (List.mem_of_getElem? hj),?_⟩⟩
  have SB:j<2:=(List.getElem?_eq_some_iff.1 hj).1
  rw [ny]
  exact ⟨_,Array.getElem?_eq_getElem (by omega),Array.getElem?_eq_getElem (by omega)⟩
 have gE:oq w (.slice (some ⟨vb,vo,none⟩) 1 vc) i0.size [DV.agg [.int .i64 0,.int .i64 0]] (fun _ j _ u=>(j=0→u=x0)∧(j=1→u=x1)):=by
  refine .inr ⟨⟨vb,vo,none⟩,vc,fun _ j=>if j=0 then x0 else x1,rfl,fun i x hx=>?_⟩
  match i,hx with
  | 0,hx =>
   simp at hx; subst hx
   refine ⟨by rw [ny]; rfl,fun j d hj=>⟨hd d (List.mem_of_getElem? hj),?_⟩⟩
   have SB:j<2:=(List.getElem?_eq_some_iff.1 hj).1
   rw [cE,im hv]
   match j,SB with
   | 0,_=>exact ⟨by simpa using kl,GB,fun _=>rfl,by simp⟩
   | 1,_=>exact ⟨by simpa using IH,Cl,by simp,fun _=>rfl⟩
  | i+1,hx=>simp at hx
 have SC:∀ty,∃v' w',(Builtin.append_ #[65,65] ty #[.slice (some ⟨b,off,none⟩) n c,.slice (some ⟨vb,vo,none⟩) 1 vc]).run Tryz.prog w=.ok v' w'∧qM b off n n cc x0 x1 w (.returned v') w':=fun ty=>by
  obtain ⟨v',w',r1,r2,r3,r4,_⟩:=pw (P:=Tryz.prog) (ty:=ty) Tryz.underlying65 EK DA (by rw [ny]; rfl) (by rw [ny]; omega) il gE (by simp; omega) (by rw [MY]; simp; omega)
  refine ⟨v',w',r1,?_⟩
  rcases r2 with ⟨h,_⟩ | ⟨g,o,cp,c',t',rfl,k1,k2,k3,k4⟩
  ·simp at h
  ·have key:∀i j,i<n+1→j<2→∃u,c'[o+i * 2+j]?=some u∧kT n (fun i j _ u=>cc[off+i * 2+j]?=some u) (fun _ j _ u=>(j=0→u=x0)∧(j=1→u=x1)) i j (.int .i64 0) u:=by
    intro i j hi hj
    have hx:(List.replicate n (DV.agg [.int .i64 0,.int .i64 0])++[DV.agg [.int .i64 0,.int .i64 0]])[i]?=some (DV.agg [.int .i64 0,.int .i64 0]):=by
     rw [←List.replicate_succ',List.getElem?_replicate,if_pos hi]
    obtain ⟨_,q⟩:=k4 i _ hx
    obtain ⟨_,u,q1,q2⟩:=q j (.int .i64 0) (by
     match j,hj with
     | 0,_=>rfl
     | 1,_=>rfl)
    rw [ny] at q1
    rw [List.length_replicate] at q2
    exact ⟨u,q1,q2⟩
   have hb:g=b ∨ w.heap.size≤g:=by
    rcases r4 g rfl with h | h
    ·exact .inr h
    ·left; simpa [fm] using h.symm
   rw [ny] at k3
   refine ⟨g,o,cp,c',t',by simp,by simpa using k1,k2,k3,fun k hk=>?_,?_,?_,fun k hk=>by omega,r3,hb⟩
   ·obtain ⟨u,q1,q2⟩:=key (k / 2) (k % 2) (by omega) (by omega)
    unfold kT at q2
    rw [if_pos (by omega)] at q2
    rw [show o+k=o+k / 2 * 2+k % 2 by omega,show off+k=off+k / 2 * 2+k % 2 by omega,q1,q2]
   ·obtain ⟨u,q1,q2⟩:=key n 0 (by omega) (by omega)
    unfold kT at q2
    rw [if_neg (by omega)] at q2
    rw [Nat.add_zero] at q1
    rw [q1,q2.1 rfl]
   ·obtain ⟨u,q1,q2⟩:=key n 1 (by omega) (by omega)
    unfold kT at q2
    rw [if_neg (by omega)] at q2
    rw [q1,q2.2 rfl]
 obtain ⟨v',W',hr,Cm⟩:=SC 65
 have eo:n≤n:=Nat.le_refl _
 clear SC gE il
 go_enter Tryz.func129,Tryz.ntmps129
 go_wp2_with (at_builtin; refine Lib.wpList_append_run _ rfl _ _ _ _ rfl _ _ rfl rfl _ _ hr ?_)
 all_goals (go_ret; exact Cm)
set_option maxHeartbeats 4000000 in
set_option maxRecDepth 100000 in
theorem KH (b off n i vb vo vc:Nat) (cc vv:Array Value) (tt vt:TypeId) (x0 x1:Value) (w:World) (hw:w.heap[b]?=some (.cells cc tt (0,0))) (hv:w.heap[vb]?=some (.cells vv vt (0,0))) (kl:vv[vo]?=some x0) (IH:vv[vo+1]?=some x1)
  (hi:i<n) (cC:off+n * 2≤cc.size) (Qk:(n+1) * 16≤140737488355328)
  (h1:∀k v,off≤k→k<off+n * 2→cc[k]?=some v→v.oneCell'=true) (GB:x0.oneCell'=true) (Cl:x1.oneCell'=true) :
  Calls Tryz.prog 129 #[.slice (some ⟨b,off,none⟩) n n,.int .i64 (i:Int),.slice (some ⟨vb,vo,none⟩) 1 vc] w (qM b off n i cc x0 x1 w):=by
 have mixed:=Go.Proofs.YtpbdohkbiklflaaGreatDoor.mixed
 obtain ⟨i0,EK,DA,ny,MY⟩:=info_parts (show (Tryz.prog.info? 82).map (fun i=>(i.zero,i.size,i.bytes))=some (some (.agg #[.int .i64 0,.int .i64 0]),2,16) by kernel_rfl)
 have Dz:w.drew.heap[b]?=some (.cells cc tt (0,0)):=hw
 have T1:b<w.heap.size:=(Array.getElem?_eq_some_iff.1 hw).1
 have Ym:vb<w.heap.size:=(Array.getElem?_eq_some_iff.1 hv).1
 have l0:=cZ cc off (i * 2)
 have l1:=cZ cc (off+i * 2) ((n - i) * 2)
 have hold:(Builtin.firstCells i0.size i (.slice (some ⟨b,off,none⟩) i n)).run Tryz.prog w.drew=.ok (jI cc off (i * 2)).toArray w.drew :=
  run_firstCells_some w.drew i0.size i ⟨b,off,none⟩ i n _ (by rw [l0,ny]) (fun j u hu=>by
   have hj:j<i * 2:=by have:=(List.getElem?_eq_some_iff.1 hu).1; rwa [l0] at this
   rw [eL cc _ _ j hj (by omega)] at hu
   rw [cE,im Dz]; exact hu)
 have yw:i+(n+1 - i)=n+1:=by omega
 have Hw:(n:Int)+1 - (i:Int)=((n+1 - i:Nat):Int):=by omega
 obtain ⟨G,hG⟩:∃G,G=grownCap w (n+1) n 82:=⟨_,rfl⟩
 obtain ⟨II,M0⟩:∃II:Array Value,II=(jI cc off (i * 2)).toArray++Builtin.zeroCells (Value.agg #[.int .i64 0,.int .i64 0]).cells (n+1 - i)++Builtin.zeroCells (Value.agg #[.int .i64 0,.int .i64 0]).cells (G - (n+1)):=⟨_,rfl⟩
 have WS:∀ty,(Builtin.append_ #[65,3] ty #[.slice (some ⟨b,off,none⟩) i n,.int .i64 ((n:Int)+1 - (i:Int))]).run Tryz.prog w=.ok (.slice (some ⟨w.heap.size,0,none⟩) (n+1) G) (w.drew.alloc (.cells II 82)):=fun ty=>by
  have h:=Lib.run_append_grow_zeros (P:=Tryz.prog) (ty:=ty) w 65 3 82 i0 _ .i64 .i64 Tryz.underlying65 Tryz.underlying3 EK DA (some ⟨b,off,none⟩) i n _ hold (n+1 - i) (by omega) (by rw [ny]; omega) (by omega) (by omega) (by rw [MY]; omega) (by rw [MY,yw]; exact growslice_fits (by omega) Qk)
  rw [yw,←hG] at h
  rw [Hw,M0]
  exact h
 have Yn:n+1≤G:=by rw [hG]; exact grownCap_ge w _ _ _
 have Yo:G≤9223372036854775807:=by
  have:=grownCap_le_maxLen w (n+1) n 82 (by unfold maxLen; omega)
  rw [←hG] at this
  unfold maxLen at this
  omega
 have OG:∀m,(Builtin.zeroCells (Value.agg #[.int .i64 0,.int .i64 0]).cells m).size=m * 2:=fun m=>by simp [Builtin.zeroCells,Value.cells]
 have Yp:II.size=G * 2:=by rw [M0]; simp only [Array.size_append,List.size_toArray,l0,OG]; omega
 obtain ⟨W1,iY⟩:∃W1,W1=w.drew.alloc (.cells II 82):=⟨_,rfl⟩
 have KI:W1.heap[w.heap.size]?=some (.cells II 82 (0,0)):=by rw [iY]; exact cj w.drew _
 have EE:W1.heap[vb]?=some (.cells vv vt (0,0)):=by rw [iY,aU w.drew _ Ym]; exact hv
 have kj:W1.heap[b]?=some (.cells cc tt (0,0)):=by rw [iY,aU w.drew _ T1]; exact hw
 obtain ⟨r1,OC⟩:∃r1,r1=over II (i * 2) [x0,x1]:=⟨_,rfl⟩
 have fb:r1.size=G * 2:=by rw [OC,fQ _ _ _ (by simp; omega),Yp]
 have SD:∀ty dc,(Builtin.copy_ #[65,65] ty #[.slice (some ⟨w.heap.size,i * 2,none⟩) (n+1 - i) dc,.slice (some ⟨vb,vo,none⟩) 1 vc]).run Tryz.prog W1=.ok (goInt (1:Nat)) (W1.setRow w.heap.size r1):=fun ty dc=>by
  rw [OC]
  refine run_copy_row 65 82 ty i0 Tryz.underlying65 EK KI _ _ dc ⟨vb,vo,none⟩ _ vc 1 _ (by simp only [Nat.min_def]; split <;> omega) (fun j u hu=>?_) (by simp [ny]) (fun u hu=>?_) (by simp; omega)
  ·rw [cE,im EE]
   match j,hu with
   | 0,hu=>simp at hu; subst hu; exact kl
   | 1,hu=>simp at hu; subst hu; exact IH
   | j+2,hu=>simp at hu
  ·simp at hu
   rcases hu with rfl | rfl
   ·exact GB
   ·exact Cl
 obtain ⟨W2,KJ⟩:∃W2,W2=W1.setRow w.heap.size r1:=⟨_,rfl⟩
 have M1:W2.drew.heap[w.heap.size]?=some (.cells r1 82 (0,0)):=by rw [KJ]; exact setRow_heap W1 _ II _ _ _ KI
 have cw:W2.drew.heap[b]?=some (.cells cc tt (0,0)):=by
  show W2.heap[b]?=_
  rw [KJ,setRow_other _ _ _ _ (by omega)]; exact kj
 obtain ⟨r2,OD⟩:∃r2,r2=over r1 ((i+1) * 2) (jI cc (off+i * 2) ((n - i) * 2)):=⟨_,rfl⟩
 have Vt:∀ty dc sc,(Builtin.copy_ #[65,65] ty #[.slice (some ⟨w.heap.size,(i+1) * 2,none⟩) (n - i) dc,.slice (some ⟨b,off+i * 2,none⟩) (n - i) sc]).run Tryz.prog W2.drew=.ok (goInt (n - i:Nat)) (W2.drew.setRow w.heap.size r2):=fun ty dc sc=>by
  rw [OD]
  refine run_copy_row 65 82 ty i0 Tryz.underlying65 EK M1 _ _ dc ⟨b,off+i * 2,none⟩ _ sc (n - i) _ (by simp only [Nat.min_def]; split <;> omega) (fun j u hu=>?_) (by rw [l1,ny]) (fun u hu=>?_) (by rw [l1]; omega)
  ·have hj:j<(n - i) * 2:=by have:=(List.getElem?_eq_some_iff.1 hu).1; rwa [l1] at this
   rw [eL cc _ _ j hj (by omega)] at hu
   rw [cE,im cw]; exact hu
  ·obtain ⟨k,hk,rfl⟩:=List.getElem_of_mem hu
   have ey:k<(n - i) * 2:=by rwa [l1] at hk
   have h2:=eL cc (off+i * 2) ((n - i) * 2) k ey (by omega)
   rw [List.getElem?_eq_getElem hk] at h2
   exact h1 (off+i * 2+k) _ (by omega) (by omega) h2.symm
 have Qj:Hid (W1=w.drew.alloc (.cells II 82)):=iY
 have Yq:Hid (W2=W1.setRow w.heap.size r1):=KJ
 have eR:Hid (II=(jI cc off (i * 2)).toArray++Builtin.zeroCells (Value.agg #[.int .i64 0,.int .i64 0]).cells (n+1 - i)++Builtin.zeroCells (Value.agg #[.int .i64 0,.int .i64 0]).cells (G - (n+1))):=M0
 have Yr:Hid (r1=over II (i * 2) [x0,x1]):=OC
 have Ys:Hid (r2=over r1 ((i+1) * 2) (jI cc (off+i * 2) ((n - i) * 2))):=OD
 rw [←iY] at WS
 rw [←KJ] at SD
 have Yt:Hid (W2.drew.heap[w.heap.size]?=some (.cells r1 82 (0,0))):=M1
 clear iY KJ M0 OC OD hG hold Hw yw KI EE kj M1 cw
 have OF:¬ ((i:Int)=(n:Int)):=by omega
 have w6:IntKind.i64.wrap ((i:Int)+1)=(i:Int)+1:=by rw [IntKind.wrap_i64]; omega
 have P8:IntKind.i64.wrap ((n:Int)+1)=(n:Int)+1:=by rw [IntKind.wrap_i64]; omega
 have Zr:IntKind.i64.wrap ((n:Int)+1 - (i:Int))=(n:Int)+1 - (i:Int):=by rw [IntKind.wrap_i64]; omega
 have kj:(0:Int)≤(i:Int)+1:=by omega
 have eo:i≤n:=by omega
 have cw:¬ (G=i+1):=by omega
 have w4:(i:Int)≤(n:Int)+1:=by omega
 have TV:¬ (G=i):=by omega
 have Yk:¬ (n=i):=by omega
 have Yl:(i:Int)+1≤(n:Int)+1:=by omega
 have yx:(n:Int)<(n:Int)+1:=by omega
 have Zs:(i:Int)≤(n:Int):=by omega
 go_enter Tryz.func129,Tryz.ntmps129
 go_wp2_with (first
  | (at_builtin; refine Lib.wpList_append_run _ rfl _ _ _ _ rfl _ _ rfl rfl _ _ (WS _) ?_)
  | (at_builtin; refine wpList_copy_runI _ rfl _ _ 65 65 rfl _ _ rfl rfl (SD _ _) ?_))
 go_region_law_o (refine step_copy_runI rfl _ _ 65 65 rfl _ _ (by simp [Act.eval,Act.put]) (by simp [Act.eval,Act.put]) (Vt _ _ _) ?_)
 go_wp2
 go_ret
 have iY:=Qj.out
 have KJ:=Yq.out
 have OC:=Yr.out
 have OD:=Ys.out
 have e2:∀k,r2[k]?=if (i+1) * 2≤k∧k<(i+1) * 2+(n - i) * 2 then (jI cc (off+i * 2) ((n - i) * 2))[k - (i+1) * 2]? else r1[k]?:=fun k=>by rw [OD,fw _ _ _ (by rw [l1]; omega),l1]
 have e1:∀k,r1[k]?=if i * 2≤k∧k<i * 2+2 then [x0,x1][k - i * 2]? else II[k]?:=fun k=>by rw [OC,fw _ _ _ (by simp; omega)]; rfl
 refine ⟨w.heap.size,0,G,r2,82,rfl,Yn,setRow_heap W2.drew _ r1 _ _ _ Yt.out,?_,fun k hk=>?_,?_,?_,fun k hk=>?_,⟨by rw [KJ,iY]; rfl,by rw [KJ,iY]; rfl,by rw [KJ,iY]; rfl,by rw [KJ,iY]; simp,fun q hq bD=>?_⟩,.inr (Nat.le_refl _)⟩
 ·rw [OD,fQ _ _ _ (by rw [l1]; omega),fb]; omega
 ·rw [Nat.zero_add,e2,if_neg (by omega),e1,if_neg (by omega),eR.out,Array.getElem?_append,if_pos (by simp only [Array.size_append,List.size_toArray,l0,OG]; omega),Array.getElem?_append,if_pos (by simp only [List.size_toArray,l0]; omega),List.getElem?_toArray,eL _ _ _ _ hk (by omega)]
 ·rw [Nat.zero_add,e2,if_neg (by omega),e1,if_pos (by omega),Nat.sub_self]; rfl
 ·rw [Nat.zero_add,e2,if_neg (by omega),e1,if_pos (by omega),show i * 2+1 - i * 2=1 by omega]; rfl
 ·rw [Nat.zero_add,e2,if_pos (by omega),show (i+1) * 2+k - (i+1) * 2=k by omega,eL _ _ _ _ hk (by omega)]
 ·have KG:q ≠ w.heap.size:=by omega
  rw [setRow_other _ _ _ _ KG]
  show W2.heap[q]?=_
  rw [KJ,setRow_other _ _ _ _ KG,iY,aU w.drew _ hq]
  rfl
end Go.Proofs.YtpbdohkbiklflaaGreatDoor
namespace Go.Proofs.YtpbdohkbiklflaaGreatDoor
open Go.TM Go.RowKit
variable [cP]
theorem KK {M:Mem} {h:Option Value} {n:Int} {u:Value} (r:de M h (I n) u):u=.int .i64 n:=by
 rcases r with ⟨a,_⟩ | ⟨_,r⟩
 ·cases a
 ·cases r; rfl
theorem we {M:Mem} {w:World} {v:Value} {hc:PS→Option Value} {l:List Rk} (h:bW M w v hc (.ay 2 (l.map eR))) (hl:l ≠ []) :
  ∃b off c cc tt,v=.slice (some ⟨b,off,none⟩) l.length c∧l.length≤c∧w.heap[b]?=some (.cells cc tt (0,0))∧off+c * 2≤cc.size∧∀i y,l[i]?=some y→cc[off+i * 2]?=some (.int .i64 y.1)∧cc[off+i * 2+1]?=some (.int .i64 y.2):=by
 rcases h with ⟨h,_⟩ | ⟨b,off,c,cc,tt,rfl,h1,h2,h3,h4⟩
 ·simp at h; exact absurd h hl
 ·refine ⟨b,off,c,cc,tt,by rw [List.length_map],by simpa using h1,h2,h3,fun i y hy=>?_⟩
  obtain ⟨_,q⟩:=h4 i (eR y) (by rw [List.getElem?_map,hy]; rfl)
  obtain ⟨_,u,e1,e2⟩:=q 0 (I y.1) rfl
  obtain ⟨_,u',e3,e4⟩:=q 1 (I y.2) rfl
  rw [KK e2] at e1
  rw [KK e4] at e3
  exact ⟨e1,e3⟩
theorem GC {M:Mem} {w:World} {g o cp:Nat} {c:Array Value} {t:TypeId} {l:List Rk} (h1:l.length≤cp) (h2:w.heap[g]?=some (.cells c t (0,0))) (h3:o+cp * 2≤c.size)
  (h4:∀i y,l[i]?=some y→c[o+i * 2]?=some (.int .i64 y.1)∧c[o+i * 2+1]?=some (.int .i64 y.2)) :
  oo w (.slice (some ⟨g,o,none⟩) l.length cp) 2 (l.map eR) (fun _ _ d u=>d.af=false∧bk M d u):=by
 refine .inr ⟨g,o,cp,c,t,by rw [List.length_map],by simpa using h1,h2,h3,fun i x hx=>?_⟩
 rw [List.getElem?_map] at hx
 cases hy:l[i]? with
 | none=>rw [hy] at hx; simp at hx
 | some y =>
  rw [hy] at hx; simp at hx; subst hx
  obtain ⟨e1,e2⟩:=h4 i y hy
  refine ⟨rfl,fun j d hd=>?_⟩
  match j,hd with
  | 0,hd=>simp [eR,DV.cells] at hd; subst hd; exact ⟨rfl,_,e1,rfl,.int _ _⟩
  | 1,hd=>simp [eR,DV.cells] at hd; subst hd; exact ⟨rfl,_,e2,rfl,.int _ _⟩
  | j+2,hd=>simp [eR,DV.cells] at hd
theorem Cn {cc:Array Value} {off n:Nat} {l:List Rk} (hn:n=l.length) (h:∀i y,l[i]?=some y→cc[off+i * 2]?=some (.int .i64 y.1)∧cc[off+i * 2+1]?=some (.int .i64 y.2)) :
  ∀k v,off≤k→k<off+n * 2→cc[k]?=some v→v.oneCell'=true:=by
 intro k v h1 h2 h3
 obtain ⟨e1,e2⟩:=h ((k - off) / 2) _ (List.getElem?_eq_getElem (by omega))
 rcases Nat.mod_two_eq_zero_or_one (k - off) with h4 | h4
 ·rw [show off+(k - off) / 2 * 2=k by omega,h3] at e1; injection e1 with e1; subst e1; rfl
 ·rw [show off+(k - off) / 2 * 2+1=k by omega,h3] at e2; injection e2 with e2; subst e2; rfl
theorem M3 (l:List Rk) (k:Nat) (x:Rk) (hk:k≤l.length) (i:Nat):(qL l k x)[i]?=if i<k then l[i]? else if i=k then some x else l[i - 1]?:=by
 unfold qL
 have ht:(l.take k).length=k:=by simp; omega
 rw [List.getElem?_append,ht]
 by_cases h1:i<k
 ·rw [if_pos h1,if_pos h1,List.getElem?_take,if_pos h1]
 ·rw [if_neg h1,if_neg h1]
  by_cases h2:i=k
  ·subst h2; simp
  ·rw [if_neg h2,show i - k=(i - 1 - k)+1 by omega,List.getElem?_cons_succ,List.getElem?_drop,show k+(i - 1 - k)=i - 1 by omega]
theorem wg (l:List Rk) (k:Nat) (x:Rk) (hk:k≤l.length):(qL l k x).length=l.length+1:=by simp [qL]; omega
theorem M4 (l:List Rk) (k:Nat) (hk:k<l.length) (i:Nat):(xB l k)[i]?=if i<k then l[i]? else l[i+1]?:=by
 unfold xB
 have ht:(l.take k).length=k:=by simp; omega
 rw [List.getElem?_append,ht]
 by_cases h1:i<k
 ·rw [if_pos h1,if_pos h1,List.getElem?_take,if_pos h1]
 ·rw [if_neg h1,if_neg h1,List.getElem?_drop,show k+1+(i - k)=i+1 by omega]
theorem Co (l:List Rk) (k:Nat) (hk:k<l.length):(xB l k).length=l.length - 1:=by simp [xB]; omega
theorem HS {D:DV} {p:List PS} {l:List Rk} (hp:get D p=some (.ay 2 (l.map eR))) (bD:p ≠ []) (x:Rk) (k:Nat) (hk:k≤l.length) (hl:l ≠ []) (hlen:l.length≤1000) :
  bj Tryz.prog 129 [.own 0 0 0 p,.dv (I k),.own 1 0 0 []] 2 [(0,.tree 0 0 D),(1,.tree 0 0 (.ay 2 [eR x]))] 1 [.own 2 1 0 []]
   [(2,.tree 1 0 (.ay 2 ((qL l k x).map eR))),(0,.tree 0 0 (bO D p .any)),(1,.tree 0 0 (.ay 2 [eR x]))]:=by
 refine sd ⟨_,Tryz.func129,by kernel_rfl,rfl⟩ hp bD (by omega) (fun i hi=>by simp only [aa]; rw [TM.beq_false (show i ≠ 1 by omega)]; rfl) (As _) ?_
 intro w G v xs cC hu aX hr
 obtain ⟨v0,v1,rfl⟩:∃v0 v1,xs=[v0,v1]:=by
  match xs,hr.1 with
  | [a,b],_=>exact ⟨a,b,rfl⟩
 have r0:=hr.2 0 _ v0 rfl rfl
 have r1:=hr.2 1 _ v1 rfl rfl
 cases r0 with | dv r0=>cases r0 with | int =>
 cases r1 with | own _ _ _ _ _ hh hc =>
 obtain ⟨b,off,c,cc,tt,rfl,gz,hw,tg,il⟩:=we aX hl
 obtain ⟨u1,N5,_,Hf⟩:=cC.node (i:=1) (ver:=0) (ep:=0) (d:=.ay 2 [eR x]) (p:=[]) rfl rfl rfl
 rw [N5] at hh; injection hh with hh; subst hh
 obtain ⟨vb,vo,vc,vv,vt,rfl,_,hv,_,Yu⟩:=we (l:=[x]) Hf (by simp)
 obtain ⟨kl,IH⟩:=Yu 0 x rfl
 simp only [Nat.zero_mul,Nat.add_zero] at kl IH
 have T0:vb ≠ b:=by
  rintro rfl
  have h0:bI G 0 (aa [(0,ao.tree 0 0 D),(1,ao.tree 0 0 (.ay 2 [eR x]))] 0) vb:=⟨p,_,_,hp,rfl,hu,rfl⟩
  have h1:bI G 1 (aa [(0,ao.tree 0 0 D),(1,ao.tree 0 0 (.ay 2 [eR x]))] 1) vb:=⟨[],_,_,rfl,rfl,N5,rfl⟩
  have:=cC.inj 0 1 vb h0 h1
  cases this
 have tG:=Cn rfl il
 have Cm:∀e w',qM b off l.length k cc (.int .i64 x.1) (.int .i64 x.2) w e w'→∃v',e=.returned v'∧v'.oneCell'=true∧w.grownBy w' (some b)∧oo w' v' 2 ((qL l k x).map eR) (fun _ _ d u=>d.af=false∧bk G.M d u)∧∀q,fm v'=some q→some b=some q ∨ w.heap.size≤q:=by
  rintro e w' ⟨g,o,cp,c',t',rfl,p1,p2,p3,p4,p5,p6,p7,p8,p9⟩
  refine ⟨_,rfl,rfl,p8,?_,fun q hq=>?_⟩
  ·have hL:=wg l k x hk
   rw [←hL]
   refine GC (by rw [hL]; exact p1) p2 p3 fun i y hy=>?_
   rw [M3 l k x hk] at hy
   by_cases h1:i<k
   ·rw [if_pos h1] at hy
    obtain ⟨e1,e2⟩:=il i y hy
    rw [p4 (i * 2) (by omega),Nat.add_assoc,p4 (i * 2+1) (by omega),←Nat.add_assoc]
    exact ⟨e1,e2⟩
   ·rw [if_neg h1] at hy
    by_cases h2:i=k
    ·subst h2; rw [if_pos rfl] at hy; injection hy with hy; subst hy; exact ⟨p5,p6⟩
    ·rw [if_neg h2] at hy
     have aJ:=(List.getElem?_eq_some_iff.1 hy).1
     obtain ⟨e1,e2⟩:=il _ y hy
     have q1:=p7 ((i - 1 - k) * 2) (by omega)
     have q2:=p7 ((i - 1 - k) * 2+1) (by omega)
     rw [show o+(k+1) * 2+(i - 1 - k) * 2=o+i * 2 by omega,show off+k * 2+(i - 1 - k) * 2=off+(i - 1) * 2 by omega] at q1
     rw [show o+(k+1) * 2+((i - 1 - k) * 2+1)=o+i * 2+1 by omega,show off+k * 2+((i - 1 - k) * 2+1)=off+(i - 1) * 2+1 by omega] at q2
     exact ⟨q1.trans e1,q2.trans e2⟩
  ·simp only [fm,Option.some.injEq] at hq
   subst hq
   rcases p9 with h | h
   ·exact .inl (by rw [h])
   ·exact .inr h
 rcases Nat.lt_or_ge k l.length with aJ | dw
 ·rcases Nat.lt_or_ge l.length c with wh | mY
  ·exact (HR b off l.length c k vb vo vc cc vv tt vt _ _ w hw hv kl IH T0 wh aJ tg (by omega) tG rfl rfl).mono fun e w' h=>Cm e w' h
  ·obtain rfl:c=l.length:=by omega
   exact (KH b off l.length k vb vo vc cc vv tt vt _ _ w hw hv kl IH aJ tg (by omega) tG rfl rfl).mono fun e w' h=>Cm e w' h
 ·obtain rfl:k=l.length:=by omega
  exact (MZ b off l.length c vb vo vc cc vv tt vt _ _ w hw hv kl IH gz tg (by omega) rfl rfl).mono fun e w' h=>Cm e w' h
theorem HU {D:DV} {p:List PS} {l:List Rk} (hp:get D p=some (.ay 2 (l.map eR))) (bD:p ≠ []) (k:Nat) (hk:k<l.length) (hlen:l.length≤1000) :
  bj Tryz.prog 127 [.own 0 0 0 p,.dv (I k),.dv (I ((k:Int)+1))] 1 [(0,.tree 0 0 D)] 1 [.own 1 1 0 []]
   [(1,.tree 1 0 (.ay 2 ((xB l k).map eR))),(0,.tree 0 0 (bO D p .any))]:=by
 have hl:l ≠ []:=by rintro rfl; simp at hk
 refine sd (K3:=[]) ⟨_,Tryz.func127,by kernel_rfl,rfl⟩ hp bD (by omega) (fun i hi=>rfl) (As _) ?_
 intro w G v xs cC hu aX hr
 obtain ⟨v0,v1,rfl⟩:∃v0 v1,xs=[v0,v1]:=by
  match xs,hr.1 with
  | [a,b],_=>exact ⟨a,b,rfl⟩
 have r0:=hr.2 0 _ v0 rfl rfl
 have r1:=hr.2 1 _ v1 rfl rfl
 cases r0 with | dv r0=>cases r0 with | int =>
 cases r1 with | dv r1=>cases r1 with | int =>
 obtain ⟨b,off,c,cc,tt,rfl,gz,hw,tg,il⟩:=we aX hl
 refine (EJ b off l.length c k cc tt w hw gz hk tg (by omega) (Cn rfl il)).mono ?_
 rintro e w' ⟨rfl,c',p1,p2,p3,p4,p5⟩
 refine ⟨_,rfl,rfl,p5,?_,fun q hq=>.inl hq⟩
 have hL:=Co l k hk
 rw [←hL]
 refine GC (by omega) p1 (by omega) fun i y hy=>?_
 rw [M4 l k hk] at hy
 by_cases h1:i<k
 ·rw [if_pos h1] at hy
  obtain ⟨e1,e2⟩:=il i y hy
  rw [p3 (i * 2) (by omega),Nat.add_assoc,p3 (i * 2+1) (by omega),←Nat.add_assoc]
  exact ⟨e1,e2⟩
 ·rw [if_neg h1] at hy
  have aJ:=(List.getElem?_eq_some_iff.1 hy).1
  obtain ⟨e1,e2⟩:=il _ y hy
  have q1:=p4 ((i - k) * 2) (by omega)
  have q2:=p4 ((i - k) * 2+1) (by omega)
  rw [show off+k * 2+(i - k) * 2=off+i * 2 by omega,show off+(k+1) * 2+(i - k) * 2=off+(i+1) * 2 by omega] at q1
  rw [show off+k * 2+((i - k) * 2+1)=off+i * 2+1 by omega,show off+(k+1) * 2+((i - k) * 2+1)=off+(i+1) * 2+1 by omega] at q2
  exact ⟨q1.trans e1,q2.trans e2⟩
theorem HV {D:DV} {p:List PS} {y:DV} (hp:get D p=some (.ay 1 [y])) (hy:y.af=true) (bD:p ≠ []) :
  bj Tryz.prog 128 [.own 0 0 0 p,.dv (I 0),.dv (I 1)] 1 [(0,.tree 0 0 D)] 1 [.own 1 1 0 []]
   [(1,.tree 1 0 (.ay 1 [])),(0,.tree 0 0 (bO D p .any))]:=by
 refine sd (K3:=[]) ⟨_,Tryz.func128,by kernel_rfl,rfl⟩ hp bD (by omega) (fun i hi=>rfl) (by simp) ?_
 intro w G v xs cC hu aX hr
 obtain ⟨v0,v1,rfl⟩:∃v0 v1,xs=[v0,v1]:=by
  match xs,hr.1 with
  | [a,b],_=>exact ⟨a,b,rfl⟩
 have r0:=hr.2 0 _ v0 rfl rfl
 have r1:=hr.2 1 _ v1 rfl rfl
 cases r0 with | dv r0=>cases r0 with | int =>
 cases r1 with | dv r1=>cases r1 with | int =>
 have T2:y.cells=[y]:=by cases y <;> first | rfl | cases hy
 rcases aX with ⟨h,_⟩ | ⟨b,off,c,cc,tt,rfl,gz,hw,tg,il⟩
 ·simp at h
 ·obtain ⟨_,q⟩:=il 0 y rfl
  obtain ⟨_,u,e1,e2⟩:=q 0 y (by rw [T2]; rfl)
  have N5:u.oneCell'=true:=by
   rcases e2 with ⟨_,e2⟩ | ⟨e2,_⟩
   ·have ai:TM.step (.ay 1 [y]) (.el 0 0)=some y:=by show y.cells[0]?=some y; rw [T2]; rfl
    have Yv:az G.H 0 0 0 (p++[.el 0 0])=some u:=e2
    obtain ⟨u',f1,f2,_⟩:=cC.node (i:=0) (ver:=0) (ep:=0) (d:=D) (p:=p++[.el 0 0]) (nd:=y) rfl (by rw [get_append,hp]; simp only [TM.get,ai]) hy
    rw [Yv] at f1; injection f1 with f1; subst f1; exact f2
   ·rw [hy] at e2; cases e2
  simp only [Nat.zero_mul,Nat.add_zero] at e1
  have:=EL b off 1 c 0 cc tt w hw (by simpa using gz) (by omega) (by simpa using tg) (by omega) (fun k v h1 h2 h3=>by
   obtain rfl:k=off:=by omega
   rw [e1] at h3; injection h3 with h3; subst h3; exact N5)
  refine this.mono ?_
  rintro e w' ⟨rfl,c',p1,p2,p3,p4,p5⟩
  refine ⟨_,rfl,rfl,p5,?_,fun q hq=>.inl hq⟩
  exact .inr ⟨b,off,c,c',tt,rfl,by simp,p1,by rw [p2]; exact tg,by simp⟩
end Go.Proofs.YtpbdohkbiklflaaGreatDoor
namespace Go.Proofs.YtpbdohkbiklflaaGreatDoor
open Go.TM
variable [cP]
structure lP (l:List Rk) (k:Nat) (x:Rk):Prop where
 le:k≤l.length
 lo:∀i y,i<k→l[i]?=some y→kz y x=true
 hi:∀i y,k≤i→l[i]?=some y→kz y x=false
set_option maxRecDepth 100000
set_option maxHeartbeats 4000000 in
theorem HW (f:Bool) (x:Rk):bj Tryz.prog 116 [.own 0 0 0 [],.agg [.dv (I x.1),.dv (I x.2)]] 1 (kM f []) 0 [] [(0,.tree 0 1 (dZ false [x]))]:=by
 have yz:(nth tab (nth tab 111).elem).bytes=24:=by kernel_rfl
 cases f
 ·refine bl aK mixed (aq _) (ar _) Tryz.func116 rfl rfl (by kernel_rfl) ?_
  refine .inr ⟨[0],[.own 0 0 0 [],.agg [.dv (I x.1),.dv (I x.2)]],_,0,_,_,tc false x,by kernel_rfl,by kernel_rfl,⟨rfl,⟨rf,rf,tv⟩,tv⟩,⟨⟨rfl,rfl⟩,tv⟩,?_⟩
  refine ⟨fun _=>?_,fun h=>by simp at h⟩
  refine .inr (.inl ⟨[eR x],rfl,⟨rf,rf,tv⟩,by simp [eR,DV.cells]; rfl,?_⟩)
  refine .inr (.inl ⟨[.ay 2 [eR x]],rfl,⟨rfl,tv⟩,by simp [DV.cells]; rfl,?_⟩)
  refine .inr (.inr ⟨rfl,[.ay 2 [eR x]],eO.refl _,by rw [yz]; simp,by simp,?_⟩)
  refine ⟨[.ay 1 [.ay 2 [eR x]]],⟨rfl,tv⟩,?_⟩
  exact ⟨by kernel_rfl,_,_,⟨rfl,rfl⟩,by kernel_rfl,tv,⟨rfl,rfl⟩,tv⟩
 ·refine bl aK mixed (aq _) (ar _) Tryz.func116 rfl rfl (by kernel_rfl) ?_
  refine .inr ⟨[0],[.own 0 0 0 [],.agg [.dv (I x.1),.dv (I x.2)]],_,0,_,_,tc true x,by kernel_rfl,by kernel_rfl,⟨rfl,⟨rf,rf,tv⟩,tv⟩,⟨⟨rfl,rfl⟩,tv⟩,?_⟩
  refine ⟨fun _=>?_,fun h=>by simp at h⟩
  refine .inr (.inl ⟨[eR x],rfl,⟨rf,rf,tv⟩,by simp [eR,DV.cells]; rfl,?_⟩)
  refine .inr (.inl ⟨[.ay 2 [eR x]],rfl,⟨rfl,tv⟩,by simp [DV.cells]; rfl,?_⟩)
  refine .inr (.inr ⟨rfl,[.ay 2 [eR x]],eO.refl _,by rw [yz]; simp,by simp,?_⟩)
  refine ⟨[.ay 1 [.ay 2 [eR x]]],⟨rfl,tv⟩,?_⟩
  exact ⟨by kernel_rfl,_,_,⟨rfl,rfl⟩,by kernel_rfl,tv,⟨rfl,rfl⟩,tv⟩
set_option maxHeartbeats 4000000 in
theorem HX (x r:Rk) (l:List Rk) (k:Nat) (hl:(r::l).length≤511) (hp:lP (r::l) k x):bj Tryz.prog 116 [.own 0 0 0 [],.agg [.dv (I x.1),.dv (I x.2)]] 1 (kM false (r::l)) 0 [] [(0,.tree 0 1 (dZ false (qL (r::l) k x)))]:=by
 have tL:=HS (D:=dZ false (r::l)) (p:=[.el 0 1,.el 0 0]) (l:=r::l) rfl (by simp) x k hp.le (by simp) (by omega)
 obtain ⟨y,L',hL⟩:∃y L',qL (r::l) k x=y::L':=by
  cases h:qL (r::l) k x with
  | nil=>have:=wg (r::l) k x hp.le; rw [h] at this; simp at this
  | cons y L'=>exact ⟨y,L',rfl⟩
 rw [hL] at tL ⊢
 refine bl aK mixed (aq _) (ar _) Tryz.func116 rfl rfl (by kernel_rfl) ?_
 refine .inr ⟨[0],[.own 0 0 0 [],.agg [.dv (I x.1),.dv (I x.2)]],_,0,_,_,td x r l k hp.le (by omega) hp.lo hp.hi,by kernel_rfl,by kernel_rfl,⟨rfl,⟨rf,rf,tv⟩,tv⟩,⟨⟨rfl,rfl⟩,tv⟩,?_⟩
 refine ⟨fun h=>by simp at h,fun _=>?_⟩
 refine ⟨fun _=>⟨by omega,by show (0:Int)<1; omega⟩,.ay 2 ((r::l).map eR),fun _=>rfl,?_⟩
 refine .inr (.inl ⟨[eR x],rfl,⟨rf,rf,tv⟩,by simp [eR,DV.cells]; rfl,?_⟩)
 refine .inr ⟨[0,2],[.own 0 0 0 [.el 0 1,.el 0 0],.dv (I k),.own 1 0 0 []],_,1,_,_,tL,by kernel_rfl,by kernel_rfl,⟨rfl,rf,rfl,tv⟩,⟨⟨rfl,rfl⟩,⟨rfl,rfl⟩,tv⟩,?_⟩
 refine ⟨by kernel_rfl,?_⟩
 refine ⟨fun _=>⟨by omega,by show (0:Int)<1; omega⟩,[.ay 2 ((y::L').map eR)],⟨rfl,tv⟩,.any,rfl,?_⟩
 refine ⟨fun h=>?_,fun _=>?_⟩
 ·exfalso
  have:=of_decide_eq_true h
  rw [List.length_map,List.length_map,←hL,wg _ _ _ hp.le] at this
  omega
 ·exact ⟨_,_,⟨rfl,rfl⟩,by kernel_rfl,tv,⟨rfl,rfl⟩,tv⟩
set_option maxHeartbeats 4000000 in
theorem KL (x r:Rk) (l:List Rk) (k:Nat) (hl:(r::l).length≤511) (hk:k<(r::l).length) (hp:lP (r::l) k x):bj Tryz.prog 115 [.own 0 0 0 [],.agg [.dv (I x.1),.dv (I x.2)]] 1 (kM false (r::l)) 0 [] [(0,.tree 0 1 (dZ false (xB (r::l) k)))]:=by
 have tL:=HU (D:=dZ false (r::l)) (p:=[.el 0 1,.el 0 0]) (l:=r::l) rfl (by simp) k hk (by omega)
 generalize hL:xB (r::l) k=L at tL
 refine vn aK mixed (aq _) (ar _) Tryz.func115 rfl rfl (by kernel_rfl) ?_
 refine .inl (.inr ⟨[0],[.own 0 0 0 [],.agg [.dv (I x.1),.dv (I x.2)]],_,0,_,_,td x r l k hp.le (by omega) hp.lo hp.hi,by kernel_rfl,by kernel_rfl,⟨rfl,⟨rf,rf,tv⟩,tv⟩,⟨⟨rfl,rfl⟩,tv⟩,?_⟩)
 refine ⟨fun _=>⟨by omega,by show (0:Int)<1; omega⟩,.ay 2 ((r::l).map eR),fun _=>rfl,?_⟩
 refine ⟨fun _=>⟨by omega,by have:(r::l).length≤511:=hl; omega⟩,?_⟩
 refine .inr ⟨[0],[.own 0 0 0 [.el 0 1,.el 0 0],.dv (I k),.dv (I ((k:Int)+1))],_,1,_,_,tL,by kernel_rfl,by kernel_rfl,⟨rfl,rf,rf,tv⟩,⟨⟨rfl,rfl⟩,tv⟩,?_⟩
 refine ⟨fun _=>⟨by omega,by show (0:Int)<1; omega⟩,[.ay 2 (L.map eR)],⟨rfl,tv⟩,.any,rfl,?_⟩
 refine .inr ⟨[(0,15),(1,15),(2,15),(3,15),(16,15)],by kernel_rfl,qK (pol:=EH) (by kernel_rfl) (by kernel_rfl),?_⟩
 refine ⟨fun _=>⟨by omega,by show (0:Int)<1; omega⟩,.ay 2 (L.map eR),fun _=>rfl,?_⟩
 refine ⟨.ay 2 (L.map eR),fun _=>rfl,?_⟩
 cases L with
 | nil =>
  refine ⟨fun _=>?_,fun h=>by simp at h⟩
  have hB:=HV (D:=.cT (.agg [.fn 33 [],.ay 1 [.ay 2 []]])) (p:=[.el 0 1]) (y:=.ay 2 []) rfl rfl (by simp)
  refine ⟨fun _=>⟨by omega,by omega⟩,?_⟩
  refine .inl (.inr ⟨[0],[.own 0 0 0 [.el 0 1],.dv (I 0),.dv (I 1)],_,1,_,_,hB,by kernel_rfl,by kernel_rfl,⟨rfl,rf,rf,tv⟩,⟨⟨rfl,rfl⟩,tv⟩,?_⟩)
  exact ⟨[.ay 1 []],⟨rfl,tv⟩,_,_,⟨rfl,rfl⟩,by kernel_rfl,tv,⟨rfl,rfl⟩,tv⟩
 | cons y L' =>
  refine ⟨fun h=>by simp at h; omega,fun _=>?_⟩
  exact ⟨_,_,⟨rfl,rfl⟩,by kernel_rfl,tv,⟨rfl,rfl⟩,tv⟩
end Go.Proofs.YtpbdohkbiklflaaGreatDoor
namespace Go.Proofs.YtpbdohkbiklflaaGreatDoor
open Go.TM
variable [cP]
set_option maxRecDepth 100000
theorem qN (sz:Nat):DV.Le .aG (.sl sz []):=fun M v h=>by cases h; exact .slnil _
set_option maxHeartbeats 4000000 in
theorem Cp (f:Bool) (n:Int):bj Tryz.prog 55 [.own 0 0 0 [],.dv (I n)] 1 (kM f []) 0 [.dv (.sl 2 [])] (kM f []):=by
 cases f
 all_goals
  refine bl aK mixed (aq _) (ar _) Tryz.func55 rfl rfl (by kernel_rfl) ?_
 ·refine ⟨Unit,fun _=>⟨1,[(5,.dv .aG),(12,.dv (I 0)),(13,.dv (I 0))],kM false []⟩,fun _=>True,fun _=>0,(),fun _=>rfl,⟨⟨rf,rf,rf,tv⟩,⟨⟨rfl,rfl⟩,tv⟩,rfl,rfl⟩,tv,?_⟩
  rintro _ _
  refine ⟨fun h=>by simp at h,fun _=>?_⟩
  exact ⟨_,_,⟨rfl,rfl⟩,by kernel_rfl,⟨qN _,tv⟩,⟨rfl,rfl⟩,tv⟩
 ·refine ⟨Unit,fun _=>⟨1,[(5,.dv .aG),(12,.dv (I 0)),(13,.dv (I 0))],kM true []⟩,fun _=>True,fun _=>0,(),fun _=>rfl,⟨⟨rf,rf,rf,tv⟩,⟨⟨rfl,rfl⟩,tv⟩,rfl,rfl⟩,tv,?_⟩
  rintro _ _
  refine ⟨fun h=>by simp at h,fun _=>?_⟩
  exact ⟨_,_,⟨rfl,rfl⟩,by kernel_rfl,⟨qN _,tv⟩,⟨rfl,rfl⟩,tv⟩
def SE (n:Nat) (l:List Rk) (q:Bool):bo:=⟨2,[(0,.own 0 0 0 []),(1,.dv (I n)),(5,.own 1 0 0 []),(11,.own 0 0 0 [.el 0 1]),(12,.dv (I 1)),(13,.dv (I (bif q then 1 else 0)))],[(0,.tree 0 0 (dZ false l)),(1,.tree 0 0 (.ay 2 (bif q then (l.take n).map eR else [])))]⟩
theorem Ql {n:Nat} (hn:1≤n):decide ((n:Int)≤(([]:List DV).length:Int))=false:=by simp; omega
set_option maxHeartbeats 4000000 in
theorem Cq (n:Nat) (hn:1≤n) (KF:n≤9223372036854775807) (r:Rk) (l:List Rk) (hl:(r::l).length≤1000):bj Tryz.prog 55 [.own 0 0 0 [],.dv (I n)] 1 (kM false (r::l)) 0 [.dv (.sl 2 (((r::l).take n).map eR))] (kM false (r::l)):=by
 have yz:(nth tab (nth tab 65).elem).bytes=16:=by kernel_rfl
 refine bl aK mixed (aq _) (ar _) Tryz.func55 rfl rfl (by kernel_rfl) ?_
 refine ⟨Bool,SE n (r::l),fun _=>True,fun q=>bif q then 0 else 1,false,fun q=>by cases q <;> rfl,⟨⟨rfl,rf,⟨rfl,rfl,rfl,rfl,2,rfl⟩,rfl,rf,rf,tv⟩,⟨⟨rfl,rfl⟩,⟨rfl,rfl,2,rfl⟩,tv⟩,rfl,rfl⟩,tv,?_⟩
 intro q _
 cases q with
 | true =>
  refine ⟨fun h=>by simp at h,fun _=>?_⟩
  refine ⟨_,_,⟨rfl,rfl⟩,by kernel_rfl,⟨?_,tv⟩,⟨rfl,rfl⟩,tv⟩
  show DV.Le (.sl 2 (HO (((r::l).take n).map eR))) _
  rw [tZ fun x=>rfl]
  exact rf
 | false =>
  refine ⟨fun _=>?_,fun h=>by simp at h⟩
  refine ⟨fun _=>⟨by show (0:Int)≤0; omega,by show (0:Int)<1; omega⟩,.ay 2 ((r::l).map eR),fun _=>rfl,?_⟩
  refine ⟨fun h=>absurd ((Ql hn).symm.trans h) (by simp),fun _=>?_⟩
  refine ⟨.ay 2 ((r::l).map eR),fun _=>rfl,?_⟩
  refine ⟨fun _=>⟨by show (-9223372036854775808:Int)≤(n:Int) - 0; omega,by show (n:Int) - 0≤9223372036854775807; omega⟩,?_⟩
  refine .inr (.inl ⟨.ay 2 ((r::l).map eR),fun _=>rfl,fun _=>⟨Int.le_refl _,?_,?_⟩,?_⟩)
  ·show (0:Int)≤if (n:Int) - 0<(((r::l).map eR).length:Int) then (n:Int) - 0 else (((r::l).map eR).length:Int)
   split <;> omega
  ·show (if (n:Int) - 0<(((r::l).map eR).length:Int) then (n:Int) - 0 else (((r::l).map eR).length:Int))≤(((r::l).map eR).length:Int)
   split <;> omega
  have hM:((((r::l).map eR).drop 0).take ((if (n:Int) - 0<(((r::l).map eR).length:Int) then (n:Int) - 0 else (((r::l).map eR).length:Int)).toNat - 0))=((r::l).take n).map eR:=by
   rw [List.drop_zero,List.map_take]
   split
   ·rename_i h; rw [show ((n:Int) - 0).toNat - 0=n by omega]
   ·rename_i h
    rw [show (((((r::l).map eR).length:Int)).toNat - 0)=((r::l).map eR).length by omega,List.take_length,List.take_of_length_le (by omega)]
  have hz:(((r::l).take n).map eR).length≤1000:=by simp; simp at hl; omega
  refine .inr ⟨.ay 2 ((r::l).map eR),fun _=>rfl,?_,As _,((r::l).take n).map eR,?_,?_,?_,?_⟩
  ·show (0:Nat)+((if (n:Int) - 0<(((r::l).map eR).length:Int) then (n:Int) - 0 else (((r::l).map eR).length:Int)).toNat - 0)≤((r::l).map eR).length
   split <;> omega
  ·show eO ((((r::l).map eR).drop 0).take ((if (n:Int) - 0<(((r::l).map eR).length:Int) then (n:Int) - 0 else (((r::l).map eR).length:Int)).toNat - 0)) _
   rw [hM]; exact eO.refl _
  ·rw [yz]; show (0+(((r::l).take n).map eR).length) * 16≤_; omega
  ·show 0+(((r::l).take n).map eR).length≤_; omega
  ·refine ⟨fun _=>⟨by show (-9223372036854775808:Int)≤0+1; omega,by show (0:Int)+1≤9223372036854775807; omega⟩,?_⟩
   exact ⟨true,⟨⟨rfl,rf,rfl,rfl,rf,rf,tv⟩,⟨⟨rfl,rfl⟩,⟨rfl,rfl⟩,tv⟩,rfl,rfl⟩,tv,by decide⟩
end Go.Proofs.YtpbdohkbiklflaaGreatDoor
namespace Go.Proofs.YtpbdohkbiklflaaGreatDoor
open Go.TM
variable [cP]
abbrev Ky:=Int × Int
def xa (k:Ky):DV:=.agg [I k.1,I k.2]
abbrev HM:=List (Ky × Int)
def qO (p:Ky × Int):DV:=.fe (xa p.1) (I p.2)
def bp:HM→Ky→Option Int
 | [],_=>none
 | p::r,k=>if p.1=k then some p.2 else bp r k
def bP:HM→Ky→Int→HM
 | [],k,x=>[(k,x)]
 | p::r,k,x=>if p.1=k then (k,x)::r else p::bP r k x
def iF:HM→Ky→HM
 | [],_=>[]
 | p::r,k=>if p.1=k then r else p::iF r k
def hv (m:HM) (k:Ky):Int:=(bp m k).getD 0
theorem EM (a b:Ky):tK (xa a) (xa b)=decide (a=b):=by
 obtain ⟨a1,a2⟩:=a
 obtain ⟨b1,b2⟩:=b
 simp only [xa,tK,y9,Bf,Prod.mk.injEq]
 simp
 try rw [Bool.eq_iff_iff]; simp
theorem EO (k:Ky):∀m:HM,bJ (m.map qO) (xa k)=(bp m k).map I
 | []=>rfl
 | p::r=>by
  simp only [List.map_cons,qO,bJ,EM,bp]
  by_cases h:p.1=k
  ·simp [h]
  ·simp only [h,decide_false,cond_false,if_false]
   exact EO k r
theorem se (k:Ky) (x:Int):∀m:HM,ez (m.map qO) (xa k) (I x)=(bP m k x).map qO
 | []=>rfl
 | p::r=>by
  simp only [List.map_cons,qO,ez,EM,bP]
  by_cases h:p.1=k
  ·simp [h,qO]
  ·simp only [h,decide_false,cond_false,if_false,List.map_cons]
   have:=se k x r
   rw [this]
   rfl
theorem KM (k:Ky):∀m:HM,fF (m.map qO) (xa k)=(iF m k).map qO
 | []=>rfl
 | p::r=>by
  simp only [List.map_cons,qO,fF,EM,iF]
  by_cases h:p.1=k
  ·simp [h]
  ·simp only [h,decide_false,cond_false,if_false,List.map_cons]
   have:=KM k r
   rw [this]
   rfl
structure Sl where
 tick:Int
 n:Int
 c:Int
 bN:Int
 cz:Int
def bU (x:Sl):DV:=.agg [I x.tick,I x.n,I x.c,I x.bN,I x.cz]
def T3:Bool→List Sl→DV
 | true,_=>.aG
 | false,l=>.ay 5 (l.map bU)
structure Vs where
 coin:Int
 ab:Int
 aD:Int
 last:Int
 work:Int
 H:HM
 dp:List Int
 rk:List (Bool × List Rk)
 sl:List (Bool × List Sl)
 bS:List Int
def GD (x:Bool × List Rk):DV:=dZ x.1 x.2
def mE (x:Bool × List Sl):DV:=T3 x.1 x.2
def vC (f:Bool) (s:Vs):List AV:=[.dv (I 4),.dv (I s.coin),.dv (I s.ab),.dv (I s.aD),.dv (I s.last),.dv (I s.work),.own 1 0 0 [],.own 2 0 0 [],.own 3 0 (bif f then 1 else 0) [],.own 4 0 0 [],.own 5 0 0 []]
def vK (f:Bool) (s:Vs):ah:=[(0,.cells (vC f s)),(1,.tree 0 0 (.omap ei (s.H.map qO))),(2,.tree 0 0 (iM s.dp)),(3,.tree 0 (bif f then 1 else 0) (.ay 1 (s.rk.map GD))),(4,.tree 0 0 (.ay 1 (s.sl.map mE))),(5,.tree 0 0 (iM s.bS))]
where
 iM (l:List Int):DV:=.ay 1 (l.map I)
def ot (l:List Rk) (x:Rk):Nat:=l.countP fun y=>kz y x
def si (l:List Rk) (x:Rk):List Rk:=qL l (ot l x) x
def lQ (l:List Rk) (x:Rk):List Rk:=xB l (ot l x)
theorem GF {L:List DV} {i:Nat} {c:DV} (h:L[i]?=some c) (hc:c.af=true):TM.step (.ay 1 L) (.el i 0)=some c:=by
 have gU:c.cells=[c]:=by cases c <;> first | rfl | cases hc
 show (match L[i]? with | some x=>x.cells[0]? | none=>none)=_
 rw [h]
 show c.cells[0]?=_
 rw [gU]; rfl
theorem ua {L:List DV} {i:Nat} {c c':DV} (h:L[i]?=some c) (hc:c.af=true) (mz:c'.ak=true):bO (.ay 1 L) [.el i 0] c'=.ay 1 (L.set i c'):=by
 simp only [bO,GF h hc]
 show (match L[i]? with | some x=>DV.ay 1 (L.set i (pT x 0 c')) | none=>DV.ay 1 L)=_
 rw [h]
 cases c <;> first | (cases hc; done) | simp [pT,mz]
theorem wi {L:List DV} {i:Nat} {c:DV} (h:L[i]?=some c) (hc:c.af=true):TM.get (.ay 1 L) [.el i 0]=some c:=by
 simp only [TM.get,GF h hc]
set_option maxRecDepth 100000
theorem yA {L:List DV} {i:Nat} {l:List Rk} (h:L[i]?=some (dZ false l)) (x:Rk) (hl:l.length≤511) (hk:ot l x<l.length) (hp:lP l (ot l x) x) :
  bj Tryz.prog 115 [.own 0 0 0 [.el i 0],.agg [.dv (I x.1),.dv (I x.2)]] 1 [(0,.tree 0 0 (.ay 1 L))] 0 [] [(0,.tree 0 2 (.ay 1 (L.set i (dZ false (lQ l x)))))]:=by
 obtain ⟨r,l',rfl⟩:∃r l',l=r::l':=by
  cases l with
  | nil=>simp at hk
  | cons r l'=>exact ⟨r,l',rfl⟩
 have:=pt (p:=[.el i 0]) (D:=.ay 1 L) (KL x r l' _ hl hk hp) (wi h rfl) (by simp) rfl rfl rfl rfl
 rw [ua h rfl rfl] at this
 exact this
theorem yB {L:List DV} {i:Nat} {f:Bool} {l:List Rk} (h:L[i]?=some (dZ f l)) (hf:f=true→l=[]) (x:Rk) (hl:l.length≤511) (hp:lP l (ot l x) x) :
  bj Tryz.prog 116 [.own 0 0 0 [.el i 0],.agg [.dv (I x.1),.dv (I x.2)]] 1 [(0,.tree 0 0 (.ay 1 L))] 0 [] [(0,.tree 0 2 (.ay 1 (L.set i (dZ false (si l x)))))]:=by
 cases l with
 | nil =>
  have:=pt (p:=[.el i 0]) (D:=.ay 1 L) (HW f x) (wi h rfl) (by simp) rfl rfl rfl rfl
  rw [ua h rfl rfl] at this
  exact this
 | cons r l' =>
  cases f with
  | true=>have:=hf rfl; cases this
  | false =>
   have:=pt (p:=[.el i 0]) (D:=.ay 1 L) (HX x r l' _ hl hp) (wi h rfl) (by simp) rfl rfl rfl rfl
   rw [ua h rfl rfl] at this
   exact this
theorem gX:rP Tryz.prog (nth tab 74).key ei:=x9 aK (by kernel_rfl)
def cG (s:Vs) (k:Ky) (i:Nat) (now:Int):Vs :=
 if hv s.H k=now then s else
 let s1:={ s with work:=s.work+1,dp:=s.dp.set i (s.dp.getD i 0+(now - hv s.H k)),H:=if now=0 then iF s.H k else bP s.H k now }
 if 1048576≤k.1 then s1 else
 let l0:=(s.rk.getD i (true,[])).2
 let l1:=if hv s.H k ≠ 0 then lQ l0 (k.1,hv s.H k) else l0
 let f1:=if hv s.H k ≠ 0 then false else (s.rk.getD i (true,[])).1
 let r2:=if now ≠ 0 then (false,si l1 (k.1,now)) else (f1,l1)
 {s1 with rk:=s.rk.set i r2 }
def cu (s:Vs) (k:Ky) (now:Int):Bool:=!decide (hv s.H k=now) && !decide (1048576≤k.1)
structure KN (s:Vs) (k:Ky) (i:Nat) (now:Int):Prop where
 it:k.2=(i:Int)
 tl:i<s.dp.length
 rl:i<s.rk.length
 nb:0≤now∧now≤4611686018427387904
 hb:0≤hv s.H k∧hv s.H k≤4611686018427387904
 tb:-4611686018427387904≤s.dp.getD i 0∧s.dp.getD i 0≤4611686018427387904∧s.dp.getD i 0+(now - hv s.H k)≤4611686018427387904∧-4611686018427387904≤s.dp.getD i 0+(now - hv s.H k)
 wb:0≤s.work∧s.work≤4611686018427387904
 ll:(s.rk.getD i (true,[])).2.length≤510
 lf:(s.rk.getD i (true,[])).1=true→(s.rk.getD i (true,[])).2=[]
 rem:k.1<1048576→hv s.H k ≠ 0→ot (s.rk.getD i (true,[])).2 (k.1,hv s.H k)<(s.rk.getD i (true,[])).2.length∧lP (s.rk.getD i (true,[])).2 (ot (s.rk.getD i (true,[])).2 (k.1,hv s.H k)) (k.1,hv s.H k)
 ins:k.1<1048576→now ≠ 0→∀l1,l1=(if hv s.H k ≠ 0 then lQ (s.rk.getD i (true,[])).2 (k.1,hv s.H k) else (s.rk.getD i (true,[])).2)→lP l1 (ot l1 (k.1,now)) (k.1,now)
set_option maxHeartbeats 4000000 in
theorem Cr (s:Vs) (k:Ky) (i:Nat) (now:Int) (ok:KN s k i now):bj Tryz.prog 53 [.ptr 0 0,.agg [.dv (I k.1),.dv (I k.2)],.dv (I now)] 6 (vK false s) 0 [] (vK (cu s k now) (cG s k i now)):=by
 obtain ⟨a,it⟩:=k
 obtain rfl:it=(i:Int):=ok.it
 refine bl aK mixed (aq _) (ar _) Tryz.func53 rfl rfl (by kernel_rfl) ?_
 have hg:bJ (s.H.map qO) (xa (a,(i:Int)))=bif (bp s.H (a,(i:Int))).isSome then some (I (hv s.H (a,(i:Int)))) else none:=by
  rw [EO]
  unfold hv
  cases bp s.H (a,(i:Int)) <;> rfl
 refine ⟨gX,xa (a,(i:Int)),rfl,rfl,I (hv s.H (a,(i:Int))),(bp s.H (a,(i:Int))).isSome,fun _=>hg,fun h=>?_,rfl,?_⟩
 ·unfold hv
  cases hq:bp s.H (a,(i:Int)) with
  | none=>rfl
  | some x=>rw [hq] at h; cases h
 have Zt:=ok.nb
 have Zu:=ok.hb
 have Zv:=ok.tb
 have Zw:=ok.wb
 have ht:s.dp[i]?=some (s.dp.getD i 0):=by rw [List.getD_eq_getElem?_getD,List.getElem?_eq_getElem ok.tl]; rfl
 generalize hb:hv s.H (a,(i:Int))=before at *
 refine ⟨by kernel_rfl,fun he=>?_,fun bD=>?_⟩
 ·have he:before=now:=by simpa using he
  rw [show cG s (a,(i:Int)) i now=s by simp only [cG]; rw [if_pos (hb.trans he)],show cu s (a,(i:Int)) now=false by simp only [cu]; rw [hb,he]; simp]
  exact ⟨_,_,⟨rfl,rfl⟩,by kernel_rfl,tv,⟨rf,rf,rf,rf,rf,rf,rfl,rfl,rfl,rfl,rfl,tv⟩,⟨rfl,rfl⟩,⟨rfl,rfl⟩,⟨rfl,rfl⟩,⟨rfl,rfl⟩,⟨rfl,rfl⟩,tv⟩
 have bD:before ≠ now:=by simpa using bD
 refine ⟨fun _=>⟨by omega,by omega⟩,?_⟩
 have KO:(i:Int)<((s.dp.map I).length:Int):=by rw [List.length_map]; have:=ok.tl; omega
 refine ⟨fun _=>⟨by show (0:Int)≤(i:Int); omega,KO⟩,I (s.dp.getD i 0),fun _=>by show (s.dp.map I)[((i:Int)).toNat]?=_; rw [Int.toNat_natCast,List.getElem?_map,ht]; rfl,?_⟩
 refine ⟨fun _=>⟨by omega,by omega⟩,?_⟩
 refine ⟨fun _=>⟨by omega,by omega⟩,?_⟩
 have iQ:(s.dp.map I)[((i:Int)).toNat]?=some (I (s.dp.getD i 0)):=by rw [Int.toNat_natCast,List.getElem?_map,ht]; rfl
 refine ⟨fun _=>⟨by show (0:Int)≤(i:Int); omega,KO⟩,[I (s.dp.getD i 0+(now - before))],⟨rf,tv⟩,I (s.dp.getD i 0),iQ,?_⟩
 have b2:DV.ay 1 ((s.dp.map I).set i (I (s.dp.getD i 0+(now - before))))=vK.iM (s.dp.set i (s.dp.getD i 0+(now - before))):=by simp only [vK.iM,List.map_set]
 have b1:DV.omap ei (fF (s.H.map qO) (xa (a,(i:Int))))=.omap ei ((iF s.H (a,(i:Int))).map qO):=by rw [KM]
 have Vu:DV.omap ei (ez (s.H.map qO) (xa (a,(i:Int))) (I now))=.omap ei ((bP s.H (a,(i:Int)) now).map qO):=by rw [se]
 have T4:(i:Int)<((s.rk.map GD).length:Int):=by rw [List.length_map]; have:=ok.rl; omega
 have Qm:s.rk[i]?=some (s.rk.getD i (true,[])):=by rw [List.getD_eq_getElem?_getD,List.getElem?_eq_getElem ok.rl]; rfl
 have OB:(s.rk.map GD)[((i:Int)).toNat]?=some (GD (s.rk.getD i (true,[]))):=by rw [Int.toNat_natCast,List.getElem?_map,Qm]; rfl
 have Yw:=ok.ll
 have T5:=ok.lf
 have T6:=ok.rem
 have T7:=ok.ins
 rw [hb] at T6 T7
 generalize iG:s.rk.getD i (true,[])=q0 at *
 obtain ⟨f0,l0⟩:=q0
 simp only at Yw T5 T6 T7
 have Qn:(s.rk.map GD)[i]?=some (dZ f0 l0):=by rw [List.getElem?_map,Qm]; rfl
 refine ⟨by kernel_rfl,fun h0=>?_,fun h0=>?_⟩
 ·have h0:now=0:=by simpa using h0
  subst h0
  refine ⟨gX,xa (a,(i:Int)),rfl,rfl,by kernel_rfl,fun hp=>?_,fun hp=>?_⟩
  ·have hp:1048576≤a:=of_decide_eq_true hp
   rw [show cG s (a,(i:Int)) i 0={ s with work:=s.work+1,dp:=s.dp.set i (s.dp.getD i 0+(0 - before)),H:=iF s.H (a,(i:Int)) } by simp only [cG,hb]; rw [if_neg bD,if_pos hp]; rfl,show cu s (a,(i:Int)) 0=false by simp only [cu]; simp [hp]]
   exact ⟨_,_,⟨rfl,rfl⟩,by kernel_rfl,tv,⟨rf,rf,rf,rf,rf,rf,rfl,rfl,rfl,rfl,rfl,tv⟩,⟨rfl,b1⟩,⟨rfl,b2⟩,⟨rfl,rfl⟩,⟨rfl,rfl⟩,⟨rfl,rfl⟩,tv⟩
  ·have hp:a<1048576:=by have:=of_decide_eq_false hp; simp only at this; omega
   refine ⟨fun _=>?_,fun h=>absurd h (by simpa using bD)⟩
   refine ⟨fun _=>⟨by show (0:Int)≤(i:Int); omega,T4⟩,dZ f0 l0,fun _=>OB,?_⟩
   obtain ⟨r1,r2⟩:=T6 hp bD
   obtain rfl:f0=false:=by
    cases f0 with
    | false=>rfl
    | true=>rw [T5 rfl] at r1; simp at r1
   have Qo:=yA Qn (a,before) (by omega) r1 r2
   refine .inr ⟨[3],[.own 0 0 0 [.el i 0],.agg [.dv (I a),.dv (I before)]],[(0,.tree 0 0 (.ay 1 (s.rk.map GD)))],0,_,_,Qo,by kernel_rfl,by kernel_rfl,⟨rfl,⟨rf,rf,tv⟩,tv⟩,⟨⟨rfl,rfl⟩,tv⟩,?_⟩
   refine ⟨by kernel_rfl,fun h=>absurd h (by simp),fun _=>?_⟩
   rw [show cG s (a,(i:Int)) i 0={ s with work:=s.work+1,dp:=s.dp.set i (s.dp.getD i 0+(0 - before)),H:=iF s.H (a,(i:Int)),rk:=s.rk.set i (false,lQ l0 (a,before)) } by simp only [cG,hb]; rw [if_neg bD,if_neg (by omega)]; simp only [iG,ne_eq,not_true_eq_false,if_false,bD,not_false_eq_true,if_true],show cu s (a,(i:Int)) 0=true by simp only [cu,hb]; simp [bD]; omega]
   exact ⟨_,_,⟨rfl,rfl⟩,by kernel_rfl,tv,⟨rf,rf,rf,rf,rf,rf,rfl,rfl,rfl,rfl,rfl,tv⟩,⟨rfl,b1⟩,⟨rfl,b2⟩,⟨rfl,by simp only [List.map_set]; rfl⟩,⟨rfl,rfl⟩,⟨rfl,rfl⟩,tv⟩
 ·have h0:now ≠ 0:=by simpa using h0
  refine ⟨gX,xa (a,(i:Int)),rfl,rfl,I now,⟨rf,tv⟩,rfl,false,fun _=>⟨?_,?_⟩,by kernel_rfl,fun hp=>?_,fun hp=>?_⟩
  ·intro x hx d hd
   rw [hg] at hx
   cases hk:(bp s.H (a,(i:Int))).isSome with
   | false=>rw [hk] at hx; cases hx
   | true=>rw [hk] at hx; injection hx with hx; subst hx; simp [DV.cells] at hd; subst hd; rfl
  ·intro d hd
   simp [DV.cells] at hd; subst hd; rfl
  ·have hp:1048576≤a:=of_decide_eq_true hp
   rw [show cG s (a,(i:Int)) i now={ s with work:=s.work+1,dp:=s.dp.set i (s.dp.getD i 0+(now - before)),H:=bP s.H (a,(i:Int)) now } by simp only [cG,hb]; rw [if_neg bD,if_pos hp,if_neg h0],show cu s (a,(i:Int)) now=false by simp only [cu]; simp [hp]]
   exact ⟨_,_,⟨rfl,rfl⟩,by kernel_rfl,tv,⟨rf,rf,rf,rf,rf,rf,rfl,rfl,rfl,rfl,rfl,tv⟩,⟨rfl,Vu⟩,⟨rfl,b2⟩,⟨rfl,rfl⟩,⟨rfl,rfl⟩,⟨rfl,rfl⟩,tv⟩
  ·have hp:a<1048576:=by have:=of_decide_eq_false hp; simp only at this; omega
   refine ⟨fun M5=>?_,fun M5=>?_⟩
   ·have M5:before ≠ 0:=by simpa using M5
    refine ⟨fun _=>⟨by show (0:Int)≤(i:Int); omega,T4⟩,dZ f0 l0,fun _=>OB,?_⟩
    obtain ⟨r1,r2⟩:=T6 hp M5
    obtain rfl:f0=false:=by
     cases f0 with
     | false=>rfl
     | true=>rw [T5 rfl] at r1; simp at r1
    have Qo:=yA Qn (a,before) (by omega) r1 r2
    refine .inr ⟨[3],[.own 0 0 0 [.el i 0],.agg [.dv (I a),.dv (I before)]],[(0,.tree 0 0 (.ay 1 (s.rk.map GD)))],0,_,_,Qo,by kernel_rfl,by kernel_rfl,⟨rfl,⟨rf,rf,tv⟩,tv⟩,⟨⟨rfl,rfl⟩,tv⟩,?_⟩
    refine ⟨by kernel_rfl,fun _=>?_,fun h=>absurd h (by simpa using h0)⟩
    have SF:(lQ l0 (a,before)).length≤511:=by unfold lQ; rw [Co _ _ r1]; omega
    have iN:((s.rk.map GD).set i (dZ false (lQ l0 (a,before))))[i]?=some (dZ false (lQ l0 (a,before))):=by rw [List.getElem?_set_self (by rw [List.length_map]; exact ok.rl)]
    have Qp:=yB iN (fun h=>by cases h) (a,now) SF (T7 hp h0 _ (by rw [if_pos M5]))
    refine ⟨fun _=>⟨by show (0:Int)≤(i:Int); omega,by rw [List.length_set]; exact T4⟩,dZ false (lQ l0 (a,before)),fun _=>iN,?_⟩
    refine .inr ⟨[3],[.own 0 0 0 [.el i 0],.agg [.dv (I a),.dv (I now)]],[(0,.tree 0 0 (.ay 1 ((s.rk.map GD).set i (dZ false (lQ l0 (a,before))))))],0,_,_,Qp,by kernel_rfl,by kernel_rfl,⟨rfl,⟨rf,rf,tv⟩,tv⟩,⟨⟨rfl,rfl⟩,tv⟩,?_⟩
    refine ⟨by kernel_rfl,?_⟩
    rw [show cG s (a,(i:Int)) i now={ s with work:=s.work+1,dp:=s.dp.set i (s.dp.getD i 0+(now - before)),H:=bP s.H (a,(i:Int)) now,rk:=s.rk.set i (false,si (lQ l0 (a,before)) (a,now)) } by simp only [cG,hb]; rw [if_neg bD,if_neg (by omega)]; simp only [iG,ne_eq,h0,if_false,M5,not_false_eq_true,if_true],show cu s (a,(i:Int)) now=true by simp only [cu,hb]; simp [bD]; omega]
    exact ⟨_,_,⟨rfl,rfl⟩,by kernel_rfl,tv,⟨rf,rf,rf,rf,rf,rf,rfl,rfl,rfl,rfl,rfl,tv⟩,⟨rfl,Vu⟩,⟨rfl,b2⟩,⟨rfl,by rw [List.set_set,List.map_set]; rfl⟩,⟨rfl,rfl⟩,⟨rfl,rfl⟩,tv⟩
   ·have M5:before=0:=by simpa using M5
    subst M5
    refine ⟨fun _=>?_,fun h=>absurd h (by simpa using h0)⟩
    refine ⟨fun _=>⟨by show (0:Int)≤(i:Int); omega,T4⟩,dZ f0 l0,fun _=>OB,?_⟩
    have Qp:=yB Qn T5 (a,now) (by omega) (T7 hp h0 _ (by rw [if_neg (by simp)]))
    refine .inr ⟨[3],[.own 0 0 0 [.el i 0],.agg [.dv (I a),.dv (I now)]],[(0,.tree 0 0 (.ay 1 (s.rk.map GD)))],0,_,_,Qp,by kernel_rfl,by kernel_rfl,⟨rfl,⟨rf,rf,tv⟩,tv⟩,⟨⟨rfl,rfl⟩,tv⟩,?_⟩
    refine ⟨by kernel_rfl,?_⟩
    rw [show cG s (a,(i:Int)) i now={ s with work:=s.work+1,dp:=s.dp.set i (s.dp.getD i 0+(now - 0)),H:=bP s.H (a,(i:Int)) now,rk:=s.rk.set i (false,si l0 (a,now)) } by simp only [cG,hb]; rw [if_neg bD,if_neg (by omega)]; simp only [iG,ne_eq,h0,if_false,not_true_eq_false,not_false_eq_true,if_true],show cu s (a,(i:Int)) now=true by simp only [cu,hb]; simp [bD]; omega]
    exact ⟨_,_,⟨rfl,rfl⟩,by kernel_rfl,tv,⟨rf,rf,rf,rf,rf,rf,rfl,rfl,rfl,rfl,rfl,tv⟩,⟨rfl,Vu⟩,⟨rfl,b2⟩,⟨rfl,by simp only [List.map_set]; rfl⟩,⟨rfl,rfl⟩,⟨rfl,rfl⟩,tv⟩
end Go.Proofs.YtpbdohkbiklflaaGreatDoor
