import Derived.Test.YtpbdohkbiklflaaGreatDoorSM9
import Derived.Laws.BytesString
set_option linter.unusedVariables false
set_option linter.unusedSimpArgs false
set_option linter.unusedSectionVars false
namespace Go.TM
open Go.RowKit
variable [cj]
section
variable {P:Program} {C:df→Prop} {T:List TI} {ops:List Oper} {n:Nat} {o:Oper} {nx:Nat} {ρ:Nat→AV} {κ:Nat→ak} {k:iP→Nat→Prop} {gd:Bool}
def tc (ρ:Nat→AV) (κ:Nat→ak) (g:Bool):Option Operand→Option Int→Prop
 | none,none=>True
 | some x,some n=>bf ρ κ g x (.dv (.int .i64 n))
 | _,_=>False
theorem wK {x:Option Operand} {q:Option Int→Prop} (h:Pk ρ κ gd x q):∃b,q b∧tc ρ κ gd x b:=by
 unfold Pk at h
 split at h
 ·exact ⟨none,h,tv⟩
 ·obtain ⟨v,h,hv⟩:=aB h
  split at h
  ·rename_i m; exact ⟨some m,h,hv⟩
  ·exact h.elim
theorem tc.val {ρ':Nat→AV} {κ':Nat→ak} {g:df} {a:Act} {w:World} {G:Gh} {x:Option Operand} {b:Option Int} (h:tc ρ κ gd x b) (ai:bT g n ρ' κ' a w G) (aI:gd=true) (ao:∀y,x=some y→xS ρ ρ' κ κ' y):x.map a.eval=b.map (Value.int .i64):=by
 cases x with
 | none=>cases b with
  | none=>rfl
  | some=>exact h.elim
 | some y=>cases b with
  | none=>exact h.elim
  | some m =>
   have hv:=h ρ' κ' (ao y rfl) g n a w G ai aI
   simp only [Option.map_some]
   generalize a.eval y=v at hv
   cases hv with | dv hv=>cases hv with | int=>rfl
theorem n5 {w:World} {isSl:Bool} {len cap:Nat} {lo hi:Option Int} (h1:0≤lo.getD 0) (h2:lo.getD 0≤hi.getD len) (h3:hi.getD len≤len) (h4:len≤cap) :
  (Instr.sliceBounds isSl len cap (lo.map (Value.int .i64)) (hi.map (Value.int .i64)) none).run P w=.ok ((lo.getD 0).toNat,(hi.getD len).toNat,cap) w:=by
 cases lo with
 | none =>
  cases hi with
  | none=>simp [Instr.sliceBounds]
  | some h =>
   simp only [Option.getD_some,Option.getD_none] at *
   have:0≤h∧h≤(cap:Int):=by omega
   simp [Instr.sliceBounds,Instr.sliceBound,asIntOf,this]
 | some l =>
  cases hi with
  | none =>
   simp only [Option.getD_some,Option.getD_none] at *
   have:0≤l∧l≤(len:Int):=by omega
   simp [Instr.sliceBounds,Instr.sliceBound,asIntOf,this]
  | some h =>
   simp only [Option.getD_some] at *
   have h5:0≤h∧h≤(cap:Int):=by omega
   have h6:0≤l∧l≤h:=by omega
   have h7:(max h 0:Int)=h:=by omega
   simp [Instr.sliceBounds,Instr.sliceBound,asIntOf,h5,h6,h7]
theorem GR (hT:dV P T) {s t:Nat} {x:Operand} {v:AV} (hg:bF ρ ops o.guard=some gd) (ho:o.op=.convert s t x) (hs:(nth T s).ok=true) (ht:(nth T t).ok=true)
  (h:B5 (nth T s) (nth T (nth T s).elem) (nth T t) κ v fun r rd=>aM n o gd nx k r rd) (bj:bf ρ κ gd x v):Good P C ops n o nx ρ κ k:=by
 obtain ⟨i1,u1,z1,Pl⟩:=hT.facts hs
 obtain ⟨i2,u2,z2,Q5⟩:=hT.facts ht
 unfold B5 at h
 cases hb:(nth T s).isSl && (nth T (nth T s).elem).ok && J5 (nth T (nth T s).elem).B6 && (nth T t).isStr with
 | false=>rw [hb] at h; exact h.elim
 | true =>
 rw [hb] at h
 simp only [cond_true] at h
 simp only [Bool.and_eq_true] at hb
 obtain ⟨⟨⟨im,m5⟩,RP⟩,ai⟩:=hb
 obtain ⟨i3,u3,z3,TR⟩:=hT.facts m5
 have L1:=Pl.slice im
 have RQ:=Q5.string ai
 have RR:P.underlying (nth T s).elem=some (.int .u8):=by
  have h3:=TR.B6
  rw [h3] at RP
  cases u3 <;> simp [zM,J5] at RP
  rename_i kk
  cases kk <;> simp [J5] at RP
  exact TR.wL
 have cT:∀c,o.op ≠ .defer c:=fun c=>by rw [ho]; simp
 rcases iq h with ⟨rfl,hk⟩ | ⟨sz,ys,rd,kill,hk,J6,J7,gn⟩
 ·refine aY cT hg hk fun ρ' κ' ao g a w G ai aI=>?_
  have hv:=bj ρ' κ' (ao.op (by rw [ho]; simp [Op.operands])) g n a w G ai aI
  generalize hx:a.eval x=q at hv
  cases hv with | dv hv=>cases hv with | aD =>
  exact ⟨.string .empty,by simp [execOp,ho,hx,run_convert_bytes_string w s t _ none 0 0 L1 RR RQ,Conv.bytesToString],.dv (.str _)⟩
 ·cases hb:Nat.beq sz 1 && L2 kill with
  | false=>rw [hb] at hk; exact hk.elim
  | true =>
  rw [hb] at hk
  simp only [cond_true] at hk
  simp only [Bool.and_eq_true] at hb
  have:=Nat.eq_of_beq_eq_true hb.1
  subst this
  obtain ⟨ns,rfl,hk⟩:=hk
  refine aY cT hg hk fun ρ' κ' ao g a w G ai aI=>?_
  have hv:=bj ρ' κ' (ao.op (by rw [ho]; simp [Op.operands])) g n a w G ai aI
  obtain ⟨dp,GS,_⟩:=gn κ' G w _ (fun i hi=>ao.reads i hi) ai.fit hv
  generalize hx:a.eval x=q at GS
  rcases GS.MO with ⟨c,rfl,kE⟩ | ⟨A,cap,cell,rfl,cY⟩
  ·have:ns=[]:=by simpa using kE
   subst this
   exact ⟨.string .empty,by simp [execOp,ho,hx,run_convert_bytes_string w s t _ none 0 c L1 RR RQ,Conv.bytesToString],.dv (.str _)⟩
  ·have Pm:(loadCells A (ns.map (DV.int .u8)).length).run P w=.ok (ns.map (Value.int .u8)).toArray w:=by
    have h1:=run_loadCells (P:=P) w A (ns.map (DV.int .u8)).length (fun j=>Value.int .u8 (ns.getD j 0)) (fun j hj=>by
     have nL:j<ns.length:=by simpa using hj
     obtain ⟨_,h2⟩:=cY j (.int .u8 ns[j]) (by simp [nL])
     obtain ⟨_,h3,_,_,h4⟩:=h2 0 (.int .u8 ns[j]) rfl
     rw [Nat.mul_one,Nat.add_zero] at h3
     rw [h3]
     rcases h4 with ⟨h5,_⟩ | ⟨_,h5⟩
     ·cases h5
     ·generalize cell j 0=u at h5 ⊢
      cases h5 with | int=>simp [List.getD,nL])
    rw [h1]
    congr 2
    refine List.ext_getElem (by simp) fun j h2 h3=>?_
    simp at h2 h3
    simp [List.getD,h3]
   refine ⟨.string (L3 ns),?_,.dv (.str _)⟩
   have h2:=run_bytesToString (P:=P) w A (ns.map (DV.int .u8)).length cap ns Pm
   simp only [execOp,ho,hx,Sem.run_bind,run_convert_bytes_string w s t _ (some A) _ cap L1 RR RQ,h2,Result.andThen_ok,Sem.run_pure]
   rfl
theorem aE {c:Bool} {p:Prop} (h:bif c then p else False):c=true∧p:=by cases c <;> simp_all
theorem bT.cut {g:df} {κ' κ2:Nat→ak} {a:Act} {w:World} {G:Gh} (ai:bT g n ρ κ' a w G) {i ver bz sz:Nat} {xs:List DV} (dD:κ' i=.tree ver bz (.ar sz xs)) {L H:Int} (b1:0≤L) (b2:L≤H) (b3:H≤xs.length)
  (h1:κ2 i=.tree (ver+1) 0 (.ar sz ((xs.take H.toNat).drop L.toNat))) (h3:∀j,j ≠ i→κ2 j=κ' j) {v0:Value} (zB:az G.H i ver bz []=some v0) :
  ∃A cap,v0=.slice A xs.length cap∧xs.length≤cap∧∃G',bT g n ρ κ2 a w G'∧aC G' (.own i (ver+1) 0 []) (.slice (if cap=L.toNat then A else A.map (·.add (L.toNat * sz))) (H.toNat - L.toNat) (cap - L.toNat)):=by
 have dz:=ai.fit.box i
 rw [dD] at dz
 obtain ⟨ht,dk,JX,n6⟩:=dz
 obtain ⟨WD,o8,o9,aS⟩:=ht.2 [] _ rfl rfl
 rw [zB] at o8; injection o8 with o8; subst o8
 have o8:=zB
 have hlen:((xs.take H.toNat).drop L.toNat).length=H.toNat - L.toNat:=by simp; omega
 let hN:Value→List PS→Option Value:=fun v' q=>match q with
  | []=>some v'
  | .el i' j::r=>az G.H i ver bz (.el (i'+L.toNat) j::r)
  | _=>none
 have fin:∀v':Value,v'.oneCell'=true→(∀b,eW v'=some b→eW v0=some b)→bQ G.M w v' (fun s=>hN v' ([]++[s])) (.ar sz ((xs.take H.toNat).drop L.toNat)) →
   ∃G',bT g n ρ κ2 a w G'∧aC G' (.own i (ver+1) 0 []) v':=by
  intro v' B7 MP zN
  have vV:∀i' j c,step (.ar sz ((xs.take H.toNat).drop L.toNat)) (.el i' j)=some c→step (.ar sz xs) (.el (i'+L.toNat) j)=some c:=by
   intro i' j c hc
   simp only [step] at hc ⊢
   rw [List.getElem?_drop,List.getElem?_take] at hc
   by_cases e:L.toNat+i'<H.toNat
   ·rw [if_pos e,Nat.add_comm] at hc; exact hc
   ·rw [if_neg e] at hc; cases hc
  have el:∀s c,step (.ar sz ((xs.take H.toNat).drop L.toNat)) s=some c→∃i' j,s=.el i' j:=by
   intro s c dp
   cases s with
   | el i' j=>exact ⟨i',j,rfl⟩
   | key=>simp [step] at dp
  obtain ⟨m1,m2,m3⟩:=aO.n7 (w:=w) (w':=w) (h:=E7) (h':=hN v') (p:=[]) (n:=.ar sz []) (n':=.ar sz ((xs.take H.toNat).drop L.toNat)) (v:=.slice none 0 0) (v':=v') (fun _=>True) (td G.M w _) (xT _) rfl rfl rfl rfl rfl B7 (.inl rfl) zN
   (fun q hq=>absurd (List.nil_prefix) hq) (fun s c _ _ hN=>absurd trivial hN)
   (fun s c dp xU _=>by
    obtain ⟨i',j,rfl⟩:=el s c dp
    have OP:get (.ar sz xs) [.el (i'+L.toNat) j]=some c:=by simp [get,vV i' j c dp]
    refine ⟨ht.sub OP xU,dk.sub OP,fun b hb=>⟨fun h=>ir h,fun cE=>?_⟩⟩
    obtain ⟨q,m,uu,c1,c2,c3,c4⟩:=hb
    have:=dk [] (.el (i'+L.toNat) j::q) _ m v0 uu b rfl rfl o8 (MP b cE) (by simp only [get,vV i' j c dp]; exact c1) c2 c3 c4
    cases this)
   (fun s s' c c' b eT GU _ n8 BQ _ jN cl=>by
    obtain ⟨i1,j1,rfl⟩:=el s c eT
    obtain ⟨i2,j2,rfl⟩:=el s' c' n8
    obtain ⟨q,m,uu,c1,c2,c3,c4⟩:=jN
    obtain ⟨q',m',UP,d1,d2,d3,d4⟩:=cl
    have:=dk (.el (i1+L.toNat) j1::q) (.el (i2+L.toNat) j2::q') m m' uu UP b (by simp only [get,vV i1 j1 c eT]; exact c1) c2 c3 c4 (by simp only [get,vV i2 j2 c' n8]; exact d1) d2 d3 d4
    injection this with e1 _
    injection e1 with e1 e2
    have:i1=i2:=by omega
    rw [this,e2])
   (fun b hb=>.inr fun h=>ir h) (fun b h=>(ir h).elim)
  obtain ⟨G',g1,g2,_,g4,_,_,g7⟩:=ai.jz (κ':=κ2) (w':=w) (i:=i) (ver:=ver+1) (ep:=0) (d:=.ar sz ((xs.take H.toNat).drop L.toNat)) (fun _=>False) (hN v') (fun h=>h.elim) (.inr ⟨ver,bz,_,dD,by omega,by omega⟩) (fun _ h=>h.elim) h1 (fun j hj _=>h3 j hj)
   (fun q y hy=>by cases q <;> simp [az,JX (ver+1) (by omega)] at hy) m1 m2
   (fun b hb=>by
    rcases m3 b hb with h5 | h5 | ⟨s,c,s1,s2,_,s4⟩
    ·exact (ir h5).elim
    ·exact .inr (.inl (by rw [dD]; exact ⟨[],_,v0,rfl,rfl,o8,MP b h5⟩))
    ·obtain ⟨i',j,rfl⟩:=el s c s1
     have OP:get (.ar sz xs) [.el (i'+L.toNat) j]=some c:=by simp [get,vV i' j c s1]
     exact .inr (.inl (by rw [dD]; exact aJ.sub (p:=[.el (i'+L.toNat) j]) OP s4)))
   (fun _ _ _ _=>rfl) (fun b hb=>by
    rcases hb with h5 | ⟨_,h5,_⟩
    ·exact ai.fit.own i b h5
    ·exact h5.elim) (Nat.le_refl _) rfl rfl rfl
  exact ⟨G',g7,.own _ _ _ _ _ ((g4 []).trans rfl) B7⟩
 rcases aS with ⟨rfl,rfl⟩ | ⟨gb,ob,cap,c,tt,rfl,dY,hw,MQ,nC⟩
 ·simp at b3
  have hL:L=0:=by omega
  have hH:H=0:=by omega
  subst hL; subst hH
  refine ⟨none,0,rfl,Nat.le_refl _,?_⟩
  simpa using fin (.slice none 0 0) rfl (by simp [eW]) (.inl ⟨by simp,rfl⟩)
 ·refine ⟨_,_,rfl,dY,fin _ rfl ?_ ?_⟩
  ·intro b hb
   split at hb
   ·exact hb
   ·simp only [Option.map_some,eW,cw] at hb; exact hb
  ·by_cases e:cap=L.toNat
   ·have kE:(xs.take H.toNat).drop L.toNat=[]:=List.eq_nil_of_length_eq_zero (by rw [hlen]; omega)
    rw [if_pos e,kE]
    rw [show cap - L.toNat=0 by omega,show H.toNat - L.toNat=0 by omega]
    refine .inr ⟨gb,ob,0,c,tt,rfl,by simp,hw,by omega,by simp⟩
   ·rw [if_neg e]
    refine .inr ⟨gb,ob+L.toNat * sz,cap - L.toNat,c,tt,by simp only [Option.map_some,cw]; rw [hlen],by rw [hlen]; omega,hw,?_,fun i' y hy=>?_⟩
    ·have:L.toNat * sz+(cap - L.toNat) * sz=cap * sz:=by rw [←Nat.add_mul]; congr 1; omega
     omega
    ·rw [List.getElem?_drop,List.getElem?_take] at hy
     split at hy
     ·obtain ⟨c1,c2⟩:=nC _ y hy
      refine ⟨c1,fun j d' iG=>?_⟩
      obtain ⟨d1,uu,d2,d3⟩:=c2 j d' iG
      refine ⟨d1,uu,?_,?_⟩
      ·rw [←d2]; congr 1; rw [Nat.add_mul]; omega
      ·show cW G.M (az G.H i ver bz [.el (i'+L.toNat) j]) d' uu
       rw [Nat.add_comm]; exact d3
     ·cases hy
theorem wM (hT:dV P T) {t:Nat} {x:Operand} {l h:Option Operand} {v:AV} {lo hi:Option Int} (hg:bF ρ ops o.guard=some gd) (ho:o.op=.slice t x l h none) (hn:∀i,nx≤i→κ i=.none)
  (bK:(nth T t).ok=true) (im:((nth T t).isSl && (nth T (nth T t).elem).ok || (nth T t).isStr)=true) (hx:bf ρ κ gd x v) (hl:tc ρ κ gd l lo) (hh:tc ρ κ gd h hi)
  (hk:jA (nth T t) (nth T (nth T t).elem).size κ gd v lo hi (fun v=>aM n o gd nx k v []) (fun v bx rd=>dg n o nx k v bx rd)):Good P C ops n o nx ρ κ k:=by
 obtain ⟨ti,u,z,tf⟩:=hT.facts bK
 have cT:∀c,o.op ≠ .defer c:=fun c=>by rw [ho]; simp
 have mx:x∈o.op.operands:=by rw [ho]; simp [Op.operands]
 have ml:∀y,l=some y→y∈o.op.operands:=fun y hy=>by rw [ho,hy]; simp [Op.operands]
 have mh:∀y,h=some y→y∈o.op.operands:=fun y hy=>by rw [ho,hy]; simp [Op.operands]
 have cut:∀{w:World} {a:Act} {A:Option Addr} {len cap:Nat},(nth T t).isSl=true→a.eval x=.slice A len cap→l.map a.eval=lo.map (Value.int .i64)→h.map a.eval=hi.map (Value.int .i64)→0≤lo.getD 0→lo.getD 0≤hi.getD len→hi.getD len≤len→len≤cap→(nth T (nth T t).elem).ok=true →
   (execOp a.eval o).run P w=.ok (.value (.slice (if cap=(lo.getD 0).toNat then A else A.map (·.add ((lo.getD 0).toNat * (nth T (nth T t).elem).size))) ((hi.getD len).toNat - (lo.getD 0).toNat) (cap - (lo.getD 0).toNat))) w:=by
  intro w a A len cap hs rG hle tg h1 h2 h3 h4 rH
  obtain ⟨te,ue,ze,hJ⟩:=hT.facts rH
  have hb:=n5 (P:=P) (w:=w) (isSl:=true) (len:=len) (cap:=cap) h1 h2 h3 h4
  have n9:=hJ.eD w
  simp [execOp,ho,Instr.sliceAt,Instr.slice,run_underlying (tf.slice hs),rG,hle,tg,hb,n9]
 unfold jA at hk
 split at hk
 ·rename_i sz xs
  cases iQ:(nth T t).isSl && Nat.beq sz (nth T (nth T t).elem).size with
  | false=>rw [iQ] at hk; exact hk.elim
  | true =>
  rw [iQ] at hk
  obtain ⟨JY,hk⟩:=hk
  simp only [Bool.and_eq_true] at iQ
  obtain ⟨hs,B8⟩:=iQ
  have:=Nat.eq_of_beq_eq_true B8
  subst this
  have rH:(nth T (nth T t).elem).ok=true:=by
   simp only [Bool.or_eq_true,Bool.and_eq_true] at im
   rcases im with h5 | h5
   ·exact h5.2
   ·exfalso
    have q1:=tf.isSl; have q2:=tf.isStr
    rw [hs] at q1; rw [h5] at q2
    cases u <;> simp [E8,strOf] at q1 q2
  refine aY cT hg hk fun ρ' κ' ao g a w G ai aI=>?_
  have hv:=hx ρ' κ' (ao.op mx) g n a w G ai aI
  have hle:=hl.val ai aI (fun y hy=>ao.op (ml y hy))
  have tg:=hh.val ai aI (fun y hy=>ao.op (mh y hy))
  obtain ⟨b1,b2,b3⟩:=JY aI
  generalize rG:a.eval x=q at hv
  cases hv with | dv hv =>
  generalize pg:lo.getD 0=L at b1 b2 b3 ⊢
  generalize xV:hi.getD (xs.length:Int)=H at b1 b2 b3 ⊢
  have hlen:((xs.take H.toNat).drop L.toNat).length=H.toNat - L.toNat:=by simp; omega
  cases hv with
  | slnil =>
   simp at b3 xV
   have hL:L=0:=by omega
   have hH:H=0:=by omega
   subst hL; subst hH
   refine ⟨_,cut hs rG hle tg (by rw [pg]; omega) (by rw [pg]; simp [xV]) (by simp [xV]) (Nat.le_refl _) rH,?_⟩
   rw [pg]
   simp [xV]
   exact .dv (.slnil _)
  | sl _ _ A cap cell dY RS hc hr =>
   refine ⟨_,cut hs rG hle tg (by rw [pg]; omega) (by rw [pg,xV]; omega) (by rw [xV]; omega) dY rH,.dv ?_⟩
   rw [pg,xV]
   by_cases e:cap=L.toNat
   ·have kE:(xs.take H.toNat).drop L.toNat=[]:=List.eq_nil_of_length_eq_zero (by rw [hlen]; omega)
    rw [if_pos e,kE,show H.toNat - L.toNat=0 by omega,show cap - L.toNat=0 by omega]
    exact .sl _ [] A 0 (fun _ _=>undef) (Nat.le_refl _) (by simp) (by simp) (by simp)
   ·rw [if_neg e]
    simp only [Option.map_some]
    rw [←hlen]
    refine .sl _ _ _ _ (fun i j=>cell (L.toNat+i) j) (by rw [hlen]; omega) (fun y hy=>RS y (List.mem_of_mem_take (List.mem_of_mem_drop hy))) (fun i j hi hj=>?_) (fun i y j d hy hd=>?_)
    ·rw [cq]
     have:=hc (L.toNat+i) j (by rw [hlen] at hi; omega) hj
     rw [Nat.add_mul] at this
     rw [show L.toNat * (nth T (nth T t).elem).size+(i * (nth T (nth T t).elem).size+j)=L.toNat * (nth T (nth T t).elem).size+i * (nth T (nth T t).elem).size+j by omega]
     exact this
    ·rw [List.getElem?_drop,List.getElem?_take] at hy
     split at hy
     ·exact hr _ y j d hy hd
     ·cases hy
 ·rename_i i ver ep
  split at hk
  ·rename_i aT bz d dD
   cases hb:Nat.beq ver aT with
   | false=>rw [hb] at hk; exact hk.elim
   | true =>
   rw [hb] at hk
   simp only [cond_true] at hk
   have:=Nat.eq_of_beq_eq_true hb
   subst this
   cases d with
   | ar sz xs =>
    simp only at hk
    cases iQ:(nth T t).isSl && Nat.beq sz (nth T (nth T t).elem).size with
    | false=>rw [iQ] at hk; exact hk.elim
    | true =>
    rw [iQ] at hk
    obtain ⟨⟨b1,b2,b3⟩,hk⟩:=hk
    simp only [Bool.and_eq_true] at iQ
    obtain ⟨hs,B8⟩:=iQ
    have:=Nat.eq_of_beq_eq_true B8
    subst this
    have rH:(nth T (nth T t).elem).ok=true:=by
     simp only [Bool.or_eq_true,Bool.and_eq_true] at im
     rcases im with h5 | h5
     ·exact h5.2
     ·exfalso
      have q1:=tf.isSl; have q2:=tf.isStr
      rw [hs] at q1; rw [h5] at q2
      cases u <;> simp [E8,strOf] at q1 q2
    have qo:i<nx:=nM hn ⟨_,_,_,dD⟩
    refine cI cT hg hk (Nat.le_refl _) (by simpa using qo) fun ρ' κ' ao g a w G c5 ai aI=>?_
    have he:=ao.reads i (by simp)
    have hv:=hx ρ' κ' (ao.op mx) g n a w G ai aI
    have hle:=hl.val ai aI (fun y hy=>ao.op (ml y hy))
    have tg:=hh.val ai aI (fun y hy=>ao.op (mh y hy))
    have dz:=ai.fit.box i
    rw [he,dD] at dz
    obtain ⟨ht,dk,JX,n6⟩:=dz
    obtain ⟨v0,o8,o9,aS⟩:=ht.2 [] _ rfl rfl
    have rG:a.eval x=v0:=by
     generalize a.eval x=q at hv
     cases hv with | own _ _ _ _ _ RT hc=>have:az G.H i ver bz []=some q:=RT
                                          rw [o8] at this; injection this with this; exact this.symm
    obtain ⟨A,cap,rfl,dY,G',g7,RU⟩:=ai.cut (κ2:=aq κ' [(i,.tree (ver+1) 0 (.ar (nth T (nth T t).elem).size ((xs.take (hi.getD xs.length).toNat).drop (lo.getD 0).toNat)))]) (he.trans dD) b1 b2 b3 (by simp [aq]) (fun j hj=>by simp [aq,ad _ _ hj]) o8
    exact ⟨_,w,G',.inl (cut hs rG hle tg b1 b2 b3 dY rH),g7,RU⟩
   | _=>exact hk.elim
  ·exact hk.elim
 ·rename_i s
  cases fH:(nth T t).isStr with
  | false=>rw [fH] at hk; exact hk.elim
  | true =>
   rw [fH] at hk
   obtain ⟨JY,hk⟩:=hk
   refine aY cT hg hk fun ρ' κ' ao g a w G ai aI=>?_
   have hv:=hx ρ' κ' (ao.op mx) g n a w G ai aI
   have hle:=hl.val ai aI (fun y hy=>ao.op (ml y hy))
   have tg:=hh.val ai aI (fun y hy=>ao.op (mh y hy))
   obtain ⟨b1,b2,b3⟩:=JY aI
   generalize rG:a.eval x=q at hv
   cases hv with | dv hv=>cases hv with | str =>
   have hb:=n5 (P:=P) (w:=w) (isSl:=false) (len:=s.size) (cap:=s.size) b1 b2 b3 (Nat.le_refl _)
   refine ⟨_,?_,.dv (.str _)⟩
   simp [execOp,ho,Instr.sliceAt,Instr.slice,run_underlying (tf.string fH),rG,hle,tg,hb]
 ·exact hk.elim
theorem GV (hT:dV P T) {t:Nat} {x:Operand} {l h:Option Operand} {v:AV} {lo hi:Option Int} (hg:bF ρ ops o.guard=some gd) (ho:o.op=.slice t x l h none) (hn:∀i,nx≤i→κ i=.none)
  (bK:(nth T t).ok=true) (im:((nth T t).isSl && (nth T (nth T t).elem).ok || (nth T t).isStr)=true) (hx:bf ρ κ gd x v) (hl:tc ρ κ gd l lo) (hh:tc ρ κ gd h hi)
  (hk:th (nth T t) (nth T (nth T t).elem).size κ gd nx v lo hi (fun v rd=>aM n o gd nx k v rd) (fun v bx rd=>dg n o nx k v bx rd) (fun v bx rd=>dg n o (nx+1) k v bx rd)):Good P C ops n o nx ρ κ k:=by
 unfold th at hk
 split at hk
 ·rename_i i ver ep p
  rcases hk with hk | hk | hk
  ·exact wM hT hg ho hn bK im hx hl hh hk
  all_goals
   obtain ⟨ti,u,z,tf⟩:=hT.facts bK
   have cT:∀c,o.op ≠ .defer c:=fun c=>by rw [ho]; simp
   have mx:x∈o.op.operands:=by rw [ho]; simp [Op.operands]
   have ml:∀y,l=some y→y∈o.op.operands:=fun y hy=>by rw [ho,hy]; simp [Op.operands]
   have mh:∀y,h=some y→y∈o.op.operands:=fun y hy=>by rw [ho,hy]; simp [Op.operands]
   have cut:∀{w:World} {a:Act} {A:Option Addr} {len cap:Nat},(nth T t).isSl=true→a.eval x=.slice A len cap→l.map a.eval=lo.map (Value.int .i64)→h.map a.eval=hi.map (Value.int .i64)→0≤lo.getD 0→lo.getD 0≤hi.getD len→hi.getD len≤len→len≤cap→(nth T (nth T t).elem).ok=true →
     (execOp a.eval o).run P w=.ok (.value (.slice (if cap=(lo.getD 0).toNat then A else A.map (·.add ((lo.getD 0).toNat * (nth T (nth T t).elem).size))) ((hi.getD len).toNat - (lo.getD 0).toNat) (cap - (lo.getD 0).toNat))) w:=by
    intro w a A len cap hs rG hle tg h1 h2 h3 h4 rH
    obtain ⟨te,ue,ze,hJ⟩:=hT.facts rH
    have hb:=n5 (P:=P) (w:=w) (isSl:=true) (len:=len) (cap:=cap) h1 h2 h3 h4
    have n9:=hJ.eD w
    simp [execOp,ho,Instr.sliceAt,Instr.slice,run_underlying (tf.slice hs),rG,hle,tg,hb,n9]
   have MR:(nth T t).isSl=true→(nth T (nth T t).elem).ok=true:=fun hs=>by
    simp only [Bool.or_eq_true,Bool.and_eq_true] at im
    rcases im with h5 | h5
    ·exact h5.2
    ·exfalso
     have q1:=tf.isSl; have q2:=tf.isStr
     rw [hs] at q1; rw [h5] at q2
     cases u <;> simp [E8,strOf] at q1 q2
  ·unfold DR at hk
   split at hk
   ·rename_i aT bz d dD
    have hh:=aE hk; clear hk; obtain ⟨hb,hk⟩:=hh
    obtain ⟨rfl,c9⟩:=c6 hb
    obtain ⟨nd,hk,MS⟩:=bp hk
    split at hk
    ·rename_i sz xs
     have hh:=aE hk; clear hk; obtain ⟨cl,JY,hk⟩:=hh
     simp only [Bool.and_eq_true] at cl
     obtain ⟨hs,B8⟩:=cl
     have:=Nat.eq_of_beq_eq_true B8
     subst this
     refine aY cT hg hk fun ρ' κ' ao g a w G ai aI=>?_
     have hv:=hx ρ' κ' (ao.op mx) g n a w G ai aI
     have hle:=hl.val ai aI (fun y hy=>ao.op (ml y hy))
     have tg:=hh.val ai aI (fun y hy=>ao.op (mh y hy))
     obtain ⟨b1,b2,b3⟩:=JY aI
     have RV:κ' i=.tree ver bz d:=(ao.reads i (by simp)).trans dD
     obtain ⟨u0,h1,_,aS⟩:=ai.fit.node RV (MS aI) rfl
     generalize rG:a.eval x=q at hv
     cases hv with | own _ _ _ _ _ vW hc =>
     have o8:=vW
     rw [cB c9,h1] at o8
     injection o8 with o8
     subst o8
     rcases aS with ⟨rfl,rfl⟩ | ⟨gb,ob,cap,cc,tt,rfl,dY,hw,RW,BR⟩
     ·have MT:=cut (w:=w) hs rG hle tg b1 (by simpa using b2) (by simpa using b3) (Nat.le_refl _) (MR hs)
      refine ⟨_,MT,?_⟩
      refine .pre _ _ _ _ _ _ _ _ _ fun bA=>?_
      simp at b3 bA; omega
     ·have MT:=cut (w:=w) hs rG hle tg b1 b2 b3 dY (MR hs)
      refine ⟨_,MT,?_⟩
      refine .pre _ _ _ _ _ _ _ _ _ fun bA=>⟨_,_,_,vW,?_⟩
      rw [if_neg (by omega)]
      rfl
    ·exact hk.elim
   ·exact hk.elim
  ·unfold DS at hk
   split at hk
   ·exact hk.elim
   rename_i RX
   split at hk
   ·rename_i aT bz d dD
    have hh:=aE hk; clear hk; obtain ⟨hb,hk⟩:=hh
    simp only [Bool.and_eq_true] at hb
    have:=Nat.eq_of_beq_eq_true hb.1
    subst this
    have:=Nat.eq_of_beq_eq_true hb.2
    subst this
    obtain ⟨nd,hk,MS⟩:=bp hk
    split at hk
    ·rename_i sz xs
     have hh:=aE hk; clear hk; obtain ⟨cl,⟨b1,b2,b3⟩,hk⟩:=hh
     simp only [Bool.and_eq_true] at cl
     obtain ⟨hs,B8⟩:=cl
     have:=Nat.eq_of_beq_eq_true B8
     subst this
     obtain ⟨hk,_⟩:=eb hk
     have qo:i<nx:=nM hn ⟨_,_,_,dD⟩
     refine cI cT hg hk (by omega) (fun q hq=>?_) fun ρ' κ' ao g a w G c5 ai aI=>?_
     ·rcases List.mem_cons.1 hq with rfl | hq
      ·simp
      ·rcases List.mem_cons.1 hq with rfl | hq
       ·show i<nx+1; omega
       ·cases hq
     have he:=ao.reads i (by simp)
     have jv:κ' nx=.none:=(ao.reads nx (by simp)).trans (hn nx (Nat.le_refl _))
     have hv:=hx ρ' κ' (ao.op mx) g n a w G ai aI
     have hle:=hl.val ai aI (fun y hy=>ao.op (ml y hy))
     have tg:=hh.val ai aI (fun y hy=>ao.op (mh y hy))
     have RY:p ≠ []:=fun e=>RX e
     obtain ⟨G1,g1,g2,_,g4,g7⟩:=ai.split (κ':=aq κ' [(nx,.tree 0 0 (.ar (nth T (nth T t).elem).size xs)),(i,.tree ver (ep+1) (bH d p .any))]) (i:=i) (nx:=nx) (he.trans dD) jv (MS rfl) rfl RY (by simp only [aq]; rw [ad _ _ (by omega)]; simp) (by simp [aq]) (fun j h1 h2=>by simp only [aq]; rw [ad _ _ h2,ad _ _ h1])
     have jO:az G.H i ver ep p=some (a.eval x):=by
      generalize a.eval x=q at hv
      cases hv with | own _ _ _ _ _ RT hc=>exact RT
     obtain ⟨A,cap,hA,dY,G',g8,RU⟩:=g7.cut (κ2:=aq κ' [(nx,.tree 1 0 (.ar (nth T (nth T t).elem).size ((xs.take (hi.getD xs.length).toNat).drop (lo.getD 0).toNat))),(i,.tree ver (ep+1) (bH d p .any))]) (i:=nx) (by simp only [aq]; rw [aR]) b1 b2 b3 (by simp only [aq]; rw [aR])
      (fun j hj=>by simp only [aq]; rw [ad _ _ hj,ad _ _ hj]) (by rw [g4 [],List.append_nil]; exact jO)
     exact ⟨_,w,G',.inl (cut hs hA hle tg b1 b2 b3 dY (MR hs)),g8,RU⟩
    ·exact hk.elim
   ·exact hk.elim
 ·exact wM hT hg ho hn bK im hx hl hh hk
end
end Go.TM
namespace Go.TM
open Go.RowKit
variable [cj]
section
variable {P:Program} {C:df→Prop} {T:List TI} {ops:List Oper} {n:Nat} {o:Oper} {nx:Nat} {ρ:Nat→AV} {κ:Nat→ak} {k:iP→Nat→Prop} {gd:Bool}
theorem fR {f:Nat} (hf:gM P f) (args:Array Value) (w:World):(callFunc f args).run P w=.ok (.enter f args) w:=by
 obtain ⟨fn,h1,h2,h3⟩:=hf
 have B4:¬ fn.name="runtime.NumGoroutine":=by simpa using h2
 have GW:¬ fn.body=none:=by rintro hb; rw [hb] at h3; cases h3
 simp [callFunc,program,Sem.run,h1,B4,GW]
def qp (P:Program) (ops:List Oper) (o:Oper) (ρ:Nat→AV) (κ:Nat→ak) (gd:Bool) (f:Nat) (l:List AV):Prop :=
 (∀c,o.op ≠ .defer c)∧∀ρ' κ' rd bx,zC ops o ρ ρ' κ κ' rd bx→∀(g:df) (n:Nat) (a:Act) (w:World) (G:Gh),bT g n ρ' κ' a w G→gd=true→gM P f →
  ∃vs:List Value,(execOp a.eval o).run P w=.ok (.enter f vs.toArray) w∧bJ G l vs
theorem rI {c:Call} {f:Nat} {l:List AV} (ho:o.op=.call c) (hc:c.callee=.value (.func f)) (bj:jB ρ κ gd c.args.toList l):qp P ops o ρ κ gd f l:=by
 refine ⟨fun c=>by rw [ho]; simp,?_⟩
 intro ρ' κ' rd bx ao g n a w G ai aI hf
 have dr:=jB.rel ai aI bj (fun x hx=>ao.op (by rw [ho]; simp only [Op.operands,Call.operands,hc]; exact Array.mem_append.2 (.inr (by simpa using hx))))
 have bG:(List.map a.eval c.args.toList).toArray=c.args.map a.eval:=by rw [←Array.toList_map,Array.toArray_toList]
 refine ⟨_,?_,dr⟩
 rw [bG]
 simp [execOp,ho,resolve,hc,Act.eval,Deferred.ofValue,invoke,fR hf]
theorem bJ.append {G:Gh} {l l':List AV} {vs rD:List Value} (h:bJ G l vs) (h':bJ G l' rD):bJ G (l++l') (vs++rD):=by
 refine ⟨by simp [h.1,h'.1],fun j d v hd hv=>?_⟩
 rcases Nat.lt_or_ge j l.length with aK | db
 ·rw [List.getElem?_append_left aK] at hd
  rw [List.getElem?_append_left (by rw [←h.1]; exact aK)] at hv
  exact h.2 j d v hd hv
 ·rw [List.getElem?_append_right db] at hd
  rw [List.getElem?_append_right (by rw [←h.1]; exact db),←h.1] at hv
  exact h'.2 _ d v hd hv
theorem oa {c:Call} {f t:Nat} {l:List AV} {av:AV} (ho:o.op=.call c) (hc:c.callee=.value (.tmp t)) (hv:bf ρ κ gd (.tmp t) av) (bj:jB ρ κ gd c.args.toList l) {L:List AV}
  (RZ:(∃bh,av=.fn f bh∧L=l++bh) ∨ (∃first,av=.gJ f first∧L=first++l) ∨ (∃bh,av=.dv (.fn f bh)∧L=l++j4 bh)):qp P ops o ρ κ gd f L:=by
 refine ⟨fun c=>by rw [ho]; simp,?_⟩
 intro ρ' κ' rd bx ao g n a w G ai aI hf
 have dr:=jB.rel ai aI bj (fun x hx=>ao.op (by rw [ho]; simp only [Op.operands,Call.operands,hc]; exact Array.mem_append.2 (.inr (by simpa using hx))))
 have tn:=hv ρ' κ' (ao.op (by rw [ho]; simp only [Op.operands,Call.operands,hc]; exact Array.mem_append.2 (.inl (by simp)))) g n a w G ai aI
 have bG:(List.map a.eval c.args.toList).toArray=c.args.map a.eval:=by rw [←Array.toList_map,Array.toArray_toList]
 generalize hx:a.eval (.tmp t)=x at tn
 have Pn:∀(vs:List Value),x=.func (.func f) #[] vs.toArray→∀bh,bJ G bh vs→∃us:List Value,(execOp a.eval o).run P w=.ok (.enter f us.toArray) w∧bJ G (l++bh) us:=by
  rintro vs rfl bh nN
  refine ⟨c.args.toList.map a.eval++vs,?_,dr.append nN⟩
  have:(List.map a.eval c.args.toList++vs).toArray=c.args.map a.eval++vs.toArray:=by rw [←bG]; simp
  rw [this]
  simp [execOp,ho,resolve,hc,hx,Deferred.ofValue,invoke,fR hf]
 rcases RZ with ⟨bh,rfl,rfl⟩ | ⟨first,rfl,rfl⟩ | ⟨bh,rfl,rfl⟩
 ·cases tn with | fn _ _ vs hl hr=>exact Pn vs rfl bh ⟨hl,hr⟩
 ·cases tn with
  | gJ _ _ vs hl hr =>
   refine ⟨vs++c.args.toList.map a.eval,?_,bJ.append ⟨hl,hr⟩ dr⟩
   have:(vs++List.map a.eval c.args.toList).toArray=vs.toArray++c.args.map a.eval:=by rw [←bG]; simp
   rw [this]
   simp [execOp,ho,resolve,hc,hx,Deferred.ofValue,invoke,fR hf]
 ·cases tn with | dv hd=>cases hd with | fn _ _ vs hl hr=>exact Pn vs rfl _ (gx ⟨hl,hr⟩)
theorem qq {F:Fence} (hF:fI F) {f:Nat} {a:Act} {w:World} {args:Array Value} {K:Act→World→Prop} (hd:∀c,o.op ≠ .defer c) (aV:(execOp a.eval o).run P w=.ok (.enter f args) w)
  (hc:Calls P f args w fun e w'=>∃v,e=.returned v∧K (a.put o.dst v) w'):o.wpIn F 0 P a w K (fun _ _ _=>False):=by
 refine ⟨fun f _=>hF.fn f,?_⟩
 rw [Oper.semAt_plain F _ _ hd,aV,Oper.uponIn_enter]
 refine ⟨fun h=>(by rw [hF.depth] at h; cases h),hF.calls.2 (hc.mono ?_)⟩
 rintro e w' ⟨v,rfl,hk⟩
 exact hk
def Q6 (κ:Nat→ak) (gd:Bool) (v:AV) (d:DV) (ids:List Nat):Prop :=
 gd=true→∀κ' G w x,(∀i,i∈ids→κ' i=κ i)→Fit G w κ'→aC G v x→∀M',Mem.Le G.M M'→(∀i,i∈ids→∀b,bE G i (κ' i) b→M' b=w.heap[b]?)→bc M' d x
def B9 (κ:Nat→ak) (gd:Bool) (l:List AV) (ds:List DV) (ids:List Nat):Prop :=
 gd=true→∀κ' G w xs,(∀i,i∈ids→κ' i=κ i)→Fit G w κ'→bJ G l xs→∀M',Mem.Le G.M M'→(∀i,i∈ids→∀b,bE G i (κ' i) b→M' b=w.heap[b]?)→eC M' ds xs
theorem xW {v:AV} {q:DV→List Nat→Prop} (h:Ca κ gd v q):∃d ids,q d ids∧Q6 κ gd v d ids:=by
 unfold Ca at h
 split at h
 ·rename_i d
  refine ⟨d,[],h,fun _ κ' G w x _ _ hv M' hle _=>?_⟩
  cases hv with | dv hv=>exact hv.mono hle
 ·rename_i i ver ep p
  split at h
  ·rename_i aT bz d hk
   cases hb:Nat.beq ver aT && (emp p || Nat.beq ep bz) with
   | false=>rw [hb] at h; exact h.elim
   | true =>
    rw [hb] at h
    simp only [cond_true] at h
    obtain ⟨rfl,c9⟩:=c6 hb
    obtain ⟨nd,h,cT⟩:=bp h
    cases ho:nd.ae with
    | false=>rw [ho] at h; exact h.elim
    | true =>
     rw [ho] at h
     refine ⟨tp nd,[i],h,fun aI κ' G w x ao hf hv M' hle hM=>?_⟩
     have he:=ao i (by simp)
     have dz:=hf.box i
     rw [he,hk] at dz
     cases hv with | own _ _ _ _ _ hh hc =>
     rw [cB c9] at hh
     exact dz.1.frozen hle (fun b hb=>hM i (by simp) b (by rw [he,hk]; exact hb)) (SizeOf.sizeOf nd+1) p nd x (by omega) (cT aI) ho hh
  ·exact h.elim
 ·refine ⟨_,[],h,fun _ κ' G w x _ _ hv M' hle _=>?_⟩
  cases hv with | fn _ _ vs hl hr =>
  have:vs=[]:=by simpa using hl.symm
  subst this
  exact .fn _ [] [] rfl (by simp)
 ·exact ⟨_,[],h.2,fun aI=>by rw [h.1] at aI; cases aI⟩
theorem B9.cons {v:AV} {l:List AV} {d:DV} {ds:List DV} {i j:List Nat} (h:Q6 κ gd v d i) (h':B9 κ gd l ds j):B9 κ gd (v::l) (d::ds) (i++j):=by
 intro aI κ' G w xs ao hf hr M' hle hM
 match xs,hr with
 | [],hr=>have:=hr.1; simp at this
 | x::xs,hr =>
  refine .cons (h aI κ' G w x (fun q hq=>ao q (by simp [hq])) hf (hr.2 0 v x rfl rfl) M' hle fun q hq=>hM q (by simp [hq])) ?_
  exact h' aI κ' G w xs (fun q hq=>ao q (by simp [hq])) hf ⟨by simpa using hr.1,fun q e y he hy=>hr.2 (q+1) e y (by simpa using he) (by simpa using hy)⟩ M' hle fun q hq=>hM q (by simp [hq])
theorem B9.nil:B9 κ gd [] [] []:=by
 intro aI κ' G w xs ao hf hr M' hle hM
 have:xs=[]:=by have:=hr.1; simpa using this.symm
 subst this; exact .nil _
theorem rJ {v:AV} {q:DV→List Nat→Prop} (h:GX κ gd v q):∃d ids,q d ids∧Q6 κ gd v d ids:=by
 obtain ⟨d,ids,h1,h2⟩:=xW (v:=dn v) h
 exact ⟨d,ids,h1,fun aI κ' G w x ao hf hv M' hle hM=>h2 aI κ' G w x ao hf (wN hv) M' hle hM⟩
theorem ph:∀{l:List AV} {q:List DV→List Nat→Prop},Cb κ gd l q→∃ds ids,q ds ids∧B9 κ gd l ds ids
 | [],q,h=>⟨[],[],h,.nil⟩
 | v::l,q,h=>by
  obtain ⟨d,i,h,h1⟩:=rJ h
  obtain ⟨ds,j,h,h2⟩:=ph h
  exact ⟨_,_,h,.cons h1 h2⟩
theorem Cc {v:AV} {q:DV→List Nat→Prop} (h:MU κ gd v q):∃d ids,q d ids∧Q6 κ gd v d ids:=by
 unfold MU at h
 split at h
 ·rename_i l
  cases hc:bI l with
  | false=>rw [hc] at h; exact h.elim
  | true =>
   rw [hc] at h
   obtain ⟨ds,ids,h,h1⟩:=ph h
   refine ⟨_,_,h,fun aI κ' G w x ao hf hv M' hle hM=>?_⟩
   cases hv with | agg _ vs hl hr =>
   have h2:=h1 aI κ' G w vs ao hf ⟨hl,hr⟩ M' hle hM
   exact .agg ds vs h2.1 (oc (G':={ G with M:=M' }) h2 (bJ.cA ⟨hl,hr⟩ hc)) h2.2
 ·exact rJ h
theorem rK:∀{l:List AV} {q:List DV→List Nat→Prop},zO κ gd l q→∃ds ids,q ds ids∧B9 κ gd l ds ids
 | [],q,h=>⟨[],[],h,.nil⟩
 | v::l,q,h=>by
  obtain ⟨d,i,h,h1⟩:=Cc h
  obtain ⟨ds,j,h,h2⟩:=rK h
  exact ⟨_,_,h,.cons h1 h2⟩
theorem zP {av:AV} {rd:List Nat} (hg:bF ρ ops o.guard=some gd) (hk:aM n o gd nx k av rd)
  (h:∀ρ' κ',zC ops o ρ ρ' κ κ' rd []→∀(F:Fence),fI F→∀(g:df) (a:Act) (w:World) (G:Gh),bT g n ρ' κ' a w G→gd=true→∀(K:Act→World→Prop),
   (∀v w' G',bT g n ρ' κ' a w' G'→aC G' av v→K (a.put o.dst v) w')→o.wpIn F 0 P a w K (fun _ _ _=>False)):Good P C ops n o nx ρ κ k:=by
 unfold aM at hk
 split at hk
 ·rename_i iG hn
  refine ⟨_,_,hk,Nat.le_refl _,by simp,fun F hF ρ' κ' ao g a w c5 ⟨G,ai⟩=>?_⟩
  have pj:gd=true:=by rw [hn] at hg; injection hg with hg; exact hg.symm
  unfold jP
  rw [bX hg ao.bl ai,pj,if_pos rfl]
  exact h ρ' κ' ao F hF g a w G ai pj _ fun v w' G' h1 h2=>⟨G',by rw [iG]; exact h1⟩
 ·exact hk.elim
 ·rename_i d iG hn
  cases aK:Nat.blt d n with
  | false=>rw [aK] at hk; exact hk.elim
  | true =>
   rw [aK] at hk
   have fS:d<n:=by rw [Nat.blt_eq] at aK; exact aK
   refine ⟨_,_,hk,Nat.le_refl _,by simp,fun F hF ρ' κ' ao g a w c5 ⟨G,ai⟩=>?_⟩
   have pj:gd=true:=by rw [hn] at hg; injection hg with hg; exact hg.symm
   unfold jP
   rw [bX hg ao.bl ai,pj,if_pos rfl]
   exact h ρ' κ' ao F hF g a w G ai pj _ fun v w' G' h1 h2=>⟨G',by rw [iG]; exact h1.put fS h2⟩
 ·rename_i d j iG hn
  cases aK:Nat.blt d n with
  | false=>rw [aK] at hk; exact hk.elim
  | true =>
   rw [aK] at hk
   have fS:d<n:=by rw [Nat.blt_eq] at aK; exact aK
   refine ⟨_,_,hk,Nat.le_refl _,by simp,fun F hF ρ' κ' ao g a w c5 ⟨G,ai⟩=>?_⟩
   unfold jP
   rw [bX hg ao.bl ai]
   cases gd with
   | true =>
    rw [if_pos rfl]
    exact h ρ' κ' ao F hF g a w G ai rfl _ fun v w' G' h1 h2=>⟨G',by rw [iG]; exact h1.put fS (.opt true av v (fun _=>h2) (by simp))⟩
   | false =>
    simp only [Bool.false_eq_true,if_false,iG]
    exact ⟨G,ai.put fS (.opt false av undef (by simp) (fun _=>rfl))⟩
theorem kF.zQ {f:Nat} {ds rs:List DV} (h:kF P f ds rs):gM P f:=by obtain ⟨_,_,h,_⟩:=h; exact h
open Classical in
noncomputable def kG (G:Gh) (w:World) (κ:Nat→ak) (ids:List Nat):Mem:=fun b=>if ∃i,i∈ids∧bE G i (κ i) b then w.heap[b]? else G.M b
theorem Cd {G:Gh} {w:World} {κ:Nat→ak} {ids:List Nat} (hf:Fit G w κ):(kG G w κ ids).In w:=by
 intro b x hb
 unfold kG at hb
 split at hb
 ·exact hb
 ·exact hf.sub b x hb
theorem tq {G:Gh} {w:World} {κ:Nat→ak} {ids:List Nat} (hf:Fit G w κ):Mem.Le G.M (kG G w κ ids):=by
 intro b x hb
 unfold kG
 split
 ·rename_i h; obtain ⟨i,_,ho⟩:=h; rw [hf.own i b ho] at hb; cases hb
 ·exact hb
theorem zR {G:Gh} {w:World} {κ:Nat→ak} {ids:List Nat} {i b:Nat} (hi:i∈ids) (ho:bE G i (κ i) b):kG G w κ ids b=w.heap[b]?:=by
 unfold kG
 rw [if_pos ⟨i,hi,ho⟩]
theorem GY {f:Nat} {l:List AV} (hn:∀i,nx≤i→κ i=.none) (hg:bF ρ ops o.guard=some gd) (bj:qp P ops o ρ κ gd f l) (h:tr P n o nx κ gd k f l):Good P C ops n o nx ρ κ k:=by
 have Po:(zO κ gd l fun ds ids=>∃rs,(gd=true→kF P f ds rs)∧ts rs=true∧aM n o gd nx k (tu rs) ids)→Good P C ops n o nx ρ κ k:=by
  intro h
  obtain ⟨ds,ids,⟨rs,hc,J8,hk⟩,hb⟩:=rK h
  refine zP hg hk fun ρ' κ' ao F hF g a w G ai aI K hK=>?_
  obtain ⟨es,hle,Q7,zD⟩:=hc aI
  obtain ⟨vs,aV,dr⟩:=bj.2 ρ' κ' _ _ ao g n a w G ai aI Q7
  have hd:=hle.J3 (hb aI κ' G w vs ao.reads ai.fit dr (kG G w κ' ids) (tq ai.fit) (fun i hi b ho=>zR hi ho))
  refine qq hF bj.1 aV ((zD w _ vs (Cd ai.fit) ((ai.nA.mono ai.mem).mono (tq ai.fit)) hd).mono ?_)
  rintro e w' ⟨v,M',rfl,J9,Ka,ea,vU,qs⟩
  refine ⟨v,rfl,?_⟩
  have hM:∀b,(if b<w.heap.size then G.M b else M' b)=(fun b=>if b<w.heap.size then G.M b else M' b) b:=fun _=>rfl
  obtain ⟨h1,h2⟩:=ai.grown (w':=w') (M':=fun b=>if b<w.heap.size then G.M b else M' b) J9
   (fun b x hx=>by
    have aK:b<w.heap.size:=(Array.getElem?_eq_some_iff.1 (ai.fit.sub b x hx)).1
    simp only [if_pos aK]; exact hx)
   (fun b x hx=>by
    by_cases aK:b<w.heap.size
    ·simp only [if_pos aK] at hx; rw [J9.block b aK]; exact ai.fit.sub b x hx
    ·simp only [if_neg aK] at hx; exact ea b x hx)
   (fun b hb=>by simp only [if_pos hb])
  exact hK v w' _ h1 (DT (GZ J8 qs))
 have DU:∀{ds:List DV} {rs:List DV} {ids:List Nat} {κ':Nat→ak} {g:df} {a:Act} {w:World} {G:Gh} {F:Fence} {ρ':Nat→AV} {vs:List Value} {K:Act→World→Prop},fI F→kF P f ds rs→bT g n ρ' κ' a w G→eC G.M ds vs→(execOp a.eval o).run P w=.ok (.enter f vs.toArray) w →
   (∀v w' G',bT g n ρ' κ' a w' G'→aC G' (tu rs) v→K (a.put o.dst v) w')→o.wpIn F 0 P a w K (fun _ _ _=>False):=by
  intro ds rs ids κ' g a w G F ρ' vs K hF hc ai hd aV hK
  obtain ⟨es,hle,Q7,zD⟩:=hc
  refine qq hF bj.1 aV ((zD w _ vs ai.fit.sub (ai.nA.mono ai.mem) (hle.J3 hd)).mono ?_)
  rintro e w' ⟨v,M',rfl,J9,Ka,ea,vU,qs⟩
  refine ⟨v,rfl,?_⟩
  obtain ⟨h1,h2⟩:=ai.grown J9 Ka ea vU
  exact hK v w' _ h1 (DT qs)
 unfold tr at h
 split at h
 ·rename_i ds Ce
  obtain ⟨rs,hc,hk⟩:=h
  refine zP hg hk fun ρ' κ' ao F hF g a w G ai aI K hK=>?_
  obtain ⟨vs,aV,dr⟩:=bj.2 ρ' κ' _ _ ao g n a w G ai aI (hc aI).zQ
  exact DU (ids:=[]) hF (hc aI) ai (iu (κ:=κ) (κ':=κ') (w:=w) (all:=[]) (by simp) (Gh.Le.refl G) (by simpa [js,aq] using ai.fit) Ce (by simp) dr) aV hK
 ·rename_i ds ids bA Ce
  rcases h with h | ⟨rs,hc,hk⟩
  ·exact Po h
  ·refine DW bj.1 hg hk (Nat.le_refl _) (fun p hp=>qu hn hp) fun ρ' κ' ao F hF g a w G c5 ai aI K hK=>?_
   obtain ⟨vs,aV,dr⟩:=bj.2 ρ' κ' _ _ ao g n a w G ai aI (hc aI).zQ
   obtain ⟨G1,f1,f2,f3,f4,f5⟩:=ai.m8 (κ:=κ) ids ao.reads
   exact DU (ids:=[]) hF (hc aI) f5 (iu ao.reads f1 f5.fit Ce (fun i hi=>hi) dr) aV hK
 ·exact Po h
end
end Go.TM
