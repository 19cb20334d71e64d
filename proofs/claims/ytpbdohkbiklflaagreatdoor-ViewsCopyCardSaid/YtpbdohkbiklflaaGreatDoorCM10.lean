import Derived.Test.YtpbdohkbiklflaaGreatDoorCM9
import Derived.Laws.BytesString
set_option linter.unusedVariables false
set_option linter.unusedSimpArgs false
set_option linter.unusedSectionVars false
namespace Go.TM
open Go.RowKit
variable [cu]
section
variable {P:Program} {C:dD→Prop} {T:List TI} {ops:List Oper} {n:Nat} {o:Oper} {nx:Nat} {ρ:Nat→AV} {κ:Nat→ar} {k:jH→Nat→Prop} {gd:Bool}
def vA (ρ:Nat→AV) (κ:Nat→ar) (g:Bool):Option Operand→Option Int→Prop
 | none,none=>True
 | some x,some n=>bu ρ κ g x (.dv (.int .i64 n))
 | _,_=>False
theorem yP {x:Option Operand} {q:Option Int→Prop} (h:TJ ρ κ gd x q):∃b,q b∧vA ρ κ gd x b:=by
 unfold TJ at h
 split at h
 ·exact ⟨none,h,tv⟩
 ·obtain ⟨v,h,hv⟩:=aI h
  split at h
  ·rename_i m; exact ⟨some m,h,hv⟩
  ·exact h.elim
theorem vA.val {ρ':Nat→AV} {κ':Nat→ar} {g:dD} {a:Act} {w:World} {G:Gh} {x:Option Operand} {b:Option Int} (h:vA ρ κ gd x b) (ak:cf g n ρ' κ' a w G) (aR:gd=true) (ax:∀y,x=some y→Ag ρ ρ' κ κ' y):x.map a.eval=b.map (Value.int .i64):=by
 cases x with
 | none=>cases b with
  | none=>rfl
  | some=>exact h.elim
 | some y=>cases b with
  | none=>exact h.elim
  | some m =>
   have hv:=h ρ' κ' (ax y rfl) g n a w G ak aR
   simp only [Option.map_some]
   generalize a.eval y=v at hv
   cases hv with | dv hv=>cases hv with | int=>rfl
theorem pJ {w:World} {isSl:Bool} {len cap:Nat} {lo hi:Option Int} (h1:0≤lo.getD 0) (h2:lo.getD 0≤hi.getD len) (h3:hi.getD len≤len) (h4:len≤cap) :
  (Instr.sliceBounds isSl len cap (lo.map (Value.int .i64)) (hi.map (Value.int .i64)) none).run P w=.ok ((lo.getD 0).toNat,(hi.getD len).toNat,cap) w:=by
 cases lo with
 | none =>
  cases hi with
  | none=>simp [Instr.sliceBounds]
  | some h =>
   simp only [Option.getD_some,Option.getD_none] at *
   have:0≤h∧h≤(cap:Int):=by omega
   simp [Instr.sliceBounds,Instr.sliceBound,asIntOf,this]
 | some l =>
  cases hi with
  | none =>
   simp only [Option.getD_some,Option.getD_none] at *
   have:0≤l∧l≤(len:Int):=by omega
   simp [Instr.sliceBounds,Instr.sliceBound,asIntOf,this]
  | some h =>
   simp only [Option.getD_some] at *
   have h5:0≤h∧h≤(cap:Int):=by omega
   have h6:0≤l∧l≤h:=by omega
   have h7:(max h 0:Int)=h:=by omega
   simp [Instr.sliceBounds,Instr.sliceBound,asIntOf,h5,h6,h7]
theorem Kv (hT:er P T) {s t:Nat} {x:Operand} {v:AV} (hg:bR ρ ops o.guard=some gd) (ho:o.op=.convert s t x) (hs:(nth T s).ok=true) (ht:(nth T t).ok=true)
  (h:EV (nth T s) (nth T (nth T s).elem) (nth T t) κ v fun r rd=>aW n o gd nx k r rd) (bB:bu ρ κ gd x v):Good P C ops n o nx ρ κ k:=by
 obtain ⟨i1,u1,z1,TK⟩:=hT.facts hs
 obtain ⟨i2,u2,z2,VN⟩:=hT.facts ht
 unfold EV at h
 cases hb:(nth T s).isSl && (nth T (nth T s).elem).ok && N0 (nth T (nth T s).elem).EW && (nth T t).isStr with
 | false=>rw [hb] at h; exact h.elim
 | true =>
 rw [hb] at h
 simp only [cond_true] at h
 simp only [Bool.and_eq_true] at hb
 obtain ⟨⟨⟨gX,fJ⟩,Wr⟩,ak⟩:=hb
 obtain ⟨i3,u3,z3,YD⟩:=hT.facts fJ
 have P4:=TK.slice gX
 have Ws:=VN.string ak
 have Wt:P.underlying (nth T s).elem=some (.int .u8):=by
  have h3:=YD.EW
  rw [h3] at Wr
  cases u3 <;> simp [Cl,N0] at Wr
  rename_i kk
  cases kk <;> simp [N0] at Wr
  exact YD.yQ
 have c9:∀c,o.op ≠ .defer c:=fun c=>by rw [ho]; simp
 rcases ji h with ⟨rfl,hk⟩ | ⟨sz,ys,rd,kill,hk,Kw,N1,gT⟩
 ·refine bm c9 hg hk fun ρ' κ' ax g a w G ak aR=>?_
  have hv:=bB ρ' κ' (ax.op (by rw [ho]; simp [Op.operands])) g n a w G ak aR
  generalize hx:a.eval x=q at hv
  cases hv with | dv hv=>cases hv with | aG =>
  exact ⟨.string .empty,by simp [execOp,ho,hx,run_convert_bytes_string w s t _ none 0 0 P4 Wt Ws,Conv.bytesToString],.dv (.str _)⟩
 ·cases hb:Nat.beq sz 1 && P5 kill with
  | false=>rw [hb] at hk; exact hk.elim
  | true =>
  rw [hb] at hk
  simp only [cond_true] at hk
  simp only [Bool.and_eq_true] at hb
  have:=Nat.eq_of_beq_eq_true hb.1
  subst this
  obtain ⟨ns,rfl,hk⟩:=hk
  refine bm c9 hg hk fun ρ' κ' ax g a w G ak aR=>?_
  have hv:=bB ρ' κ' (ax.op (by rw [ho]; simp [Op.operands])) g n a w G ak aR
  obtain ⟨dI,Kx,_⟩:=gT κ' G w _ (fun i hi=>ax.reads i hi) ak.fit hv
  generalize hx:a.eval x=q at Kx
  rcases Kx.Q0 with ⟨c,rfl,lM⟩ | ⟨A,cap,cell,rfl,cE⟩
  ·have:ns=[]:=by simpa using lM
   subst this
   exact ⟨.string .empty,by simp [execOp,ho,hx,run_convert_bytes_string w s t _ none 0 c P4 Wt Ws,Conv.bytesToString],.dv (.str _)⟩
  ·have TL:(loadCells A (ns.map (DV.int .u8)).length).run P w=.ok (ns.map (Value.int .u8)).toArray w:=by
    have h1:=run_loadCells (P:=P) w A (ns.map (DV.int .u8)).length (fun j=>Value.int .u8 (ns.getD j 0)) (fun j hj=>by
     have na:j<ns.length:=by simpa using hj
     obtain ⟨_,h2⟩:=cE j (.int .u8 ns[j]) (by simp [na])
     obtain ⟨_,h3,_,_,h4⟩:=h2 0 (.int .u8 ns[j]) rfl
     rw [Nat.mul_one,Nat.add_zero] at h3
     rw [h3]
     rcases h4 with ⟨h5,_⟩ | ⟨_,h5⟩
     ·cases h5
     ·generalize cell j 0=u at h5 ⊢
      cases h5 with | int=>simp [List.getD,na])
    rw [h1]
    congr 2
    refine List.ext_getElem (by simp) fun j h2 h3=>?_
    simp at h2 h3
    simp [List.getD,h3]
   refine ⟨.string (P6 ns),?_,.dv (.str _)⟩
   have h2:=run_bytesToString (P:=P) w A (ns.map (DV.int .u8)).length cap ns TL
   simp only [execOp,ho,hx,Sem.run_bind,run_convert_bytes_string w s t _ (some A) _ cap P4 Wt Ws,h2,Result.andThen_ok,Sem.run_pure]
   rfl
theorem aM {c:Bool} {p:Prop} (h:bif c then p else False):c=true∧p:=by cases c <;> simp_all
theorem cf.cut {g:dD} {κ' κ2:Nat→ar} {a:Act} {w:World} {G:Gh} (ak:cf g n ρ κ' a w G) {i ver bN sz:Nat} {xs:List DV} (dV:κ' i=.tree ver bN (.aw sz xs)) {L H:Int} (b1:0≤L) (b2:L≤H) (b3:H≤xs.length)
  (h1:κ2 i=.tree (ver+1) 0 (.aw sz ((xs.take H.toNat).drop L.toNat))) (h3:∀j,j ≠ i→κ2 j=κ' j) {v0:Value} (Ah:aB G.H i ver bN []=some v0) :
  ∃A cap,v0=.slice A xs.length cap∧xs.length≤cap∧∃G',cf g n ρ κ2 a w G'∧aH G' (.own i (ver+1) 0 []) (.slice (if cap=L.toNat then A else A.map (·.add (L.toNat * sz))) (H.toNat - L.toNat) (cap - L.toNat)):=by
 have dQ:=ak.fit.box i
 rw [dV] at dQ
 obtain ⟨ht,dB,Kz,sd⟩:=dQ
 obtain ⟨v0',qL,qM,bf⟩:=ht.2 [] _ rfl rfl
 rw [Ah] at qL; injection qL with qL; subst qL
 have qL:=Ah
 have hlen:((xs.take H.toNat).drop L.toNat).length=H.toNat - L.toNat:=by simp; omega
 let hN:Value→List PS→Option Value:=fun v' q=>match q with
  | []=>some v'
  | .el i' j::r=>aB G.H i ver bN (.el (i'+L.toNat) j::r)
  | _=>none
 have fin:∀v':Value,v'.oneCell'=true→(∀b,fj v'=some b→fj v0=some b)→ca G.M w v' (fun s=>hN v' ([]++[s])) (.aw sz ((xs.take H.toNat).drop L.toNat)) →
   ∃G',cf g n ρ κ2 a w G'∧aH G' (.own i (ver+1) 0 []) v':=by
  intro v' EX Q1 Cm
  have yc:∀i' j c,step (.aw sz ((xs.take H.toNat).drop L.toNat)) (.el i' j)=some c→step (.aw sz xs) (.el (i'+L.toNat) j)=some c:=by
   intro i' j c hc
   simp only [step] at hc ⊢
   rw [List.getElem?_drop,List.getElem?_take] at hc
   by_cases e:L.toNat+i'<H.toNat
   ·rw [if_pos e,Nat.add_comm] at hc; exact hc
   ·rw [if_neg e] at hc; cases hc
  have el:∀s c,step (.aw sz ((xs.take H.toNat).drop L.toNat)) s=some c→∃i' j,s=.el i' j:=by
   intro s c dI
   cases s with
   | el i' j=>exact ⟨i',j,rfl⟩
   | key=>simp [step] at dI
  obtain ⟨m1,m2,m3⟩:=aX.pK (w:=w) (w':=w) (h:=IN) (h':=hN v') (p:=[]) (n:=.aw sz []) (n':=.aw sz ((xs.take H.toNat).drop L.toNat)) (v:=.slice none 0 0) (v':=v') (fun _=>True) (vB G.M w _) (Ai _) rfl rfl rfl rfl rfl EX (.inl rfl) Cm
   (fun q hq=>absurd (List.nil_prefix) hq) (fun s c _ _ hN=>absurd trivial hN)
   (fun s c dI x4 _=>by
    obtain ⟨i',j,rfl⟩:=el s c dI
    have Ti:get (.aw sz xs) [.el (i'+L.toNat) j]=some c:=by simp [get,yc i' j c dI]
    refine ⟨ht.sub Ti x4,dB.sub Ti,fun b hb=>⟨fun h=>jk h,fun cL=>?_⟩⟩
    obtain ⟨q,m,uu,c1,c2,c3,c4⟩:=hb
    have:=dB [] (.el (i'+L.toNat) j::q) _ m v0 uu b rfl rfl qL (Q1 b cL) (by simp only [get,yc i' j c dI]; exact c1) c2 c3 c4
    cases this)
   (fun s s' c c' b fh KA _ ph ED _ ki cy=>by
    obtain ⟨i1,j1,rfl⟩:=el s c fh
    obtain ⟨i2,j2,rfl⟩:=el s' c' ph
    obtain ⟨q,m,uu,c1,c2,c3,c4⟩:=ki
    obtain ⟨q',m',ZG,d1,d2,d3,d4⟩:=cy
    have:=dB (.el (i1+L.toNat) j1::q) (.el (i2+L.toNat) j2::q') m m' uu ZG b (by simp only [get,yc i1 j1 c fh]; exact c1) c2 c3 c4 (by simp only [get,yc i2 j2 c' ph]; exact d1) d2 d3 d4
    injection this with e1 _
    injection e1 with e1 e2
    have:i1=i2:=by omega
    rw [this,e2])
   (fun b hb=>.inr fun h=>jk h) (fun b h=>(jk h).elim)
  obtain ⟨G',g1,g2,_,g4,_,_,g7⟩:=ak.kl (κ':=κ2) (w':=w) (i:=i) (ver:=ver+1) (ep:=0) (d:=.aw sz ((xs.take H.toNat).drop L.toNat)) (fun _=>False) (hN v') (fun h=>h.elim) (.inr ⟨ver,bN,_,dV,by omega,by omega⟩) (fun _ h=>h.elim) h1 (fun j hj _=>h3 j hj)
   (fun q y hy=>by cases q <;> simp [aB,Kz (ver+1) (by omega)] at hy) m1 m2
   (fun b hb=>by
    rcases m3 b hb with h5 | h5 | ⟨s,c,s1,s2,_,s4⟩
    ·exact (jk h5).elim
    ·exact .inr (.inl (by rw [dV]; exact ⟨[],_,v0,rfl,rfl,qL,Q1 b h5⟩))
    ·obtain ⟨i',j,rfl⟩:=el s c s1
     have Ti:get (.aw sz xs) [.el (i'+L.toNat) j]=some c:=by simp [get,yc i' j c s1]
     exact .inr (.inl (by rw [dV]; exact aQ.sub (p:=[.el (i'+L.toNat) j]) Ti s4)))
   (fun _ _ _ _=>rfl) (fun b hb=>by
    rcases hb with h5 | ⟨_,h5,_⟩
    ·exact ak.fit.own i b h5
    ·exact h5.elim) (Nat.le_refl _) rfl rfl rfl
  exact ⟨G',g7,.own _ _ _ _ _ ((g4 []).trans rfl) EX⟩
 rcases bf with ⟨rfl,rfl⟩ | ⟨gb,ob,cap,c,tt,rfl,eA,hw,Q2,o7⟩
 ·simp at b3
  have hL:L=0:=by omega
  have hH:H=0:=by omega
  subst hL; subst hH
  refine ⟨none,0,rfl,Nat.le_refl _,?_⟩
  simpa using fin (.slice none 0 0) rfl (by simp [fj]) (.inl ⟨by simp,rfl⟩)
 ·refine ⟨_,_,rfl,eA,fin _ rfl ?_ ?_⟩
  ·intro b hb
   split at hb
   ·exact hb
   ·simp only [Option.map_some,fj,cO] at hb; exact hb
  ·by_cases e:cap=L.toNat
   ·have lM:(xs.take H.toNat).drop L.toNat=[]:=List.eq_nil_of_length_eq_zero (by rw [hlen]; omega)
    rw [if_pos e,lM]
    rw [show cap - L.toNat=0 by omega,show H.toNat - L.toNat=0 by omega]
    refine .inr ⟨gb,ob,0,c,tt,rfl,by simp,hw,by omega,by simp⟩
   ·rw [if_neg e]
    refine .inr ⟨gb,ob+L.toNat * sz,cap - L.toNat,c,tt,by simp only [Option.map_some,cO]; rw [hlen],by rw [hlen]; omega,hw,?_,fun i' y hy=>?_⟩
    ·have:L.toNat * sz+(cap - L.toNat) * sz=cap * sz:=by rw [←Nat.add_mul]; congr 1; omega
     omega
    ·rw [List.getElem?_drop,List.getElem?_take] at hy
     split at hy
     ·obtain ⟨c1,c2⟩:=o7 _ y hy
      refine ⟨c1,fun j d' jx=>?_⟩
      obtain ⟨d1,uu,d2,d3⟩:=c2 j d' jx
      refine ⟨d1,uu,?_,?_⟩
      ·rw [←d2]; congr 1; rw [Nat.add_mul]; omega
      ·show db G.M (aB G.H i ver bN [.el (i'+L.toNat) j]) d' uu
       rw [Nat.add_comm]; exact d3
     ·cases hy
theorem yR (hT:er P T) {t:Nat} {x:Operand} {l h:Option Operand} {v:AV} {lo hi:Option Int} (hg:bR ρ ops o.guard=some gd) (ho:o.op=.slice t x l h none) (hn:∀i,nx≤i→κ i=.none)
  (bK:(nth T t).ok=true) (gX:((nth T t).isSl && (nth T (nth T t).elem).ok || (nth T t).isStr)=true) (hx:bu ρ κ gd x v) (hl:vA ρ κ gd l lo) (hh:vA ρ κ gd h hi)
  (hk:km (nth T t) (nth T (nth T t).elem).size κ gd v lo hi (fun v=>aW n o gd nx k v []) (fun v bx rd=>dE n o nx k v bx rd)):Good P C ops n o nx ρ κ k:=by
 obtain ⟨ti,u,z,tf⟩:=hT.facts bK
 have c9:∀c,o.op ≠ .defer c:=fun c=>by rw [ho]; simp
 have mx:x∈o.op.operands:=by rw [ho]; simp [Op.operands]
 have ml:∀y,l=some y→y∈o.op.operands:=fun y hy=>by rw [ho,hy]; simp [Op.operands]
 have mh:∀y,h=some y→y∈o.op.operands:=fun y hy=>by rw [ho,hy]; simp [Op.operands]
 have cut:∀{w:World} {a:Act} {A:Option Addr} {len cap:Nat},(nth T t).isSl=true→a.eval x=.slice A len cap→l.map a.eval=lo.map (Value.int .i64)→h.map a.eval=hi.map (Value.int .i64)→0≤lo.getD 0→lo.getD 0≤hi.getD len→hi.getD len≤len→len≤cap→(nth T (nth T t).elem).ok=true →
   (execOp a.eval o).run P w=.ok (.value (.slice (if cap=(lo.getD 0).toNat then A else A.map (·.add ((lo.getD 0).toNat * (nth T (nth T t).elem).size))) ((hi.getD len).toNat - (lo.getD 0).toNat) (cap - (lo.getD 0).toNat))) w:=by
  intro w a A len cap hs tB hle vD h1 h2 h3 h4 tC
  obtain ⟨te,ue,ze,iT⟩:=hT.facts tC
  have hb:=pJ (P:=P) (w:=w) (isSl:=true) (len:=len) (cap:=cap) h1 h2 h3 h4
  have oz:=iT.eZ w
  simp [execOp,ho,Instr.sliceAt,Instr.slice,run_underlying (tf.slice hs),tB,hle,vD,hb,oz]
 unfold km at hk
 split at hk
 ·rename_i sz xs
  cases jy:(nth T t).isSl && Nat.beq sz (nth T (nth T t).elem).size with
  | false=>rw [jy] at hk; exact hk.elim
  | true =>
  rw [jy] at hk
  obtain ⟨IP,hk⟩:=hk
  simp only [Bool.and_eq_true] at jy
  obtain ⟨hs,EY⟩:=jy
  have:=Nat.eq_of_beq_eq_true EY
  subst this
  have tC:(nth T (nth T t).elem).ok=true:=by
   simp only [Bool.or_eq_true,Bool.and_eq_true] at gX
   rcases gX with h5 | h5
   ·exact h5.2
   ·exfalso
    have q1:=tf.isSl; have q2:=tf.isStr
    rw [hs] at q1; rw [h5] at q2
    cases u <;> simp [IQ,strOf] at q1 q2
  refine bm c9 hg hk fun ρ' κ' ax g a w G ak aR=>?_
  have hv:=hx ρ' κ' (ax.op mx) g n a w G ak aR
  have hle:=hl.val ak aR (fun y hy=>ax.op (ml y hy))
  have vD:=hh.val ak aR (fun y hy=>ax.op (mh y hy))
  obtain ⟨b1,b2,b3⟩:=IP aR
  generalize tB:a.eval x=q at hv
  cases hv with | dv hv =>
  generalize qN:lo.getD 0=L at b1 b2 b3 ⊢
  generalize Aj:hi.getD (xs.length:Int)=H at b1 b2 b3 ⊢
  have hlen:((xs.take H.toNat).drop L.toNat).length=H.toNat - L.toNat:=by simp; omega
  cases hv with
  | slnil =>
   simp at b3 Aj
   have hL:L=0:=by omega
   have hH:H=0:=by omega
   subst hL; subst hH
   refine ⟨_,cut hs tB hle vD (by rw [qN]; omega) (by rw [qN]; simp [Aj]) (by simp [Aj]) (Nat.le_refl _) tC,?_⟩
   rw [qN]
   simp [Aj]
   exact .dv (.slnil _)
  | sl _ _ A cap cell eA Wu hc hr =>
   refine ⟨_,cut hs tB hle vD (by rw [qN]; omega) (by rw [qN,Aj]; omega) (by rw [Aj]; omega) eA tC,.dv ?_⟩
   rw [qN,Aj]
   by_cases e:cap=L.toNat
   ·have lM:(xs.take H.toNat).drop L.toNat=[]:=List.eq_nil_of_length_eq_zero (by rw [hlen]; omega)
    rw [if_pos e,lM,show H.toNat - L.toNat=0 by omega,show cap - L.toNat=0 by omega]
    exact .sl _ [] A 0 (fun _ _=>undef) (Nat.le_refl _) (by simp) (by simp) (by simp)
   ·rw [if_neg e]
    simp only [Option.map_some]
    rw [←hlen]
    refine .sl _ _ _ _ (fun i j=>cell (L.toNat+i) j) (by rw [hlen]; omega) (fun y hy=>Wu y (List.mem_of_mem_take (List.mem_of_mem_drop hy))) (fun i j hi hj=>?_) (fun i y j d hy hd=>?_)
    ·rw [cF]
     have:=hc (L.toNat+i) j (by rw [hlen] at hi; omega) hj
     rw [Nat.add_mul] at this
     rw [show L.toNat * (nth T (nth T t).elem).size+(i * (nth T (nth T t).elem).size+j)=L.toNat * (nth T (nth T t).elem).size+i * (nth T (nth T t).elem).size+j by omega]
     exact this
    ·rw [List.getElem?_drop,List.getElem?_take] at hy
     split at hy
     ·exact hr _ y j d hy hd
     ·cases hy
 ·rename_i i ver ep
  split at hk
  ·rename_i bg bN d dV
   cases hb:Nat.beq ver bg with
   | false=>rw [hb] at hk; exact hk.elim
   | true =>
   rw [hb] at hk
   simp only [cond_true] at hk
   have:=Nat.eq_of_beq_eq_true hb
   subst this
   cases d with
   | aw sz xs =>
    simp only at hk
    cases jy:(nth T t).isSl && Nat.beq sz (nth T (nth T t).elem).size with
    | false=>rw [jy] at hk; exact hk.elim
    | true =>
    rw [jy] at hk
    obtain ⟨⟨b1,b2,b3⟩,hk⟩:=hk
    simp only [Bool.and_eq_true] at jy
    obtain ⟨hs,EY⟩:=jy
    have:=Nat.eq_of_beq_eq_true EY
    subst this
    have tC:(nth T (nth T t).elem).ok=true:=by
     simp only [Bool.or_eq_true,Bool.and_eq_true] at gX
     rcases gX with h5 | h5
     ·exact h5.2
     ·exfalso
      have q1:=tf.isSl; have q2:=tf.isStr
      rw [hs] at q1; rw [h5] at q2
      cases u <;> simp [IQ,strOf] at q1 q2
    have se:i<nx:=pj hn ⟨_,_,_,dV⟩
    refine cY c9 hg hk (Nat.le_refl _) (by simpa using se) fun ρ' κ' ax g a w G dq ak aR=>?_
    have he:=ax.reads i (by simp)
    have hv:=hx ρ' κ' (ax.op mx) g n a w G ak aR
    have hle:=hl.val ak aR (fun y hy=>ax.op (ml y hy))
    have vD:=hh.val ak aR (fun y hy=>ax.op (mh y hy))
    have dQ:=ak.fit.box i
    rw [he,dV] at dQ
    obtain ⟨ht,dB,Kz,sd⟩:=dQ
    obtain ⟨v0,qL,qM,bf⟩:=ht.2 [] _ rfl rfl
    have tB:a.eval x=v0:=by
     generalize a.eval x=q at hv
     cases hv with | own _ _ _ _ _ Wv hc=>have:aB G.H i ver bN []=some q:=Wv
                                          rw [qL] at this; injection this with this; exact this.symm
    obtain ⟨A,cap,rfl,eA,G',g7,Ww⟩:=ak.cut (κ2:=az κ' [(i,.tree (ver+1) 0 (.aw (nth T (nth T t).elem).size ((xs.take (hi.getD xs.length).toNat).drop (lo.getD 0).toNat)))]) (he.trans dV) b1 b2 b3 (by simp [az]) (fun j hj=>by simp [az,ae _ _ hj]) qL
    exact ⟨_,w,G',.inl (cut hs tB hle vD b1 b2 b3 eA tC),g7,Ww⟩
   | _=>exact hk.elim
  ·exact hk.elim
 ·rename_i s
  cases gn:(nth T t).isStr with
  | false=>rw [gn] at hk; exact hk.elim
  | true =>
   rw [gn] at hk
   obtain ⟨IP,hk⟩:=hk
   refine bm c9 hg hk fun ρ' κ' ax g a w G ak aR=>?_
   have hv:=hx ρ' κ' (ax.op mx) g n a w G ak aR
   have hle:=hl.val ak aR (fun y hy=>ax.op (ml y hy))
   have vD:=hh.val ak aR (fun y hy=>ax.op (mh y hy))
   obtain ⟨b1,b2,b3⟩:=IP aR
   generalize tB:a.eval x=q at hv
   cases hv with | dv hv=>cases hv with | str =>
   have hb:=pJ (P:=P) (w:=w) (isSl:=false) (len:=s.size) (cap:=s.size) b1 b2 b3 (Nat.le_refl _)
   refine ⟨_,?_,.dv (.str _)⟩
   simp [execOp,ho,Instr.sliceAt,Instr.slice,run_underlying (tf.string gn),tB,hle,vD,hb]
 ·exact hk.elim
theorem KB (hT:er P T) {t:Nat} {x:Operand} {l h:Option Operand} {v:AV} {lo hi:Option Int} (hg:bR ρ ops o.guard=some gd) (ho:o.op=.slice t x l h none) (hn:∀i,nx≤i→κ i=.none)
  (bK:(nth T t).ok=true) (gX:((nth T t).isSl && (nth T (nth T t).elem).ok || (nth T t).isStr)=true) (hx:bu ρ κ gd x v) (hl:vA ρ κ gd l lo) (hh:vA ρ κ gd h hi)
  (hk:vE (nth T t) (nth T (nth T t).elem).size κ gd nx v lo hi (fun v rd=>aW n o gd nx k v rd) (fun v bx rd=>dE n o nx k v bx rd) (fun v bx rd=>dE n o (nx+1) k v bx rd)):Good P C ops n o nx ρ κ k:=by
 unfold vE at hk
 split at hk
 ·rename_i i ver ep p
  rcases hk with hk | hk | hk
  ·exact yR hT hg ho hn bK gX hx hl hh hk
  all_goals
   obtain ⟨ti,u,z,tf⟩:=hT.facts bK
   have c9:∀c,o.op ≠ .defer c:=fun c=>by rw [ho]; simp
   have mx:x∈o.op.operands:=by rw [ho]; simp [Op.operands]
   have ml:∀y,l=some y→y∈o.op.operands:=fun y hy=>by rw [ho,hy]; simp [Op.operands]
   have mh:∀y,h=some y→y∈o.op.operands:=fun y hy=>by rw [ho,hy]; simp [Op.operands]
   have cut:∀{w:World} {a:Act} {A:Option Addr} {len cap:Nat},(nth T t).isSl=true→a.eval x=.slice A len cap→l.map a.eval=lo.map (Value.int .i64)→h.map a.eval=hi.map (Value.int .i64)→0≤lo.getD 0→lo.getD 0≤hi.getD len→hi.getD len≤len→len≤cap→(nth T (nth T t).elem).ok=true →
     (execOp a.eval o).run P w=.ok (.value (.slice (if cap=(lo.getD 0).toNat then A else A.map (·.add ((lo.getD 0).toNat * (nth T (nth T t).elem).size))) ((hi.getD len).toNat - (lo.getD 0).toNat) (cap - (lo.getD 0).toNat))) w:=by
    intro w a A len cap hs tB hle vD h1 h2 h3 h4 tC
    obtain ⟨te,ue,ze,iT⟩:=hT.facts tC
    have hb:=pJ (P:=P) (w:=w) (isSl:=true) (len:=len) (cap:=cap) h1 h2 h3 h4
    have oz:=iT.eZ w
    simp [execOp,ho,Instr.sliceAt,Instr.slice,run_underlying (tf.slice hs),tB,hle,vD,hb,oz]
   have Q3:(nth T t).isSl=true→(nth T (nth T t).elem).ok=true:=fun hs=>by
    simp only [Bool.or_eq_true,Bool.and_eq_true] at gX
    rcases gX with h5 | h5
    ·exact h5.2
    ·exfalso
     have q1:=tf.isSl; have q2:=tf.isStr
     rw [hs] at q1; rw [h5] at q2
     cases u <;> simp [IQ,strOf] at q1 q2
  ·unfold Hf at hk
   split at hk
   ·rename_i bg bN d dV
    have hh:=aM hk; clear hk; obtain ⟨hb,hk⟩:=hh
    obtain ⟨rfl,dx⟩:=dt hb
    obtain ⟨nd,hk,Q4⟩:=bG hk
    split at hk
    ·rename_i sz xs
     have hh:=aM hk; clear hk; obtain ⟨cy,IP,hk⟩:=hh
     simp only [Bool.and_eq_true] at cy
     obtain ⟨hs,EY⟩:=cy
     have:=Nat.eq_of_beq_eq_true EY
     subst this
     refine bm c9 hg hk fun ρ' κ' ax g a w G ak aR=>?_
     have hv:=hx ρ' κ' (ax.op mx) g n a w G ak aR
     have hle:=hl.val ak aR (fun y hy=>ax.op (ml y hy))
     have vD:=hh.val ak aR (fun y hy=>ax.op (mh y hy))
     obtain ⟨b1,b2,b3⟩:=IP aR
     have Wx:κ' i=.tree ver bN d:=(ax.reads i (by simp)).trans dV
     obtain ⟨u0,h1,_,bf⟩:=ak.fit.node Wx (Q4 aR) rfl
     generalize tB:a.eval x=q at hv
     cases hv with | own _ _ _ _ _ yd hc =>
     have qL:=yd
     rw [cU dx,h1] at qL
     injection qL with qL
     subst qL
     rcases bf with ⟨rfl,rfl⟩ | ⟨gb,ob,cap,cc,tt,rfl,eA,hw,Wy,EE⟩
     ·have Q5:=cut (w:=w) hs tB hle vD b1 (by simpa using b2) (by simpa using b3) (Nat.le_refl _) (Q3 hs)
      refine ⟨_,Q5,?_⟩
      refine .pre _ _ _ _ _ _ _ _ _ fun bJ=>?_
      simp at b3 bJ; omega
     ·have Q5:=cut (w:=w) hs tB hle vD b1 b2 b3 eA (Q3 hs)
      refine ⟨_,Q5,?_⟩
      refine .pre _ _ _ _ _ _ _ _ _ fun bJ=>⟨_,_,_,yd,?_⟩
      rw [if_neg (by omega)]
      rfl
    ·exact hk.elim
   ·exact hk.elim
  ·unfold Hg at hk
   split at hk
   ·exact hk.elim
   rename_i Wz
   split at hk
   ·rename_i bg bN d dV
    have hh:=aM hk; clear hk; obtain ⟨hb,hk⟩:=hh
    simp only [Bool.and_eq_true] at hb
    have:=Nat.eq_of_beq_eq_true hb.1
    subst this
    have:=Nat.eq_of_beq_eq_true hb.2
    subst this
    obtain ⟨nd,hk,Q4⟩:=bG hk
    split at hk
    ·rename_i sz xs
     have hh:=aM hk; clear hk; obtain ⟨cy,⟨b1,b2,b3⟩,hk⟩:=hh
     simp only [Bool.and_eq_true] at cy
     obtain ⟨hs,EY⟩:=cy
     have:=Nat.eq_of_beq_eq_true EY
     subst this
     obtain ⟨hk,_⟩:=eC hk
     have se:i<nx:=pj hn ⟨_,_,_,dV⟩
     refine cY c9 hg hk (by omega) (fun q hq=>?_) fun ρ' κ' ax g a w G dq ak aR=>?_
     ·rcases List.mem_cons.1 hq with rfl | hq
      ·simp
      ·rcases List.mem_cons.1 hq with rfl | hq
       ·show i<nx+1; omega
       ·cases hq
     have he:=ax.reads i (by simp)
     have fA:κ' nx=.none:=(ax.reads nx (by simp)).trans (hn nx (Nat.le_refl _))
     have hv:=hx ρ' κ' (ax.op mx) g n a w G ak aR
     have hle:=hl.val ak aR (fun y hy=>ax.op (ml y hy))
     have vD:=hh.val ak aR (fun y hy=>ax.op (mh y hy))
     have WA:p ≠ []:=fun e=>Wz e
     obtain ⟨G1,g1,g2,_,g4,g7⟩:=ak.split (κ':=az κ' [(nx,.tree 0 0 (.aw (nth T (nth T t).elem).size xs)),(i,.tree ver (ep+1) (bP d p .any))]) (i:=i) (nx:=nx) (he.trans dV) fA (Q4 rfl) rfl WA (by simp only [az]; rw [ae _ _ (by omega)]; simp) (by simp [az]) (fun j h1 h2=>by simp only [az]; rw [ae _ _ h2,ae _ _ h1])
     have kF:aB G.H i ver ep p=some (a.eval x):=by
      generalize a.eval x=q at hv
      cases hv with | own _ _ _ _ _ Wv hc=>exact Wv
     obtain ⟨A,cap,hA,eA,G',g8,Ww⟩:=g7.cut (κ2:=az κ' [(nx,.tree 1 0 (.aw (nth T (nth T t).elem).size ((xs.take (hi.getD xs.length).toNat).drop (lo.getD 0).toNat))),(i,.tree ver (ep+1) (bP d p .any))]) (i:=nx) (by simp only [az]; rw [aZ]) b1 b2 b3 (by simp only [az]; rw [aZ])
      (fun j hj=>by simp only [az]; rw [ae _ _ hj,ae _ _ hj]) (by rw [g4 [],List.append_nil]; exact kF)
     exact ⟨_,w,G',.inl (cut hs hA hle vD b1 b2 b3 eA (Q3 hs)),g8,Ww⟩
    ·exact hk.elim
   ·exact hk.elim
 ·exact yR hT hg ho hn bK gX hx hl hh hk
end
end Go.TM
namespace Go.TM
open Go.RowKit
variable [cu]
section
variable {P:Program} {C:dD→Prop} {T:List TI} {ops:List Oper} {n:Nat} {o:Oper} {nx:Nat} {ρ:Nat→AV} {κ:Nat→ar} {k:jH→Nat→Prop} {gd:Bool}
theorem gz {f:Nat} (hf:gA P f) (args:Array Value) (w:World):(callFunc f args).run P w=.ok (.enter f args) w:=by
 obtain ⟨fn,h1,h2,h3⟩:=hf
 have B9:¬ fn.name="runtime.NumGoroutine":=by simpa using h2
 have Cn:¬ fn.body=none:=by rintro hb; rw [hb] at h3; cases h3
 simp [callFunc,program,Sem.run,h1,B9,Cn]
def si (P:Program) (ops:List Oper) (o:Oper) (ρ:Nat→AV) (κ:Nat→ar) (gd:Bool) (f:Nat) (l:List AV):Prop :=
 (∀c,o.op ≠ .defer c)∧∀ρ' κ' rd bx,Ca ops o ρ ρ' κ κ' rd bx→∀(g:dD) (n:Nat) (a:Act) (w:World) (G:Gh),cf g n ρ' κ' a w G→gd=true→gA P f →
  ∃vs:List Value,(execOp a.eval o).run P w=.ok (.enter f vs.toArray) w∧bU G l vs
theorem tD {c:Call} {f:Nat} {l:List AV} (ho:o.op=.call c) (hc:c.callee=.value (.func f)) (bB:kn ρ κ gd c.args.toList l):si P ops o ρ κ gd f l:=by
 refine ⟨fun c=>by rw [ho]; simp,?_⟩
 intro ρ' κ' rd bx ax g n a w G ak aR hf
 have dg:=kn.rel ak aR bB (fun x hx=>ax.op (by rw [ho]; simp only [Op.operands,Call.operands,hc]; exact Array.mem_append.2 (.inr (by simpa using hx))))
 have bM:(List.map a.eval c.args.toList).toArray=c.args.map a.eval:=by rw [←Array.toList_map,Array.toArray_toList]
 refine ⟨_,?_,dg⟩
 rw [bM]
 simp [execOp,ho,resolve,hc,Act.eval,Deferred.ofValue,invoke,gz hf]
theorem bU.append {G:Gh} {l l':List AV} {vs tz:List Value} (h:bU G l vs) (h':bU G l' tz):bU G (l++l') (vs++tz):=by
 refine ⟨by simp [h.1,h'.1],fun j d v hd hv=>?_⟩
 rcases Nat.lt_or_ge j l.length with aK | dy
 ·rw [List.getElem?_append_left aK] at hd
  rw [List.getElem?_append_left (by rw [←h.1]; exact aK)] at hv
  exact h.2 j d v hd hv
 ·rw [List.getElem?_append_right dy] at hd
  rw [List.getElem?_append_right (by rw [←h.1]; exact dy),←h.1] at hv
  exact h'.2 _ d v hd hv
theorem pL {c:Call} {f t:Nat} {l:List AV} {av:AV} (ho:o.op=.call c) (hc:c.callee=.value (.tmp t)) (hv:bu ρ κ gd (.tmp t) av) (bB:kn ρ κ gd c.args.toList l) {L:List AV}
  (WB:(∃bA,av=.fn f bA∧L=l++bA) ∨ (∃first,av=.iA f first∧L=first++l) ∨ (∃bA,av=.dv (.fn f bA)∧L=l++iU bA)):si P ops o ρ κ gd f L:=by
 refine ⟨fun c=>by rw [ho]; simp,?_⟩
 intro ρ' κ' rd bx ax g n a w G ak aR hf
 have dg:=kn.rel ak aR bB (fun x hx=>ax.op (by rw [ho]; simp only [Op.operands,Call.operands,hc]; exact Array.mem_append.2 (.inr (by simpa using hx))))
 have sj:=hv ρ' κ' (ax.op (by rw [ho]; simp only [Op.operands,Call.operands,hc]; exact Array.mem_append.2 (.inl (by simp)))) g n a w G ak aR
 have bM:(List.map a.eval c.args.toList).toArray=c.args.map a.eval:=by rw [←Array.toList_map,Array.toArray_toList]
 generalize hx:a.eval (.tmp t)=x at sj
 have TN:∀(vs:List Value),x=.func (.func f) #[] vs.toArray→∀bA,bU G bA vs→∃us:List Value,(execOp a.eval o).run P w=.ok (.enter f us.toArray) w∧bU G (l++bA) us:=by
  rintro vs rfl bA pk
  refine ⟨c.args.toList.map a.eval++vs,?_,dg.append pk⟩
  have:(List.map a.eval c.args.toList++vs).toArray=c.args.map a.eval++vs.toArray:=by rw [←bM]; simp
  rw [this]
  simp [execOp,ho,resolve,hc,hx,Deferred.ofValue,invoke,gz hf]
 rcases WB with ⟨bA,rfl,rfl⟩ | ⟨first,rfl,rfl⟩ | ⟨bA,rfl,rfl⟩
 ·cases sj with | fn _ _ vs hl hr=>exact TN vs rfl bA ⟨hl,hr⟩
 ·cases sj with
  | iA _ _ vs hl hr =>
   refine ⟨vs++c.args.toList.map a.eval,?_,bU.append ⟨hl,hr⟩ dg⟩
   have:(vs++List.map a.eval c.args.toList).toArray=vs.toArray++c.args.map a.eval:=by rw [←bM]; simp
   rw [this]
   simp [execOp,ho,resolve,hc,hx,Deferred.ofValue,invoke,gz hf]
 ·cases sj with | dv hd=>cases hd with | fn _ _ vs hl hr=>exact TN vs rfl _ (hJ ⟨hl,hr⟩)
theorem sk {F:Fence} (hF:gr F) {f:Nat} {a:Act} {w:World} {args:Array Value} {K:Act→World→Prop} (hd:∀c,o.op ≠ .defer c) (bj:(execOp a.eval o).run P w=.ok (.enter f args) w)
  (hc:Calls P f args w fun e w'=>∃v,e=.returned v∧K (a.put o.dst v) w'):o.wpIn F 0 P a w K (fun _ _ _=>False):=by
 refine ⟨fun f _=>hF.fn f,?_⟩
 rw [Oper.semAt_plain F _ _ hd,bj,Oper.uponIn_enter]
 refine ⟨fun h=>(by rw [hF.depth] at h; cases h),hF.calls.2 (hc.mono ?_)⟩
 rintro e w' ⟨v,rfl,hk⟩
 exact hk
def VO (κ:Nat→ar) (gd:Bool) (v:AV) (d:DV) (ids:List Nat):Prop :=
 gd=true→∀κ' G w x,(∀i,i∈ids→κ' i=κ i)→Fit G w κ'→aH G v x→∀M',Mem.Le G.M M'→(∀i,i∈ids→∀b,bL G i (κ' i) b→M' b=w.heap[b]?)→bo M' d x
def EZ (κ:Nat→ar) (gd:Bool) (l:List AV) (ds:List DV) (ids:List Nat):Prop :=
 gd=true→∀κ' G w xs,(∀i,i∈ids→κ' i=κ i)→Fit G w κ'→bU G l xs→∀M',Mem.Le G.M M'→(∀i,i∈ids→∀b,bL G i (κ' i) b→M' b=w.heap[b]?)→eX M' ds xs
theorem Ak {v:AV} {q:DV→List Nat→Prop} (h:E0 κ gd v q):∃d ids,q d ids∧VO κ gd v d ids:=by
 unfold E0 at h
 split at h
 ·rename_i d
  refine ⟨d,[],h,fun _ κ' G w x _ _ hv M' hle _=>?_⟩
  cases hv with | dv hv=>exact hv.mono hle
 ·rename_i i ver ep p
  split at h
  ·rename_i bg bN d hk
   cases hb:Nat.beq ver bg && (emp p || Nat.beq ep bN) with
   | false=>rw [hb] at h; exact h.elim
   | true =>
    rw [hb] at h
    simp only [cond_true] at h
    obtain ⟨rfl,dx⟩:=dt hb
    obtain ⟨nd,h,c9⟩:=bG h
    cases ho:nd.ah with
    | false=>rw [ho] at h; exact h.elim
    | true =>
     rw [ho] at h
     refine ⟨tE nd,[i],h,fun aR κ' G w x ax hf hv M' hle hM=>?_⟩
     have he:=ax i (by simp)
     have dQ:=hf.box i
     rw [he,hk] at dQ
     cases hv with | own _ _ _ _ _ hh hc =>
     rw [cU dx] at hh
     exact dQ.1.frozen hle (fun b hb=>hM i (by simp) b (by rw [he,hk]; exact hb)) (SizeOf.sizeOf nd+1) p nd x (by omega) (c9 aR) ho hh
  ·exact h.elim
 ·refine ⟨_,[],h,fun _ κ' G w x _ _ hv M' hle _=>?_⟩
  cases hv with | fn _ _ vs hl hr =>
  have:vs=[]:=by simpa using hl.symm
  subst this
  exact .fn _ [] [] rfl (by simp)
 ·exact ⟨_,[],h.2,fun aR=>by rw [h.1] at aR; cases aR⟩
theorem EZ.cons {v:AV} {l:List AV} {d:DV} {ds:List DV} {i j:List Nat} (h:VO κ gd v d i) (h':EZ κ gd l ds j):EZ κ gd (v::l) (d::ds) (i++j):=by
 intro aR κ' G w xs ax hf hr M' hle hM
 match xs,hr with
 | [],hr=>have:=hr.1; simp at this
 | x::xs,hr =>
  refine .cons (h aR κ' G w x (fun q hq=>ax q (by simp [hq])) hf (hr.2 0 v x rfl rfl) M' hle fun q hq=>hM q (by simp [hq])) ?_
  exact h' aR κ' G w xs (fun q hq=>ax q (by simp [hq])) hf ⟨by simpa using hr.1,fun q e y he hy=>hr.2 (q+1) e y (by simpa using he) (by simpa using hy)⟩ M' hle fun q hq=>hM q (by simp [hq])
theorem EZ.nil:EZ κ gd [] [] []:=by
 intro aR κ' G w xs ax hf hr M' hle hM
 have:xs=[]:=by have:=hr.1; simpa using this.symm
 subst this; exact .nil _
theorem tF {v:AV} {q:DV→List Nat→Prop} (h:KC κ gd v q):∃d ids,q d ids∧VO κ gd v d ids:=by
 obtain ⟨d,ids,h1,h2⟩:=Ak (v:=dn v) h
 exact ⟨d,ids,h1,fun aR κ' G w x ax hf hv M' hle hM=>h2 aR κ' G w x ax hf (yS hv) M' hle hM⟩
theorem qO:∀{l:List AV} {q:List DV→List Nat→Prop},E1 κ gd l q→∃ds ids,q ds ids∧EZ κ gd l ds ids
 | [],q,h=>⟨[],[],h,.nil⟩
 | v::l,q,h=>by
  obtain ⟨d,i,h,h1⟩:=tF h
  obtain ⟨ds,j,h,h2⟩:=qO h
  exact ⟨_,_,h,.cons h1 h2⟩
theorem E2 {v:AV} {q:DV→List Nat→Prop} (h:Q6 κ gd v q):∃d ids,q d ids∧VO κ gd v d ids:=by
 unfold Q6 at h
 split at h
 ·rename_i l
  cases hc:bV l with
  | false=>rw [hc] at h; exact h.elim
  | true =>
   rw [hc] at h
   obtain ⟨ds,ids,h,h1⟩:=qO h
   refine ⟨_,_,h,fun aR κ' G w x ax hf hv M' hle hM=>?_⟩
   cases hv with | agg _ vs hl hr =>
   have h2:=h1 aR κ' G w vs ax hf ⟨hl,hr⟩ M' hle hM
   exact .agg ds vs h2.1 (pM (G':={ G with M:=M' }) h2 (bU.cT ⟨hl,hr⟩ hc)) h2.2
 ·exact tF h
theorem tG:∀{l:List AV} {q:List DV→List Nat→Prop},Co κ gd l q→∃ds ids,q ds ids∧EZ κ gd l ds ids
 | [],q,h=>⟨[],[],h,.nil⟩
 | v::l,q,h=>by
  obtain ⟨d,i,h,h1⟩:=E2 h
  obtain ⟨ds,j,h,h2⟩:=tG h
  exact ⟨_,_,h,.cons h1 h2⟩
theorem Cp {av:AV} {rd:List Nat} (hg:bR ρ ops o.guard=some gd) (hk:aW n o gd nx k av rd)
  (h:∀ρ' κ',Ca ops o ρ ρ' κ κ' rd []→∀(F:Fence),gr F→∀(g:dD) (a:Act) (w:World) (G:Gh),cf g n ρ' κ' a w G→gd=true→∀(K:Act→World→Prop),
   (∀v w' G',cf g n ρ' κ' a w' G'→aH G' av v→K (a.put o.dst v) w')→o.wpIn F 0 P a w K (fun _ _ _=>False)):Good P C ops n o nx ρ κ k:=by
 unfold aW at hk
 split at hk
 ·rename_i jx hn
  refine ⟨_,_,hk,Nat.le_refl _,by simp,fun F hF ρ' κ' ax g a w dq ⟨G,ak⟩=>?_⟩
  have qP:gd=true:=by rw [hn] at hg; injection hg with hg; exact hg.symm
  unfold kG
  rw [cl hg ax.bC ak,qP,if_pos rfl]
  exact h ρ' κ' ax F hF g a w G ak qP _ fun v w' G' h1 h2=>⟨G',by rw [jx]; exact h1⟩
 ·exact hk.elim
 ·rename_i d jx hn
  cases aK:Nat.blt d n with
  | false=>rw [aK] at hk; exact hk.elim
  | true =>
   rw [aK] at hk
   have gB:d<n:=by rw [Nat.blt_eq] at aK; exact aK
   refine ⟨_,_,hk,Nat.le_refl _,by simp,fun F hF ρ' κ' ax g a w dq ⟨G,ak⟩=>?_⟩
   have qP:gd=true:=by rw [hn] at hg; injection hg with hg; exact hg.symm
   unfold kG
   rw [cl hg ax.bC ak,qP,if_pos rfl]
   exact h ρ' κ' ax F hF g a w G ak qP _ fun v w' G' h1 h2=>⟨G',by rw [jx]; exact h1.put gB h2⟩
 ·rename_i d j jx hn
  cases aK:Nat.blt d n with
  | false=>rw [aK] at hk; exact hk.elim
  | true =>
   rw [aK] at hk
   have gB:d<n:=by rw [Nat.blt_eq] at aK; exact aK
   refine ⟨_,_,hk,Nat.le_refl _,by simp,fun F hF ρ' κ' ax g a w dq ⟨G,ak⟩=>?_⟩
   unfold kG
   rw [cl hg ax.bC ak]
   cases gd with
   | true =>
    rw [if_pos rfl]
    exact h ρ' κ' ax F hF g a w G ak rfl _ fun v w' G' h1 h2=>⟨G',by rw [jx]; exact h1.put gB (.opt true av v (fun _=>h2) (by simp))⟩
   | false =>
    simp only [Bool.false_eq_true,if_false,jx]
    exact ⟨G,ak.put gB (.opt false av undef (by simp) (fun _=>rfl))⟩
theorem jI.Cq {f:Nat} {ds rs:List DV} (h:jI P f ds rs):gA P f:=by obtain ⟨_,_,h,_⟩:=h; exact h
open Classical in
noncomputable def lN (G:Gh) (w:World) (κ:Nat→ar) (ids:List Nat):Mem:=fun b=>if ∃i,i∈ids∧bL G i (κ i) b then w.heap[b]? else G.M b
theorem E3 {G:Gh} {w:World} {κ:Nat→ar} {ids:List Nat} (hf:Fit G w κ):(lN G w κ ids).In w:=by
 intro b x hb
 unfold lN at hb
 split at hb
 ·exact hb
 ·exact hf.sub b x hb
theorem vF {G:Gh} {w:World} {κ:Nat→ar} {ids:List Nat} (hf:Fit G w κ):Mem.Le G.M (lN G w κ ids):=by
 intro b x hb
 unfold lN
 split
 ·rename_i h; obtain ⟨i,_,ho⟩:=h; rw [hf.own i b ho] at hb; cases hb
 ·exact hb
theorem Cr {G:Gh} {w:World} {κ:Nat→ar} {ids:List Nat} {i b:Nat} (hi:i∈ids) (ho:bL G i (κ i) b):lN G w κ ids b=w.heap[b]?:=by
 unfold lN
 rw [if_pos ⟨i,hi,ho⟩]
theorem KE {f:Nat} {l:List AV} (hn:∀i,nx≤i→κ i=.none) (hg:bR ρ ops o.guard=some gd) (bB:si P ops o ρ κ gd f l) (h:vG P n o nx κ gd k f l):Good P C ops n o nx ρ κ k:=by
 have TO:(Co κ gd l fun ds ids=>∃rs,(gd=true→jI P f ds rs)∧vH rs=true∧aW n o gd nx k (vI rs) ids)→Good P C ops n o nx ρ κ k:=by
  intro h
  obtain ⟨ds,ids,⟨rs,hc,N3,hk⟩,hb⟩:=tG h
  refine Cp hg hk fun ρ' κ' ax F hF g a w G ak aR K hK=>?_
  obtain ⟨es,hle,VP,uK⟩:=hc aR
  obtain ⟨vs,bj,dg⟩:=bB.2 ρ' κ' _ _ ax g n a w G ak aR VP
  have hd:=hle.NY (hb aR κ' G w vs ax.reads ak.fit dg (lN G w κ' ids) (vF ak.fit) (fun i hi b ho=>Cr hi ho))
  refine sk hF bB.1 bj ((uK w _ vs (E3 ak.fit) ((ak.nk.mono ak.mem).mono (vF ak.fit)) hd).mono ?_)
  rintro e w' ⟨v,M',rfl,N4,N5,eB,yb,sm⟩
  refine ⟨v,rfl,?_⟩
  have hM:∀b,(if b<w.heap.size then G.M b else M' b)=(fun b=>if b<w.heap.size then G.M b else M' b) b:=fun _=>rfl
  obtain ⟨h1,h2⟩:=ak.grown (w':=w') (M':=fun b=>if b<w.heap.size then G.M b else M' b) N4
   (fun b x hx=>by
    have aK:b<w.heap.size:=(Array.getElem?_eq_some_iff.1 (ak.fit.sub b x hx)).1
    simp only [if_pos aK]; exact hx)
   (fun b x hx=>by
    by_cases aK:b<w.heap.size
    ·simp only [if_pos aK] at hx; rw [N4.block b aK]; exact ak.fit.sub b x hx
    ·simp only [if_neg aK] at hx; exact eB b x hx)
   (fun b hb=>by simp only [if_pos hb])
  exact hK v w' _ h1 (Hh (KF N3 sm))
 have Hj:∀{ds:List DV} {rs:List DV} {ids:List Nat} {κ':Nat→ar} {g:dD} {a:Act} {w:World} {G:Gh} {F:Fence} {ρ':Nat→AV} {vs:List Value} {K:Act→World→Prop},gr F→jI P f ds rs→cf g n ρ' κ' a w G→eX G.M ds vs→(execOp a.eval o).run P w=.ok (.enter f vs.toArray) w →
   (∀v w' G',cf g n ρ' κ' a w' G'→aH G' (vI rs) v→K (a.put o.dst v) w')→o.wpIn F 0 P a w K (fun _ _ _=>False):=by
  intro ds rs ids κ' g a w G F ρ' vs K hF hc ak hd bj hK
  obtain ⟨es,hle,VP,uK⟩:=hc
  refine sk hF bB.1 bj ((uK w _ vs ak.fit.sub (ak.nk.mono ak.mem) (hle.NY hd)).mono ?_)
  rintro e w' ⟨v,M',rfl,N4,N5,eB,yb,sm⟩
  refine ⟨v,rfl,?_⟩
  obtain ⟨h1,h2⟩:=ak.grown N4 N5 eB yb
  exact hK v w' _ h1 (Hh sm)
 unfold vG at h
 split at h
 ·rename_i ds E4
  obtain ⟨rs,hc,hk⟩:=h
  refine Cp hg hk fun ρ' κ' ax F hF g a w G ak aR K hK=>?_
  obtain ⟨vs,bj,dg⟩:=bB.2 ρ' κ' _ _ ax g n a w G ak aR (hc aR).Cq
  exact Hj (ids:=[]) hF (hc aR) ak (jl (κ:=κ) (κ':=κ') (w:=w) (all:=[]) (by simp) (Gh.Le.refl G) (by simpa [kg,az] using ak.fit) E4 (by simp) dg) bj hK
 ·rename_i ds ids bJ E4
  rcases h with h | ⟨rs,hc,hk⟩
  ·exact TO h
  ·refine Hk bB.1 hg hk (Nat.le_refl _) (fun p hp=>sn hn hp) fun ρ' κ' ax F hF g a w G dq ak aR K hK=>?_
   obtain ⟨vs,bj,dg⟩:=bB.2 ρ' κ' _ _ ax g n a w G ak aR (hc aR).Cq
   obtain ⟨G1,f1,f2,f3,f4,f5⟩:=ak.oA (κ:=κ) ids ax.reads
   exact Hj (ids:=[]) hF (hc aR) f5 (jl ax.reads f1 f5.fit E4 (fun i hi=>hi) dg) bj hK
 ·exact TO h
end
end Go.TM
