import Derived.Test.YtpbdohkbiklflaaGreatDoorFM9
import Derived.Laws.BytesString
set_option linter.unusedVariables false
set_option linter.unusedSimpArgs false
set_option linter.unusedSectionVars false
namespace Go.TM
open Go.RowKit
variable [cu]
section
variable {P:Program} {C:dw→Prop} {T:List TI} {ops:List Oper} {n:Nat} {o:Oper} {nx:Nat} {ρ:Nat→AV} {κ:Nat→ao} {k:jo→Nat→Prop} {gd:Bool}
def uI (ρ:Nat→AV) (κ:Nat→ao) (g:Bool):Option Operand→Option Int→Prop
 | none,none=>True
 | some x,some n=>bo ρ κ g x (.dv (.int .i64 n))
 | _,_=>False
theorem x5 {x:Option Operand} {q:Option Int→Prop} (h:RJ ρ κ gd x q):∃b,q b∧uI ρ κ gd x b:=by
 unfold RJ at h
 split at h
 ·exact ⟨none,h,tv⟩
 ·obtain ⟨v,h,hv⟩:=aF h
  split at h
  ·rename_i m; exact ⟨some m,h,hv⟩
  ·exact h.elim
theorem uI.val {ρ':Nat→AV} {κ':Nat→ao} {g:dw} {a:Act} {w:World} {G:Gh} {x:Option Operand} {b:Option Int} (h:uI ρ κ gd x b) (aj:bX g n ρ' κ' a w G) (aM:gd=true) (au:∀y,x=some y→zm ρ ρ' κ κ' y):x.map a.eval=b.map (Value.int .i64):=by
 cases x with
 | none=>cases b with
  | none=>rfl
  | some=>exact h.elim
 | some y=>cases b with
  | none=>exact h.elim
  | some m =>
   have hv:=h ρ' κ' (au y rfl) g n a w G aj aM
   simp only [Option.map_some]
   generalize a.eval y=v at hv
   cases hv with | dv hv=>cases hv with | int=>rfl
theorem oZ {w:World} {isSl:Bool} {len cap:Nat} {lo hi:Option Int} (h1:0≤lo.getD 0) (h2:lo.getD 0≤hi.getD len) (h3:hi.getD len≤len) (h4:len≤cap) :
  (Instr.sliceBounds isSl len cap (lo.map (Value.int .i64)) (hi.map (Value.int .i64)) none).run P w=.ok ((lo.getD 0).toNat,(hi.getD len).toNat,cap) w:=by
 cases lo with
 | none =>
  cases hi with
  | none=>simp [Instr.sliceBounds]
  | some h =>
   simp only [Option.getD_some,Option.getD_none] at *
   have:0≤h∧h≤(cap:Int):=by omega
   simp [Instr.sliceBounds,Instr.sliceBound,asIntOf,this]
 | some l =>
  cases hi with
  | none =>
   simp only [Option.getD_some,Option.getD_none] at *
   have:0≤l∧l≤(len:Int):=by omega
   simp [Instr.sliceBounds,Instr.sliceBound,asIntOf,this]
  | some h =>
   simp only [Option.getD_some] at *
   have h5:0≤h∧h≤(cap:Int):=by omega
   have h6:0≤l∧l≤h:=by omega
   have h7:(max h 0:Int)=h:=by omega
   simp [Instr.sliceBounds,Instr.sliceBound,asIntOf,h5,h6,h7]
theorem I5 (hT:ed P T) {s t:Nat} {x:Operand} {v:AV} (hg:bK ρ ops o.guard=some gd) (ho:o.op=.convert s t x) (hs:(nth T s).ok=true) (ht:(nth T t).ok=true)
  (h:DM (nth T s) (nth T (nth T s).elem) (nth T t) κ v fun r rd=>aS n o gd nx k r rd) (bs:bo ρ κ gd x v):Good P C ops n o nx ρ κ k:=by
 obtain ⟨i1,u1,z1,RK⟩:=hT.facts hs
 obtain ⟨i2,u2,z2,TP⟩:=hT.facts ht
 unfold DM at h
 cases hb:(nth T s).isSl && (nth T (nth T s).elem).ok && Mh (nth T (nth T s).elem).DN && (nth T t).isStr with
 | false=>rw [hb] at h; exact h.elim
 | true =>
 rw [hb] at h
 simp only [cond_true] at h
 simp only [Bool.and_eq_true] at hb
 obtain ⟨⟨⟨iI,fS⟩,Uu⟩,aj⟩:=hb
 obtain ⟨i3,u3,z3,Wv⟩:=hT.facts fS
 have Oe:=RK.slice iI
 have Uv:=TP.string aj
 have Uw:P.underlying (nth T s).elem=some (.int .u8):=by
  have h3:=Wv.DN
  rw [h3] at Uu
  cases u3 <;> simp [Bp,Mh] at Uu
  rename_i kk
  cases kk <;> simp [Mh] at Uu
  exact Wv.x6
 have c6:∀c,o.op ≠ .defer c:=fun c=>by rw [ho]; simp
 rcases iQ h with ⟨rfl,hk⟩ | ⟨sz,ys,rd,kill,hk,I6,Mi,gF⟩
 ·refine bg c6 hg hk fun ρ' κ' au g a w G aj aM=>?_
  have hv:=bs ρ' κ' (au.op (by rw [ho]; simp [Op.operands])) g n a w G aj aM
  generalize hx:a.eval x=q at hv
  cases hv with | dv hv=>cases hv with | aH =>
  exact ⟨.string .empty,by simp [execOp,ho,hx,run_convert_bytes_string w s t _ none 0 0 Oe Uw Uv,Conv.bytesToString],.dv (.str _)⟩
 ·cases hb:Nat.beq sz 1 && Of kill with
  | false=>rw [hb] at hk; exact hk.elim
  | true =>
  rw [hb] at hk
  simp only [cond_true] at hk
  simp only [Bool.and_eq_true] at hb
  have:=Nat.eq_of_beq_eq_true hb.1
  subst this
  obtain ⟨ns,rfl,hk⟩:=hk
  refine bg c6 hg hk fun ρ' κ' au g a w G aj aM=>?_
  have hv:=bs ρ' κ' (au.op (by rw [ho]; simp [Op.operands])) g n a w G aj aM
  obtain ⟨dB,I7,_⟩:=gF κ' G w _ (fun i hi=>au.reads i hi) aj.fit hv
  generalize hx:a.eval x=q at I7
  rcases I7.Pc with ⟨c,rfl,mJ⟩ | ⟨A,cap,cell,rfl,cU⟩
  ·have:ns=[]:=by simpa using mJ
   subst this
   exact ⟨.string .empty,by simp [execOp,ho,hx,run_convert_bytes_string w s t _ none 0 c Oe Uw Uv,Conv.bytesToString],.dv (.str _)⟩
  ·have RL:(loadCells A (ns.map (DV.int .u8)).length).run P w=.ok (ns.map (Value.int .u8)).toArray w:=by
    have h1:=run_loadCells (P:=P) w A (ns.map (DV.int .u8)).length (fun j=>Value.int .u8 (ns.getD j 0)) (fun j hj=>by
     have oG:j<ns.length:=by simpa using hj
     obtain ⟨_,h2⟩:=cU j (.int .u8 ns[j]) (by simp [oG])
     obtain ⟨_,h3,_,_,h4⟩:=h2 0 (.int .u8 ns[j]) rfl
     rw [Nat.mul_one,Nat.add_zero] at h3
     rw [h3]
     rcases h4 with ⟨h5,_⟩ | ⟨_,h5⟩
     ·cases h5
     ·generalize cell j 0=u at h5 ⊢
      cases h5 with | int=>simp [List.getD,oG])
    rw [h1]
    congr 2
    refine List.ext_getElem (by simp) fun j h2 h3=>?_
    simp at h2 h3
    simp [List.getD,h3]
   refine ⟨.string (Og ns),?_,.dv (.str _)⟩
   have h2:=run_bytesToString (P:=P) w A (ns.map (DV.int .u8)).length cap ns RL
   simp only [execOp,ho,hx,Sem.run_bind,run_convert_bytes_string w s t _ (some A) _ cap Oe Uw Uv,h2,Result.andThen_ok,Sem.run_pure]
   rfl
theorem aI {c:Bool} {p:Prop} (h:bif c then p else False):c=true∧p:=by cases c <;> simp_all
theorem bX.cut {g:dw} {κ' κ2:Nat→ao} {a:Act} {w:World} {G:Gh} (aj:bX g n ρ κ' a w G) {i ver bF sz:Nat} {xs:List DV} (dM:κ' i=.tree ver bF (.ay sz xs)) {L H:Int} (b1:0≤L) (b2:L≤H) (b3:H≤xs.length)
  (h1:κ2 i=.tree (ver+1) 0 (.ay sz ((xs.take H.toNat).drop L.toNat))) (h3:∀j,j ≠ i→κ2 j=κ' j) {v0:Value} (zn:aB G.H i ver bF []=some v0) :
  ∃A cap,v0=.slice A xs.length cap∧xs.length≤cap∧∃G',bX g n ρ κ2 a w G'∧aE G' (.own i (ver+1) 0 []) (.slice (if cap=L.toNat then A else A.map (·.add (L.toNat * sz))) (H.toNat - L.toNat) (cap - L.toNat)):=by
 have dJ:=aj.fit.box i
 rw [dM] at dJ
 obtain ⟨ht,dr,L8,sM⟩:=dJ
 obtain ⟨Zn,qa,qb,aY⟩:=ht.2 [] _ rfl rfl
 rw [zn] at qa; injection qa with qa; subst qa
 have qa:=zn
 have hlen:((xs.take H.toNat).drop L.toNat).length=H.toNat - L.toNat:=by simp; omega
 let hN:Value→List PS→Option Value:=fun v' q=>match q with
  | []=>some v'
  | .el i' j::r=>aB G.H i ver bF (.el (i'+L.toNat) j::r)
  | _=>none
 have fin:∀v':Value,v'.oneCell'=true→(∀b,fh v'=some b→fh v0=some b)→bV G.M w v' (fun s=>hN v' ([]++[s])) (.ay sz ((xs.take H.toNat).drop L.toNat)) →
   ∃G',bX g n ρ κ2 a w G'∧aE G' (.own i (ver+1) 0 []) v':=by
  intro v' DO Pd Bq
  have xu:∀i' j c,step (.ay sz ((xs.take H.toNat).drop L.toNat)) (.el i' j)=some c→step (.ay sz xs) (.el (i'+L.toNat) j)=some c:=by
   intro i' j c hc
   simp only [step] at hc ⊢
   rw [List.getElem?_drop,List.getElem?_take] at hc
   by_cases e:L.toNat+i'<H.toNat
   ·rw [if_pos e,Nat.add_comm] at hc; exact hc
   ·rw [if_neg e] at hc; cases hc
  have el:∀s c,step (.ay sz ((xs.take H.toNat).drop L.toNat)) s=some c→∃i' j,s=.el i' j:=by
   intro s c dB
   cases s with
   | el i' j=>exact ⟨i',j,rfl⟩
   | key=>simp [step] at dB
  obtain ⟨m1,m2,m3⟩:=aU.o0 (w:=w) (w':=w) (h:=Hk) (h':=hN v') (p:=[]) (n:=.ay sz []) (n':=.ay sz ((xs.take H.toNat).drop L.toNat)) (v:=.slice none 0 0) (v':=v') (fun _=>True) (uJ G.M w _) (zo _) rfl rfl rfl rfl rfl DO (.inl rfl) Bq
   (fun q hq=>absurd (List.nil_prefix) hq) (fun s c _ _ hN=>absurd trivial hN)
   (fun s c dB zp _=>by
    obtain ⟨i',j,rfl⟩:=el s c dB
    have Rf:get (.ay sz xs) [.el (i'+L.toNat) j]=some c:=by simp [get,xu i' j c dB]
    refine ⟨ht.sub Rf zp,dr.sub Rf,fun b hb=>⟨fun h=>iR h,fun cO=>?_⟩⟩
    obtain ⟨q,m,uu,c1,c2,c3,c4⟩:=hb
    have:=dr [] (.el (i'+L.toNat) j::q) _ m v0 uu b rfl rfl qa (Pd b cO) (by simp only [get,xu i' j c dB]; exact c1) c2 c3 c4
    cases this)
   (fun s s' c c' b eZ I8 _ nT Dy _ jV cw=>by
    obtain ⟨i1,j1,rfl⟩:=el s c eZ
    obtain ⟨i2,j2,rfl⟩:=el s' c' nT
    obtain ⟨q,m,uu,c1,c2,c3,c4⟩:=jV
    obtain ⟨q',m',Xw,d1,d2,d3,d4⟩:=cw
    have:=dr (.el (i1+L.toNat) j1::q) (.el (i2+L.toNat) j2::q') m m' uu Xw b (by simp only [get,xu i1 j1 c eZ]; exact c1) c2 c3 c4 (by simp only [get,xu i2 j2 c' nT]; exact d1) d2 d3 d4
    injection this with e1 _
    injection e1 with e1 e2
    have:i1=i2:=by omega
    rw [this,e2])
   (fun b hb=>.inr fun h=>iR h) (fun b h=>(iR h).elim)
  obtain ⟨G',g1,g2,_,g4,_,_,g7⟩:=aj.jW (κ':=κ2) (w':=w) (i:=i) (ver:=ver+1) (ep:=0) (d:=.ay sz ((xs.take H.toNat).drop L.toNat)) (fun _=>False) (hN v') (fun h=>h.elim) (.inr ⟨ver,bF,_,dM,by omega,by omega⟩) (fun _ h=>h.elim) h1 (fun j hj _=>h3 j hj)
   (fun q y hy=>by cases q <;> simp [aB,L8 (ver+1) (by omega)] at hy) m1 m2
   (fun b hb=>by
    rcases m3 b hb with h5 | h5 | ⟨s,c,s1,s2,_,s4⟩
    ·exact (iR h5).elim
    ·exact .inr (.inl (by rw [dM]; exact ⟨[],_,v0,rfl,rfl,qa,Pd b h5⟩))
    ·obtain ⟨i',j,rfl⟩:=el s c s1
     have Rf:get (.ay sz xs) [.el (i'+L.toNat) j]=some c:=by simp [get,xu i' j c s1]
     exact .inr (.inl (by rw [dM]; exact aP.sub (p:=[.el (i'+L.toNat) j]) Rf s4)))
   (fun _ _ _ _=>rfl) (fun b hb=>by
    rcases hb with h5 | ⟨_,h5,_⟩
    ·exact aj.fit.own i b h5
    ·exact h5.elim) (Nat.le_refl _) rfl rfl rfl
  exact ⟨G',g7,.own _ _ _ _ _ ((g4 []).trans rfl) DO⟩
 rcases aY with ⟨rfl,rfl⟩ | ⟨gb,ob,cap,c,tt,rfl,ei,hw,Pe,ov⟩
 ·simp at b3
  have hL:L=0:=by omega
  have hH:H=0:=by omega
  subst hL; subst hH
  refine ⟨none,0,rfl,Nat.le_refl _,?_⟩
  simpa using fin (.slice none 0 0) rfl (by simp [fh]) (.inl ⟨by simp,rfl⟩)
 ·refine ⟨_,_,rfl,ei,fin _ rfl ?_ ?_⟩
  ·intro b hb
   split at hb
   ·exact hb
   ·simp only [Option.map_some,fh,cE] at hb; exact hb
  ·by_cases e:cap=L.toNat
   ·have mJ:(xs.take H.toNat).drop L.toNat=[]:=List.eq_nil_of_length_eq_zero (by rw [hlen]; omega)
    rw [if_pos e,mJ]
    rw [show cap - L.toNat=0 by omega,show H.toNat - L.toNat=0 by omega]
    refine .inr ⟨gb,ob,0,c,tt,rfl,by simp,hw,by omega,by simp⟩
   ·rw [if_neg e]
    refine .inr ⟨gb,ob+L.toNat * sz,cap - L.toNat,c,tt,by simp only [Option.map_some,cE]; rw [hlen],by rw [hlen]; omega,hw,?_,fun i' y hy=>?_⟩
    ·have:L.toNat * sz+(cap - L.toNat) * sz=cap * sz:=by rw [←Nat.add_mul]; congr 1; omega
     omega
    ·rw [List.getElem?_drop,List.getElem?_take] at hy
     split at hy
     ·obtain ⟨c1,c2⟩:=ov _ y hy
      refine ⟨c1,fun j d' jc=>?_⟩
      obtain ⟨d1,uu,d2,d3⟩:=c2 j d' jc
      refine ⟨d1,uu,?_,?_⟩
      ·rw [←d2]; congr 1; rw [Nat.add_mul]; omega
      ·show da G.M (aB G.H i ver bF [.el (i'+L.toNat) j]) d' uu
       rw [Nat.add_comm]; exact d3
     ·cases hy
theorem x7 (hT:ed P T) {t:Nat} {x:Operand} {l h:Option Operand} {v:AV} {lo hi:Option Int} (hg:bK ρ ops o.guard=some gd) (ho:o.op=.slice t x l h none) (hn:∀i,nx≤i→κ i=.none)
  (bJ:(nth T t).ok=true) (iI:((nth T t).isSl && (nth T (nth T t).elem).ok || (nth T t).isStr)=true) (hx:bo ρ κ gd x v) (hl:uI ρ κ gd l lo) (hh:uI ρ κ gd h hi)
  (hk:jX (nth T t) (nth T (nth T t).elem).size κ gd v lo hi (fun v=>aS n o gd nx k v []) (fun v bx rd=>dx n o nx k v bx rd)):Good P C ops n o nx ρ κ k:=by
 obtain ⟨ti,u,z,tf⟩:=hT.facts bJ
 have c6:∀c,o.op ≠ .defer c:=fun c=>by rw [ho]; simp
 have mx:x∈o.op.operands:=by rw [ho]; simp [Op.operands]
 have ml:∀y,l=some y→y∈o.op.operands:=fun y hy=>by rw [ho,hy]; simp [Op.operands]
 have mh:∀y,h=some y→y∈o.op.operands:=fun y hy=>by rw [ho,hy]; simp [Op.operands]
 have cut:∀{w:World} {a:Act} {A:Option Addr} {len cap:Nat},(nth T t).isSl=true→a.eval x=.slice A len cap→l.map a.eval=lo.map (Value.int .i64)→h.map a.eval=hi.map (Value.int .i64)→0≤lo.getD 0→lo.getD 0≤hi.getD len→hi.getD len≤len→len≤cap→(nth T (nth T t).elem).ok=true →
   (execOp a.eval o).run P w=.ok (.value (.slice (if cap=(lo.getD 0).toNat then A else A.map (·.add ((lo.getD 0).toNat * (nth T (nth T t).elem).size))) ((hi.getD len).toNat - (lo.getD 0).toNat) (cap - (lo.getD 0).toNat))) w:=by
  intro w a A len cap hs sN hle uK h1 h2 h3 h4 sO
  obtain ⟨te,ue,ze,iy⟩:=hT.facts sO
  have hb:=oZ (P:=P) (w:=w) (isSl:=true) (len:=len) (cap:=cap) h1 h2 h3 h4
  have nU:=iy.eN w
  simp [execOp,ho,Instr.sliceAt,Instr.slice,run_underlying (tf.slice hs),sN,hle,uK,hb,nU]
 unfold jX at hk
 split at hk
 ·rename_i sz xs
  cases jd:(nth T t).isSl && Nat.beq sz (nth T (nth T t).elem).size with
  | false=>rw [jd] at hk; exact hk.elim
  | true =>
  rw [jd] at hk
  obtain ⟨Hl,hk⟩:=hk
  simp only [Bool.and_eq_true] at jd
  obtain ⟨hs,DP⟩:=jd
  have:=Nat.eq_of_beq_eq_true DP
  subst this
  have sO:(nth T (nth T t).elem).ok=true:=by
   simp only [Bool.or_eq_true,Bool.and_eq_true] at iI
   rcases iI with h5 | h5
   ·exact h5.2
   ·exfalso
    have q1:=tf.isSl; have q2:=tf.isStr
    rw [hs] at q1; rw [h5] at q2
    cases u <;> simp [Hm,strOf] at q1 q2
  refine bg c6 hg hk fun ρ' κ' au g a w G aj aM=>?_
  have hv:=hx ρ' κ' (au.op mx) g n a w G aj aM
  have hle:=hl.val aj aM (fun y hy=>au.op (ml y hy))
  have uK:=hh.val aj aM (fun y hy=>au.op (mh y hy))
  obtain ⟨b1,b2,b3⟩:=Hl aM
  generalize sN:a.eval x=q at hv
  cases hv with | dv hv =>
  generalize tQ:lo.getD 0=L at b1 b2 b3 ⊢
  generalize zq:hi.getD (xs.length:Int)=H at b1 b2 b3 ⊢
  have hlen:((xs.take H.toNat).drop L.toNat).length=H.toNat - L.toNat:=by simp; omega
  cases hv with
  | slnil =>
   simp at b3 zq
   have hL:L=0:=by omega
   have hH:H=0:=by omega
   subst hL; subst hH
   refine ⟨_,cut hs sN hle uK (by rw [tQ]; omega) (by rw [tQ]; simp [zq]) (by simp [zq]) (Nat.le_refl _) sO,?_⟩
   rw [tQ]
   simp [zq]
   exact .dv (.slnil _)
  | sl _ _ A cap cell ei Ux hc hr =>
   refine ⟨_,cut hs sN hle uK (by rw [tQ]; omega) (by rw [tQ,zq]; omega) (by rw [zq]; omega) ei sO,.dv ?_⟩
   rw [tQ,zq]
   by_cases e:cap=L.toNat
   ·have mJ:(xs.take H.toNat).drop L.toNat=[]:=List.eq_nil_of_length_eq_zero (by rw [hlen]; omega)
    rw [if_pos e,mJ,show H.toNat - L.toNat=0 by omega,show cap - L.toNat=0 by omega]
    exact .sl _ [] A 0 (fun _ _=>undef) (Nat.le_refl _) (by simp) (by simp) (by simp)
   ·rw [if_neg e]
    simp only [Option.map_some]
    rw [←hlen]
    refine .sl _ _ _ _ (fun i j=>cell (L.toNat+i) j) (by rw [hlen]; omega) (fun y hy=>Ux y (List.mem_of_mem_take (List.mem_of_mem_drop hy))) (fun i j hi hj=>?_) (fun i y j d hy hd=>?_)
    ·rw [cy]
     have:=hc (L.toNat+i) j (by rw [hlen] at hi; omega) hj
     rw [Nat.add_mul] at this
     rw [show L.toNat * (nth T (nth T t).elem).size+(i * (nth T (nth T t).elem).size+j)=L.toNat * (nth T (nth T t).elem).size+i * (nth T (nth T t).elem).size+j by omega]
     exact this
    ·rw [List.getElem?_drop,List.getElem?_take] at hy
     split at hy
     ·exact hr _ y j d hy hd
     ·cases hy
 ·rename_i i ver ep
  split at hk
  ·rename_i aZ bF d dM
   cases hb:Nat.beq ver aZ with
   | false=>rw [hb] at hk; exact hk.elim
   | true =>
   rw [hb] at hk
   simp only [cond_true] at hk
   have:=Nat.eq_of_beq_eq_true hb
   subst this
   cases d with
   | ay sz xs =>
    simp only at hk
    cases jd:(nth T t).isSl && Nat.beq sz (nth T (nth T t).elem).size with
    | false=>rw [jd] at hk; exact hk.elim
    | true =>
    rw [jd] at hk
    obtain ⟨⟨b1,b2,b3⟩,hk⟩:=hk
    simp only [Bool.and_eq_true] at jd
    obtain ⟨hs,DP⟩:=jd
    have:=Nat.eq_of_beq_eq_true DP
    subst this
    have sO:(nth T (nth T t).elem).ok=true:=by
     simp only [Bool.or_eq_true,Bool.and_eq_true] at iI
     rcases iI with h5 | h5
     ·exact h5.2
     ·exfalso
      have q1:=tf.isSl; have q2:=tf.isStr
      rw [hs] at q1; rw [h5] at q2
      cases u <;> simp [Hm,strOf] at q1 q2
    have ry:i<nx:=oH hn ⟨_,_,_,dM⟩
    refine cR c6 hg hk (Nat.le_refl _) (by simpa using ry) fun ρ' κ' au g a w G dg aj aM=>?_
    have he:=au.reads i (by simp)
    have hv:=hx ρ' κ' (au.op mx) g n a w G aj aM
    have hle:=hl.val aj aM (fun y hy=>au.op (ml y hy))
    have uK:=hh.val aj aM (fun y hy=>au.op (mh y hy))
    have dJ:=aj.fit.box i
    rw [he,dM] at dJ
    obtain ⟨ht,dr,L8,sM⟩:=dJ
    obtain ⟨v0,qa,qb,aY⟩:=ht.2 [] _ rfl rfl
    have sN:a.eval x=v0:=by
     generalize a.eval x=q at hv
     cases hv with | own _ _ _ _ _ Uy hc=>have:aB G.H i ver bF []=some q:=Uy
                                          rw [qa] at this; injection this with this; exact this.symm
    obtain ⟨A,cap,rfl,ei,G',g7,Uz⟩:=aj.cut (κ2:=aw κ' [(i,.tree (ver+1) 0 (.ay (nth T (nth T t).elem).size ((xs.take (hi.getD xs.length).toNat).drop (lo.getD 0).toNat)))]) (he.trans dM) b1 b2 b3 (by simp [aw]) (fun j hj=>by simp [aw,ae _ _ hj]) qa
    exact ⟨_,w,G',.inl (cut hs sN hle uK b1 b2 b3 ei sO),g7,Uz⟩
   | _=>exact hk.elim
  ·exact hk.elim
 ·rename_i s
  cases fT:(nth T t).isStr with
  | false=>rw [fT] at hk; exact hk.elim
  | true =>
   rw [fT] at hk
   obtain ⟨Hl,hk⟩:=hk
   refine bg c6 hg hk fun ρ' κ' au g a w G aj aM=>?_
   have hv:=hx ρ' κ' (au.op mx) g n a w G aj aM
   have hle:=hl.val aj aM (fun y hy=>au.op (ml y hy))
   have uK:=hh.val aj aM (fun y hy=>au.op (mh y hy))
   obtain ⟨b1,b2,b3⟩:=Hl aM
   generalize sN:a.eval x=q at hv
   cases hv with | dv hv=>cases hv with | str =>
   have hb:=oZ (P:=P) (w:=w) (isSl:=false) (len:=s.size) (cap:=s.size) b1 b2 b3 (Nat.le_refl _)
   refine ⟨_,?_,.dv (.str _)⟩
   simp [execOp,ho,Instr.sliceAt,Instr.slice,run_underlying (tf.string fT),sN,hle,uK,hb]
 ·exact hk.elim
theorem I9 (hT:ed P T) {t:Nat} {x:Operand} {l h:Option Operand} {v:AV} {lo hi:Option Int} (hg:bK ρ ops o.guard=some gd) (ho:o.op=.slice t x l h none) (hn:∀i,nx≤i→κ i=.none)
  (bJ:(nth T t).ok=true) (iI:((nth T t).isSl && (nth T (nth T t).elem).ok || (nth T t).isStr)=true) (hx:bo ρ κ gd x v) (hl:uI ρ κ gd l lo) (hh:uI ρ κ gd h hi)
  (hk:uL (nth T t) (nth T (nth T t).elem).size κ gd nx v lo hi (fun v rd=>aS n o gd nx k v rd) (fun v bx rd=>dx n o nx k v bx rd) (fun v bx rd=>dx n o (nx+1) k v bx rd)):Good P C ops n o nx ρ κ k:=by
 unfold uL at hk
 split at hk
 ·rename_i i ver ep p
  rcases hk with hk | hk | hk
  ·exact x7 hT hg ho hn bJ iI hx hl hh hk
  all_goals
   obtain ⟨ti,u,z,tf⟩:=hT.facts bJ
   have c6:∀c,o.op ≠ .defer c:=fun c=>by rw [ho]; simp
   have mx:x∈o.op.operands:=by rw [ho]; simp [Op.operands]
   have ml:∀y,l=some y→y∈o.op.operands:=fun y hy=>by rw [ho,hy]; simp [Op.operands]
   have mh:∀y,h=some y→y∈o.op.operands:=fun y hy=>by rw [ho,hy]; simp [Op.operands]
   have cut:∀{w:World} {a:Act} {A:Option Addr} {len cap:Nat},(nth T t).isSl=true→a.eval x=.slice A len cap→l.map a.eval=lo.map (Value.int .i64)→h.map a.eval=hi.map (Value.int .i64)→0≤lo.getD 0→lo.getD 0≤hi.getD len→hi.getD len≤len→len≤cap→(nth T (nth T t).elem).ok=true →
     (execOp a.eval o).run P w=.ok (.value (.slice (if cap=(lo.getD 0).toNat then A else A.map (·.add ((lo.getD 0).toNat * (nth T (nth T t).elem).size))) ((hi.getD len).toNat - (lo.getD 0).toNat) (cap - (lo.getD 0).toNat))) w:=by
    intro w a A len cap hs sN hle uK h1 h2 h3 h4 sO
    obtain ⟨te,ue,ze,iy⟩:=hT.facts sO
    have hb:=oZ (P:=P) (w:=w) (isSl:=true) (len:=len) (cap:=cap) h1 h2 h3 h4
    have nU:=iy.eN w
    simp [execOp,ho,Instr.sliceAt,Instr.slice,run_underlying (tf.slice hs),sN,hle,uK,hb,nU]
   have Pf:(nth T t).isSl=true→(nth T (nth T t).elem).ok=true:=fun hs=>by
    simp only [Bool.or_eq_true,Bool.and_eq_true] at iI
    rcases iI with h5 | h5
    ·exact h5.2
    ·exfalso
     have q1:=tf.isSl; have q2:=tf.isStr
     rw [hs] at q1; rw [h5] at q2
     cases u <;> simp [Hm,strOf] at q1 q2
  ·unfold FR at hk
   split at hk
   ·rename_i aZ bF d dM
    have hh:=aI hk; clear hk; obtain ⟨hb,hk⟩:=hh
    obtain ⟨rfl,dj⟩:=dh hb
    obtain ⟨nd,hk,Pg⟩:=bB hk
    split at hk
    ·rename_i sz xs
     have hh:=aI hk; clear hk; obtain ⟨cw,Hl,hk⟩:=hh
     simp only [Bool.and_eq_true] at cw
     obtain ⟨hs,DP⟩:=cw
     have:=Nat.eq_of_beq_eq_true DP
     subst this
     refine bg c6 hg hk fun ρ' κ' au g a w G aj aM=>?_
     have hv:=hx ρ' κ' (au.op mx) g n a w G aj aM
     have hle:=hl.val aj aM (fun y hy=>au.op (ml y hy))
     have uK:=hh.val aj aM (fun y hy=>au.op (mh y hy))
     obtain ⟨b1,b2,b3⟩:=Hl aM
     have UA:κ' i=.tree ver bF d:=(au.reads i (by simp)).trans dM
     obtain ⟨u0,h1,_,aY⟩:=aj.fit.node UA (Pg aM) rfl
     generalize sN:a.eval x=q at hv
     cases hv with | own _ _ _ _ _ xw hc =>
     have qa:=xw
     rw [cK dj,h1] at qa
     injection qa with qa
     subst qa
     rcases aY with ⟨rfl,rfl⟩ | ⟨gb,ob,cap,cc,tt,rfl,ei,hw,UB,Dz⟩
     ·have Ph:=cut (w:=w) hs sN hle uK b1 (by simpa using b2) (by simpa using b3) (Nat.le_refl _) (Pf hs)
      refine ⟨_,Ph,?_⟩
      refine .pre _ _ _ _ _ _ _ _ _ fun bD=>?_
      simp at b3 bD; omega
     ·have Ph:=cut (w:=w) hs sN hle uK b1 b2 b3 ei (Pf hs)
      refine ⟨_,Ph,?_⟩
      refine .pre _ _ _ _ _ _ _ _ _ fun bD=>⟨_,_,_,xw,?_⟩
      rw [if_neg (by omega)]
      rfl
    ·exact hk.elim
   ·exact hk.elim
  ·unfold FT at hk
   split at hk
   ·exact hk.elim
   rename_i UC
   split at hk
   ·rename_i aZ bF d dM
    have hh:=aI hk; clear hk; obtain ⟨hb,hk⟩:=hh
    simp only [Bool.and_eq_true] at hb
    have:=Nat.eq_of_beq_eq_true hb.1
    subst this
    have:=Nat.eq_of_beq_eq_true hb.2
    subst this
    obtain ⟨nd,hk,Pg⟩:=bB hk
    split at hk
    ·rename_i sz xs
     have hh:=aI hk; clear hk; obtain ⟨cw,⟨b1,b2,b3⟩,hk⟩:=hh
     simp only [Bool.and_eq_true] at cw
     obtain ⟨hs,DP⟩:=cw
     have:=Nat.eq_of_beq_eq_true DP
     subst this
     obtain ⟨hk,_⟩:=eo hk
     have ry:i<nx:=oH hn ⟨_,_,_,dM⟩
     refine cR c6 hg hk (by omega) (fun q hq=>?_) fun ρ' κ' au g a w G dg aj aM=>?_
     ·rcases List.mem_cons.1 hq with rfl | hq
      ·simp
      ·rcases List.mem_cons.1 hq with rfl | hq
       ·show i<nx+1; omega
       ·cases hq
     have he:=au.reads i (by simp)
     have fy:κ' nx=.none:=(au.reads nx (by simp)).trans (hn nx (Nat.le_refl _))
     have hv:=hx ρ' κ' (au.op mx) g n a w G aj aM
     have hle:=hl.val aj aM (fun y hy=>au.op (ml y hy))
     have uK:=hh.val aj aM (fun y hy=>au.op (mh y hy))
     have UD:p ≠ []:=fun e=>UC e
     obtain ⟨G1,g1,g2,_,g4,g7⟩:=aj.split (κ':=aw κ' [(nx,.tree 0 0 (.ay (nth T (nth T t).elem).size xs)),(i,.tree ver (ep+1) (bN d p .any))]) (i:=i) (nx:=nx) (he.trans dM) fy (Pg rfl) rfl UD (by simp only [aw]; rw [ae _ _ (by omega)]; simp) (by simp [aw]) (fun j h1 h2=>by simp only [aw]; rw [ae _ _ h2,ae _ _ h1])
     have ke:aB G.H i ver ep p=some (a.eval x):=by
      generalize a.eval x=q at hv
      cases hv with | own _ _ _ _ _ Uy hc=>exact Uy
     obtain ⟨A,cap,hA,ei,G',g8,Uz⟩:=g7.cut (κ2:=aw κ' [(nx,.tree 1 0 (.ay (nth T (nth T t).elem).size ((xs.take (hi.getD xs.length).toNat).drop (lo.getD 0).toNat))),(i,.tree ver (ep+1) (bN d p .any))]) (i:=nx) (by simp only [aw]; rw [aX]) b1 b2 b3 (by simp only [aw]; rw [aX])
      (fun j hj=>by simp only [aw]; rw [ae _ _ hj,ae _ _ hj]) (by rw [g4 [],List.append_nil]; exact ke)
     exact ⟨_,w,G',.inl (cut hs hA hle uK b1 b2 b3 ei (Pf hs)),g8,Uz⟩
    ·exact hk.elim
   ·exact hk.elim
 ·exact x7 hT hg ho hn bJ iI hx hl hh hk
end
end Go.TM
namespace Go.TM
open Go.RowKit
variable [cu]
section
variable {P:Program} {C:dw→Prop} {T:List TI} {ops:List Oper} {n:Nat} {o:Oper} {nx:Nat} {ρ:Nat→AV} {κ:Nat→ao} {k:jo→Nat→Prop} {gd:Bool}
theorem gf {f:Nat} (hf:hJ P f) (args:Array Value) (w:World):(callFunc f args).run P w=.ok (.enter f args) w:=by
 obtain ⟨fn,h1,h2,h3⟩:=hf
 have DL:¬ fn.name="runtime.NumGoroutine":=by simpa using h2
 have Ja:¬ fn.body=none:=by rintro hb; rw [hb] at h3; cases h3
 simp [callFunc,program,Sem.run,h1,DL,Ja]
def rz (P:Program) (ops:List Oper) (o:Oper) (ρ:Nat→AV) (κ:Nat→ao) (gd:Bool) (f:Nat) (l:List AV):Prop :=
 (∀c,o.op ≠ .defer c)∧∀ρ' κ' rd bx,Bd ops o ρ ρ' κ κ' rd bx→∀(g:dw) (n:Nat) (a:Act) (w:World) (G:Gh),bX g n ρ' κ' a w G→gd=true→hJ P f →
  ∃vs:List Value,(execOp a.eval o).run P w=.ok (.enter f vs.toArray) w∧bR G l vs
theorem sP {c:Call} {f:Nat} {l:List AV} (ho:o.op=.call c) (hc:c.callee=.value (.func f)) (bs:jY ρ κ gd c.args.toList l):rz P ops o ρ κ gd f l:=by
 refine ⟨fun c=>by rw [ho]; simp,?_⟩
 intro ρ' κ' rd bx au g n a w G aj aM hf
 have dt:=jY.rel aj aM bs (fun x hx=>au.op (by rw [ho]; simp only [Op.operands,Call.operands,hc]; exact Array.mem_append.2 (.inr (by simpa using hx))))
 have bM:(List.map a.eval c.args.toList).toArray=c.args.map a.eval:=by rw [←Array.toList_map,Array.toArray_toList]
 refine ⟨_,?_,dt⟩
 rw [bM]
 simp [execOp,ho,resolve,hc,Act.eval,Deferred.ofValue,invoke,gf hf]
theorem bR.append {G:Gh} {l l':List AV} {vs sK:List Value} (h:bR G l vs) (h':bR G l' sK):bR G (l++l') (vs++sK):=by
 refine ⟨by simp [h.1,h'.1],fun j d v hd hv=>?_⟩
 rcases Nat.lt_or_ge j l.length with aK | dk
 ·rw [List.getElem?_append_left aK] at hd
  rw [List.getElem?_append_left (by rw [←h.1]; exact aK)] at hv
  exact h.2 j d v hd hv
 ·rw [List.getElem?_append_right dk] at hd
  rw [List.getElem?_append_right (by rw [←h.1]; exact dk),←h.1] at hv
  exact h'.2 _ d v hd hv
theorem o3 {c:Call} {f t:Nat} {l:List AV} {av:AV} (ho:o.op=.call c) (hc:c.callee=.value (.tmp t)) (hv:bo ρ κ gd (.tmp t) av) (bs:jY ρ κ gd c.args.toList l) {L:List AV}
  (UE:(∃br,av=.fn f br∧L=l++br) ∨ (∃first,av=.gY f first∧L=first++l) ∨ (∃br,av=.dv (.fn f br)∧L=l++jR br)):rz P ops o ρ κ gd f L:=by
 refine ⟨fun c=>by rw [ho]; simp,?_⟩
 intro ρ' κ' rd bx au g n a w G aj aM hf
 have dt:=jY.rel aj aM bs (fun x hx=>au.op (by rw [ho]; simp only [Op.operands,Call.operands,hc]; exact Array.mem_append.2 (.inr (by simpa using hx))))
 have uM:=hv ρ' κ' (au.op (by rw [ho]; simp only [Op.operands,Call.operands,hc]; exact Array.mem_append.2 (.inl (by simp)))) g n a w G aj aM
 have bM:(List.map a.eval c.args.toList).toArray=c.args.map a.eval:=by rw [←Array.toList_map,Array.toArray_toList]
 generalize hx:a.eval (.tmp t)=x at uM
 have RN:∀(vs:List Value),x=.func (.func f) #[] vs.toArray→∀br,bR G br vs→∃us:List Value,(execOp a.eval o).run P w=.ok (.enter f us.toArray) w∧bR G (l++br) us:=by
  rintro vs rfl br oI
  refine ⟨c.args.toList.map a.eval++vs,?_,dt.append oI⟩
  have:(List.map a.eval c.args.toList++vs).toArray=c.args.map a.eval++vs.toArray:=by rw [←bM]; simp
  rw [this]
  simp [execOp,ho,resolve,hc,hx,Deferred.ofValue,invoke,gf hf]
 rcases UE with ⟨br,rfl,rfl⟩ | ⟨first,rfl,rfl⟩ | ⟨br,rfl,rfl⟩
 ·cases uM with | fn _ _ vs hl hr=>exact RN vs rfl br ⟨hl,hr⟩
 ·cases uM with
  | gY _ _ vs hl hr =>
   refine ⟨vs++c.args.toList.map a.eval,?_,bR.append ⟨hl,hr⟩ dt⟩
   have:(vs++List.map a.eval c.args.toList).toArray=vs.toArray++c.args.map a.eval:=by rw [←bM]; simp
   rw [this]
   simp [execOp,ho,resolve,hc,hx,Deferred.ofValue,invoke,gf hf]
 ·cases uM with | dv hd=>cases hd with | fn _ _ vs hl hr=>exact RN vs rfl _ (gN ⟨hl,hr⟩)
theorem rA {F:Fence} (hF:fU F) {f:Nat} {a:Act} {w:World} {args:Array Value} {K:Act→World→Prop} (hd:∀c,o.op ≠ .defer c) (bc:(execOp a.eval o).run P w=.ok (.enter f args) w)
  (hc:Calls P f args w fun e w'=>∃v,e=.returned v∧K (a.put o.dst v) w'):o.wpIn F 0 P a w K (fun _ _ _=>False):=by
 refine ⟨fun f _=>hF.fn f,?_⟩
 rw [Oper.semAt_plain F _ _ hd,bc,Oper.uponIn_enter]
 refine ⟨fun h=>(by rw [hF.depth] at h; cases h),hF.calls.2 (hc.mono ?_)⟩
 rintro e w' ⟨v,rfl,hk⟩
 exact hk
def TQ (κ:Nat→ao) (gd:Bool) (v:AV) (d:DV) (ids:List Nat):Prop :=
 gd=true→∀κ' G w x,(∀i,i∈ids→κ' i=κ i)→Fit G w κ'→aE G v x→∀M',Mem.Le G.M M'→(∀i,i∈ids→∀b,bI G i (κ' i) b→M' b=w.heap[b]?)→bj M' d x
def DQ (κ:Nat→ao) (gd:Bool) (l:List AV) (ds:List DV) (ids:List Nat):Prop :=
 gd=true→∀κ' G w xs,(∀i,i∈ids→κ' i=κ i)→Fit G w κ'→bR G l xs→∀M',Mem.Le G.M M'→(∀i,i∈ids→∀b,bI G i (κ' i) b→M' b=w.heap[b]?)→eM M' ds xs
theorem zr {v:AV} {q:DV→List Nat→Prop} (h:DR κ gd v q):∃d ids,q d ids∧TQ κ gd v d ids:=by
 unfold DR at h
 split at h
 ·rename_i d
  refine ⟨d,[],h,fun _ κ' G w x _ _ hv M' hle _=>?_⟩
  cases hv with | dv hv=>exact hv.mono hle
 ·rename_i i ver ep p
  split at h
  ·rename_i aZ bF d hk
   cases hb:Nat.beq ver aZ && (emp p || Nat.beq ep bF) with
   | false=>rw [hb] at h; exact h.elim
   | true =>
    rw [hb] at h
    simp only [cond_true] at h
    obtain ⟨rfl,dj⟩:=dh hb
    obtain ⟨nd,h,c6⟩:=bB h
    cases ho:nd.af with
    | false=>rw [ho] at h; exact h.elim
    | true =>
     rw [ho] at h
     refine ⟨sQ nd,[i],h,fun aM κ' G w x au hf hv M' hle hM=>?_⟩
     have he:=au i (by simp)
     have dJ:=hf.box i
     rw [he,hk] at dJ
     cases hv with | own _ _ _ _ _ hh hc =>
     rw [cK dj] at hh
     exact dJ.1.frozen hle (fun b hb=>hM i (by simp) b (by rw [he,hk]; exact hb)) (SizeOf.sizeOf nd+1) p nd x (by omega) (c6 aM) ho hh
  ·exact h.elim
 ·refine ⟨_,[],h,fun _ κ' G w x _ _ hv M' hle _=>?_⟩
  cases hv with | fn _ _ vs hl hr =>
  have:vs=[]:=by simpa using hl.symm
  subst this
  exact .fn _ [] [] rfl (by simp)
 ·exact ⟨_,[],h.2,fun aM=>by rw [h.1] at aM; cases aM⟩
theorem DQ.cons {v:AV} {l:List AV} {d:DV} {ds:List DV} {i j:List Nat} (h:TQ κ gd v d i) (h':DQ κ gd l ds j):DQ κ gd (v::l) (d::ds) (i++j):=by
 intro aM κ' G w xs au hf hr M' hle hM
 match xs,hr with
 | [],hr=>have:=hr.1; simp at this
 | x::xs,hr =>
  refine .cons (h aM κ' G w x (fun q hq=>au q (by simp [hq])) hf (hr.2 0 v x rfl rfl) M' hle fun q hq=>hM q (by simp [hq])) ?_
  exact h' aM κ' G w xs (fun q hq=>au q (by simp [hq])) hf ⟨by simpa using hr.1,fun q e y he hy=>hr.2 (q+1) e y (by simpa using he) (by simpa using hy)⟩ M' hle fun q hq=>hM q (by simp [hq])
theorem DQ.nil:DQ κ gd [] [] []:=by
 intro aM κ' G w xs au hf hr M' hle hM
 have:xs=[]:=by have:=hr.1; simpa using this.symm
 subst this; exact .nil _
theorem sR {v:AV} {q:DV→List Nat→Prop} (h:Jb κ gd v q):∃d ids,q d ids∧TQ κ gd v d ids:=by
 obtain ⟨d,ids,h1,h2⟩:=zr (v:=dn v) h
 exact ⟨d,ids,h1,fun aM κ' G w x au hf hv M' hle hM=>h2 aM κ' G w x au hf (x8 hv) M' hle hM⟩
theorem qc:∀{l:List AV} {q:List DV→List Nat→Prop},DS κ gd l q→∃ds ids,q ds ids∧DQ κ gd l ds ids
 | [],q,h=>⟨[],[],h,.nil⟩
 | v::l,q,h=>by
  obtain ⟨d,i,h,h1⟩:=sR h
  obtain ⟨ds,j,h,h2⟩:=qc h
  exact ⟨_,_,h,.cons h1 h2⟩
theorem DT {v:AV} {q:DV→List Nat→Prop} (h:Pj κ gd v q):∃d ids,q d ids∧TQ κ gd v d ids:=by
 unfold Pj at h
 split at h
 ·rename_i l
  cases hc:bP l with
  | false=>rw [hc] at h; exact h.elim
  | true =>
   rw [hc] at h
   obtain ⟨ds,ids,h,h1⟩:=qc h
   refine ⟨_,_,h,fun aM κ' G w x au hf hv M' hle hM=>?_⟩
   cases hv with | agg _ vs hl hr =>
   have h2:=h1 aM κ' G w vs au hf ⟨hl,hr⟩ M' hle hM
   exact .agg ds vs h2.1 (o4 (G':={ G with M:=M' }) h2 (bR.cJ ⟨hl,hr⟩ hc)) h2.2
 ·exact sR h
theorem sS:∀{l:List AV} {q:List DV→List Nat→Prop},Br κ gd l q→∃ds ids,q ds ids∧DQ κ gd l ds ids
 | [],q,h=>⟨[],[],h,.nil⟩
 | v::l,q,h=>by
  obtain ⟨d,i,h,h1⟩:=DT h
  obtain ⟨ds,j,h,h2⟩:=sS h
  exact ⟨_,_,h,.cons h1 h2⟩
theorem Bs {av:AV} {rd:List Nat} (hg:bK ρ ops o.guard=some gd) (hk:aS n o gd nx k av rd)
  (h:∀ρ' κ',Bd ops o ρ ρ' κ κ' rd []→∀(F:Fence),fU F→∀(g:dw) (a:Act) (w:World) (G:Gh),bX g n ρ' κ' a w G→gd=true→∀(K:Act→World→Prop),
   (∀v w' G',bX g n ρ' κ' a w' G'→aE G' av v→K (a.put o.dst v) w')→o.wpIn F 0 P a w K (fun _ _ _=>False)):Good P C ops n o nx ρ κ k:=by
 unfold aS at hk
 split at hk
 ·rename_i jc hn
  refine ⟨_,_,hk,Nat.le_refl _,by simp,fun F hF ρ' κ' au g a w dg ⟨G,aj⟩=>?_⟩
  have qd:gd=true:=by rw [hn] at hg; injection hg with hg; exact hg.symm
  unfold kf
  rw [cd hg au.bt aj,qd,if_pos rfl]
  exact h ρ' κ' au F hF g a w G aj qd _ fun v w' G' h1 h2=>⟨G',by rw [jc]; exact h1⟩
 ·exact hk.elim
 ·rename_i d jc hn
  cases aK:Nat.blt d n with
  | false=>rw [aK] at hk; exact hk.elim
  | true =>
   rw [aK] at hk
   have gh:d<n:=by rw [Nat.blt_eq] at aK; exact aK
   refine ⟨_,_,hk,Nat.le_refl _,by simp,fun F hF ρ' κ' au g a w dg ⟨G,aj⟩=>?_⟩
   have qd:gd=true:=by rw [hn] at hg; injection hg with hg; exact hg.symm
   unfold kf
   rw [cd hg au.bt aj,qd,if_pos rfl]
   exact h ρ' κ' au F hF g a w G aj qd _ fun v w' G' h1 h2=>⟨G',by rw [jc]; exact h1.put gh h2⟩
 ·rename_i d j jc hn
  cases aK:Nat.blt d n with
  | false=>rw [aK] at hk; exact hk.elim
  | true =>
   rw [aK] at hk
   have gh:d<n:=by rw [Nat.blt_eq] at aK; exact aK
   refine ⟨_,_,hk,Nat.le_refl _,by simp,fun F hF ρ' κ' au g a w dg ⟨G,aj⟩=>?_⟩
   unfold kf
   rw [cd hg au.bt aj]
   cases gd with
   | true =>
    rw [if_pos rfl]
    exact h ρ' κ' au F hF g a w G aj rfl _ fun v w' G' h1 h2=>⟨G',by rw [jc]; exact h1.put gh (.opt true av v (fun _=>h2) (by simp))⟩
   | false =>
    simp only [Bool.false_eq_true,if_false,jc]
    exact ⟨G,aj.put gh (.opt false av undef (by simp) (fun _=>rfl))⟩
theorem lh.Bt {f:Nat} {ds rs:List DV} (h:lh P f ds rs):hJ P f:=by obtain ⟨_,_,h,_⟩:=h; exact h
open Classical in
noncomputable def lj (G:Gh) (w:World) (κ:Nat→ao) (ids:List Nat):Mem:=fun b=>if ∃i,i∈ids∧bI G i (κ i) b then w.heap[b]? else G.M b
theorem DU {G:Gh} {w:World} {κ:Nat→ao} {ids:List Nat} (hf:Fit G w κ):(lj G w κ ids).In w:=by
 intro b x hb
 unfold lj at hb
 split at hb
 ·exact hb
 ·exact hf.sub b x hb
theorem uN {G:Gh} {w:World} {κ:Nat→ao} {ids:List Nat} (hf:Fit G w κ):Mem.Le G.M (lj G w κ ids):=by
 intro b x hb
 unfold lj
 split
 ·rename_i h; obtain ⟨i,_,ho⟩:=h; rw [hf.own i b ho] at hb; cases hb
 ·exact hb
theorem Bu {G:Gh} {w:World} {κ:Nat→ao} {ids:List Nat} {i b:Nat} (hi:i∈ids) (ho:bI G i (κ i) b):lj G w κ ids b=w.heap[b]?:=by
 unfold lj
 rw [if_pos ⟨i,hi,ho⟩]
theorem Jc {f:Nat} {l:List AV} (hn:∀i,nx≤i→κ i=.none) (hg:bK ρ ops o.guard=some gd) (bs:rz P ops o ρ κ gd f l) (h:uO P n o nx κ gd k f l):Good P C ops n o nx ρ κ k:=by
 have RO:(Br κ gd l fun ds ids=>∃rs,(gd=true→lh P f ds rs)∧uP rs=true∧aS n o gd nx k (uQ rs) ids)→Good P C ops n o nx ρ κ k:=by
  intro h
  obtain ⟨ds,ids,⟨rs,hc,Mj,hk⟩,hb⟩:=sS h
  refine Bs hg hk fun ρ' κ' au F hF g a w G aj aM K hK=>?_
  obtain ⟨es,hle,TR,xd⟩:=hc aM
  obtain ⟨vs,bc,dt⟩:=bs.2 ρ' κ' _ _ au g n a w G aj aM TR
  have hd:=hle.Mf (hb aM κ' G w vs au.reads aj.fit dt (lj G w κ' ids) (uN aj.fit) (fun i hi b ho=>Bu hi ho))
  refine rA hF bs.1 bc ((xd w _ vs (DU aj.fit) ((aj.ou.mono aj.mem).mono (uN aj.fit)) hd).mono ?_)
  rintro e w' ⟨v,M',rfl,Mk,Ml,ek,xt,rB⟩
  refine ⟨v,rfl,?_⟩
  have hM:∀b,(if b<w.heap.size then G.M b else M' b)=(fun b=>if b<w.heap.size then G.M b else M' b) b:=fun _=>rfl
  obtain ⟨h1,h2⟩:=aj.grown (w':=w') (M':=fun b=>if b<w.heap.size then G.M b else M' b) Mk
   (fun b x hx=>by
    have aK:b<w.heap.size:=(Array.getElem?_eq_some_iff.1 (aj.fit.sub b x hx)).1
    simp only [if_pos aK]; exact hx)
   (fun b x hx=>by
    by_cases aK:b<w.heap.size
    ·simp only [if_pos aK] at hx; rw [Mk.block b aK]; exact aj.fit.sub b x hx
    ·simp only [if_neg aK] at hx; exact ek b x hx)
   (fun b hb=>by simp only [if_pos hb])
  exact hK v w' _ h1 (FU (Jd Mj rB))
 have FV:∀{ds:List DV} {rs:List DV} {ids:List Nat} {κ':Nat→ao} {g:dw} {a:Act} {w:World} {G:Gh} {F:Fence} {ρ':Nat→AV} {vs:List Value} {K:Act→World→Prop},fU F→lh P f ds rs→bX g n ρ' κ' a w G→eM G.M ds vs→(execOp a.eval o).run P w=.ok (.enter f vs.toArray) w →
   (∀v w' G',bX g n ρ' κ' a w' G'→aE G' (uQ rs) v→K (a.put o.dst v) w')→o.wpIn F 0 P a w K (fun _ _ _=>False):=by
  intro ds rs ids κ' g a w G F ρ' vs K hF hc aj hd bc hK
  obtain ⟨es,hle,TR,xd⟩:=hc
  refine rA hF bs.1 bc ((xd w _ vs aj.fit.sub (aj.ou.mono aj.mem) (hle.Mf hd)).mono ?_)
  rintro e w' ⟨v,M',rfl,Mk,Ml,ek,xt,rB⟩
  refine ⟨v,rfl,?_⟩
  obtain ⟨h1,h2⟩:=aj.grown Mk Ml ek xt
  exact hK v w' _ h1 (FU rB)
 unfold uO at h
 split at h
 ·rename_i ds DW
  obtain ⟨rs,hc,hk⟩:=h
  refine Bs hg hk fun ρ' κ' au F hF g a w G aj aM K hK=>?_
  obtain ⟨vs,bc,dt⟩:=bs.2 ρ' κ' _ _ au g n a w G aj aM (hc aM).Bt
  exact FV (ids:=[]) hF (hc aM) aj (iS (κ:=κ) (κ':=κ') (w:=w) (all:=[]) (by simp) (Gh.Le.refl G) (by simpa [jS,aw] using aj.fit) DW (by simp) dt) bc hK
 ·rename_i ds ids bD DW
  rcases h with h | ⟨rs,hc,hk⟩
  ·exact RO h
  ·refine FW bs.1 hg hk (Nat.le_refl _) (fun p hp=>rC hn hp) fun ρ' κ' au F hF g a w G dg aj aM K hK=>?_
   obtain ⟨vs,bc,dt⟩:=bs.2 ρ' κ' _ _ au g n a w G aj aM (hc aM).Bt
   obtain ⟨G1,f1,f2,f3,f4,f5⟩:=aj.nV (κ:=κ) ids au.reads
   exact FV (ids:=[]) hF (hc aM) f5 (iS au.reads f1 f5.fit DW (fun i hi=>hi) dt) bc hK
 ·exact RO h
end
end Go.TM
