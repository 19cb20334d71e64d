import Derived.Test.YtpbdohkbiklflaaGreatDoorWM9
import Derived.Laws.BytesString
set_option linter.unusedVariables false
set_option linter.unusedSimpArgs false
set_option linter.unusedSectionVars false
namespace Go.TM
open Go.RowKit
variable [ct]
section
variable {P:Program} {C:dx→Prop} {T:List TI} {ops:List Oper} {n:Nat} {o:Oper} {nx:Nat} {ρ:Nat→AV} {κ:Nat→ao} {k:jl→Nat→Prop} {gd:Bool}
def ur (ρ:Nat→AV) (κ:Nat→ao) (g:Bool):Option Operand→Option Int→Prop
 | none,none=>True
 | some x,some n=>bk ρ κ g x (.dv (.int .i64 n))
 | _,_=>False
theorem xD {x:Option Operand} {q:Option Int→Prop} (h:Q0 ρ κ gd x q):∃b,q b∧ur ρ κ gd x b:=by
 unfold Q0 at h
 split at h
 ·exact ⟨none,h,tv⟩
 ·obtain ⟨v,h,hv⟩:=aE h
  split at h
  ·rename_i m; exact ⟨some m,h,hv⟩
  ·exact h.elim
theorem ur.val {ρ':Nat→AV} {κ':Nat→ao} {g:dx} {a:Act} {w:World} {G:Gh} {x:Option Operand} {b:Option Int} (h:ur ρ κ gd x b) (aj:bY g n ρ' κ' a w G) (aL:gd=true) (au:∀y,x=some y→yT ρ ρ' κ κ' y):x.map a.eval=b.map (Value.int .i64):=by
 cases x with
 | none=>cases b with
  | none=>rfl
  | some=>exact h.elim
 | some y=>cases b with
  | none=>exact h.elim
  | some m =>
   have hv:=h ρ' κ' (au y rfl) g n a w G aj aL
   simp only [Option.map_some]
   generalize a.eval y=v at hv
   cases hv with | dv hv=>cases hv with | int=>rfl
theorem oL {w:World} {isSl:Bool} {len cap:Nat} {lo hi:Option Int} (h1:0≤lo.getD 0) (h2:lo.getD 0≤hi.getD len) (h3:hi.getD len≤len) (h4:len≤cap) :
  (Instr.sliceBounds isSl len cap (lo.map (Value.int .i64)) (hi.map (Value.int .i64)) none).run P w=.ok ((lo.getD 0).toNat,(hi.getD len).toNat,cap) w:=by
 cases lo with
 | none =>
  cases hi with
  | none=>simp [Instr.sliceBounds]
  | some h =>
   simp only [Option.getD_some,Option.getD_none] at *
   have:0≤h∧h≤(cap:Int):=by omega
   simp [Instr.sliceBounds,Instr.sliceBound,asIntOf,this]
 | some l =>
  cases hi with
  | none =>
   simp only [Option.getD_some,Option.getD_none] at *
   have:0≤l∧l≤(len:Int):=by omega
   simp [Instr.sliceBounds,Instr.sliceBound,asIntOf,this]
  | some h =>
   simp only [Option.getD_some] at *
   have h5:0≤h∧h≤(cap:Int):=by omega
   have h6:0≤l∧l≤h:=by omega
   have h7:(max h 0:Int)=h:=by omega
   simp [Instr.sliceBounds,Instr.sliceBound,asIntOf,h5,h6,h7]
theorem Ip (hT:ec P T) {s t:Nat} {x:Operand} {v:AV} (hg:bJ ρ ops o.guard=some gd) (ho:o.op=.convert s t x) (hs:(nth T s).ok=true) (ht:(nth T t).ok=true)
  (h:Dh (nth T s) (nth T (nth T s).elem) (nth T t) κ v fun r rd=>aR n o gd nx k r rd) (bp:bk ρ κ gd x v):Good P C ops n o nx ρ κ k:=by
 obtain ⟨i1,u1,z1,Q1⟩:=hT.facts hs
 obtain ⟨i2,u2,z2,S0⟩:=hT.facts ht
 unfold Dh at h
 cases hb:(nth T s).isSl && (nth T (nth T s).elem).ok && LF (nth T (nth T s).elem).Di && (nth T t).isStr with
 | false=>rw [hb] at h; exact h.elim
 | true =>
 rw [hb] at h
 simp only [cond_true] at h
 simp only [Bool.and_eq_true] at hb
 obtain ⟨⟨⟨gY,jO⟩,TH⟩,aj⟩:=hb
 obtain ⟨i3,u3,z3,VL⟩:=hT.facts jO
 have ND:=Q1.slice gY
 have TJ:=S0.string aj
 have TK:P.underlying (nth T s).elem=some (.int .u8):=by
  have h3:=VL.Di
  rw [h3] at TH
  cases u3 <;> simp [AW,LF] at TH
  rename_i kk
  cases kk <;> simp [LF] at TH
  exact VL.xE
 have c6:∀c,o.op ≠ .defer c:=fun c=>by rw [ho]; simp
 rcases iN h with ⟨rfl,hk⟩ | ⟨sz,ys,rd,kill,hk,LG,LH,gA⟩
 ·refine bf c6 hg hk fun ρ' κ' au g a w G aj aL=>?_
  have hv:=bp ρ' κ' (au.op (by rw [ho]; simp [Op.operands])) g n a w G aj aL
  generalize hx:a.eval x=q at hv
  cases hv with | dv hv=>cases hv with | aG =>
  exact ⟨.string .empty,by simp [execOp,ho,hx,run_convert_bytes_string w s t _ none 0 0 ND TK TJ,Conv.bytesToString],.dv (.str _)⟩
 ·cases hb:Nat.beq sz 1 && NF kill with
  | false=>rw [hb] at hk; exact hk.elim
  | true =>
  rw [hb] at hk
  simp only [cond_true] at hk
  simp only [Bool.and_eq_true] at hb
  have:=Nat.eq_of_beq_eq_true hb.1
  subst this
  obtain ⟨ns,rfl,hk⟩:=hk
  refine bf c6 hg hk fun ρ' κ' au g a w G aj aL=>?_
  have hv:=bp ρ' κ' (au.op (by rw [ho]; simp [Op.operands])) g n a w G aj aL
  obtain ⟨dC,Iq,_⟩:=gA κ' G w _ (fun i hi=>au.reads i hi) aj.fit hv
  generalize hx:a.eval x=q at Iq
  rcases Iq.Oy with ⟨c,rfl,mF⟩ | ⟨A,cap,cell,rfl,cT⟩
  ·have:ns=[]:=by simpa using mF
   subst this
   exact ⟨.string .empty,by simp [execOp,ho,hx,run_convert_bytes_string w s t _ none 0 c ND TK TJ,Conv.bytesToString],.dv (.str _)⟩
  ·have Q2:(loadCells A (ns.map (DV.int .u8)).length).run P w=.ok (ns.map (Value.int .u8)).toArray w:=by
    have h1:=run_loadCells (P:=P) w A (ns.map (DV.int .u8)).length (fun j=>Value.int .u8 (ns.getD j 0)) (fun j hj=>by
     have oq:j<ns.length:=by simpa using hj
     obtain ⟨_,h2⟩:=cT j (.int .u8 ns[j]) (by simp [oq])
     obtain ⟨_,h3,_,_,h4⟩:=h2 0 (.int .u8 ns[j]) rfl
     rw [Nat.mul_one,Nat.add_zero] at h3
     rw [h3]
     rcases h4 with ⟨h5,_⟩ | ⟨_,h5⟩
     ·cases h5
     ·generalize cell j 0=u at h5 ⊢
      cases h5 with | int=>simp [List.getD,oq])
    rw [h1]
    congr 2
    refine List.ext_getElem (by simp) fun j h2 h3=>?_
    simp at h2 h3
    simp [List.getD,h3]
   refine ⟨.string (NG ns),?_,.dv (.str _)⟩
   have h2:=run_bytesToString (P:=P) w A (ns.map (DV.int .u8)).length cap ns Q2
   simp only [execOp,ho,hx,Sem.run_bind,run_convert_bytes_string w s t _ (some A) _ cap ND TK TJ,h2,Result.andThen_ok,Sem.run_pure]
   rfl
theorem aH {c:Bool} {p:Prop} (h:bif c then p else False):c=true∧p:=by cases c <;> simp_all
theorem bY.cut {g:dx} {κ' κ2:Nat→ao} {a:Act} {w:World} {G:Gh} (aj:bY g n ρ κ' a w G) {i ver bE sz:Nat} {xs:List DV} (dL:κ' i=.tree ver bE (.ax sz xs)) {L H:Int} (b1:0≤L) (b2:L≤H) (b3:H≤xs.length)
  (h1:κ2 i=.tree (ver+1) 0 (.ax sz ((xs.take H.toNat).drop L.toNat))) (h3:∀j,j ≠ i→κ2 j=κ' j) {v0:Value} (AI:aA G.H i ver bE []=some v0) :
  ∃A cap,v0=.slice A xs.length cap∧xs.length≤cap∧∃G',bY g n ρ κ2 a w G'∧aD G' (.own i (ver+1) 0 []) (.slice (if cap=L.toNat then A else A.map (·.add (L.toNat * sz))) (H.toNat - L.toNat) (cap - L.toNat)):=by
 have dI:=aj.fit.box i
 rw [dL] at dI
 obtain ⟨ht,dr,Lt,sC⟩:=dI
 obtain ⟨YH,pN,pO,aX⟩:=ht.2 [] _ rfl rfl
 rw [AI] at pN; injection pN with pN; subst pN
 have pN:=AI
 have hlen:((xs.take H.toNat).drop L.toNat).length=H.toNat - L.toNat:=by simp; omega
 let hN:Value→List PS→Option Value:=fun v' q=>match q with
  | []=>some v'
  | .el i' j::r=>aA G.H i ver bE (.el (i'+L.toNat) j::r)
  | _=>none
 have fin:∀v':Value,v'.oneCell'=true→(∀b,fh v'=some b→fh v0=some b)→bW G.M w v' (fun s=>hN v' ([]++[s])) (.ax sz ((xs.take H.toNat).drop L.toNat)) →
   ∃G',bY g n ρ κ2 a w G'∧aD G' (.own i (ver+1) 0 []) v':=by
  intro v' Dj Oz AY
  have wY:∀i' j c,step (.ax sz ((xs.take H.toNat).drop L.toNat)) (.el i' j)=some c→step (.ax sz xs) (.el (i'+L.toNat) j)=some c:=by
   intro i' j c hc
   simp only [step] at hc ⊢
   rw [List.getElem?_drop,List.getElem?_take] at hc
   by_cases e:L.toNat+i'<H.toNat
   ·rw [if_pos e,Nat.add_comm] at hc; exact hc
   ·rw [if_neg e] at hc; cases hc
  have el:∀s c,step (.ax sz ((xs.take H.toNat).drop L.toNat)) s=some c→∃i' j,s=.el i' j:=by
   intro s c dC
   cases s with
   | el i' j=>exact ⟨i',j,rfl⟩
   | key=>simp [step] at dC
  obtain ⟨m1,m2,m3⟩:=aS.oM (w:=w) (w':=w) (h:=GC) (h':=hN v') (p:=[]) (n:=.ax sz []) (n':=.ax sz ((xs.take H.toNat).drop L.toNat)) (v:=.slice none 0 0) (v':=v') (fun _=>True) (uv G.M w _) (yU _) rfl rfl rfl rfl rfl Dj (.inl rfl) AY
   (fun q hq=>absurd (List.nil_prefix) hq) (fun s c _ _ hN=>absurd trivial hN)
   (fun s c dC yV _=>by
    obtain ⟨i',j,rfl⟩:=el s c dC
    have Qx:get (.ax sz xs) [.el (i'+L.toNat) j]=some c:=by simp [get,wY i' j c dC]
    refine ⟨ht.sub Qx yV,dr.sub Qx,fun b hb=>⟨fun h=>iO h,fun cM=>?_⟩⟩
    obtain ⟨q,m,uu,c1,c2,c3,c4⟩:=hb
    have:=dr [] (.el (i'+L.toNat) j::q) _ m v0 uu b rfl rfl pN (Oz b cM) (by simp only [get,wY i' j c dC]; exact c1) c2 c3 c4
    cases this)
   (fun s s' c c' b eT Ir _ ot C2 _ j9 cw=>by
    obtain ⟨i1,j1,rfl⟩:=el s c eT
    obtain ⟨i2,j2,rfl⟩:=el s' c' ot
    obtain ⟨q,m,uu,c1,c2,c3,c4⟩:=j9
    obtain ⟨q',m',WM,d1,d2,d3,d4⟩:=cw
    have:=dr (.el (i1+L.toNat) j1::q) (.el (i2+L.toNat) j2::q') m m' uu WM b (by simp only [get,wY i1 j1 c eT]; exact c1) c2 c3 c4 (by simp only [get,wY i2 j2 c' ot]; exact d1) d2 d3 d4
    injection this with e1 _
    injection e1 with e1 e2
    have:i1=i2:=by omega
    rw [this,e2])
   (fun b hb=>.inr fun h=>iO h) (fun b h=>(iO h).elim)
  obtain ⟨G',g1,g2,_,g4,_,_,g7⟩:=aj.jT (κ':=κ2) (w':=w) (i:=i) (ver:=ver+1) (ep:=0) (d:=.ax sz ((xs.take H.toNat).drop L.toNat)) (fun _=>False) (hN v') (fun h=>h.elim) (.inr ⟨ver,bE,_,dL,by omega,by omega⟩) (fun _ h=>h.elim) h1 (fun j hj _=>h3 j hj)
   (fun q y hy=>by cases q <;> simp [aA,Lt (ver+1) (by omega)] at hy) m1 m2
   (fun b hb=>by
    rcases m3 b hb with h5 | h5 | ⟨s,c,s1,s2,_,s4⟩
    ·exact (iO h5).elim
    ·exact .inr (.inl (by rw [dL]; exact ⟨[],_,v0,rfl,rfl,pN,Oz b h5⟩))
    ·obtain ⟨i',j,rfl⟩:=el s c s1
     have Qx:get (.ax sz xs) [.el (i'+L.toNat) j]=some c:=by simp [get,wY i' j c s1]
     exact .inr (.inl (by rw [dL]; exact aN.sub (p:=[.el (i'+L.toNat) j]) Qx s4)))
   (fun _ _ _ _=>rfl) (fun b hb=>by
    rcases hb with h5 | ⟨_,h5,_⟩
    ·exact aj.fit.own i b h5
    ·exact h5.elim) (Nat.le_refl _) rfl rfl rfl
  exact ⟨G',g7,.own _ _ _ _ _ ((g4 []).trans rfl) Dj⟩
 rcases aX with ⟨rfl,rfl⟩ | ⟨gb,ob,cap,c,tt,rfl,eh,hw,OA,oc⟩
 ·simp at b3
  have hL:L=0:=by omega
  have hH:H=0:=by omega
  subst hL; subst hH
  refine ⟨none,0,rfl,Nat.le_refl _,?_⟩
  simpa using fin (.slice none 0 0) rfl (by simp [fh]) (.inl ⟨by simp,rfl⟩)
 ·refine ⟨_,_,rfl,eh,fin _ rfl ?_ ?_⟩
  ·intro b hb
   split at hb
   ·exact hb
   ·simp only [Option.map_some,fh,cD] at hb; exact hb
  ·by_cases e:cap=L.toNat
   ·have mF:(xs.take H.toNat).drop L.toNat=[]:=List.eq_nil_of_length_eq_zero (by rw [hlen]; omega)
    rw [if_pos e,mF]
    rw [show cap - L.toNat=0 by omega,show H.toNat - L.toNat=0 by omega]
    refine .inr ⟨gb,ob,0,c,tt,rfl,by simp,hw,by omega,by simp⟩
   ·rw [if_neg e]
    refine .inr ⟨gb,ob+L.toNat * sz,cap - L.toNat,c,tt,by simp only [Option.map_some,cD]; rw [hlen],by rw [hlen]; omega,hw,?_,fun i' y hy=>?_⟩
    ·have:L.toNat * sz+(cap - L.toNat) * sz=cap * sz:=by rw [←Nat.add_mul]; congr 1; omega
     omega
    ·rw [List.getElem?_drop,List.getElem?_take] at hy
     split at hy
     ·obtain ⟨c1,c2⟩:=oc _ y hy
      refine ⟨c1,fun j d' ja=>?_⟩
      obtain ⟨d1,uu,d2,d3⟩:=c2 j d' ja
      refine ⟨d1,uu,?_,?_⟩
      ·rw [←d2]; congr 1; rw [Nat.add_mul]; omega
      ·show da G.M (aA G.H i ver bE [.el (i'+L.toNat) j]) d' uu
       rw [Nat.add_comm]; exact d3
     ·cases hy
theorem xF (hT:ec P T) {t:Nat} {x:Operand} {l h:Option Operand} {v:AV} {lo hi:Option Int} (hg:bJ ρ ops o.guard=some gd) (ho:o.op=.slice t x l h none) (hn:∀i,nx≤i→κ i=.none)
  (bU:(nth T t).ok=true) (gY:((nth T t).isSl && (nth T (nth T t).elem).ok || (nth T t).isStr)=true) (hx:bk ρ κ gd x v) (hl:ur ρ κ gd l lo) (hh:ur ρ κ gd h hi)
  (hk:jU (nth T t) (nth T (nth T t).elem).size κ gd v lo hi (fun v=>aR n o gd nx k v []) (fun v bx rd=>dy n o nx k v bx rd)):Good P C ops n o nx ρ κ k:=by
 obtain ⟨ti,u,z,tf⟩:=hT.facts bU
 have c6:∀c,o.op ≠ .defer c:=fun c=>by rw [ho]; simp
 have mx:x∈o.op.operands:=by rw [ho]; simp [Op.operands]
 have ml:∀y,l=some y→y∈o.op.operands:=fun y hy=>by rw [ho,hy]; simp [Op.operands]
 have mh:∀y,h=some y→y∈o.op.operands:=fun y hy=>by rw [ho,hy]; simp [Op.operands]
 have cut:∀{w:World} {a:Act} {A:Option Addr} {len cap:Nat},(nth T t).isSl=true→a.eval x=.slice A len cap→l.map a.eval=lo.map (Value.int .i64)→h.map a.eval=hi.map (Value.int .i64)→0≤lo.getD 0→lo.getD 0≤hi.getD len→hi.getD len≤len→len≤cap→(nth T (nth T t).elem).ok=true →
   (execOp a.eval o).run P w=.ok (.value (.slice (if cap=(lo.getD 0).toNat then A else A.map (·.add ((lo.getD 0).toNat * (nth T (nth T t).elem).size))) ((hi.getD len).toNat - (lo.getD 0).toNat) (cap - (lo.getD 0).toNat))) w:=by
  intro w a A len cap hs sD hle uw h1 h2 h3 h4 sE
  obtain ⟨te,ue,ze,iu⟩:=hT.facts sE
  have hb:=oL (P:=P) (w:=w) (isSl:=true) (len:=len) (cap:=cap) h1 h2 h3 h4
  have oN:=iu.eM w
  simp [execOp,ho,Instr.sliceAt,Instr.slice,run_underlying (tf.slice hs),sD,hle,uw,hb,oN]
 unfold jU at hk
 split at hk
 ·rename_i sz xs
  cases jm:(nth T t).isSl && Nat.beq sz (nth T (nth T t).elem).size with
  | false=>rw [jm] at hk; exact hk.elim
  | true =>
  rw [jm] at hk
  obtain ⟨GD,hk⟩:=hk
  simp only [Bool.and_eq_true] at jm
  obtain ⟨hs,Dk⟩:=jm
  have:=Nat.eq_of_beq_eq_true Dk
  subst this
  have sE:(nth T (nth T t).elem).ok=true:=by
   simp only [Bool.or_eq_true,Bool.and_eq_true] at gY
   rcases gY with h5 | h5
   ·exact h5.2
   ·exfalso
    have q1:=tf.isSl; have q2:=tf.isStr
    rw [hs] at q1; rw [h5] at q2
    cases u <;> simp [GF,strOf] at q1 q2
  refine bf c6 hg hk fun ρ' κ' au g a w G aj aL=>?_
  have hv:=hx ρ' κ' (au.op mx) g n a w G aj aL
  have hle:=hl.val aj aL (fun y hy=>au.op (ml y hy))
  have uw:=hh.val aj aL (fun y hy=>au.op (mh y hy))
  obtain ⟨b1,b2,b3⟩:=GD aL
  generalize sD:a.eval x=q at hv
  cases hv with | dv hv =>
  generalize tF:lo.getD 0=L at b1 b2 b3 ⊢
  generalize yW:hi.getD (xs.length:Int)=H at b1 b2 b3 ⊢
  have hlen:((xs.take H.toNat).drop L.toNat).length=H.toNat - L.toNat:=by simp; omega
  cases hv with
  | slnil =>
   simp at b3 yW
   have hL:L=0:=by omega
   have hH:H=0:=by omega
   subst hL; subst hH
   refine ⟨_,cut hs sD hle uw (by rw [tF]; omega) (by rw [tF]; simp [yW]) (by simp [yW]) (Nat.le_refl _) sE,?_⟩
   rw [tF]
   simp [yW]
   exact .dv (.slnil _)
  | sl _ _ A cap cell eh TL hc hr =>
   refine ⟨_,cut hs sD hle uw (by rw [tF]; omega) (by rw [tF,yW]; omega) (by rw [yW]; omega) eh sE,.dv ?_⟩
   rw [tF,yW]
   by_cases e:cap=L.toNat
   ·have mF:(xs.take H.toNat).drop L.toNat=[]:=List.eq_nil_of_length_eq_zero (by rw [hlen]; omega)
    rw [if_pos e,mF,show H.toNat - L.toNat=0 by omega,show cap - L.toNat=0 by omega]
    exact .sl _ [] A 0 (fun _ _=>undef) (Nat.le_refl _) (by simp) (by simp) (by simp)
   ·rw [if_neg e]
    simp only [Option.map_some]
    rw [←hlen]
    refine .sl _ _ _ _ (fun i j=>cell (L.toNat+i) j) (by rw [hlen]; omega) (fun y hy=>TL y (List.mem_of_mem_take (List.mem_of_mem_drop hy))) (fun i j hi hj=>?_) (fun i y j d hy hd=>?_)
    ·rw [cy]
     have:=hc (L.toNat+i) j (by rw [hlen] at hi; omega) hj
     rw [Nat.add_mul] at this
     rw [show L.toNat * (nth T (nth T t).elem).size+(i * (nth T (nth T t).elem).size+j)=L.toNat * (nth T (nth T t).elem).size+i * (nth T (nth T t).elem).size+j by omega]
     exact this
    ·rw [List.getElem?_drop,List.getElem?_take] at hy
     split at hy
     ·exact hr _ y j d hy hd
     ·cases hy
 ·rename_i i ver ep
  split at hk
  ·rename_i aY bE d dL
   cases hb:Nat.beq ver aY with
   | false=>rw [hb] at hk; exact hk.elim
   | true =>
   rw [hb] at hk
   simp only [cond_true] at hk
   have:=Nat.eq_of_beq_eq_true hb
   subst this
   cases d with
   | ax sz xs =>
    simp only at hk
    cases jm:(nth T t).isSl && Nat.beq sz (nth T (nth T t).elem).size with
    | false=>rw [jm] at hk; exact hk.elim
    | true =>
    rw [jm] at hk
    obtain ⟨⟨b1,b2,b3⟩,hk⟩:=hk
    simp only [Bool.and_eq_true] at jm
    obtain ⟨hs,Dk⟩:=jm
    have:=Nat.eq_of_beq_eq_true Dk
    subst this
    have sE:(nth T (nth T t).elem).ok=true:=by
     simp only [Bool.or_eq_true,Bool.and_eq_true] at gY
     rcases gY with h5 | h5
     ·exact h5.2
     ·exfalso
      have q1:=tf.isSl; have q2:=tf.isStr
      rw [hs] at q1; rw [h5] at q2
      cases u <;> simp [GF,strOf] at q1 q2
    have q8:i<nx:=ou hn ⟨_,_,_,dL⟩
    refine cR c6 hg hk (Nat.le_refl _) (by simpa using q8) fun ρ' κ' au g a w G dg aj aL=>?_
    have he:=au.reads i (by simp)
    have hv:=hx ρ' κ' (au.op mx) g n a w G aj aL
    have hle:=hl.val aj aL (fun y hy=>au.op (ml y hy))
    have uw:=hh.val aj aL (fun y hy=>au.op (mh y hy))
    have dI:=aj.fit.box i
    rw [he,dL] at dI
    obtain ⟨ht,dr,Lt,sC⟩:=dI
    obtain ⟨v0,pN,pO,aX⟩:=ht.2 [] _ rfl rfl
    have sD:a.eval x=v0:=by
     generalize a.eval x=q at hv
     cases hv with | own _ _ _ _ _ TN hc=>have:aA G.H i ver bE []=some q:=TN
                                          rw [pN] at this; injection this with this; exact this.symm
    obtain ⟨A,cap,rfl,eh,G',g7,TO⟩:=aj.cut (κ2:=aw κ' [(i,.tree (ver+1) 0 (.ax (nth T (nth T t).elem).size ((xs.take (hi.getD xs.length).toNat).drop (lo.getD 0).toNat)))]) (he.trans dL) b1 b2 b3 (by simp [aw]) (fun j hj=>by simp [aw,ae _ _ hj]) pN
    exact ⟨_,w,G',.inl (cut hs sD hle uw b1 b2 b3 eh sE),g7,TO⟩
   | _=>exact hk.elim
  ·exact hk.elim
 ·rename_i s
  cases fP:(nth T t).isStr with
  | false=>rw [fP] at hk; exact hk.elim
  | true =>
   rw [fP] at hk
   obtain ⟨GD,hk⟩:=hk
   refine bf c6 hg hk fun ρ' κ' au g a w G aj aL=>?_
   have hv:=hx ρ' κ' (au.op mx) g n a w G aj aL
   have hle:=hl.val aj aL (fun y hy=>au.op (ml y hy))
   have uw:=hh.val aj aL (fun y hy=>au.op (mh y hy))
   obtain ⟨b1,b2,b3⟩:=GD aL
   generalize sD:a.eval x=q at hv
   cases hv with | dv hv=>cases hv with | str =>
   have hb:=oL (P:=P) (w:=w) (isSl:=false) (len:=s.size) (cap:=s.size) b1 b2 b3 (Nat.le_refl _)
   refine ⟨_,?_,.dv (.str _)⟩
   simp [execOp,ho,Instr.sliceAt,Instr.slice,run_underlying (tf.string fP),sD,hle,uw,hb]
 ·exact hk.elim
theorem Is (hT:ec P T) {t:Nat} {x:Operand} {l h:Option Operand} {v:AV} {lo hi:Option Int} (hg:bJ ρ ops o.guard=some gd) (ho:o.op=.slice t x l h none) (hn:∀i,nx≤i→κ i=.none)
  (bU:(nth T t).ok=true) (gY:((nth T t).isSl && (nth T (nth T t).elem).ok || (nth T t).isStr)=true) (hx:bk ρ κ gd x v) (hl:ur ρ κ gd l lo) (hh:ur ρ κ gd h hi)
  (hk:ux (nth T t) (nth T (nth T t).elem).size κ gd nx v lo hi (fun v rd=>aR n o gd nx k v rd) (fun v bx rd=>dy n o nx k v bx rd) (fun v bx rd=>dy n o (nx+1) k v bx rd)):Good P C ops n o nx ρ κ k:=by
 unfold ux at hk
 split at hk
 ·rename_i i ver ep p
  rcases hk with hk | hk | hk
  ·exact xF hT hg ho hn bU gY hx hl hh hk
  all_goals
   obtain ⟨ti,u,z,tf⟩:=hT.facts bU
   have c6:∀c,o.op ≠ .defer c:=fun c=>by rw [ho]; simp
   have mx:x∈o.op.operands:=by rw [ho]; simp [Op.operands]
   have ml:∀y,l=some y→y∈o.op.operands:=fun y hy=>by rw [ho,hy]; simp [Op.operands]
   have mh:∀y,h=some y→y∈o.op.operands:=fun y hy=>by rw [ho,hy]; simp [Op.operands]
   have cut:∀{w:World} {a:Act} {A:Option Addr} {len cap:Nat},(nth T t).isSl=true→a.eval x=.slice A len cap→l.map a.eval=lo.map (Value.int .i64)→h.map a.eval=hi.map (Value.int .i64)→0≤lo.getD 0→lo.getD 0≤hi.getD len→hi.getD len≤len→len≤cap→(nth T (nth T t).elem).ok=true →
     (execOp a.eval o).run P w=.ok (.value (.slice (if cap=(lo.getD 0).toNat then A else A.map (·.add ((lo.getD 0).toNat * (nth T (nth T t).elem).size))) ((hi.getD len).toNat - (lo.getD 0).toNat) (cap - (lo.getD 0).toNat))) w:=by
    intro w a A len cap hs sD hle uw h1 h2 h3 h4 sE
    obtain ⟨te,ue,ze,iu⟩:=hT.facts sE
    have hb:=oL (P:=P) (w:=w) (isSl:=true) (len:=len) (cap:=cap) h1 h2 h3 h4
    have oN:=iu.eM w
    simp [execOp,ho,Instr.sliceAt,Instr.slice,run_underlying (tf.slice hs),sD,hle,uw,hb,oN]
   have OB:(nth T t).isSl=true→(nth T (nth T t).elem).ok=true:=fun hs=>by
    simp only [Bool.or_eq_true,Bool.and_eq_true] at gY
    rcases gY with h5 | h5
    ·exact h5.2
    ·exfalso
     have q1:=tf.isSl; have q2:=tf.isStr
     rw [hs] at q1; rw [h5] at q2
     cases u <;> simp [GF,strOf] at q1 q2
  ·unfold Fj at hk
   split at hk
   ·rename_i aY bE d dL
    have hh:=aH hk; clear hk; obtain ⟨hb,hk⟩:=hh
    obtain ⟨rfl,dj⟩:=dh hb
    obtain ⟨nd,hk,OC⟩:=bA hk
    split at hk
    ·rename_i sz xs
     have hh:=aH hk; clear hk; obtain ⟨cw,GD,hk⟩:=hh
     simp only [Bool.and_eq_true] at cw
     obtain ⟨hs,Dk⟩:=cw
     have:=Nat.eq_of_beq_eq_true Dk
     subst this
     refine bf c6 hg hk fun ρ' κ' au g a w G aj aL=>?_
     have hv:=hx ρ' κ' (au.op mx) g n a w G aj aL
     have hle:=hl.val aj aL (fun y hy=>au.op (ml y hy))
     have uw:=hh.val aj aL (fun y hy=>au.op (mh y hy))
     obtain ⟨b1,b2,b3⟩:=GD aL
     have TP:κ' i=.tree ver bE d:=(au.reads i (by simp)).trans dL
     obtain ⟨u0,h1,_,aX⟩:=aj.fit.node TP (OC aL) rfl
     generalize sD:a.eval x=q at hv
     cases hv with | own _ _ _ _ _ wZ hc =>
     have pN:=wZ
     rw [cJ dj,h1] at pN
     injection pN with pN
     subst pN
     rcases aX with ⟨rfl,rfl⟩ | ⟨gb,ob,cap,cc,tt,rfl,eh,hw,TQ,C3⟩
     ·have OD:=cut (w:=w) hs sD hle uw b1 (by simpa using b2) (by simpa using b3) (Nat.le_refl _) (OB hs)
      refine ⟨_,OD,?_⟩
      refine .pre _ _ _ _ _ _ _ _ _ fun bB=>?_
      simp at b3 bB; omega
     ·have OD:=cut (w:=w) hs sD hle uw b1 b2 b3 eh (OB hs)
      refine ⟨_,OD,?_⟩
      refine .pre _ _ _ _ _ _ _ _ _ fun bB=>⟨_,_,_,wZ,?_⟩
      rw [if_neg (by omega)]
      rfl
    ·exact hk.elim
   ·exact hk.elim
  ·unfold Fk at hk
   split at hk
   ·exact hk.elim
   rename_i TR
   split at hk
   ·rename_i aY bE d dL
    have hh:=aH hk; clear hk; obtain ⟨hb,hk⟩:=hh
    simp only [Bool.and_eq_true] at hb
    have:=Nat.eq_of_beq_eq_true hb.1
    subst this
    have:=Nat.eq_of_beq_eq_true hb.2
    subst this
    obtain ⟨nd,hk,OC⟩:=bA hk
    split at hk
    ·rename_i sz xs
     have hh:=aH hk; clear hk; obtain ⟨cw,⟨b1,b2,b3⟩,hk⟩:=hh
     simp only [Bool.and_eq_true] at cw
     obtain ⟨hs,Dk⟩:=cw
     have:=Nat.eq_of_beq_eq_true Dk
     subst this
     obtain ⟨hk,_⟩:=ek hk
     have q8:i<nx:=ou hn ⟨_,_,_,dL⟩
     refine cR c6 hg hk (by omega) (fun q hq=>?_) fun ρ' κ' au g a w G dg aj aL=>?_
     ·rcases List.mem_cons.1 hq with rfl | hq
      ·simp
      ·rcases List.mem_cons.1 hq with rfl | hq
       ·show i<nx+1; omega
       ·cases hq
     have he:=au.reads i (by simp)
     have gI:κ' nx=.none:=(au.reads nx (by simp)).trans (hn nx (Nat.le_refl _))
     have hv:=hx ρ' κ' (au.op mx) g n a w G aj aL
     have hle:=hl.val aj aL (fun y hy=>au.op (ml y hy))
     have uw:=hh.val aj aL (fun y hy=>au.op (mh y hy))
     have TS:p ≠ []:=fun e=>TR e
     obtain ⟨G1,g1,g2,_,g4,g7⟩:=aj.split (κ':=aw κ' [(nx,.tree 0 0 (.ax (nth T (nth T t).elem).size xs)),(i,.tree ver (ep+1) (bL d p .any))]) (i:=i) (nx:=nx) (he.trans dL) gI (OC rfl) rfl TS (by simp only [aw]; rw [ae _ _ (by omega)]; simp) (by simp [aw]) (fun j h1 h2=>by simp only [aw]; rw [ae _ _ h2,ae _ _ h1])
     have ka:aA G.H i ver ep p=some (a.eval x):=by
      generalize a.eval x=q at hv
      cases hv with | own _ _ _ _ _ TN hc=>exact TN
     obtain ⟨A,cap,hA,eh,G',g8,TO⟩:=g7.cut (κ2:=aw κ' [(nx,.tree 1 0 (.ax (nth T (nth T t).elem).size ((xs.take (hi.getD xs.length).toNat).drop (lo.getD 0).toNat))),(i,.tree ver (ep+1) (bL d p .any))]) (i:=nx) (by simp only [aw]; rw [aW]) b1 b2 b3 (by simp only [aw]; rw [aW])
      (fun j hj=>by simp only [aw]; rw [ae _ _ hj,ae _ _ hj]) (by rw [g4 [],List.append_nil]; exact ka)
     exact ⟨_,w,G',.inl (cut hs hA hle uw b1 b2 b3 eh (OB hs)),g8,TO⟩
    ·exact hk.elim
   ·exact hk.elim
 ·exact xF hT hg ho hn bU gY hx hl hh hk
end
end Go.TM
namespace Go.TM
open Go.RowKit
variable [ct]
section
variable {P:Program} {C:dx→Prop} {T:List TI} {ops:List Oper} {n:Nat} {o:Oper} {nx:Nat} {ρ:Nat→AV} {κ:Nat→ao} {k:jl→Nat→Prop} {gd:Bool}
theorem fW {f:Nat} (hf:gZ P f) (args:Array Value) (w:World):(callFunc f args).run P w=.ok (.enter f args) w:=by
 obtain ⟨fn,h1,h2,h3⟩:=hf
 have Dg:¬ fn.name="runtime.NumGoroutine":=by simpa using h2
 have It:¬ fn.body=none:=by rintro hb; rw [hb] at h3; cases h3
 simp [callFunc,program,Sem.run,h1,Dg,It]
def q9 (P:Program) (ops:List Oper) (o:Oper) (ρ:Nat→AV) (κ:Nat→ao) (gd:Bool) (f:Nat) (l:List AV):Prop :=
 (∀c,o.op ≠ .defer c)∧∀ρ' κ' rd bx,AJ ops o ρ ρ' κ κ' rd bx→∀(g:dx) (n:Nat) (a:Act) (w:World) (G:Gh),bY g n ρ' κ' a w G→gd=true→gZ P f →
  ∃vs:List Value,(execOp a.eval o).run P w=.ok (.enter f vs.toArray) w∧bP G l vs
theorem sF {c:Call} {f:Nat} {l:List AV} (ho:o.op=.call c) (hc:c.callee=.value (.func f)) (bp:jV ρ κ gd c.args.toList l):q9 P ops o ρ κ gd f l:=by
 refine ⟨fun c=>by rw [ho]; simp,?_⟩
 intro ρ' κ' rd bx au g n a w G aj aL hf
 have dt:=jV.rel aj aL bp (fun x hx=>au.op (by rw [ho]; simp only [Op.operands,Call.operands,hc]; exact Array.mem_append.2 (.inr (by simpa using hx))))
 have bK:(List.map a.eval c.args.toList).toArray=c.args.map a.eval:=by rw [←Array.toList_map,Array.toArray_toList]
 refine ⟨_,?_,dt⟩
 rw [bK]
 simp [execOp,ho,resolve,hc,Act.eval,Deferred.ofValue,invoke,fW hf]
theorem bP.append {G:Gh} {l l':List AV} {vs sA:List Value} (h:bP G l vs) (h':bP G l' sA):bP G (l++l') (vs++sA):=by
 refine ⟨by simp [h.1,h'.1],fun j d v hd hv=>?_⟩
 rcases Nat.lt_or_ge j l.length with aJ | du
 ·rw [List.getElem?_append_left aJ] at hd
  rw [List.getElem?_append_left (by rw [←h.1]; exact aJ)] at hv
  exact h.2 j d v hd hv
 ·rw [List.getElem?_append_right du] at hd
  rw [List.getElem?_append_right (by rw [←h.1]; exact du),←h.1] at hv
  exact h'.2 _ d v hd hv
theorem oO {c:Call} {f t:Nat} {l:List AV} {av:AV} (ho:o.op=.call c) (hc:c.callee=.value (.tmp t)) (hv:bk ρ κ gd (.tmp t) av) (bp:jV ρ κ gd c.args.toList l) {L:List AV}
  (TT:(∃bo,av=.fn f bo∧L=l++bo) ∨ (∃first,av=.gV f first∧L=first++l) ∨ (∃bo,av=.dv (.fn f bo)∧L=l++jP bo)):q9 P ops o ρ κ gd f L:=by
 refine ⟨fun c=>by rw [ho]; simp,?_⟩
 intro ρ' κ' rd bx au g n a w G aj aL hf
 have dt:=jV.rel aj aL bp (fun x hx=>au.op (by rw [ho]; simp only [Op.operands,Call.operands,hc]; exact Array.mem_append.2 (.inr (by simpa using hx))))
 have uy:=hv ρ' κ' (au.op (by rw [ho]; simp only [Op.operands,Call.operands,hc]; exact Array.mem_append.2 (.inl (by simp)))) g n a w G aj aL
 have bK:(List.map a.eval c.args.toList).toArray=c.args.map a.eval:=by rw [←Array.toList_map,Array.toArray_toList]
 generalize hx:a.eval (.tmp t)=x at uy
 have Q3:∀(vs:List Value),x=.func (.func f) #[] vs.toArray→∀bo,bP G bo vs→∃us:List Value,(execOp a.eval o).run P w=.ok (.enter f us.toArray) w∧bP G (l++bo) us:=by
  rintro vs rfl bo ov
  refine ⟨c.args.toList.map a.eval++vs,?_,dt.append ov⟩
  have:(List.map a.eval c.args.toList++vs).toArray=c.args.map a.eval++vs.toArray:=by rw [←bK]; simp
  rw [this]
  simp [execOp,ho,resolve,hc,hx,Deferred.ofValue,invoke,fW hf]
 rcases TT with ⟨bo,rfl,rfl⟩ | ⟨first,rfl,rfl⟩ | ⟨bo,rfl,rfl⟩
 ·cases uy with | fn _ _ vs hl hr=>exact Q3 vs rfl bo ⟨hl,hr⟩
 ·cases uy with
  | gV _ _ vs hl hr =>
   refine ⟨vs++c.args.toList.map a.eval,?_,bP.append ⟨hl,hr⟩ dt⟩
   have:(vs++List.map a.eval c.args.toList).toArray=vs.toArray++c.args.map a.eval:=by rw [←bK]; simp
   rw [this]
   simp [execOp,ho,resolve,hc,hx,Deferred.ofValue,invoke,fW hf]
 ·cases uy with | dv hd=>cases hd with | fn _ _ vs hl hr=>exact Q3 vs rfl _ (gJ ⟨hl,hr⟩)
theorem ra {F:Fence} (hF:fQ F) {f:Nat} {a:Act} {w:World} {args:Array Value} {K:Act→World→Prop} (hd:∀c,o.op ≠ .defer c) (aZ:(execOp a.eval o).run P w=.ok (.enter f args) w)
  (hc:Calls P f args w fun e w'=>∃v,e=.returned v∧K (a.put o.dst v) w'):o.wpIn F 0 P a w K (fun _ _ _=>False):=by
 refine ⟨fun f _=>hF.fn f,?_⟩
 rw [Oper.semAt_plain F _ _ hd,aZ,Oper.uponIn_enter]
 refine ⟨fun h=>(by rw [hF.depth] at h; cases h),hF.calls.2 (hc.mono ?_)⟩
 rintro e w' ⟨v,rfl,hk⟩
 exact hk
def S3 (κ:Nat→ao) (gd:Bool) (v:AV) (d:DV) (ids:List Nat):Prop :=
 gd=true→∀κ' G w x,(∀i,i∈ids→κ' i=κ i)→Fit G w κ'→aD G v x→∀M',Mem.Le G.M M'→(∀i,i∈ids→∀b,bG G i (κ' i) b→M' b=w.heap[b]?)→bj M' d x
def Dl (κ:Nat→ao) (gd:Bool) (l:List AV) (ds:List DV) (ids:List Nat):Prop :=
 gd=true→∀κ' G w xs,(∀i,i∈ids→κ' i=κ i)→Fit G w κ'→bP G l xs→∀M',Mem.Le G.M M'→(∀i,i∈ids→∀b,bG G i (κ' i) b→M' b=w.heap[b]?)→eL M' ds xs
theorem yX {v:AV} {q:DV→List Nat→Prop} (h:Dm κ gd v q):∃d ids,q d ids∧S3 κ gd v d ids:=by
 unfold Dm at h
 split at h
 ·rename_i d
  refine ⟨d,[],h,fun _ κ' G w x _ _ hv M' hle _=>?_⟩
  cases hv with | dv hv=>exact hv.mono hle
 ·rename_i i ver ep p
  split at h
  ·rename_i aY bE d hk
   cases hb:Nat.beq ver aY && (emp p || Nat.beq ep bE) with
   | false=>rw [hb] at h; exact h.elim
   | true =>
    rw [hb] at h
    simp only [cond_true] at h
    obtain ⟨rfl,dj⟩:=dh hb
    obtain ⟨nd,h,c6⟩:=bA h
    cases ho:nd.af with
    | false=>rw [ho] at h; exact h.elim
    | true =>
     rw [ho] at h
     refine ⟨sG nd,[i],h,fun aL κ' G w x au hf hv M' hle hM=>?_⟩
     have he:=au i (by simp)
     have dI:=hf.box i
     rw [he,hk] at dI
     cases hv with | own _ _ _ _ _ hh hc =>
     rw [cJ dj] at hh
     exact dI.1.frozen hle (fun b hb=>hM i (by simp) b (by rw [he,hk]; exact hb)) (SizeOf.sizeOf nd+1) p nd x (by omega) (c6 aL) ho hh
  ·exact h.elim
 ·refine ⟨_,[],h,fun _ κ' G w x _ _ hv M' hle _=>?_⟩
  cases hv with | fn _ _ vs hl hr =>
  have:vs=[]:=by simpa using hl.symm
  subst this
  exact .fn _ [] [] rfl (by simp)
 ·exact ⟨_,[],h.2,fun aL=>by rw [h.1] at aL; cases aL⟩
theorem Dl.cons {v:AV} {l:List AV} {d:DV} {ds:List DV} {i j:List Nat} (h:S3 κ gd v d i) (h':Dl κ gd l ds j):Dl κ gd (v::l) (d::ds) (i++j):=by
 intro aL κ' G w xs au hf hr M' hle hM
 match xs,hr with
 | [],hr=>have:=hr.1; simp at this
 | x::xs,hr =>
  refine .cons (h aL κ' G w x (fun q hq=>au q (by simp [hq])) hf (hr.2 0 v x rfl rfl) M' hle fun q hq=>hM q (by simp [hq])) ?_
  exact h' aL κ' G w xs (fun q hq=>au q (by simp [hq])) hf ⟨by simpa using hr.1,fun q e y he hy=>hr.2 (q+1) e y (by simpa using he) (by simpa using hy)⟩ M' hle fun q hq=>hM q (by simp [hq])
theorem Dl.nil:Dl κ gd [] [] []:=by
 intro aL κ' G w xs au hf hr M' hle hM
 have:xs=[]:=by have:=hr.1; simpa using this.symm
 subst this; exact .nil _
theorem sH {v:AV} {q:DV→List Nat→Prop} (h:Iu κ gd v q):∃d ids,q d ids∧S3 κ gd v d ids:=by
 obtain ⟨d,ids,h1,h2⟩:=yX (v:=dn v) h
 exact ⟨d,ids,h1,fun aL κ' G w x au hf hv M' hle hM=>h2 aL κ' G w x au hf (xG hv) M' hle hM⟩
theorem pP:∀{l:List AV} {q:List DV→List Nat→Prop},Dn κ gd l q→∃ds ids,q ds ids∧Dl κ gd l ds ids
 | [],q,h=>⟨[],[],h,.nil⟩
 | v::l,q,h=>by
  obtain ⟨d,i,h,h1⟩:=sH h
  obtain ⟨ds,j,h,h2⟩:=pP h
  exact ⟨_,_,h,.cons h1 h2⟩
theorem Dp {v:AV} {q:DV→List Nat→Prop} (h:OE κ gd v q):∃d ids,q d ids∧S3 κ gd v d ids:=by
 unfold OE at h
 split at h
 ·rename_i l
  cases hc:bN l with
  | false=>rw [hc] at h; exact h.elim
  | true =>
   rw [hc] at h
   obtain ⟨ds,ids,h,h1⟩:=pP h
   refine ⟨_,_,h,fun aL κ' G w x au hf hv M' hle hM=>?_⟩
   cases hv with | agg _ vs hl hr =>
   have h2:=h1 aL κ' G w vs au hf ⟨hl,hr⟩ M' hle hM
   exact .agg ds vs h2.1 (oP (G':={ G with M:=M' }) h2 (bP.cI ⟨hl,hr⟩ hc)) h2.2
 ·exact sH h
theorem sI:∀{l:List AV} {q:List DV→List Nat→Prop},AZ κ gd l q→∃ds ids,q ds ids∧Dl κ gd l ds ids
 | [],q,h=>⟨[],[],h,.nil⟩
 | v::l,q,h=>by
  obtain ⟨d,i,h,h1⟩:=Dp h
  obtain ⟨ds,j,h,h2⟩:=sI h
  exact ⟨_,_,h,.cons h1 h2⟩
theorem A0 {av:AV} {rd:List Nat} (hg:bJ ρ ops o.guard=some gd) (hk:aR n o gd nx k av rd)
  (h:∀ρ' κ',AJ ops o ρ ρ' κ κ' rd []→∀(F:Fence),fQ F→∀(g:dx) (a:Act) (w:World) (G:Gh),bY g n ρ' κ' a w G→gd=true→∀(K:Act→World→Prop),
   (∀v w' G',bY g n ρ' κ' a w' G'→aD G' av v→K (a.put o.dst v) w')→o.wpIn F 0 P a w K (fun _ _ _=>False)):Good P C ops n o nx ρ κ k:=by
 unfold aR at hk
 split at hk
 ·rename_i ja hn
  refine ⟨_,_,hk,Nat.le_refl _,by simp,fun F hF ρ' κ' au g a w dg ⟨G,aj⟩=>?_⟩
  have pQ:gd=true:=by rw [hn] at hg; injection hg with hg; exact hg.symm
  unfold ke
  rw [cd hg au.bs aj,pQ,if_pos rfl]
  exact h ρ' κ' au F hF g a w G aj pQ _ fun v w' G' h1 h2=>⟨G',by rw [ja]; exact h1⟩
 ·exact hk.elim
 ·rename_i d ja hn
  cases aJ:Nat.blt d n with
  | false=>rw [aJ] at hk; exact hk.elim
  | true =>
   rw [aJ] at hk
   have fX:d<n:=by rw [Nat.blt_eq] at aJ; exact aJ
   refine ⟨_,_,hk,Nat.le_refl _,by simp,fun F hF ρ' κ' au g a w dg ⟨G,aj⟩=>?_⟩
   have pQ:gd=true:=by rw [hn] at hg; injection hg with hg; exact hg.symm
   unfold ke
   rw [cd hg au.bs aj,pQ,if_pos rfl]
   exact h ρ' κ' au F hF g a w G aj pQ _ fun v w' G' h1 h2=>⟨G',by rw [ja]; exact h1.put fX h2⟩
 ·rename_i d j ja hn
  cases aJ:Nat.blt d n with
  | false=>rw [aJ] at hk; exact hk.elim
  | true =>
   rw [aJ] at hk
   have fX:d<n:=by rw [Nat.blt_eq] at aJ; exact aJ
   refine ⟨_,_,hk,Nat.le_refl _,by simp,fun F hF ρ' κ' au g a w dg ⟨G,aj⟩=>?_⟩
   unfold ke
   rw [cd hg au.bs aj]
   cases gd with
   | true =>
    rw [if_pos rfl]
    exact h ρ' κ' au F hF g a w G aj rfl _ fun v w' G' h1 h2=>⟨G',by rw [ja]; exact h1.put fX (.opt true av v (fun _=>h2) (by simp))⟩
   | false =>
    simp only [Bool.false_eq_true,if_false,ja]
    exact ⟨G,aj.put fX (.opt false av undef (by simp) (fun _=>rfl))⟩
theorem ld.A3 {f:Nat} {ds rs:List DV} (h:ld P f ds rs):gZ P f:=by obtain ⟨_,_,h,_⟩:=h; exact h
open Classical in
noncomputable def lg (G:Gh) (w:World) (κ:Nat→ao) (ids:List Nat):Mem:=fun b=>if ∃i,i∈ids∧bG G i (κ i) b then w.heap[b]? else G.M b
theorem Dq {G:Gh} {w:World} {κ:Nat→ao} {ids:List Nat} (hf:Fit G w κ):(lg G w κ ids).In w:=by
 intro b x hb
 unfold lg at hb
 split at hb
 ·exact hb
 ·exact hf.sub b x hb
theorem uz {G:Gh} {w:World} {κ:Nat→ao} {ids:List Nat} (hf:Fit G w κ):Mem.Le G.M (lg G w κ ids):=by
 intro b x hb
 unfold lg
 split
 ·rename_i h; obtain ⟨i,_,ho⟩:=h; rw [hf.own i b ho] at hb; cases hb
 ·exact hb
theorem A4 {G:Gh} {w:World} {κ:Nat→ao} {ids:List Nat} {i b:Nat} (hi:i∈ids) (ho:bG G i (κ i) b):lg G w κ ids b=w.heap[b]?:=by
 unfold lg
 rw [if_pos ⟨i,hi,ho⟩]
theorem Iv {f:Nat} {l:List AV} (hn:∀i,nx≤i→κ i=.none) (hg:bJ ρ ops o.guard=some gd) (bp:q9 P ops o ρ κ gd f l) (h:uA P n o nx κ gd k f l):Good P C ops n o nx ρ κ k:=by
 have Q4:(AZ κ gd l fun ds ids=>∃rs,(gd=true→ld P f ds rs)∧uB rs=true∧aR n o gd nx k (uC rs) ids)→Good P C ops n o nx ρ κ k:=by
  intro h
  obtain ⟨ds,ids,⟨rs,hc,LI,hk⟩,hb⟩:=sI h
  refine A0 hg hk fun ρ' κ' au F hF g a w G aj aL K hK=>?_
  obtain ⟨es,hle,S4,wN⟩:=hc aL
  obtain ⟨vs,aZ,dt⟩:=bp.2 ρ' κ' _ _ au g n a w G aj aL S4
  have hd:=hle.LC (hb aL κ' G w vs au.reads aj.fit dt (lg G w κ' ids) (uz aj.fit) (fun i hi b ho=>A4 hi ho))
  refine ra hF bp.1 aZ ((wN w _ vs (Dq aj.fit) ((aj.oa.mono aj.mem).mono (uz aj.fit)) hd).mono ?_)
  rintro e w' ⟨v,M',rfl,LJ,LK,ei,wX,rb⟩
  refine ⟨v,rfl,?_⟩
  have hM:∀b,(if b<w.heap.size then G.M b else M' b)=(fun b=>if b<w.heap.size then G.M b else M' b) b:=fun _=>rfl
  obtain ⟨h1,h2⟩:=aj.grown (w':=w') (M':=fun b=>if b<w.heap.size then G.M b else M' b) LJ
   (fun b x hx=>by
    have aJ:b<w.heap.size:=(Array.getElem?_eq_some_iff.1 (aj.fit.sub b x hx)).1
    simp only [if_pos aJ]; exact hx)
   (fun b x hx=>by
    by_cases aJ:b<w.heap.size
    ·simp only [if_pos aJ] at hx; rw [LJ.block b aJ]; exact aj.fit.sub b x hx
    ·simp only [if_neg aJ] at hx; exact ei b x hx)
   (fun b hb=>by simp only [if_pos hb])
  exact hK v w' _ h1 (Fl (Iw LI rb))
 have Fm:∀{ds:List DV} {rs:List DV} {ids:List Nat} {κ':Nat→ao} {g:dx} {a:Act} {w:World} {G:Gh} {F:Fence} {ρ':Nat→AV} {vs:List Value} {K:Act→World→Prop},fQ F→ld P f ds rs→bY g n ρ' κ' a w G→eL G.M ds vs→(execOp a.eval o).run P w=.ok (.enter f vs.toArray) w →
   (∀v w' G',bY g n ρ' κ' a w' G'→aD G' (uC rs) v→K (a.put o.dst v) w')→o.wpIn F 0 P a w K (fun _ _ _=>False):=by
  intro ds rs ids κ' g a w G F ρ' vs K hF hc aj hd aZ hK
  obtain ⟨es,hle,S4,wN⟩:=hc
  refine ra hF bp.1 aZ ((wN w _ vs aj.fit.sub (aj.oa.mono aj.mem) (hle.LC hd)).mono ?_)
  rintro e w' ⟨v,M',rfl,LJ,LK,ei,wX,rb⟩
  refine ⟨v,rfl,?_⟩
  obtain ⟨h1,h2⟩:=aj.grown LJ LK ei wX
  exact hK v w' _ h1 (Fl rb)
 unfold uA at h
 split at h
 ·rename_i ds Dr
  obtain ⟨rs,hc,hk⟩:=h
  refine A0 hg hk fun ρ' κ' au F hF g a w G aj aL K hK=>?_
  obtain ⟨vs,aZ,dt⟩:=bp.2 ρ' κ' _ _ au g n a w G aj aL (hc aL).A3
  exact Fm (ids:=[]) hF (hc aL) aj (iP (κ:=κ) (κ':=κ') (w:=w) (all:=[]) (by simp) (Gh.Le.refl G) (by simpa [jQ,aw] using aj.fit) Dr (by simp) dt) aZ hK
 ·rename_i ds ids bB Dr
  rcases h with h | ⟨rs,hc,hk⟩
  ·exact Q4 h
  ·refine Fo bp.1 hg hk (Nat.le_refl _) (fun p hp=>rh hn hp) fun ρ' κ' au F hF g a w G dg aj aL K hK=>?_
   obtain ⟨vs,aZ,dt⟩:=bp.2 ρ' κ' _ _ au g n a w G aj aL (hc aL).A3
   obtain ⟨G1,f1,f2,f3,f4,f5⟩:=aj.nN (κ:=κ) ids au.reads
   exact Fm (ids:=[]) hF (hc aL) f5 (iP au.reads f1 f5.fit Dr (fun i hi=>hi) dt) aZ hK
 ·exact Q4 h
end
end Go.TM
