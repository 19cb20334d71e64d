import Derived.Test.YtpbdohkbiklflaaGreatDoorPM9
import Derived.Laws.BytesString
set_option linter.unusedVariables false
set_option linter.unusedSimpArgs false
set_option linter.unusedSectionVars false
namespace Go.TM
open Go.RowKit
variable [ct]
section
variable {P:Program} {C:dy→Prop} {T:List TI} {ops:List Oper} {n:Nat} {o:Oper} {nx:Nat} {ρ:Nat→AV} {κ:Nat→ao} {k:jo→Nat→Prop} {gd:Bool}
def uC (ρ:Nat→AV) (κ:Nat→ao) (g:Bool):Option Operand→Option Int→Prop
 | none,none=>True
 | some x,some n=>bn ρ κ g x (.dv (.int .i64 n))
 | _,_=>False
theorem xR {x:Option Operand} {q:Option Int→Prop} (h:Rz ρ κ gd x q):∃b,q b∧uC ρ κ gd x b:=by
 unfold Rz at h
 split at h
 ·exact ⟨none,h,tv⟩
 ·obtain ⟨v,h,hv⟩:=aF h
  split at h
  ·rename_i m; exact ⟨some m,h,hv⟩
  ·exact h.elim
theorem uC.val {ρ':Nat→AV} {κ':Nat→ao} {g:dy} {a:Act} {w:World} {G:Gh} {x:Option Operand} {b:Option Int} (h:uC ρ κ gd x b) (ai:bZ g n ρ' κ' a w G) (aN:gd=true) (au:∀y,x=some y→zb ρ ρ' κ κ' y):x.map a.eval=b.map (Value.int .i64):=by
 cases x with
 | none=>cases b with
  | none=>rfl
  | some=>exact h.elim
 | some y=>cases b with
  | none=>exact h.elim
  | some m =>
   have hv:=h ρ' κ' (au y rfl) g n a w G ai aN
   simp only [Option.map_some]
   generalize a.eval y=v at hv
   cases hv with | dv hv=>cases hv with | int=>rfl
theorem oT {w:World} {isSl:Bool} {len cap:Nat} {lo hi:Option Int} (h1:0≤lo.getD 0) (h2:lo.getD 0≤hi.getD len) (h3:hi.getD len≤len) (h4:len≤cap) :
  (Instr.sliceBounds isSl len cap (lo.map (Value.int .i64)) (hi.map (Value.int .i64)) none).run P w=.ok ((lo.getD 0).toNat,(hi.getD len).toNat,cap) w:=by
 cases lo with
 | none =>
  cases hi with
  | none=>simp [Instr.sliceBounds]
  | some h =>
   simp only [Option.getD_some,Option.getD_none] at *
   have:0≤h∧h≤(cap:Int):=by omega
   simp [Instr.sliceBounds,Instr.sliceBound,asIntOf,this]
 | some l =>
  cases hi with
  | none =>
   simp only [Option.getD_some,Option.getD_none] at *
   have:0≤l∧l≤(len:Int):=by omega
   simp [Instr.sliceBounds,Instr.sliceBound,asIntOf,this]
  | some h =>
   simp only [Option.getD_some] at *
   have h5:0≤h∧h≤(cap:Int):=by omega
   have h6:0≤l∧l≤h:=by omega
   have h7:(max h 0:Int)=h:=by omega
   simp [Instr.sliceBounds,Instr.sliceBound,asIntOf,h5,h6,h7]
theorem IU (hT:ef P T) {s t:Nat} {x:Operand} {v:AV} (hg:bL ρ ops o.guard=some gd) (ho:o.op=.convert s t x) (hs:(nth T s).ok=true) (ht:(nth T t).ok=true)
  (h:DG (nth T s) (nth T (nth T s).elem) (nth T t) κ v fun r rd=>aR n o gd nx k r rd) (br:bn ρ κ gd x v):Good P C ops n o nx ρ κ k:=by
 obtain ⟨i1,u1,z1,RA⟩:=hT.facts hs
 obtain ⟨i2,u2,z2,TE⟩:=hT.facts ht
 unfold DG at h
 cases hb:(nth T s).isSl && (nth T (nth T s).elem).ok && L9 (nth T (nth T s).elem).DH && (nth T t).isStr with
 | false=>rw [hb] at h; exact h.elim
 | true =>
 rw [hb] at h
 simp only [cond_true] at h
 simp only [Bool.and_eq_true] at hb
 obtain ⟨⟨⟨iJ,iQ⟩,Un⟩,ai⟩:=hb
 obtain ⟨i3,u3,z3,Ws⟩:=hT.facts iQ
 have N5:=RA.slice iJ
 have Uo:=TE.string ai
 have Up:P.underlying (nth T s).elem=some (.int .u8):=by
  have h3:=Ws.DH
  rw [h3] at Un
  cases u3 <;> simp [Bi,L9] at Un
  rename_i kk
  cases kk <;> simp [L9] at Un
  exact Ws.xS
 have c8:∀c,o.op ≠ .defer c:=fun c=>by rw [ho]; simp
 rcases iR h with ⟨rfl,hk⟩ | ⟨sz,ys,rd,kill,hk,Ma,Mb,gE⟩
 ·refine bg c8 hg hk fun ρ' κ' au g a w G ai aN=>?_
  have hv:=br ρ' κ' (au.op (by rw [ho]; simp [Op.operands])) g n a w G ai aN
  generalize hx:a.eval x=q at hv
  cases hv with | dv hv=>cases hv with | aG =>
  exact ⟨.string .empty,by simp [execOp,ho,hx,run_convert_bytes_string w s t _ none 0 0 N5 Up Uo,Conv.bytesToString],.dv (.str _)⟩
 ·cases hb:Nat.beq sz 1 && N6 kill with
  | false=>rw [hb] at hk; exact hk.elim
  | true =>
  rw [hb] at hk
  simp only [cond_true] at hk
  simp only [Bool.and_eq_true] at hb
  have:=Nat.eq_of_beq_eq_true hb.1
  subst this
  obtain ⟨ns,rfl,hk⟩:=hk
  refine bg c8 hg hk fun ρ' κ' au g a w G ai aN=>?_
  have hv:=br ρ' κ' (au.op (by rw [ho]; simp [Op.operands])) g n a w G ai aN
  obtain ⟨dD,IV,_⟩:=gE κ' G w _ (fun i hi=>au.reads i hi) ai.fit hv
  generalize hx:a.eval x=q at IV
  rcases IV.O0 with ⟨c,rfl,lq⟩ | ⟨A,cap,cell,rfl,cW⟩
  ·have:ns=[]:=by simpa using lq
   subst this
   exact ⟨.string .empty,by simp [execOp,ho,hx,run_convert_bytes_string w s t _ none 0 c N5 Up Uo,Conv.bytesToString],.dv (.str _)⟩
  ·have RB:(loadCells A (ns.map (DV.int .u8)).length).run P w=.ok (ns.map (Value.int .u8)).toArray w:=by
    have h1:=run_loadCells (P:=P) w A (ns.map (DV.int .u8)).length (fun j=>Value.int .u8 (ns.getD j 0)) (fun j hj=>by
     have oB:j<ns.length:=by simpa using hj
     obtain ⟨_,h2⟩:=cW j (.int .u8 ns[j]) (by simp [oB])
     obtain ⟨_,h3,_,_,h4⟩:=h2 0 (.int .u8 ns[j]) rfl
     rw [Nat.mul_one,Nat.add_zero] at h3
     rw [h3]
     rcases h4 with ⟨h5,_⟩ | ⟨_,h5⟩
     ·cases h5
     ·generalize cell j 0=u at h5 ⊢
      cases h5 with | int=>simp [List.getD,oB])
    rw [h1]
    congr 2
    refine List.ext_getElem (by simp) fun j h2 h3=>?_
    simp at h2 h3
    simp [List.getD,h3]
   refine ⟨.string (N7 ns),?_,.dv (.str _)⟩
   have h2:=run_bytesToString (P:=P) w A (ns.map (DV.int .u8)).length cap ns RB
   simp only [execOp,ho,hx,Sem.run_bind,run_convert_bytes_string w s t _ (some A) _ cap N5 Up Uo,h2,Result.andThen_ok,Sem.run_pure]
   rfl
theorem aH {c:Bool} {p:Prop} (h:bif c then p else False):c=true∧p:=by cases c <;> simp_all
theorem bZ.cut {g:dy} {κ' κ2:Nat→ao} {a:Act} {w:World} {G:Gh} (ai:bZ g n ρ κ' a w G) {i ver bG sz:Nat} {xs:List DV} (dN:κ' i=.tree ver bG (.ay sz xs)) {L H:Int} (b1:0≤L) (b2:L≤H) (b3:H≤xs.length)
  (h1:κ2 i=.tree (ver+1) 0 (.ay sz ((xs.take H.toNat).drop L.toNat))) (h3:∀j,j ≠ i→κ2 j=κ' j) {v0:Value} (A7:az G.H i ver bG []=some v0) :
  ∃A cap,v0=.slice A xs.length cap∧xs.length≤cap∧∃G',bZ g n ρ κ2 a w G'∧aE G' (.own i (ver+1) 0 []) (.slice (if cap=L.toNat then A else A.map (·.add (L.toNat * sz))) (H.toNat - L.toNat) (cap - L.toNat)):=by
 have dJ:=ai.fit.box i
 rw [dN] at dJ
 obtain ⟨ht,dt,LZ,sH⟩:=dJ
 obtain ⟨Zj,pW,pX,aX⟩:=ht.2 [] _ rfl rfl
 rw [A7] at pW; injection pW with pW; subst pW
 have pW:=A7
 have hlen:((xs.take H.toNat).drop L.toNat).length=H.toNat - L.toNat:=by simp; omega
 let hN:Value→List PS→Option Value:=fun v' q=>match q with
  | []=>some v'
  | .el i' j::r=>az G.H i ver bG (.el (i'+L.toNat) j::r)
  | _=>none
 have fin:∀v':Value,v'.oneCell'=true→(∀b,fm v'=some b→fm v0=some b)→bW G.M w v' (fun s=>hN v' ([]++[s])) (.ay sz ((xs.take H.toNat).drop L.toNat)) →
   ∃G',bZ g n ρ κ2 a w G'∧aE G' (.own i (ver+1) 0 []) v':=by
  intro v' DI O1 Bj
  have xe:∀i' j c,step (.ay sz ((xs.take H.toNat).drop L.toNat)) (.el i' j)=some c→step (.ay sz xs) (.el (i'+L.toNat) j)=some c:=by
   intro i' j c hc
   simp only [step] at hc ⊢
   rw [List.getElem?_drop,List.getElem?_take] at hc
   by_cases e:L.toNat+i'<H.toNat
   ·rw [if_pos e,Nat.add_comm] at hc; exact hc
   ·rw [if_neg e] at hc; cases hc
  have el:∀s c,step (.ay sz ((xs.take H.toNat).drop L.toNat)) s=some c→∃i' j,s=.el i' j:=by
   intro s c dD
   cases s with
   | el i' j=>exact ⟨i',j,rfl⟩
   | key=>simp [step] at dD
  obtain ⟨m1,m2,m3⟩:=aS.oU (w:=w) (w':=w) (h:=G6) (h':=hN v') (p:=[]) (n:=.ay sz []) (n':=.ay sz ((xs.take H.toNat).drop L.toNat)) (v:=.slice none 0 0) (v':=v') (fun _=>True) (uD G.M w _) (zd _) rfl rfl rfl rfl rfl DI (.inl rfl) Bj
   (fun q hq=>absurd (List.nil_prefix) hq) (fun s c _ _ hN=>absurd trivial hN)
   (fun s c dD zf _=>by
    obtain ⟨i',j,rfl⟩:=el s c dD
    have Q3:get (.ay sz xs) [.el (i'+L.toNat) j]=some c:=by simp [get,xe i' j c dD]
    refine ⟨ht.sub Q3 zf,dt.sub Q3,fun b hb=>⟨fun h=>iS h,fun cO=>?_⟩⟩
    obtain ⟨q,m,uu,c1,c2,c3,c4⟩:=hb
    have:=dt [] (.el (i'+L.toNat) j::q) _ m v0 uu b rfl rfl pW (O1 b cO) (by simp only [get,xe i' j c dD]; exact c1) c2 c3 c4
    cases this)
   (fun s s' c c' b fb IW _ oC Dr _ kj cw=>by
    obtain ⟨i1,j1,rfl⟩:=el s c fb
    obtain ⟨i2,j2,rfl⟩:=el s' c' oC
    obtain ⟨q,m,uu,c1,c2,c3,c4⟩:=kj
    obtain ⟨q',m',Xr,d1,d2,d3,d4⟩:=cw
    have:=dt (.el (i1+L.toNat) j1::q) (.el (i2+L.toNat) j2::q') m m' uu Xr b (by simp only [get,xe i1 j1 c fb]; exact c1) c2 c3 c4 (by simp only [get,xe i2 j2 c' oC]; exact d1) d2 d3 d4
    injection this with e1 _
    injection e1 with e1 e2
    have:i1=i2:=by omega
    rw [this,e2])
   (fun b hb=>.inr fun h=>iS h) (fun b h=>(iS h).elim)
  obtain ⟨G',g1,g2,_,g4,_,_,g7⟩:=ai.jZ (κ':=κ2) (w':=w) (i:=i) (ver:=ver+1) (ep:=0) (d:=.ay sz ((xs.take H.toNat).drop L.toNat)) (fun _=>False) (hN v') (fun h=>h.elim) (.inr ⟨ver,bG,_,dN,by omega,by omega⟩) (fun _ h=>h.elim) h1 (fun j hj _=>h3 j hj)
   (fun q y hy=>by cases q <;> simp [az,LZ (ver+1) (by omega)] at hy) m1 m2
   (fun b hb=>by
    rcases m3 b hb with h5 | h5 | ⟨s,c,s1,s2,_,s4⟩
    ·exact (iS h5).elim
    ·exact .inr (.inl (by rw [dN]; exact ⟨[],_,v0,rfl,rfl,pW,O1 b h5⟩))
    ·obtain ⟨i',j,rfl⟩:=el s c s1
     have Q3:get (.ay sz xs) [.el (i'+L.toNat) j]=some c:=by simp [get,xe i' j c s1]
     exact .inr (.inl (by rw [dN]; exact aO.sub (p:=[.el (i'+L.toNat) j]) Q3 s4)))
   (fun _ _ _ _=>rfl) (fun b hb=>by
    rcases hb with h5 | ⟨_,h5,_⟩
    ·exact ai.fit.own i b h5
    ·exact h5.elim) (Nat.le_refl _) rfl rfl rfl
  exact ⟨G',g7,.own _ _ _ _ _ ((g4 []).trans rfl) DI⟩
 rcases aX with ⟨rfl,rfl⟩ | ⟨gb,ob,cap,c,tt,rfl,ek,hw,O2,oi⟩
 ·simp at b3
  have hL:L=0:=by omega
  have hH:H=0:=by omega
  subst hL; subst hH
  refine ⟨none,0,rfl,Nat.le_refl _,?_⟩
  simpa using fin (.slice none 0 0) rfl (by simp [fm]) (.inl ⟨by simp,rfl⟩)
 ·refine ⟨_,_,rfl,ek,fin _ rfl ?_ ?_⟩
  ·intro b hb
   split at hb
   ·exact hb
   ·simp only [Option.map_some,fm,cE] at hb; exact hb
  ·by_cases e:cap=L.toNat
   ·have lq:(xs.take H.toNat).drop L.toNat=[]:=List.eq_nil_of_length_eq_zero (by rw [hlen]; omega)
    rw [if_pos e,lq]
    rw [show cap - L.toNat=0 by omega,show H.toNat - L.toNat=0 by omega]
    refine .inr ⟨gb,ob,0,c,tt,rfl,by simp,hw,by omega,by simp⟩
   ·rw [if_neg e]
    refine .inr ⟨gb,ob+L.toNat * sz,cap - L.toNat,c,tt,by simp only [Option.map_some,cE]; rw [hlen],by rw [hlen]; omega,hw,?_,fun i' y hy=>?_⟩
    ·have:L.toNat * sz+(cap - L.toNat) * sz=cap * sz:=by rw [←Nat.add_mul]; congr 1; omega
     omega
    ·rw [List.getElem?_drop,List.getElem?_take] at hy
     split at hy
     ·obtain ⟨c1,c2⟩:=oi _ y hy
      refine ⟨c1,fun j d' je=>?_⟩
      obtain ⟨d1,uu,d2,d3⟩:=c2 j d' je
      refine ⟨d1,uu,?_,?_⟩
      ·rw [←d2]; congr 1; rw [Nat.add_mul]; omega
      ·show de G.M (az G.H i ver bG [.el (i'+L.toNat) j]) d' uu
       rw [Nat.add_comm]; exact d3
     ·cases hy
theorem xT (hT:ef P T) {t:Nat} {x:Operand} {l h:Option Operand} {v:AV} {lo hi:Option Int} (hg:bL ρ ops o.guard=some gd) (ho:o.op=.slice t x l h none) (hn:∀i,nx≤i→κ i=.none)
  (bY:(nth T t).ok=true) (iJ:((nth T t).isSl && (nth T (nth T t).elem).ok || (nth T t).isStr)=true) (hx:bn ρ κ gd x v) (hl:uC ρ κ gd l lo) (hh:uC ρ κ gd h hi)
  (hk:j3 (nth T t) (nth T (nth T t).elem).size κ gd v lo hi (fun v=>aR n o gd nx k v []) (fun v bx rd=>dz n o nx k v bx rd)):Good P C ops n o nx ρ κ k:=by
 obtain ⟨ti,u,z,tf⟩:=hT.facts bY
 have c8:∀c,o.op ≠ .defer c:=fun c=>by rw [ho]; simp
 have mx:x∈o.op.operands:=by rw [ho]; simp [Op.operands]
 have ml:∀y,l=some y→y∈o.op.operands:=fun y hy=>by rw [ho,hy]; simp [Op.operands]
 have mh:∀y,h=some y→y∈o.op.operands:=fun y hy=>by rw [ho,hy]; simp [Op.operands]
 have cut:∀{w:World} {a:Act} {A:Option Addr} {len cap:Nat},(nth T t).isSl=true→a.eval x=.slice A len cap→l.map a.eval=lo.map (Value.int .i64)→h.map a.eval=hi.map (Value.int .i64)→0≤lo.getD 0→lo.getD 0≤hi.getD len→hi.getD len≤len→len≤cap→(nth T (nth T t).elem).ok=true →
   (execOp a.eval o).run P w=.ok (.value (.slice (if cap=(lo.getD 0).toNat then A else A.map (·.add ((lo.getD 0).toNat * (nth T (nth T t).elem).size))) ((hi.getD len).toNat - (lo.getD 0).toNat) (cap - (lo.getD 0).toNat))) w:=by
  intro w a A len cap hs sI hle uE h1 h2 h3 h4 sJ
  obtain ⟨te,ue,ze,iz⟩:=hT.facts sJ
  have hb:=oT (P:=P) (w:=w) (isSl:=true) (len:=len) (cap:=cap) h1 h2 h3 h4
  have oV:=iz.eS w
  simp [execOp,ho,Instr.sliceAt,Instr.slice,run_underlying (tf.slice hs),sI,hle,uE,hb,oV]
 unfold j3 at hk
 split at hk
 ·rename_i sz xs
  cases jq:(nth T t).isSl && Nat.beq sz (nth T (nth T t).elem).size with
  | false=>rw [jq] at hk; exact hk.elim
  | true =>
  rw [jq] at hk
  obtain ⟨G7,hk⟩:=hk
  simp only [Bool.and_eq_true] at jq
  obtain ⟨hs,DJ⟩:=jq
  have:=Nat.eq_of_beq_eq_true DJ
  subst this
  have sJ:(nth T (nth T t).elem).ok=true:=by
   simp only [Bool.or_eq_true,Bool.and_eq_true] at iJ
   rcases iJ with h5 | h5
   ·exact h5.2
   ·exfalso
    have q1:=tf.isSl; have q2:=tf.isStr
    rw [hs] at q1; rw [h5] at q2
    cases u <;> simp [G8,strOf] at q1 q2
  refine bg c8 hg hk fun ρ' κ' au g a w G ai aN=>?_
  have hv:=hx ρ' κ' (au.op mx) g n a w G ai aN
  have hle:=hl.val ai aN (fun y hy=>au.op (ml y hy))
  have uE:=hh.val ai aN (fun y hy=>au.op (mh y hy))
  obtain ⟨b1,b2,b3⟩:=G7 aN
  generalize sI:a.eval x=q at hv
  cases hv with | dv hv =>
  generalize pY:lo.getD 0=L at b1 b2 b3 ⊢
  generalize zg:hi.getD (xs.length:Int)=H at b1 b2 b3 ⊢
  have hlen:((xs.take H.toNat).drop L.toNat).length=H.toNat - L.toNat:=by simp; omega
  cases hv with
  | slnil =>
   simp at b3 zg
   have hL:L=0:=by omega
   have hH:H=0:=by omega
   subst hL; subst hH
   refine ⟨_,cut hs sI hle uE (by rw [pY]; omega) (by rw [pY]; simp [zg]) (by simp [zg]) (Nat.le_refl _) sJ,?_⟩
   rw [pY]
   simp [zg]
   exact .dv (.slnil _)
  | sl _ _ A cap cell ek Uq hc hr =>
   refine ⟨_,cut hs sI hle uE (by rw [pY]; omega) (by rw [pY,zg]; omega) (by rw [zg]; omega) ek sJ,.dv ?_⟩
   rw [pY,zg]
   by_cases e:cap=L.toNat
   ·have lq:(xs.take H.toNat).drop L.toNat=[]:=List.eq_nil_of_length_eq_zero (by rw [hlen]; omega)
    rw [if_pos e,lq,show H.toNat - L.toNat=0 by omega,show cap - L.toNat=0 by omega]
    exact .sl _ [] A 0 (fun _ _=>undef) (Nat.le_refl _) (by simp) (by simp) (by simp)
   ·rw [if_neg e]
    simp only [Option.map_some]
    rw [←hlen]
    refine .sl _ _ _ _ (fun i j=>cell (L.toNat+i) j) (by rw [hlen]; omega) (fun y hy=>Uq y (List.mem_of_mem_take (List.mem_of_mem_drop hy))) (fun i j hi hj=>?_) (fun i y j d hy hd=>?_)
    ·rw [cy]
     have:=hc (L.toNat+i) j (by rw [hlen] at hi; omega) hj
     rw [Nat.add_mul] at this
     rw [show L.toNat * (nth T (nth T t).elem).size+(i * (nth T (nth T t).elem).size+j)=L.toNat * (nth T (nth T t).elem).size+i * (nth T (nth T t).elem).size+j by omega]
     exact this
    ·rw [List.getElem?_drop,List.getElem?_take] at hy
     split at hy
     ·exact hr _ y j d hy hd
     ·cases hy
 ·rename_i i ver ep
  split at hk
  ·rename_i aY bG d dN
   cases hb:Nat.beq ver aY with
   | false=>rw [hb] at hk; exact hk.elim
   | true =>
   rw [hb] at hk
   simp only [cond_true] at hk
   have:=Nat.eq_of_beq_eq_true hb
   subst this
   cases d with
   | ay sz xs =>
    simp only at hk
    cases jq:(nth T t).isSl && Nat.beq sz (nth T (nth T t).elem).size with
    | false=>rw [jq] at hk; exact hk.elim
    | true =>
    rw [jq] at hk
    obtain ⟨⟨b1,b2,b3⟩,hk⟩:=hk
    simp only [Bool.and_eq_true] at jq
    obtain ⟨hs,DJ⟩:=jq
    have:=Nat.eq_of_beq_eq_true DJ
    subst this
    have sJ:(nth T (nth T t).elem).ok=true:=by
     simp only [Bool.or_eq_true,Bool.and_eq_true] at iJ
     rcases iJ with h5 | h5
     ·exact h5.2
     ·exfalso
      have q1:=tf.isSl; have q2:=tf.isStr
      rw [hs] at q1; rw [h5] at q2
      cases u <;> simp [G8,strOf] at q1 q2
    have rp:i<nx:=oD hn ⟨_,_,_,dN⟩
    refine cU c8 hg hk (Nat.le_refl _) (by simpa using rp) fun ρ' κ' au g a w G dh ai aN=>?_
    have he:=au.reads i (by simp)
    have hv:=hx ρ' κ' (au.op mx) g n a w G ai aN
    have hle:=hl.val ai aN (fun y hy=>au.op (ml y hy))
    have uE:=hh.val ai aN (fun y hy=>au.op (mh y hy))
    have dJ:=ai.fit.box i
    rw [he,dN] at dJ
    obtain ⟨ht,dt,LZ,sH⟩:=dJ
    obtain ⟨v0,pW,pX,aX⟩:=ht.2 [] _ rfl rfl
    have sI:a.eval x=v0:=by
     generalize a.eval x=q at hv
     cases hv with | own _ _ _ _ _ Ur hc=>have:az G.H i ver bG []=some q:=Ur
                                          rw [pW] at this; injection this with this; exact this.symm
    obtain ⟨A,cap,rfl,ek,G',g7,Us⟩:=ai.cut (κ2:=aw κ' [(i,.tree (ver+1) 0 (.ay (nth T (nth T t).elem).size ((xs.take (hi.getD xs.length).toNat).drop (lo.getD 0).toNat)))]) (he.trans dN) b1 b2 b3 (by simp [aw]) (fun j hj=>by simp [aw,ae _ _ hj]) pW
    exact ⟨_,w,G',.inl (cut hs sI hle uE b1 b2 b3 ek sJ),g7,Us⟩
   | _=>exact hk.elim
  ·exact hk.elim
 ·rename_i s
  cases fS:(nth T t).isStr with
  | false=>rw [fS] at hk; exact hk.elim
  | true =>
   rw [fS] at hk
   obtain ⟨G7,hk⟩:=hk
   refine bg c8 hg hk fun ρ' κ' au g a w G ai aN=>?_
   have hv:=hx ρ' κ' (au.op mx) g n a w G ai aN
   have hle:=hl.val ai aN (fun y hy=>au.op (ml y hy))
   have uE:=hh.val ai aN (fun y hy=>au.op (mh y hy))
   obtain ⟨b1,b2,b3⟩:=G7 aN
   generalize sI:a.eval x=q at hv
   cases hv with | dv hv=>cases hv with | str =>
   have hb:=oT (P:=P) (w:=w) (isSl:=false) (len:=s.size) (cap:=s.size) b1 b2 b3 (Nat.le_refl _)
   refine ⟨_,?_,.dv (.str _)⟩
   simp [execOp,ho,Instr.sliceAt,Instr.slice,run_underlying (tf.string fS),sI,hle,uE,hb]
 ·exact hk.elim
theorem IX (hT:ef P T) {t:Nat} {x:Operand} {l h:Option Operand} {v:AV} {lo hi:Option Int} (hg:bL ρ ops o.guard=some gd) (ho:o.op=.slice t x l h none) (hn:∀i,nx≤i→κ i=.none)
  (bY:(nth T t).ok=true) (iJ:((nth T t).isSl && (nth T (nth T t).elem).ok || (nth T t).isStr)=true) (hx:bn ρ κ gd x v) (hl:uC ρ κ gd l lo) (hh:uC ρ κ gd h hi)
  (hk:uF (nth T t) (nth T (nth T t).elem).size κ gd nx v lo hi (fun v rd=>aR n o gd nx k v rd) (fun v bx rd=>dz n o nx k v bx rd) (fun v bx rd=>dz n o (nx+1) k v bx rd)):Good P C ops n o nx ρ κ k:=by
 unfold uF at hk
 split at hk
 ·rename_i i ver ep p
  rcases hk with hk | hk | hk
  ·exact xT hT hg ho hn bY iJ hx hl hh hk
  all_goals
   obtain ⟨ti,u,z,tf⟩:=hT.facts bY
   have c8:∀c,o.op ≠ .defer c:=fun c=>by rw [ho]; simp
   have mx:x∈o.op.operands:=by rw [ho]; simp [Op.operands]
   have ml:∀y,l=some y→y∈o.op.operands:=fun y hy=>by rw [ho,hy]; simp [Op.operands]
   have mh:∀y,h=some y→y∈o.op.operands:=fun y hy=>by rw [ho,hy]; simp [Op.operands]
   have cut:∀{w:World} {a:Act} {A:Option Addr} {len cap:Nat},(nth T t).isSl=true→a.eval x=.slice A len cap→l.map a.eval=lo.map (Value.int .i64)→h.map a.eval=hi.map (Value.int .i64)→0≤lo.getD 0→lo.getD 0≤hi.getD len→hi.getD len≤len→len≤cap→(nth T (nth T t).elem).ok=true →
     (execOp a.eval o).run P w=.ok (.value (.slice (if cap=(lo.getD 0).toNat then A else A.map (·.add ((lo.getD 0).toNat * (nth T (nth T t).elem).size))) ((hi.getD len).toNat - (lo.getD 0).toNat) (cap - (lo.getD 0).toNat))) w:=by
    intro w a A len cap hs sI hle uE h1 h2 h3 h4 sJ
    obtain ⟨te,ue,ze,iz⟩:=hT.facts sJ
    have hb:=oT (P:=P) (w:=w) (isSl:=true) (len:=len) (cap:=cap) h1 h2 h3 h4
    have oV:=iz.eS w
    simp [execOp,ho,Instr.sliceAt,Instr.slice,run_underlying (tf.slice hs),sI,hle,uE,hb,oV]
   have O3:(nth T t).isSl=true→(nth T (nth T t).elem).ok=true:=fun hs=>by
    simp only [Bool.or_eq_true,Bool.and_eq_true] at iJ
    rcases iJ with h5 | h5
    ·exact h5.2
    ·exfalso
     have q1:=tf.isSl; have q2:=tf.isStr
     rw [hs] at q1; rw [h5] at q2
     cases u <;> simp [G8,strOf] at q1 q2
  ·unfold FH at hk
   split at hk
   ·rename_i aY bG d dN
    have hh:=aH hk; clear hk; obtain ⟨hb,hk⟩:=hh
    obtain ⟨rfl,dk⟩:=di hb
    obtain ⟨nd,hk,O4⟩:=bB hk
    split at hk
    ·rename_i sz xs
     have hh:=aH hk; clear hk; obtain ⟨cw,G7,hk⟩:=hh
     simp only [Bool.and_eq_true] at cw
     obtain ⟨hs,DJ⟩:=cw
     have:=Nat.eq_of_beq_eq_true DJ
     subst this
     refine bg c8 hg hk fun ρ' κ' au g a w G ai aN=>?_
     have hv:=hx ρ' κ' (au.op mx) g n a w G ai aN
     have hle:=hl.val ai aN (fun y hy=>au.op (ml y hy))
     have uE:=hh.val ai aN (fun y hy=>au.op (mh y hy))
     obtain ⟨b1,b2,b3⟩:=G7 aN
     have Ut:κ' i=.tree ver bG d:=(au.reads i (by simp)).trans dN
     obtain ⟨u0,h1,_,aX⟩:=ai.fit.node Ut (O4 aN) rfl
     generalize sI:a.eval x=q at hv
     cases hv with | own _ _ _ _ _ xf hc =>
     have pW:=xf
     rw [cK dk,h1] at pW
     injection pW with pW
     subst pW
     rcases aX with ⟨rfl,rfl⟩ | ⟨gb,ob,cap,cc,tt,rfl,ek,hw,Uu,Ds⟩
     ·have O5:=cut (w:=w) hs sI hle uE b1 (by simpa using b2) (by simpa using b3) (Nat.le_refl _) (O3 hs)
      refine ⟨_,O5,?_⟩
      refine .pre _ _ _ _ _ _ _ _ _ fun bD=>?_
      simp at b3 bD; omega
     ·have O5:=cut (w:=w) hs sI hle uE b1 b2 b3 ek (O3 hs)
      refine ⟨_,O5,?_⟩
      refine .pre _ _ _ _ _ _ _ _ _ fun bD=>⟨_,_,_,xf,?_⟩
      rw [if_neg (by omega)]
      rfl
    ·exact hk.elim
   ·exact hk.elim
  ·unfold FI at hk
   split at hk
   ·exact hk.elim
   rename_i Uv
   split at hk
   ·rename_i aY bG d dN
    have hh:=aH hk; clear hk; obtain ⟨hb,hk⟩:=hh
    simp only [Bool.and_eq_true] at hb
    have:=Nat.eq_of_beq_eq_true hb.1
    subst this
    have:=Nat.eq_of_beq_eq_true hb.2
    subst this
    obtain ⟨nd,hk,O4⟩:=bB hk
    split at hk
    ·rename_i sz xs
     have hh:=aH hk; clear hk; obtain ⟨cw,⟨b1,b2,b3⟩,hk⟩:=hh
     simp only [Bool.and_eq_true] at cw
     obtain ⟨hs,DJ⟩:=cw
     have:=Nat.eq_of_beq_eq_true DJ
     subst this
     obtain ⟨hk,_⟩:=er hk
     have rp:i<nx:=oD hn ⟨_,_,_,dN⟩
     refine cU c8 hg hk (by omega) (fun q hq=>?_) fun ρ' κ' au g a w G dh ai aN=>?_
     ·rcases List.mem_cons.1 hq with rfl | hq
      ·simp
      ·rcases List.mem_cons.1 hq with rfl | hq
       ·show i<nx+1; omega
       ·cases hq
     have he:=au.reads i (by simp)
     have gI:κ' nx=.none:=(au.reads nx (by simp)).trans (hn nx (Nat.le_refl _))
     have hv:=hx ρ' κ' (au.op mx) g n a w G ai aN
     have hle:=hl.val ai aN (fun y hy=>au.op (ml y hy))
     have uE:=hh.val ai aN (fun y hy=>au.op (mh y hy))
     have Uw:p ≠ []:=fun e=>Uv e
     obtain ⟨G1,g1,g2,_,g4,g7⟩:=ai.split (κ':=aw κ' [(nx,.tree 0 0 (.ay (nth T (nth T t).elem).size xs)),(i,.tree ver (ep+1) (bO d p .any))]) (i:=i) (nx:=nx) (he.trans dN) gI (O4 rfl) rfl Uw (by simp only [aw]; rw [ae _ _ (by omega)]; simp) (by simp [aw]) (fun j h1 h2=>by simp only [aw]; rw [ae _ _ h2,ae _ _ h1])
     have kl:az G.H i ver ep p=some (a.eval x):=by
      generalize a.eval x=q at hv
      cases hv with | own _ _ _ _ _ Ur hc=>exact Ur
     obtain ⟨A,cap,hA,ek,G',g8,Us⟩:=g7.cut (κ2:=aw κ' [(nx,.tree 1 0 (.ay (nth T (nth T t).elem).size ((xs.take (hi.getD xs.length).toNat).drop (lo.getD 0).toNat))),(i,.tree ver (ep+1) (bO d p .any))]) (i:=nx) (by simp only [aw]; rw [aW]) b1 b2 b3 (by simp only [aw]; rw [aW])
      (fun j hj=>by simp only [aw]; rw [ae _ _ hj,ae _ _ hj]) (by rw [g4 [],List.append_nil]; exact kl)
     exact ⟨_,w,G',.inl (cut hs hA hle uE b1 b2 b3 ek (O3 hs)),g8,Us⟩
    ·exact hk.elim
   ·exact hk.elim
 ·exact xT hT hg ho hn bY iJ hx hl hh hk
end
end Go.TM
namespace Go.TM
open Go.RowKit
variable [ct]
section
variable {P:Program} {C:dy→Prop} {T:List TI} {ops:List Oper} {n:Nat} {o:Oper} {nx:Nat} {ρ:Nat→AV} {κ:Nat→ao} {k:jo→Nat→Prop} {gd:Bool}
theorem gf {f:Nat} (hf:hZ P f) (args:Array Value) (w:World):(callFunc f args).run P w=.ok (.enter f args) w:=by
 obtain ⟨fn,h1,h2,h3⟩:=hf
 have DF:¬ fn.name="runtime.NumGoroutine":=by simpa using h2
 have IY:¬ fn.body=none:=by rintro hb; rw [hb] at h3; cases h3
 simp [callFunc,program,Sem.run,h1,DF,IY]
def ru (P:Program) (ops:List Oper) (o:Oper) (ρ:Nat→AV) (κ:Nat→ao) (gd:Bool) (f:Nat) (l:List AV):Prop :=
 (∀c,o.op ≠ .defer c)∧∀ρ' κ' rd bx,A8 ops o ρ ρ' κ κ' rd bx→∀(g:dy) (n:Nat) (a:Act) (w:World) (G:Gh),bZ g n ρ' κ' a w G→gd=true→hZ P f →
  ∃vs:List Value,(execOp a.eval o).run P w=.ok (.enter f vs.toArray) w∧bR G l vs
theorem sK {c:Call} {f:Nat} {l:List AV} (ho:o.op=.call c) (hc:c.callee=.value (.func f)) (br:j4 ρ κ gd c.args.toList l):ru P ops o ρ κ gd f l:=by
 refine ⟨fun c=>by rw [ho]; simp,?_⟩
 intro ρ' κ' rd bx au g n a w G ai aN hf
 have du:=j4.rel ai aN br (fun x hx=>au.op (by rw [ho]; simp only [Op.operands,Call.operands,hc]; exact Array.mem_append.2 (.inr (by simpa using hx))))
 have bM:(List.map a.eval c.args.toList).toArray=c.args.map a.eval:=by rw [←Array.toList_map,Array.toArray_toList]
 refine ⟨_,?_,du⟩
 rw [bM]
 simp [execOp,ho,resolve,hc,Act.eval,Deferred.ofValue,invoke,gf hf]
theorem bR.append {G:Gh} {l l':List AV} {vs sF:List Value} (h:bR G l vs) (h':bR G l' sF):bR G (l++l') (vs++sF):=by
 refine ⟨by simp [h.1,h'.1],fun j d v hd hv=>?_⟩
 rcases Nat.lt_or_ge j l.length with aJ | dw
 ·rw [List.getElem?_append_left aJ] at hd
  rw [List.getElem?_append_left (by rw [←h.1]; exact aJ)] at hv
  exact h.2 j d v hd hv
 ·rw [List.getElem?_append_right dw] at hd
  rw [List.getElem?_append_right (by rw [←h.1]; exact dw),←h.1] at hv
  exact h'.2 _ d v hd hv
theorem oW {c:Call} {f t:Nat} {l:List AV} {av:AV} (ho:o.op=.call c) (hc:c.callee=.value (.tmp t)) (hv:bn ρ κ gd (.tmp t) av) (br:j4 ρ κ gd c.args.toList l) {L:List AV}
  (Ux:(∃bq,av=.fn f bq∧L=l++bq) ∨ (∃first,av=.hJ f first∧L=first++l) ∨ (∃bq,av=.dv (.fn f bq)∧L=l++jU bq)):ru P ops o ρ κ gd f L:=by
 refine ⟨fun c=>by rw [ho]; simp,?_⟩
 intro ρ' κ' rd bx au g n a w G ai aN hf
 have du:=j4.rel ai aN br (fun x hx=>au.op (by rw [ho]; simp only [Op.operands,Call.operands,hc]; exact Array.mem_append.2 (.inr (by simpa using hx))))
 have uG:=hv ρ' κ' (au.op (by rw [ho]; simp only [Op.operands,Call.operands,hc]; exact Array.mem_append.2 (.inl (by simp)))) g n a w G ai aN
 have bM:(List.map a.eval c.args.toList).toArray=c.args.map a.eval:=by rw [←Array.toList_map,Array.toArray_toList]
 generalize hx:a.eval (.tmp t)=x at uG
 have RD:∀(vs:List Value),x=.func (.func f) #[] vs.toArray→∀bq,bR G bq vs→∃us:List Value,(execOp a.eval o).run P w=.ok (.enter f us.toArray) w∧bR G (l++bq) us:=by
  rintro vs rfl bq oE
  refine ⟨c.args.toList.map a.eval++vs,?_,du.append oE⟩
  have:(List.map a.eval c.args.toList++vs).toArray=c.args.map a.eval++vs.toArray:=by rw [←bM]; simp
  rw [this]
  simp [execOp,ho,resolve,hc,hx,Deferred.ofValue,invoke,gf hf]
 rcases Ux with ⟨bq,rfl,rfl⟩ | ⟨first,rfl,rfl⟩ | ⟨bq,rfl,rfl⟩
 ·cases uG with | fn _ _ vs hl hr=>exact RD vs rfl bq ⟨hl,hr⟩
 ·cases uG with
  | hJ _ _ vs hl hr =>
   refine ⟨vs++c.args.toList.map a.eval,?_,bR.append ⟨hl,hr⟩ du⟩
   have:(vs++List.map a.eval c.args.toList).toArray=vs.toArray++c.args.map a.eval:=by rw [←bM]; simp
   rw [this]
   simp [execOp,ho,resolve,hc,hx,Deferred.ofValue,invoke,gf hf]
 ·cases uG with | dv hd=>cases hd with | fn _ _ vs hl hr=>exact RD vs rfl _ (gM ⟨hl,hr⟩)
theorem ry {F:Fence} (hF:fT F) {f:Nat} {a:Act} {w:World} {args:Array Value} {K:Act→World→Prop} (hd:∀c,o.op ≠ .defer c) (bc:(execOp a.eval o).run P w=.ok (.enter f args) w)
  (hc:Calls P f args w fun e w'=>∃v,e=.returned v∧K (a.put o.dst v) w'):o.wpIn F 0 P a w K (fun _ _ _=>False):=by
 refine ⟨fun f _=>hF.fn f,?_⟩
 rw [Oper.semAt_plain F _ _ hd,bc,Oper.uponIn_enter]
 refine ⟨fun h=>(by rw [hF.depth] at h; cases h),hF.calls.2 (hc.mono ?_)⟩
 rintro e w' ⟨v,rfl,hk⟩
 exact hk
def TF (κ:Nat→ao) (gd:Bool) (v:AV) (d:DV) (ids:List Nat):Prop :=
 gd=true→∀κ' G w x,(∀i,i∈ids→κ' i=κ i)→Fit G w κ'→aE G v x→∀M',Mem.Le G.M M'→(∀i,i∈ids→∀b,bI G i (κ' i) b→M' b=w.heap[b]?)→bk M' d x
def DK (κ:Nat→ao) (gd:Bool) (l:List AV) (ds:List DV) (ids:List Nat):Prop :=
 gd=true→∀κ' G w xs,(∀i,i∈ids→κ' i=κ i)→Fit G w κ'→bR G l xs→∀M',Mem.Le G.M M'→(∀i,i∈ids→∀b,bI G i (κ' i) b→M' b=w.heap[b]?)→eQ M' ds xs
theorem zh {v:AV} {q:DV→List Nat→Prop} (h:DL κ gd v q):∃d ids,q d ids∧TF κ gd v d ids:=by
 unfold DL at h
 split at h
 ·rename_i d
  refine ⟨d,[],h,fun _ κ' G w x _ _ hv M' hle _=>?_⟩
  cases hv with | dv hv=>exact hv.mono hle
 ·rename_i i ver ep p
  split at h
  ·rename_i aY bG d hk
   cases hb:Nat.beq ver aY && (emp p || Nat.beq ep bG) with
   | false=>rw [hb] at h; exact h.elim
   | true =>
    rw [hb] at h
    simp only [cond_true] at h
    obtain ⟨rfl,dk⟩:=di hb
    obtain ⟨nd,h,c8⟩:=bB h
    cases ho:nd.af with
    | false=>rw [ho] at h; exact h.elim
    | true =>
     rw [ho] at h
     refine ⟨sL nd,[i],h,fun aN κ' G w x au hf hv M' hle hM=>?_⟩
     have he:=au i (by simp)
     have dJ:=hf.box i
     rw [he,hk] at dJ
     cases hv with | own _ _ _ _ _ hh hc =>
     rw [cK dk] at hh
     exact dJ.1.frozen hle (fun b hb=>hM i (by simp) b (by rw [he,hk]; exact hb)) (SizeOf.sizeOf nd+1) p nd x (by omega) (c8 aN) ho hh
  ·exact h.elim
 ·refine ⟨_,[],h,fun _ κ' G w x _ _ hv M' hle _=>?_⟩
  cases hv with | fn _ _ vs hl hr =>
  have:vs=[]:=by simpa using hl.symm
  subst this
  exact .fn _ [] [] rfl (by simp)
 ·exact ⟨_,[],h.2,fun aN=>by rw [h.1] at aN; cases aN⟩
theorem DK.cons {v:AV} {l:List AV} {d:DV} {ds:List DV} {i j:List Nat} (h:TF κ gd v d i) (h':DK κ gd l ds j):DK κ gd (v::l) (d::ds) (i++j):=by
 intro aN κ' G w xs au hf hr M' hle hM
 match xs,hr with
 | [],hr=>have:=hr.1; simp at this
 | x::xs,hr =>
  refine .cons (h aN κ' G w x (fun q hq=>au q (by simp [hq])) hf (hr.2 0 v x rfl rfl) M' hle fun q hq=>hM q (by simp [hq])) ?_
  exact h' aN κ' G w xs (fun q hq=>au q (by simp [hq])) hf ⟨by simpa using hr.1,fun q e y he hy=>hr.2 (q+1) e y (by simpa using he) (by simpa using hy)⟩ M' hle fun q hq=>hM q (by simp [hq])
theorem DK.nil:DK κ gd [] [] []:=by
 intro aN κ' G w xs au hf hr M' hle hM
 have:xs=[]:=by have:=hr.1; simpa using this.symm
 subst this; exact .nil _
theorem sM {v:AV} {q:DV→List Nat→Prop} (h:IZ κ gd v q):∃d ids,q d ids∧TF κ gd v d ids:=by
 obtain ⟨d,ids,h1,h2⟩:=zh (v:=dn v) h
 exact ⟨d,ids,h1,fun aN κ' G w x au hf hv M' hle hM=>h2 aN κ' G w x au hf (xU hv) M' hle hM⟩
theorem pZ:∀{l:List AV} {q:List DV→List Nat→Prop},DM κ gd l q→∃ds ids,q ds ids∧DK κ gd l ds ids
 | [],q,h=>⟨[],[],h,.nil⟩
 | v::l,q,h=>by
  obtain ⟨d,i,h,h1⟩:=sM h
  obtain ⟨ds,j,h,h2⟩:=pZ h
  exact ⟨_,_,h,.cons h1 h2⟩
theorem DN {v:AV} {q:DV→List Nat→Prop} (h:O6 κ gd v q):∃d ids,q d ids∧TF κ gd v d ids:=by
 unfold O6 at h
 split at h
 ·rename_i l
  cases hc:bQ l with
  | false=>rw [hc] at h; exact h.elim
  | true =>
   rw [hc] at h
   obtain ⟨ds,ids,h,h1⟩:=pZ h
   refine ⟨_,_,h,fun aN κ' G w x au hf hv M' hle hM=>?_⟩
   cases hv with | agg _ vs hl hr =>
   have h2:=h1 aN κ' G w vs au hf ⟨hl,hr⟩ M' hle hM
   exact .agg ds vs h2.1 (oX (G':={ G with M:=M' }) h2 (bR.cJ ⟨hl,hr⟩ hc)) h2.2
 ·exact sM h
theorem sN:∀{l:List AV} {q:List DV→List Nat→Prop},Bk κ gd l q→∃ds ids,q ds ids∧DK κ gd l ds ids
 | [],q,h=>⟨[],[],h,.nil⟩
 | v::l,q,h=>by
  obtain ⟨d,i,h,h1⟩:=DN h
  obtain ⟨ds,j,h,h2⟩:=sN h
  exact ⟨_,_,h,.cons h1 h2⟩
theorem Bl {av:AV} {rd:List Nat} (hg:bL ρ ops o.guard=some gd) (hk:aR n o gd nx k av rd)
  (h:∀ρ' κ',A8 ops o ρ ρ' κ κ' rd []→∀(F:Fence),fT F→∀(g:dy) (a:Act) (w:World) (G:Gh),bZ g n ρ' κ' a w G→gd=true→∀(K:Act→World→Prop),
   (∀v w' G',bZ g n ρ' κ' a w' G'→aE G' av v→K (a.put o.dst v) w')→o.wpIn F 0 P a w K (fun _ _ _=>False)):Good P C ops n o nx ρ κ k:=by
 unfold aR at hk
 split at hk
 ·rename_i je hn
  refine ⟨_,_,hk,Nat.le_refl _,by simp,fun F hF ρ' κ' au g a w dh ⟨G,ai⟩=>?_⟩
  have qa:gd=true:=by rw [hn] at hg; injection hg with hg; exact hg.symm
  unfold km
  rw [cf hg au.bt ai,qa,if_pos rfl]
  exact h ρ' κ' au F hF g a w G ai qa _ fun v w' G' h1 h2=>⟨G',by rw [je]; exact h1⟩
 ·exact hk.elim
 ·rename_i d je hn
  cases aJ:Nat.blt d n with
  | false=>rw [aJ] at hk; exact hk.elim
  | true =>
   rw [aJ] at hk
   have gh:d<n:=by rw [Nat.blt_eq] at aJ; exact aJ
   refine ⟨_,_,hk,Nat.le_refl _,by simp,fun F hF ρ' κ' au g a w dh ⟨G,ai⟩=>?_⟩
   have qa:gd=true:=by rw [hn] at hg; injection hg with hg; exact hg.symm
   unfold km
   rw [cf hg au.bt ai,qa,if_pos rfl]
   exact h ρ' κ' au F hF g a w G ai qa _ fun v w' G' h1 h2=>⟨G',by rw [je]; exact h1.put gh h2⟩
 ·rename_i d j je hn
  cases aJ:Nat.blt d n with
  | false=>rw [aJ] at hk; exact hk.elim
  | true =>
   rw [aJ] at hk
   have gh:d<n:=by rw [Nat.blt_eq] at aJ; exact aJ
   refine ⟨_,_,hk,Nat.le_refl _,by simp,fun F hF ρ' κ' au g a w dh ⟨G,ai⟩=>?_⟩
   unfold km
   rw [cf hg au.bt ai]
   cases gd with
   | true =>
    rw [if_pos rfl]
    exact h ρ' κ' au F hF g a w G ai rfl _ fun v w' G' h1 h2=>⟨G',by rw [je]; exact h1.put gh (.opt true av v (fun _=>h2) (by simp))⟩
   | false =>
    simp only [Bool.false_eq_true,if_false,je]
    exact ⟨G,ai.put gh (.opt false av undef (by simp) (fun _=>rfl))⟩
theorem jr.Bm {f:Nat} {ds rs:List DV} (h:jr P f ds rs):hZ P f:=by obtain ⟨_,_,h,_⟩:=h; exact h
open Classical in
noncomputable def lr (G:Gh) (w:World) (κ:Nat→ao) (ids:List Nat):Mem:=fun b=>if ∃i,i∈ids∧bI G i (κ i) b then w.heap[b]? else G.M b
theorem DO {G:Gh} {w:World} {κ:Nat→ao} {ids:List Nat} (hf:Fit G w κ):(lr G w κ ids).In w:=by
 intro b x hb
 unfold lr at hb
 split at hb
 ·exact hb
 ·exact hf.sub b x hb
theorem uH {G:Gh} {w:World} {κ:Nat→ao} {ids:List Nat} (hf:Fit G w κ):Mem.Le G.M (lr G w κ ids):=by
 intro b x hb
 unfold lr
 split
 ·rename_i h; obtain ⟨i,_,ho⟩:=h; rw [hf.own i b ho] at hb; cases hb
 ·exact hb
theorem Bn {G:Gh} {w:World} {κ:Nat→ao} {ids:List Nat} {i b:Nat} (hi:i∈ids) (ho:bI G i (κ i) b):lr G w κ ids b=w.heap[b]?:=by
 unfold lr
 rw [if_pos ⟨i,hi,ho⟩]
theorem I0 {f:Nat} {l:List AV} (hn:∀i,nx≤i→κ i=.none) (hg:bL ρ ops o.guard=some gd) (br:ru P ops o ρ κ gd f l) (h:uI P n o nx κ gd k f l):Good P C ops n o nx ρ κ k:=by
 have RE:(Bk κ gd l fun ds ids=>∃rs,(gd=true→jr P f ds rs)∧uJ rs=true∧aR n o gd nx k (uK rs) ids)→Good P C ops n o nx ρ κ k:=by
  intro h
  obtain ⟨ds,ids,⟨rs,hc,Mc,hk⟩,hb⟩:=sN h
  refine Bl hg hk fun ρ' κ' au F hF g a w G ai aN K hK=>?_
  obtain ⟨es,hle,TG,tL⟩:=hc aN
  obtain ⟨vs,bc,du⟩:=br.2 ρ' κ' _ _ au g n a w G ai aN TG
  have hd:=hle.L7 (hb aN κ' G w vs au.reads ai.fit du (lr G w κ' ids) (uH ai.fit) (fun i hi b ho=>Bn hi ho))
  refine ry hF br.1 bc ((tL w _ vs (DO ai.fit) ((ai.oh.mono ai.mem).mono (uH ai.fit)) hd).mono ?_)
  rintro e w' ⟨v,M',rfl,Md,Me,eo,xd,rz⟩
  refine ⟨v,rfl,?_⟩
  have hM:∀b,(if b<w.heap.size then G.M b else M' b)=(fun b=>if b<w.heap.size then G.M b else M' b) b:=fun _=>rfl
  obtain ⟨h1,h2⟩:=ai.grown (w':=w') (M':=fun b=>if b<w.heap.size then G.M b else M' b) Md
   (fun b x hx=>by
    have aJ:b<w.heap.size:=(Array.getElem?_eq_some_iff.1 (ai.fit.sub b x hx)).1
    simp only [if_pos aJ]; exact hx)
   (fun b x hx=>by
    by_cases aJ:b<w.heap.size
    ·simp only [if_pos aJ] at hx; rw [Md.block b aJ]; exact ai.fit.sub b x hx
    ·simp only [if_neg aJ] at hx; exact eo b x hx)
   (fun b hb=>by simp only [if_pos hb])
  exact hK v w' _ h1 (FJ (I1 Mc rz))
 have FK:∀{ds:List DV} {rs:List DV} {ids:List Nat} {κ':Nat→ao} {g:dy} {a:Act} {w:World} {G:Gh} {F:Fence} {ρ':Nat→AV} {vs:List Value} {K:Act→World→Prop},fT F→jr P f ds rs→bZ g n ρ' κ' a w G→eQ G.M ds vs→(execOp a.eval o).run P w=.ok (.enter f vs.toArray) w →
   (∀v w' G',bZ g n ρ' κ' a w' G'→aE G' (uK rs) v→K (a.put o.dst v) w')→o.wpIn F 0 P a w K (fun _ _ _=>False):=by
  intro ds rs ids κ' g a w G F ρ' vs K hF hc ai hd bc hK
  obtain ⟨es,hle,TG,tL⟩:=hc
  refine ry hF br.1 bc ((tL w _ vs ai.fit.sub (ai.oh.mono ai.mem) (hle.L7 hd)).mono ?_)
  rintro e w' ⟨v,M',rfl,Md,Me,eo,xd,rz⟩
  refine ⟨v,rfl,?_⟩
  obtain ⟨h1,h2⟩:=ai.grown Md Me eo xd
  exact hK v w' _ h1 (FJ rz)
 unfold uI at h
 split at h
 ·rename_i ds DP
  obtain ⟨rs,hc,hk⟩:=h
  refine Bl hg hk fun ρ' κ' au F hF g a w G ai aN K hK=>?_
  obtain ⟨vs,bc,du⟩:=br.2 ρ' κ' _ _ au g n a w G ai aN (hc aN).Bm
  exact FK (ids:=[]) hF (hc aN) ai (iT (κ:=κ) (κ':=κ') (w:=w) (all:=[]) (by simp) (Gh.Le.refl G) (by simpa [jV,aw] using ai.fit) DP (by simp) du) bc hK
 ·rename_i ds ids bD DP
  rcases h with h | ⟨rs,hc,hk⟩
  ·exact RE h
  ·refine FL br.1 hg hk (Nat.le_refl _) (fun p hp=>rA hn hp) fun ρ' κ' au F hF g a w G dh ai aN K hK=>?_
   obtain ⟨vs,bc,du⟩:=br.2 ρ' κ' _ _ au g n a w G ai aN (hc aN).Bm
   obtain ⟨G1,f1,f2,f3,f4,f5⟩:=ai.nS (κ:=κ) ids au.reads
   exact FK (ids:=[]) hF (hc aN) f5 (iT au.reads f1 f5.fit DP (fun i hi=>hi) du) bc hK
 ·exact RE h
end
end Go.TM
