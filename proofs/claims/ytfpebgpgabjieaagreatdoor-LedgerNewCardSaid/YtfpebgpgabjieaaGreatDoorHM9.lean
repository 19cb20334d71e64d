import Derived.Test.YtfpebgpgabjieaaGreatDoorHM8
import Derived.Laws.BytesString
set_option linter.all false
namespace Go.TM
section
open Go.RowKit
variable [cy]
section
variable {P:Program} {C:eb->Prop} {T:List TI} {ops:List Oper} {n:Nat} {o:Oper} {nx:Nat} {ρ:Nat->AV} {κ:Nat->ax} {k:lK->Nat->Prop} {gd:Bool}
def zA(ρ:Nat->AV)(κ:Nat->ax)(g:Bool):Option Operand->Option Int->Prop
 |none,none=>True
 |some x,some n=>bH ρ κ g x (.dv (.int .i64 n))
 |_,_=>False
theorem BH{x:Option Operand}{q:Option Int->Prop}(h:exI ρ κ gd x q):∃b,q b/\zA ρ κ gd x b:=by
 unfold exI at h
 split at h
 ·exact⟨none,h,tv⟩
 ·obtain⟨v,h,hv⟩:=aL h
  split at h
  ·rename_i m;exact⟨some m,h,hv⟩
  ·exact h.elim
theorem zA.val{ρ':Nat->AV}{κ':Nat->ax}{g:eb}{a:Act}{w:World}{G:Gh}{x:Option Operand}{b:Option Int}(h:zA ρ κ gd x b)(aq:cE g n ρ' κ' a w G)(aU:gd=true)(aA:∀y,x=some y->I3 ρ ρ' κ κ' y):x.map a.eval=b.map (Value.int .i64):=by
 cases x with
 |none=>cases b with
  |none=>rfl
  |some=>exact h.elim
 |some y=>cases b with
  |none=>exact h.elim
  |some m=>
   have hv:=h ρ' κ' (aA y rfl) g n a w G aq aU
   simp only[Option.map_some]
   generalize a.eval y=v at hv
   cases hv with|dv hv=>cases hv with|int=>rfl
theorem sj{w:World}{isSl:Bool}{len cap:Nat}{lo hi:Option Int}(h1:0<=lo.getD 0)(h2:lo.getD 0<=hi.getD len)(h3:hi.getD len<=len)(h4:len<=cap):
 (Instr.sliceBounds isSl len cap (lo.map (Value.int .i64)) (hi.map (Value.int .i64)) none).run P w=.ok ((lo.getD 0).toNat,(hi.getD len).toNat,cap) w:=by
 cases lo with
 |none=>
  cases hi with
  |none=>simp[Instr.sliceBounds]
  |some h=>
   simp only[Option.getD_some,Option.getD_none]at*
   have:0<=h/\h<=(cap:Int):=by omega
   simp[Instr.sliceBounds,Instr.sliceBound,asIntOf,this]
 |some l=>
  cases hi with
  |none=>
   simp only[Option.getD_some,Option.getD_none]at*
   have:0<=l/\l<=(len:Int):=by omega
   simp[Instr.sliceBounds,Instr.sliceBound,asIntOf,this]
  |some h=>
   simp only[Option.getD_some]at*
   have h5:0<=h/\h<=(cap:Int):=by omega
   have h6:0<=l/\l<=h:=by omega
   have h7:(max h 0:Int)=h:=by omega
   simp[Instr.sliceBounds,Instr.sliceBound,asIntOf,h5,h6,h7]
theorem aO{c:Bool}{p:Prop}(h:bif c then p else False):c=true/\p:=by cases c<;>simp_all
theorem cE.cut{g:eb}{κ' κ2:Nat->ax}{a:Act}{w:World}{G:Gh}(aq:cE g n ρ κ' a w G){i ver cu sz:Nat}{xs:List DV}(gQ:κ' i=.tree ver cu (.aI sz xs)){L H:Int}(b1:0<=L)(b2:L<=H)(b3:H<=xs.length)
 (h1:κ2 i=.tree (ver+1) 0 (.aI sz ((xs.take H.toNat).drop L.toNat))) (h3:∀j,j≠i->κ2 j=κ' j) {v0:Value} (GZ:aS G.H i ver cu []=some v0):
 ∃A cap,v0=.slice A xs.length cap/\xs.length<=cap/\∃G',cE g n ρ κ2 a w G'/\aK G' (.own i (ver+1) 0 []) (.slice (if cap=L.toNat then A else A.map (·.add (L.toNat*sz))) (H.toNat-L.toNat) (cap-L.toNat)):=by
 have fF:=aq.fit.box i
 rw[gQ]at fF
 obtain⟨ht,jm,Lf,Rn⟩:=fF
 obtain⟨v0',vY,zO,bo⟩:=ht.2 [] _ rfl rfl
 rw[GZ]at vY;injection vY with vY;subst vY
 have vY:=GZ
 have hlen:((xs.take H.toNat).drop L.toNat).length=H.toNat-L.toNat:=by simp;omega
 let hN:Value->List PS->Option Value:=fun v' q=>match q with
  |[]=>some v'
  |.el i' j::r=>aS G.H i ver cu (.el (i'+L.toNat) j::r)
  |_=>none
 have fin:∀v':Value,v'.oneCell'=true->(∀b,c5 v'=some b->c5 v0=some b)->cR G.M w v' (fun s=>hN v' ([]++[s])) (.aI sz ((xs.take H.toNat).drop L.toNat))->
  ∃G',cE g n ρ κ2 a w G'/\aK G' (.own i (ver+1) 0 []) v':=by
  intro v' DM hbl GC
  have Bd:∀i' j c,step (.aI sz ((xs.take H.toNat).drop L.toNat)) (.el i' j)=some c->step (.aI sz xs) (.el (i'+L.toNat) j)=some c:=by
   intro i' j c hc
   simp only[step]at hc⊢
   rw[List.getElem?_drop,List.getElem?_take]at hc
   by_cases e:L.toNat+i'<H.toNat
   ·rw[if_pos e,Nat.add_comm]at hc;exact hc
   ·rw[if_neg e]at hc;cases hc
  have el:∀s c,step (.aI sz ((xs.take H.toNat).drop L.toNat)) s=some c->∃i' j,s=.el i' j:=by
   intro s c gH
   cases s with
   |el i' j=>exact⟨i',j,rfl⟩
   |key=>simp[step]at gH
  obtain⟨m1,m2,m3⟩:=br.rR (w:=w) (w':=w) (h:=RY) (h':=hN v') (p:=[]) (n:=.aI sz []) (n':=.aI sz ((xs.take H.toNat).drop L.toNat)) (v:=.slice none 0 0) (v':=v') (fun _=>True) (zq G.M w _) (DL _) rfl rfl rfl rfl rfl DM (.inl rfl) GC
   (fun q hq=>absurd (List.nil_prefix) hq) (fun s c _ _ hN=>absurd trivial hN)
   (fun s c gH Fp _=>by
    obtain⟨i',j,rfl⟩:=el s c gH
    have YY:get (.aI sz xs) [.el (i'+L.toNat) j]=some c:=by simp[get,Bd i' j c gH]
    refine⟨ht.sub YY Fp,jm.sub YY,fun b hb=>⟨fun h=>kK h,fun fD=>?_⟩⟩
    obtain⟨q,m,uu,c1,c2,c3,c4⟩:=hb
    have:=jm [] (.el (i'+L.toNat) j::q) _ m v0 uu b rfl rfl vY (hbl b fD) (by simp only[get,Bd i' j c gH];exact c1) c2 c3 c4
    cases this)
   (fun s s' c c' b ku R4 _ lH Nw _ ji ct=>by
    obtain⟨i1,j1,rfl⟩:=el s c ku
    obtain⟨i2,j2,rfl⟩:=el s' c' lH
    obtain⟨q,m,uu,c1,c2,c3,c4⟩:=ji
    obtain⟨q',m',uu',d1,d2,d3,d4⟩:=ct
    have:=jm (.el (i1+L.toNat) j1::q) (.el (i2+L.toNat) j2::q') m m' uu uu' b (by simp only[get,Bd i1 j1 c ku];exact c1) c2 c3 c4 (by simp only[get,Bd i2 j2 c' lH];exact d1) d2 d3 d4
    injection this with e1 _
    injection e1 with e1 e2
    have:i1=i2:=by omega
    rw[this,e2])
   (fun b hb=>.inr fun h=>kK h) (fun b h=>(kK h).elim)
  obtain⟨G',g1,g2,_,g4,_,_,g7⟩:=aq.lX (κ':=κ2) (w':=w) (i:=i) (ver:=ver+1) (ep:=0) (d:=.aI sz ((xs.take H.toNat).drop L.toNat)) (fun _=>False) (hN v') (fun h=>h.elim) (.inr ⟨ver,cu,_,gQ,by omega,by omega⟩) (fun _ h=>h.elim) h1 (fun j hj _=>h3 j hj)
   (fun q y hy=>by cases q<;>simp[aS,Lf (ver+1) (by omega)]at hy) m1 m2
   (fun b hb=>by
    rcases m3 b hb with h5|h5|⟨s,c,s1,s2,_,s4⟩
    ·exact(kK h5).elim
    ·exact .inr (.inl (by rw[gQ];exact⟨[],_,v0,rfl,rfl,vY,hbl b h5⟩))
    ·obtain⟨i',j,rfl⟩:=el s c s1
     have YY:get (.aI sz xs) [.el (i'+L.toNat) j]=some c:=by simp[get,Bd i' j c s1]
     exact .inr (.inl (by rw[gQ];exact bN.sub (p:=[.el (i'+L.toNat) j]) YY s4)))
   (fun _ _ _ _=>rfl) (fun b hb=>by
    rcases hb with h5|⟨_,h5,_⟩
    ·exact aq.fit.own i b h5
    ·exact h5.elim) (adM _) rfl rfl rfl
  exact⟨G',g7,.own _ _ _ _ _ ((g4 []).trans rfl) DM⟩
 rcases bo with⟨rfl,rfl⟩|⟨gb,ob,cap,c,tt,rfl,eP,hw,Fz,tV⟩
 ·simp at b3
  have hL:L=0:=by omega
  have hH:H=0:=by omega
  subst hL;subst hH
  refine⟨none,0,rfl,adM _,?_⟩
  simpa using fin (.slice none 0 0) rfl (by simp[c5]) (.inl ⟨by simp,rfl⟩)
 ·refine⟨_,_,rfl,eP,fin _ rfl ?_ ?_⟩
  ·intro b hb
   split at hb
   ·exact hb
   ·simp only[Option.map_some,c5,eW]at hb;exact hb
  ·by_cases e:cap=L.toNat
   ·have x4:(xs.take H.toNat).drop L.toNat=[]:=List.eq_nil_of_length_eq_zero (by rw[hlen];omega)
    rw[if_pos e,x4]
    rw[show cap-L.toNat=0 by omega,show H.toNat-L.toNat=0 by omega]
    refine .inr ⟨gb,ob,0,c,tt,rfl,by simp,hw,by omega,by simp⟩
   ·rw[if_neg e]
    refine .inr ⟨gb,ob+L.toNat*sz,cap-L.toNat,c,tt,by simp only[Option.map_some,eW];rw[hlen],by rw[hlen];omega,hw,?_,fun i' y hy=>?_⟩
    ·have:L.toNat*sz+(cap-L.toNat)*sz=cap*sz:=by rw[<-Nat.add_mul];congr 1;omega
     omega
    ·rw[List.getElem?_drop,List.getElem?_take]at hy
     split at hy
     ·obtain⟨c1,c2⟩:=tV _ y hy
      refine⟨c1,fun j d' lP=>?_⟩
      obtain⟨d1,uu,d2,d3⟩:=c2 j d' lP
      refine⟨d1,uu,?_,?_⟩
      ·rw[<-d2];congr 1;rw[Nat.add_mul];omega
      ·show dM G.M (aS G.H i ver cu [.el (i'+L.toNat) j]) d' uu
       rw[Nat.add_comm];exact d3
     ·cases hy
theorem BI(hT:fB P T){t:Nat}{x:Operand}{l h:Option Operand}{v:AV}{lo hi:Option Int}(hg:cn ρ ops o.guard=some gd)(ho:o.op=.slice t x l h none)(hn:∀i,nx<=i->κ i=.none)
 (cI:(nth T t).ok=true) (gP:((nth T t).isSl&&(nth T (nth T t).elem).ok||(nth T t).isStr)=true) (hx:bH ρ κ gd x v) (hl:zA ρ κ gd l lo) (hh:zA ρ κ gd h hi)
 (hk:lW (nth T t) (nth T (nth T t).elem).size κ gd v lo hi (fun v=>bj n o gd nx k v []) (fun v bx rd=>dU n o nx k v bx rd)):Good P C ops n o nx ρ κ k:=by
 obtain⟨ti,u,z,tf⟩:=hT.facts cI
 have ec:∀c,o.op≠.defer c:=fun c=>by rw[ho];simp
 have mx:x∈o.op.operands:=by rw[ho];simp[Op.operands]
 have ml:∀y,l=some y->y∈o.op.operands:=fun y hy=>by rw[ho,hy];simp[Op.operands]
 have mh:∀y,h=some y->y∈o.op.operands:=fun y hy=>by rw[ho,hy];simp[Op.operands]
 have cut:∀{w:World} {a:Act} {A:Option Addr} {len cap:Nat},(nth T t).isSl=true->a.eval x=.slice A len cap->l.map a.eval=lo.map (Value.int .i64)->h.map a.eval=hi.map (Value.int .i64)->0<=lo.getD 0->lo.getD 0<=hi.getD len->hi.getD len<=len->len<=cap->(nth T (nth T t).elem).ok=true->
  (execOp a.eval o).run P w=.ok (.value (.slice (if cap=(lo.getD 0).toNat then A else A.map (·.add ((lo.getD 0).toNat*(nth T (nth T t).elem).size))) ((hi.getD len).toNat-(lo.getD 0).toNat) (cap-(lo.getD 0).toNat))) w:=by
  intro w a A len cap hs xc hle Ae h1 h2 h3 h4 vZ
  obtain⟨te,ue,ze,jo⟩:=hT.facts vZ
  have hb:=sj (P:=P) (w:=w) (isSl:=true) (len:=len) (cap:=cap) h1 h2 h3 h4
  have zI:=jo.gl w
  simp[execOp,ho,Instr.sliceAt,Instr.slice,run_underlying (tf.slice hs),xc,hle,Ae,hb,zI]
 unfold lW at hk
 split at hk
 ·rename_i sz xs
  cases qJ:(nth T t).isSl&&Nat.beq sz (nth T (nth T t).elem).size with
  |false=>rw[qJ]at hk;exact hk.elim
  |true=>
  rw[qJ]at hk
  obtain⟨JH,hk⟩:=hk
  simp only[adT]at qJ
  obtain⟨hs,SC⟩:=qJ
  have:=adm SC
  subst this
  have vZ:(nth T (nth T t).elem).ok=true:=by
   simp only[Bool.or_eq_true,adT]at gP
   rcases gP with h5|h5
   ·exact h5.2
   ·exfalso
    have q1:=tf.isSl;have q2:=tf.isStr
    rw[hs]at q1;rw[h5]at q2
    cases u<;>simp[L0,strOf]at q1 q2
  refine bu ec hg hk fun ρ' κ' aA g a w G aq aU=>?_
  have hv:=hx ρ' κ' (aA.op mx) g n a w G aq aU
  have hle:=hl.val aq aU (fun y hy=>aA.op (ml y hy))
  have Ae:=hh.val aq aU (fun y hy=>aA.op (mh y hy))
  obtain⟨b1,b2,b3⟩:=JH aU
  generalize xc:a.eval x=q at hv
  cases hv with|dv hv=>
  generalize oJ:lo.getD 0=L at b1 b2 b3⊢
  generalize KO:hi.getD (xs.length:Int)=H at b1 b2 b3⊢
  have hlen:((xs.take H.toNat).drop L.toNat).length=H.toNat-L.toNat:=by simp;omega
  cases hv with
  |slnil=>
   simp at b3 KO
   have hL:L=0:=by omega
   have hH:H=0:=by omega
   subst hL;subst hH
   refine⟨_,cut hs xc hle Ae (by rw[oJ];omega) (by rw[oJ];simp[KO]) (by simp[KO]) (adM _) vZ,?_⟩
   rw[oJ]
   simp[KO]
   exact .dv (.slnil _)
  |sl _ _ A cap cell eP hlc hc hr=>
   refine⟨_,cut hs xc hle Ae (by rw[oJ];omega) (by rw[oJ,KO];omega) (by rw[KO];omega) eP vZ,.dv ?_⟩
   rw[oJ,KO]
   by_cases e:cap=L.toNat
   ·have x4:(xs.take H.toNat).drop L.toNat=[]:=List.eq_nil_of_length_eq_zero (by rw[hlen];omega)
    rw[if_pos e,x4,show H.toNat-L.toNat=0 by omega,show cap-L.toNat=0 by omega]
    exact .sl _ [] A 0 (fun _ _=>undef) (adM _) (by simp) (by simp) (by simp)
   ·rw[if_neg e]
    simp only[Option.map_some]
    rw[<-hlen]
    refine .sl _ _ _ _ (fun i j=>cell (L.toNat+i) j) (by rw[hlen];omega) (fun y hy=>hlc y (List.mem_of_mem_take (List.mem_of_mem_drop hy))) (fun i j hi hj=>?_) (fun i y j d hy hd=>?_)
    ·rw[cZ]
     have:=hc (L.toNat+i) j (by rw[hlen]at hi;omega) hj
     rw[Nat.add_mul]at this
     rw[show L.toNat*(nth T (nth T t).elem).size+(i*(nth T (nth T t).elem).size+j)=L.toNat*(nth T (nth T t).elem).size+i*(nth T (nth T t).elem).size+j by omega]
     exact this
    ·rw[List.getElem?_drop,List.getElem?_take]at hy
     split at hy
     ·exact hr _ y j d hy hd
     ·cases hy
 ·rename_i i ver ep
  split at hk
  ·rename_i bA cu d gQ
   cases hb:Nat.beq ver bA with
   |false=>rw[hb]at hk;exact hk.elim
   |true=>
   rw[hb]at hk
   simp only[cond_true]at hk
   have:=adm hb
   subst this
   cases d with
   |aI sz xs=>
    simp only at hk
    cases qJ:(nth T t).isSl&&Nat.beq sz (nth T (nth T t).elem).size with
    |false=>rw[qJ]at hk;exact hk.elim
    |true=>
    rw[qJ]at hk
    obtain⟨⟨b1,b2,b3⟩,hk⟩:=hk
    simp only[adT]at qJ
    obtain⟨hs,SC⟩:=qJ
    have:=adm SC
    subst this
    have vZ:(nth T (nth T t).elem).ok=true:=by
     simp only[Bool.or_eq_true,adT]at gP
     rcases gP with h5|h5
     ·exact h5.2
     ·exfalso
      have q1:=tf.isSl;have q2:=tf.isStr
      rw[hs]at q1;rw[h5]at q2
      cases u<;>simp[L0,strOf]at q1 q2
    have Vi:i<nx:=zw hn ⟨_,_,_,gQ⟩
    refine du ec hg hk (adM _) (by simpa using Vi) fun ρ' κ' aA g a w G dS aq aU=>?_
    have he:=aA.reads i (by simp)
    have hv:=hx ρ' κ' (aA.op mx) g n a w G aq aU
    have hle:=hl.val aq aU (fun y hy=>aA.op (ml y hy))
    have Ae:=hh.val aq aU (fun y hy=>aA.op (mh y hy))
    have fF:=aq.fit.box i
    rw[he,gQ]at fF
    obtain⟨ht,jm,Lf,Rn⟩:=fF
    obtain⟨v0,vY,zO,bo⟩:=ht.2 [] _ rfl rfl
    have xc:a.eval x=v0:=by
     generalize a.eval x=q at hv
     cases hv with|own _ _ _ _ _ hh' hc=>have:aS G.H i ver cu []=some q:=hh'
                                         rw[vY]at this;injection this with this;exact this.symm
    obtain⟨A,cap,rfl,eP,G',g7,hvr⟩:=aq.cut (κ2:=aF κ' [(i,.tree (ver+1) 0 (.aI (nth T (nth T t).elem).size ((xs.take (hi.getD xs.length).toNat).drop (lo.getD 0).toNat)))]) (he.trans gQ) b1 b2 b3 (by simp[aF]) (fun j hj=>by simp[aF,ah _ _ hj]) vY
    exact⟨_,w,G',.inl (cut hs xc hle Ae b1 b2 b3 eP vZ),g7,hvr⟩
   |_=>exact hk.elim
  ·exact hk.elim
 ·rename_i s
  cases jP:(nth T t).isStr with
  |false=>rw[jP]at hk;exact hk.elim
  |true=>
   rw[jP]at hk
   obtain⟨JH,hk⟩:=hk
   refine bu ec hg hk fun ρ' κ' aA g a w G aq aU=>?_
   have hv:=hx ρ' κ' (aA.op mx) g n a w G aq aU
   have hle:=hl.val aq aU (fun y hy=>aA.op (ml y hy))
   have Ae:=hh.val aq aU (fun y hy=>aA.op (mh y hy))
   obtain⟨b1,b2,b3⟩:=JH aU
   generalize xc:a.eval x=q at hv
   cases hv with|dv hv=>cases hv with|str=>
   have hb:=sj (P:=P) (w:=w) (isSl:=false) (len:=s.size) (cap:=s.size) b1 b2 b3 (adM _)
   refine⟨_,?_,.dv (.str _)⟩
   simp[execOp,ho,Instr.sliceAt,Instr.slice,run_underlying (tf.string jP),xc,hle,Ae,hb]
 ·exact hk.elim
theorem SD(hT:fB P T){t:Nat}{x:Operand}{l h:Option Operand}{v:AV}{lo hi:Option Int}(hg:cn ρ ops o.guard=some gd)(ho:o.op=.slice t x l h none)(hn:∀i,nx<=i->κ i=.none)
 (cI:(nth T t).ok=true) (gP:((nth T t).isSl&&(nth T (nth T t).elem).ok||(nth T t).isStr)=true) (hx:bH ρ κ gd x v) (hl:zA ρ κ gd l lo) (hh:zA ρ κ gd h hi)
 (hk:xX (nth T t) (nth T (nth T t).elem).size κ gd nx v lo hi (fun v rd=>bj n o gd nx k v rd) (fun v bx rd=>dU n o nx k v bx rd) (fun v bx rd=>dU n o (nx+1) k v bx rd)):Good P C ops n o nx ρ κ k:=by
 unfold xX at hk
 split at hk
 ·rename_i i ver ep p
  rcases hk with hk|hk|hk
  ·exact BI hT hg ho hn cI gP hx hl hh hk
  all_goals
   obtain⟨ti,u,z,tf⟩:=hT.facts cI
   have ec:∀c,o.op≠.defer c:=fun c=>by rw[ho];simp
   have mx:x∈o.op.operands:=by rw[ho];simp[Op.operands]
   have ml:∀y,l=some y->y∈o.op.operands:=fun y hy=>by rw[ho,hy];simp[Op.operands]
   have mh:∀y,h=some y->y∈o.op.operands:=fun y hy=>by rw[ho,hy];simp[Op.operands]
   have cut:∀{w:World} {a:Act} {A:Option Addr} {len cap:Nat},(nth T t).isSl=true->a.eval x=.slice A len cap->l.map a.eval=lo.map (Value.int .i64)->h.map a.eval=hi.map (Value.int .i64)->0<=lo.getD 0->lo.getD 0<=hi.getD len->hi.getD len<=len->len<=cap->(nth T (nth T t).elem).ok=true->
    (execOp a.eval o).run P w=.ok (.value (.slice (if cap=(lo.getD 0).toNat then A else A.map (·.add ((lo.getD 0).toNat*(nth T (nth T t).elem).size))) ((hi.getD len).toNat-(lo.getD 0).toNat) (cap-(lo.getD 0).toNat))) w:=by
    intro w a A len cap hs xc hle Ae h1 h2 h3 h4 vZ
    obtain⟨te,ue,ze,jo⟩:=hT.facts vZ
    have hb:=sj (P:=P) (w:=w) (isSl:=true) (len:=len) (cap:=cap) h1 h2 h3 h4
    have zI:=jo.gl w
    simp[execOp,ho,Instr.sliceAt,Instr.slice,run_underlying (tf.slice hs),xc,hle,Ae,hb,zI]
   have abH:(nth T t).isSl=true->(nth T (nth T t).elem).ok=true:=fun hs=>by
    simp only[Bool.or_eq_true,adT]at gP
    rcases gP with h5|h5
    ·exact h5.2
    ·exfalso
     have q1:=tf.isSl;have q2:=tf.isStr
     rw[hs]at q1;rw[h5]at q2
     cases u<;>simp[L0,strOf]at q1 q2
  ·unfold Kv at hk
   split at hk
   ·rename_i bA cu d gQ
    have hh:=aO hk;clear hk;obtain⟨hb,hk⟩:=hh
    obtain⟨rfl,fh⟩:=dJ hb
    obtain⟨nd,hk,acQ⟩:=b7 hk
    split at hk
    ·rename_i sz xs
     have hh:=aO hk;clear hk;obtain⟨ct,JH,hk⟩:=hh
     simp only[adT]at ct
     obtain⟨hs,SC⟩:=ct
     have:=adm SC
     subst this
     refine bu ec hg hk fun ρ' κ' aA g a w G aq aU=>?_
     have hv:=hx ρ' κ' (aA.op mx) g n a w G aq aU
     have hle:=hl.val aq aU (fun y hy=>aA.op (ml y hy))
     have Ae:=hh.val aq aU (fun y hy=>aA.op (mh y hy))
     obtain⟨b1,b2,b3⟩:=JH aU
     have acR:κ' i=.tree ver cu d:=(aA.reads i (by simp)).trans gQ
     obtain⟨u0,h1,_,bo⟩:=aq.fit.node acR (acQ aU) rfl
     generalize xc:a.eval x=q at hv
     cases hv with|own _ _ _ _ _ Zq hc=>
     have vY:=Zq
     rw[de fh,h1]at vY
     injection vY with vY
     subst vY
     rcases bo with⟨rfl,rfl⟩|⟨gb,ob,cap,cc,tt,rfl,eP,hw,acA,D4⟩
     ·have Nl:=cut (w:=w) hs xc hle Ae b1 (by simpa using b2) (by simpa using b3) (adM _) (abH hs)
      refine⟨_,Nl,?_⟩
      refine .pre _ _ _ _ _ _ _ _ _ fun dw=>?_
      simp at b3 dw;omega
     ·have Nl:=cut (w:=w) hs xc hle Ae b1 b2 b3 eP (abH hs)
      refine⟨_,Nl,?_⟩
      refine .pre _ _ _ _ _ _ _ _ _ fun dw=>⟨_,_,_,Zq,?_⟩
      rw[if_neg (by omega)]
      rfl
    ·exact hk.elim
   ·exact hk.elim
  ·exact hk.elim
 ·exact BI hT hg ho hn cI gP hx hl hh hk
theorem tn{sz:Nat}{l:List DV}(og:∀x,x∈l->x.aQ){p:List PS}{n:DV}(h:get (.aI sz l) p=some n)(ho:n.au=true):p=[]/\n=.aI sz l:=by
 cases p with
 |nil=>simp[get]at h;exact⟨rfl,h.symm⟩
 |cons s p=>
  exfalso
  simp only[get]at h
  cases s with
  |key k j=>simp[step]at h
  |el i j=>
   simp only[step]at h
   cases hm:l[i]? with
   |none=>rw[hm]at h;simp at h
   |some x=>
    rw[hm]at h
    simp only at h
    cases hc:x.cells[j]? with
    |none=>rw[hc]at h;simp at h
    |some c=>
     rw[hc]at h
     simp only at h
     have Fp:c.au=false:=og x (adl hm) c (adl hc)
     cases p with
     |nil=>simp[get]at h;subst h;rw[Fp]at ho;cases ho
     |cons s' p=>
      simp only[get]at h
      cases c<;>simp[step]at h<;>cases Fp
end
end
section
open Go.RowKit
variable [cy]
section
variable {P:Program} {C:eb->Prop} {T:List TI} {ops:List Oper} {n:Nat} {o:Oper} {nx:Nat} {ρ:Nat->AV} {κ:Nat->ax} {k:lK->Nat->Prop} {gd:Bool}
theorem iP{f:Nat}(hf:gS P f)(args:Array Value)(w:World):(callFunc f args).run P w=.ok (.enter f args) w:=by
 obtain⟨fn,h1,h2,h3⟩:=hf
 have h3':¬fn.body=none:=by grind
 simp_all [callFunc,Sem.run]
def uq(P:Program)(ops:List Oper)(o:Oper)(ρ:Nat->AV)(κ:Nat->ax)(gd:Bool)(f:Nat)(l:List AV):Prop:=
 (∀c,o.op≠.defer c)/\∀ρ' κ' rd bx,D2 ops o ρ ρ' κ κ' rd bx->∀(g:eb) (n:Nat) (a:Act) (w:World) (G:Gh),cE g n ρ' κ' a w G->gd=true->gS P f->
  ∃vs:List Value,(execOp a.eval o).run P w=.ok (.enter f vs.toArray) w/\cG G l vs
theorem vo{c:Call}{f:Nat}{l:List AV}(ho:o.op=.call c)(hc:c.callee=.value (.func f))(bP:lU ρ κ gd c.args.toList l):uq P ops o ρ κ gd f l:=by
 refine⟨fun c=>by grind,?_⟩
 intro ρ' κ' rd bx aA g n a w G aq aU hf
 have dp:(List.map a.eval c.args.toList).toArray=c.args.map a.eval:=by grind
 refine⟨_,?_,(lU.rel aq aU bP (fun x hx=>aA.op (by rw[ho];simp[Op.operands,hc];exact Array.mem_append.2 (.inr (by grind)))))⟩
 simp_all [execOp,resolve,Act.eval,Deferred.ofValue,invoke,iP]
theorem cG.append{G:Gh}{l l':List AV}{vs SU:List Value}(h:cG G l vs)(h':cG G l' SU):cG G (l++l') (vs++SU):=by
 refine⟨by simp[h.1,h'.1],fun j d v hd hv=>?_⟩
 rcases adC j l.length with aB|jw
 ·rw[List.getElem?_append_left aB]at hd
  rw[List.getElem?_append_left (by rwa[<-h.1])]at hv
  exact h.2 j d v hd hv
 ·rw[List.getElem?_append_right jw]at hd
  rw[List.getElem?_append_right (by rwa[<-h.1]),<-h.1]at hv
  exact h'.2 _ d v hd hv
theorem sn{c:Call}{f t:Nat}{l:List AV}{av:AV}(ho:o.op=.call c)(hc:c.callee=.value (.tmp t))(hv:bH ρ κ gd (.tmp t) av)(bP:lU ρ κ gd c.args.toList l){L:List AV}
 (hav:(∃bR,av=.fn f bR/\L=l++bR)\/(∃first,av=.kq f first/\L=first++l)\/(∃bR,av=.dv (.fn f bR)/\L=l++fp bR)):uq P ops o ρ κ gd f L:=by
 refine⟨fun c=>by grind,?_⟩
 intro ρ' κ' rd bx aA g n a w G aq aU hf
 have hrel:=lU.rel aq aU bP (fun x hx=>aA.op (by rw[ho];simp[Op.operands,hc];exact Array.mem_append.2 (.inr (by grind))))
 have qM:=hv ρ' κ' (aA.op (by rw[ho];simp only[Op.operands,Call.operands,hc];exact Array.mem_append.2 (.inl (by simp)))) g n a w G aq aU
 have dp:(List.map a.eval c.args.toList).toArray=c.args.map a.eval:=by grind
 generalize hx:a.eval _=x at qM
 have abI:∀(vs:List Value),x=.func (.func f) #[] vs.toArray->∀bR,cG G bR vs->∃us:List Value,(execOp a.eval o).run P w=.ok (.enter f us.toArray) w/\cG G (l++bR) us:=by
  rintro vs rfl bR jV
  refine⟨c.args.toList.map a.eval++vs,?_,hrel.append jV⟩
  grind [List.map,execOp,resolve,Deferred.ofValue,invoke,iP]
 rcases hav with⟨bR,rfl,rfl⟩|⟨first,rfl,rfl⟩|⟨bR,rfl,rfl⟩
 ·cases qM with|fn _ _ vs hl hr=>exact abI vs rfl bR ⟨hl,hr⟩
 ·cases qM with
  |kq _ _ vs hl hr=>
   refine⟨vs++c.args.toList.map a.eval,?_,cG.append ⟨hl,hr⟩ hrel⟩
   grind [List.map,execOp,resolve,Deferred.ofValue,invoke,iP]
 ·cases qM with|dv hd=>cases hd with|fn _ _ vs hl hr=>exact abI vs rfl _ (jC ⟨hl,hr⟩)
theorem ur{F:Fence}(hF:iN F){f:Nat}{a:Act}{w:World}{args:Array Value}{K:Act->World->Prop}(hd:∀c,o.op≠.defer c)(bG:(execOp a.eval o).run P w=.ok (.enter f args) w)
 (hc:Calls P f args w fun e w'=>∃v,e=.returned v/\K (a.put o.dst v) w'):o.wpIn F 0 P a w K (fun _ _ _=>False):=by
 refine⟨fun f _=>hF.fn f,?_⟩
 rw[Oper.semAt_plain F _ _ hd,bG,Oper.uponIn_enter]
 refine⟨fun h=>(by rw[hF.depth]at h;grind),hF.calls.2 (hc.mono ?_)⟩
 grind
def BOk(κ:Nat->ax)(gd:Bool)(v:AV)(d:DV)(ids:List Nat):Prop:=
 gd=true->∀κ' G w x,(∀i,i∈ids->κ' i=κ i)->Fit G w κ'->aK G v x->∀M',Mem.Le G.M M'->(∀i,i∈ids->∀b,cH G i (κ' i) b->M' b=w.heap[b]?)->bq M' d x
def Jk(κ:Nat->ax)(gd:Bool)(l:List AV)(ds:List DV)(ids:List Nat):Prop:=
 gd=true->∀κ' G w xs,(∀i,i∈ids->κ' i=κ i)->Fit G w κ'->cG G l xs->∀M',Mem.Le G.M M'->(∀i,i∈ids->∀b,cH G i (κ' i) b->M' b=w.heap[b]?)->fS M' ds xs
theorem D0{v:AV}{q:DV->List Nat->Prop}(h:IE κ gd v q):∃d ids,q d ids/\BOk κ gd v d ids:=by
 unfold IE at h
 split at h
 ·rename_i d
  refine⟨d,[],h,fun _ κ' G w x _ _ hv M' hle _=>?_⟩
  cases hv with|dv hv=>exact hv.mono hle
 ·rename_i i ver ep p
  split at h
  ·rename_i bA cu d hk
   cases hb:Nat.beq ver bA&&(emp p||Nat.beq ep cu)with
   |false=>grind
   |true=>
    rw[hb]at h
    obtain⟨rfl,fh⟩:=dJ hb
    obtain⟨nd,h,ec⟩:=b7 h
    cases ho:nd.au with
    |false=>grind
    |true=>
     rw[ho]at h
     refine⟨oT nd,[i],h,fun aU κ' G w x aA hf hv M' hle hM=>?_⟩
     have he:=aA i (by simp)
     have fF:=hf.box i
     rw[he,hk]at fF
     cases hv with|own _ _ _ _ _ hh hc=>
     rw[de fh]at hh
     exact fF.1.frozen hle (fun b hb=>hM i (by simp) b (by rwa[he,hk])) (SizeOf.sizeOf nd+1) p nd x (by omega) (ec aU) ho hh
  grind
 ·refine⟨_,[],h,fun _ κ' G w x _ _ hv M' hle _=>?_⟩
  cases hv with|fn _ _ vs hl hr=>
  have:=by simpa using hl.symm
  subst this
  exact .fn _ [] [] rfl (by simp)
 ·exact⟨_,[],h.2,fun aU=>by grind⟩
theorem Jk.cons{v:AV}{l:List AV}{d:DV}{ds:List DV}{i j:List Nat}(h:BOk κ gd v d i)(h':Jk κ gd l ds j):Jk κ gd (v::l) (d::ds) (i++j):=by
 intro aU κ' G w xs aA hf hr M' hle hM
 match xs,hr with
 |[],hr=>have:=hr.1;grind
 |x::xs,hr=>
  exact .cons (h aU κ' G w x (fun q hq=>aA q (by grind)) hf (hr.2 0 v x rfl rfl) M' hle fun q hq=>hM q (by grind)) (h' aU κ' G w xs (fun q hq=>aA q (by grind)) hf ⟨by simpa using hr.1,fun q e y he hy=>hr.2 (q+1) e y (by grind) (by grind)⟩ M' hle fun q hq=>hM q (by grind))
theorem Jk.nil:Jk κ gd [] [] []:=by
 intro aU κ' G w xs aA hf hr M' hle hM
 have:=by have:=hr.1;simpa using this.symm
 subst this;exact .nil _
theorem v7{v:AV}{q:DV->List Nat->Prop}(h:Qt κ gd v q):∃d ids,q d ids/\BOk κ gd v d ids:=by
 obtain⟨d,ids,h1,h2⟩:=D0 h
 exact⟨d,ids,h1,fun aU κ' G w x aA hf hv M' hle hM=>h2 aU κ' G w x aA hf (Aw hv) M' hle hM⟩
theorem tT:∀{l:List AV} {q:List DV->List Nat->Prop},IF κ gd l q->∃ds ids,q ds ids/\Jk κ gd l ds ids
 |[],q,h=>⟨[],[],h,.nil⟩
 |v::l,q,h=>by
  obtain⟨d,i,h,h1⟩:=v7 h
  obtain⟨ds,j,h,h2⟩:=tT h
  exact⟨_,_,h,.cons h1 h2⟩
theorem Jl{v:AV}{q:DV->List Nat->Prop}(h:Ya κ gd v q):∃d ids,q d ids/\BOk κ gd v d ids:=by
 unfold Ya at h
 split at h
 ·rename_i l
  cases hc:cq l with
  |false=>grind
  |true=>
   rw[hc]at h
   obtain⟨ds,ids,h,h1⟩:=tT h
   refine⟨_,_,h,fun aU κ' G w x aA hf hv M' hle hM=>?_⟩
   cases hv with|agg _ vs hl hr=>
   have h2:=h1 aU κ' G w vs aA hf ⟨hl,hr⟩ M' hle hM
   exact .agg ds vs h2.1 (se (G':={ G with M:=M' }) h2 (cG.dc ⟨hl,hr⟩ hc)) h2.2
 ·exact v7 h
theorem v8:∀{l:List AV} {q:List DV->List Nat->Prop},FV κ gd l q->∃ds ids,q ds ids/\Jk κ gd l ds ids
 |[],q,h=>⟨[],[],h,.nil⟩
 |v::l,q,h=>by
  obtain⟨d,i,h,h1⟩:=Jl h
  obtain⟨ds,j,h,h2⟩:=v8 h
  exact⟨_,_,h,.cons h1 h2⟩
theorem GP{av:AV}{rd:List Nat}(hg:cn ρ ops o.guard=some gd)(hk:bj n o gd nx k av rd)
 (h:∀ρ' κ',D2 ops o ρ ρ' κ κ' rd []->∀(F:Fence),iN F->∀(g:eb) (a:Act) (w:World) (G:Gh),cE g n ρ' κ' a w G->gd=true->∀(K:Act->World->Prop),
  (∀v w' G',cE g n ρ' κ' a w' G'->aK G' av v->K (a.put o.dst v) w')->o.wpIn F 0 P a w K (fun _ _ _=>False)):Good P C ops n o nx ρ κ k:=by
 unfold bj at hk
 split at hk
 ·rename_i lP hn
  refine⟨_,_,hk,adM _,by simp,fun F hF ρ' κ' aA g a w dS ⟨G,aq⟩=>?_⟩
  have sr:gd=true:=by rw[hn]at hg;injection hg with hg;grind
  unfold nC
  rw[cF hg aA.cx aq,sr,if_pos rfl]
  exact h ρ' κ' aA F hF g a w G aq sr _ fun v w' G' h1 h2=>⟨G',by rwa[lP]⟩
 ·grind
 ·rename_i d lP hn
  cases aB:Nat.blt d n with
  |false=>grind
  |true=>
   rw[aB]at hk
   refine⟨_,_,hk,adM _,by simp,fun F hF ρ' κ' aA g a w dS ⟨G,aq⟩=>?_⟩
   have sr:gd=true:=by rw[hn]at hg;injection hg with hg;grind
   unfold nC
   rw[cF hg aA.cx aq,sr,if_pos rfl]
   exact h ρ' κ' aA F hF g a w G aq sr _ fun v w' G' h1 h2=>⟨G',by rw[lP];exact h1.put (by simp_all) h2⟩
 ·rename_i d j lP hn
  cases aB:Nat.blt d n with
  |false=>grind
  |true=>
   rw[aB]at hk
   have ru:=by rwa[Nat.blt_eq]at aB
   refine⟨_,_,hk,adM _,by simp,fun F hF ρ' κ' aA g a w dS ⟨G,aq⟩=>?_⟩
   unfold nC
   rw[cF hg aA.cx aq]
   cases gd with
   |true=>
    rw[if_pos rfl]
    exact h ρ' κ' aA F hF g a w G aq rfl _ fun v w' G' h1 h2=>⟨G',by rw[lP];exact h1.put ru (.opt true av v (fun _=>h2) (by simp))⟩
   |false=>
    simp[lP]
    exact⟨G,aq.put ru (.opt false av undef (by simp) (fun _=>rfl))⟩
theorem lz.GQ{f:Nat}{ds rs:List DV}(h:lz P f ds rs):gS P f:=by obtain⟨_,_,h,_⟩:=h;grind
open Classical in
noncomputable def qF (G:Gh) (w:World) (κ:Nat->ax) (ids:List Nat):Mem:=fun b=>if ∃i,i∈ids/\cH G i (κ i) b then w.heap[b]? else G.M b
theorem Jm{G:Gh}{w:World}{κ:Nat->ax}{ids:List Nat}(hf:Fit G w κ):(qF G w κ ids).In w:=by
 intro b x hb
 unfold qF at hb
 split at hb
 ·grind
 ·exact hf.sub b x hb
theorem zB{G:Gh}{w:World}{κ:Nat->ax}{ids:List Nat}(hf:Fit G w κ):Mem.Le G.M (qF G w κ ids):=by
 intro b x hb
 unfold qF
 split
 ·rename_i h;obtain⟨i,_,ho⟩:=h;rw[hf.own i b ho]at hb;grind
 grind
theorem GR{G:Gh}{w:World}{κ:Nat->ax}{ids:List Nat}{i b:Nat}(hi:i∈ids)(ho:cH G i (κ i) b):qF G w κ ids b=w.heap[b]?:=by
 unfold qF
 rw[if_pos ⟨i,hi,ho⟩]
theorem SE{f:Nat}{l:List AV}(hn:∀i,nx<=i->κ i=.none)(hg:cn ρ ops o.guard=some gd)(bP:uq P ops o ρ κ gd f l)(h:y2 P n o nx κ gd k f l):Good P C ops n o nx ρ κ k:=by
 have adg:(FV κ gd l fun ds ids=>∃rs,(gd=true->lz P f ds rs)/\yH rs=true/\bj n o gd nx k (yG rs) ids)->Good P C ops n o nx ρ κ k:=by
  intro h
  obtain⟨ds,ids,⟨rs,hc,ou,hk⟩,hb⟩:=v8 h
  refine GP hg hk fun ρ' κ' aA F hF g a w G aq aU K hK=>?_
  obtain⟨es,hle,hcb,ns⟩:=hc aU
  obtain⟨vs,bG,hrel⟩:=bP.2 ρ' κ' _ _ aA g n a w G aq aU hcb
  refine ur hF bP.1 bG ((ns w _ vs (Jm aq.fit) ((aq.oW.mono aq.mem).mono (zB aq.fit)) (hle.S2 (hb aU κ' G w vs aA.reads aq.fit hrel _ (zB aq.fit) (fun i hi b ho=>GR hi ho)))).mono ?_)
  rintro e w' ⟨v,M',rfl,Vr,abJ,dz,zS,jy⟩
  refine⟨v,rfl,?_⟩
  have hM:∀b,(if b<w.heap.size then G.M b else M' b)=(fun b=>if b<w.heap.size then G.M b else M' b) b:=fun _=>rfl
  obtain⟨h1,h2⟩:=aq.grown (M':=fun b=>if b<w.heap.size then G.M b else M' b) Vr
   (fun b x hx=>by
    simp[if_pos ((adw.1 (aq.fit.sub b x hx)).1)];grind)
   (fun b x hx=>by
    by_cases aB:b<w.heap.size
    ·simp[if_pos aB]at hx;rw[Vr.block b aB];exact aq.fit.sub b x hx
    ·simp[if_neg aB]at hx;exact dz b x hx)
   (fun b hb=>by grind)
  exact hK v w' _ h1 (KW (Sq ou jy))
 have KZ:∀{ds:List DV} {rs:List DV} {ids:List Nat} {κ':Nat->ax} {g:eb} {a:Act} {w:World} {G:Gh} {F:Fence} {ρ':Nat->AV} {vs:List Value} {K:Act->World->Prop},iN F->lz P f ds rs->cE g n ρ' κ' a w G->fS G.M ds vs->(execOp a.eval o).run P w=.ok (.enter f vs.toArray) w->
  (∀v w' G',cE g n ρ' κ' a w' G'->aK G' (yG rs) v->K (a.put o.dst v) w')->o.wpIn F 0 P a w K (fun _ _ _=>False):=by
  intro ds rs ids κ' g a w G F ρ' vs K hF hc aq hd bG hK
  obtain⟨es,hle,hcb,ns⟩:=hc
  refine ur hF bP.1 bG ((ns w _ vs aq.fit.sub (aq.oW.mono aq.mem) (hle.S2 hd)).mono ?_)
  rintro e w' ⟨v,M',rfl,Vr,abJ,dz,zS,jy⟩
  refine⟨v,rfl,?_⟩
  obtain⟨h1,h2⟩:=aq.grown Vr abJ dz zS
  exact hK v w' _ h1 (KW jy)
 unfold y2 at h
 split at h
 ·rename_i ds zG
  obtain⟨rs,hc,hk⟩:=h
  refine GP hg hk fun ρ' κ' aA F hF g a w G aq aU K hK=>?_
  obtain⟨vs,bG,hrel⟩:=bP.2 ρ' κ' _ _ aA g n a w G aq aU (hc aU).GQ
  exact KZ (ids:=[]) hF (hc aU) aq (kA (all:=[]) (by simp) (Gh.Le.refl G) (by simpa[l9,aF]using aq.fit) zG (by simp) hrel) bG hK
 ·rename_i ds ids dw zG
  rcases h with h|⟨rs,hc,hk⟩
  ·grind
  ·refine KT bP.1 hg hk (adM _) (fun p hp=>uo hn hp) fun ρ' κ' aA F hF g a w G dS aq aU K hK=>?_
   obtain⟨vs,bG,hrel⟩:=bP.2 ρ' κ' _ _ aA g n a w G aq aU (hc aU).GQ
   obtain⟨G1,f1,f2,f3,f4,f5⟩:=aq.qh ids aA.reads
   exact KZ (ids:=[]) hF (hc aU) f5 (kA aA.reads f1 f5.fit zG (fun i hi=>hi) hrel) bG hK
 grind
end
end
section
open Go.RowKit
variable [cy]
section
variable {P:Program} {C:eb->Prop} {T:List TI} {ops:List Oper} {n:Nat} {o:Oper} {nx:Nat} {ρ:Nat->AV} {κ:Nat->ax} {k:lK->Nat->Prop} {gd:Bool}
theorem pc{x:Operand}{v:AV}(h:ev ρ κ x=v):bH ρ κ gd x v:=by
 intro ρ' κ' aA g n a w G aq _
 rw[<-h]
 exact AF ρ' κ' aA g n a w G aq
theorem vc{x:Operand}{v:AV}{g':Bool}(h:ev ρ κ x=.opt g' v)(hg:gd=true->g'=true)(hr:res κ v=v):bH ρ κ gd x v:=by
 have:=Gp h hg
 rwa[hr]at this
theorem SF{c x y:Operand}(hg:cn ρ ops o.guard=some gd)(ho:o.op=.pick c x y)
 (h:match ev ρ κ c,ev ρ κ x,ev ρ κ y with
  |.dv (.bool b),.dv (.bool p),.dv (.bool q)=>bj n o gd nx k (.dv (.bool (bif b then p else q))) []
  |.dv (.bool b),.opt gp (.dv (.bool p)),.dv (.bool q)=>(gd=true->b=true->gp=true)/\bj n o gd nx k (.dv (.bool (bif b then p else q))) []
  |.dv (.bool b),.dv (.bool p),.opt gq (.dv (.bool q))=>(gd=true->b=false->gq=true)/\bj n o gd nx k (.dv (.bool (bif b then p else q))) []
  |.opt gb (.dv (.bool b)),.opt gp (.dv (.bool p)),.dv (.bool q)=>(gd=true->gb=true/\(b=true->gp=true))/\bj n o gd nx k (.dv (.bool (bif b then p else q))) []
  |.opt gb (.dv (.bool b)),.dv (.bool p),.opt gq (.dv (.bool q))=>(gd=true->gb=true/\(b=false->gq=true))/\bj n o gd nx k (.dv (.bool (bif b then p else q))) []
  |_,_,_=>False):Good P C ops n o nx ρ κ k:=by
 split at h
 ·rename_i b p q h1 h2 h3
  exact nN hg ho h (pc h1) (pc h2) (pc h3)
 ·rename_i b gp p q h1 h2 h3
  exact nN hg ho h.2 (pc h1) (vc h2 (by simp only[adT];exact fun hh=>h.1 hh.1 hh.2) rfl) (pc h3)
 ·rename_i b p gq q h1 h2 h3
  exact nN hg ho h.2 (pc h1) (pc h2) (vc h3 (by simp only[adT,adV];exact fun hh=>h.1 hh.1 hh.2) rfl)
 ·rename_i gb b gp p q h1 h2 h3
  exact nN hg ho h.2 (vc h1 (fun hh=>(h.1 hh).1) rfl) (vc h2 (by simp only[adT];exact fun hh=>(h.1 hh.1).2 hh.2) rfl) (pc h3)
 ·rename_i gb b p gq q h1 h2 h3
  exact nN hg ho h.2 (vc h1 (fun hh=>(h.1 hh).1) rfl) (pc h2) (vc h3 (by simp only[adT,adV];exact fun hh=>(h.1 hh.1).2 hh.2) rfl)
 ·exact h.elim
theorem Vs(hT:fB P T){c:Call}{x:Operand}{t:Nat}{v:AV}(hg:cn ρ ops o.guard=some gd)(ho:o.op=.call c)(hc:c.callee=.builtin .len)(ha:c.args.toList=[x])(lI:c.argTypes.toList=[t])
 (bP:bH ρ κ gd x v) (h:Cn (nth T t) κ gd v fun r rd=>bj n o gd nx k r rd):Good P C ops n o nx ρ κ k:=by
 unfold Cn at h
 split at h
 ·have hh:=aO h;clear h;obtain⟨hb,h⟩:=hh
  simp only[adT]at hb
  refine sa hT hg ho hc ha lI h bP hb.1 fun _ κ' _ G w v _ hv=>.inl ⟨hb.2,?_⟩
  cases hv with|dv hv=>cases hv with
  |slnil=>exact⟨_,_,_,rfl,rfl⟩
  |sl=>exact⟨_,_,_,rfl,rfl⟩
 ·have hh:=aO h;clear h;obtain⟨hb,h⟩:=hh
  simp only[adT]at hb
  refine sa hT hg ho hc ha lI h bP hb.1 fun _ κ' _ G w v _ hv=>.inl ⟨hb.2,?_⟩
  cases hv with|dv hv=>cases hv with
  |aH=>exact⟨_,_,_,rfl,rfl⟩
 ·have hh:=aO h;clear h;obtain⟨hb,h⟩:=hh
  simp only[adT]at hb
  refine sa hT hg ho hc ha lI h bP hb.1 fun _ κ' _ G w v _ hv=>.inr (.inl ⟨hb.2,?_⟩)
  cases hv with|dv hv=>cases hv with
  |str=>exact⟨_,rfl,rfl⟩
 ·rename_i i ver ep p
  split at h
  ·rename_i bA cu d hk
   have hh:=aO h;clear h;obtain⟨hb,h⟩:=hh
   obtain⟨rfl,fh⟩:=dJ hb
   obtain⟨nd,h,ec⟩:=b7 h
   split at h
   ·rename_i sz l
    have hh:=aO h;clear h;obtain⟨hb,h⟩:=hh
    simp only[adT]at hb
    refine sa hT hg ho hc ha lI h bP hb.1 fun aU κ' aA G w v hf hv=>.inl ⟨hb.2,?_⟩
    obtain⟨u,h1,_,bo⟩:=hf.node ((aA i (by simp)).trans hk) (ec aU) rfl
    cases hv with|own _ _ _ _ _ hh hc=>
    rw[de fh,h1]at hh
    injection hh with hh
    subst hh
    rcases bo with⟨rfl,rfl⟩|⟨gb,ob,cap,cc,tt,rfl,_⟩
    ·exact⟨_,_,_,rfl,rfl⟩
    ·exact⟨_,_,_,rfl,rfl⟩
   ·rename_i ks m
    have hh:=aO h;clear h;obtain⟨hb,h⟩:=hh
    simp only[adT]at hb
    refine sa hT hg ho hc ha lI h bP hb.1 fun aU κ' aA G w v hf hv=>.inr (.inr ⟨hb.2,?_⟩)
    obtain⟨u,h1,_,bo⟩:=hf.node ((aA i (by simp)).trans hk) (ec aU) rfl
    cases hv with|own _ _ _ _ _ hh hc=>
    rw[de fh,h1]at hh
    injection hh with hh
    subst hh
    obtain⟨m0,wH,gb,es,clock,rfl,hw,ck,_⟩:=bo
    exact⟨gb,es,clock,rfl,hw,by rw[ck,wH.length_eq]⟩
   ·exact h.elim
  ·exact h.elim
 ·have hh:=aO h;clear h;obtain⟨hb,h⟩:=hh
  simp only[adT]at hb
  refine sa hT hg ho hc ha lI h bP hb.1 fun _ κ' _ G w v _ hv=>.inl ⟨hb.2,?_⟩
  cases hv
  exact⟨_,_,_,rfl,rfl⟩
 ·have hh:=aO h;clear h;obtain⟨hb,h⟩:=hh
  simp only[adT]at hb
  refine sa hT hg ho hc ha lI h bP hb.1 fun _ κ' _ G w v _ hv=>.inl ⟨hb.2,?_⟩
  cases hv
  exact⟨_,_,_,rfl,rfl⟩
 ·exact h.elim
theorem wF{x:Operand}{i ver ep cu:Nat}{p:List PS}{d y:DV}(hg:cn ρ ops o.guard=some gd)(ho:o.op=.nilCheck x)(hk:κ i=.tree ver cu d)(fh:p=[]\/ep=cu)(ec:gd=true->get d p=some (.gJ y))
 (hr:bj n o gd nx k (.loc i ver ep p 1 0 0) [i]) (bP:bH ρ κ gd x (.own i ver ep p)):Good P C ops n o nx ρ κ k:=by
 refine bu (fun c=>by rw[ho];simp) hg hr fun ρ' κ' aA g a w G aq aU=>?_
 have hv:=bP ρ' κ' (aA.op (by rw[ho];simp[Op.operands])) g n a w G aq aU
 generalize hx:a.eval x=v at hv
 obtain⟨u,h1,_,bo⟩:=aq.fit.node ((aA.reads i (by simp)).trans hk) (ec aU) rfl
 cases hv with|own _ _ _ _ _ hh hc=>
 have Zq:=hh
 rw[de fh,h1]at hh
 injection hh with hh
 subst hh
 obtain⟨gb,c,t,rfl,hw,_⟩:=bo
 refine⟨.pointer (some ⟨gb,0,none⟩),by simp[execOp,ho,hx],?_⟩
 have:=aK.qG (G:=G) i ver ep p 1 0 0 _ Zq
 rw[eW]at this
 exact this
theorem Al(hT:fB P T){t f:Nat}{x:Operand}{v:AV}(hg:cn ρ ops o.guard=some gd)(ho:o.op=.fieldAddr t x f)
 (h:match(nth T t).ok,(nth T t).fields[f]? with
  |true,some (off,sz+1)=>match v with
   |.ptr i o'=>bj n o gd nx k (.ptr i (o'+off)) []
   |.dv (.at x o')=>bj n o gd nx k (.dv (.at x (o'+off))) []
   |.loc i ver ep p pw idx o'=>bj n o gd nx k (.loc i ver ep p pw idx (o'+off)) []
   |_=>False
  |_,_=>False) (bP:bH ρ κ gd x v):Good P C ops n o nx ρ κ k:=by
 split at h
 ·rename_i off sz cI hf
  split at h
  ·refine n0 hT hg ho cI hf h bP (fun G v hv=>?_)
   cases hv with
   |ptr _ _ b hb=>
    refine⟨_,rfl,?_⟩
    rw[eW]
    exact .ptr _ _ b hb
  ·refine n0 hT hg ho cI hf h bP (fun G v hv=>?_)
   cases hv with|dv hv=>cases hv with
   |_=>
    rename_i A cell og hc hr
    refine⟨_,rfl,?_⟩
    rw[cZ]
    exact .dv (.at _ _ A cell og hc hr)
  ·refine n0 hT hg ho cI hf h bP (fun G v hv=>?_)
   cases hv with
   |loc _ _ _ _ _ _ _ A m c he=>
    refine⟨_,rfl,?_⟩
    rw[cZ,Nat.add_assoc]
    exact .loc _ _ _ _ _ _ _ A m c he
   |qG _ _ _ _ _ _ _ A he=>
    refine⟨_,rfl,?_⟩
    rw[cZ,Nat.add_assoc]
    exact .qG _ _ _ _ _ _ _ A he
  ·exact h.elim
 ·exact h.elim
theorem Nr(hT:fB P T){t f:Nat}{x:Operand}{v:AV}(hg:cn ρ ops o.guard=some gd)(ho:o.op=.field t x f)
 (h:match(nth T t).ok,(nth T t).fields[f]?,(nth T t).Ck[f]? with
  |true,some (off,sz+1),some ft=>match v with
   |.agg l=>bif (nth T ft).ok&&Nat.beq (nth T ft).size (sz+1)then cz (nth T ft).agg l off (sz+1) fun v=>bj n o gd nx k v []else False
   |_=>False
  |_,_,_=>False) (bP:bH ρ κ gd x v):Good P C ops n o nx ρ κ k:=by
 split at h
 ·rename_i off sz ft cI hf hft
  split at h
  ·have hh:=aO h;clear h;obtain⟨hb,h⟩:=hh
   simp only[adT]at hb
   exact Sr hT hg ho cI hf hft hb.1 (adm hb.2) h bP
  ·exact h.elim
 ·exact h.elim
theorem Ns(hT:fB P T){t:Nat}{x i:Operand}{v iv:AV}(hg:cn ρ ops o.guard=some gd)(ho:o.op=.indexAddr t x i)
 (h:bif (nth T t).ok&&(nth T t).isSl&&(nth T (nth T t).elem).ok then
  match v,iv with
  |.dv (.sl sz l),.dv (.int _ m)=>bif Nat.beq sz (nth T (nth T t).elem).size then ∃x,(gd=true->0<=m/\l[m.toNat]?=some x)/\bj n o gd nx k (.dv (.at x 0)) []else False
  |.own j ver ep p,.dv (.int _ m)=>match κ j with
   |.tree bA cu d=>bif Nat.beq ver bA&&(emp p||Nat.beq ep cu)then ki gd d p fun nd=>match nd with
    |.aI sz l=>bif Nat.beq sz (nth T (nth T t).elem).size then(gd=true->0<=m/\m<l.length)/\bj n o gd nx k (.loc j ver ep p sz m.toNat 0) [j]else False
    |_=>False
    else False
   |_=>False
  |.sle j len,.dv (.int _ m)=>(gd=true->0<=m/\m<len)/\bj n o gd nx k (.ptr j (m.toNat*(nth T (nth T t).elem).size)) []
  |.pre j ver ep p sz lo len,.dv (.int _ m)=>bif Nat.beq sz (nth T (nth T t).elem).size then(gd=true->0<=m/\m<len)/\bj n o gd nx k (.loc j ver ep p sz (lo+m.toNat) 0) []else False
  |_,_=>False
  else False) (bP:bH ρ κ gd x v) (pY:bH ρ κ gd i iv):Good P C ops n o nx ρ κ k:=by
 have hh:=aO h;clear h;obtain⟨hb,h⟩:=hh
 simp only[adT]at hb
 split at h
 ·have hh:=aO h;clear h;obtain⟨ct,x,hy,h⟩:=hh
  exact Gu hT hg ho hb.1.1 hb.1.2 hb.2 (adm ct) hy h bP pY
 ·split at h
  ·rename_i hk
   have hh:=aO h;clear h;obtain⟨ct,h⟩:=hh
   obtain⟨rfl,fh⟩:=dJ ct
   obtain⟨nd,h,ec⟩:=b7 h
   split at h
   ·have hh:=aO h;clear h;obtain⟨GW,hy,h⟩:=hh
    exact DG hT hg ho hb.1.1 hb.1.2 hb.2 (adm GW) hk fh ec hy h bP pY
   ·exact h.elim
  ·exact h.elim
 ·exact DH hT hg ho hb.1.1 hb.1.2 hb.2 h.1 h.2 bP pY
 ·have hh:=aO h;clear h;obtain⟨ct,hy,h⟩:=hh
  exact DI hT hg ho hb.1.1 hb.1.2 hb.2 (adm ct) hy h bP pY
 ·exact h.elim
theorem Jn(hT:fB P T){t:Nat}{x i:Operand}{v iv:AV}(hg:cn ρ ops o.guard=some gd)(ho:o.op=.indexAddr t x i)
 (h:Cq (nth T t) (nth T (nth T t).elem) gd v iv fun v=>bj n o gd nx k v []) (bP:bH ρ κ gd x v) (pY:bH ρ κ gd i iv):Good P C ops n o nx ρ κ k:=by
 have hh:=aO h;clear h;obtain⟨hb,h⟩:=hh
 simp only[adT]at hb
 have Er:=adm hb.1.2
 split at h
 ·rename_i kd m
  obtain⟨hm,h⟩:=h
  split at h
  ·rename_i y off
   refine n9 hT hg ho hb.1.1 Er hb.2 hm h bP pY fun G v hv=>?_
   cases hv with|dv hv=>cases hv with|«at» _ _ A cell og hc hr=>
   exact⟨_,rfl,.dv (by rw[cZ];exact .at y _ A cell og hc hr)⟩
  ·rename_i j off
   refine n9 hT hg ho hb.1.1 Er hb.2 hm h bP pY fun G v hv=>?_
   cases hv with|ptr _ _ b hb=>
   exact⟨_,rfl,by rw[show(⟨b,off,none⟩:Addr).add (m.toNat*(nth T (nth T t).elem).size)=⟨b,off+m.toNat*(nth T (nth T t).elem).size,none⟩by unfold Addr.add;split<;>simp[*]];exact .ptr j _ b hb⟩
  ·rename_i j ver ep p sz idx off
   refine n9 hT hg ho hb.1.1 Er hb.2 hm h bP pY fun G v hv=>?_
   cases hv with
   |loc _ _ _ _ _ _ _ A n c e=>exact⟨_,rfl,by rw[cZ,Nat.add_assoc];exact .loc j ver ep p sz idx _ A n c e⟩
   |qG _ _ _ _ _ _ _ A e=>exact⟨_,rfl,by rw[cZ,Nat.add_assoc];exact .qG j ver ep p sz idx _ A e⟩
  ·exact h.elim
 ·exact h.elim
theorem SH(hT:fB P T){t:Nat}{x:Operand}{v:AV}(hg:cn ρ ops o.guard=some gd)(ho:o.op=.load t x)(cI:(nth T t).ok=true)
 (h:match v with
  |.ptr i off=>match κ i with
   |.cells l=>cz (nth T t).agg l off (nth T t).size fun v=>bj n o gd nx k v [i]
   |_=>False
  |.dv (.at x off)=>cz (nth T t).agg (fp x.cells) off (nth T t).size fun v=>bj n o gd nx k v []
  |.loc i ver ep p sz idx off=>match κ i with
   |.tree bA cu d=>bif Nat.beq ver bA&&(emp p||Nat.beq ep cu)then ki gd d p fun nd=>kQ i ver cu p gd sz idx nd fun l=>
    cz (nth T t).agg l off (nth T t).size fun v=>bj n o gd nx k v [i]
    else False
   |_=>False
  |_=>False) (bP:bH ρ κ gd x v):Good P C ops n o nx ρ κ k:=by
 split at h
 ·split at h
  ·rename_i hk
   exact Gs hT hg ho cI hk h bP
  ·exact h.elim
 ·exact I7 hT hg ho cI h bP
 ·split at h
  ·rename_i hk
   have hh:=aO h;clear h;obtain⟨ct,h⟩:=hh
   obtain⟨rfl,fh⟩:=dJ ct
   exact Gt hT hg ho cI hk fh h bP
  ·exact h.elim
 ·exact h.elim
theorem Nt(hT:fB P T){t:Nat}{x y:Operand}{p v:AV}(hn:∀i,nx<=i->κ i=.none)(hg:cn ρ ops o.guard=some gd)(ho:o.op=.store t x y)(cI:(nth T t).ok=true)
 (h:bif Nat.beq (cellsOf v).length (nth T t).size&&cq (cellsOf v)then
  match p with
  |.ptr i off=>match κ i with
   |.cells l=>bif Nat.ble (off+(nth T t).size) l.length then dU n o nx k .any [(i,.cells (iQ l off (cellsOf v)))] [i]else False
   |_=>False
  |.loc i ver ep p sz idx off=>qn n o nx κ k i ver ep p sz idx off (cellsOf v)
  |_=>False
  else False) (bP:bH ρ κ gd x p) (J3:bH ρ κ gd y v):Good P C ops n o nx ρ κ k:=by
 have hh:=aO h;clear h;obtain⟨hb,h⟩:=hh
 simp only[adT]at hb
 have ji:=adm hb.1
 split at h
 ·rename_i i off
  split at h
  ·rename_i l hk
   have hh:=aO h;clear h;obtain⟨ct,h⟩:=hh
   have aB:i<nx:=by
    rcases adC i nx with h|h
    ·exact h
    ·rw[hn i h]at hk;cases hk
   exact DN hT hg ho cI hk ji hb.2 (Nat.le_of_ble_eq_true ct) h aB bP J3
  ·exact h.elim
 ·exact DP hT hg ho hn cI ji hb.2 h bP J3
 ·exact h.elim
structure Ju(P:Program)(C:eb->Prop)(ops:List Oper)(n:Nat)(o:Oper)(nx:Nat)(ρ:Nat->AV)(κ:Nat->ax)(k:lK->Nat->Prop):Prop where
 call:∀{gd:Bool} {f:Nat} {l:List AV},cn ρ ops o.guard=some gd->uq P ops o ρ κ gd f l->kh none (bX P f) n o gd nx κ k l->Good P C ops n o nx ρ κ k
 eC:∀{gd:Bool} {c:Call} {t i:Nat} {l:List AV},cn ρ ops o.guard=some gd->o.op=.call c->c.callee=.value (.tmp t)->bH ρ κ gd (.tmp t) (.eC i)->lU ρ κ gd c.args.toList l->
  kh (some i) (dr P) n o gd nx κ k l->Good P C ops n o nx ρ κ k
theorem ua(hT:fB P T)(hn:∀i,nx<=i->κ i=.none)(hR:Ju P C ops n o nx ρ κ k)(h:qe P T ops n o nx ρ κ k):Good P C ops n o nx ρ κ k:=by
 have jU:∀{gd:Bool} {f:Nat} {l:List AV},cn ρ ops o.guard=some gd->uq P ops o ρ κ gd f l->(y2 P n o nx κ gd k f l\/kh none (bX P f) n o gd nx κ k l)->Good P C ops n o nx ρ κ k:=by
  intro gd f l hg bP h
  rcases h with h|h
  ·exact SE hn hg bP h
  ·exact hR.call hg bP h
 unfold qe at h
 split at h
 ·exact h.elim
 ·rename_i gd hg
  split at h
  ·rename_i x ho
   exact Vc hg ho h
  ·rename_i x ho
   obtain⟨v,h,bP⟩:=aL h
   exact MV hg ho h bP
  ·rename_i x ho
   obtain⟨v,h,bP⟩:=aL h
   split at h
   ·exact pX hg ho h bP (fun G v hv=>by cases hv;exact⟨_,rfl⟩)
   ·exact pX hg ho h bP (fun G v hv=>by cases hv<;>exact⟨_,rfl⟩)
   ·exact pX hg ho h bP (fun G v hv=>by cases hv with|dv hv=>cases hv;exact⟨_,rfl⟩)
   ·split at h
    ·rename_i hk
     have hh:=aO h;clear h;obtain⟨hb,h⟩:=hh
     obtain⟨rfl,fh⟩:=dJ hb
     obtain⟨nd,h,ec⟩:=b7 h
     split at h
     ·exact wF hg ho hk fh ec h bP
     ·exact h.elim
    ·exact h.elim
   ·exact h.elim
  ·rename_i c x y ho
   exact SF hg ho h
  ·rename_i op t x y ty ho
   obtain⟨va,h,Yy⟩:=aL h
   obtain⟨vb,h,Yz⟩:=aL h
   cases hb:vb.lj with
   |false=>
    rw[hb]at h
    cases ha:va.ag with
    |false=>rw[ha]at h;exact RD hT hg ho Yy Yz h
    |true=>rw[ha]at h;exact YF hT hg ho Yy Yz h
   |true=>
    rw[hb]at h
    have hb:vb=.dv .aH:=by
     cases vb with
     |dv d=>cases d<;>simp[AV.lj]at hb;rfl
     |_=>simp[AV.lj]at hb
    subst hb
    exact I8 hT hg ho Yy Yz h
  ·rename_i op t x ho
   obtain⟨v,h,bP⟩:=aL h
   split at h
   ·exact YA hg ho h bP
   ·exact YB hg ho h bP
   ·exact h.elim
  ·rename_i x i ho
   obtain⟨v,h,bP⟩:=aL h
   split at h
   ·split at h
    ·rename_i hl
     rw[force_eq]at h
     exact I6 hg ho h hl bP
    ·exact h.elim
   ·exact h.elim
  ·rename_i t x f ho
   obtain⟨v,h,bP⟩:=aL h
   exact Nr hT hg ho h bP
  ·rename_i t x f ho
   obtain⟨v,h,bP⟩:=aL h
   exact Al hT hg ho h bP
  ·rename_i t x i ho
   obtain⟨v,h,bP⟩:=aL h
   obtain⟨iv,h,pY⟩:=aL h
   cases hb:(nth T t).ok&&(nth T t).isSl&&(nth T (nth T t).elem).ok with
   |true=>rw[hb]at h;exact Ns hT hg ho (by rw[hb];exact h) bP.dn pY
   |false=>rw[hb]at h;exact Jn hT hg ho h bP pY
  ·rename_i t x ho
   have hh:=aO h;clear h;obtain⟨cI,h⟩:=hh
   obtain⟨v,h,bP⟩:=aL h
   exact SH hT hg ho cI h bP
  ·rename_i t x y ho
   have hh:=aO h;clear h;obtain⟨cI,h⟩:=hh
   obtain⟨p,h,bP⟩:=aL h
   obtain⟨v,h,J3⟩:=aL h
   exact Nt hT hn hg ho cI h bP J3
  ·rename_i fn first bR ho
   obtain⟨l,h,h1⟩:=kN h
   obtain⟨r,h,h2⟩:=kN h
   split at h
   ·exact vX hg ho h1 h2 (.inl ⟨rfl,rfl⟩) h
   ·exact vX hg ho h1 h2 (.inr ⟨rfl,rfl⟩) h
   ·exact h.elim
  ·rename_i t ho
   have hh:=aO h;clear h;obtain⟨cI,s,h⟩:=hh
   exact Ji hg ho (hn nx (adM _)) h
  ·rename_i t x ho
   have hh:=aO h;clear h;obtain⟨cI,h⟩:=hh
   simp only[adT]at cI
   obtain⟨v,h,bP⟩:=aL h
   split at h
   ·obtain⟨s,h⟩:=h
    exact GK hT hg ho cI.1 (adm cI.2) (hn nx (adM _)) h bP
   ·exact h.elim
  ·rename_i t x i c ho
   have hh:=aO h;clear h;obtain⟨hb,h⟩:=hh
   simp only[adT]at hb
   obtain⟨v,h,bP⟩:=aL h
   obtain⟨kv,h,pY⟩:=aL h
   exact No hT hg ho hb.1.1 (adm hb.1.2) hb.2 bP pY h
  ·rename_i t x i y ho
   have hh:=aO h;clear h;obtain⟨hb,h⟩:=hh
   simp only[adT]at hb
   obtain⟨v,h,bP⟩:=aL h
   obtain⟨kv,h,pY⟩:=aL h
   obtain⟨u,h,J3⟩:=aL h
   exact DY hT hg ho hn hb.1 (adm hb.2) bP pY J3 h
  ·rename_i t ho
   have hh:=aO h;clear h;obtain⟨cI,h⟩:=hh
   exact Sl hT hg ho cI (hn nx (adM _)) h
  ·rename_i t x ho
   obtain⟨v,h,bP⟩:=aL h
   have hh:=aO h;clear h;obtain⟨hc,h⟩:=hh
   exact YR hg ho (hn nx (adM _)) hc h bP
  ·rename_i t parts ho
   have hh:=aO h;clear h;obtain⟨hb,h⟩:=hh
   simp only[adT]at hb
   obtain⟨l,h,hp⟩:=mq h
   split at h
   ·rename_i cs hf
    exact RT hT hg ho hb.1 hp hf hb.2 h
   ·exact h.elim
  ·rename_i t len parts ho
   have hh:=aO h;clear h;obtain⟨hb,h⟩:=hh
   simp only[adT,Nat.blt_eq]at hb
   obtain⟨⟨⟨⟨h1,h2⟩,h3⟩,h4⟩,h5⟩:=hb
   obtain⟨l,h,hp⟩:=mq h
   split at h
   ·rename_i cs hf
    have hh:=aO h;clear h;obtain⟨hc,h⟩:=hh
    exact Ak hT hg ho hn h1 h2 h3 h4 h5 hp hf hc h
   ·exact h.elim
  ·rename_i t l c ho
   have hh:=aO h;clear h;obtain⟨hb,h⟩:=hh
   simp only[adT,Nat.blt_eq]at hb
   obtain⟨⟨⟨b1,b2⟩,b3⟩,b4⟩:=hb
   obtain⟨lv,h,h1⟩:=aL h
   obtain⟨cv,h,h2⟩:=aL h
   split at h
   ·obtain⟨z,e1,e2,e3,e4,e5,fl,ou,h⟩:=h
    exact DR hT hg ho b1 b2 b3 b4 (hn nx (adM _)) e1 e2 e3 e4 e5 ou h h1 h2
   ·exact h.elim
  ·rename_i t x l hh ho
   have hq:=aO h;clear h;obtain⟨hb,h⟩:=hq
   simp only[adT]at hb
   obtain⟨v,h,bP⟩:=aL h
   obtain⟨lo,h,hl⟩:=BH h
   obtain⟨hi,h,KO⟩:=BH h
   exact SD hT hg ho hn hb.1 hb.2 bP.dn hl KO h
  ·rename_i c ho
   split at h
   ·rename_i hc
    split at h
    ·rename_i x t ha lI
     obtain⟨v,h,bP⟩:=aL h
     exact Vs hT hg ho hc ha lI bP.dn h
    ·exact h.elim
   ·rename_i hc
    split at h
    ·rename_i x i t t' ha lI
     have hh:=aO h;clear h;obtain⟨hb,h⟩:=hh
     simp only[adT]at hb
     obtain⟨v,h,bP⟩:=aL h
     obtain⟨kv,h,pY⟩:=aL h
     exact DZ hT hg ho hc ha lI hn hb.1 (adm hb.2) bP pY h
    ·exact h.elim
   ·rename_i hc
    split at h
    ·rename_i s x t t' ha lI
     have hh:=aO h;clear h;obtain⟨hb,h⟩:=hh
     have:=adm hb
     subst this
     obtain⟨sv,h,h1⟩:=aL h
     obtain⟨xv,h,h2⟩:=aL h
     rcases h with h|h
     ·exact Jh hT hg ho hc ha lI hn h h1 h2.dn
     ·exact Nh hT hg ho hc ha lI hn h h1.dn h2.dn
    ·exact h.elim
   ·rename_i hc
    split at h
    ·rename_i x y ha
     obtain⟨a,h,h1⟩:=aL h
     obtain⟨b,h,h2⟩:=aL h
     split at h
     ·exact YG hg ho hc ha h h1 h2
     ·exact h.elim
    ·exact h.elim
   ·rename_i hc
    split at h
    ·rename_i x y ha
     obtain⟨a,h,h1⟩:=aL h
     obtain⟨b,h,h2⟩:=aL h
     split at h
     ·exact YH hg ho hc ha h h1 h2
     ·exact h.elim
    ·exact h.elim
   ·rename_i f hc
    obtain⟨l,h,h1⟩:=kN h
    exact jU hg (vo ho hc h1) h
   ·rename_i t hc
    obtain⟨v,h,bP⟩:=aL h
    obtain⟨l,h,h1⟩:=kN h
    split at h
    ·exact jU hg (sn ho hc bP h1 (.inl ⟨_,rfl,rfl⟩)) h
    ·exact jU hg (sn ho hc bP h1 (.inr (.inl ⟨_,rfl,rfl⟩))) h
    ·exact jU hg (sn ho hc bP h1 (.inr (.inr ⟨_,rfl,rfl⟩))) h
    ·rcases h with h|⟨hf,u,h⟩
     ·exact hR.eC hg ho hc bP h1 h
     ·exact bu (fun c=>by rw[ho];simp) hg h fun _ _ _ _ _ _ _ _ aU=>by rw[hf]at aU;cases aU
    ·exact h.elim
   ·exact h.elim
  ·rename_i t x ho
   have hh:=aO h;clear h;obtain⟨hb,h⟩:=hh
   simp only[adT]at hb
   obtain⟨v,h,bP⟩:=aL h
   split at h
   ·rename_i j ver ep p
    split at h
    ·rename_i d hj
     have hh:=aO h;clear h;obtain⟨ct,h⟩:=hh
     simp only[adT,Bool.or_eq_true]at ct
     obtain⟨nd,h,ec⟩:=b7 h
     split at h
     ·exact Sx hT hg ho hb.1 (adm hb.2) (hn nx (adM _)) hj (by have:=ct.2;rw[Nat.blt_eq]at this;exact this) (adm ct.1.1)
       (ct.1.2.imp (fun e=>by cases p with|nil=>rfl|cons=>simp[emp]at e) adm) (ec rfl) h bP
     ·exact h.elim
    ·exact h.elim
   ·exact h.elim
  ·rename_i x ho
   obtain⟨v,h,bP⟩:=aL h
   split at h
   ·rename_i i
    split at h
    ·rename_i hi
     exact Sy hg ho hi h.1 h.2 bP
    ·exact h.elim
   ·exact h.elim
  ·rename_i s t x ho
   have hh:=aO h;clear h;obtain⟨hb,h⟩:=hh
   simp only[adT]at hb
   obtain⟨v,h,bP⟩:=aL h
   split at h
   ·rename_i hi
    exact I9 hT hg ho hb.1 hb.2 hi h bP
   ·exact h.elim
  ·rename_i t x i ho
   have hh:=aO h;clear h;obtain⟨hb,h⟩:=hh
   simp only[adT]at hb
   obtain⟨v,h,bP⟩:=aL h
   obtain⟨iv,h,pY⟩:=aL h
   split at h
   ·obtain⟨b,JH,h⟩:=h
    exact RS hT hg ho hb.1 hb.2 JH h bP pY
   ·exact h.elim
  ·exact h.elim
end
end
end Go.TM
