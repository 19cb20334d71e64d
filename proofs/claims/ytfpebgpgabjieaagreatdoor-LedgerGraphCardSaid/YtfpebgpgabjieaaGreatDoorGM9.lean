import Derived.Test.YtfpebgpgabjieaaGreatDoorGM8
import Derived.Laws.BytesString
set_option linter.all false
namespace Go.TM
section
open Go.RowKit
variable [cq]
section
variable {P:Program} {C:dY->Prop} {T:List TI} {ops:List Oper} {n:Nat} {o:Oper} {nx:Nat} {ρ:Nat->AV} {κ:Nat->az} {k:lQ->Nat->Prop} {gd:Bool}
def zW(ρ:Nat->AV)(κ:Nat->az)(g:Bool):Option Operand->Option Int->Prop
 |none,none=>True
 |some x,some n=>bJ ρ κ g x (.dv (.int .i64 n))
 |_,_=>False
theorem B6{x:Option Operand}{q:Option Int->Prop}(h:exI ρ κ gd x q):∃b,q b/\zW ρ κ gd x b:=by
 unfold exI at h
 split at h
 ·exact⟨none,h,tv⟩
 ·obtain⟨v,h,hv⟩:=aK h
  split at h
  ·rename_i m;exact⟨some m,h,hv⟩
  ·exact h.elim
theorem zW.val{ρ':Nat->AV}{κ':Nat->az}{g:dY}{a:Act}{w:World}{G:Gh}{x:Option Operand}{b:Option Int}(h:zW ρ κ gd x b)(ak:cA g n ρ' κ' a w G)(aY:gd=true)(aA:∀y,x=some y->Jz ρ ρ' κ κ' y):x.map a.eval=b.map (Value.int .i64):=by
 cases x with
 |none=>cases b with
  |none=>rfl
  |some=>exact h.elim
 |some y=>cases b with
  |none=>exact h.elim
  |some m=>
   have hv:=h ρ' κ' (aA y rfl) g n a w G ak aY
   simp only[Option.map_some]
   generalize a.eval y=v at hv
   cases hv with|dv hv=>cases hv with|int=>rfl
theorem sA{w:World}{isSl:Bool}{len cap:Nat}{lo hi:Option Int}(h1:0<=lo.getD 0)(h2:lo.getD 0<=hi.getD len)(h3:hi.getD len<=len)(h4:len<=cap):
 (Instr.sliceBounds isSl len cap (lo.map (Value.int .i64)) (hi.map (Value.int .i64)) none).run P w=.ok ((lo.getD 0).toNat,(hi.getD len).toNat,cap) w:=by
 cases lo with
 |none=>
  cases hi with
  |none=>simp[Instr.sliceBounds]
  |some h=>
   simp only[Option.getD_some,Option.getD_none]at*
   have:0<=h/\h<=(cap:Int):=by omega
   simp[Instr.sliceBounds,Instr.sliceBound,asIntOf,this]
 |some l=>
  cases hi with
  |none=>
   simp only[Option.getD_some,Option.getD_none]at*
   have:0<=l/\l<=(len:Int):=by omega
   simp[Instr.sliceBounds,Instr.sliceBound,asIntOf,this]
  |some h=>
   simp only[Option.getD_some]at*
   have h5:0<=h/\h<=(cap:Int):=by omega
   have h6:0<=l/\l<=h:=by omega
   have h7:(max h 0:Int)=h:=by omega
   simp[Instr.sliceBounds,Instr.sliceBound,asIntOf,h5,h6,h7]
theorem aO{c:Bool}{p:Prop}(h:bif c then p else False):c=true/\p:=by cases c<;>simp_all
theorem cA.cut{g:dY}{κ' κ2:Nat->az}{a:Act}{w:World}{G:Gh}(ak:cA g n ρ κ' a w G){i ver cj sz:Nat}{xs:List DV}(gI:κ' i=.tree ver cj (.aD sz xs)){L H:Int}(b1:0<=L)(b2:L<=H)(b3:H<=xs.length)
 (h1:κ2 i=.tree (ver+1) 0 (.aD sz ((xs.take H.toNat).drop L.toNat))) (h3:∀j,j≠i->κ2 j=κ' j) {v0:Value} (HY:aV G.H i ver cj []=some v0):
 ∃A cap,v0=.slice A xs.length cap/\xs.length<=cap/\∃G',cA g n ρ κ2 a w G'/\aI G' (.own i (ver+1) 0 []) (.slice (if cap=L.toNat then A else A.map (·.add (L.toNat*sz))) (H.toNat-L.toNat) (cap-L.toNat)):=by
 have fF:=ak.fit.box i
 rw[gI]at fF
 obtain⟨ht,jg,L0,Rr⟩:=fF
 obtain⟨v0',wy,Ae,bq⟩:=ht.2 [] _ rfl rfl
 rw[HY]at wy;injection wy with wy;subst wy
 have wy:=HY
 have hlen:((xs.take H.toNat).drop L.toNat).length=H.toNat-L.toNat:=by simp;omega
 let hN:Value->List PS->Option Value:=fun v' q=>match q with
  |[]=>some v'
  |.el i' j::r=>aV G.H i ver cj (.el (i'+L.toNat) j::r)
  |_=>none
 have fin:∀v':Value,v'.oneCell'=true->(∀b,cR v'=some b->cR v0=some b)->cI G.M w v' (fun s=>hN v' ([]++[s])) (.aD sz ((xs.take H.toNat).drop L.toNat))->
  ∃G',cA g n ρ κ2 a w G'/\aI G' (.own i (ver+1) 0 []) v':=by
  intro v' Ed hbl HB
  have BE:∀i' j c,step (.aD sz ((xs.take H.toNat).drop L.toNat)) (.el i' j)=some c->step (.aD sz xs) (.el (i'+L.toNat) j)=some c:=by
   intro i' j c hc
   simp only[step]at hc⊢
   rw[List.getElem?_drop,List.getElem?_take]at hc
   by_cases e:L.toNat+i'<H.toNat
   ·rw[if_pos e,Nat.add_comm]at hc;exact hc
   ·rw[if_neg e]at hc;cases hc
  have el:∀s c,step (.aD sz ((xs.take H.toNat).drop L.toNat)) s=some c->∃i' j,s=.el i' j:=by
   intro s c gB
   cases s with
   |el i' j=>exact⟨i',j,rfl⟩
   |key=>simp[step]at gB
  obtain⟨m1,m2,m3⟩:=bA.r4 (w:=w) (w':=w) (h:=Sk) (h':=hN v') (p:=[]) (n:=.aD sz []) (n':=.aD sz ((xs.take H.toNat).drop L.toNat)) (v:=.slice none 0 0) (v':=v') (fun _=>True) (zO G.M w _) (Ec _) rfl rfl rfl rfl rfl Ed (.inl rfl) HB
   (fun q hq=>absurd (List.nil_prefix) hq) (fun s c _ _ hN=>absurd trivial hN)
   (fun s c gB FV _=>by
    obtain⟨i',j,rfl⟩:=el s c gB
    have Zr:get (.aD sz xs) [.el (i'+L.toNat) j]=some c:=by simp[get,BE i' j c gB]
    refine⟨ht.sub Zr FV,jg.sub Zr,fun b hb=>⟨fun h=>kI h,fun fp=>?_⟩⟩
    obtain⟨q,m,uu,c1,c2,c3,c4⟩:=hb
    have:=jg [] (.el (i'+L.toNat) j::q) _ m v0 uu b rfl rfl wy (hbl b fp) (by simp only[get,BE i' j c gB];exact c1) c2 c3 c4
    cases this)
   (fun s s' c c' b j7 Nz _ lZ NZ _ jE ct=>by
    obtain⟨i1,j1,rfl⟩:=el s c j7
    obtain⟨i2,j2,rfl⟩:=el s' c' lZ
    obtain⟨q,m,uu,c1,c2,c3,c4⟩:=jE
    obtain⟨q',m',uu',d1,d2,d3,d4⟩:=ct
    have:=jg (.el (i1+L.toNat) j1::q) (.el (i2+L.toNat) j2::q') m m' uu uu' b (by simp only[get,BE i1 j1 c j7];exact c1) c2 c3 c4 (by simp only[get,BE i2 j2 c' lZ];exact d1) d2 d3 d4
    injection this with e1 _
    injection e1 with e1 e2
    have:i1=i2:=by omega
    rw[this,e2])
   (fun b hb=>.inr fun h=>kI h) (fun b h=>(kI h).elim)
  obtain⟨G',g1,g2,_,g4,_,_,g7⟩:=ak.mf (κ':=κ2) (w':=w) (i:=i) (ver:=ver+1) (ep:=0) (d:=.aD sz ((xs.take H.toNat).drop L.toNat)) (fun _=>False) (hN v') (fun h=>h.elim) (.inr ⟨ver,cj,_,gI,by omega,by omega⟩) (fun _ h=>h.elim) h1 (fun j hj _=>h3 j hj)
   (fun q y hy=>by cases q<;>simp[aV,L0 (ver+1) (by omega)]at hy) m1 m2
   (fun b hb=>by
    rcases m3 b hb with h5|h5|⟨s,c,s1,s2,_,s4⟩
    ·exact(kI h5).elim
    ·exact .inr (.inl (by rw[gI];exact⟨[],_,v0,rfl,rfl,wy,hbl b h5⟩))
    ·obtain⟨i',j,rfl⟩:=el s c s1
     have Zr:get (.aD sz xs) [.el (i'+L.toNat) j]=some c:=by simp[get,BE i' j c s1]
     exact .inr (.inl (by rw[gI];exact bO.sub (p:=[.el (i'+L.toNat) j]) Zr s4)))
   (fun _ _ _ _=>rfl) (fun b hb=>by
    rcases hb with h5|⟨_,h5,_⟩
    ·exact ak.fit.own i b h5
    ·exact h5.elim) (aei _) rfl rfl rfl
  exact⟨G',g7,.own _ _ _ _ _ ((g4 []).trans rfl) Ed⟩
 rcases bq with⟨rfl,rfl⟩|⟨gb,ob,cap,c,tt,rfl,eU,hw,Gd,ub⟩
 ·simp at b3
  have hL:L=0:=by omega
  have hH:H=0:=by omega
  subst hL;subst hH
  refine⟨none,0,rfl,aei _,?_⟩
  simpa using fin (.slice none 0 0) rfl (by simp[cR]) (.inl ⟨by simp,rfl⟩)
 ·refine⟨_,_,rfl,eU,fin _ rfl ?_ ?_⟩
  ·intro b hb
   split at hb
   ·exact hb
   ·simp only[Option.map_some,cR,fe]at hb;exact hb
  ·by_cases e:cap=L.toNat
   ·have yj:(xs.take H.toNat).drop L.toNat=[]:=List.eq_nil_of_length_eq_zero (by rw[hlen];omega)
    rw[if_pos e,yj]
    rw[show cap-L.toNat=0 by omega,show H.toNat-L.toNat=0 by omega]
    refine .inr ⟨gb,ob,0,c,tt,rfl,by simp,hw,by omega,by simp⟩
   ·rw[if_neg e]
    refine .inr ⟨gb,ob+L.toNat*sz,cap-L.toNat,c,tt,by simp only[Option.map_some,fe];rw[hlen],by rw[hlen];omega,hw,?_,fun i' y hy=>?_⟩
    ·have:L.toNat*sz+(cap-L.toNat)*sz=cap*sz:=by rw[<-Nat.add_mul];congr 1;omega
     omega
    ·rw[List.getElem?_drop,List.getElem?_take]at hy
     split at hy
     ·obtain⟨c1,c2⟩:=ub _ y hy
      refine⟨c1,fun j d' lX=>?_⟩
      obtain⟨d1,uu,d2,d3⟩:=c2 j d' lX
      refine⟨d1,uu,?_,?_⟩
      ·rw[<-d2];congr 1;rw[Nat.add_mul];omega
      ·show dB G.M (aV G.H i ver cj [.el (i'+L.toNat) j]) d' uu
       rw[Nat.add_comm];exact d3
     ·cases hy
theorem B7(hT:fD P T){t:Nat}{x:Operand}{l h:Option Operand}{v:AV}{lo hi:Option Int}(hg:b9 ρ ops o.guard=some gd)(ho:o.op=.slice t x l h none)(hn:∀i,nx<=i->κ i=.none)
 (b8:(nth T t).ok=true) (gl:((nth T t).isSl&&(nth T (nth T t).elem).ok||(nth T t).isStr)=true) (hx:bJ ρ κ gd x v) (hl:zW ρ κ gd l lo) (hh:zW ρ κ gd h hi)
 (hk:ma (nth T t) (nth T (nth T t).elem).size κ gd v lo hi (fun v=>bl n o gd nx k v []) (fun v bx rd=>dQ n o nx k v bx rd)):Good P C ops n o nx ρ κ k:=by
 obtain⟨ti,u,z,tf⟩:=hT.facts b8
 have dC:∀c,o.op≠.defer c:=fun c=>by rw[ho];simp
 have mx:x∈o.op.operands:=by rw[ho];simp[Op.operands]
 have ml:∀y,l=some y->y∈o.op.operands:=fun y hy=>by rw[ho,hy];simp[Op.operands]
 have mh:∀y,h=some y->y∈o.op.operands:=fun y hy=>by rw[ho,hy];simp[Op.operands]
 have cut:∀{w:World} {a:Act} {A:Option Addr} {len cap:Nat},(nth T t).isSl=true->a.eval x=.slice A len cap->l.map a.eval=lo.map (Value.int .i64)->h.map a.eval=hi.map (Value.int .i64)->0<=lo.getD 0->lo.getD 0<=hi.getD len->hi.getD len<=len->len<=cap->(nth T (nth T t).elem).ok=true->
  (execOp a.eval o).run P w=.ok (.value (.slice (if cap=(lo.getD 0).toNat then A else A.map (·.add ((lo.getD 0).toNat*(nth T (nth T t).elem).size))) ((hi.getD len).toNat-(lo.getD 0).toNat) (cap-(lo.getD 0).toNat))) w:=by
  intro w a A len cap hs xu hle AA h1 h2 h3 h4 wz
  obtain⟨te,ue,ze,jh⟩:=hT.facts wz
  have hb:=sA (P:=P) (w:=w) (isSl:=true) (len:=len) (cap:=cap) h1 h2 h3 h4
  have w8:=jh.gi w
  simp[execOp,ho,Instr.sliceAt,Instr.slice,run_underlying (tf.slice hs),xu,hle,AA,hb,w8]
 unfold ma at hk
 split at hk
 ·rename_i sz xs
  cases qT:(nth T t).isSl&&Nat.beq sz (nth T (nth T t).elem).size with
  |false=>rw[qT]at hk;exact hk.elim
  |true=>
  rw[qT]at hk
  obtain⟨Kv,hk⟩:=hk
  simp only[aep]at qT
  obtain⟨hs,SE⟩:=qT
  have:=adS SE
  subst this
  have wz:(nth T (nth T t).elem).ok=true:=by
   simp only[Bool.or_eq_true,aep]at gl
   rcases gl with h5|h5
   ·exact h5.2
   ·exfalso
    have q1:=tf.isSl;have q2:=tf.isStr
    rw[hs]at q1;rw[h5]at q2
    cases u<;>simp[MG,strOf]at q1 q2
  refine bB dC hg hk fun ρ' κ' aA g a w G ak aY=>?_
  have hv:=hx ρ' κ' (aA.op mx) g n a w G ak aY
  have hle:=hl.val ak aY (fun y hy=>aA.op (ml y hy))
  have AA:=hh.val ak aY (fun y hy=>aA.op (mh y hy))
  obtain⟨b1,b2,b3⟩:=Kv aY
  generalize xu:a.eval x=q at hv
  cases hv with|dv hv=>
  generalize oP:lo.getD 0=L at b1 b2 b3⊢
  generalize Lz:hi.getD (xs.length:Int)=H at b1 b2 b3⊢
  have hlen:((xs.take H.toNat).drop L.toNat).length=H.toNat-L.toNat:=by simp;omega
  cases hv with
  |slnil=>
   simp at b3 Lz
   have hL:L=0:=by omega
   have hH:H=0:=by omega
   subst hL;subst hH
   refine⟨_,cut hs xu hle AA (by rw[oP];omega) (by rw[oP];simp[Lz]) (by simp[Lz]) (aei _) wz,?_⟩
   rw[oP]
   simp[Lz]
   exact .dv (.slnil _)
  |sl _ _ A cap cell eU hlc hc hr=>
   refine⟨_,cut hs xu hle AA (by rw[oP];omega) (by rw[oP,Lz];omega) (by rw[Lz];omega) eU wz,.dv ?_⟩
   rw[oP,Lz]
   by_cases e:cap=L.toNat
   ·have yj:(xs.take H.toNat).drop L.toNat=[]:=List.eq_nil_of_length_eq_zero (by rw[hlen];omega)
    rw[if_pos e,yj,show H.toNat-L.toNat=0 by omega,show cap-L.toNat=0 by omega]
    exact .sl _ [] A 0 (fun _ _=>undef) (aei _) (by simp) (by simp) (by simp)
   ·rw[if_neg e]
    simp only[Option.map_some]
    rw[<-hlen]
    refine .sl _ _ _ _ (fun i j=>cell (L.toNat+i) j) (by rw[hlen];omega) (fun y hy=>hlc y (List.mem_of_mem_take (List.mem_of_mem_drop hy))) (fun i j hi hj=>?_) (fun i y j d hy hd=>?_)
    ·rw[cQ]
     have:=hc (L.toNat+i) j (by rw[hlen]at hi;omega) hj
     rw[Nat.add_mul]at this
     rw[show L.toNat*(nth T (nth T t).elem).size+(i*(nth T (nth T t).elem).size+j)=L.toNat*(nth T (nth T t).elem).size+i*(nth T (nth T t).elem).size+j by omega]
     exact this
    ·rw[List.getElem?_drop,List.getElem?_take]at hy
     split at hy
     ·exact hr _ y j d hy hd
     ·cases hy
 ·rename_i i ver ep
  split at hk
  ·rename_i bD cj d gI
   cases hb:Nat.beq ver bD with
   |false=>rw[hb]at hk;exact hk.elim
   |true=>
   rw[hb]at hk
   simp only[cond_true]at hk
   have:=adS hb
   subst this
   cases d with
   |aD sz xs=>
    simp only at hk
    cases qT:(nth T t).isSl&&Nat.beq sz (nth T (nth T t).elem).size with
    |false=>rw[qT]at hk;exact hk.elim
    |true=>
    rw[qT]at hk
    obtain⟨⟨b1,b2,b3⟩,hk⟩:=hk
    simp only[aep]at qT
    obtain⟨hs,SE⟩:=qT
    have:=adS SE
    subst this
    have wz:(nth T (nth T t).elem).ok=true:=by
     simp only[Bool.or_eq_true,aep]at gl
     rcases gl with h5|h5
     ·exact h5.2
     ·exfalso
      have q1:=tf.isSl;have q2:=tf.isStr
      rw[hs]at q1;rw[h5]at q2
      cases u<;>simp[MG,strOf]at q1 q2
    have Vs:i<nx:=zT hn ⟨_,_,_,gI⟩
    refine de dC hg hk (aei _) (by simpa using Vs) fun ρ' κ' aA g a w G dN ak aY=>?_
    have he:=aA.reads i (by simp)
    have hv:=hx ρ' κ' (aA.op mx) g n a w G ak aY
    have hle:=hl.val ak aY (fun y hy=>aA.op (ml y hy))
    have AA:=hh.val ak aY (fun y hy=>aA.op (mh y hy))
    have fF:=ak.fit.box i
    rw[he,gI]at fF
    obtain⟨ht,jg,L0,Rr⟩:=fF
    obtain⟨v0,wy,Ae,bq⟩:=ht.2 [] _ rfl rfl
    have xu:a.eval x=v0:=by
     generalize a.eval x=q at hv
     cases hv with|own _ _ _ _ _ hh' hc=>have:aV G.H i ver cj []=some q:=hh'
                                         rw[wy]at this;injection this with this;exact this.symm
    obtain⟨A,cap,rfl,eU,G',g7,hvr⟩:=ak.cut (κ2:=aF κ' [(i,.tree (ver+1) 0 (.aD (nth T (nth T t).elem).size ((xs.take (hi.getD xs.length).toNat).drop (lo.getD 0).toNat)))]) (he.trans gI) b1 b2 b3 (by simp[aF]) (fun j hj=>by simp[aF,ai _ _ hj]) wy
    exact⟨_,w,G',.inl (cut hs xu hle AA b1 b2 b3 eU wz),g7,hvr⟩
   |_=>exact hk.elim
  ·exact hk.elim
 ·rename_i s
  cases jN:(nth T t).isStr with
  |false=>rw[jN]at hk;exact hk.elim
  |true=>
   rw[jN]at hk
   obtain⟨Kv,hk⟩:=hk
   refine bB dC hg hk fun ρ' κ' aA g a w G ak aY=>?_
   have hv:=hx ρ' κ' (aA.op mx) g n a w G ak aY
   have hle:=hl.val ak aY (fun y hy=>aA.op (ml y hy))
   have AA:=hh.val ak aY (fun y hy=>aA.op (mh y hy))
   obtain⟨b1,b2,b3⟩:=Kv aY
   generalize xu:a.eval x=q at hv
   cases hv with|dv hv=>cases hv with|str=>
   have hb:=sA (P:=P) (w:=w) (isSl:=false) (len:=s.size) (cap:=s.size) b1 b2 b3 (aei _)
   refine⟨_,?_,.dv (.str _)⟩
   simp[execOp,ho,Instr.sliceAt,Instr.slice,run_underlying (tf.string jN),xu,hle,AA,hb]
 ·exact hk.elim
theorem SF(hT:fD P T){t:Nat}{x:Operand}{l h:Option Operand}{v:AV}{lo hi:Option Int}(hg:b9 ρ ops o.guard=some gd)(ho:o.op=.slice t x l h none)(hn:∀i,nx<=i->κ i=.none)
 (b8:(nth T t).ok=true) (gl:((nth T t).isSl&&(nth T (nth T t).elem).ok||(nth T t).isStr)=true) (hx:bJ ρ κ gd x v) (hl:zW ρ κ gd l lo) (hh:zW ρ κ gd h hi)
 (hk:yf (nth T t) (nth T (nth T t).elem).size κ gd nx v lo hi (fun v rd=>bl n o gd nx k v rd) (fun v bx rd=>dQ n o nx k v bx rd) (fun v bx rd=>dQ n o (nx+1) k v bx rd)):Good P C ops n o nx ρ κ k:=by
 unfold yf at hk
 split at hk
 ·rename_i i ver ep p
  rcases hk with hk|hk|hk
  ·exact B7 hT hg ho hn b8 gl hx hl hh hk
  all_goals
   obtain⟨ti,u,z,tf⟩:=hT.facts b8
   have dC:∀c,o.op≠.defer c:=fun c=>by rw[ho];simp
   have mx:x∈o.op.operands:=by rw[ho];simp[Op.operands]
   have ml:∀y,l=some y->y∈o.op.operands:=fun y hy=>by rw[ho,hy];simp[Op.operands]
   have mh:∀y,h=some y->y∈o.op.operands:=fun y hy=>by rw[ho,hy];simp[Op.operands]
   have cut:∀{w:World} {a:Act} {A:Option Addr} {len cap:Nat},(nth T t).isSl=true->a.eval x=.slice A len cap->l.map a.eval=lo.map (Value.int .i64)->h.map a.eval=hi.map (Value.int .i64)->0<=lo.getD 0->lo.getD 0<=hi.getD len->hi.getD len<=len->len<=cap->(nth T (nth T t).elem).ok=true->
    (execOp a.eval o).run P w=.ok (.value (.slice (if cap=(lo.getD 0).toNat then A else A.map (·.add ((lo.getD 0).toNat*(nth T (nth T t).elem).size))) ((hi.getD len).toNat-(lo.getD 0).toNat) (cap-(lo.getD 0).toNat))) w:=by
    intro w a A len cap hs xu hle AA h1 h2 h3 h4 wz
    obtain⟨te,ue,ze,jh⟩:=hT.facts wz
    have hb:=sA (P:=P) (w:=w) (isSl:=true) (len:=len) (cap:=cap) h1 h2 h3 h4
    have w8:=jh.gi w
    simp[execOp,ho,Instr.sliceAt,Instr.slice,run_underlying (tf.slice hs),xu,hle,AA,hb,w8]
   have aca:(nth T t).isSl=true->(nth T (nth T t).elem).ok=true:=fun hs=>by
    simp only[Bool.or_eq_true,aep]at gl
    rcases gl with h5|h5
    ·exact h5.2
    ·exfalso
     have q1:=tf.isSl;have q2:=tf.isStr
     rw[hs]at q1;rw[h5]at q2
     cases u<;>simp[MG,strOf]at q1 q2
  ·unfold Lm at hk
   split at hk
   ·rename_i bD cj d gI
    have hh:=aO hk;clear hk;obtain⟨hb,hk⟩:=hh
    obtain⟨rfl,fm⟩:=dz hb
    obtain⟨nd,hk,adm⟩:=bW hk
    split at hk
    ·rename_i sz xs
     have hh:=aO hk;clear hk;obtain⟨ct,Kv,hk⟩:=hh
     simp only[aep]at ct
     obtain⟨hs,SE⟩:=ct
     have:=adS SE
     subst this
     refine bB dC hg hk fun ρ' κ' aA g a w G ak aY=>?_
     have hv:=hx ρ' κ' (aA.op mx) g n a w G ak aY
     have hle:=hl.val ak aY (fun y hy=>aA.op (ml y hy))
     have AA:=hh.val ak aY (fun y hy=>aA.op (mh y hy))
     obtain⟨b1,b2,b3⟩:=Kv aY
     have adn:κ' i=.tree ver cj d:=(aA.reads i (by simp)).trans gI
     obtain⟨u0,h1,_,bq⟩:=ak.fit.node adn (adm aY) rfl
     generalize xu:a.eval x=q at hv
     cases hv with|own _ _ _ _ _ Z4 hc=>
     have wy:=Z4
     rw[cV fm,h1]at wy
     injection wy with wy
     subst wy
     rcases bq with⟨rfl,rfl⟩|⟨gb,ob,cap,cc,tt,rfl,eU,hw,ac4,Ev⟩
     ·have NN:=cut (w:=w) hs xu hle AA b1 (by simpa using b2) (by simpa using b3) (aei _) (aca hs)
      refine⟨_,NN,?_⟩
      refine .pre _ _ _ _ _ _ _ _ _ fun c6=>?_
      simp at b3 c6;omega
     ·have NN:=cut (w:=w) hs xu hle AA b1 b2 b3 eU (aca hs)
      refine⟨_,NN,?_⟩
      refine .pre _ _ _ _ _ _ _ _ _ fun c6=>⟨_,_,_,Z4,?_⟩
      rw[if_neg (by omega)]
      rfl
    ·exact hk.elim
   ·exact hk.elim
  ·exact hk.elim
 ·exact B7 hT hg ho hn b8 gl hx hl hh hk
theorem tC{sz:Nat}{l:List DV}(oq:∀x,x∈l->x.aW){p:List PS}{n:DV}(h:get (.aD sz l) p=some n)(ho:n.au=true):p=[]/\n=.aD sz l:=by
 cases p with
 |nil=>simp[get]at h;exact⟨rfl,h.symm⟩
 |cons s p=>
  exfalso
  simp only[get]at h
  cases s with
  |key k j=>simp[step]at h
  |el i j=>
   simp only[step]at h
   cases hm:l[i]? with
   |none=>rw[hm]at h;simp at h
   |some x=>
    rw[hm]at h
    simp only at h
    cases hc:x.cells[j]? with
    |none=>rw[hc]at h;simp at h
    |some c=>
     rw[hc]at h
     simp only at h
     have FV:c.au=false:=oq x (adR hm) c (adR hc)
     cases p with
     |nil=>simp[get]at h;subst h;rw[FV]at ho;cases ho
     |cons s' p=>
      simp only[get]at h
      cases c<;>simp[step]at h<;>cases FV
end
end
section
open Go.RowKit
variable [cq]
section
variable {P:Program} {C:dY->Prop} {T:List TI} {ops:List Oper} {n:Nat} {o:Oper} {nx:Nat} {ρ:Nat->AV} {κ:Nat->az} {k:lQ->Nat->Prop} {gd:Bool}
theorem iP{f:Nat}(hf:gM P f)(args:Array Value)(w:World):(callFunc f args).run P w=.ok (.enter f args) w:=by
 obtain⟨fn,h1,h2,h3⟩:=hf
 have h3':¬fn.body=none:=by grind
 simp_all [callFunc,Sem.run]
def uC(P:Program)(ops:List Oper)(o:Oper)(ρ:Nat->AV)(κ:Nat->az)(gd:Bool)(f:Nat)(l:List AV):Prop:=
 (∀c,o.op≠.defer c)/\∀ρ' κ' rd bx,Es ops o ρ ρ' κ κ' rd bx->∀(g:dY) (n:Nat) (a:Act) (w:World) (G:Gh),cA g n ρ' κ' a w G->gd=true->gM P f->
  ∃vs:List Value,(execOp a.eval o).run P w=.ok (.enter f vs.toArray) w/\cC G l vs
theorem vJ{c:Call}{f:Nat}{l:List AV}(ho:o.op=.call c)(hc:c.callee=.value (.func f))(bP:l8 ρ κ gd c.args.toList l):uC P ops o ρ κ gd f l:=by
 refine⟨fun c=>by grind,?_⟩
 intro ρ' κ' rd bx aA g n a w G ak aY hf
 have cZ:(List.map a.eval c.args.toList).toArray=c.args.map a.eval:=by grind
 refine⟨_,?_,(l8.rel ak aY bP (fun x hx=>aA.op (by rw[ho];simp[Op.operands,hc];exact Array.mem_append.2 (.inr (by grind)))))⟩
 simp_all [execOp,resolve,Act.eval,Deferred.ofValue,invoke,iP]
theorem cC.append{G:Gh}{l l':List AV}{vs S4:List Value}(h:cC G l vs)(h':cC G l' S4):cC G (l++l') (vs++S4):=by
 refine⟨by simp[h.1,h'.1],fun j d v hd hv=>?_⟩
 rcases ad8 j l.length with ay|jd
 ·rw[List.getElem?_append_left ay]at hd
  rw[List.getElem?_append_left (by rwa[<-h.1])]at hv
  exact h.2 j d v hd hv
 ·rw[List.getElem?_append_right jd]at hd
  rw[List.getElem?_append_right (by rwa[<-h.1]),<-h.1]at hv
  exact h'.2 _ d v hd hv
theorem sB{c:Call}{f t:Nat}{l:List AV}{av:AV}(ho:o.op=.call c)(hc:c.callee=.value (.tmp t))(hv:bJ ρ κ gd (.tmp t) av)(bP:l8 ρ κ gd c.args.toList l){L:List AV}
 (hav:(∃bQ,av=.fn f bQ/\L=l++bQ)\/(∃first,av=.ko f first/\L=first++l)\/(∃bQ,av=.dv (.fn f bQ)/\L=l++eP bQ)):uC P ops o ρ κ gd f L:=by
 refine⟨fun c=>by grind,?_⟩
 intro ρ' κ' rd bx aA g n a w G ak aY hf
 have hrel:=l8.rel ak aY bP (fun x hx=>aA.op (by rw[ho];simp[Op.operands,hc];exact Array.mem_append.2 (.inr (by grind))))
 have qV:=hv ρ' κ' (aA.op (by rw[ho];simp only[Op.operands,Call.operands,hc];exact Array.mem_append.2 (.inl (by simp)))) g n a w G ak aY
 have cZ:(List.map a.eval c.args.toList).toArray=c.args.map a.eval:=by grind
 generalize hx:a.eval _=x at qV
 have acb:∀(vs:List Value),x=.func (.func f) #[] vs.toArray->∀bQ,cC G bQ vs->∃us:List Value,(execOp a.eval o).run P w=.ok (.enter f us.toArray) w/\cC G (l++bQ) us:=by
  rintro vs rfl bQ jT
  refine⟨c.args.toList.map a.eval++vs,?_,hrel.append jT⟩
  grind [List.map,execOp,resolve,Deferred.ofValue,invoke,iP]
 rcases hav with⟨bQ,rfl,rfl⟩|⟨first,rfl,rfl⟩|⟨bQ,rfl,rfl⟩
 ·cases qV with|fn _ _ vs hl hr=>exact acb vs rfl bQ ⟨hl,hr⟩
 ·cases qV with
  |ko _ _ vs hl hr=>
   refine⟨vs++c.args.toList.map a.eval,?_,cC.append ⟨hl,hr⟩ hrel⟩
   grind [List.map,execOp,resolve,Deferred.ofValue,invoke,iP]
 ·cases qV with|dv hd=>cases hd with|fn _ _ vs hl hr=>exact acb vs rfl _ (jw ⟨hl,hr⟩)
theorem uD{F:Fence}(hF:iO F){f:Nat}{a:Act}{w:World}{args:Array Value}{K:Act->World->Prop}(hd:∀c,o.op≠.defer c)(bH:(execOp a.eval o).run P w=.ok (.enter f args) w)
 (hc:Calls P f args w fun e w'=>∃v,e=.returned v/\K (a.put o.dst v) w'):o.wpIn F 0 P a w K (fun _ _ _=>False):=by
 refine⟨fun f _=>hF.fn f,?_⟩
 rw[Oper.semAt_plain F _ _ hd,bH,Oper.uponIn_enter]
 refine⟨fun h=>(by rw[hF.depth]at h;grind),hF.calls.2 (hc.mono ?_)⟩
 grind
def BOk(κ:Nat->az)(gd:Bool)(v:AV)(d:DV)(ids:List Nat):Prop:=
 gd=true->∀κ' G w x,(∀i,i∈ids->κ' i=κ i)->Fit G w κ'->aI G v x->∀M',Mem.Le G.M M'->(∀i,i∈ids->∀b,cD G i (κ' i) b->M' b=w.heap[b]?)->bu M' d x
def J6(κ:Nat->az)(gd:Bool)(l:List AV)(ds:List DV)(ids:List Nat):Prop:=
 gd=true->∀κ' G w xs,(∀i,i∈ids->κ' i=κ i)->Fit G w κ'->cC G l xs->∀M',Mem.Le G.M M'->(∀i,i∈ids->∀b,cD G i (κ' i) b->M' b=w.heap[b]?)->fP M' ds xs
theorem Ep{v:AV}{q:DV->List Nat->Prop}(h:Ji κ gd v q):∃d ids,q d ids/\BOk κ gd v d ids:=by
 unfold Ji at h
 split at h
 ·rename_i d
  refine⟨d,[],h,fun _ κ' G w x _ _ hv M' hle _=>?_⟩
  cases hv with|dv hv=>exact hv.mono hle
 ·rename_i i ver ep p
  split at h
  ·rename_i bD cj d hk
   cases hb:Nat.beq ver bD&&(emp p||Nat.beq ep cj)with
   |false=>grind
   |true=>
    rw[hb]at h
    obtain⟨rfl,fm⟩:=dz hb
    obtain⟨nd,h,dC⟩:=bW h
    cases ho:nd.au with
    |false=>grind
    |true=>
     rw[ho]at h
     refine⟨oY nd,[i],h,fun aY κ' G w x aA hf hv M' hle hM=>?_⟩
     have he:=aA i (by simp)
     have fF:=hf.box i
     rw[he,hk]at fF
     cases hv with|own _ _ _ _ _ hh hc=>
     rw[cV fm]at hh
     exact fF.1.frozen hle (fun b hb=>hM i (by simp) b (by rwa[he,hk])) (SizeOf.sizeOf nd+1) p nd x (by omega) (dC aY) ho hh
  grind
 ·refine⟨_,[],h,fun _ κ' G w x _ _ hv M' hle _=>?_⟩
  cases hv with|fn _ _ vs hl hr=>
  have:=by simpa using hl.symm
  subst this
  exact .fn _ [] [] rfl (by simp)
 ·exact⟨_,[],h.2,fun aY=>by grind⟩
theorem J6.cons{v:AV}{l:List AV}{d:DV}{ds:List DV}{i j:List Nat}(h:BOk κ gd v d i)(h':J6 κ gd l ds j):J6 κ gd (v::l) (d::ds) (i++j):=by
 intro aY κ' G w xs aA hf hr M' hle hM
 match xs,hr with
 |[],hr=>have:=hr.1;grind
 |x::xs,hr=>
  exact .cons (h aY κ' G w x (fun q hq=>aA q (by grind)) hf (hr.2 0 v x rfl rfl) M' hle fun q hq=>hM q (by grind)) (h' aY κ' G w xs (fun q hq=>aA q (by grind)) hf ⟨by simpa using hr.1,fun q e y he hy=>hr.2 (q+1) e y (by grind) (by grind)⟩ M' hle fun q hq=>hM q (by grind))
theorem J6.nil:J6 κ gd [] [] []:=by
 intro aY κ' G w xs aA hf hr M' hle hM
 have:=by have:=hr.1;simpa using this.symm
 subst this;exact .nil _
theorem wA{v:AV}{q:DV->List Nat->Prop}(h:QC κ gd v q):∃d ids,q d ids/\BOk κ gd v d ids:=by
 obtain⟨d,ids,h1,h2⟩:=Ep h
 exact⟨d,ids,h1,fun aY κ' G w x aA hf hv M' hle hM=>h2 aY κ' G w x aA hf (AZ hv) M' hle hM⟩
theorem tY:∀{l:List AV} {q:List DV->List Nat->Prop},Jj κ gd l q->∃ds ids,q ds ids/\J6 κ gd l ds ids
 |[],q,h=>⟨[],[],h,.nil⟩
 |v::l,q,h=>by
  obtain⟨d,i,h,h1⟩:=wA h
  obtain⟨ds,j,h,h2⟩:=tY h
  exact⟨_,_,h,.cons h1 h2⟩
theorem J7{v:AV}{q:DV->List Nat->Prop}(h:Yi κ gd v q):∃d ids,q d ids/\BOk κ gd v d ids:=by
 unfold Yi at h
 split at h
 ·rename_i l
  cases hc:ca l with
  |false=>grind
  |true=>
   rw[hc]at h
   obtain⟨ds,ids,h,h1⟩:=tY h
   refine⟨_,_,h,fun aY κ' G w x aA hf hv M' hle hM=>?_⟩
   cases hv with|agg _ vs hl hr=>
   have h2:=h1 aY κ' G w vs aA hf ⟨hl,hr⟩ M' hle hM
   exact .agg ds vs h2.1 (sw (G':={ G with M:=M' }) h2 (cC.cU ⟨hl,hr⟩ hc)) h2.2
 ·exact wA h
theorem wB:∀{l:List AV} {q:List DV->List Nat->Prop},Gs κ gd l q->∃ds ids,q ds ids/\J6 κ gd l ds ids
 |[],q,h=>⟨[],[],h,.nil⟩
 |v::l,q,h=>by
  obtain⟨d,i,h,h1⟩:=J7 h
  obtain⟨ds,j,h,h2⟩:=wB h
  exact⟨_,_,h,.cons h1 h2⟩
theorem HO{av:AV}{rd:List Nat}(hg:b9 ρ ops o.guard=some gd)(hk:bl n o gd nx k av rd)
 (h:∀ρ' κ',Es ops o ρ ρ' κ κ' rd []->∀(F:Fence),iO F->∀(g:dY) (a:Act) (w:World) (G:Gh),cA g n ρ' κ' a w G->gd=true->∀(K:Act->World->Prop),
  (∀v w' G',cA g n ρ' κ' a w' G'->aI G' av v->K (a.put o.dst v) w')->o.wpIn F 0 P a w K (fun _ _ _=>False)):Good P C ops n o nx ρ κ k:=by
 unfold bl at hk
 split at hk
 ·rename_i lX hn
  refine⟨_,_,hk,aei _,by simp,fun F hF ρ' κ' aA g a w dN ⟨G,ak⟩=>?_⟩
  have sC:gd=true:=by rw[hn]at hg;injection hg with hg;grind
  unfold nI
  rw[cB hg aA.cn ak,sC,if_pos rfl]
  exact h ρ' κ' aA F hF g a w G ak sC _ fun v w' G' h1 h2=>⟨G',by rwa[lX]⟩
 ·grind
 ·rename_i d lX hn
  cases ay:Nat.blt d n with
  |false=>grind
  |true=>
   rw[ay]at hk
   refine⟨_,_,hk,aei _,by simp,fun F hF ρ' κ' aA g a w dN ⟨G,ak⟩=>?_⟩
   have sC:gd=true:=by rw[hn]at hg;injection hg with hg;grind
   unfold nI
   rw[cB hg aA.cn ak,sC,if_pos rfl]
   exact h ρ' κ' aA F hF g a w G ak sC _ fun v w' G' h1 h2=>⟨G',by rw[lX];exact h1.put (by simp_all) h2⟩
 ·rename_i d j lX hn
  cases ay:Nat.blt d n with
  |false=>grind
  |true=>
   rw[ay]at hk
   have rG:=by rwa[Nat.blt_eq]at ay
   refine⟨_,_,hk,aei _,by simp,fun F hF ρ' κ' aA g a w dN ⟨G,ak⟩=>?_⟩
   unfold nI
   rw[cB hg aA.cn ak]
   cases gd with
   |true=>
    rw[if_pos rfl]
    exact h ρ' κ' aA F hF g a w G ak rfl _ fun v w' G' h1 h2=>⟨G',by rw[lX];exact h1.put rG (.opt true av v (fun _=>h2) (by simp))⟩
   |false=>
    simp[lX]
    exact⟨G,ak.put rG (.opt false av undef (by simp) (fun _=>rfl))⟩
theorem nX.HP{f:Nat}{ds rs:List DV}(h:nX P f ds rs):gM P f:=by obtain⟨_,_,h,_⟩:=h;grind
open Classical in
noncomputable def qO (G:Gh) (w:World) (κ:Nat->az) (ids:List Nat):Mem:=fun b=>if ∃i,i∈ids/\cD G i (κ i) b then w.heap[b]? else G.M b
theorem J8{G:Gh}{w:World}{κ:Nat->az}{ids:List Nat}(hf:Fit G w κ):(qO G w κ ids).In w:=by
 intro b x hb
 unfold qO at hb
 split at hb
 ·grind
 ·exact hf.sub b x hb
theorem zX{G:Gh}{w:World}{κ:Nat->az}{ids:List Nat}(hf:Fit G w κ):Mem.Le G.M (qO G w κ ids):=by
 intro b x hb
 unfold qO
 split
 ·rename_i h;obtain⟨i,_,ho⟩:=h;rw[hf.own i b ho]at hb;grind
 grind
theorem HQ{G:Gh}{w:World}{κ:Nat->az}{ids:List Nat}{i b:Nat}(hi:i∈ids)(ho:cD G i (κ i) b):qO G w κ ids b=w.heap[b]?:=by
 unfold qO
 rw[if_pos ⟨i,hi,ho⟩]
theorem SH{f:Nat}{l:List AV}(hn:∀i,nx<=i->κ i=.none)(hg:b9 ρ ops o.guard=some gd)(bP:uC P ops o ρ κ gd f l)(h:zh P n o nx κ gd k f l):Good P C ops n o nx ρ κ k:=by
 have adM:(Gs κ gd l fun ds ids=>∃rs,(gd=true->nX P f ds rs)/\yX rs=true/\bl n o gd nx k (yW rs) ids)->Good P C ops n o nx ρ κ k:=by
  intro h
  obtain⟨ds,ids,⟨rs,hc,km,hk⟩,hb⟩:=wB h
  refine HO hg hk fun ρ' κ' aA F hF g a w G ak aY K hK=>?_
  obtain⟨es,hle,hcb,lO⟩:=hc aY
  obtain⟨vs,bH,hrel⟩:=bP.2 ρ' κ' _ _ aA g n a w G ak aY hcb
  refine uD hF bP.1 bH ((lO w _ vs (J8 ak.fit) ((ak.o7.mono ak.mem).mono (zX ak.fit)) (hle.Tc (hb aY κ' G w vs aA.reads ak.fit hrel _ (zX ak.fit) (fun i hi b ho=>HQ hi ho)))).mono ?_)
  rintro e w' ⟨v,M',rfl,VB,acd,dr,Aj,gK⟩
  refine⟨v,rfl,?_⟩
  have hM:∀b,(if b<w.heap.size then G.M b else M' b)=(fun b=>if b<w.heap.size then G.M b else M' b) b:=fun _=>rfl
  obtain⟨h1,h2⟩:=ak.grown (M':=fun b=>if b<w.heap.size then G.M b else M' b) VB
   (fun b x hx=>by
    simp[if_pos ((ad2.1 (ak.fit.sub b x hx)).1)];grind)
   (fun b x hx=>by
    by_cases ay:b<w.heap.size
    ·simp[if_pos ay]at hx;rw[VB.block b ay];exact ak.fit.sub b x hx
    ·simp[if_neg ay]at hx;exact dr b x hx)
   (fun b hb=>by grind)
  exact hK v w' _ h1 (LM (Ss km gK))
 have LP:∀{ds:List DV} {rs:List DV} {ids:List Nat} {κ':Nat->az} {g:dY} {a:Act} {w:World} {G:Gh} {F:Fence} {ρ':Nat->AV} {vs:List Value} {K:Act->World->Prop},iO F->nX P f ds rs->cA g n ρ' κ' a w G->fP G.M ds vs->(execOp a.eval o).run P w=.ok (.enter f vs.toArray) w->
  (∀v w' G',cA g n ρ' κ' a w' G'->aI G' (yW rs) v->K (a.put o.dst v) w')->o.wpIn F 0 P a w K (fun _ _ _=>False):=by
  intro ds rs ids κ' g a w G F ρ' vs K hF hc ak hd bH hK
  obtain⟨es,hle,hcb,lO⟩:=hc
  refine uD hF bP.1 bH ((lO w _ vs ak.fit.sub (ak.o7.mono ak.mem) (hle.Tc hd)).mono ?_)
  rintro e w' ⟨v,M',rfl,VB,acd,dr,Aj,gK⟩
  refine⟨v,rfl,?_⟩
  obtain⟨h1,h2⟩:=ak.grown VB acd dr Aj
  exact hK v w' _ h1 (LM gK)
 unfold zh at h
 split at h
 ·rename_i ds Aa
  obtain⟨rs,hc,hk⟩:=h
  refine HO hg hk fun ρ' κ' aA F hF g a w G ak aY K hK=>?_
  obtain⟨vs,bH,hrel⟩:=bP.2 ρ' κ' _ _ aA g n a w G ak aY (hc aY).HP
  exact LP (ids:=[]) hF (hc aY) ak (kA (all:=[]) (by simp) (Gh.Le.refl G) (by simpa[mu,aF]using ak.fit) Aa (by simp) hrel) bH hK
 ·rename_i ds ids c6 Aa
  rcases h with h|⟨rs,hc,hk⟩
  ·grind
  ·refine Ly bP.1 hg hk (aei _) (fun p hp=>uB hn hp) fun ρ' κ' aA F hF g a w G dN ak aY K hK=>?_
   obtain⟨vs,bH,hrel⟩:=bP.2 ρ' κ' _ _ aA g n a w G ak aY (hc aY).HP
   obtain⟨G1,f1,f2,f3,f4,f5⟩:=ak.qq ids aA.reads
   exact LP (ids:=[]) hF (hc aY) f5 (kA aA.reads f1 f5.fit Aa (fun i hi=>hi) hrel) bH hK
 grind
end
end
section
open Go.RowKit
variable [cq]
section
variable {P:Program} {C:dY->Prop} {T:List TI} {ops:List Oper} {n:Nat} {o:Oper} {nx:Nat} {ρ:Nat->AV} {κ:Nat->az} {k:lQ->Nat->Prop} {gd:Bool}
theorem pj{x:Operand}{v:AV}(h:ev ρ κ x=v):bJ ρ κ gd x v:=by
 intro ρ' κ' aA g n a w G ak _
 rw[<-h]
 exact A9 ρ' κ' aA g n a w G ak
theorem vz{x:Operand}{v:AV}{g':Bool}(h:ev ρ κ x=.opt g' v)(hg:gd=true->g'=true)(hr:res κ v=v):bJ ρ κ gd x v:=by
 have:=GU h hg
 rwa[hr]at this
theorem SI{c x y:Operand}(hg:b9 ρ ops o.guard=some gd)(ho:o.op=.pick c x y)
 (h:match ev ρ κ c,ev ρ κ x,ev ρ κ y with
  |.dv (.bool b),.dv (.bool p),.dv (.bool q)=>bl n o gd nx k (.dv (.bool (bif b then p else q))) []
  |.dv (.bool b),.opt gp (.dv (.bool p)),.dv (.bool q)=>(gd=true->b=true->gp=true)/\bl n o gd nx k (.dv (.bool (bif b then p else q))) []
  |.dv (.bool b),.dv (.bool p),.opt gq (.dv (.bool q))=>(gd=true->b=false->gq=true)/\bl n o gd nx k (.dv (.bool (bif b then p else q))) []
  |.opt gb (.dv (.bool b)),.opt gp (.dv (.bool p)),.dv (.bool q)=>(gd=true->gb=true/\(b=true->gp=true))/\bl n o gd nx k (.dv (.bool (bif b then p else q))) []
  |.opt gb (.dv (.bool b)),.dv (.bool p),.opt gq (.dv (.bool q))=>(gd=true->gb=true/\(b=false->gq=true))/\bl n o gd nx k (.dv (.bool (bif b then p else q))) []
  |_,_,_=>False):Good P C ops n o nx ρ κ k:=by
 split at h
 ·rename_i b p q h1 h2 h3
  exact nU hg ho h (pj h1) (pj h2) (pj h3)
 ·rename_i b gp p q h1 h2 h3
  exact nU hg ho h.2 (pj h1) (vz h2 (by simp only[aep];exact fun hh=>h.1 hh.1 hh.2) rfl) (pj h3)
 ·rename_i b p gq q h1 h2 h3
  exact nU hg ho h.2 (pj h1) (pj h2) (vz h3 (by simp only[aep,aer];exact fun hh=>h.1 hh.1 hh.2) rfl)
 ·rename_i gb b gp p q h1 h2 h3
  exact nU hg ho h.2 (vz h1 (fun hh=>(h.1 hh).1) rfl) (vz h2 (by simp only[aep];exact fun hh=>(h.1 hh.1).2 hh.2) rfl) (pj h3)
 ·rename_i gb b p gq q h1 h2 h3
  exact nU hg ho h.2 (vz h1 (fun hh=>(h.1 hh).1) rfl) (pj h2) (vz h3 (by simp only[aep,aer];exact fun hh=>(h.1 hh.1).2 hh.2) rfl)
 ·exact h.elim
theorem VC(hT:fD P T){c:Call}{x:Operand}{t:Nat}{v:AV}(hg:b9 ρ ops o.guard=some gd)(ho:o.op=.call c)(hc:c.callee=.builtin .len)(ha:c.args.toList=[x])(lM:c.argTypes.toList=[t])
 (bP:bJ ρ κ gd x v) (h:CL (nth T t) κ gd v fun r rd=>bl n o gd nx k r rd):Good P C ops n o nx ρ κ k:=by
 unfold CL at h
 split at h
 ·have hh:=aO h;clear h;obtain⟨hb,h⟩:=hh
  simp only[aep]at hb
  refine sr hT hg ho hc ha lM h bP hb.1 fun _ κ' _ G w v _ hv=>.inl ⟨hb.2,?_⟩
  cases hv with|dv hv=>cases hv with
  |slnil=>exact⟨_,_,_,rfl,rfl⟩
  |sl=>exact⟨_,_,_,rfl,rfl⟩
 ·have hh:=aO h;clear h;obtain⟨hb,h⟩:=hh
  simp only[aep]at hb
  refine sr hT hg ho hc ha lM h bP hb.1 fun _ κ' _ G w v _ hv=>.inl ⟨hb.2,?_⟩
  cases hv with|dv hv=>cases hv with
  |aw=>exact⟨_,_,_,rfl,rfl⟩
 ·have hh:=aO h;clear h;obtain⟨hb,h⟩:=hh
  simp only[aep]at hb
  refine sr hT hg ho hc ha lM h bP hb.1 fun _ κ' _ G w v _ hv=>.inr (.inl ⟨hb.2,?_⟩)
  cases hv with|dv hv=>cases hv with
  |str=>exact⟨_,rfl,rfl⟩
 ·rename_i i ver ep p
  split at h
  ·rename_i bD cj d hk
   have hh:=aO h;clear h;obtain⟨hb,h⟩:=hh
   obtain⟨rfl,fm⟩:=dz hb
   obtain⟨nd,h,dC⟩:=bW h
   split at h
   ·rename_i sz l
    have hh:=aO h;clear h;obtain⟨hb,h⟩:=hh
    simp only[aep]at hb
    refine sr hT hg ho hc ha lM h bP hb.1 fun aY κ' aA G w v hf hv=>.inl ⟨hb.2,?_⟩
    obtain⟨u,h1,_,bq⟩:=hf.node ((aA i (by simp)).trans hk) (dC aY) rfl
    cases hv with|own _ _ _ _ _ hh hc=>
    rw[cV fm,h1]at hh
    injection hh with hh
    subst hh
    rcases bq with⟨rfl,rfl⟩|⟨gb,ob,cap,cc,tt,rfl,_⟩
    ·exact⟨_,_,_,rfl,rfl⟩
    ·exact⟨_,_,_,rfl,rfl⟩
   ·rename_i ks m
    have hh:=aO h;clear h;obtain⟨hb,h⟩:=hh
    simp only[aep]at hb
    refine sr hT hg ho hc ha lM h bP hb.1 fun aY κ' aA G w v hf hv=>.inr (.inr ⟨hb.2,?_⟩)
    obtain⟨u,h1,_,bq⟩:=hf.node ((aA i (by simp)).trans hk) (dC aY) rfl
    cases hv with|own _ _ _ _ _ hh hc=>
    rw[cV fm,h1]at hh
    injection hh with hh
    subst hh
    obtain⟨m0,wW,gb,es,clock,rfl,hw,cb,_⟩:=bq
    exact⟨gb,es,clock,rfl,hw,by rw[cb,wW.length_eq]⟩
   ·exact h.elim
  ·exact h.elim
 ·have hh:=aO h;clear h;obtain⟨hb,h⟩:=hh
  simp only[aep]at hb
  refine sr hT hg ho hc ha lM h bP hb.1 fun _ κ' _ G w v _ hv=>.inl ⟨hb.2,?_⟩
  cases hv
  exact⟨_,_,_,rfl,rfl⟩
 ·have hh:=aO h;clear h;obtain⟨hb,h⟩:=hh
  simp only[aep]at hb
  refine sr hT hg ho hc ha lM h bP hb.1 fun _ κ' _ G w v _ hv=>.inl ⟨hb.2,?_⟩
  cases hv
  exact⟨_,_,_,rfl,rfl⟩
 ·exact h.elim
theorem wV{x:Operand}{i ver ep cj:Nat}{p:List PS}{d y:DV}(hg:b9 ρ ops o.guard=some gd)(ho:o.op=.nilCheck x)(hk:κ i=.tree ver cj d)(fm:p=[]\/ep=cj)(dC:gd=true->get d p=some (.gC y))
 (hr:bl n o gd nx k (.loc i ver ep p 1 0 0) [i]) (bP:bJ ρ κ gd x (.own i ver ep p)):Good P C ops n o nx ρ κ k:=by
 refine bB (fun c=>by rw[ho];simp) hg hr fun ρ' κ' aA g a w G ak aY=>?_
 have hv:=bP ρ' κ' (aA.op (by rw[ho];simp[Op.operands])) g n a w G ak aY
 generalize hx:a.eval x=v at hv
 obtain⟨u,h1,_,bq⟩:=ak.fit.node ((aA.reads i (by simp)).trans hk) (dC aY) rfl
 cases hv with|own _ _ _ _ _ hh hc=>
 have Z4:=hh
 rw[cV fm,h1]at hh
 injection hh with hh
 subst hh
 obtain⟨gb,c,t,rfl,hw,_⟩:=bq
 refine⟨.pointer (some ⟨gb,0,none⟩),by simp[execOp,ho,hx],?_⟩
 have:=aI.qQ (G:=G) i ver ep p 1 0 0 _ Z4
 rw[fe]at this
 exact this
theorem AN(hT:fD P T){t f:Nat}{x:Operand}{v:AV}(hg:b9 ρ ops o.guard=some gd)(ho:o.op=.fieldAddr t x f)
 (h:match(nth T t).ok,(nth T t).fields[f]? with
  |true,some (off,sz+1)=>match v with
   |.ptr i o'=>bl n o gd nx k (.ptr i (o'+off)) []
   |.dv (.at x o')=>bl n o gd nx k (.dv (.at x (o'+off))) []
   |.loc i ver ep p pE idx o'=>bl n o gd nx k (.loc i ver ep p pE idx (o'+off)) []
   |_=>False
  |_,_=>False) (bP:bJ ρ κ gd x v):Good P C ops n o nx ρ κ k:=by
 split at h
 ·rename_i off sz b8 hf
  split at h
  ·refine od hT hg ho b8 hf h bP (fun G v hv=>?_)
   cases hv with
   |ptr _ _ b hb=>
    refine⟨_,rfl,?_⟩
    rw[fe]
    exact .ptr _ _ b hb
  ·refine od hT hg ho b8 hf h bP (fun G v hv=>?_)
   cases hv with|dv hv=>cases hv with
   |_=>
    rename_i A cell oq hc hr
    refine⟨_,rfl,?_⟩
    rw[cQ]
    exact .dv (.at _ _ A cell oq hc hr)
  ·refine od hT hg ho b8 hf h bP (fun G v hv=>?_)
   cases hv with
   |loc _ _ _ _ _ _ _ A m c he=>
    refine⟨_,rfl,?_⟩
    rw[cQ,Nat.add_assoc]
    exact .loc _ _ _ _ _ _ _ A m c he
   |qQ _ _ _ _ _ _ _ A he=>
    refine⟨_,rfl,?_⟩
    rw[cQ,Nat.add_assoc]
    exact .qQ _ _ _ _ _ _ _ A he
  ·exact h.elim
 ·exact h.elim
theorem NT(hT:fD P T){t f:Nat}{x:Operand}{v:AV}(hg:b9 ρ ops o.guard=some gd)(ho:o.op=.field t x f)
 (h:match(nth T t).ok,(nth T t).fields[f]?,(nth T t).CI[f]? with
  |true,some (off,sz+1),some ft=>match v with
   |.agg l=>bif (nth T ft).ok&&Nat.beq (nth T ft).size (sz+1)then cr (nth T ft).agg l off (sz+1) fun v=>bl n o gd nx k v []else False
   |_=>False
  |_,_,_=>False) (bP:bJ ρ κ gd x v):Good P C ops n o nx ρ κ k:=by
 split at h
 ·rename_i off sz ft b8 hf hft
  split at h
  ·have hh:=aO h;clear h;obtain⟨hb,h⟩:=hh
   simp only[aep]at hb
   exact Su hT hg ho b8 hf hft hb.1 (adS hb.2) h bP
  ·exact h.elim
 ·exact h.elim
theorem NU(hT:fD P T){t:Nat}{x i:Operand}{v iv:AV}(hg:b9 ρ ops o.guard=some gd)(ho:o.op=.indexAddr t x i)
 (h:bif (nth T t).ok&&(nth T t).isSl&&(nth T (nth T t).elem).ok then
  match v,iv with
  |.dv (.sl sz l),.dv (.int _ m)=>bif Nat.beq sz (nth T (nth T t).elem).size then ∃x,(gd=true->0<=m/\l[m.toNat]?=some x)/\bl n o gd nx k (.dv (.at x 0)) []else False
  |.own j ver ep p,.dv (.int _ m)=>match κ j with
   |.tree bD cj d=>bif Nat.beq ver bD&&(emp p||Nat.beq ep cj)then ke gd d p fun nd=>match nd with
    |.aD sz l=>bif Nat.beq sz (nth T (nth T t).elem).size then(gd=true->0<=m/\m<l.length)/\bl n o gd nx k (.loc j ver ep p sz m.toNat 0) [j]else False
    |_=>False
    else False
   |_=>False
  |.sle j len,.dv (.int _ m)=>(gd=true->0<=m/\m<len)/\bl n o gd nx k (.ptr j (m.toNat*(nth T (nth T t).elem).size)) []
  |.pre j ver ep p sz lo len,.dv (.int _ m)=>bif Nat.beq sz (nth T (nth T t).elem).size then(gd=true->0<=m/\m<len)/\bl n o gd nx k (.loc j ver ep p sz (lo+m.toNat) 0) []else False
  |_,_=>False
  else False) (bP:bJ ρ κ gd x v) (qc:bJ ρ κ gd i iv):Good P C ops n o nx ρ κ k:=by
 have hh:=aO h;clear h;obtain⟨hb,h⟩:=hh
 simp only[aep]at hb
 split at h
 ·have hh:=aO h;clear h;obtain⟨ct,x,hy,h⟩:=hh
  exact Ht hT hg ho hb.1.1 hb.1.2 hb.2 (adS ct) hy h bP qc
 ·split at h
  ·rename_i hk
   have hh:=aO h;clear h;obtain⟨ct,h⟩:=hh
   obtain⟨rfl,fm⟩:=dz ct
   obtain⟨nd,h,dC⟩:=bW h
   split at h
   ·have hh:=aO h;clear h;obtain⟨HW,hy,h⟩:=hh
    exact D7 hT hg ho hb.1.1 hb.1.2 hb.2 (adS HW) hk fm dC hy h bP qc
   ·exact h.elim
  ·exact h.elim
 ·exact D8 hT hg ho hb.1.1 hb.1.2 hb.2 h.1 h.2 bP qc
 ·have hh:=aO h;clear h;obtain⟨ct,hy,h⟩:=hh
  exact D9 hT hg ho hb.1.1 hb.1.2 hb.2 (adS ct) hy h bP qc
 ·exact h.elim
theorem J9(hT:fD P T){t:Nat}{x i:Operand}{v iv:AV}(hg:b9 ρ ops o.guard=some gd)(ho:o.op=.indexAddr t x i)
 (h:CO (nth T t) (nth T (nth T t).elem) gd v iv fun v=>bl n o gd nx k v []) (bP:bJ ρ κ gd x v) (qc:bJ ρ κ gd i iv):Good P C ops n o nx ρ κ k:=by
 have hh:=aO h;clear h;obtain⟨hb,h⟩:=hh
 simp only[aep]at hb
 have EX:=adS hb.1.2
 split at h
 ·rename_i kd m
  obtain⟨hm,h⟩:=h
  split at h
  ·rename_i y off
   refine oh hT hg ho hb.1.1 EX hb.2 hm h bP qc fun G v hv=>?_
   cases hv with|dv hv=>cases hv with|«at» _ _ A cell oq hc hr=>
   exact⟨_,rfl,.dv (by rw[cQ];exact .at y _ A cell oq hc hr)⟩
  ·rename_i j off
   refine oh hT hg ho hb.1.1 EX hb.2 hm h bP qc fun G v hv=>?_
   cases hv with|ptr _ _ b hb=>
   exact⟨_,rfl,by rw[show(⟨b,off,none⟩:Addr).add (m.toNat*(nth T (nth T t).elem).size)=⟨b,off+m.toNat*(nth T (nth T t).elem).size,none⟩by unfold Addr.add;split<;>simp[*]];exact .ptr j _ b hb⟩
  ·rename_i j ver ep p sz idx off
   refine oh hT hg ho hb.1.1 EX hb.2 hm h bP qc fun G v hv=>?_
   cases hv with
   |loc _ _ _ _ _ _ _ A n c e=>exact⟨_,rfl,by rw[cQ,Nat.add_assoc];exact .loc j ver ep p sz idx _ A n c e⟩
   |qQ _ _ _ _ _ _ _ A e=>exact⟨_,rfl,by rw[cQ,Nat.add_assoc];exact .qQ j ver ep p sz idx _ A e⟩
  ·exact h.elim
 ·exact h.elim
theorem SJ(hT:fD P T){t:Nat}{x:Operand}{v:AV}(hg:b9 ρ ops o.guard=some gd)(ho:o.op=.load t x)(b8:(nth T t).ok=true)
 (h:match v with
  |.ptr i off=>match κ i with
   |.cells l=>cr (nth T t).agg l off (nth T t).size fun v=>bl n o gd nx k v [i]
   |_=>False
  |.dv (.at x off)=>cr (nth T t).agg (eP x.cells) off (nth T t).size fun v=>bl n o gd nx k v []
  |.loc i ver ep p sz idx off=>match κ i with
   |.tree bD cj d=>bif Nat.beq ver bD&&(emp p||Nat.beq ep cj)then ke gd d p fun nd=>kP i ver cj p gd sz idx nd fun l=>
    cr (nth T t).agg l off (nth T t).size fun v=>bl n o gd nx k v [i]
    else False
   |_=>False
  |_=>False) (bP:bJ ρ κ gd x v):Good P C ops n o nx ρ κ k:=by
 split at h
 ·split at h
  ·rename_i hk
   exact GX hT hg ho b8 hk h bP
  ·exact h.elim
 ·exact JD hT hg ho b8 h bP
 ·split at h
  ·rename_i hk
   have hh:=aO h;clear h;obtain⟨ct,h⟩:=hh
   obtain⟨rfl,fm⟩:=dz ct
   exact GY hT hg ho b8 hk fm h bP
  ·exact h.elim
 ·exact h.elim
theorem NV(hT:fD P T){t:Nat}{x y:Operand}{p v:AV}(hn:∀i,nx<=i->κ i=.none)(hg:b9 ρ ops o.guard=some gd)(ho:o.op=.store t x y)(b8:(nth T t).ok=true)
 (h:bif Nat.beq (cellsOf v).length (nth T t).size&&ca (cellsOf v)then
  match p with
  |.ptr i off=>match κ i with
   |.cells l=>bif Nat.ble (off+(nth T t).size) l.length then dQ n o nx k .any [(i,.cells (iQ l off (cellsOf v)))] [i]else False
   |_=>False
  |.loc i ver ep p sz idx off=>qy n o nx κ k i ver ep p sz idx off (cellsOf v)
  |_=>False
  else False) (bP:bJ ρ κ gd x p) (KR:bJ ρ κ gd y v):Good P C ops n o nx ρ κ k:=by
 have hh:=aO h;clear h;obtain⟨hb,h⟩:=hh
 simp only[aep]at hb
 have jE:=adS hb.1
 split at h
 ·rename_i i off
  split at h
  ·rename_i l hk
   have hh:=aO h;clear h;obtain⟨ct,h⟩:=hh
   have ay:i<nx:=by
    rcases ad8 i nx with h|h
    ·exact h
    ·rw[hn i h]at hk;cases hk
   exact Ee hT hg ho b8 hk jE hb.2 (Nat.le_of_ble_eq_true ct) h ay bP KR
  ·exact h.elim
 ·exact Eg hT hg ho hn b8 jE hb.2 h bP KR
 ·exact h.elim
structure Kg(P:Program)(C:dY->Prop)(ops:List Oper)(n:Nat)(o:Oper)(nx:Nat)(ρ:Nat->AV)(κ:Nat->az)(k:lQ->Nat->Prop):Prop where
 call:∀{gd:Bool} {f:Nat} {l:List AV},b9 ρ ops o.guard=some gd->uC P ops o ρ κ gd f l->ka none (bU P f) n o gd nx κ k l->Good P C ops n o nx ρ κ k
 fa:∀{gd:Bool} {c:Call} {t i:Nat} {l:List AV},b9 ρ ops o.guard=some gd->o.op=.call c->c.callee=.value (.tmp t)->bJ ρ κ gd (.tmp t) (.fa i)->l8 ρ κ gd c.args.toList l->
  ka (some i) (dP P) n o gd nx κ k l->Good P C ops n o nx ρ κ k
theorem uq(hT:fD P T)(hn:∀i,nx<=i->κ i=.none)(hR:Kg P C ops n o nx ρ κ k)(h:qn P T ops n o nx ρ κ k):Good P C ops n o nx ρ κ k:=by
 have jS:∀{gd:Bool} {f:Nat} {l:List AV},b9 ρ ops o.guard=some gd->uC P ops o ρ κ gd f l->(zh P n o nx κ gd k f l\/ka none (bU P f) n o gd nx κ k l)->Good P C ops n o nx ρ κ k:=by
  intro gd f l hg bP h
  rcases h with h|h
  ·exact SH hn hg bP h
  ·exact hR.call hg bP h
 unfold qn at h
 split at h
 ·exact h.elim
 ·rename_i gd hg
  split at h
  ·rename_i x ho
   exact Va hg ho h
  ·rename_i x ho
   obtain⟨v,h,bP⟩:=aK h
   exact Nn hg ho h bP
  ·rename_i x ho
   obtain⟨v,h,bP⟩:=aK h
   split at h
   ·exact p7 hg ho h bP (fun G v hv=>by cases hv;exact⟨_,rfl⟩)
   ·exact p7 hg ho h bP (fun G v hv=>by cases hv<;>exact⟨_,rfl⟩)
   ·exact p7 hg ho h bP (fun G v hv=>by cases hv with|dv hv=>cases hv;exact⟨_,rfl⟩)
   ·split at h
    ·rename_i hk
     have hh:=aO h;clear h;obtain⟨hb,h⟩:=hh
     obtain⟨rfl,fm⟩:=dz hb
     obtain⟨nd,h,dC⟩:=bW h
     split at h
     ·exact wV hg ho hk fm dC h bP
     ·exact h.elim
    ·exact h.elim
   ·exact h.elim
  ·rename_i c x y ho
   exact SI hg ho h
  ·rename_i op t x y ty ho
   obtain⟨va,h,YC⟩:=aK h
   obtain⟨vb,h,YD⟩:=aK h
   cases hb:vb.lk with
   |false=>
    rw[hb]at h
    cases ha:va.ag with
    |false=>rw[ha]at h;exact Ri hT hg ho YC YD h
    |true=>rw[ha]at h;exact Y8 hT hg ho YC YD h
   |true=>
    rw[hb]at h
    have hb:vb=.dv .aw:=by
     cases vb with
     |dv d=>cases d<;>simp[AV.lk]at hb;rfl
     |_=>simp[AV.lk]at hb
    subst hb
    exact JU hT hg ho YC YD h
  ·rename_i op t x ho
   obtain⟨v,h,bP⟩:=aK h
   split at h
   ·exact YE hg ho h bP
   ·exact YF hg ho h bP
   ·exact h.elim
  ·rename_i x i ho
   obtain⟨v,h,bP⟩:=aK h
   split at h
   ·split at h
    ·rename_i hl
     rw[force_eq]at h
     exact JC hg ho h hl bP
    ·exact h.elim
   ·exact h.elim
  ·rename_i t x f ho
   obtain⟨v,h,bP⟩:=aK h
   exact NT hT hg ho h bP
  ·rename_i t x f ho
   obtain⟨v,h,bP⟩:=aK h
   exact AN hT hg ho h bP
  ·rename_i t x i ho
   obtain⟨v,h,bP⟩:=aK h
   obtain⟨iv,h,qc⟩:=aK h
   cases hb:(nth T t).ok&&(nth T t).isSl&&(nth T (nth T t).elem).ok with
   |true=>rw[hb]at h;exact NU hT hg ho (by rw[hb];exact h) bP.dn qc
   |false=>rw[hb]at h;exact J9 hT hg ho h bP qc
  ·rename_i t x ho
   have hh:=aO h;clear h;obtain⟨b8,h⟩:=hh
   obtain⟨v,h,bP⟩:=aK h
   exact SJ hT hg ho b8 h bP
  ·rename_i t x y ho
   have hh:=aO h;clear h;obtain⟨b8,h⟩:=hh
   obtain⟨p,h,bP⟩:=aK h
   obtain⟨v,h,KR⟩:=aK h
   exact NV hT hn hg ho b8 h bP KR
  ·rename_i fn first bQ ho
   obtain⟨l,h,h1⟩:=kL h
   obtain⟨r,h,h2⟩:=kL h
   split at h
   ·exact wx hg ho h1 h2 (.inl ⟨rfl,rfl⟩) h
   ·exact wx hg ho h1 h2 (.inr ⟨rfl,rfl⟩) h
   ·exact h.elim
  ·rename_i t ho
   have hh:=aO h;clear h;obtain⟨b8,s,h⟩:=hh
   exact J4 hg ho (hn nx (aei _)) h
  ·rename_i t x ho
   have hh:=aO h;clear h;obtain⟨b8,h⟩:=hh
   simp only[aep]at b8
   obtain⟨v,h,bP⟩:=aK h
   split at h
   ·obtain⟨s,h⟩:=h
    exact HJ hT hg ho b8.1 (adS b8.2) (hn nx (aei _)) h bP
   ·exact h.elim
  ·rename_i t x i c ho
   have hh:=aO h;clear h;obtain⟨hb,h⟩:=hh
   simp only[aep]at hb
   obtain⟨v,h,bP⟩:=aK h
   obtain⟨kv,h,qc⟩:=aK h
   exact NP hT hg ho hb.1.1 (adS hb.1.2) hb.2 bP qc h
  ·rename_i t x i y ho
   have hh:=aO h;clear h;obtain⟨hb,h⟩:=hh
   simp only[aep]at hb
   obtain⟨v,h,bP⟩:=aK h
   obtain⟨kv,h,qc⟩:=aK h
   obtain⟨u,h,KR⟩:=aK h
   exact En hT hg ho hn hb.1 (adS hb.2) bP qc KR h
  ·rename_i t ho
   have hh:=aO h;clear h;obtain⟨b8,h⟩:=hh
   exact Sn hT hg ho b8 (hn nx (aei _)) h
  ·rename_i t x ho
   obtain⟨v,h,bP⟩:=aK h
   have hh:=aO h;clear h;obtain⟨hc,h⟩:=hh
   exact Zk hg ho (hn nx (aei _)) hc h bP
  ·rename_i t parts ho
   have hh:=aO h;clear h;obtain⟨hb,h⟩:=hh
   simp only[aep]at hb
   obtain⟨l,h,hp⟩:=mJ h
   split at h
   ·rename_i cs hf
    exact Sf hT hg ho hb.1 hp hf hb.2 h
   ·exact h.elim
  ·rename_i t len parts ho
   have hh:=aO h;clear h;obtain⟨hb,h⟩:=hh
   simp only[aep,Nat.blt_eq]at hb
   obtain⟨⟨⟨⟨h1,h2⟩,h3⟩,h4⟩,h5⟩:=hb
   obtain⟨l,h,hp⟩:=mJ h
   split at h
   ·rename_i cs hf
    have hh:=aO h;clear h;obtain⟨hc,h⟩:=hh
    exact AM hT hg ho hn h1 h2 h3 h4 h5 hp hf hc h
   ·exact h.elim
  ·rename_i t l c ho
   have hh:=aO h;clear h;obtain⟨hb,h⟩:=hh
   simp only[aep,Nat.blt_eq]at hb
   obtain⟨⟨⟨b1,b2⟩,b3⟩,b4⟩:=hb
   obtain⟨lv,h,h1⟩:=aK h
   obtain⟨cv,h,h2⟩:=aK h
   split at h
   ·obtain⟨z,e1,e2,e3,e4,e5,fl,km,h⟩:=h
    exact Ei hT hg ho b1 b2 b3 b4 (hn nx (aei _)) e1 e2 e3 e4 e5 km h h1 h2
   ·exact h.elim
  ·rename_i t x l hh ho
   have hq:=aO h;clear h;obtain⟨hb,h⟩:=hq
   simp only[aep]at hb
   obtain⟨v,h,bP⟩:=aK h
   obtain⟨lo,h,hl⟩:=B6 h
   obtain⟨hi,h,Lz⟩:=B6 h
   exact SF hT hg ho hn hb.1 hb.2 bP.dn hl Lz h
  ·rename_i c ho
   split at h
   ·rename_i hc
    split at h
    ·rename_i x t ha lM
     obtain⟨v,h,bP⟩:=aK h
     exact VC hT hg ho hc ha lM bP.dn h
    ·exact h.elim
   ·rename_i hc
    split at h
    ·rename_i x i t t' ha lM
     have hh:=aO h;clear h;obtain⟨hb,h⟩:=hh
     simp only[aep]at hb
     obtain⟨v,h,bP⟩:=aK h
     obtain⟨kv,h,qc⟩:=aK h
     exact Eo hT hg ho hc ha lM hn hb.1 (adS hb.2) bP qc h
    ·exact h.elim
   ·rename_i hc
    split at h
    ·rename_i s x t t' ha lM
     have hh:=aO h;clear h;obtain⟨hb,h⟩:=hh
     have:=adS hb
     subst this
     obtain⟨sv,h,h1⟩:=aK h
     obtain⟨xv,h,h2⟩:=aK h
     rcases h with h|h
     ·exact J3 hT hg ho hc ha lM hn h h1 h2.dn
     ·exact NK hT hg ho hc ha lM hn h h1.dn h2.dn
    ·exact h.elim
   ·rename_i hc
    split at h
    ·rename_i x y ha
     obtain⟨a,h,h1⟩:=aK h
     obtain⟨b,h,h2⟩:=aK h
     split at h
     ·exact Y9 hg ho hc ha h h1 h2
     ·exact h.elim
    ·exact h.elim
   ·rename_i hc
    split at h
    ·rename_i x y ha
     obtain⟨a,h,h1⟩:=aK h
     obtain⟨b,h,h2⟩:=aK h
     split at h
     ·exact Za hg ho hc ha h h1 h2
     ·exact h.elim
    ·exact h.elim
   ·rename_i f hc
    obtain⟨l,h,h1⟩:=kL h
    exact jS hg (vJ ho hc h1) h
   ·rename_i t hc
    obtain⟨v,h,bP⟩:=aK h
    obtain⟨l,h,h1⟩:=kL h
    split at h
    ·exact jS hg (sB ho hc bP h1 (.inl ⟨_,rfl,rfl⟩)) h
    ·exact jS hg (sB ho hc bP h1 (.inr (.inl ⟨_,rfl,rfl⟩))) h
    ·exact jS hg (sB ho hc bP h1 (.inr (.inr ⟨_,rfl,rfl⟩))) h
    ·rcases h with h|⟨hf,u,h⟩
     ·exact hR.fa hg ho hc bP h1 h
     ·exact bB (fun c=>by rw[ho];simp) hg h fun _ _ _ _ _ _ _ _ aY=>by rw[hf]at aY;cases aY
    ·exact h.elim
   ·exact h.elim
  ·rename_i t x ho
   have hh:=aO h;clear h;obtain⟨hb,h⟩:=hh
   simp only[aep]at hb
   obtain⟨v,h,bP⟩:=aK h
   split at h
   ·rename_i j ver ep p
    split at h
    ·rename_i d hj
     have hh:=aO h;clear h;obtain⟨ct,h⟩:=hh
     simp only[aep,Bool.or_eq_true]at ct
     obtain⟨nd,h,dC⟩:=bW h
     split at h
     ·exact Sz hT hg ho hb.1 (adS hb.2) (hn nx (aei _)) hj (by have:=ct.2;rw[Nat.blt_eq]at this;exact this) (adS ct.1.1)
       (ct.1.2.imp (fun e=>by cases p with|nil=>rfl|cons=>simp[emp]at e) adS) (dC rfl) h bP
     ·exact h.elim
    ·exact h.elim
   ·exact h.elim
  ·rename_i x ho
   obtain⟨v,h,bP⟩:=aK h
   split at h
   ·rename_i i
    split at h
    ·rename_i hi
     exact SA hg ho hi h.1 h.2 bP
    ·exact h.elim
   ·exact h.elim
  ·rename_i s t x ho
   have hh:=aO h;clear h;obtain⟨hb,h⟩:=hh
   simp only[aep]at hb
   obtain⟨v,h,bP⟩:=aK h
   split at h
   ·rename_i hi
    exact JV hT hg ho hb.1 hb.2 hi h bP
   ·exact h.elim
  ·rename_i t x i ho
   have hh:=aO h;clear h;obtain⟨hb,h⟩:=hh
   simp only[aep]at hb
   obtain⟨v,h,bP⟩:=aK h
   obtain⟨iv,h,qc⟩:=aK h
   split at h
   ·obtain⟨b,Kv,h⟩:=h
    exact Se hT hg ho hb.1 hb.2 Kv h bP qc
   ·exact h.elim
  ·exact h.elim
end
end
end Go.TM
