import Derived.Test.YtmojfblpbcficaaGreatDoorUM8
import Derived.Laws.BytesString
set_option linter.all false
namespace Go.TM
section
open Go.RowKit
variable [cj]
section
variable {P:Program} {C:dV->Prop} {T:List TI} {ops:List Oper} {n:Nat} {o:Oper} {nx:Nat} {ρ:Nat->AV} {κ:Nat->aw} {k:l9->Nat->Prop} {gd:Bool}
def Ai(ρ:Nat->AV)(κ:Nat->aw)(g:Bool):Option Operand->Option Int->Prop
 |none,none=>True
 |some x,some n=>bN ρ κ g x (.dv (.int .i64 n))
 |_,_=>False
theorem A6{x:Option Operand}{q:Option Int->Prop}(h:exI ρ κ gd x q):∃b,q b/\Ai ρ κ gd x b:=by
 unfold exI at h
 split at h
 ·exact⟨none,h,tv⟩
 ·obtain⟨v,h,hv⟩:=aL h
  split at h
  ·rename_i m;exact⟨some m,h,hv⟩
  ·exact h.elim
theorem Ai.val{ρ':Nat->AV}{κ':Nat->aw}{g:dV}{a:Act}{w:World}{G:Gh}{x:Option Operand}{b:Option Int}(h:Ai ρ κ gd x b)(ak:cB g n ρ' κ' a w G)(aY:gd=true)(ay:∀y,x=some y->JV ρ ρ' κ κ' y):x.map a.eval=b.map (Value.int .i64):=by
 cases x with
 |none=>cases b with
  |none=>rfl
  |some=>exact h.elim
 |some y=>cases b with
  |none=>exact h.elim
  |some m=>
   have hv:=h ρ' κ' (ay y rfl) g n a w G ak aY
   simp only[Option.map_some]
   generalize a.eval y=v at hv
   cases hv with|dv hv=>cases hv with|int=>rfl
theorem sF{w:World}{isSl:Bool}{len cap:Nat}{lo hi:Option Int}(h1:0<=lo.getD 0)(h2:lo.getD 0<=hi.getD len)(h3:hi.getD len<=len)(h4:len<=cap):
 (Instr.sliceBounds isSl len cap (lo.map (Value.int .i64)) (hi.map (Value.int .i64)) none).run P w=.ok ((lo.getD 0).toNat,(hi.getD len).toNat,cap) w:=by
 cases lo with
 |none=>
  cases hi with
  |none=>simp[Instr.sliceBounds]
  |some h=>
   simp only[Option.getD_some,Option.getD_none]at*
   have:0<=h/\h<=(cap:Int):=by omega
   simp[Instr.sliceBounds,Instr.sliceBound,asIntOf,this]
 |some l=>
  cases hi with
  |none=>
   simp only[Option.getD_some,Option.getD_none]at*
   have:0<=l/\l<=(len:Int):=by omega
   simp[Instr.sliceBounds,Instr.sliceBound,asIntOf,this]
  |some h=>
   simp only[Option.getD_some]at*
   have h5:0<=h/\h<=(cap:Int):=by omega
   have h6:0<=l/\l<=h:=by omega
   have h7:(max h 0:Int)=h:=by omega
   simp[Instr.sliceBounds,Instr.sliceBound,asIntOf,h5,h6,h7]
theorem aQ{c:Bool}{p:Prop}(h:bif c then p else False):c=true/\p:=by cases c<;>simp_all
theorem cB.cut{g:dV}{κ' κ2:Nat->aw}{a:Act}{w:World}{G:Gh}(ak:cB g n ρ κ' a w G){i ver cn sz:Nat}{xs:List DV}(gN:κ' i=.tree ver cn (.aD sz xs)){L H:Int}(b1:0<=L)(b2:L<=H)(b3:H<=xs.length)
 (h1:κ2 i=.tree (ver+1) 0 (.aD sz ((xs.take H.toNat).drop L.toNat))) (h3:∀j,j≠i->κ2 j=κ' j) {v0:Value} (HW:aO G.H i ver cn []=some v0):
 ∃A cap,v0=.slice A xs.length cap/\xs.length<=cap/\∃G',cB g n ρ κ2 a w G'/\aK G' (.own i (ver+1) 0 []) (.slice (if cap=L.toNat then A else A.map (·.add (L.toNat*sz))) (H.toNat-L.toNat) (cap-L.toNat)):=by
 have fG:=ak.fit.box i
 rw[gN]at fG
 obtain⟨ht,iw,Mo,RV⟩:=fG
 obtain⟨v0',wN,w4,bq⟩:=ht.2 [] _ rfl rfl
 rw[HW]at wN;injection wN with wN;subst wN
 have wN:=HW
 have hlen:((xs.take H.toNat).drop L.toNat).length=H.toNat-L.toNat:=by simp;omega
 let hN:Value->List PS->Option Value:=fun v' q=>match q with
  |[]=>some v'
  |.el i' j::r=>aO G.H i ver cn (.el (i'+L.toNat) j::r)
  |_=>none
 have fin:∀v':Value,v'.oneCell'=true->(∀b,cT v'=some b->cT v0=some b)->cI G.M w v' (fun s=>hN v' ([]++[s])) (.aD sz ((xs.take H.toNat).drop L.toNat))->
  ∃G',cB g n ρ κ2 a w G'/\aK G' (.own i (ver+1) 0 []) v':=by
  intro v' Et VM HB
  have AL:∀i' j c,step (.aD sz ((xs.take H.toNat).drop L.toNat)) (.el i' j)=some c->step (.aD sz xs) (.el (i'+L.toNat) j)=some c:=by
   intro i' j c hc
   simp only[step]at hc⊢
   rw[List.getElem?_drop,List.getElem?_take]at hc
   by_cases e:L.toNat+i'<H.toNat
   ·rw[if_pos e,Nat.add_comm]at hc;exact hc
   ·rw[if_neg e]at hc;cases hc
  have el:∀s c,step (.aD sz ((xs.take H.toNat).drop L.toNat)) s=some c->∃i' j,s=.el i' j:=by
   intro s c fY
   cases s with
   |el i' j=>exact⟨i',j,rfl⟩
   |key=>simp[step]at fY
  obtain⟨m1,m2,m3⟩:=bD.sf (w:=w) (w':=w) (h:=Sk) (h':=hN v') (p:=[]) (n:=.aD sz []) (n':=.aD sz ((xs.take H.toNat).drop L.toNat)) (v:=.slice none 0 0) (v':=v') (fun _=>True) (Aa G.M w _) (Es _) rfl rfl rfl rfl rfl Et (.inl rfl) HB
   (fun q hq=>absurd (List.nil_prefix) hq) (fun s c _ _ hN=>absurd trivial hN)
   (fun s c fY EG _=>by
    obtain⟨i',j,rfl⟩:=el s c fY
    have Zc:get (.aD sz xs) [.el (i'+L.toNat) j]=some c:=by simp[get,AL i' j c fY]
    refine⟨ht.sub Zc EG,iw.sub Zc,fun b hb=>⟨fun h=>kN h,fun eT=>?_⟩⟩
    obtain⟨q,m,uu,c1,c2,c3,c4⟩:=hb
    have:=iw [] (.el (i'+L.toNat) j::q) _ m v0 uu b rfl rfl wN (VM b eT) (by simp only[get,AL i' j c fY];exact c1) c2 c3 c4
    cases this)
   (fun s s' c c' b jR Sp _ lZ N6 _ jI cx=>by
    obtain⟨i1,j1,rfl⟩:=el s c jR
    obtain⟨i2,j2,rfl⟩:=el s' c' lZ
    obtain⟨q,m,uu,c1,c2,c3,c4⟩:=jI
    obtain⟨q',m',uu',d1,d2,d3,d4⟩:=cx
    have:=iw (.el (i1+L.toNat) j1::q) (.el (i2+L.toNat) j2::q') m m' uu uu' b (by simp only[get,AL i1 j1 c jR];exact c1) c2 c3 c4 (by simp only[get,AL i2 j2 c' lZ];exact d1) d2 d3 d4
    injection this with e1 _
    injection e1 with e1 e2
    have:i1=i2:=by omega
    rw[this,e2])
   (fun b hb=>.inr fun h=>kN h) (fun b h=>(kN h).elim)
  obtain⟨G',g1,g2,_,g4,_,_,g7⟩:=ak.mz (κ':=κ2) (w':=w) (i:=i) (ver:=ver+1) (ep:=0) (d:=.aD sz ((xs.take H.toNat).drop L.toNat)) (fun _=>False) (hN v') (fun h=>h.elim) (.inr ⟨ver,cn,_,gN,by omega,by omega⟩) (fun _ h=>h.elim) h1 (fun j hj _=>h3 j hj)
   (fun q y hy=>by cases q<;>simp[aO,Mo (ver+1) (by omega)]at hy) m1 m2
   (fun b hb=>by
    rcases m3 b hb with h5|h5|⟨s,c,s1,s2,_,s4⟩
    ·exact(kN h5).elim
    ·exact .inr (.inl (by rw[gN];exact⟨[],_,v0,rfl,rfl,wN,VM b h5⟩))
    ·obtain⟨i',j,rfl⟩:=el s c s1
     have Zc:get (.aD sz xs) [.el (i'+L.toNat) j]=some c:=by simp[get,AL i' j c s1]
     exact .inr (.inl (by rw[gN];exact bR.sub (p:=[.el (i'+L.toNat) j]) Zc s4)))
   (fun _ _ _ _=>rfl) (fun b hb=>by
    rcases hb with h5|⟨_,h5,_⟩
    ·exact ak.fit.own i b h5
    ·exact h5.elim) (adM _) rfl rfl rfl
  exact⟨G',g7,.own _ _ _ _ _ ((g4 []).trans rfl) Et⟩
 rcases bq with⟨rfl,rfl⟩|⟨gb,ob,cap,c,tt,rfl,eJ,hw,Gu,sL⟩
 ·simp at b3
  have hL:L=0:=by omega
  have hH:H=0:=by omega
  subst hL;subst hH
  refine⟨none,0,rfl,adM _,?_⟩
  simpa using fin (.slice none 0 0) rfl (by simp[cT]) (.inl ⟨by simp,rfl⟩)
 ·refine⟨_,_,rfl,eJ,fin _ rfl ?_ ?_⟩
  ·intro b hb
   split at hb
   ·exact hb
   ·simp only[Option.map_some,cT,fa]at hb;exact hb
  ·by_cases e:cap=L.toNat
   ·have uZ:(xs.take H.toNat).drop L.toNat=[]:=List.eq_nil_of_length_eq_zero (by rw[hlen];omega)
    rw[if_pos e,uZ]
    rw[show cap-L.toNat=0 by omega,show H.toNat-L.toNat=0 by omega]
    refine .inr ⟨gb,ob,0,c,tt,rfl,by simp,hw,by omega,by simp⟩
   ·rw[if_neg e]
    refine .inr ⟨gb,ob+L.toNat*sz,cap-L.toNat,c,tt,by simp only[Option.map_some,fa];rw[hlen],by rw[hlen];omega,hw,?_,fun i' y hy=>?_⟩
    ·have:L.toNat*sz+(cap-L.toNat)*sz=cap*sz:=by rw[<-Nat.add_mul];congr 1;omega
     omega
    ·rw[List.getElem?_drop,List.getElem?_take]at hy
     split at hy
     ·obtain⟨c1,c2⟩:=sL _ y hy
      refine⟨c1,fun j d' ma=>?_⟩
      obtain⟨d1,uu,d2,d3⟩:=c2 j d' ma
      refine⟨d1,uu,?_,?_⟩
      ·rw[<-d2];congr 1;rw[Nat.add_mul];omega
      ·show dG G.M (aO G.H i ver cn [.el (i'+L.toNat) j]) d' uu
       rw[Nat.add_comm];exact d3
     ·cases hy
theorem Cr(hT:fD P T){t:Nat}{x:Operand}{l h:Option Operand}{v:AV}{lo hi:Option Int}(hg:cb ρ ops o.guard=some gd)(ho:o.op=.slice t x l h none)(hn:∀i,nx<=i->κ i=.none)
 (cC:(nth T t).ok=true) (gM:((nth T t).isSl&&(nth T (nth T t).elem).ok||(nth T t).isStr)=true) (hx:bN ρ κ gd x v) (hl:Ai ρ κ gd l lo) (hh:Ai ρ κ gd h hi)
 (hk:mw (nth T t) (nth T (nth T t).elem).size κ gd v lo hi (fun v=>bj n o gd nx k v []) (fun v bx rd=>dP n o nx k v bx rd)):Good P C ops n o nx ρ κ k:=by
 obtain⟨ti,u,z,tf⟩:=hT.facts cC
 have dW:∀c,o.op≠.defer c:=fun c=>by rw[ho];simp
 have mx:x∈o.op.operands:=by rw[ho];simp[Op.operands]
 have ml:∀y,l=some y->y∈o.op.operands:=fun y hy=>by rw[ho,hy];simp[Op.operands]
 have mh:∀y,h=some y->y∈o.op.operands:=fun y hy=>by rw[ho,hy];simp[Op.operands]
 have cut:∀{w:World} {a:Act} {A:Option Addr} {len cap:Nat},(nth T t).isSl=true->a.eval x=.slice A len cap->l.map a.eval=lo.map (Value.int .i64)->h.map a.eval=hi.map (Value.int .i64)->0<=lo.getD 0->lo.getD 0<=hi.getD len->hi.getD len<=len->len<=cap->(nth T (nth T t).elem).ok=true->
  (execOp a.eval o).run P w=.ok (.value (.slice (if cap=(lo.getD 0).toNat then A else A.map (·.add ((lo.getD 0).toNat*(nth T (nth T t).elem).size))) ((hi.getD len).toNat-(lo.getD 0).toNat) (cap-(lo.getD 0).toNat))) w:=by
  intro w a A len cap hs xL hle AM h1 h2 h3 h4 wO
  obtain⟨te,ue,ze,jk⟩:=hT.facts wO
  have hb:=sF (P:=P) (w:=w) (isSl:=true) (len:=len) (cap:=cap) h1 h2 h3 h4
  have yM:=jk.gm w
  simp[execOp,ho,Instr.sliceAt,Instr.slice,run_underlying (tf.slice hs),xL,hle,AM,hb,yM]
 unfold mw at hk
 split at hk
 ·rename_i sz xs
  cases o9:(nth T t).isSl&&Nat.beq sz (nth T (nth T t).elem).size with
  |false=>rw[o9]at hk;exact hk.elim
  |true=>
  rw[o9]at hk
  obtain⟨Kw,hk⟩:=hk
  simp only[adT]at o9
  obtain⟨hs,SB⟩:=o9
  have:=ab9 SB
  subst this
  have wO:(nth T (nth T t).elem).ok=true:=by
   simp only[Bool.or_eq_true,adT]at gM
   rcases gM with h5|h5
   ·exact h5.2
   ·exfalso
    have q1:=tf.isSl;have q2:=tf.isStr
    rw[hs]at q1;rw[h5]at q2
    cases u<;>simp[MZ,strOf]at q1 q2
  refine bE dW hg hk fun ρ' κ' ay g a w G ak aY=>?_
  have hv:=hx ρ' κ' (ay.op mx) g n a w G ak aY
  have hle:=hl.val ak aY (fun y hy=>ay.op (ml y hy))
  have AM:=hh.val ak aY (fun y hy=>ay.op (mh y hy))
  obtain⟨b1,b2,b3⟩:=Kw aY
  generalize xL:a.eval x=q at hv
  cases hv with|dv hv=>
  generalize oT:lo.getD 0=L at b1 b2 b3⊢
  generalize E2:hi.getD (xs.length:Int)=H at b1 b2 b3⊢
  have hlen:((xs.take H.toNat).drop L.toNat).length=H.toNat-L.toNat:=by simp;omega
  cases hv with
  |slnil=>
   simp at b3 E2
   have hL:L=0:=by omega
   have hH:H=0:=by omega
   subst hL;subst hH
   refine⟨_,cut hs xL hle AM (by rw[oT];omega) (by rw[oT];simp[E2]) (by simp[E2]) (adM _) wO,?_⟩
   rw[oT]
   simp[E2]
   exact .dv (.slnil _)
  |sl _ _ A cap cell eJ hlc hc hr=>
   refine⟨_,cut hs xL hle AM (by rw[oT];omega) (by rw[oT,E2];omega) (by rw[E2];omega) eJ wO,.dv ?_⟩
   rw[oT,E2]
   by_cases e:cap=L.toNat
   ·have uZ:(xs.take H.toNat).drop L.toNat=[]:=List.eq_nil_of_length_eq_zero (by rw[hlen];omega)
    rw[if_pos e,uZ,show H.toNat-L.toNat=0 by omega,show cap-L.toNat=0 by omega]
    exact .sl _ [] A 0 (fun _ _=>undef) (adM _) (by simp) (by simp) (by simp)
   ·rw[if_neg e]
    simp only[Option.map_some]
    rw[<-hlen]
    refine .sl _ _ _ _ (fun i j=>cell (L.toNat+i) j) (by rw[hlen];omega) (fun y hy=>hlc y (List.mem_of_mem_take (List.mem_of_mem_drop hy))) (fun i j hi hj=>?_) (fun i y j d hy hd=>?_)
    ·rw[cM]
     have:=hc (L.toNat+i) j (by rw[hlen]at hi;omega) hj
     rw[Nat.add_mul]at this
     rw[show L.toNat*(nth T (nth T t).elem).size+(i*(nth T (nth T t).elem).size+j)=L.toNat*(nth T (nth T t).elem).size+i*(nth T (nth T t).elem).size+j by omega]
     exact this
    ·rw[List.getElem?_drop,List.getElem?_take]at hy
     split at hy
     ·exact hr _ y j d hy hd
     ·cases hy
 ·rename_i i ver ep
  split at hk
  ·rename_i bJ cn d gN
   cases hb:Nat.beq ver bJ with
   |false=>rw[hb]at hk;exact hk.elim
   |true=>
   rw[hb]at hk
   simp only[cond_true]at hk
   have:=ab9 hb
   subst this
   cases d with
   |aD sz xs=>
    simp only at hk
    cases o9:(nth T t).isSl&&Nat.beq sz (nth T (nth T t).elem).size with
    |false=>rw[o9]at hk;exact hk.elim
    |true=>
    rw[o9]at hk
    obtain⟨⟨b1,b2,b3⟩,hk⟩:=hk
    simp only[adT]at o9
    obtain⟨hs,SB⟩:=o9
    have:=ab9 SB
    subst this
    have wO:(nth T (nth T t).elem).ok=true:=by
     simp only[Bool.or_eq_true,adT]at gM
     rcases gM with h5|h5
     ·exact h5.2
     ·exfalso
      have q1:=tf.isSl;have q2:=tf.isStr
      rw[hs]at q1;rw[h5]at q2
      cases u<;>simp[MZ,strOf]at q1 q2
    have U5:i<nx:=Af hn ⟨_,_,_,gN⟩
    refine dq dW hg hk (adM _) (by simpa using U5) fun ρ' κ' ay g a w G dK ak aY=>?_
    have he:=ay.reads i (by simp)
    have hv:=hx ρ' κ' (ay.op mx) g n a w G ak aY
    have hle:=hl.val ak aY (fun y hy=>ay.op (ml y hy))
    have AM:=hh.val ak aY (fun y hy=>ay.op (mh y hy))
    have fG:=ak.fit.box i
    rw[he,gN]at fG
    obtain⟨ht,iw,Mo,RV⟩:=fG
    obtain⟨v0,wN,w4,bq⟩:=ht.2 [] _ rfl rfl
    have xL:a.eval x=v0:=by
     generalize a.eval x=q at hv
     cases hv with|own _ _ _ _ _ hh' hc=>have:aO G.H i ver cn []=some q:=hh'
                                         rw[wN]at this;injection this with this;exact this.symm
    obtain⟨A,cap,rfl,eJ,G',g7,hvr⟩:=ak.cut (κ2:=aF κ' [(i,.tree (ver+1) 0 (.aD (nth T (nth T t).elem).size ((xs.take (hi.getD xs.length).toNat).drop (lo.getD 0).toNat)))]) (he.trans gN) b1 b2 b3 (by simp[aF]) (fun j hj=>by simp[aF,ah _ _ hj]) wN
    exact⟨_,w,G',.inl (cut hs xL hle AM b1 b2 b3 eJ wO),g7,hvr⟩
   |_=>exact hk.elim
  ·exact hk.elim
 ·rename_i s
  cases jw:(nth T t).isStr with
  |false=>rw[jw]at hk;exact hk.elim
  |true=>
   rw[jw]at hk
   obtain⟨Kw,hk⟩:=hk
   refine bE dW hg hk fun ρ' κ' ay g a w G ak aY=>?_
   have hv:=hx ρ' κ' (ay.op mx) g n a w G ak aY
   have hle:=hl.val ak aY (fun y hy=>ay.op (ml y hy))
   have AM:=hh.val ak aY (fun y hy=>ay.op (mh y hy))
   obtain⟨b1,b2,b3⟩:=Kw aY
   generalize xL:a.eval x=q at hv
   cases hv with|dv hv=>cases hv with|str=>
   have hb:=sF (P:=P) (w:=w) (isSl:=false) (len:=s.size) (cap:=s.size) b1 b2 b3 (adM _)
   refine⟨_,?_,.dv (.str _)⟩
   simp[execOp,ho,Instr.sliceAt,Instr.slice,run_underlying (tf.string jw),xL,hle,AM,hb]
 ·exact hk.elim
theorem OD(hT:fD P T){t:Nat}{x:Operand}{l h:Option Operand}{v:AV}{lo hi:Option Int}(hg:cb ρ ops o.guard=some gd)(ho:o.op=.slice t x l h none)(hn:∀i,nx<=i->κ i=.none)
 (cC:(nth T t).ok=true) (gM:((nth T t).isSl&&(nth T (nth T t).elem).ok||(nth T t).isStr)=true) (hx:bN ρ κ gd x v) (hl:Ai ρ κ gd l lo) (hh:Ai ρ κ gd h hi)
 (hk:yF (nth T t) (nth T (nth T t).elem).size κ gd nx v lo hi (fun v rd=>bj n o gd nx k v rd) (fun v bx rd=>dP n o nx k v bx rd) (fun v bx rd=>dP n o (nx+1) k v bx rd)):Good P C ops n o nx ρ κ k:=by
 unfold yF at hk
 split at hk
 ·rename_i i ver ep p
  rcases hk with hk|hk|hk
  ·exact Cr hT hg ho hn cC gM hx hl hh hk
  all_goals
   obtain⟨ti,u,z,tf⟩:=hT.facts cC
   have dW:∀c,o.op≠.defer c:=fun c=>by rw[ho];simp
   have mx:x∈o.op.operands:=by rw[ho];simp[Op.operands]
   have ml:∀y,l=some y->y∈o.op.operands:=fun y hy=>by rw[ho,hy];simp[Op.operands]
   have mh:∀y,h=some y->y∈o.op.operands:=fun y hy=>by rw[ho,hy];simp[Op.operands]
   have cut:∀{w:World} {a:Act} {A:Option Addr} {len cap:Nat},(nth T t).isSl=true->a.eval x=.slice A len cap->l.map a.eval=lo.map (Value.int .i64)->h.map a.eval=hi.map (Value.int .i64)->0<=lo.getD 0->lo.getD 0<=hi.getD len->hi.getD len<=len->len<=cap->(nth T (nth T t).elem).ok=true->
    (execOp a.eval o).run P w=.ok (.value (.slice (if cap=(lo.getD 0).toNat then A else A.map (·.add ((lo.getD 0).toNat*(nth T (nth T t).elem).size))) ((hi.getD len).toNat-(lo.getD 0).toNat) (cap-(lo.getD 0).toNat))) w:=by
    intro w a A len cap hs xL hle AM h1 h2 h3 h4 wO
    obtain⟨te,ue,ze,jk⟩:=hT.facts wO
    have hb:=sF (P:=P) (w:=w) (isSl:=true) (len:=len) (cap:=cap) h1 h2 h3 h4
    have yM:=jk.gm w
    simp[execOp,ho,Instr.sliceAt,Instr.slice,run_underlying (tf.slice hs),xL,hle,AM,hb,yM]
   have abV:(nth T t).isSl=true->(nth T (nth T t).elem).ok=true:=fun hs=>by
    simp only[Bool.or_eq_true,adT]at gM
    rcases gM with h5|h5
    ·exact h5.2
    ·exfalso
     have q1:=tf.isSl;have q2:=tf.isStr
     rw[hs]at q1;rw[h5]at q2
     cases u<;>simp[MZ,strOf]at q1 q2
  ·unfold LH at hk
   split at hk
   ·rename_i bJ cn d gN
    have hh:=aQ hk;clear hk;obtain⟨hb,hk⟩:=hh
    obtain⟨rfl,fo⟩:=dE hb
    obtain⟨nd,hk,acY⟩:=bY hk
    split at hk
    ·rename_i sz xs
     have hh:=aQ hk;clear hk;obtain⟨cx,Kw,hk⟩:=hh
     simp only[adT]at cx
     obtain⟨hs,SB⟩:=cx
     have:=ab9 SB
     subst this
     refine bE dW hg hk fun ρ' κ' ay g a w G ak aY=>?_
     have hv:=hx ρ' κ' (ay.op mx) g n a w G ak aY
     have hle:=hl.val ak aY (fun y hy=>ay.op (ml y hy))
     have AM:=hh.val ak aY (fun y hy=>ay.op (mh y hy))
     obtain⟨b1,b2,b3⟩:=Kw aY
     have acZ:κ' i=.tree ver cn d:=(ay.reads i (by simp)).trans gN
     obtain⟨u0,h1,_,bq⟩:=ak.fit.node acZ (acY aY) rfl
     generalize xL:a.eval x=q at hv
     cases hv with|own _ _ _ _ _ Ze hc=>
     have wN:=Ze
     rw[cZ fo,h1]at wN
     injection wN with wN
     subst wN
     rcases bq with⟨rfl,rfl⟩|⟨gb,ob,cap,cc,tt,rfl,eJ,hw,acJ,ED⟩
     ·have N0:=cut (w:=w) hs xL hle AM b1 (by simpa using b2) (by simpa using b3) (adM _) (abV hs)
      refine⟨_,N0,?_⟩
      refine .pre _ _ _ _ _ _ _ _ _ fun cF=>?_
      simp at b3 cF;omega
     ·have N0:=cut (w:=w) hs xL hle AM b1 b2 b3 eJ (abV hs)
      refine⟨_,N0,?_⟩
      refine .pre _ _ _ _ _ _ _ _ _ fun cF=>⟨_,_,_,Ze,?_⟩
      rw[if_neg (by omega)]
      rfl
    ·exact hk.elim
   ·exact hk.elim
  ·exact hk.elim
 ·exact Cr hT hg ho hn cC gM hx hl hh hk
theorem j7{sz:Nat}{l:List DV}(l7:∀x,x∈l->x.aT){p:List PS}{n:DV}(h:get (.aD sz l) p=some n)(ho:n.ar=true):p=[]/\n=.aD sz l:=by
 cases p with
 |nil=>simp[get]at h;exact⟨rfl,h.symm⟩
 |cons s p=>
  exfalso
  simp only[get]at h
  cases s with
  |key k j=>simp[step]at h
  |el i j=>
   simp only[step]at h
   cases hm:l[i]? with
   |none=>rw[hm]at h;simp at h
   |some x=>
    rw[hm]at h
    simp only at h
    cases hc:x.cells[j]? with
    |none=>rw[hc]at h;simp at h
    |some c=>
     rw[hc]at h
     simp only at h
     have EG:c.ar=false:=l7 x (ab6 hm) c (ab6 hc)
     cases p with
     |nil=>simp[get]at h;subst h;rw[EG]at ho;cases ho
     |cons s' p=>
      simp only[get]at h
      cases c<;>simp[step]at h<;>cases EG
end
end
section
open Go.RowKit
variable [cj]
section
variable {P:Program} {C:dV->Prop} {T:List TI} {ops:List Oper} {n:Nat} {o:Oper} {nx:Nat} {ρ:Nat->AV} {κ:Nat->aw} {k:l9->Nat->Prop} {gd:Bool}
theorem iQ{f:Nat}(hf:fF P f)(args:Array Value)(w:World):(callFunc f args).run P w=.ok (.enter f args) w:=by
 obtain⟨fn,h1,h2,h3⟩:=hf
 have h3':¬fn.body=none:=by grind
 simp_all [callFunc,Sem.run]
def uy(P:Program)(ops:List Oper)(o:Oper)(ρ:Nat->AV)(κ:Nat->aw)(gd:Bool)(f:Nat)(l:List AV):Prop:=
 (∀c,o.op≠.defer c)/\∀ρ' κ' rd bx,EA ops o ρ ρ' κ κ' rd bx->∀(g:dV) (n:Nat) (a:Act) (w:World) (G:Gh),cB g n ρ' κ' a w G->gd=true->fF P f->
  ∃vs:List Value,(execOp a.eval o).run P w=.ok (.enter f vs.toArray) w/\ck G l vs
theorem vO{c:Call}{f:Nat}{l:List AV}(ho:o.op=.call c)(hc:c.callee=.value (.func f))(bU:mn ρ κ gd c.args.toList l):uy P ops o ρ κ gd f l:=by
 refine⟨fun c=>by grind,?_⟩
 intro ρ' κ' rd bx ay g n a w G ak aY hf
 have cK:(List.map a.eval c.args.toList).toArray=c.args.map a.eval:=by grind
 refine⟨_,?_,(mn.rel ak aY bU (fun x hx=>ay.op (by rw[ho];simp[Op.operands,hc];exact Array.mem_append.2 (.inr (by grind)))))⟩
 simp_all [execOp,resolve,Act.eval,Deferred.ofValue,invoke,iQ]
theorem ck.append{G:Gh}{l l':List AV}{vs Ot:List Value}(h:ck G l vs)(h':ck G l' Ot):ck G (l++l') (vs++Ot):=by
 refine⟨by simp[h.1,h'.1],fun j d v hd hv=>?_⟩
 rcases adC j l.length with au|gV
 ·rw[List.getElem?_append_left au]at hd
  rw[List.getElem?_append_left (by rwa[<-h.1])]at hv
  exact h.2 j d v hd hv
 ·rw[List.getElem?_append_right gV]at hd
  rw[List.getElem?_append_right (by rwa[<-h.1]),<-h.1]at hv
  exact h'.2 _ d v hd hv
theorem rK{c:Call}{f t:Nat}{l:List AV}{av:AV}(ho:o.op=.call c)(hc:c.callee=.value (.tmp t))(hv:bN ρ κ gd (.tmp t) av)(bU:mn ρ κ gd c.args.toList l){L:List AV}
 (hav:(∃bQ,av=.fn f bQ/\L=l++bQ)\/(∃first,av=.kC f first/\L=first++l)\/(∃bQ,av=.dv (.fn f bQ)/\L=l++ed bQ)):uy P ops o ρ κ gd f L:=by
 refine⟨fun c=>by grind,?_⟩
 intro ρ' κ' rd bx ay g n a w G ak aY hf
 have hrel:=mn.rel ak aY bU (fun x hx=>ay.op (by rw[ho];simp[Op.operands,hc];exact Array.mem_append.2 (.inr (by grind))))
 have o7:=hv ρ' κ' (ay.op (by rw[ho];simp only[Op.operands,Call.operands,hc];exact Array.mem_append.2 (.inl (by simp)))) g n a w G ak aY
 have cK:(List.map a.eval c.args.toList).toArray=c.args.map a.eval:=by grind
 generalize hx:a.eval _=x at o7
 have ZQ:∀(vs:List Value),x=.func (.func f) #[] vs.toArray->∀bQ,ck G bQ vs->∃us:List Value,(execOp a.eval o).run P w=.ok (.enter f us.toArray) w/\ck G (l++bQ) us:=by
  rintro vs rfl bQ jQ
  refine⟨c.args.toList.map a.eval++vs,?_,hrel.append jQ⟩
  grind [List.map,execOp,resolve,Deferred.ofValue,invoke,iQ]
 rcases hav with⟨bQ,rfl,rfl⟩|⟨first,rfl,rfl⟩|⟨bQ,rfl,rfl⟩
 ·cases o7 with|fn _ _ vs hl hr=>exact ZQ vs rfl bQ ⟨hl,hr⟩
 ·cases o7 with
  |kC _ _ vs hl hr=>
   refine⟨vs++c.args.toList.map a.eval,?_,ck.append ⟨hl,hr⟩ hrel⟩
   grind [List.map,execOp,resolve,Deferred.ofValue,invoke,iQ]
 ·cases o7 with|dv hd=>cases hd with|fn _ _ vs hl hr=>exact ZQ vs rfl _ (ju ⟨hl,hr⟩)
theorem uz{F:Fence}(hF:iR F){f:Nat}{a:Act}{w:World}{args:Array Value}{K:Act->World->Prop}(hd:∀c,o.op≠.defer c)(bG:(execOp a.eval o).run P w=.ok (.enter f args) w)
 (hc:Calls P f args w fun e w'=>∃v,e=.returned v/\K (a.put o.dst v) w'):o.wpIn F 0 P a w K (fun _ _ _=>False):=by
 refine⟨fun f _=>hF.fn f,?_⟩
 rw[Oper.semAt_plain F _ _ hd,bG,Oper.uponIn_enter]
 refine⟨fun h=>(by rw[hF.depth]at h;grind),hF.calls.2 (hc.mono ?_)⟩
 grind
def BOk(κ:Nat->aw)(gd:Bool)(v:AV)(d:DV)(ids:List Nat):Prop:=
 gd=true->∀κ' G w x,(∀i,i∈ids->κ' i=κ i)->Fit G w κ'->aK G v x->∀M',Mem.Le G.M M'->(∀i,i∈ids->∀b,cD G i (κ' i) b->M' b=w.heap[b]?)->bz M' d x
def H3(κ:Nat->aw)(gd:Bool)(l:List AV)(ds:List DV)(ids:List Nat):Prop:=
 gd=true->∀κ' G w xs,(∀i,i∈ids->κ' i=κ i)->Fit G w κ'->ck G l xs->∀M',Mem.Le G.M M'->(∀i,i∈ids->∀b,cD G i (κ' i) b->M' b=w.heap[b]?)->eZ M' ds xs
theorem Cu{v:AV}{q:DV->List Nat->Prop}(h:H4 κ gd v q):∃d ids,q d ids/\BOk κ gd v d ids:=by
 unfold H4 at h
 split at h
 ·rename_i d
  refine⟨d,[],h,fun _ κ' G w x _ _ hv M' hle _=>?_⟩
  cases hv with|dv hv=>exact hv.mono hle
 ·rename_i i ver ep p
  split at h
  ·rename_i bJ cn d hk
   cases hb:Nat.beq ver bJ&&(emp p||Nat.beq ep cn)with
   |false=>grind
   |true=>
    rw[hb]at h
    obtain⟨rfl,fo⟩:=dE hb
    obtain⟨nd,h,dW⟩:=bY h
    cases ho:nd.ar with
    |false=>grind
    |true=>
     rw[ho]at h
     refine⟨pk nd,[i],h,fun aY κ' G w x ay hf hv M' hle hM=>?_⟩
     have he:=ay i (by simp)
     have fG:=hf.box i
     rw[he,hk]at fG
     cases hv with|own _ _ _ _ _ hh hc=>
     rw[cZ fo]at hh
     exact fG.1.frozen hle (fun b hb=>hM i (by simp) b (by rwa[he,hk])) (SizeOf.sizeOf nd+1) p nd x (by omega) (dW aY) ho hh
  grind
 ·refine⟨_,[],h,fun _ κ' G w x _ _ hv M' hle _=>?_⟩
  cases hv with|fn _ _ vs hl hr=>
  have:=by simpa using hl.symm
  subst this
  exact .fn _ [] [] rfl (by simp)
 ·exact⟨_,[],h.2,fun aY=>by grind⟩
theorem H3.cons{v:AV}{l:List AV}{d:DV}{ds:List DV}{i j:List Nat}(h:BOk κ gd v d i)(h':H3 κ gd l ds j):H3 κ gd (v::l) (d::ds) (i++j):=by
 intro aY κ' G w xs ay hf hr M' hle hM
 match xs,hr with
 |[],hr=>have:=hr.1;grind
 |x::xs,hr=>
  exact .cons (h aY κ' G w x (fun q hq=>ay q (by grind)) hf (hr.2 0 v x rfl rfl) M' hle fun q hq=>hM q (by grind)) (h' aY κ' G w xs (fun q hq=>ay q (by grind)) hf ⟨by simpa using hr.1,fun q e y he hy=>hr.2 (q+1) e y (by grind) (by grind)⟩ M' hle fun q hq=>hM q (by grind))
theorem H3.nil:H3 κ gd [] [] []:=by
 intro aY κ' G w xs ay hf hr M' hle hM
 have:=by have:=hr.1;simpa using this.symm
 subst this;exact .nil _
theorem vP{v:AV}{q:DV->List Nat->Prop}(h:Ou κ gd v q):∃d ids,q d ids/\BOk κ gd v d ids:=by
 obtain⟨d,ids,h1,h2⟩:=Cu h
 exact⟨d,ids,h1,fun aY κ' G w x ay hf hv M' hle hM=>h2 aY κ' G w x ay hf (A3 hv) M' hle hM⟩
theorem sP:∀{l:List AV} {q:List DV->List Nat->Prop},H5 κ gd l q->∃ds ids,q ds ids/\H3 κ gd l ds ids
 |[],q,h=>⟨[],[],h,.nil⟩
 |v::l,q,h=>by
  obtain⟨d,i,h,h1⟩:=vP h
  obtain⟨ds,j,h,h2⟩:=sP h
  exact⟨_,_,h,.cons h1 h2⟩
theorem H6{v:AV}{q:DV->List Nat->Prop}(h:Wu κ gd v q):∃d ids,q d ids/\BOk κ gd v d ids:=by
 unfold Wu at h
 split at h
 ·rename_i l
  cases hc:cd l with
  |false=>grind
  |true=>
   rw[hc]at h
   obtain⟨ds,ids,h,h1⟩:=sP h
   refine⟨_,_,h,fun aY κ' G w x ay hf hv M' hle hM=>?_⟩
   cases hv with|agg _ vs hl hr=>
   have h2:=h1 aY κ' G w vs ay hf ⟨hl,hr⟩ M' hle hM
   exact .agg ds vs h2.1 (rM (G':={ G with M:=M' }) h2 (ck.cY ⟨hl,hr⟩ hc)) h2.2
 ·exact vP h
theorem vQ:∀{l:List AV} {q:List DV->List Nat->Prop},ES κ gd l q->∃ds ids,q ds ids/\H3 κ gd l ds ids
 |[],q,h=>⟨[],[],h,.nil⟩
 |v::l,q,h=>by
  obtain⟨d,i,h,h1⟩:=H6 h
  obtain⟨ds,j,h,h2⟩:=vQ h
  exact⟨_,_,h,.cons h1 h2⟩
theorem ET{av:AV}{rd:List Nat}(hg:cb ρ ops o.guard=some gd)(hk:bj n o gd nx k av rd)
 (h:∀ρ' κ',EA ops o ρ ρ' κ κ' rd []->∀(F:Fence),iR F->∀(g:dV) (a:Act) (w:World) (G:Gh),cB g n ρ' κ' a w G->gd=true->∀(K:Act->World->Prop),
  (∀v w' G',cB g n ρ' κ' a w' G'->aK G' av v->K (a.put o.dst v) w')->o.wpIn F 0 P a w K (fun _ _ _=>False)):Good P C ops n o nx ρ κ k:=by
 unfold bj at hk
 split at hk
 ·rename_i ma hn
  refine⟨_,_,hk,adM _,by simp,fun F hF ρ' κ' ay g a w dK ⟨G,ak⟩=>?_⟩
  have sG:gd=true:=by rw[hn]at hg;injection hg with hg;grind
  unfold nV
  rw[cE hg ay.bX ak,sG,if_pos rfl]
  exact h ρ' κ' ay F hF g a w G ak sG _ fun v w' G' h1 h2=>⟨G',by rwa[ma]⟩
 ·grind
 ·rename_i d ma hn
  cases au:Nat.blt d n with
  |false=>grind
  |true=>
   rw[au]at hk
   refine⟨_,_,hk,adM _,by simp,fun F hF ρ' κ' ay g a w dK ⟨G,ak⟩=>?_⟩
   have sG:gd=true:=by rw[hn]at hg;injection hg with hg;grind
   unfold nV
   rw[cE hg ay.bX ak,sG,if_pos rfl]
   exact h ρ' κ' ay F hF g a w G ak sG _ fun v w' G' h1 h2=>⟨G',by rw[ma];exact h1.put (by simp_all) h2⟩
 ·rename_i d j ma hn
  cases au:Nat.blt d n with
  |false=>grind
  |true=>
   rw[au]at hk
   have lu:=by rwa[Nat.blt_eq]at au
   refine⟨_,_,hk,adM _,by simp,fun F hF ρ' κ' ay g a w dK ⟨G,ak⟩=>?_⟩
   unfold nV
   rw[cE hg ay.bX ak]
   cases gd with
   |true=>
    rw[if_pos rfl]
    exact h ρ' κ' ay F hF g a w G ak rfl _ fun v w' G' h1 h2=>⟨G',by rw[ma];exact h1.put lu (.opt true av v (fun _=>h2) (by simp))⟩
   |false=>
    simp[ma]
    exact⟨G,ak.put lu (.opt false av undef (by simp) (fun _=>rfl))⟩
theorem nW.EU{f:Nat}{ds rs:List DV}(h:nW P f ds rs):fF P f:=by obtain⟨_,_,h,_⟩:=h;grind
open Classical in
noncomputable def nX (G:Gh) (w:World) (κ:Nat->aw) (ids:List Nat):Mem:=fun b=>if ∃i,i∈ids/\cD G i (κ i) b then w.heap[b]? else G.M b
theorem H7{G:Gh}{w:World}{κ:Nat->aw}{ids:List Nat}(hf:Fit G w κ):(nX G w κ ids).In w:=by
 intro b x hb
 unfold nX at hb
 split at hb
 ·grind
 ·exact hf.sub b x hb
theorem xQ{G:Gh}{w:World}{κ:Nat->aw}{ids:List Nat}(hf:Fit G w κ):Mem.Le G.M (nX G w κ ids):=by
 intro b x hb
 unfold nX
 split
 ·rename_i h;obtain⟨i,_,ho⟩:=h;rw[hf.own i b ho]at hb;grind
 grind
theorem EV{G:Gh}{w:World}{κ:Nat->aw}{ids:List Nat}{i b:Nat}(hi:i∈ids)(ho:cD G i (κ i) b):nX G w κ ids b=w.heap[b]?:=by
 unfold nX
 rw[if_pos ⟨i,hi,ho⟩]
theorem Ov{f:Nat}{l:List AV}(hn:∀i,nx<=i->κ i=.none)(hg:cb ρ ops o.guard=some gd)(bU:uy P ops o ρ κ gd f l)(h:xR P n o nx κ gd k f l):Good P C ops n o nx ρ κ k:=by
 have ZR:(ES κ gd l fun ds ids=>∃rs,(gd=true->nW P f ds rs)/\xS rs=true/\bj n o gd nx k (xT rs) ids)->Good P C ops n o nx ρ κ k:=by
  intro h
  obtain⟨ds,ids,⟨rs,hc,kP,hk⟩,hb⟩:=vQ h
  refine ET hg hk fun ρ' κ' ay F hF g a w G ak aY K hK=>?_
  obtain⟨es,hle,hcb,jv⟩:=hc aY
  obtain⟨vs,bG,hrel⟩:=bU.2 ρ' κ' _ _ ay g n a w G ak aY hcb
  refine uz hF bU.1 bG ((jv w _ vs (H7 ak.fit) ((ak.o5.mono ak.mem).mono (xQ ak.fit)) (hle.SY (hb aY κ' G w vs ay.reads ak.fit hrel _ (xQ ak.fit) (fun i hi b ho=>EV hi ho)))).mono ?_)
  rintro e w' ⟨v,M',rfl,S0,ZS,dw,Ax,hZ⟩
  refine⟨v,rfl,?_⟩
  have hM:∀b,(if b<w.heap.size then G.M b else M' b)=(fun b=>if b<w.heap.size then G.M b else M' b) b:=fun _=>rfl
  obtain⟨h1,h2⟩:=ak.grown (M':=fun b=>if b<w.heap.size then G.M b else M' b) S0
   (fun b x hx=>by
    simp[if_pos ((adw.1 (ak.fit.sub b x hx)).1)];grind)
   (fun b x hx=>by
    by_cases au:b<w.heap.size
    ·simp[if_pos au]at hx;rw[S0.block b au];exact ak.fit.sub b x hx
    ·simp[if_neg au]at hx;exact dw b x hx)
   (fun b hb=>by grind)
  exact hK v w' _ h1 (Kr (Ow kP hZ))
 have Ks:∀{ds:List DV} {rs:List DV} {ids:List Nat} {κ':Nat->aw} {g:dV} {a:Act} {w:World} {G:Gh} {F:Fence} {ρ':Nat->AV} {vs:List Value} {K:Act->World->Prop},iR F->nW P f ds rs->cB g n ρ' κ' a w G->eZ G.M ds vs->(execOp a.eval o).run P w=.ok (.enter f vs.toArray) w->
  (∀v w' G',cB g n ρ' κ' a w' G'->aK G' (xT rs) v->K (a.put o.dst v) w')->o.wpIn F 0 P a w K (fun _ _ _=>False):=by
  intro ds rs ids κ' g a w G F ρ' vs K hF hc ak hd bG hK
  obtain⟨es,hle,hcb,jv⟩:=hc
  refine uz hF bU.1 bG ((jv w _ vs ak.fit.sub (ak.o5.mono ak.mem) (hle.SY hd)).mono ?_)
  rintro e w' ⟨v,M',rfl,S0,ZS,dw,Ax,hZ⟩
  refine⟨v,rfl,?_⟩
  obtain⟨h1,h2⟩:=ak.grown S0 ZS dw Ax
  exact hK v w' _ h1 (Kr hZ)
 unfold xR at h
 split at h
 ·rename_i ds An
  obtain⟨rs,hc,hk⟩:=h
  refine ET hg hk fun ρ' κ' ay F hF g a w G ak aY K hK=>?_
  obtain⟨vs,bG,hrel⟩:=bU.2 ρ' κ' _ _ ay g n a w G ak aY (hc aY).EU
  exact Ks (ids:=[]) hF (hc aY) ak (kE (all:=[]) (by simp) (Gh.Le.refl G) (by simpa[mc,aF]using ak.fit) An (by simp) hrel) bG hK
 ·rename_i ds ids cF An
  rcases h with h|⟨rs,hc,hk⟩
  ·grind
  ·refine Kt bU.1 hg hk (adM _) (fun p hp=>uA hn hp) fun ρ' κ' ay F hF g a w G dK ak aY K hK=>?_
   obtain⟨vs,bG,hrel⟩:=bU.2 ρ' κ' _ _ ay g n a w G ak aY (hc aY).EU
   obtain⟨G1,f1,f2,f3,f4,f5⟩:=ak.qE ids ay.reads
   exact Ks (ids:=[]) hF (hc aY) f5 (kE ay.reads f1 f5.fit An (fun i hi=>hi) hrel) bG hK
 grind
end
end
section
open Go.RowKit
variable [cj]
section
variable {P:Program} {C:dV->Prop} {T:List TI} {ops:List Oper} {n:Nat} {o:Oper} {nx:Nat} {ρ:Nat->AV} {κ:Nat->aw} {k:l9->Nat->Prop} {gd:Bool}
theorem pw{x:Operand}{v:AV}(h:ev ρ κ x=v):bN ρ κ gd x v:=by
 intro ρ' κ' ay g n a w G ak _
 rw[<-h]
 exact A4 ρ' κ' ay g n a w G ak
theorem uB{x:Operand}{v:AV}{g':Bool}(h:ev ρ κ x=.opt g' v)(hg:gd=true->g'=true)(hr:res κ v=v):bN ρ κ gd x v:=by
 have:=EW h hg
 rwa[hr]at this
theorem Ox{c x y:Operand}(hg:cb ρ ops o.guard=some gd)(ho:o.op=.pick c x y)
 (h:match ev ρ κ c,ev ρ κ x,ev ρ κ y with
  |.dv (.bool b),.dv (.bool p),.dv (.bool q)=>bj n o gd nx k (.dv (.bool (bif b then p else q))) []
  |.dv (.bool b),.opt gp (.dv (.bool p)),.dv (.bool q)=>(gd=true->b=true->gp=true)/\bj n o gd nx k (.dv (.bool (bif b then p else q))) []
  |.dv (.bool b),.dv (.bool p),.opt gq (.dv (.bool q))=>(gd=true->b=false->gq=true)/\bj n o gd nx k (.dv (.bool (bif b then p else q))) []
  |.opt gb (.dv (.bool b)),.opt gp (.dv (.bool p)),.dv (.bool q)=>(gd=true->gb=true/\(b=true->gp=true))/\bj n o gd nx k (.dv (.bool (bif b then p else q))) []
  |.opt gb (.dv (.bool b)),.dv (.bool p),.opt gq (.dv (.bool q))=>(gd=true->gb=true/\(b=false->gq=true))/\bj n o gd nx k (.dv (.bool (bif b then p else q))) []
  |_,_,_=>False):Good P C ops n o nx ρ κ k:=by
 split at h
 ·rename_i b p q h1 h2 h3
  exact nY hg ho h (pw h1) (pw h2) (pw h3)
 ·rename_i b gp p q h1 h2 h3
  exact nY hg ho h.2 (pw h1) (uB h2 (by simp only[adT];exact fun hh=>h.1 hh.1 hh.2) rfl) (pw h3)
 ·rename_i b p gq q h1 h2 h3
  exact nY hg ho h.2 (pw h1) (pw h2) (uB h3 (by simp only[adT,adV];exact fun hh=>h.1 hh.1 hh.2) rfl)
 ·rename_i gb b gp p q h1 h2 h3
  exact nY hg ho h.2 (uB h1 (fun hh=>(h.1 hh).1) rfl) (uB h2 (by simp only[adT];exact fun hh=>(h.1 hh.1).2 hh.2) rfl) (pw h3)
 ·rename_i gb b p gq q h1 h2 h3
  exact nY hg ho h.2 (uB h1 (fun hh=>(h.1 hh).1) rfl) (pw h2) (uB h3 (by simp only[adT,adV];exact fun hh=>(h.1 hh.1).2 hh.2) rfl)
 ·exact h.elim
theorem S1(hT:fD P T){c:Call}{x:Operand}{t:Nat}{v:AV}(hg:cb ρ ops o.guard=some gd)(ho:o.op=.call c)(hc:c.callee=.builtin .len)(ha:c.args.toList=[x])(lY:c.argTypes.toList=[t])
 (bU:bN ρ κ gd x v) (h:Cv (nth T t) κ gd v fun r rd=>bj n o gd nx k r rd):Good P C ops n o nx ρ κ k:=by
 unfold Cv at h
 split at h
 ·have hh:=aQ h;clear h;obtain⟨hb,h⟩:=hh
  simp only[adT]at hb
  refine rN hT hg ho hc ha lY h bU hb.1 fun _ κ' _ G w v _ hv=>.inl ⟨hb.2,?_⟩
  cases hv with|dv hv=>cases hv with
  |slnil=>exact⟨_,_,_,rfl,rfl⟩
  |sl=>exact⟨_,_,_,rfl,rfl⟩
 ·have hh:=aQ h;clear h;obtain⟨hb,h⟩:=hh
  simp only[adT]at hb
  refine rN hT hg ho hc ha lY h bU hb.1 fun _ κ' _ G w v _ hv=>.inl ⟨hb.2,?_⟩
  cases hv with|dv hv=>cases hv with
  |ax=>exact⟨_,_,_,rfl,rfl⟩
 ·have hh:=aQ h;clear h;obtain⟨hb,h⟩:=hh
  simp only[adT]at hb
  refine rN hT hg ho hc ha lY h bU hb.1 fun _ κ' _ G w v _ hv=>.inr (.inl ⟨hb.2,?_⟩)
  cases hv with|dv hv=>cases hv with
  |str=>exact⟨_,rfl,rfl⟩
 ·rename_i i ver ep p
  split at h
  ·rename_i bJ cn d hk
   have hh:=aQ h;clear h;obtain⟨hb,h⟩:=hh
   obtain⟨rfl,fo⟩:=dE hb
   obtain⟨nd,h,dW⟩:=bY h
   split at h
   ·rename_i sz l
    have hh:=aQ h;clear h;obtain⟨hb,h⟩:=hh
    simp only[adT]at hb
    refine rN hT hg ho hc ha lY h bU hb.1 fun aY κ' ay G w v hf hv=>.inl ⟨hb.2,?_⟩
    obtain⟨u,h1,_,bq⟩:=hf.node ((ay i (by simp)).trans hk) (dW aY) rfl
    cases hv with|own _ _ _ _ _ hh hc=>
    rw[cZ fo,h1]at hh
    injection hh with hh
    subst hh
    rcases bq with⟨rfl,rfl⟩|⟨gb,ob,cap,cc,tt,rfl,_⟩
    ·exact⟨_,_,_,rfl,rfl⟩
    ·exact⟨_,_,_,rfl,rfl⟩
   ·rename_i ks m
    have hh:=aQ h;clear h;obtain⟨hb,h⟩:=hh
    simp only[adT]at hb
    refine rN hT hg ho hc ha lY h bU hb.1 fun aY κ' ay G w v hf hv=>.inr (.inr ⟨hb.2,?_⟩)
    obtain⟨u,h1,_,bq⟩:=hf.node ((ay i (by simp)).trans hk) (dW aY) rfl
    cases hv with|own _ _ _ _ _ hh hc=>
    rw[cZ fo,h1]at hh
    injection hh with hh
    subst hh
    obtain⟨m0,ux,gb,es,clock,rfl,hw,bP,_⟩:=bq
    exact⟨gb,es,clock,rfl,hw,by rw[bP,ux.length_eq]⟩
   ·exact h.elim
  ·exact h.elim
 ·have hh:=aQ h;clear h;obtain⟨hb,h⟩:=hh
  simp only[adT]at hb
  refine rN hT hg ho hc ha lY h bU hb.1 fun _ κ' _ G w v _ hv=>.inl ⟨hb.2,?_⟩
  cases hv
  exact⟨_,_,_,rfl,rfl⟩
 ·have hh:=aQ h;clear h;obtain⟨hb,h⟩:=hh
  simp only[adT]at hb
  refine rN hT hg ho hc ha lY h bU hb.1 fun _ κ' _ G w v _ hv=>.inl ⟨hb.2,?_⟩
  cases hv
  exact⟨_,_,_,rfl,rfl⟩
 ·exact h.elim
theorem wQ{x:Operand}{i ver ep cn:Nat}{p:List PS}{d y:DV}(hg:cb ρ ops o.guard=some gd)(ho:o.op=.nilCheck x)(hk:κ i=.tree ver cn d)(fo:p=[]\/ep=cn)(dW:gd=true->get d p=some (.gF y))
 (hr:bj n o gd nx k (.loc i ver ep p 1 0 0) [i]) (bU:bN ρ κ gd x (.own i ver ep p)):Good P C ops n o nx ρ κ k:=by
 refine bE (fun c=>by rw[ho];simp) hg hr fun ρ' κ' ay g a w G ak aY=>?_
 have hv:=bU ρ' κ' (ay.op (by rw[ho];simp[Op.operands])) g n a w G ak aY
 generalize hx:a.eval x=v at hv
 obtain⟨u,h1,_,bq⟩:=ak.fit.node ((ay.reads i (by simp)).trans hk) (dW aY) rfl
 cases hv with|own _ _ _ _ _ hh hc=>
 have Ze:=hh
 rw[cZ fo,h1]at hh
 injection hh with hh
 subst hh
 obtain⟨gb,c,t,rfl,hw,_⟩:=bq
 refine⟨.pointer (some ⟨gb,0,none⟩),by simp[execOp,ho,hx],?_⟩
 have:=aK.rh (G:=G) i ver ep p 1 0 0 _ Ze
 rw[fa]at this
 exact this
theorem Ay(hT:fD P T){t f:Nat}{x:Operand}{v:AV}(hg:cb ρ ops o.guard=some gd)(ho:o.op=.fieldAddr t x f)
 (h:match(nth T t).ok,(nth T t).fields[f]? with
  |true,some (off,sz+1)=>match v with
   |.ptr i o'=>bj n o gd nx k (.ptr i (o'+off)) []
   |.dv (.at x o')=>bj n o gd nx k (.dv (.at x (o'+off))) []
   |.loc i ver ep p pz idx o'=>bj n o gd nx k (.loc i ver ep p pz idx (o'+off)) []
   |_=>False
  |_,_=>False) (bU:bN ρ κ gd x v):Good P C ops n o nx ρ κ k:=by
 split at h
 ·rename_i off sz cC hf
  split at h
  ·refine nZ hT hg ho cC hf h bU (fun G v hv=>?_)
   cases hv with
   |ptr _ _ b hb=>
    refine⟨_,rfl,?_⟩
    rw[fa]
    exact .ptr _ _ b hb
  ·refine nZ hT hg ho cC hf h bU (fun G v hv=>?_)
   cases hv with|dv hv=>cases hv with
   |_=>
    rename_i A cell l7 hc hr
    refine⟨_,rfl,?_⟩
    rw[cM]
    exact .dv (.at _ _ A cell l7 hc hr)
  ·refine nZ hT hg ho cC hf h bU (fun G v hv=>?_)
   cases hv with
   |loc _ _ _ _ _ _ _ A m c he=>
    refine⟨_,rfl,?_⟩
    rw[cM,Nat.add_assoc]
    exact .loc _ _ _ _ _ _ _ A m c he
   |rh _ _ _ _ _ _ _ A he=>
    refine⟨_,rfl,?_⟩
    rw[cM,Nat.add_assoc]
    exact .rh _ _ _ _ _ _ _ A he
  ·exact h.elim
 ·exact h.elim
theorem Mc(hT:fD P T){t f:Nat}{x:Operand}{v:AV}(hg:cb ρ ops o.guard=some gd)(ho:o.op=.field t x f)
 (h:match(nth T t).ok,(nth T t).fields[f]?,(nth T t).Cw[f]? with
  |true,some (off,sz+1),some ft=>match v with
   |.agg l=>bif (nth T ft).ok&&Nat.beq (nth T ft).size (sz+1)then cw (nth T ft).agg l off (sz+1) fun v=>bj n o gd nx k v []else False
   |_=>False
  |_,_,_=>False) (bU:bN ρ κ gd x v):Good P C ops n o nx ρ κ k:=by
 split at h
 ·rename_i off sz ft cC hf ZT
  split at h
  ·have hh:=aQ h;clear h;obtain⟨hb,h⟩:=hh
   simp only[adT]at hb
   exact Oy hT hg ho cC hf ZT hb.1 (ab9 hb.2) h bU
  ·exact h.elim
 ·exact h.elim
theorem Md(hT:fD P T){t:Nat}{x i:Operand}{v iv:AV}(hg:cb ρ ops o.guard=some gd)(ho:o.op=.indexAddr t x i)
 (h:bif (nth T t).ok&&(nth T t).isSl&&(nth T (nth T t).elem).ok then
  match v,iv with
  |.dv (.sl sz l),.dv (.int _ m)=>bif Nat.beq sz (nth T (nth T t).elem).size then ∃x,(gd=true->0<=m/\l[m.toNat]?=some x)/\bj n o gd nx k (.dv (.at x 0)) []else False
  |.own j ver ep p,.dv (.int _ m)=>match κ j with
   |.tree bJ cn d=>bif Nat.beq ver bJ&&(emp p||Nat.beq ep cn)then kh gd d p fun nd=>match nd with
    |.aD sz l=>bif Nat.beq sz (nth T (nth T t).elem).size then(gd=true->0<=m/\m<l.length)/\bj n o gd nx k (.loc j ver ep p sz m.toNat 0) [j]else False
    |_=>False
    else False
   |_=>False
  |.sle j len,.dv (.int _ m)=>(gd=true->0<=m/\m<len)/\bj n o gd nx k (.ptr j (m.toNat*(nth T (nth T t).elem).size)) []
  |.pre j ver ep p sz lo len,.dv (.int _ m)=>bif Nat.beq sz (nth T (nth T t).elem).size then(gd=true->0<=m/\m<len)/\bj n o gd nx k (.loc j ver ep p sz (lo+m.toNat) 0) []else False
  |_,_=>False
  else False) (bU:bN ρ κ gd x v) (pA:bN ρ κ gd i iv):Good P C ops n o nx ρ κ k:=by
 have hh:=aQ h;clear h;obtain⟨hb,h⟩:=hh
 simp only[adT]at hb
 split at h
 ·have hh:=aQ h;clear h;obtain⟨cx,x,hy,h⟩:=hh
  exact EX hT hg ho hb.1.1 hb.1.2 hb.2 (ab9 cx) hy h bU pA
 ·split at h
  ·rename_i hk
   have hh:=aQ h;clear h;obtain⟨cx,h⟩:=hh
   obtain⟨rfl,fo⟩:=dE cx
   obtain⟨nd,h,dW⟩:=bY h
   split at h
   ·have hh:=aQ h;clear h;obtain⟨A5,hy,h⟩:=hh
    exact Cx hT hg ho hb.1.1 hb.1.2 hb.2 (ab9 A5) hk fo dW hy h bU pA
   ·exact h.elim
  ·exact h.elim
 ·exact Cy hT hg ho hb.1.1 hb.1.2 hb.2 h.1 h.2 bU pA
 ·have hh:=aQ h;clear h;obtain⟨cx,hy,h⟩:=hh
  exact Cz hT hg ho hb.1.1 hb.1.2 hb.2 (ab9 cx) hy h bU pA
 ·exact h.elim
theorem H8(hT:fD P T){t:Nat}{x i:Operand}{v iv:AV}(hg:cb ρ ops o.guard=some gd)(ho:o.op=.indexAddr t x i)
 (h:CA (nth T t) (nth T (nth T t).elem) gd v iv fun v=>bj n o gd nx k v []) (bU:bN ρ κ gd x v) (pA:bN ρ κ gd i iv):Good P C ops n o nx ρ κ k:=by
 have hh:=aQ h;clear h;obtain⟨hb,h⟩:=hh
 simp only[adT]at hb
 have EY:=ab9 hb.1.2
 split at h
 ·rename_i kd m
  obtain⟨hm,h⟩:=h
  split at h
  ·rename_i y off
   refine n0 hT hg ho hb.1.1 EY hb.2 hm h bU pA fun G v hv=>?_
   cases hv with|dv hv=>cases hv with|«at» _ _ A cell l7 hc hr=>
   exact⟨_,rfl,.dv (by rw[cM];exact .at y _ A cell l7 hc hr)⟩
  ·rename_i j off
   refine n0 hT hg ho hb.1.1 EY hb.2 hm h bU pA fun G v hv=>?_
   cases hv with|ptr _ _ b hb=>
   exact⟨_,rfl,by rw[show(⟨b,off,none⟩:Addr).add (m.toNat*(nth T (nth T t).elem).size)=⟨b,off+m.toNat*(nth T (nth T t).elem).size,none⟩by unfold Addr.add;split<;>simp[*]];exact .ptr j _ b hb⟩
  ·rename_i j ver ep p sz idx off
   refine n0 hT hg ho hb.1.1 EY hb.2 hm h bU pA fun G v hv=>?_
   cases hv with
   |loc _ _ _ _ _ _ _ A n c e=>exact⟨_,rfl,by rw[cM,Nat.add_assoc];exact .loc j ver ep p sz idx _ A n c e⟩
   |rh _ _ _ _ _ _ _ A e=>exact⟨_,rfl,by rw[cM,Nat.add_assoc];exact .rh j ver ep p sz idx _ A e⟩
  ·exact h.elim
 ·exact h.elim
theorem Oz(hT:fD P T){t:Nat}{x:Operand}{v:AV}(hg:cb ρ ops o.guard=some gd)(ho:o.op=.load t x)(cC:(nth T t).ok=true)
 (h:match v with
  |.ptr i off=>match κ i with
   |.cells l=>cw (nth T t).agg l off (nth T t).size fun v=>bj n o gd nx k v [i]
   |_=>False
  |.dv (.at x off)=>cw (nth T t).agg (ed x.cells) off (nth T t).size fun v=>bj n o gd nx k v []
  |.loc i ver ep p sz idx off=>match κ i with
   |.tree bJ cn d=>bif Nat.beq ver bJ&&(emp p||Nat.beq ep cn)then kh gd d p fun nd=>kQ i ver cn p gd sz idx nd fun l=>
    cw (nth T t).agg l off (nth T t).size fun v=>bj n o gd nx k v [i]
    else False
   |_=>False
  |_=>False) (bU:bN ρ κ gd x v):Good P C ops n o nx ρ κ k:=by
 split at h
 ·split at h
  ·rename_i hk
   exact EZ hT hg ho cC hk h bU
  ·exact h.elim
 ·exact H9 hT hg ho cC h bU
 ·split at h
  ·rename_i hk
   have hh:=aQ h;clear h;obtain⟨cx,h⟩:=hh
   obtain⟨rfl,fo⟩:=dE cx
   exact E0 hT hg ho cC hk fo h bU
  ·exact h.elim
 ·exact h.elim
theorem Me(hT:fD P T){t:Nat}{x y:Operand}{p v:AV}(hn:∀i,nx<=i->κ i=.none)(hg:cb ρ ops o.guard=some gd)(ho:o.op=.store t x y)(cC:(nth T t).ok=true)
 (h:bif Nat.beq (cellsOf v).length (nth T t).size&&cd (cellsOf v)then
  match p with
  |.ptr i off=>match κ i with
   |.cells l=>bif Nat.ble (off+(nth T t).size) l.length then dP n o nx k .any [(i,.cells (iS l off (cellsOf v)))] [i]else False
   |_=>False
  |.loc i ver ep p sz idx off=>qF n o nx κ k i ver ep p sz idx off (cellsOf v)
  |_=>False
  else False) (bU:bN ρ κ gd x p) (Ku:bN ρ κ gd y v):Good P C ops n o nx ρ κ k:=by
 have hh:=aQ h;clear h;obtain⟨hb,h⟩:=hh
 simp only[adT]at hb
 have jI:=ab9 hb.1
 split at h
 ·rename_i i off
  split at h
  ·rename_i l hk
   have hh:=aQ h;clear h;obtain⟨cx,h⟩:=hh
   have au:i<nx:=by
    rcases adC i nx with h|h
    ·exact h
    ·rw[hn i h]at hk;cases hk
   exact CB hT hg ho cC hk jI hb.2 (Nat.le_of_ble_eq_true cx) h au bU Ku
  ·exact h.elim
 ·exact CC hT hg ho hn cC jI hb.2 h bU Ku
 ·exact h.elim
structure Kv(P:Program)(C:dV->Prop)(ops:List Oper)(n:Nat)(o:Oper)(nx:Nat)(ρ:Nat->AV)(κ:Nat->aw)(k:l9->Nat->Prop):Prop where
 call:∀{gd:Bool} {f:Nat} {l:List AV},cb ρ ops o.guard=some gd->uy P ops o ρ κ gd f l->ki none (bW P f) n o gd nx κ k l->Good P C ops n o nx ρ κ k
 eN:∀{gd:Bool} {c:Call} {t i:Nat} {l:List AV},cb ρ ops o.guard=some gd->o.op=.call c->c.callee=.value (.tmp t)->bN ρ κ gd (.tmp t) (.eN i)->mn ρ κ gd c.args.toList l->
  ki (some i) (dQ P) n o gd nx κ k l->Good P C ops n o nx ρ κ k
theorem uC(hT:fD P T)(hn:∀i,nx<=i->κ i=.none)(hR:Kv P C ops n o nx ρ κ k)(h:qG P T ops n o nx ρ κ k):Good P C ops n o nx ρ κ k:=by
 have iT:∀{gd:Bool} {f:Nat} {l:List AV},cb ρ ops o.guard=some gd->uy P ops o ρ κ gd f l->(xR P n o nx κ gd k f l\/ki none (bW P f) n o gd nx κ k l)->Good P C ops n o nx ρ κ k:=by
  intro gd f l hg bU h
  rcases h with h|h
  ·exact Ov hn hg bU h
  ·exact hR.call hg bU h
 unfold qG at h
 split at h
 ·exact h.elim
 ·rename_i gd hg
  split at h
  ·rename_i x ho
   exact S2 hg ho h
  ·rename_i x ho
   obtain⟨v,h,bU⟩:=aL h
   exact Mf hg ho h bU
  ·rename_i x ho
   obtain⟨v,h,bU⟩:=aL h
   split at h
   ·exact pB hg ho h bU (fun G v hv=>by cases hv;exact⟨_,rfl⟩)
   ·exact pB hg ho h bU (fun G v hv=>by cases hv<;>exact⟨_,rfl⟩)
   ·exact pB hg ho h bU (fun G v hv=>by cases hv with|dv hv=>cases hv;exact⟨_,rfl⟩)
   ·split at h
    ·rename_i hk
     have hh:=aQ h;clear h;obtain⟨hb,h⟩:=hh
     obtain⟨rfl,fo⟩:=dE hb
     obtain⟨nd,h,dW⟩:=bY h
     split at h
     ·exact wQ hg ho hk fo dW h bU
     ·exact h.elim
    ·exact h.elim
   ·exact h.elim
  ·rename_i c x y ho
   exact Ox hg ho h
  ·rename_i op t x y ty ho
   obtain⟨va,h,Wv⟩:=aL h
   obtain⟨vb,h,Ww⟩:=aL h
   cases hb:vb.ly with
   |false=>
    rw[hb]at h
    cases ha:va.ag with
    |false=>rw[ha]at h;exact OA hT hg ho Wv Ww h
    |true=>rw[ha]at h;exact Wx hT hg ho Wv Ww h
   |true=>
    rw[hb]at h
    have hb:vb=.dv .ax:=by
     cases vb with
     |dv d=>cases d<;>simp[AV.ly]at hb;rfl
     |_=>simp[AV.ly]at hb
    subst hb
    exact Ia hT hg ho Wv Ww h
  ·rename_i op t x ho
   obtain⟨v,h,bU⟩:=aL h
   split at h
   ·exact Wy hg ho h bU
   ·exact Wz hg ho h bU
   ·exact h.elim
  ·rename_i x i ho
   obtain⟨v,h,bU⟩:=aL h
   split at h
   ·split at h
    ·rename_i hl
     rw[force_eq]at h
     exact Ib hg ho h hl bU
    ·exact h.elim
   ·exact h.elim
  ·rename_i t x f ho
   obtain⟨v,h,bU⟩:=aL h
   exact Mc hT hg ho h bU
  ·rename_i t x f ho
   obtain⟨v,h,bU⟩:=aL h
   exact Ay hT hg ho h bU
  ·rename_i t x i ho
   obtain⟨v,h,bU⟩:=aL h
   obtain⟨iv,h,pA⟩:=aL h
   cases hb:(nth T t).ok&&(nth T t).isSl&&(nth T (nth T t).elem).ok with
   |true=>rw[hb]at h;exact Md hT hg ho (by rw[hb];exact h) bU.dn pA
   |false=>rw[hb]at h;exact H8 hT hg ho h bU pA
  ·rename_i t x ho
   have hh:=aQ h;clear h;obtain⟨cC,h⟩:=hh
   obtain⟨v,h,bU⟩:=aL h
   exact Oz hT hg ho cC h bU
  ·rename_i t x y ho
   have hh:=aQ h;clear h;obtain⟨cC,h⟩:=hh
   obtain⟨p,h,bU⟩:=aL h
   obtain⟨v,h,Ku⟩:=aL h
   exact Me hT hn hg ho cC h bU Ku
  ·rename_i fn first bQ ho
   obtain⟨l,h,h1⟩:=kR h
   obtain⟨r,h,h2⟩:=kR h
   split at h
   ·exact vR hg ho h1 h2 (.inl ⟨rfl,rfl⟩) h
   ·exact vR hg ho h1 h2 (.inr ⟨rfl,rfl⟩) h
   ·exact h.elim
  ·rename_i t ho
   have hh:=aQ h;clear h;obtain⟨cC,s,h⟩:=hh
   exact Ic hg ho (hn nx (adM _)) h
  ·rename_i t x ho
   have hh:=aQ h;clear h;obtain⟨cC,h⟩:=hh
   simp only[adT]at cC
   obtain⟨v,h,bU⟩:=aL h
   split at h
   ·obtain⟨s,h⟩:=h
    exact E1 hT hg ho cC.1 (ab9 cC.2) (hn nx (adM _)) h bU
   ·exact h.elim
  ·rename_i t x i c ho
   have hh:=aQ h;clear h;obtain⟨hb,h⟩:=hh
   simp only[adT]at hb
   obtain⟨v,h,bU⟩:=aL h
   obtain⟨kv,h,pA⟩:=aL h
   exact Mg hT hg ho hb.1.1 (ab9 hb.1.2) hb.2 bU pA h
  ·rename_i t x i y ho
   have hh:=aQ h;clear h;obtain⟨hb,h⟩:=hh
   simp only[adT]at hb
   obtain⟨v,h,bU⟩:=aL h
   obtain⟨kv,h,pA⟩:=aL h
   obtain⟨u,h,Ku⟩:=aL h
   exact CD hT hg ho hn hb.1 (ab9 hb.2) bU pA Ku h
  ·rename_i t ho
   have hh:=aQ h;clear h;obtain⟨cC,h⟩:=hh
   exact OB hT hg ho cC (hn nx (adM _)) h
  ·rename_i t x ho
   obtain⟨v,h,bU⟩:=aL h
   have hh:=aQ h;clear h;obtain⟨hc,h⟩:=hh
   exact WA hg ho (hn nx (adM _)) hc h bU
  ·rename_i t parts ho
   have hh:=aQ h;clear h;obtain⟨hb,h⟩:=hh
   simp only[adT]at hb
   obtain⟨l,h,hp⟩:=mN h
   split at h
   ·rename_i cs hf
    exact OC hT hg ho hb.1 hp hf hb.2 h
   ·exact h.elim
  ·rename_i t len parts ho
   have hh:=aQ h;clear h;obtain⟨hb,h⟩:=hh
   simp only[adT,Nat.blt_eq]at hb
   obtain⟨⟨⟨⟨h1,h2⟩,h3⟩,h4⟩,h5⟩:=hb
   obtain⟨l,h,hp⟩:=mN h
   split at h
   ·rename_i cs hf
    have hh:=aQ h;clear h;obtain⟨hc,h⟩:=hh
    exact Az hT hg ho hn h1 h2 h3 h4 h5 hp hf hc h
   ·exact h.elim
  ·rename_i t l c ho
   have hh:=aQ h;clear h;obtain⟨hb,h⟩:=hh
   simp only[adT,Nat.blt_eq]at hb
   obtain⟨⟨⟨b1,b2⟩,b3⟩,b4⟩:=hb
   obtain⟨lv,h,h1⟩:=aL h
   obtain⟨cv,h,h2⟩:=aL h
   split at h
   ·obtain⟨z,e1,e2,e3,e4,e5,fl,kP,h⟩:=h
    exact CE hT hg ho b1 b2 b3 b4 (hn nx (adM _)) e1 e2 e3 e4 e5 kP h h1 h2
   ·exact h.elim
  ·rename_i t x l hh ho
   have hq:=aQ h;clear h;obtain⟨hb,h⟩:=hq
   simp only[adT]at hb
   obtain⟨v,h,bU⟩:=aL h
   obtain⟨lo,h,hl⟩:=A6 h
   obtain⟨hi,h,E2⟩:=A6 h
   exact OD hT hg ho hn hb.1 hb.2 bU.dn hl E2 h
  ·rename_i c ho
   split at h
   ·rename_i hc
    split at h
    ·rename_i x t ha lY
     obtain⟨v,h,bU⟩:=aL h
     exact S1 hT hg ho hc ha lY bU.dn h
    ·exact h.elim
   ·rename_i hc
    split at h
    ·rename_i x i t t' ha lY
     have hh:=aQ h;clear h;obtain⟨hb,h⟩:=hh
     simp only[adT]at hb
     obtain⟨v,h,bU⟩:=aL h
     obtain⟨kv,h,pA⟩:=aL h
     exact CF hT hg ho hc ha lY hn hb.1 (ab9 hb.2) bU pA h
    ·exact h.elim
   ·rename_i hc
    split at h
    ·rename_i s x t t' ha lY
     have hh:=aQ h;clear h;obtain⟨hb,h⟩:=hh
     have:=ab9 hb
     subst this
     obtain⟨sv,h,h1⟩:=aL h
     obtain⟨xv,h,h2⟩:=aL h
     rcases h with h|h
     ·exact Ie hT hg ho hc ha lY hn h h1 h2.dn
     ·exact Mh hT hg ho hc ha lY hn h h1.dn h2.dn
    ·exact h.elim
   ·rename_i hc
    split at h
    ·rename_i x y ha
     obtain⟨a,h,h1⟩:=aL h
     obtain⟨b,h,h2⟩:=aL h
     split at h
     ·exact WB hg ho hc ha h h1 h2
     ·exact h.elim
    ·exact h.elim
   ·rename_i hc
    split at h
    ·rename_i x y ha
     obtain⟨a,h,h1⟩:=aL h
     obtain⟨b,h,h2⟩:=aL h
     split at h
     ·exact WC hg ho hc ha h h1 h2
     ·exact h.elim
    ·exact h.elim
   ·rename_i f hc
    obtain⟨l,h,h1⟩:=kR h
    exact iT hg (vO ho hc h1) h
   ·rename_i t hc
    obtain⟨v,h,bU⟩:=aL h
    obtain⟨l,h,h1⟩:=kR h
    split at h
    ·exact iT hg (rK ho hc bU h1 (.inl ⟨_,rfl,rfl⟩)) h
    ·exact iT hg (rK ho hc bU h1 (.inr (.inl ⟨_,rfl,rfl⟩))) h
    ·exact iT hg (rK ho hc bU h1 (.inr (.inr ⟨_,rfl,rfl⟩))) h
    ·rcases h with h|⟨hf,u,h⟩
     ·exact hR.eN hg ho hc bU h1 h
     ·exact bE (fun c=>by rw[ho];simp) hg h fun _ _ _ _ _ _ _ _ aY=>by rw[hf]at aY;cases aY
    ·exact h.elim
   ·exact h.elim
  ·rename_i t x ho
   have hh:=aQ h;clear h;obtain⟨hb,h⟩:=hh
   simp only[adT]at hb
   obtain⟨v,h,bU⟩:=aL h
   split at h
   ·rename_i j ver ep p
    split at h
    ·rename_i d hj
     have hh:=aQ h;clear h;obtain⟨cx,h⟩:=hh
     simp only[adT,Bool.or_eq_true]at cx
     obtain⟨nd,h,dW⟩:=bY h
     split at h
     ·exact OE hT hg ho hb.1 (ab9 hb.2) (hn nx (adM _)) hj (by have:=cx.2;rw[Nat.blt_eq]at this;exact this) (ab9 cx.1.1)
       (cx.1.2.imp (fun e=>by cases p with|nil=>rfl|cons=>simp[emp]at e) ab9) (dW rfl) h bU
     ·exact h.elim
    ·exact h.elim
   ·exact h.elim
  ·rename_i x ho
   obtain⟨v,h,bU⟩:=aL h
   split at h
   ·rename_i i
    split at h
    ·rename_i hi
     exact OF hg ho hi h.1 h.2 bU
    ·exact h.elim
   ·exact h.elim
  ·rename_i s t x ho
   have hh:=aQ h;clear h;obtain⟨hb,h⟩:=hh
   simp only[adT]at hb
   obtain⟨v,h,bU⟩:=aL h
   split at h
   ·rename_i hi
    exact Ig hT hg ho hb.1 hb.2 hi h bU
   ·exact h.elim
  ·rename_i t x i ho
   have hh:=aQ h;clear h;obtain⟨hb,h⟩:=hh
   simp only[adT]at hb
   obtain⟨v,h,bU⟩:=aL h
   obtain⟨iv,h,pA⟩:=aL h
   split at h
   ·obtain⟨b,Kw,h⟩:=h
    exact OG hT hg ho hb.1 hb.2 Kw h bU pA
   ·exact h.elim
  ·exact h.elim
end
end
end Go.TM
