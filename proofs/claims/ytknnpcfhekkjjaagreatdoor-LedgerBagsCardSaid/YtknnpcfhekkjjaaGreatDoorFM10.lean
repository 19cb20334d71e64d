import Derived.Test.YtknnpcfhekkjjaaGreatDoorFM9
import Derived.Laws.BytesString
set_option linter.all false
namespace Go.TM
section
open Go.RowKit
variable [cn]
section
variable {P:Program} {C:dP->Prop} {T:List TI} {ops:List Oper} {n:Nat} {o:Oper} {nx:Nat} {ρ:Nat->AV} {κ:Nat->aq} {k:kN->Nat->Prop} {gd:Bool}
def xp(ρ:Nat->AV)(κ:Nat->aq)(g:Bool):Option Operand->Option Int->Prop
 |none,none=>True
 |some x,some n=>bz ρ κ g x (.dv (.int .i64 n))
 |_,_=>False
theorem AB{x:Option Operand}{q:Option Int->Prop}(h:XF ρ κ gd x q):∃b,q b/\xp ρ κ gd x b:=by
 unfold XF at h
 split at h
 ·exact⟨none,h,tv⟩
 ·obtain⟨v,h,hv⟩:=aD h
  split at h
  ·rename_i m;exact⟨some m,h,hv⟩
  ·exact h.elim
theorem xp.val{ρ':Nat->AV}{κ':Nat->aq}{g:dP}{a:Act}{w:World}{G:Gh}{x:Option Operand}{b:Option Int}(h:xp ρ κ gd x b)(ai:cy g n ρ' κ' a w G)(aN:gd=true)(aw:∀y,x=some y->BY ρ ρ' κ κ' y):x.map a.eval=b.map (Value.int .i64):=by
 cases x with
 |none=>cases b with
  |none=>rfl
  |some=>exact h.elim
 |some y=>cases b with
  |none=>exact h.elim
  |some m=>
   have hv:=h ρ' κ' (aw y rfl) g n a w G ai aN
   simp only[Option.map_some]
   generalize a.eval y=v at hv
   cases hv with|dv hv=>cases hv with|int=>rfl
theorem qW{w:World}{isSl:Bool}{len cap:Nat}{lo hi:Option Int}(h1:0<=lo.getD 0)(h2:lo.getD 0<=hi.getD len)(h3:hi.getD len<=len)(h4:len<=cap):
 (Instr.sliceBounds isSl len cap (lo.map (Value.int .i64)) (hi.map (Value.int .i64)) none).run P w=.ok ((lo.getD 0).toNat,(hi.getD len).toNat,cap) w:=by
 cases lo with
 |none=>
  cases hi with
  |none=>simp[Instr.sliceBounds]
  |some h=>
   simp only[Option.getD_some,Option.getD_none]at*
   have:0<=h/\h<=(cap:Int):=by omega
   simp[Instr.sliceBounds,Instr.sliceBound,asIntOf,this]
 |some l=>
  cases hi with
  |none=>
   simp only[Option.getD_some,Option.getD_none]at*
   have:0<=l/\l<=(len:Int):=by omega
   simp[Instr.sliceBounds,Instr.sliceBound,asIntOf,this]
  |some h=>
   simp only[Option.getD_some]at*
   have h5:0<=h/\h<=(cap:Int):=by omega
   have h6:0<=l/\l<=h:=by omega
   have h7:(max h 0:Int)=h:=by omega
   simp[Instr.sliceBounds,Instr.sliceBound,asIntOf,h5,h6,h7]
theorem MU(hT:fb P T){s t:Nat}{x:Operand}{v:AV}(hg:bZ ρ ops o.guard=some gd)(ho:o.op=.convert s t x)(hs:(nth T s).ok=true)(ht:(nth T t).ok=true)
 (h:GQ (nth T s) (nth T (nth T s).elem) (nth T t) κ v fun r rd=>aT n o gd nx k r rd) (bJ:bz ρ κ gd x v):Good P C ops n o nx ρ κ k:=by
 obtain⟨i1,u1,z1,XG⟩:=hT.facts hs
 obtain⟨i2,u2,z2,tf2⟩:=hT.facts ht
 unfold GQ at h
 cases hb:(nth T s).isSl&&(nth T (nth T s).elem).ok&&Rj (nth T (nth T s).elem).GR&&(nth T t).isStr with
 |false=>rw[hb]at h;exact h.elim
 |true=>
 rw[hb]at h
 simp only[cond_true]at h
 simp only[acj]at hb
 obtain⟨⟨⟨iw,r8⟩,hu8⟩,ai⟩:=hb
 obtain⟨i3,u3,z3,tf3⟩:=hT.facts r8
 have hu1:=XG.slice iw
 have XH:=tf2.string ai
 have hu3:P.underlying (nth T s).elem=some (.int .u8):=by
  have h3:=tf3.GR
  rw[h3]at hu8
  cases u3<;>simp[D5,Rj]at hu8
  rename_i kk
  cases kk<;>simp[Rj]at hu8
  exact tf3.AD
 have dj:∀c,o.op≠.defer c:=fun c=>by rw[ho];simp
 rcases iA h with⟨rfl,hk⟩|⟨sz,ys,rd,kill,hk,Q3,Q4,kO⟩
 ·refine bo dj hg hk fun ρ' κ' aw g a w G ai aN=>?_
  have hv:=bJ ρ' κ' (aw.op (by rw[ho];simp[Op.operands])) g n a w G ai aN
  generalize hx:a.eval x=q at hv
  cases hv with|dv hv=>cases hv with|az=>
  exact⟨.string .empty,by simp[execOp,ho,hx,run_convert_bytes_string w s t _ none 0 0 hu1 hu3 XH,Conv.bytesToString],.dv (.str _)⟩
 ·cases hb:Nat.beq sz 1&&Tv kill with
  |false=>rw[hb]at hk;exact hk.elim
  |true=>
  rw[hb]at hk
  simp only[cond_true]at hk
  simp only[acj]at hb
  have:=abL hb.1
  subst this
  obtain⟨ns,rfl,hk⟩:=hk
  refine bo dj hg hk fun ρ' κ' aw g a w G ai aN=>?_
  have hv:=bJ ρ' κ' (aw.op (by rw[ho];simp[Op.operands])) g n a w G ai aN
  obtain⟨eE,GS,_⟩:=kO κ' G w _ (fun i hi=>aw.reads i hi) ai.fit hv
  generalize hx:a.eval x=q at GS
  rcases GS.Rk with⟨c,rfl,qX⟩|⟨A,cap,cell,rfl,cK⟩
  ·have:ns=[]:=by simpa using qX
   subst this
   exact⟨.string .empty,by simp[execOp,ho,hx,run_convert_bytes_string w s t _ none 0 c hu1 hu3 XH,Conv.bytesToString],.dv (.str _)⟩
  ·have XI:(loadCells A (ns.map (DV.int .u8)).length).run P w=.ok (ns.map (Value.int .u8)).toArray w:=by
    have h1:=run_loadCells (P:=P) w A (ns.map (DV.int .u8)).length (fun j=>Value.int .u8 (ns.getD j 0)) (fun j hj=>by
     have pV:j<ns.length:=by simpa using hj
     obtain⟨_,h2⟩:=cK j (.int .u8 ns[j]) (by simp[pV])
     obtain⟨_,h3,_,_,h4⟩:=h2 0 (.int .u8 ns[j]) rfl
     rw[Nat.mul_one,Nat.add_zero]at h3
     rw[h3]
     rcases h4 with⟨h5,_⟩|⟨_,h5⟩
     ·cases h5
     ·generalize cell j 0=u at h5⊢
      cases h5 with|int=>simp[List.getD,pV])
    rw[h1]
    congr 2
    refine List.ext_getElem (by simp) fun j h2 h3=>?_
    simp at h2 h3
    simp[List.getD,h3]
   refine⟨.string (Tw ns),?_,.dv (.str _)⟩
   have h2:=run_bytesToString (P:=P) w A (ns.map (DV.int .u8)).length cap ns XI
   simp only[execOp,ho,hx,Sem.run_bind,run_convert_bytes_string w s t _ (some A) _ cap hu1 hu3 XH,h2,Result.andThen_ok,Sem.run_pure]
   rfl
theorem aJ{c:Bool}{p:Prop}(h:bif c then p else False):c=true/\p:=by cases c<;>simp_all
theorem cy.cut{g:dP}{κ' κ2:Nat->aq}{a:Act}{w:World}{G:Gh}(ai:cy g n ρ κ' a w G){i ver bX sz:Nat}{xs:List DV}(eb:κ' i=.tree ver bX (.aB sz xs)){L H:Int}(b1:0<=L)(b2:L<=H)(b3:H<=xs.length)
 (h1:κ2 i=.tree (ver+1) 0 (.aB sz ((xs.take H.toNat).drop L.toNat))) (h3:∀j,j≠i->κ2 j=κ' j) {v0:Value} (GH:aH G.H i ver bX []=some v0):
 ∃A cap,v0=.slice A xs.length cap/\xs.length<=cap/\∃G',cy g n ρ κ2 a w G'/\aG G' (.own i (ver+1) 0 []) (.slice (if cap=L.toNat then A else A.map (·.add (L.toNat*sz))) (H.toNat-L.toNat) (cap-L.toNat)):=by
 have ez:=ai.fit.box i
 rw[eb]at ez
 obtain⟨ht,gn,I9,MC⟩:=ez
 obtain⟨v0',oz,tT,aZ⟩:=ht.2 [] _ rfl rfl
 rw[GH]at oz;injection oz with oz;subst oz
 have oz:=GH
 have hlen:((xs.take H.toNat).drop L.toNat).length=H.toNat-L.toNat:=by simp;omega
 let hN:Value->List PS->Option Value:=fun v' q=>match q with
  |[]=>some v'
  |.el i' j::r=>aH G.H i ver bX (.el (i'+L.toNat) j::r)
  |_=>none
 have fin:∀v':Value,v'.oneCell'=true->(∀b,cF v'=some b->cF v0=some b)->cD G.M w v' (fun s=>hN v' ([]++[s])) (.aB sz ((xs.take H.toNat).drop L.toNat))->
  ∃G',cy g n ρ κ2 a w G'/\aG G' (.own i (ver+1) 0 []) v':=by
  intro v' GU UD D6
  have zX:∀i' j c,step (.aB sz ((xs.take H.toNat).drop L.toNat)) (.el i' j)=some c->step (.aB sz xs) (.el (i'+L.toNat) j)=some c:=by
   intro i' j c hc
   simp only[step]at hc⊢
   rw[List.getElem?_drop,List.getElem?_take]at hc
   by_cases e:L.toNat+i'<H.toNat
   ·rw[if_pos e,Nat.add_comm]at hc;exact hc
   ·rw[if_neg e]at hc;cases hc
  have el:∀s c,step (.aB sz ((xs.take H.toNat).drop L.toNat)) s=some c->∃i' j,s=.el i' j:=by
   intro s c eE
   cases s with
   |el i' j=>exact⟨i',j,rfl⟩
   |key=>simp[step]at eE
  obtain⟨m1,m2,m3⟩:=br.qY (w:=w) (w':=w) (h:=KC) (h':=hN v') (p:=[]) (n:=.aB sz []) (n':=.aB sz ((xs.take H.toNat).drop L.toNat)) (v:=.slice none 0 0) (v':=v') (fun _=>True) (xq G.M w _) (BZ _) rfl rfl rfl rfl rfl GU (.inl rfl) D6
   (fun q hq=>absurd (List.nil_prefix) hq) (fun s c _ _ hN=>absurd trivial hN)
   (fun s c eE B0 _=>by
    obtain⟨i',j,rfl⟩:=el s c eE
    have W0:get (.aB sz xs) [.el (i'+L.toNat) j]=some c:=by simp[get,zX i' j c eE]
    refine⟨ht.sub W0 B0,gn.sub W0,fun b hb=>⟨fun h=>kj h,fun dV=>?_⟩⟩
    obtain⟨q,m,uu,c1,c2,c3,c4⟩:=hb
    have:=gn [] (.el (i'+L.toNat) j::q) _ m v0 uu b rfl rfl oz (UD b dV) (by simp only[get,zX i' j c eE];exact c1) c2 c3 c4
    cases this)
   (fun s s' c c' b iY MV _ lJ MD _ iZ ca=>by
    obtain⟨i1,j1,rfl⟩:=el s c iY
    obtain⟨i2,j2,rfl⟩:=el s' c' lJ
    obtain⟨q,m,uu,c1,c2,c3,c4⟩:=iZ
    obtain⟨q',m',uu',d1,d2,d3,d4⟩:=ca
    have:=gn (.el (i1+L.toNat) j1::q) (.el (i2+L.toNat) j2::q') m m' uu uu' b (by simp only[get,zX i1 j1 c iY];exact c1) c2 c3 c4 (by simp only[get,zX i2 j2 c' lJ];exact d1) d2 d3 d4
    injection this with e1 _
    injection e1 with e1 e2
    have:i1=i2:=by omega
    rw[this,e2])
   (fun b hb=>.inr fun h=>kj h) (fun b h=>(kj h).elim)
  obtain⟨G',g1,g2,_,g4,_,_,g7⟩:=ai.kl (κ':=κ2) (w':=w) (i:=i) (ver:=ver+1) (ep:=0) (d:=.aB sz ((xs.take H.toNat).drop L.toNat)) (fun _=>False) (hN v') (fun h=>h.elim) (.inr ⟨ver,bX,_,eb,by omega,by omega⟩) (fun _ h=>h.elim) h1 (fun j hj _=>h3 j hj)
   (fun q y hy=>by cases q<;>simp[aH,I9 (ver+1) (by omega)]at hy) m1 m2
   (fun b hb=>by
    rcases m3 b hb with h5|h5|⟨s,c,s1,s2,_,s4⟩
    ·exact(kj h5).elim
    ·exact .inr (.inl (by rw[eb];exact⟨[],_,v0,rfl,rfl,oz,UD b h5⟩))
    ·obtain⟨i',j,rfl⟩:=el s c s1
     have W0:get (.aB sz xs) [.el (i'+L.toNat) j]=some c:=by simp[get,zX i' j c s1]
     exact .inr (.inl (by rw[eb];exact bA.sub (p:=[.el (i'+L.toNat) j]) W0 s4)))
   (fun _ _ _ _=>rfl) (fun b hb=>by
    rcases hb with h5|⟨_,h5,_⟩
    ·exact ai.fit.own i b h5
    ·exact h5.elim) (acb _) rfl rfl rfl
  exact⟨G',g7,.own _ _ _ _ _ ((g4 []).trans rfl) GU⟩
 rcases aZ with⟨rfl,rfl⟩|⟨gb,ob,cap,c,tt,rfl,dI,hw,tU,qp⟩
 ·simp at b3
  have hL:L=0:=by omega
  have hH:H=0:=by omega
  subst hL;subst hH
  refine⟨none,0,rfl,acb _,?_⟩
  simpa using fin (.slice none 0 0) rfl (by simp[cF]) (.inl ⟨by simp,rfl⟩)
 ·refine⟨_,_,rfl,dI,fin _ rfl ?_ ?_⟩
  ·intro b hb
   split at hb
   ·exact hb
   ·simp only[Option.map_some,cF,eO]at hb;exact hb
  ·by_cases e:cap=L.toNat
   ·have qX:(xs.take H.toNat).drop L.toNat=[]:=List.eq_nil_of_length_eq_zero (by rw[hlen];omega)
    rw[if_pos e,qX]
    rw[show cap-L.toNat=0 by omega,show H.toNat-L.toNat=0 by omega]
    refine .inr ⟨gb,ob,0,c,tt,rfl,by simp,hw,by omega,by simp⟩
   ·rw[if_neg e]
    refine .inr ⟨gb,ob+L.toNat*sz,cap-L.toNat,c,tt,by simp only[Option.map_some,eO];rw[hlen],by rw[hlen];omega,hw,?_,fun i' y hy=>?_⟩
    ·have:L.toNat*sz+(cap-L.toNat)*sz=cap*sz:=by rw[<-Nat.add_mul];congr 1;omega
     omega
    ·rw[List.getElem?_drop,List.getElem?_take]at hy
     split at hy
     ·obtain⟨c1,c2⟩:=qp _ y hy
      refine⟨c1,fun j d' kA=>?_⟩
      obtain⟨d1,uu,d2,d3⟩:=c2 j d' kA
      refine⟨d1,uu,?_,?_⟩
      ·rw[<-d2];congr 1;rw[Nat.add_mul];omega
      ·show dF G.M (aH G.H i ver bX [.el (i'+L.toNat) j]) d' uu
       rw[Nat.add_comm];exact d3
     ·cases hy
theorem AE(hT:fb P T){t:Nat}{x:Operand}{l h:Option Operand}{v:AV}{lo hi:Option Int}(hg:bZ ρ ops o.guard=some gd)(ho:o.op=.slice t x l h none)(hn:∀i,nx<=i->κ i=.none)
 (cr:(nth T t).ok=true) (iw:((nth T t).isSl&&(nth T (nth T t).elem).ok||(nth T t).isStr)=true) (hx:bz ρ κ gd x v) (hl:xp ρ κ gd l lo) (hh:xp ρ κ gd h hi)
 (hk:lK (nth T t) (nth T (nth T t).elem).size κ gd v lo hi (fun v=>aT n o gd nx k v []) (fun v bx rd=>dO n o nx k v bx rd)):Good P C ops n o nx ρ κ k:=by
 obtain⟨ti,u,z,tf⟩:=hT.facts cr
 have dj:∀c,o.op≠.defer c:=fun c=>by rw[ho];simp
 have mx:x∈o.op.operands:=by rw[ho];simp[Op.operands]
 have ml:∀y,l=some y->y∈o.op.operands:=fun y hy=>by rw[ho,hy];simp[Op.operands]
 have mh:∀y,h=some y->y∈o.op.operands:=fun y hy=>by rw[ho,hy];simp[Op.operands]
 have cut:∀{w:World} {a:Act} {A:Option Addr} {len cap:Nat},(nth T t).isSl=true->a.eval x=.slice A len cap->l.map a.eval=lo.map (Value.int .i64)->h.map a.eval=hi.map (Value.int .i64)->0<=lo.getD 0->lo.getD 0<=hi.getD len->hi.getD len<=len->len<=cap->(nth T (nth T t).elem).ok=true->
  (execOp a.eval o).run P w=.ok (.value (.slice (if cap=(lo.getD 0).toNat then A else A.map (·.add ((lo.getD 0).toNat*(nth T (nth T t).elem).size))) ((hi.getD len).toNat-(lo.getD 0).toNat) (cap-(lo.getD 0).toNat))) w:=by
  intro w a A len cap hs tV hle xt h1 h2 h3 h4 vw
  obtain⟨te,ue,ze,jU⟩:=hT.facts vw
  have hb:=qW (P:=P) (w:=w) (isSl:=true) (len:=len) (cap:=cap) h1 h2 h3 h4
  have wA:=jU.fP w
  simp[execOp,ho,Instr.sliceAt,Instr.slice,run_underlying (tf.slice hs),tV,hle,xt,hb,wA]
 unfold lK at hk
 split at hk
 ·rename_i sz xs
  cases lC:(nth T t).isSl&&Nat.beq sz (nth T (nth T t).elem).size with
  |false=>rw[lC]at hk;exact hk.elim
  |true=>
  rw[lC]at hk
  obtain⟨Ja,hk⟩:=hk
  simp only[acj]at lC
  obtain⟨hs,GV⟩:=lC
  have:=abL GV
  subst this
  have vw:(nth T (nth T t).elem).ok=true:=by
   simp only[Bool.or_eq_true,acj]at iw
   rcases iw with h5|h5
   ·exact h5.2
   ·exfalso
    have q1:=tf.isSl;have q2:=tf.isStr
    rw[hs]at q1;rw[h5]at q2
    cases u<;>simp[KE,strOf]at q1 q2
  refine bo dj hg hk fun ρ' κ' aw g a w G ai aN=>?_
  have hv:=hx ρ' κ' (aw.op mx) g n a w G ai aN
  have hle:=hl.val ai aN (fun y hy=>aw.op (ml y hy))
  have xt:=hh.val ai aN (fun y hy=>aw.op (mh y hy))
  obtain⟨b1,b2,b3⟩:=Ja aN
  generalize tV:a.eval x=q at hv
  cases hv with|dv hv=>
  generalize mj:lo.getD 0=L at b1 b2 b3⊢
  generalize D7:hi.getD (xs.length:Int)=H at b1 b2 b3⊢
  have hlen:((xs.take H.toNat).drop L.toNat).length=H.toNat-L.toNat:=by simp;omega
  cases hv with
  |slnil=>
   simp at b3 D7
   have hL:L=0:=by omega
   have hH:H=0:=by omega
   subst hL;subst hH
   refine⟨_,cut hs tV hle xt (by rw[mj];omega) (by rw[mj];simp[D7]) (by simp[D7]) (acb _) vw,?_⟩
   rw[mj]
   simp[D7]
   exact .dv (.slnil _)
  |sl _ _ A cap cell dI hlc hc hr=>
   refine⟨_,cut hs tV hle xt (by rw[mj];omega) (by rw[mj,D7];omega) (by rw[D7];omega) dI vw,.dv ?_⟩
   rw[mj,D7]
   by_cases e:cap=L.toNat
   ·have qX:(xs.take H.toNat).drop L.toNat=[]:=List.eq_nil_of_length_eq_zero (by rw[hlen];omega)
    rw[if_pos e,qX,show H.toNat-L.toNat=0 by omega,show cap-L.toNat=0 by omega]
    exact .sl _ [] A 0 (fun _ _=>undef) (acb _) (by simp) (by simp) (by simp)
   ·rw[if_neg e]
    simp only[Option.map_some]
    rw[<-hlen]
    refine .sl _ _ _ _ (fun i j=>cell (L.toNat+i) j) (by rw[hlen];omega) (fun y hy=>hlc y (List.mem_of_mem_take (List.mem_of_mem_drop hy))) (fun i j hi hj=>?_) (fun i y j d hy hd=>?_)
    ·rw[cL]
     have:=hc (L.toNat+i) j (by rw[hlen]at hi;omega) hj
     rw[Nat.add_mul]at this
     rw[show L.toNat*(nth T (nth T t).elem).size+(i*(nth T (nth T t).elem).size+j)=L.toNat*(nth T (nth T t).elem).size+i*(nth T (nth T t).elem).size+j by omega]
     exact this
    ·rw[List.getElem?_drop,List.getElem?_take]at hy
     split at hy
     ·exact hr _ y j d hy hd
     ·cases hy
 ·rename_i i ver ep
  split at hk
  ·rename_i aW bX d eb
   cases hb:Nat.beq ver aW with
   |false=>rw[hb]at hk;exact hk.elim
   |true=>
   rw[hb]at hk
   simp only[cond_true]at hk
   have:=abL hb
   subst this
   cases d with
   |aB sz xs=>
    simp only at hk
    cases lC:(nth T t).isSl&&Nat.beq sz (nth T (nth T t).elem).size with
    |false=>rw[lC]at hk;exact hk.elim
    |true=>
    rw[lC]at hk
    obtain⟨⟨b1,b2,b3⟩,hk⟩:=hk
    simp only[acj]at lC
    obtain⟨hs,GV⟩:=lC
    have:=abL GV
    subst this
    have vw:(nth T (nth T t).elem).ok=true:=by
     simp only[Bool.or_eq_true,acj]at iw
     rcases iw with h5|h5
     ·exact h5.2
     ·exfalso
      have q1:=tf.isSl;have q2:=tf.isStr
      rw[hs]at q1;rw[h5]at q2
      cases u<;>simp[KE,strOf]at q1 q2
    have qZ:i<nx:=oM hn ⟨_,_,_,eb⟩
    refine cU dj hg hk (acb _) (by simpa using qZ) fun ρ' κ' aw g a w G dz ai aN=>?_
    have he:=aw.reads i (by simp)
    have hv:=hx ρ' κ' (aw.op mx) g n a w G ai aN
    have hle:=hl.val ai aN (fun y hy=>aw.op (ml y hy))
    have xt:=hh.val ai aN (fun y hy=>aw.op (mh y hy))
    have ez:=ai.fit.box i
    rw[he,eb]at ez
    obtain⟨ht,gn,I9,MC⟩:=ez
    obtain⟨v0,oz,tT,aZ⟩:=ht.2 [] _ rfl rfl
    have tV:a.eval x=v0:=by
     generalize a.eval x=q at hv
     cases hv with|own _ _ _ _ _ hh' hc=>have:aH G.H i ver bX []=some q:=hh'
                                         rw[oz]at this;injection this with this;exact this.symm
    obtain⟨A,cap,rfl,dI,G',g7,UE⟩:=ai.cut (κ2:=ay κ' [(i,.tree (ver+1) 0 (.aB (nth T (nth T t).elem).size ((xs.take (hi.getD xs.length).toNat).drop (lo.getD 0).toNat)))]) (he.trans eb) b1 b2 b3 (by simp[ay]) (fun j hj=>by simp[ay,ah _ _ hj]) oz
    exact⟨_,w,G',.inl (cut hs tV hle xt b1 b2 b3 dI vw),g7,UE⟩
   |_=>exact hk.elim
  ·exact hk.elim
 ·rename_i s
  cases gr:(nth T t).isStr with
  |false=>rw[gr]at hk;exact hk.elim
  |true=>
   rw[gr]at hk
   obtain⟨Ja,hk⟩:=hk
   refine bo dj hg hk fun ρ' κ' aw g a w G ai aN=>?_
   have hv:=hx ρ' κ' (aw.op mx) g n a w G ai aN
   have hle:=hl.val ai aN (fun y hy=>aw.op (ml y hy))
   have xt:=hh.val ai aN (fun y hy=>aw.op (mh y hy))
   obtain⟨b1,b2,b3⟩:=Ja aN
   generalize tV:a.eval x=q at hv
   cases hv with|dv hv=>cases hv with|str=>
   have hb:=qW (P:=P) (w:=w) (isSl:=false) (len:=s.size) (cap:=s.size) b1 b2 b3 (acb _)
   refine⟨_,?_,.dv (.str _)⟩
   simp[execOp,ho,Instr.sliceAt,Instr.slice,run_underlying (tf.string gr),tV,hle,xt,hb]
 ·exact hk.elim
theorem MW(hT:fb P T){t:Nat}{x:Operand}{l h:Option Operand}{v:AV}{lo hi:Option Int}(hg:bZ ρ ops o.guard=some gd)(ho:o.op=.slice t x l h none)(hn:∀i,nx<=i->κ i=.none)
 (cr:(nth T t).ok=true) (iw:((nth T t).isSl&&(nth T (nth T t).elem).ok||(nth T t).isStr)=true) (hx:bz ρ κ gd x v) (hl:xp ρ κ gd l lo) (hh:xp ρ κ gd h hi)
 (hk:xu (nth T t) (nth T (nth T t).elem).size κ gd nx v lo hi (fun v rd=>aT n o gd nx k v rd) (fun v bx rd=>dO n o nx k v bx rd) (fun v bx rd=>dO n o (nx+1) k v bx rd)):Good P C ops n o nx ρ κ k:=by
 unfold xu at hk
 split at hk
 ·rename_i i ver ep p
  rcases hk with hk|hk|hk
  ·exact AE hT hg ho hn cr iw hx hl hh hk
  all_goals
   obtain⟨ti,u,z,tf⟩:=hT.facts cr
   have dj:∀c,o.op≠.defer c:=fun c=>by rw[ho];simp
   have mx:x∈o.op.operands:=by rw[ho];simp[Op.operands]
   have ml:∀y,l=some y->y∈o.op.operands:=fun y hy=>by rw[ho,hy];simp[Op.operands]
   have mh:∀y,h=some y->y∈o.op.operands:=fun y hy=>by rw[ho,hy];simp[Op.operands]
   have cut:∀{w:World} {a:Act} {A:Option Addr} {len cap:Nat},(nth T t).isSl=true->a.eval x=.slice A len cap->l.map a.eval=lo.map (Value.int .i64)->h.map a.eval=hi.map (Value.int .i64)->0<=lo.getD 0->lo.getD 0<=hi.getD len->hi.getD len<=len->len<=cap->(nth T (nth T t).elem).ok=true->
    (execOp a.eval o).run P w=.ok (.value (.slice (if cap=(lo.getD 0).toNat then A else A.map (·.add ((lo.getD 0).toNat*(nth T (nth T t).elem).size))) ((hi.getD len).toNat-(lo.getD 0).toNat) (cap-(lo.getD 0).toNat))) w:=by
    intro w a A len cap hs tV hle xt h1 h2 h3 h4 vw
    obtain⟨te,ue,ze,jU⟩:=hT.facts vw
    have hb:=qW (P:=P) (w:=w) (isSl:=true) (len:=len) (cap:=cap) h1 h2 h3 h4
    have wA:=jU.fP w
    simp[execOp,ho,Instr.sliceAt,Instr.slice,run_underlying (tf.slice hs),tV,hle,xt,hb,wA]
   have UF:(nth T t).isSl=true->(nth T (nth T t).elem).ok=true:=fun hs=>by
    simp only[Bool.or_eq_true,acj]at iw
    rcases iw with h5|h5
    ·exact h5.2
    ·exfalso
     have q1:=tf.isSl;have q2:=tf.isStr
     rw[hs]at q1;rw[h5]at q2
     cases u<;>simp[KE,strOf]at q1 q2
  ·unfold Jb at hk
   split at hk
   ·rename_i aW bX d eb
    have hh:=aJ hk;clear hk;obtain⟨hb,hk⟩:=hh
    obtain⟨rfl,dJ⟩:=dC hb
    obtain⟨nd,hk,UG⟩:=bU hk
    split at hk
    ·rename_i sz xs
     have hh:=aJ hk;clear hk;obtain⟨ca,Ja,hk⟩:=hh
     simp only[acj]at ca
     obtain⟨hs,GV⟩:=ca
     have:=abL GV
     subst this
     refine bo dj hg hk fun ρ' κ' aw g a w G ai aN=>?_
     have hv:=hx ρ' κ' (aw.op mx) g n a w G ai aN
     have hle:=hl.val ai aN (fun y hy=>aw.op (ml y hy))
     have xt:=hh.val ai aN (fun y hy=>aw.op (mh y hy))
     obtain⟨b1,b2,b3⟩:=Ja aN
     have aak:κ' i=.tree ver bX d:=(aw.reads i (by simp)).trans eb
     obtain⟨u0,h1,_,aZ⟩:=ai.fit.node aak (UG aN) rfl
     generalize tV:a.eval x=q at hv
     cases hv with|own _ _ _ _ _ W5 hc=>
     have oz:=W5
     rw[cV dJ,h1]at oz
     injection oz with oz
     subst oz
     rcases aZ with⟨rfl,rfl⟩|⟨gb,ob,cap,cc,tt,rfl,dI,hw,aal,DR⟩
     ·have UH:=cut (w:=w) hs tV hle xt b1 (by simpa using b2) (by simpa using b3) (acb _) (UF hs)
      refine⟨_,UH,?_⟩
      refine .pre _ _ _ _ _ _ _ _ _ fun b7=>?_
      simp at b3 b7;omega
     ·have UH:=cut (w:=w) hs tV hle xt b1 b2 b3 dI (UF hs)
      refine⟨_,UH,?_⟩
      refine .pre _ _ _ _ _ _ _ _ _ fun b7=>⟨_,_,_,W5,?_⟩
      rw[if_neg (by omega)]
      rfl
    ·exact hk.elim
   ·exact hk.elim
  ·unfold Jc at hk
   split at hk
   ·exact hk.elim
   rename_i aam
   split at hk
   ·rename_i aW bX d eb
    have hh:=aJ hk;clear hk;obtain⟨hb,hk⟩:=hh
    simp only[acj]at hb
    have:=abL hb.1
    subst this
    have:=abL hb.2
    subst this
    obtain⟨nd,hk,UG⟩:=bU hk
    split at hk
    ·rename_i sz xs
     have hh:=aJ hk;clear hk;obtain⟨ca,⟨b1,b2,b3⟩,hk⟩:=hh
     simp only[acj]at ca
     obtain⟨hs,GV⟩:=ca
     have:=abL GV
     subst this
     obtain⟨hk,_⟩:=fh hk
     have qZ:i<nx:=oM hn ⟨_,_,_,eb⟩
     refine cU dj hg hk (by omega) (fun q hq=>?_) fun ρ' κ' aw g a w G dz ai aN=>?_
     ·rcases abO.1 hq with rfl|hq
      ·simp
      ·rcases abO.1 hq with rfl|hq
       ·show i<nx+1;omega
       ·cases hq
     have he:=aw.reads i (by simp)
     have dQ:κ' nx=.none:=(aw.reads nx (by simp)).trans (hn nx (acb _))
     have hv:=hx ρ' κ' (aw.op mx) g n a w G ai aN
     have hle:=hl.val ai aN (fun y hy=>aw.op (ml y hy))
     have xt:=hh.val ai aN (fun y hy=>aw.op (mh y hy))
     have hpn:p≠[]:=fun e=>aam e
     obtain⟨G1,g1,g2,_,g4,g7⟩:=ai.split (κ':=ay κ' [(nx,.tree 0 0 (.aB (nth T (nth T t).elem).size xs)),(i,.tree ver (ep+1) (dN d p .any))]) (i:=i) (nx:=nx) (he.trans eb) dQ (UG rfl) rfl hpn (by simp only[ay];rw[ah _ _ (by omega)];simp) (by simp[ay]) (fun j h1 h2=>by simp only[ay];rw[ah _ _ h2,ah _ _ h1])
     have GI:aH G.H i ver ep p=some (a.eval x):=by
      generalize a.eval x=q at hv
      cases hv with|own _ _ _ _ _ hh' hc=>exact hh'
     obtain⟨A,cap,hA,dI,G',g8,UE⟩:=g7.cut (κ2:=ay κ' [(nx,.tree 1 0 (.aB (nth T (nth T t).elem).size ((xs.take (hi.getD xs.length).toNat).drop (lo.getD 0).toNat))),(i,.tree ver (ep+1) (dN d p .any))]) (i:=nx) (by simp only[ay];rw[bl]) b1 b2 b3 (by simp only[ay];rw[bl])
      (fun j hj=>by simp only[ay];rw[ah _ _ hj,ah _ _ hj]) (by rw[g4 [],List.append_nil];exact GI)
     exact⟨_,w,G',.inl (cut hs hA hle xt b1 b2 b3 dI (UF hs)),g8,UE⟩
    ·exact hk.elim
   ·exact hk.elim
 ·exact AE hT hg ho hn cr iw hx hl hh hk
theorem jA{sz:Nat}{l:List DV}(mq:∀x,x∈l->x.aQ){p:List PS}{n:DV}(h:get (.aB sz l) p=some n)(ho:n.ao=true):p=[]/\n=.aB sz l:=by
 cases p with
 |nil=>simp[get]at h;exact⟨rfl,h.symm⟩
 |cons s p=>
  exfalso
  simp only[get]at h
  cases s with
  |key k j=>simp[step]at h
  |el i j=>
   simp only[step]at h
   cases hm:l[i]? with
   |none=>rw[hm]at h;simp at h
   |some x=>
    rw[hm]at h
    simp only at h
    cases hc:x.cells[j]? with
    |none=>rw[hc]at h;simp at h
    |some c=>
     rw[hc]at h
     simp only at h
     have B0:c.ao=false:=mq x (abK hm) c (abK hc)
     cases p with
     |nil=>simp[get]at h;subst h;rw[B0]at ho;cases ho
     |cons s' p=>
      simp only[get]at h
      cases c<;>simp[step]at h<;>cases B0
theorem D8{c:Call}{s x:Operand}{t:Nat}{a:Act}{w w':World}{v':Value}(ho:o.op=.call c)(hc:c.callee=.builtin .copy)(ha:c.args.toList=[s,x])(dw:c.argTypes.toList=[t,t])
 (h:(Builtin.copy_ #[t,t] o.type #[a.eval s,a.eval x]).run P w=.ok v' w'):(execOp a.eval o).run P w=.ok (.value v') w':=by
 have bN:c.args=#[s,x]:=Array.ext' (by simpa using ha)
 have B1:c.argTypes=#[t,t]:=Array.ext' (by simpa using dw)
 simp[execOp,ho,resolve,hc,bN,B1,invoke,builtin,h]
theorem Rl(hT:fb P T){t:Nat}{x y:Operand}{c:Call}{v u:AV}(hg:bZ ρ ops o.guard=some gd)(ho:o.op=.call c)(hc:c.callee=.builtin .copy)(ha:c.args.toList=[x,y])(dw:c.argTypes.toList=[t,t])(hn:∀i,nx<=i->κ i=.none)
 (cr:(nth T t).ok=true) (iw:(nth T t).isSl=true) (r8:(nth T (nth T t).elem).ok=true) (hx:bz ρ κ gd x v) (hy:bz ρ κ gd y u) (h:MX (nth T (nth T t).elem).size n o nx κ k v u):Good P C ops n o nx ρ κ k:=by
 have bN:c.args=#[x,y]:=Array.ext' (by simpa using ha)
 obtain⟨ti,ui,zi,tf⟩:=hT.facts cr
 obtain⟨te,ue,ze,te'⟩:=hT.facts r8
 have sr:=tf.slice iw
 have aV:=te'.size
 generalize (nth T (nth T t).elem).size=S at*
 unfold MX at h
 split at h
 ·rename_i i ver ep0
  split at h
  ·rename_i aW ep sz2 l eb
   cases hb:Nat.beq ver aW&&Nat.beq sz2 S with
   |false=>rw[hb]at h;exact h.elim
   |true=>
   rw[hb]at h
   simp only[cond_true]at h
   simp only[acj]at hb
   obtain⟨iZ,vz⟩:=hb
   obtain rfl:=abL iZ
   obtain rfl:=abL vz
   rcases iA h with⟨_,h⟩|⟨iT,xs,rd,kill,h,Q3,Q4,kO⟩
   ·exact h.elim
   cases ca:Nat.beq iT sz2 with
   |false=>rw[ca]at h;exact h.elim
   |true=>
   rw[ca]at h
   obtain rfl:=abL ca
   obtain⟨mq,MY,b7,hlen,hk⟩:=h
   have qZ:i<nx:=oM hn ⟨_,_,_,eb⟩
   refine cU (fun c=>by rw[ho];simp) hg hk (acb _) (fun q hq=>by
    rcases abO.1 hq with rfl|hq
    ·exact qZ
    ·cases hq) fun ρ' κ' aw g a w G dz ai aN=>?_
   have he:=(aw.reads i (by simp)).trans eb
   have hv:=hx ρ' κ' (aw.op (by rw[ho];simp[Op.operands,Call.operands,hc,bN])) g n a w G ai aN
   have hu:=hy ρ' κ' (aw.op (by rw[ho];simp[Op.operands,Call.operands,hc,bN])) g n a w G ai aN
   have ez:=ai.fit.box i
   rw[he]at ez
   obtain⟨ht,gn,I9,MC⟩:=ez
   obtain⟨vv,oz,tT,aZ⟩:=ht.2 [] _ rfl rfl
   have tV:a.eval x=vv:=by
    generalize a.eval x=q at hv
    cases hv with|own _ _ _ _ _ hh _=>have oz:aH G.H i ver ep []=some vv:=oz;have hh:G.H i ver 0 []=some q:=hh;rw[show aH G.H i ver ep []=G.H i ver 0 []from rfl,hh]at oz;injection oz
   rcases eP.1 aZ with⟨h1,_⟩|⟨cF,off,cap,cc,tt,rfl,dI,hblk,hfs,abn⟩
   ·exact absurd h1 b7
   have hmul:xs.length*iT<=cap*iT:=acd _ (by rw[<-hlen];exact dI)
   obtain⟨hs,GS,_⟩:=kO κ' G w _ (fun i hi=>aw.reads i (by simp[hi])) ai.fit hu
   rcases GS.Rk with⟨_,_,h1⟩|⟨A,MZ,cell,hys,cZ⟩
   ·rw[h1]at hlen;exact absurd (List.length_eq_zero_iff.1 hlen) b7
   have vl:(eB iT xs.length cell).length=xs.length*iT:=qE _ _ _
   have vat:∀q,q<xs.length*iT->∃i j x d,i<xs.length/\j<iT/\q=i*iT+j/\xs[i]?=some x/\x.cells[j]?=some d:=fun q hq=>by
    have h0:0<iT:=Nat.pos_of_ne_zero fun h=>by rw[h,Nat.mul_zero]at hq;omega
    have hi:q/iT<xs.length:=by rw[Nat.div_lt_iff_lt_mul h0];exact hq
    have hj:=Nat.mod_lt q h0
    have hx:=aaj hi
    have:=(cZ _ _ hx).1
    exact⟨q/iT,q%iT,_,_,hi,hj,by rw[Nat.mul_comm,Nat.div_add_mod],hx,aaj (show q%iT<_ by omega)⟩
   have tZ:∀j u,(eB iT xs.length cell)[j]?=some u->w.cell? (A.add j)=some u/\u.oneCell'=true:=fun q u hq=>by
    obtain⟨i,j,x,d,hi,hj,rfl,hx,hd⟩:=vat q (by rw[<-vl];exact(abI.1 hq).1)
    rw[pW cell hi hj]at hq
    injection hq with hq;subst hq
    have:=(cZ i x hx).2 j d hd
    exact⟨this.2.1,this.2.2.1⟩
   have aX:=run_firstCells_some (P:=P) w te.size xs.length A xs.length MZ (eB iT xs.length cell) (by rw[vl,aV]) (fun j u h=>(tZ j u h).1)
   have gr:=run_storeCells_at P cF off tt (eB iT xs.length cell) 0 cc w hblk (by rw[vl];omega) (fun v hv=>by obtain⟨j,hj⟩:=ab3 hv;exact(tZ j v hj).2)
   simp only[Nat.add_zero]at gr
   obtain⟨Rm,UI⟩:∃Rm:Array Value,Rm=(cc.toList.take off++eB iT xs.length cell++cc.toList.drop (off+(eB iT xs.length cell).length)).toArray:=⟨_,rfl⟩
   have tU:Rm.size=cc.size:=by rw[UI];simp only[List.size_toArray,abU,ab2,List.length_drop,vl,Array.length_toList];omega
   have aan:∀i j x d,xs[i]?=some x->x.cells[j]?=some d->j<iT->Rm[off+i*iT+j]?=some (cell i j):=fun i j x d hx hd hj=>by
    have hi:=(abI.1 hx).1
    have au:=oO hi hj
    have hl:(cc.toList.take off).length=off:=by simp only[ab2,Array.length_toList];omega
    rw[UI,List.getElem?_toArray,ab8,List.getElem?_append_right (by rw[hl];omega),hl,show off+i*iT+j-off=i*iT+j by omega,List.getElem?_append_left (by rw[vl];exact au)]
    exact pW cell hi hj
   have XJ:(w.setRow cF Rm).heap[cF]?=some (.cells Rm tt (0,0)):=setRow_heap w cF cc Rm tt _ hblk
   have xw:∀b,cF=b->cx G i (κ' i) b:=fun b hb=>by rw[he];exact⟨[],_,_,rfl,rfl,oz,by rw[hb];rfl⟩
   obtain⟨G',k1,k2,k3,k4,_,_,k7⟩:=ai.kl (κ':=ay κ' [(i,.tree ver ep (.aB iT xs))]) (w':=w.setRow cF Rm) (i:=i) (ver:=ver) (ep:=ep) (d:=.aB iT xs) (fun _=>False) (aH G.H i ver ep) (fun h=>h)
    (.inr ⟨ver,ep,_,he,acb _,fun _=>acb _⟩) (fun _ h=>h.elim) (by simp[ay]) (fun j hj _=>by simp only[ay];rw[ah _ _ hj])
    (fun _ _ h=>h)
    ⟨rfl,fun q y hy ho=>by
     obtain⟨rfl,rfl⟩:=jA MY hy ho
     refine⟨_,oz,tT,eP.2 (.inr ⟨cF,off,cap,Rm,tt,by rw[hlen],by rw[<-hlen];exact dI,XJ,by rw[tU];exact hfs,fun i x hx=>?_⟩)⟩
     obtain⟨a1,a2⟩:=cZ i x hx
     refine⟨a1,fun j d hd=>?_⟩
     obtain⟨b1,b2,b3,b4⟩:=a2 j d hd
     have tY:=MY x (abK hx) d (abK hd)
     exact⟨b1,_,aan i j x d hx hd (by rw[<-a1];exact(abI.1 hd).1),b4.2.elim (fun h=>by rw[tY]at h;cases h.1) .inr⟩⟩
    (fun q q' y y' u v b e1 e2 _ _ f1 f2 _ _=>by rw[(jA MY e1 e2).1,(jA MY f1 f2).1])
    (fun b ⟨q,y,u,h1,h2,h3,h4⟩=>by
     obtain⟨rfl,rfl⟩:=jA MY h1 h2
     rw[oz]at h3;injection h3 with h3;subst h3
     injection h4 with h4
     exact .inr (.inl (xw b h4)))
    (fun b hb cW _=>setRow_other w cF b _ fun h=>cW (xw b h.symm))
    (fun b hb=>by
     rcases hb with h5|⟨_,h5,_⟩
     ·exact ai.fit.own i b h5
     ·exact h5.elim)
    (by simp) rfl rfl rfl
   refine⟨goInt xs.length,_,G',.inl (D8 (t:=t) ho hc ha dw ?_),k7,?_⟩
   ·rw[tV,hys,hlen]
    simp[Builtin.copy_,run_underlying sr,sizeOf,typeInfo,te'.info,Builtin.lenOf,aX,gr,UI]
   ·rw[hlen];exact .dv (.int _ _)
  ·exact h.elim
 ·exact h.elim
end
end
section
open Go.RowKit
variable [cn]
section
variable {P:Program} {C:dP->Prop} {T:List TI} {ops:List Oper} {n:Nat} {o:Oper} {nx:Nat} {ρ:Nat->AV} {κ:Nat->aq} {k:kN->Nat->Prop} {gd:Bool}
theorem iB{f:Nat}(hf:fQ P f)(args:Array Value)(w:World):(callFunc f args).run P w=.ok (.enter f args) w:=by
 obtain⟨fn,h1,h2,h3⟩:=hf
 have XA:¬fn.name="runtime.NumGoroutine":=by simpa using h2
 have h3':¬fn.body=none:=by rintro hb;rw[hb]at h3;cases h3
 simp[callFunc,program,Sem.run,h1,XA,h3']
def ua(P:Program)(ops:List Oper)(o:Oper)(ρ:Nat->AV)(κ:Nat->aq)(gd:Bool)(f:Nat)(l:List AV):Prop:=
 (∀c,o.op≠.defer c)/\∀ρ' κ' rd bx,DT ops o ρ ρ' κ κ' rd bx->∀(g:dP) (n:Nat) (a:Act) (w:World) (G:Gh),cy g n ρ' κ' a w G->gd=true->fQ P f->
  ∃vs:List Value,(execOp a.eval o).run P w=.ok (.enter f vs.toArray) w/\cj G l vs
theorem vA{c:Call}{f:Nat}{l:List AV}(ho:o.op=.call c)(hc:c.callee=.value (.func f))(bJ:lL ρ κ gd c.args.toList l):ua P ops o ρ κ gd f l:=by
 refine⟨fun c=>by rw[ho];simp,?_⟩
 intro ρ' κ' rd bx aw g n a w G ai aN hf
 have hrel:=lL.rel ai aN bJ (fun x hx=>aw.op (by rw[ho];simp only[Op.operands,Call.operands,hc];exact Array.mem_append.2 (.inr (by simpa using hx))))
 have bN:(List.map a.eval c.args.toList).toArray=c.args.map a.eval:=by rw[<-Array.toList_map,Array.toArray_toList]
 refine⟨_,?_,hrel⟩
 rw[bN]
 simp[execOp,ho,resolve,hc,Act.eval,Deferred.ofValue,invoke,iB hf]
theorem cj.append{G:Gh}{l l':List AV}{vs MB:List Value}(h:cj G l vs)(h':cj G l' MB):cj G (l++l') (vs++MB):=by
 refine⟨by simp[h.1,h'.1],fun j d v hd hv=>?_⟩
 rcases ab1 j l.length with au|gH
 ·rw[List.getElem?_append_left au]at hd
  rw[List.getElem?_append_left (by rw[<-h.1];exact au)]at hv
  exact h.2 j d v hd hv
 ·rw[List.getElem?_append_right gH]at hd
  rw[List.getElem?_append_right (by rw[<-h.1];exact gH),<-h.1]at hv
  exact h'.2 _ d v hd hv
theorem q7{c:Call}{f t:Nat}{l:List AV}{av:AV}(ho:o.op=.call c)(hc:c.callee=.value (.tmp t))(hv:bz ρ κ gd (.tmp t) av)(bJ:lL ρ κ gd c.args.toList l){L:List AV}
 (hav:(∃bK,av=.fn f bK/\L=l++bK)\/(∃first,av=.jV f first/\L=first++l)\/(∃bK,av=.dv (.fn f bK)/\L=l++fc bK)):ua P ops o ρ κ gd f L:=by
 refine⟨fun c=>by rw[ho];simp,?_⟩
 intro ρ' κ' rd bx aw g n a w G ai aN hf
 have hrel:=lL.rel ai aN bJ (fun x hx=>aw.op (by rw[ho];simp only[Op.operands,Call.operands,hc];exact Array.mem_append.2 (.inr (by simpa using hx))))
 have qq:=hv ρ' κ' (aw.op (by rw[ho];simp only[Op.operands,Call.operands,hc];exact Array.mem_append.2 (.inl (by simp)))) g n a w G ai aN
 have bN:(List.map a.eval c.args.toList).toArray=c.args.map a.eval:=by rw[<-Array.toList_map,Array.toArray_toList]
 generalize hx:a.eval (.tmp t)=x at qq
 have XK:∀(vs:List Value),x=.func (.func f) #[] vs.toArray->∀bK,cj G bK vs->∃us:List Value,(execOp a.eval o).run P w=.ok (.enter f us.toArray) w/\cj G (l++bK) us:=by
  rintro vs rfl bK jB
  refine⟨c.args.toList.map a.eval++vs,?_,hrel.append jB⟩
  have:(List.map a.eval c.args.toList++vs).toArray=c.args.map a.eval++vs.toArray:=by rw[<-bN];simp
  rw[this]
  simp[execOp,ho,resolve,hc,hx,Deferred.ofValue,invoke,iB hf]
 rcases hav with⟨bK,rfl,rfl⟩|⟨first,rfl,rfl⟩|⟨bK,rfl,rfl⟩
 ·cases qq with|fn _ _ vs hl hr=>exact XK vs rfl bK ⟨hl,hr⟩
 ·cases qq with
  |jV _ _ vs hl hr=>
   refine⟨vs++c.args.toList.map a.eval,?_,cj.append ⟨hl,hr⟩ hrel⟩
   have:(vs++List.map a.eval c.args.toList).toArray=vs.toArray++c.args.map a.eval:=by rw[<-bN];simp
   rw[this]
   simp[execOp,ho,resolve,hc,hx,Deferred.ofValue,invoke,iB hf]
 ·cases qq with|dv hd=>cases hd with|fn _ _ vs hl hr=>exact XK vs rfl _ (jd ⟨hl,hr⟩)
theorem ub{F:Fence}(hF:iq F){f:Nat}{a:Act}{w:World}{args:Array Value}{K:Act->World->Prop}(hd:∀c,o.op≠.defer c)(aX:(execOp a.eval o).run P w=.ok (.enter f args) w)
 (hc:Calls P f args w fun e w'=>∃v,e=.returned v/\K (a.put o.dst v) w'):o.wpIn F 0 P a w K (fun _ _ _=>False):=by
 refine⟨fun f _=>hF.fn f,?_⟩
 rw[Oper.semAt_plain F _ _ hd,aX,Oper.uponIn_enter]
 refine⟨fun h=>(by rw[hF.depth]at h;cases h),hF.calls.2 (hc.mono ?_)⟩
 rintro e w' ⟨v,rfl,hk⟩
 exact hk
def BOk(κ:Nat->aq)(gd:Bool)(v:AV)(d:DV)(ids:List Nat):Prop:=
 gd=true->∀κ' G w x,(∀i,i∈ids->κ' i=κ i)->Fit G w κ'->aG G v x->∀M',Mem.Le G.M M'->(∀i,i∈ids->∀b,cx G i (κ' i) b->M' b=w.heap[b]?)->bu M' d x
def GW(κ:Nat->aq)(gd:Bool)(l:List AV)(ds:List DV)(ids:List Nat):Prop:=
 gd=true->∀κ' G w xs,(∀i,i∈ids->κ' i=κ i)->Fit G w κ'->cj G l xs->∀M',Mem.Le G.M M'->(∀i,i∈ids->∀b,cx G i (κ' i) b->M' b=w.heap[b]?)->fI M' ds xs
theorem B2{v:AV}{q:DV->List Nat->Prop}(h:GX κ gd v q):∃d ids,q d ids/\BOk κ gd v d ids:=by
 unfold GX at h
 split at h
 ·rename_i d
  refine⟨d,[],h,fun _ κ' G w x _ _ hv M' hle _=>?_⟩
  cases hv with|dv hv=>exact hv.mono hle
 ·rename_i i ver ep p
  split at h
  ·rename_i aW bX d hk
   cases hb:Nat.beq ver aW&&(emp p||Nat.beq ep bX)with
   |false=>rw[hb]at h;exact h.elim
   |true=>
    rw[hb]at h
    simp only[cond_true]at h
    obtain⟨rfl,dJ⟩:=dC hb
    obtain⟨nd,h,dj⟩:=bU h
    cases ho:nd.ao with
    |false=>rw[ho]at h;exact h.elim
    |true=>
     rw[ho]at h
     refine⟨qt nd,[i],h,fun aN κ' G w x aw hf hv M' hle hM=>?_⟩
     have he:=aw i (by simp)
     have ez:=hf.box i
     rw[he,hk]at ez
     cases hv with|own _ _ _ _ _ hh hc=>
     rw[cV dJ]at hh
     exact ez.1.frozen hle (fun b hb=>hM i (by simp) b (by rw[he,hk];exact hb)) (SizeOf.sizeOf nd+1) p nd x (by omega) (dj aN) ho hh
  ·exact h.elim
 ·refine⟨_,[],h,fun _ κ' G w x _ _ hv M' hle _=>?_⟩
  cases hv with|fn _ _ vs hl hr=>
  have:vs=[]:=by simpa using hl.symm
  subst this
  exact .fn _ [] [] rfl (by simp)
 ·exact⟨_,[],h.2,fun aN=>by rw[h.1]at aN;cases aN⟩
theorem GW.cons{v:AV}{l:List AV}{d:DV}{ds:List DV}{i j:List Nat}(h:BOk κ gd v d i)(h':GW κ gd l ds j):GW κ gd (v::l) (d::ds) (i++j):=by
 intro aN κ' G w xs aw hf hr M' hle hM
 match xs,hr with
 |[],hr=>have:=hr.1;simp at this
 |x::xs,hr=>
  refine .cons (h aN κ' G w x (fun q hq=>aw q (by simp[hq])) hf (hr.2 0 v x rfl rfl) M' hle fun q hq=>hM q (by simp[hq])) ?_
  exact h' aN κ' G w xs (fun q hq=>aw q (by simp[hq])) hf ⟨by simpa using hr.1,fun q e y he hy=>hr.2 (q+1) e y (by simpa using he) (by simpa using hy)⟩ M' hle fun q hq=>hM q (by simp[hq])
theorem GW.nil:GW κ gd [] [] []:=by
 intro aN κ' G w xs aw hf hr M' hle hM
 have:xs=[]:=by have:=hr.1;simpa using this.symm
 subst this;exact .nil _
theorem vB{v:AV}{q:DV->List Nat->Prop}(h:M0 κ gd v q):∃d ids,q d ids/\BOk κ gd v d ids:=by
 obtain⟨d,ids,h1,h2⟩:=B2 (v:=dn v) h
 exact⟨d,ids,h1,fun aN κ' G w x aw hf hv M' hle hM=>h2 aN κ' G w x aw hf (AF hv) M' hle hM⟩
theorem ss:∀{l:List AV} {q:List DV->List Nat->Prop},GY κ gd l q->∃ds ids,q ds ids/\GW κ gd l ds ids
 |[],q,h=>⟨[],[],h,.nil⟩
 |v::l,q,h=>by
  obtain⟨d,i,h,h1⟩:=vB h
  obtain⟨ds,j,h,h2⟩:=ss h
  exact⟨_,_,h,.cons h1 h2⟩
theorem GZ{v:AV}{q:DV->List Nat->Prop}(h:UJ κ gd v q):∃d ids,q d ids/\BOk κ gd v d ids:=by
 unfold UJ at h
 split at h
 ·rename_i l
  cases hc:b8 l with
  |false=>rw[hc]at h;exact h.elim
  |true=>
   rw[hc]at h
   obtain⟨ds,ids,h,h1⟩:=ss h
   refine⟨_,_,h,fun aN κ' G w x aw hf hv M' hle hM=>?_⟩
   cases hv with|agg _ vs hl hr=>
   have h2:=h1 aN κ' G w vs aw hf ⟨hl,hr⟩ M' hle hM
   exact .agg ds vs h2.1 (q8 (G':={ G with M:=M' }) h2 (cj.cT ⟨hl,hr⟩ hc)) h2.2
 ·exact vB h
theorem vC:∀{l:List AV} {q:List DV->List Nat->Prop},D9 κ gd l q->∃ds ids,q ds ids/\GW κ gd l ds ids
 |[],q,h=>⟨[],[],h,.nil⟩
 |v::l,q,h=>by
  obtain⟨d,i,h,h1⟩:=GZ h
  obtain⟨ds,j,h,h2⟩:=vC h
  exact⟨_,_,h,.cons h1 h2⟩
theorem Ea{av:AV}{rd:List Nat}(hg:bZ ρ ops o.guard=some gd)(hk:aT n o gd nx k av rd)
 (h:∀ρ' κ',DT ops o ρ ρ' κ κ' rd []->∀(F:Fence),iq F->∀(g:dP) (a:Act) (w:World) (G:Gh),cy g n ρ' κ' a w G->gd=true->∀(K:Act->World->Prop),
  (∀v w' G',cy g n ρ' κ' a w' G'->aG G' av v->K (a.put o.dst v) w')->o.wpIn F 0 P a w K (fun _ _ _=>False)):Good P C ops n o nx ρ κ k:=by
 unfold aT at hk
 split at hk
 ·rename_i kA hn
  refine⟨_,_,hk,acb _,by simp,fun F hF ρ' κ' aw g a w dz ⟨G,ai⟩=>?_⟩
  have r9:gd=true:=by rw[hn]at hg;injection hg with hg;exact hg.symm
  unfold lZ
  rw[cA hg aw.bQ ai,r9,if_pos rfl]
  exact h ρ' κ' aw F hF g a w G ai r9 _ fun v w' G' h1 h2=>⟨G',by rw[kA];exact h1⟩
 ·exact hk.elim
 ·rename_i d kA hn
  cases au:Nat.blt d n with
  |false=>rw[au]at hk;exact hk.elim
  |true=>
   rw[au]at hk
   have iC:d<n:=by rw[Nat.blt_eq]at au;exact au
   refine⟨_,_,hk,acb _,by simp,fun F hF ρ' κ' aw g a w dz ⟨G,ai⟩=>?_⟩
   have r9:gd=true:=by rw[hn]at hg;injection hg with hg;exact hg.symm
   unfold lZ
   rw[cA hg aw.bQ ai,r9,if_pos rfl]
   exact h ρ' κ' aw F hF g a w G ai r9 _ fun v w' G' h1 h2=>⟨G',by rw[kA];exact h1.put iC h2⟩
 ·rename_i d j kA hn
  cases au:Nat.blt d n with
  |false=>rw[au]at hk;exact hk.elim
  |true=>
   rw[au]at hk
   have iC:d<n:=by rw[Nat.blt_eq]at au;exact au
   refine⟨_,_,hk,acb _,by simp,fun F hF ρ' κ' aw g a w dz ⟨G,ai⟩=>?_⟩
   unfold lZ
   rw[cA hg aw.bQ ai]
   cases gd with
   |true=>
    rw[if_pos rfl]
    exact h ρ' κ' aw F hF g a w G ai rfl _ fun v w' G' h1 h2=>⟨G',by rw[kA];exact h1.put iC (.opt true av v (fun _=>h2) (by simp))⟩
   |false=>
    simp only[Bool.false_eq_true,if_false,kA]
    exact⟨G,ai.put iC (.opt false av undef (by simp) (fun _=>rfl))⟩
theorem nv.Eb{f:Nat}{ds rs:List DV}(h:nv P f ds rs):fQ P f:=by obtain⟨_,_,h,_⟩:=h;exact h
open Classical in
noncomputable def nw (G:Gh) (w:World) (κ:Nat->aq) (ids:List Nat):Mem:=fun b=>if ∃i,i∈ids/\cx G i (κ i) b then w.heap[b]? else G.M b
theorem G4{G:Gh}{w:World}{κ:Nat->aq}{ids:List Nat}(hf:Fit G w κ):(nw G w κ ids).In w:=by
 intro b x hb
 unfold nw at hb
 split at hb
 ·exact hb
 ·exact hf.sub b x hb
theorem xx{G:Gh}{w:World}{κ:Nat->aq}{ids:List Nat}(hf:Fit G w κ):Mem.Le G.M (nw G w κ ids):=by
 intro b x hb
 unfold nw
 split
 ·rename_i h;obtain⟨i,_,ho⟩:=h;rw[hf.own i b ho]at hb;cases hb
 ·exact hb
theorem Ec{G:Gh}{w:World}{κ:Nat->aq}{ids:List Nat}{i b:Nat}(hi:i∈ids)(ho:cx G i (κ i) b):nw G w κ ids b=w.heap[b]?:=by
 unfold nw
 rw[if_pos ⟨i,hi,ho⟩]
theorem M1{f:Nat}{l:List AV}(hn:∀i,nx<=i->κ i=.none)(hg:bZ ρ ops o.guard=some gd)(bJ:ua P ops o ρ κ gd f l)(h:xy P n o nx κ gd k f l):Good P C ops n o nx ρ κ k:=by
 have XM:(D9 κ gd l fun ds ids=>∃rs,(gd=true->nv P f ds rs)/\xz rs=true/\aT n o gd nx k (xA rs) ids)->Good P C ops n o nx ρ κ k:=by
  intro h
  obtain⟨ds,ids,⟨rs,hc,oH,hk⟩,hb⟩:=vC h
  refine Ea hg hk fun ρ' κ' aw F hF g a w G ai aN K hK=>?_
  obtain⟨es,hle,hcb,my⟩:=hc aN
  obtain⟨vs,aX,hrel⟩:=bJ.2 ρ' κ' _ _ aw g n a w G ai aN hcb
  have hd:=hle.Rg (hb aN κ' G w vs aw.reads ai.fit hrel (nw G w κ' ids) (xx ai.fit) (fun i hi b ho=>Ec hi ho))
  refine ub hF bJ.1 aX ((my w _ vs (G4 ai.fit) ((ai.oK.mono ai.mem).mono (xx ai.fit)) hd).mono ?_)
  rintro e w' ⟨v,M',rfl,Rn,XO,dX,zW,je⟩
  refine⟨v,rfl,?_⟩
  have hM:∀b,(if b<w.heap.size then G.M b else M' b)=(fun b=>if b<w.heap.size then G.M b else M' b) b:=fun _=>rfl
  obtain⟨h1,h2⟩:=ai.grown (w':=w') (M':=fun b=>if b<w.heap.size then G.M b else M' b) Rn
   (fun b x hx=>by
    have au:b<w.heap.size:=(abV.1 (ai.fit.sub b x hx)).1
    simp only[if_pos au];exact hx)
   (fun b x hx=>by
    by_cases au:b<w.heap.size
    ·simp only[if_pos au]at hx;rw[Rn.block b au];exact ai.fit.sub b x hx
    ·simp only[if_neg au]at hx;exact dX b x hx)
   (fun b hb=>by simp only[if_pos hb])
  exact hK v w' _ h1 (Jd (M3 oH je))
 have Je:∀{ds:List DV} {rs:List DV} {ids:List Nat} {κ':Nat->aq} {g:dP} {a:Act} {w:World} {G:Gh} {F:Fence} {ρ':Nat->AV} {vs:List Value} {K:Act->World->Prop},iq F->nv P f ds rs->cy g n ρ' κ' a w G->fI G.M ds vs->(execOp a.eval o).run P w=.ok (.enter f vs.toArray) w->
  (∀v w' G',cy g n ρ' κ' a w' G'->aG G' (xA rs) v->K (a.put o.dst v) w')->o.wpIn F 0 P a w K (fun _ _ _=>False):=by
  intro ds rs ids κ' g a w G F ρ' vs K hF hc ai hd aX hK
  obtain⟨es,hle,hcb,my⟩:=hc
  refine ub hF bJ.1 aX ((my w _ vs ai.fit.sub (ai.oK.mono ai.mem) (hle.Rg hd)).mono ?_)
  rintro e w' ⟨v,M',rfl,Rn,XO,dX,zW,je⟩
  refine⟨v,rfl,?_⟩
  obtain⟨h1,h2⟩:=ai.grown Rn XO dX zW
  exact hK v w' _ h1 (Jd je)
 unfold xy at h
 split at h
 ·rename_i ds zM
  obtain⟨rs,hc,hk⟩:=h
  refine Ea hg hk fun ρ' κ' aw F hF g a w G ai aN K hK=>?_
  obtain⟨vs,aX,hrel⟩:=bJ.2 ρ' κ' _ _ aw g n a w G ai aN (hc aN).Eb
  exact Je (ids:=[]) hF (hc aN) ai (km (κ:=κ) (κ':=κ') (w:=w) (all:=[]) (by simp) (Gh.Le.refl G) (by simpa[kB,ay]using ai.fit) zM (by simp) hrel) aX hK
 ·rename_i ds ids b7 zM
  rcases h with h|⟨rs,hc,hk⟩
  ·exact XM h
  ·refine Jf bJ.1 hg hk (acb _) (fun p hp=>uc hn hp) fun ρ' κ' aw F hF g a w G dz ai aN K hK=>?_
   obtain⟨vs,aX,hrel⟩:=bJ.2 ρ' κ' _ _ aw g n a w G ai aN (hc aN).Eb
   obtain⟨G1,f1,f2,f3,f4,f5⟩:=ai.pX (κ:=κ) ids aw.reads
   exact Je (ids:=[]) hF (hc aN) f5 (km aw.reads f1 f5.fit zM (fun i hi=>hi) hrel) aX hK
 ·exact XM h
end
end
end Go.TM
