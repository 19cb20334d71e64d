import Derived.Test.YtpbiiigpphehbaaGreatDoorFM14
import Derived.Laws.BytesString
set_option linter.all false
namespace Go.TM
section
open Go.RowKit
variable [cj]
section
variable {P:Program} {C:dO->Prop} {T:List TI} {ops:List Oper} {n:Nat} {o:Oper} {nx:Nat} {ρ:Nat->AV} {κ:Nat->ar} {k:lj->Nat->Prop} {gd:Bool}
def xK(ρ:Nat->AV)(κ:Nat->ar)(g:Bool):Option Operand->Option Int->Prop
 |none,none=>True
 |some x,some n=>bC ρ κ g x (.dv (.int .i64 n))
 |_,_=>False
theorem AM{x:Option Operand}{q:Option Int->Prop}(h:XM ρ κ gd x q):∃b,q b/\xK ρ κ gd x b:=by
 unfold XM at h
 split at h
 ·exact⟨none,h,tv⟩
 ·obtain⟨v,h,hv⟩:=aI h
  split at h
  ·rename_i m;exact⟨some m,h,hv⟩
  ·exact h.elim
theorem xK.val{ρ':Nat->AV}{κ':Nat->ar}{g:dO}{a:Act}{w:World}{G:Gh}{x:Option Operand}{b:Option Int}(h:xK ρ κ gd x b)(aj:cu g n ρ' κ' a w G)(aP:gd=true)(ax:∀y,x=some y->B7 ρ ρ' κ κ' y):x.map a.eval=b.map (Value.int .i64):=by
 cases x with
 |none=>cases b with
  |none=>rfl
  |some=>exact h.elim
 |some y=>cases b with
  |none=>exact h.elim
  |some m=>
   have hv:=h ρ' κ' (ax y rfl) g n a w G aj aP
   simp only[Option.map_some]
   generalize a.eval y=v at hv
   cases hv with|dv hv=>cases hv with|int=>rfl
theorem qZ{w:World}{isSl:Bool}{len cap:Nat}{lo hi:Option Int}(h1:0<=lo.getD 0)(h2:lo.getD 0<=hi.getD len)(h3:hi.getD len<=len)(h4:len<=cap):
 (Instr.sliceBounds isSl len cap (lo.map (Value.int .i64)) (hi.map (Value.int .i64)) none).run P w=.ok ((lo.getD 0).toNat,(hi.getD len).toNat,cap) w:=by
 cases lo with
 |none=>
  cases hi with
  |none=>simp[Instr.sliceBounds]
  |some h=>
   simp only[Option.getD_some,Option.getD_none]at*
   have:0<=h/\h<=(cap:Int):=by omega
   simp[Instr.sliceBounds,Instr.sliceBound,asIntOf,this]
 |some l=>
  cases hi with
  |none=>
   simp only[Option.getD_some,Option.getD_none]at*
   have:0<=l/\l<=(len:Int):=by omega
   simp[Instr.sliceBounds,Instr.sliceBound,asIntOf,this]
  |some h=>
   simp only[Option.getD_some]at*
   have h5:0<=h/\h<=(cap:Int):=by omega
   have h6:0<=l/\l<=h:=by omega
   have h7:(max h 0:Int)=h:=by omega
   simp[Instr.sliceBounds,Instr.sliceBound,asIntOf,h5,h6,h7]
theorem Np(hT:eV P T){s t:Nat}{x:Operand}{v:AV}(hg:b5 ρ ops o.guard=some gd)(ho:o.op=.convert s t x)(hs:(nth T s).ok=true)(ht:(nth T t).ok=true)
 (h:Hd (nth T s) (nth T (nth T s).elem) (nth T t) κ v fun r rd=>aT n o gd nx k r rd) (bO:bC ρ κ gd x v):Good P C ops n o nx ρ κ k:=by
 obtain⟨i1,u1,z1,XO⟩:=hT.facts hs
 obtain⟨i2,u2,z2,tf2⟩:=hT.facts ht
 unfold Hd at h
 cases hb:(nth T s).isSl&&(nth T (nth T s).elem).ok&&Ro (nth T (nth T s).elem).He&&(nth T t).isStr with
 |false=>rw[hb]at h;exact h.elim
 |true=>
 rw[hb]at h
 simp only[cond_true]at h
 simp only[aca]at hb
 obtain⟨⟨⟨iQ,tK⟩,hu8⟩,aj⟩:=hb
 obtain⟨i3,u3,z3,tf3⟩:=hT.facts tK
 have hu1:=XO.slice iQ
 have XP:=tf2.string aj
 have hu3:P.underlying (nth T s).elem=some (.int .u8):=by
  have h3:=tf3.He
  rw[h3]at hu8
  cases u3<;>simp[Ev,Ro]at hu8
  rename_i kk
  cases kk<;>simp[Ro]at hu8
  exact tf3.AJ
 have dh:∀c,o.op≠.defer c:=fun c=>by rw[ho];simp
 rcases j5 h with⟨rfl,hk⟩|⟨sz,ys,rd,kill,hk,Q9,Ra,lW⟩
 ·refine bq dh hg hk fun ρ' κ' ax g a w G aj aP=>?_
  have hv:=bO ρ' κ' (ax.op (by rw[ho];simp[Op.operands])) g n a w G aj aP
  generalize hx:a.eval x=q at hv
  cases hv with|dv hv=>cases hv with|az=>
  exact⟨.string .empty,by simp[execOp,ho,hx,run_convert_bytes_string w s t _ none 0 0 hu1 hu3 XP,Conv.bytesToString],.dv (.str _)⟩
 ·cases hb:Nat.beq sz 1&&Tp kill with
  |false=>rw[hb]at hk;exact hk.elim
  |true=>
  rw[hb]at hk
  simp only[cond_true]at hk
  simp only[aca]at hb
  have:=abD hb.1
  subst this
  obtain⟨ns,rfl,hk⟩:=hk
  refine bq dh hg hk fun ρ' κ' ax g a w G aj aP=>?_
  have hv:=bO ρ' κ' (ax.op (by rw[ho];simp[Op.operands])) g n a w G aj aP
  obtain⟨cY,KM,_⟩:=lW κ' G w _ (fun i hi=>ax.reads i hi) aj.fit hv
  generalize hx:a.eval x=q at KM
  rcases KM.Us with⟨c,rfl,ra⟩|⟨A,cap,cell,rfl,cH⟩
  ·have:ns=[]:=by simpa using ra
   subst this
   exact⟨.string .empty,by simp[execOp,ho,hx,run_convert_bytes_string w s t _ none 0 c hu1 hu3 XP,Conv.bytesToString],.dv (.str _)⟩
  ·have XQ:(loadCells A (ns.map (DV.int .u8)).length).run P w=.ok (ns.map (Value.int .u8)).toArray w:=by
    have h1:=run_loadCells (P:=P) w A (ns.map (DV.int .u8)).length (fun j=>Value.int .u8 (ns.getD j 0)) (fun j hj=>by
     have pZ:j<ns.length:=by simpa using hj
     obtain⟨_,h2⟩:=cH j (.int .u8 ns[j]) (by simp[pZ])
     obtain⟨_,h3,_,_,h4⟩:=h2 0 (.int .u8 ns[j]) rfl
     rw[Nat.mul_one,Nat.add_zero]at h3
     rw[h3]
     rcases h4 with⟨h5,_⟩|⟨_,h5⟩
     ·cases h5
     ·generalize cell j 0=u at h5⊢
      cases h5 with|int=>simp[List.getD,pZ])
    rw[h1]
    congr 2
    refine List.ext_getElem (by simp) fun j h2 h3=>?_
    simp at h2 h3
    simp[List.getD,h3]
   refine⟨.string (Tq ns),?_,.dv (.str _)⟩
   have h2:=run_bytesToString (P:=P) w A (ns.map (DV.int .u8)).length cap ns XQ
   simp only[execOp,ho,hx,Sem.run_bind,run_convert_bytes_string w s t _ (some A) _ cap hu1 hu3 XP,h2,Result.andThen_ok,Sem.run_pure]
   rfl
theorem aK{c:Bool}{p:Prop}(h:bif c then p else False):c=true/\p:=by cases c<;>simp_all
theorem cu.cut{g:dO}{κ' κ2:Nat->ar}{a:Act}{w:World}{G:Gh}(aj:cu g n ρ κ' a w G){i ver bY sz:Nat}{xs:List DV}(eu:κ' i=.tree ver bY (.aB sz xs)){L H:Int}(b1:0<=L)(b2:L<=H)(b3:H<=xs.length)
 (h1:κ2 i=.tree (ver+1) 0 (.aB sz ((xs.take H.toNat).drop L.toNat))) (h3:∀j,j≠i->κ2 j=κ' j) {v0:Value} (GL:aJ G.H i ver bY []=some v0):
 ∃A cap,v0=.slice A xs.length cap/\xs.length<=cap/\∃G',cu g n ρ κ2 a w G'/\aH G' (.own i (ver+1) 0 []) (.slice (if cap=L.toNat then A else A.map (·.add (L.toNat*sz))) (H.toNat-L.toNat) (cap-L.toNat)):=by
 have eE:=aj.fit.box i
 rw[eu]at eE
 obtain⟨ht,gA,KR,M1⟩:=eE
 obtain⟨v0',sj,vf,bn⟩:=ht.2 [] _ rfl rfl
 rw[GL]at sj;injection sj with sj;subst sj
 have sj:=GL
 have hlen:((xs.take H.toNat).drop L.toNat).length=H.toNat-L.toNat:=by simp;omega
 let hN:Value->List PS->Option Value:=fun v' q=>match q with
  |[]=>some v'
  |.el i' j::r=>aJ G.H i ver bY (.el (i'+L.toNat) j::r)
  |_=>none
 have fin:∀v':Value,v'.oneCell'=true->(∀b,cS v'=some b->cS v0=some b)->cD G.M w v' (fun s=>hN v' ([]++[s])) (.aB sz ((xs.take H.toNat).drop L.toNat))->
  ∃G',cu g n ρ κ2 a w G'/\aH G' (.own i (ver+1) 0 []) v':=by
  intro v' GZ UC Ea
  have z7:∀i' j c,step (.aB sz ((xs.take H.toNat).drop L.toNat)) (.el i' j)=some c->step (.aB sz xs) (.el (i'+L.toNat) j)=some c:=by
   intro i' j c hc
   simp only[step]at hc⊢
   rw[List.getElem?_drop,List.getElem?_take]at hc
   by_cases e:L.toNat+i'<H.toNat
   ·rw[if_pos e,Nat.add_comm]at hc;exact hc
   ·rw[if_neg e]at hc;cases hc
  have el:∀s c,step (.aB sz ((xs.take H.toNat).drop L.toNat)) s=some c->∃i' j,s=.el i' j:=by
   intro s c cY
   cases s with
   |el i' j=>exact⟨i',j,rfl⟩
   |key=>simp[step]at cY
  obtain⟨m1,m2,m3⟩:=bu.qS (w:=w) (w':=w) (h:=KU) (h':=hN v') (p:=[]) (n:=.aB sz []) (n':=.aB sz ((xs.take H.toNat).drop L.toNat)) (v:=.slice none 0 0) (v':=v') (fun _=>True) (xp G.M w _) (B2 _) rfl rfl rfl rfl rfl GZ (.inl rfl) Ea
   (fun q hq=>absurd (List.nil_prefix) hq) (fun s c _ _ hN=>absurd trivial hN)
   (fun s c cY Ca _=>by
    obtain⟨i',j,rfl⟩:=el s c cY
    have WU:get (.aB sz xs) [.el (i'+L.toNat) j]=some c:=by simp[get,z7 i' j c cY]
    refine⟨ht.sub WU Ca,gA.sub WU,fun b hb=>⟨fun h=>j6 h,fun dI=>?_⟩⟩
    obtain⟨q,m,uu,c1,c2,c3,c4⟩:=hb
    have:=gA [] (.el (i'+L.toNat) j::q) _ m v0 uu b rfl rfl sj (UC b dI) (by simp only[get,z7 i' j c cY];exact c1) c2 c3 c4
    cases this)
   (fun s s' c c' b js M4 _ lJ MJ _ jP cd=>by
    obtain⟨i1,j1,rfl⟩:=el s c js
    obtain⟨i2,j2,rfl⟩:=el s' c' lJ
    obtain⟨q,m,uu,c1,c2,c3,c4⟩:=jP
    obtain⟨q',m',uu',d1,d2,d3,d4⟩:=cd
    have:=gA (.el (i1+L.toNat) j1::q) (.el (i2+L.toNat) j2::q') m m' uu uu' b (by simp only[get,z7 i1 j1 c js];exact c1) c2 c3 c4 (by simp only[get,z7 i2 j2 c' lJ];exact d1) d2 d3 d4
    injection this with e1 _
    injection e1 with e1 e2
    have:i1=i2:=by omega
    rw[this,e2])
   (fun b hb=>.inr fun h=>j6 h) (fun b h=>(j6 h).elim)
  obtain⟨G',g1,g2,_,g4,_,_,g7⟩:=aj.lG (κ':=κ2) (w':=w) (i:=i) (ver:=ver+1) (ep:=0) (d:=.aB sz ((xs.take H.toNat).drop L.toNat)) (fun _=>False) (hN v') (fun h=>h.elim) (.inr ⟨ver,bY,_,eu,by omega,by omega⟩) (fun _ h=>h.elim) h1 (fun j hj _=>h3 j hj)
   (fun q y hy=>by cases q<;>simp[aJ,KR (ver+1) (by omega)]at hy) m1 m2
   (fun b hb=>by
    rcases m3 b hb with h5|h5|⟨s,c,s1,s2,_,s4⟩
    ·exact(j6 h5).elim
    ·exact .inr (.inl (by rw[eu];exact⟨[],_,v0,rfl,rfl,sj,UC b h5⟩))
    ·obtain⟨i',j,rfl⟩:=el s c s1
     have WU:get (.aB sz xs) [.el (i'+L.toNat) j]=some c:=by simp[get,z7 i' j c s1]
     exact .inr (.inl (by rw[eu];exact bA.sub (p:=[.el (i'+L.toNat) j]) WU s4)))
   (fun _ _ _ _=>rfl) (fun b hb=>by
    rcases hb with h5|⟨_,h5,_⟩
    ·exact aj.fit.own i b h5
    ·exact h5.elim) (ab3 _) rfl rfl rfl
  exact⟨G',g7,.own _ _ _ _ _ ((g4 []).trans rfl) GZ⟩
 rcases bn with⟨rfl,rfl⟩|⟨gb,ob,cap,c,tt,rfl,dW,hw,Az,ql⟩
 ·simp at b3
  have hL:L=0:=by omega
  have hH:H=0:=by omega
  subst hL;subst hH
  refine⟨none,0,rfl,ab3 _,?_⟩
  simpa using fin (.slice none 0 0) rfl (by simp[cS]) (.inl ⟨by simp,rfl⟩)
 ·refine⟨_,_,rfl,dW,fin _ rfl ?_ ?_⟩
  ·intro b hb
   split at hb
   ·exact hb
   ·simp only[Option.map_some,cS,eL]at hb;exact hb
  ·by_cases e:cap=L.toNat
   ·have ra:(xs.take H.toNat).drop L.toNat=[]:=List.eq_nil_of_length_eq_zero (by rw[hlen];omega)
    rw[if_pos e,ra]
    rw[show cap-L.toNat=0 by omega,show H.toNat-L.toNat=0 by omega]
    refine .inr ⟨gb,ob,0,c,tt,rfl,by simp,hw,by omega,by simp⟩
   ·rw[if_neg e]
    refine .inr ⟨gb,ob+L.toNat*sz,cap-L.toNat,c,tt,by simp only[Option.map_some,eL];rw[hlen],by rw[hlen];omega,hw,?_,fun i' y hy=>?_⟩
    ·have:L.toNat*sz+(cap-L.toNat)*sz=cap*sz:=by rw[<-Nat.add_mul];congr 1;omega
     omega
    ·rw[List.getElem?_drop,List.getElem?_take]at hy
     split at hy
     ·obtain⟨c1,c2⟩:=ql _ y hy
      refine⟨c1,fun j d' kj=>?_⟩
      obtain⟨d1,uu,d2,d3⟩:=c2 j d' kj
      refine⟨d1,uu,?_,?_⟩
      ·rw[<-d2];congr 1;rw[Nat.add_mul];omega
      ·show dC G.M (aJ G.H i ver bY [.el (i'+L.toNat) j]) d' uu
       rw[Nat.add_comm];exact d3
     ·cases hy
theorem AN(hT:eV P T){t:Nat}{x:Operand}{l h:Option Operand}{v:AV}{lo hi:Option Int}(hg:b5 ρ ops o.guard=some gd)(ho:o.op=.slice t x l h none)(hn:∀i,nx<=i->κ i=.none)
 (cB:(nth T t).ok=true) (iQ:((nth T t).isSl&&(nth T (nth T t).elem).ok||(nth T t).isStr)=true) (hx:bC ρ κ gd x v) (hl:xK ρ κ gd l lo) (hh:xK ρ κ gd h hi)
 (hk:lL (nth T t) (nth T (nth T t).elem).size κ gd v lo hi (fun v=>aT n o gd nx k v []) (fun v bx rd=>dR n o nx k v bx rd)):Good P C ops n o nx ρ κ k:=by
 obtain⟨ti,u,z,tf⟩:=hT.facts cB
 have dh:∀c,o.op≠.defer c:=fun c=>by rw[ho];simp
 have mx:x∈o.op.operands:=by rw[ho];simp[Op.operands]
 have ml:∀y,l=some y->y∈o.op.operands:=fun y hy=>by rw[ho,hy];simp[Op.operands]
 have mh:∀y,h=some y->y∈o.op.operands:=fun y hy=>by rw[ho,hy];simp[Op.operands]
 have cut:∀{w:World} {a:Act} {A:Option Addr} {len cap:Nat},(nth T t).isSl=true->a.eval x=.slice A len cap->l.map a.eval=lo.map (Value.int .i64)->h.map a.eval=hi.map (Value.int .i64)->0<=lo.getD 0->lo.getD 0<=hi.getD len->hi.getD len<=len->len<=cap->(nth T (nth T t).elem).ok=true->
  (execOp a.eval o).run P w=.ok (.value (.slice (if cap=(lo.getD 0).toNat then A else A.map (·.add ((lo.getD 0).toNat*(nth T (nth T t).elem).size))) ((hi.getD len).toNat-(lo.getD 0).toNat) (cap-(lo.getD 0).toNat))) w:=by
  intro w a A len cap hs vm hle xF h1 h2 h3 h4 vo
  obtain⟨te,ue,ze,jO⟩:=hT.facts vo
  have hb:=qZ (P:=P) (w:=w) (isSl:=true) (len:=len) (cap:=cap) h1 h2 h3 h4
  have wm:=jO.fL w
  simp[execOp,ho,Instr.sliceAt,Instr.slice,run_underlying (tf.slice hs),vm,hle,xF,hb,wm]
 unfold lL at hk
 split at hk
 ·rename_i sz xs
  cases lk:(nth T t).isSl&&Nat.beq sz (nth T (nth T t).elem).size with
  |false=>rw[lk]at hk;exact hk.elim
  |true=>
  rw[lk]at hk
  obtain⟨Jm,hk⟩:=hk
  simp only[aca]at lk
  obtain⟨hs,Hf⟩:=lk
  have:=abD Hf
  subst this
  have vo:(nth T (nth T t).elem).ok=true:=by
   simp only[Bool.or_eq_true,aca]at iQ
   rcases iQ with h5|h5
   ·exact h5.2
   ·exfalso
    have q1:=tf.isSl;have q2:=tf.isStr
    rw[hs]at q1;rw[h5]at q2
    cases u<;>simp[KZ,strOf]at q1 q2
  refine bq dh hg hk fun ρ' κ' ax g a w G aj aP=>?_
  have hv:=hx ρ' κ' (ax.op mx) g n a w G aj aP
  have hle:=hl.val aj aP (fun y hy=>ax.op (ml y hy))
  have xF:=hh.val aj aP (fun y hy=>ax.op (mh y hy))
  obtain⟨b1,b2,b3⟩:=Jm aP
  generalize vm:a.eval x=q at hv
  cases hv with|dv hv=>
  generalize mj:lo.getD 0=L at b1 b2 b3⊢
  generalize Ep:hi.getD (xs.length:Int)=H at b1 b2 b3⊢
  have hlen:((xs.take H.toNat).drop L.toNat).length=H.toNat-L.toNat:=by simp;omega
  cases hv with
  |slnil=>
   simp at b3 Ep
   have hL:L=0:=by omega
   have hH:H=0:=by omega
   subst hL;subst hH
   refine⟨_,cut hs vm hle xF (by rw[mj];omega) (by rw[mj];simp[Ep]) (by simp[Ep]) (ab3 _) vo,?_⟩
   rw[mj]
   simp[Ep]
   exact .dv (.slnil _)
  |sl _ _ A cap cell dW hlc hc hr=>
   refine⟨_,cut hs vm hle xF (by rw[mj];omega) (by rw[mj,Ep];omega) (by rw[Ep];omega) dW vo,.dv ?_⟩
   rw[mj,Ep]
   by_cases e:cap=L.toNat
   ·have ra:(xs.take H.toNat).drop L.toNat=[]:=List.eq_nil_of_length_eq_zero (by rw[hlen];omega)
    rw[if_pos e,ra,show H.toNat-L.toNat=0 by omega,show cap-L.toNat=0 by omega]
    exact .sl _ [] A 0 (fun _ _=>undef) (ab3 _) (by simp) (by simp) (by simp)
   ·rw[if_neg e]
    simp only[Option.map_some]
    rw[<-hlen]
    refine .sl _ _ _ _ (fun i j=>cell (L.toNat+i) j) (by rw[hlen];omega) (fun y hy=>hlc y (List.mem_of_mem_take (List.mem_of_mem_drop hy))) (fun i j hi hj=>?_) (fun i y j d hy hd=>?_)
    ·rw[cG]
     have:=hc (L.toNat+i) j (by rw[hlen]at hi;omega) hj
     rw[Nat.add_mul]at this
     rw[show L.toNat*(nth T (nth T t).elem).size+(i*(nth T (nth T t).elem).size+j)=L.toNat*(nth T (nth T t).elem).size+i*(nth T (nth T t).elem).size+j by omega]
     exact this
    ·rw[List.getElem?_drop,List.getElem?_take]at hy
     split at hy
     ·exact hr _ y j d hy hd
     ·cases hy
 ·rename_i i ver ep
  split at hk
  ·rename_i aY bY d eu
   cases hb:Nat.beq ver aY with
   |false=>rw[hb]at hk;exact hk.elim
   |true=>
   rw[hb]at hk
   simp only[cond_true]at hk
   have:=abD hb
   subst this
   cases d with
   |aB sz xs=>
    simp only at hk
    cases lk:(nth T t).isSl&&Nat.beq sz (nth T (nth T t).elem).size with
    |false=>rw[lk]at hk;exact hk.elim
    |true=>
    rw[lk]at hk
    obtain⟨⟨b1,b2,b3⟩,hk⟩:=hk
    simp only[aca]at lk
    obtain⟨hs,Hf⟩:=lk
    have:=abD Hf
    subst this
    have vo:(nth T (nth T t).elem).ok=true:=by
     simp only[Bool.or_eq_true,aca]at iQ
     rcases iQ with h5|h5
     ·exact h5.2
     ·exfalso
      have q1:=tf.isSl;have q2:=tf.isStr
      rw[hs]at q1;rw[h5]at q2
      cases u<;>simp[KZ,strOf]at q1 q2
    have tP:i<nx:=qu hn ⟨_,_,_,eu⟩
    refine cZ dh hg hk (ab3 _) (by simpa using tP) fun ρ' κ' ax g a w G dz aj aP=>?_
    have he:=ax.reads i (by simp)
    have hv:=hx ρ' κ' (ax.op mx) g n a w G aj aP
    have hle:=hl.val aj aP (fun y hy=>ax.op (ml y hy))
    have xF:=hh.val aj aP (fun y hy=>ax.op (mh y hy))
    have eE:=aj.fit.box i
    rw[he,eu]at eE
    obtain⟨ht,gA,KR,M1⟩:=eE
    obtain⟨v0,sj,vf,bn⟩:=ht.2 [] _ rfl rfl
    have vm:a.eval x=v0:=by
     generalize a.eval x=q at hv
     cases hv with|own _ _ _ _ _ hh' hc=>have:aJ G.H i ver bY []=some q:=hh'
                                         rw[sj]at this;injection this with this;exact this.symm
    obtain⟨A,cap,rfl,dW,G',g7,UD⟩:=aj.cut (κ2:=ay κ' [(i,.tree (ver+1) 0 (.aB (nth T (nth T t).elem).size ((xs.take (hi.getD xs.length).toNat).drop (lo.getD 0).toNat)))]) (he.trans eu) b1 b2 b3 (by simp[ay]) (fun j hj=>by simp[ay,ah _ _ hj]) sj
    exact⟨_,w,G',.inl (cut hs vm hle xF b1 b2 b3 dW vo),g7,UD⟩
   |_=>exact hk.elim
  ·exact hk.elim
 ·rename_i s
  cases iu:(nth T t).isStr with
  |false=>rw[iu]at hk;exact hk.elim
  |true=>
   rw[iu]at hk
   obtain⟨Jm,hk⟩:=hk
   refine bq dh hg hk fun ρ' κ' ax g a w G aj aP=>?_
   have hv:=hx ρ' κ' (ax.op mx) g n a w G aj aP
   have hle:=hl.val aj aP (fun y hy=>ax.op (ml y hy))
   have xF:=hh.val aj aP (fun y hy=>ax.op (mh y hy))
   obtain⟨b1,b2,b3⟩:=Jm aP
   generalize vm:a.eval x=q at hv
   cases hv with|dv hv=>cases hv with|str=>
   have hb:=qZ (P:=P) (w:=w) (isSl:=false) (len:=s.size) (cap:=s.size) b1 b2 b3 (ab3 _)
   refine⟨_,?_,.dv (.str _)⟩
   simp[execOp,ho,Instr.sliceAt,Instr.slice,run_underlying (tf.string iu),vm,hle,xF,hb]
 ·exact hk.elim
theorem Nq(hT:eV P T){t:Nat}{x:Operand}{l h:Option Operand}{v:AV}{lo hi:Option Int}(hg:b5 ρ ops o.guard=some gd)(ho:o.op=.slice t x l h none)(hn:∀i,nx<=i->κ i=.none)
 (cB:(nth T t).ok=true) (iQ:((nth T t).isSl&&(nth T (nth T t).elem).ok||(nth T t).isStr)=true) (hx:bC ρ κ gd x v) (hl:xK ρ κ gd l lo) (hh:xK ρ κ gd h hi)
 (hk:xL (nth T t) (nth T (nth T t).elem).size κ gd nx v lo hi (fun v rd=>aT n o gd nx k v rd) (fun v bx rd=>dR n o nx k v bx rd) (fun v bx rd=>dR n o (nx+1) k v bx rd)):Good P C ops n o nx ρ κ k:=by
 unfold xL at hk
 split at hk
 ·rename_i i ver ep p
  rcases hk with hk|hk|hk
  ·exact AN hT hg ho hn cB iQ hx hl hh hk
  all_goals
   obtain⟨ti,u,z,tf⟩:=hT.facts cB
   have dh:∀c,o.op≠.defer c:=fun c=>by rw[ho];simp
   have mx:x∈o.op.operands:=by rw[ho];simp[Op.operands]
   have ml:∀y,l=some y->y∈o.op.operands:=fun y hy=>by rw[ho,hy];simp[Op.operands]
   have mh:∀y,h=some y->y∈o.op.operands:=fun y hy=>by rw[ho,hy];simp[Op.operands]
   have cut:∀{w:World} {a:Act} {A:Option Addr} {len cap:Nat},(nth T t).isSl=true->a.eval x=.slice A len cap->l.map a.eval=lo.map (Value.int .i64)->h.map a.eval=hi.map (Value.int .i64)->0<=lo.getD 0->lo.getD 0<=hi.getD len->hi.getD len<=len->len<=cap->(nth T (nth T t).elem).ok=true->
    (execOp a.eval o).run P w=.ok (.value (.slice (if cap=(lo.getD 0).toNat then A else A.map (·.add ((lo.getD 0).toNat*(nth T (nth T t).elem).size))) ((hi.getD len).toNat-(lo.getD 0).toNat) (cap-(lo.getD 0).toNat))) w:=by
    intro w a A len cap hs vm hle xF h1 h2 h3 h4 vo
    obtain⟨te,ue,ze,jO⟩:=hT.facts vo
    have hb:=qZ (P:=P) (w:=w) (isSl:=true) (len:=len) (cap:=cap) h1 h2 h3 h4
    have wm:=jO.fL w
    simp[execOp,ho,Instr.sliceAt,Instr.slice,run_underlying (tf.slice hs),vm,hle,xF,hb,wm]
   have UE:(nth T t).isSl=true->(nth T (nth T t).elem).ok=true:=fun hs=>by
    simp only[Bool.or_eq_true,aca]at iQ
    rcases iQ with h5|h5
    ·exact h5.2
    ·exfalso
     have q1:=tf.isSl;have q2:=tf.isStr
     rw[hs]at q1;rw[h5]at q2
     cases u<;>simp[KZ,strOf]at q1 q2
  ·unfold Jn at hk
   split at hk
   ·rename_i aY bY d eu
    have hh:=aK hk;clear hk;obtain⟨hb,hk⟩:=hh
    obtain⟨rfl,dG⟩:=dA hb
    obtain⟨nd,hk,UF⟩:=bU hk
    split at hk
    ·rename_i sz xs
     have hh:=aK hk;clear hk;obtain⟨cd,Jm,hk⟩:=hh
     simp only[aca]at cd
     obtain⟨hs,Hf⟩:=cd
     have:=abD Hf
     subst this
     refine bq dh hg hk fun ρ' κ' ax g a w G aj aP=>?_
     have hv:=hx ρ' κ' (ax.op mx) g n a w G aj aP
     have hle:=hl.val aj aP (fun y hy=>ax.op (ml y hy))
     have xF:=hh.val aj aP (fun y hy=>ax.op (mh y hy))
     obtain⟨b1,b2,b3⟩:=Jm aP
     have aam:κ' i=.tree ver bY d:=(ax.reads i (by simp)).trans eu
     obtain⟨u0,h1,_,bn⟩:=aj.fit.node aam (UF aP) rfl
     generalize vm:a.eval x=q at hv
     cases hv with|own _ _ _ _ _ WV hc=>
     have sj:=WV
     rw[cR dG,h1]at sj
     injection sj with sj
     subst sj
     rcases bn with⟨rfl,rfl⟩|⟨gb,ob,cap,cc,tt,rfl,dW,hw,aan,DU⟩
     ·have UG:=cut (w:=w) hs vm hle xF b1 (by simpa using b2) (by simpa using b3) (ab3 _) (UE hs)
      refine⟨_,UG,?_⟩
      refine .pre _ _ _ _ _ _ _ _ _ fun ck=>?_
      simp at b3 ck;omega
     ·have UG:=cut (w:=w) hs vm hle xF b1 b2 b3 dW (UE hs)
      refine⟨_,UG,?_⟩
      refine .pre _ _ _ _ _ _ _ _ _ fun ck=>⟨_,_,_,WV,?_⟩
      rw[if_neg (by omega)]
      rfl
    ·exact hk.elim
   ·exact hk.elim
  ·unfold Jo at hk
   split at hk
   ·exact hk.elim
   rename_i aao
   split at hk
   ·rename_i aY bY d eu
    have hh:=aK hk;clear hk;obtain⟨hb,hk⟩:=hh
    simp only[aca]at hb
    have:=abD hb.1
    subst this
    have:=abD hb.2
    subst this
    obtain⟨nd,hk,UF⟩:=bU hk
    split at hk
    ·rename_i sz xs
     have hh:=aK hk;clear hk;obtain⟨cd,⟨b1,b2,b3⟩,hk⟩:=hh
     simp only[aca]at cd
     obtain⟨hs,Hf⟩:=cd
     have:=abD Hf
     subst this
     obtain⟨hk,_⟩:=fb hk
     have tP:i<nx:=qu hn ⟨_,_,_,eu⟩
     refine cZ dh hg hk (by omega) (fun q hq=>?_) fun ρ' κ' ax g a w G dz aj aP=>?_
     ·rcases abG.1 hq with rfl|hq
      ·simp
      ·rcases abG.1 hq with rfl|hq
       ·show i<nx+1;omega
       ·cases hq
     have he:=ax.reads i (by simp)
     have ec:κ' nx=.none:=(ax.reads nx (by simp)).trans (hn nx (ab3 _))
     have hv:=hx ρ' κ' (ax.op mx) g n a w G aj aP
     have hle:=hl.val aj aP (fun y hy=>ax.op (ml y hy))
     have xF:=hh.val aj aP (fun y hy=>ax.op (mh y hy))
     have hpn:p≠[]:=fun e=>aao e
     obtain⟨G1,g1,g2,_,g4,g7⟩:=aj.split (κ':=ay κ' [(nx,.tree 0 0 (.aB (nth T (nth T t).elem).size xs)),(i,.tree ver (ep+1) (dM d p .any))]) (i:=i) (nx:=nx) (he.trans eu) ec (UF rfl) rfl hpn (by simp only[ay];rw[ah _ _ (by omega)];simp) (by simp[ay]) (fun j h1 h2=>by simp only[ay];rw[ah _ _ h2,ah _ _ h1])
     have K4:aJ G.H i ver ep p=some (a.eval x):=by
      generalize a.eval x=q at hv
      cases hv with|own _ _ _ _ _ hh' hc=>exact hh'
     obtain⟨A,cap,hA,dW,G',g8,UD⟩:=g7.cut (κ2:=ay κ' [(nx,.tree 1 0 (.aB (nth T (nth T t).elem).size ((xs.take (hi.getD xs.length).toNat).drop (lo.getD 0).toNat))),(i,.tree ver (ep+1) (dM d p .any))]) (i:=nx) (by simp only[ay];rw[bo]) b1 b2 b3 (by simp only[ay];rw[bo])
      (fun j hj=>by simp only[ay];rw[ah _ _ hj,ah _ _ hj]) (by rw[g4 [],List.append_nil];exact K4)
     exact⟨_,w,G',.inl (cut hs hA hle xF b1 b2 b3 dW (UE hs)),g8,UD⟩
    ·exact hk.elim
   ·exact hk.elim
 ·exact AN hT hg ho hn cB iQ hx hl hh hk
end
end
section
open Go.RowKit
variable [cj]
section
variable {P:Program} {C:dO->Prop} {T:List TI} {ops:List Oper} {n:Nat} {o:Oper} {nx:Nat} {ρ:Nat->AV} {κ:Nat->ar} {k:lj->Nat->Prop} {gd:Bool}
theorem iE{f:Nat}(hf:fQ P f)(args:Array Value)(w:World):(callFunc f args).run P w=.ok (.enter f args) w:=by
 obtain⟨fn,h1,h2,h3⟩:=hf
 have XT:¬fn.name="runtime.NumGoroutine":=by simpa using h2
 have h3':¬fn.body=none:=by rintro hb;rw[hb]at h3;cases h3
 simp[callFunc,program,Sem.run,h1,XT,h3']
def ub(P:Program)(ops:List Oper)(o:Oper)(ρ:Nat->AV)(κ:Nat->ar)(gd:Bool)(f:Nat)(l:List AV):Prop:=
 (∀c,o.op≠.defer c)/\∀ρ' κ' rd bx,DR ops o ρ ρ' κ κ' rd bx->∀(g:dO) (n:Nat) (a:Act) (w:World) (G:Gh),cu g n ρ' κ' a w G->gd=true->fQ P f->
  ∃vs:List Value,(execOp a.eval o).run P w=.ok (.enter f vs.toArray) w/\cb G l vs
theorem vp{c:Call}{f:Nat}{l:List AV}(ho:o.op=.call c)(hc:c.callee=.value (.func f))(bO:lK ρ κ gd c.args.toList l):ub P ops o ρ κ gd f l:=by
 refine⟨fun c=>by rw[ho];simp,?_⟩
 intro ρ' κ' rd bx ax g n a w G aj aP hf
 have hrel:=lK.rel aj aP bO (fun x hx=>ax.op (by rw[ho];simp only[Op.operands,Call.operands,hc];exact Array.mem_append.2 (.inr (by simpa using hx))))
 have bW:(List.map a.eval c.args.toList).toArray=c.args.map a.eval:=by rw[<-Array.toList_map,Array.toArray_toList]
 refine⟨_,?_,hrel⟩
 rw[bW]
 simp[execOp,ho,resolve,hc,Act.eval,Deferred.ofValue,invoke,iE hf]
theorem cb.append{G:Gh}{l l':List AV}{vs MH:List Value}(h:cb G l vs)(h':cb G l' MH):cb G (l++l') (vs++MH):=by
 refine⟨by simp[h.1,h'.1],fun j d v hd hv=>?_⟩
 rcases abT j l.length with au|gG
 ·rw[List.getElem?_append_left au]at hd
  rw[List.getElem?_append_left (by rw[<-h.1];exact au)]at hv
  exact h.2 j d v hd hv
 ·rw[List.getElem?_append_right gG]at hd
  rw[List.getElem?_append_right (by rw[<-h.1];exact gG),<-h.1]at hv
  exact h'.2 _ d v hd hv
theorem rh{c:Call}{f t:Nat}{l:List AV}{av:AV}(ho:o.op=.call c)(hc:c.callee=.value (.tmp t))(hv:bC ρ κ gd (.tmp t) av)(bO:lK ρ κ gd c.args.toList l){L:List AV}
 (hav:(∃bK,av=.fn f bK/\L=l++bK)\/(∃first,av=.jQ f first/\L=first++l)\/(∃bK,av=.dv (.fn f bK)/\L=l++eB bK)):ub P ops o ρ κ gd f L:=by
 refine⟨fun c=>by rw[ho];simp,?_⟩
 intro ρ' κ' rd bx ax g n a w G aj aP hf
 have hrel:=lK.rel aj aP bO (fun x hx=>ax.op (by rw[ho];simp only[Op.operands,Call.operands,hc];exact Array.mem_append.2 (.inr (by simpa using hx))))
 have qn:=hv ρ' κ' (ax.op (by rw[ho];simp only[Op.operands,Call.operands,hc];exact Array.mem_append.2 (.inl (by simp)))) g n a w G aj aP
 have bW:(List.map a.eval c.args.toList).toArray=c.args.map a.eval:=by rw[<-Array.toList_map,Array.toArray_toList]
 generalize hx:a.eval (.tmp t)=x at qn
 have XU:∀(vs:List Value),x=.func (.func f) #[] vs.toArray->∀bK,cb G bK vs->∃us:List Value,(execOp a.eval o).run P w=.ok (.enter f us.toArray) w/\cb G (l++bK) us:=by
  rintro vs rfl bK jr
  refine⟨c.args.toList.map a.eval++vs,?_,hrel.append jr⟩
  have:(List.map a.eval c.args.toList++vs).toArray=c.args.map a.eval++vs.toArray:=by rw[<-bW];simp
  rw[this]
  simp[execOp,ho,resolve,hc,hx,Deferred.ofValue,invoke,iE hf]
 rcases hav with⟨bK,rfl,rfl⟩|⟨first,rfl,rfl⟩|⟨bK,rfl,rfl⟩
 ·cases qn with|fn _ _ vs hl hr=>exact XU vs rfl bK ⟨hl,hr⟩
 ·cases qn with
  |jQ _ _ vs hl hr=>
   refine⟨vs++c.args.toList.map a.eval,?_,cb.append ⟨hl,hr⟩ hrel⟩
   have:(vs++List.map a.eval c.args.toList).toArray=vs.toArray++c.args.map a.eval:=by rw[<-bW];simp
   rw[this]
   simp[execOp,ho,resolve,hc,hx,Deferred.ofValue,invoke,iE hf]
 ·cases qn with|dv hd=>cases hd with|fn _ _ vs hl hr=>exact XU vs rfl _ (iX ⟨hl,hr⟩)
theorem uc{F:Fence}(hF:iz F){f:Nat}{a:Act}{w:World}{args:Array Value}{K:Act->World->Prop}(hd:∀c,o.op≠.defer c)(aZ:(execOp a.eval o).run P w=.ok (.enter f args) w)
 (hc:Calls P f args w fun e w'=>∃v,e=.returned v/\K (a.put o.dst v) w'):o.wpIn F 0 P a w K (fun _ _ _=>False):=by
 refine⟨fun f _=>hF.fn f,?_⟩
 rw[Oper.semAt_plain F _ _ hd,aZ,Oper.uponIn_enter]
 refine⟨fun h=>(by rw[hF.depth]at h;cases h),hF.calls.2 (hc.mono ?_)⟩
 rintro e w' ⟨v,rfl,hk⟩
 exact hk
def BOk(κ:Nat->ar)(gd:Bool)(v:AV)(d:DV)(ids:List Nat):Prop:=
 gd=true->∀κ' G w x,(∀i,i∈ids->κ' i=κ i)->Fit G w κ'->aH G v x->∀M',Mem.Le G.M M'->(∀i,i∈ids->∀b,cx G i (κ' i) b->M' b=w.heap[b]?)->bz M' d x
def Hg(κ:Nat->ar)(gd:Bool)(l:List AV)(ds:List DV)(ids:List Nat):Prop:=
 gd=true->∀κ' G w xs,(∀i,i∈ids->κ' i=κ i)->Fit G w κ'->cb G l xs->∀M',Mem.Le G.M M'->(∀i,i∈ids->∀b,cx G i (κ' i) b->M' b=w.heap[b]?)->fD M' ds xs
theorem Cm{v:AV}{q:DV->List Nat->Prop}(h:Hh κ gd v q):∃d ids,q d ids/\BOk κ gd v d ids:=by
 unfold Hh at h
 split at h
 ·rename_i d
  refine⟨d,[],h,fun _ κ' G w x _ _ hv M' hle _=>?_⟩
  cases hv with|dv hv=>exact hv.mono hle
 ·rename_i i ver ep p
  split at h
  ·rename_i aY bY d hk
   cases hb:Nat.beq ver aY&&(emp p||Nat.beq ep bY)with
   |false=>rw[hb]at h;exact h.elim
   |true=>
    rw[hb]at h
    simp only[cond_true]at h
    obtain⟨rfl,dG⟩:=dA hb
    obtain⟨nd,h,dh⟩:=bU h
    cases ho:nd.ao with
    |false=>rw[ho]at h;exact h.elim
    |true=>
     rw[ho]at h
     refine⟨oo nd,[i],h,fun aP κ' G w x ax hf hv M' hle hM=>?_⟩
     have he:=ax i (by simp)
     have eE:=hf.box i
     rw[he,hk]at eE
     cases hv with|own _ _ _ _ _ hh hc=>
     rw[cR dG]at hh
     exact eE.1.frozen hle (fun b hb=>hM i (by simp) b (by rw[he,hk];exact hb)) (SizeOf.sizeOf nd+1) p nd x (by omega) (dh aP) ho hh
  ·exact h.elim
 ·refine⟨_,[],h,fun _ κ' G w x _ _ hv M' hle _=>?_⟩
  cases hv with|fn _ _ vs hl hr=>
  have:vs=[]:=by simpa using hl.symm
  subst this
  exact .fn _ [] [] rfl (by simp)
 ·exact⟨_,[],h.2,fun aP=>by rw[h.1]at aP;cases aP⟩
theorem Hg.cons{v:AV}{l:List AV}{d:DV}{ds:List DV}{i j:List Nat}(h:BOk κ gd v d i)(h':Hg κ gd l ds j):Hg κ gd (v::l) (d::ds) (i++j):=by
 intro aP κ' G w xs ax hf hr M' hle hM
 match xs,hr with
 |[],hr=>have:=hr.1;simp at this
 |x::xs,hr=>
  refine .cons (h aP κ' G w x (fun q hq=>ax q (by simp[hq])) hf (hr.2 0 v x rfl rfl) M' hle fun q hq=>hM q (by simp[hq])) ?_
  exact h' aP κ' G w xs (fun q hq=>ax q (by simp[hq])) hf ⟨by simpa using hr.1,fun q e y he hy=>hr.2 (q+1) e y (by simpa using he) (by simpa using hy)⟩ M' hle fun q hq=>hM q (by simp[hq])
theorem Hg.nil:Hg κ gd [] [] []:=by
 intro aP κ' G w xs ax hf hr M' hle hM
 have:xs=[]:=by have:=hr.1;simpa using this.symm
 subst this;exact .nil _
theorem vq{v:AV}{q:DV->List Nat->Prop}(h:Nr κ gd v q):∃d ids,q d ids/\BOk κ gd v d ids:=by
 obtain⟨d,ids,h1,h2⟩:=Cm (v:=dn v) h
 exact⟨d,ids,h1,fun aP κ' G w x ax hf hv M' hle hM=>h2 aP κ' G w x ax hf (AB hv) M' hle hM⟩
theorem sq:∀{l:List AV} {q:List DV->List Nat->Prop},Hj κ gd l q->∃ds ids,q ds ids/\Hg κ gd l ds ids
 |[],q,h=>⟨[],[],h,.nil⟩
 |v::l,q,h=>by
  obtain⟨d,i,h,h1⟩:=vq h
  obtain⟨ds,j,h,h2⟩:=sq h
  exact⟨_,_,h,.cons h1 h2⟩
theorem Hk{v:AV}{q:DV->List Nat->Prop}(h:UH κ gd v q):∃d ids,q d ids/\BOk κ gd v d ids:=by
 unfold UH at h
 split at h
 ·rename_i l
  cases hc:b9 l with
  |false=>rw[hc]at h;exact h.elim
  |true=>
   rw[hc]at h
   obtain⟨ds,ids,h,h1⟩:=sq h
   refine⟨_,_,h,fun aP κ' G w x ax hf hv M' hle hM=>?_⟩
   cases hv with|agg _ vs hl hr=>
   have h2:=h1 aP κ' G w vs ax hf ⟨hl,hr⟩ M' hle hM
   exact .agg ds vs h2.1 (qU (G':={ G with M:=M' }) h2 (cb.cQ ⟨hl,hr⟩ hc)) h2.2
 ·exact vq h
theorem vt:∀{l:List AV} {q:List DV->List Nat->Prop},Ew κ gd l q->∃ds ids,q ds ids/\Hg κ gd l ds ids
 |[],q,h=>⟨[],[],h,.nil⟩
 |v::l,q,h=>by
  obtain⟨d,i,h,h1⟩:=Hk h
  obtain⟨ds,j,h,h2⟩:=vt h
  exact⟨_,_,h,.cons h1 h2⟩
theorem Ex{av:AV}{rd:List Nat}(hg:b5 ρ ops o.guard=some gd)(hk:aT n o gd nx k av rd)
 (h:∀ρ' κ',DR ops o ρ ρ' κ κ' rd []->∀(F:Fence),iz F->∀(g:dO) (a:Act) (w:World) (G:Gh),cu g n ρ' κ' a w G->gd=true->∀(K:Act->World->Prop),
  (∀v w' G',cu g n ρ' κ' a w' G'->aH G' av v->K (a.put o.dst v) w')->o.wpIn F 0 P a w K (fun _ _ _=>False)):Good P C ops n o nx ρ κ k:=by
 unfold aT at hk
 split at hk
 ·rename_i kj hn
  refine⟨_,_,hk,ab3 _,by simp,fun F hF ρ' κ' ax g a w dz ⟨G,aj⟩=>?_⟩
  have rX:gd=true:=by rw[hn]at hg;injection hg with hg;exact hg.symm
  unfold lZ
  rw[cy hg ax.bR aj,rX,if_pos rfl]
  exact h ρ' κ' ax F hF g a w G aj rX _ fun v w' G' h1 h2=>⟨G',by rw[kj];exact h1⟩
 ·exact hk.elim
 ·rename_i d kj hn
  cases au:Nat.blt d n with
  |false=>rw[au]at hk;exact hk.elim
  |true=>
   rw[au]at hk
   have iF:d<n:=by rw[Nat.blt_eq]at au;exact au
   refine⟨_,_,hk,ab3 _,by simp,fun F hF ρ' κ' ax g a w dz ⟨G,aj⟩=>?_⟩
   have rX:gd=true:=by rw[hn]at hg;injection hg with hg;exact hg.symm
   unfold lZ
   rw[cy hg ax.bR aj,rX,if_pos rfl]
   exact h ρ' κ' ax F hF g a w G aj rX _ fun v w' G' h1 h2=>⟨G',by rw[kj];exact h1.put iF h2⟩
 ·rename_i d j kj hn
  cases au:Nat.blt d n with
  |false=>rw[au]at hk;exact hk.elim
  |true=>
   rw[au]at hk
   have iF:d<n:=by rw[Nat.blt_eq]at au;exact au
   refine⟨_,_,hk,ab3 _,by simp,fun F hF ρ' κ' ax g a w dz ⟨G,aj⟩=>?_⟩
   unfold lZ
   rw[cy hg ax.bR aj]
   cases gd with
   |true=>
    rw[if_pos rfl]
    exact h ρ' κ' ax F hF g a w G aj rfl _ fun v w' G' h1 h2=>⟨G',by rw[kj];exact h1.put iF (.opt true av v (fun _=>h2) (by simp))⟩
   |false=>
    simp only[Bool.false_eq_true,if_false,kj]
    exact⟨G,aj.put iF (.opt false av undef (by simp) (fun _=>rfl))⟩
theorem nC.Ey{f:Nat}{ds rs:List DV}(h:nC P f ds rs):fQ P f:=by obtain⟨_,_,h,_⟩:=h;exact h
open Classical in
noncomputable def nD (G:Gh) (w:World) (κ:Nat->ar) (ids:List Nat):Mem:=fun b=>if ∃i,i∈ids/\cx G i (κ i) b then w.heap[b]? else G.M b
theorem Hl{G:Gh}{w:World}{κ:Nat->ar}{ids:List Nat}(hf:Fit G w κ):(nD G w κ ids).In w:=by
 intro b x hb
 unfold nD at hb
 split at hb
 ·exact hb
 ·exact hf.sub b x hb
theorem xM{G:Gh}{w:World}{κ:Nat->ar}{ids:List Nat}(hf:Fit G w κ):Mem.Le G.M (nD G w κ ids):=by
 intro b x hb
 unfold nD
 split
 ·rename_i h;obtain⟨i,_,ho⟩:=h;rw[hf.own i b ho]at hb;cases hb
 ·exact hb
theorem Ez{G:Gh}{w:World}{κ:Nat->ar}{ids:List Nat}{i b:Nat}(hi:i∈ids)(ho:cx G i (κ i) b):nD G w κ ids b=w.heap[b]?:=by
 unfold nD
 rw[if_pos ⟨i,hi,ho⟩]
theorem Ns{f:Nat}{l:List AV}(hn:∀i,nx<=i->κ i=.none)(hg:b5 ρ ops o.guard=some gd)(bO:ub P ops o ρ κ gd f l)(h:xN P n o nx κ gd k f l):Good P C ops n o nx ρ κ k:=by
 have XW:(Ew κ gd l fun ds ids=>∃rs,(gd=true->nC P f ds rs)/\xz rs=true/\aT n o gd nx k (xy rs) ids)->Good P C ops n o nx ρ κ k:=by
  intro h
  obtain⟨ds,ids,⟨rs,hc,oe,hk⟩,hb⟩:=vt h
  refine Ex hg hk fun ρ' κ' ax F hF g a w G aj aP K hK=>?_
  obtain⟨es,hle,hcb,l6⟩:=hc aP
  obtain⟨vs,aZ,hrel⟩:=bO.2 ρ' κ' _ _ ax g n a w G aj aP hcb
  have hd:=hle.Q6 (hb aP κ' G w vs ax.reads aj.fit hrel (nD G w κ' ids) (xM aj.fit) (fun i hi b ho=>Ez hi ho))
  refine uc hF bO.1 aZ ((l6 w _ vs (Hl aj.fit) ((aj.oT.mono aj.mem).mono (xM aj.fit)) hd).mono ?_)
  rintro e w' ⟨v,M',rfl,Rp,XX,dP,zZ,iZ⟩
  refine⟨v,rfl,?_⟩
  have hM:∀b,(if b<w.heap.size then G.M b else M' b)=(fun b=>if b<w.heap.size then G.M b else M' b) b:=fun _=>rfl
  obtain⟨h1,h2⟩:=aj.grown (w':=w') (M':=fun b=>if b<w.heap.size then G.M b else M' b) Rp
   (fun b x hx=>by
    have au:b<w.heap.size:=(abN.1 (aj.fit.sub b x hx)).1
    simp only[if_pos au];exact hx)
   (fun b x hx=>by
    by_cases au:b<w.heap.size
    ·simp only[if_pos au]at hx;rw[Rp.block b au];exact aj.fit.sub b x hx
    ·simp only[if_neg au]at hx;exact dP b x hx)
   (fun b hb=>by simp only[if_pos hb])
  exact hK v w' _ h1 (Ji (M8 oe iZ))
 have Jp:∀{ds:List DV} {rs:List DV} {ids:List Nat} {κ':Nat->ar} {g:dO} {a:Act} {w:World} {G:Gh} {F:Fence} {ρ':Nat->AV} {vs:List Value} {K:Act->World->Prop},iz F->nC P f ds rs->cu g n ρ' κ' a w G->fD G.M ds vs->(execOp a.eval o).run P w=.ok (.enter f vs.toArray) w->
  (∀v w' G',cu g n ρ' κ' a w' G'->aH G' (xy rs) v->K (a.put o.dst v) w')->o.wpIn F 0 P a w K (fun _ _ _=>False):=by
  intro ds rs ids κ' g a w G F ρ' vs K hF hc aj hd aZ hK
  obtain⟨es,hle,hcb,l6⟩:=hc
  refine uc hF bO.1 aZ ((l6 w _ vs aj.fit.sub (aj.oT.mono aj.mem) (hle.Q6 hd)).mono ?_)
  rintro e w' ⟨v,M',rfl,Rp,XX,dP,zZ,iZ⟩
  refine⟨v,rfl,?_⟩
  obtain⟨h1,h2⟩:=aj.grown Rp XX dP zZ
  exact hK v w' _ h1 (Ji iZ)
 unfold xN at h
 split at h
 ·rename_i ds zM
  obtain⟨rs,hc,hk⟩:=h
  refine Ex hg hk fun ρ' κ' ax F hF g a w G aj aP K hK=>?_
  obtain⟨vs,aZ,hrel⟩:=bO.2 ρ' κ' _ _ ax g n a w G aj aP (hc aP).Ey
  exact Jp (ids:=[]) hF (hc aP) aj (j9 (κ:=κ) (κ':=κ') (w:=w) (all:=[]) (by simp) (Gh.Le.refl G) (by simpa[kl,ay]using aj.fit) zM (by simp) hrel) aZ hK
 ·rename_i ds ids ck zM
  rcases h with h|⟨rs,hc,hk⟩
  ·exact XW h
  ·refine Jq bO.1 hg hk (ab3 _) (fun p hp=>tW hn hp) fun ρ' κ' ax F hF g a w G dz aj aP K hK=>?_
   obtain⟨vs,aZ,hrel⟩:=bO.2 ρ' κ' _ _ ax g n a w G aj aP (hc aP).Ey
   obtain⟨G1,f1,f2,f3,f4,f5⟩:=aj.pW (κ:=κ) ids ax.reads
   exact Jp (ids:=[]) hF (hc aP) f5 (j9 ax.reads f1 f5.fit zM (fun i hi=>hi) hrel) aZ hK
 ·exact XW h
end
end
end Go.TM
