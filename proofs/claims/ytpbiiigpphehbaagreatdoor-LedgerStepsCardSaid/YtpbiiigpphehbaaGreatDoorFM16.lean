import Derived.Test.YtpbiiigpphehbaaGreatDoorFM15
import Derived.Orders
set_option linter.all false
namespace Go.TM
section
open Go.RowKit
variable [cj]
section
variable {P:Program} {C:dO->Prop} {T:List TI} {ops:List Oper} {n:Nat} {o:Oper} {nx:Nat} {ρ:Nat->AV} {κ:Nat->ar} {k:lj->Nat->Prop} {gd:Bool}
theorem oU{x:Operand}{v:AV}(h:ev ρ κ x=v):bC ρ κ gd x v:=by
 intro ρ' κ' ax g n a w G aj _
 rw[<-h]
 exact AO ρ' κ' ax g n a w G aj
theorem uf{x:Operand}{v:AV}{g':Bool}(h:ev ρ κ x=.opt g' v)(hg:gd=true->g'=true)(hr:res κ v=v):bC ρ κ gd x v:=by
 have:=EA h hg
 rwa[hr]at this
theorem Nt{c x y:Operand}(hg:b5 ρ ops o.guard=some gd)(ho:o.op=.pick c x y)
 (h:match ev ρ κ c,ev ρ κ x,ev ρ κ y with
  |.dv (.bool b),.dv (.bool p),.dv (.bool q)=>aT n o gd nx k (.dv (.bool (bif b then p else q))) []
  |.dv (.bool b),.opt gp (.dv (.bool p)),.dv (.bool q)=>(gd=true->b=true->gp=true)/\aT n o gd nx k (.dv (.bool (bif b then p else q))) []
  |.dv (.bool b),.dv (.bool p),.opt gq (.dv (.bool q))=>(gd=true->b=false->gq=true)/\aT n o gd nx k (.dv (.bool (bif b then p else q))) []
  |.opt gb (.dv (.bool b)),.opt gp (.dv (.bool p)),.dv (.bool q)=>(gd=true->gb=true/\(b=true->gp=true))/\aT n o gd nx k (.dv (.bool (bif b then p else q))) []
  |.opt gb (.dv (.bool b)),.dv (.bool p),.opt gq (.dv (.bool q))=>(gd=true->gb=true/\(b=false->gq=true))/\aT n o gd nx k (.dv (.bool (bif b then p else q))) []
  |_,_,_=>False):Good P C ops n o nx ρ κ k:=by
 split at h
 ·rename_i b p q h1 h2 h3
  exact nE hg ho h (oU h1) (oU h2) (oU h3)
 ·rename_i b gp p q h1 h2 h3
  exact nE hg ho h.2 (oU h1) (uf h2 (by simp only[aca];exact fun hh=>h.1 hh.1 hh.2) rfl) (oU h3)
 ·rename_i b p gq q h1 h2 h3
  exact nE hg ho h.2 (oU h1) (oU h2) (uf h3 (by simp only[aca,acd];exact fun hh=>h.1 hh.1 hh.2) rfl)
 ·rename_i gb b gp p q h1 h2 h3
  exact nE hg ho h.2 (uf h1 (fun hh=>(h.1 hh).1) rfl) (uf h2 (by simp only[aca];exact fun hh=>(h.1 hh.1).2 hh.2) rfl) (oU h3)
 ·rename_i gb b p gq q h1 h2 h3
  exact nE hg ho h.2 (uf h1 (fun hh=>(h.1 hh).1) rfl) (oU h2) (uf h3 (by simp only[aca,acd];exact fun hh=>(h.1 hh.1).2 hh.2) rfl)
 ·exact h.elim
theorem Rq(hT:eV P T){c:Call}{x:Operand}{t:Nat}{v:AV}(hg:b5 ρ ops o.guard=some gd)(ho:o.op=.call c)(hc:c.callee=.builtin .len)(ha:c.args.toList=[x])(jN:c.argTypes.toList=[t])
 (bO:bC ρ κ gd x v) (h:Cn (nth T t) κ gd v fun r rd=>aT n o gd nx k r rd):Good P C ops n o nx ρ κ k:=by
 unfold Cn at h
 split at h
 ·have hh:=aK h;clear h;obtain⟨hb,h⟩:=hh
  simp only[aca]at hb
  refine ri hT hg ho hc ha jN h bO hb.1 fun _ κ' _ G w v _ hv=>.inl ⟨hb.2,?_⟩
  cases hv with|dv hv=>cases hv with
  |slnil=>exact⟨_,_,_,rfl,rfl⟩
  |sl=>exact⟨_,_,_,rfl,rfl⟩
 ·have hh:=aK h;clear h;obtain⟨hb,h⟩:=hh
  simp only[aca]at hb
  refine ri hT hg ho hc ha jN h bO hb.1 fun _ κ' _ G w v _ hv=>.inl ⟨hb.2,?_⟩
  cases hv with|dv hv=>cases hv with
  |az=>exact⟨_,_,_,rfl,rfl⟩
 ·have hh:=aK h;clear h;obtain⟨hb,h⟩:=hh
  simp only[aca]at hb
  refine ri hT hg ho hc ha jN h bO hb.1 fun _ κ' _ G w v _ hv=>.inr (.inl ⟨hb.2,?_⟩)
  cases hv with|dv hv=>cases hv with
  |str=>exact⟨_,rfl,rfl⟩
 ·rename_i i ver ep p
  split at h
  ·rename_i aY bY d hk
   have hh:=aK h;clear h;obtain⟨hb,h⟩:=hh
   obtain⟨rfl,dG⟩:=dA hb
   obtain⟨nd,h,dh⟩:=bU h
   split at h
   ·rename_i sz l
    have hh:=aK h;clear h;obtain⟨hb,h⟩:=hh
    simp only[aca]at hb
    refine ri hT hg ho hc ha jN h bO hb.1 fun aP κ' ax G w v hf hv=>.inl ⟨hb.2,?_⟩
    obtain⟨u,h1,_,bn⟩:=hf.node ((ax i (by simp)).trans hk) (dh aP) rfl
    cases hv with|own _ _ _ _ _ hh hc=>
    rw[cR dG,h1]at hh
    injection hh with hh
    subst hh
    rcases bn with⟨rfl,rfl⟩|⟨gb,ob,cap,cc,tt,rfl,_⟩
    ·exact⟨_,_,_,rfl,rfl⟩
    ·exact⟨_,_,_,rfl,rfl⟩
   ·rename_i ks m
    have hh:=aK h;clear h;obtain⟨hb,h⟩:=hh
    simp only[aca]at hb
    refine ri hT hg ho hc ha jN h bO hb.1 fun aP κ' ax G w v hf hv=>.inr (.inr ⟨hb.2,?_⟩)
    obtain⟨u,h1,_,bn⟩:=hf.node ((ax i (by simp)).trans hk) (dh aP) rfl
    cases hv with|own _ _ _ _ _ hh hc=>
    rw[cR dG,h1]at hh
    injection hh with hh
    subst hh
    obtain⟨m0,si,gb,es,clock,rfl,hw,aW,_⟩:=bn
    exact⟨gb,es,clock,rfl,hw,by rw[aW,si.length_eq]⟩
   ·exact h.elim
  ·exact h.elim
 ·have hh:=aK h;clear h;obtain⟨hb,h⟩:=hh
  simp only[aca]at hb
  refine ri hT hg ho hc ha jN h bO hb.1 fun _ κ' _ G w v _ hv=>.inl ⟨hb.2,?_⟩
  cases hv
  exact⟨_,_,_,rfl,rfl⟩
 ·have hh:=aK h;clear h;obtain⟨hb,h⟩:=hh
  simp only[aca]at hb
  refine ri hT hg ho hc ha jN h bO hb.1 fun _ κ' _ G w v _ hv=>.inl ⟨hb.2,?_⟩
  cases hv
  exact⟨_,_,_,rfl,rfl⟩
 ·exact h.elim
theorem wo{x:Operand}{i ver ep bY:Nat}{p:List PS}{d y:DV}(hg:b5 ρ ops o.guard=some gd)(ho:o.op=.nilCheck x)(hk:κ i=.tree ver bY d)(dG:p=[]\/ep=bY)(dh:gd=true->get d p=some (.gm y))
 (hr:aT n o gd nx k (.loc i ver ep p 1 0 0) [i]) (bO:bC ρ κ gd x (.own i ver ep p)):Good P C ops n o nx ρ κ k:=by
 refine bq (fun c=>by rw[ho];simp) hg hr fun ρ' κ' ax g a w G aj aP=>?_
 have hv:=bO ρ' κ' (ax.op (by rw[ho];simp[Op.operands])) g n a w G aj aP
 generalize hx:a.eval x=v at hv
 obtain⟨u,h1,_,bn⟩:=aj.fit.node ((ax.reads i (by simp)).trans hk) (dh aP) rfl
 cases hv with|own _ _ _ _ _ hh hc=>
 have WV:=hh
 rw[cR dG,h1]at hh
 injection hh with hh
 subst hh
 obtain⟨gb,c,t,rfl,hw,_⟩:=bn
 refine⟨.pointer (some ⟨gb,0,none⟩),by simp[execOp,ho,hx],?_⟩
 have:=aH.qm (G:=G) i ver ep p 1 0 0 _ WV
 rw[eL]at this
 exact this
theorem Aa(hT:eV P T){t f:Nat}{x:Operand}{v:AV}(hg:b5 ρ ops o.guard=some gd)(ho:o.op=.fieldAddr t x f)
 (h:match(nth T t).ok,(nth T t).fields[f]? with
  |true,some (off,sz+1)=>match v with
   |.ptr i o'=>aT n o gd nx k (.ptr i (o'+off)) []
   |.dv (.at x o')=>aT n o gd nx k (.dv (.at x (o'+off))) []
   |.loc i ver ep p qP idx o'=>aT n o gd nx k (.loc i ver ep p qP idx (o'+off)) []
   |_=>False
  |_,_=>False) (bO:bC ρ κ gd x v):Good P C ops n o nx ρ κ k:=by
 split at h
 ·rename_i off sz cB hf
  split at h
  ·refine nF hT hg ho cB hf h bO (fun G v hv=>?_)
   cases hv with
   |ptr _ _ b hb=>
    refine⟨_,rfl,?_⟩
    rw[eL]
    exact .ptr _ _ b hb
  ·refine nF hT hg ho cB hf h bO (fun G v hv=>?_)
   cases hv with|dv hv=>cases hv with
   |_=>
    rename_i A cell mX hc hr
    refine⟨_,rfl,?_⟩
    rw[cG]
    exact .dv (.at _ _ A cell mX hc hr)
  ·refine nF hT hg ho cB hf h bO (fun G v hv=>?_)
   cases hv with
   |loc _ _ _ _ _ _ _ A m c he=>
    refine⟨_,rfl,?_⟩
    rw[cG,Nat.add_assoc]
    exact .loc _ _ _ _ _ _ _ A m c he
   |qm _ _ _ _ _ _ _ A he=>
    refine⟨_,rfl,?_⟩
    rw[cG,Nat.add_assoc]
    exact .qm _ _ _ _ _ _ _ A he
  ·exact h.elim
 ·exact h.elim
theorem K5(hT:eV P T){t f:Nat}{x:Operand}{v:AV}(hg:b5 ρ ops o.guard=some gd)(ho:o.op=.field t x f)
 (h:match(nth T t).ok,(nth T t).fields[f]?,(nth T t).B8[f]? with
  |true,some (off,sz+1),some ft=>match v with
   |.agg l=>bif (nth T ft).ok&&Nat.beq (nth T ft).size (sz+1)then cn (nth T ft).agg l off (sz+1) fun v=>aT n o gd nx k v []else False
   |_=>False
  |_,_,_=>False) (bO:bC ρ κ gd x v):Good P C ops n o nx ρ κ k:=by
 split at h
 ·rename_i off sz ft cB hf Xw
  split at h
  ·have hh:=aK h;clear h;obtain⟨hb,h⟩:=hh
   simp only[aca]at hb
   exact M9 hT hg ho cB hf Xw hb.1 (abD hb.2) h bO
  ·exact h.elim
 ·exact h.elim
theorem K6(hT:eV P T){t:Nat}{x i:Operand}{v iv:AV}(hg:b5 ρ ops o.guard=some gd)(ho:o.op=.indexAddr t x i)
 (h:bif (nth T t).ok&&(nth T t).isSl&&(nth T (nth T t).elem).ok then
  match v,iv with
  |.dv (.sl sz l),.dv (.int _ m)=>bif Nat.beq sz (nth T (nth T t).elem).size then ∃x,(gd=true->0<=m/\l[m.toNat]?=some x)/\aT n o gd nx k (.dv (.at x 0)) []else False
  |.own j ver ep p,.dv (.int _ m)=>match κ j with
   |.tree aY bY d=>bif Nat.beq ver aY&&(emp p||Nat.beq ep bY)then jw gd d p fun nd=>match nd with
    |.aB sz l=>bif Nat.beq sz (nth T (nth T t).elem).size then(gd=true->0<=m/\m<l.length)/\aT n o gd nx k (.loc j ver ep p sz m.toNat 0) [j]else False
    |_=>False
    else False
   |_=>False
  |.sle j len,.dv (.int _ m)=>(gd=true->0<=m/\m<len)/\aT n o gd nx k (.ptr j (m.toNat*(nth T (nth T t).elem).size)) []
  |.pre j ver ep p sz lo len,.dv (.int _ m)=>bif Nat.beq sz (nth T (nth T t).elem).size then(gd=true->0<=m/\m<len)/\aT n o gd nx k (.loc j ver ep p sz (lo+m.toNat) 0) []else False
  |_,_=>False
  else False) (bO:bC ρ κ gd x v) (oV:bC ρ κ gd i iv):Good P C ops n o nx ρ κ k:=by
 have hh:=aK h;clear h;obtain⟨hb,h⟩:=hh
 simp only[aca]at hb
 split at h
 ·have hh:=aK h;clear h;obtain⟨cd,x,hy,h⟩:=hh
  exact EB hT hg ho hb.1.1 hb.1.2 hb.2 (abD cd) hy h bO oV
 ·split at h
  ·rename_i hk
   have hh:=aK h;clear h;obtain⟨cd,h⟩:=hh
   obtain⟨rfl,dG⟩:=dA cd
   obtain⟨nd,h,dh⟩:=bU h
   split at h
   ·have hh:=aK h;clear h;obtain⟨wO,hy,h⟩:=hh
    exact Co hT hg ho hb.1.1 hb.1.2 hb.2 (abD wO) hk dG dh hy h bO oV
   ·exact h.elim
  ·exact h.elim
 ·exact Cp hT hg ho hb.1.1 hb.1.2 hb.2 h.1 h.2 bO oV
 ·have hh:=aK h;clear h;obtain⟨cd,hy,h⟩:=hh
  exact Cq hT hg ho hb.1.1 hb.1.2 hb.2 (abD cd) hy h bO oV
 ·exact h.elim
theorem Hm(hT:eV P T){t:Nat}{x i:Operand}{v iv:AV}(hg:b5 ρ ops o.guard=some gd)(ho:o.op=.indexAddr t x i)
 (h:Cr (nth T t) (nth T (nth T t).elem) gd v iv fun v=>aT n o gd nx k v []) (bO:bC ρ κ gd x v) (oV:bC ρ κ gd i iv):Good P C ops n o nx ρ κ k:=by
 have hh:=aK h;clear h;obtain⟨hb,h⟩:=hh
 simp only[aca]at hb
 have Em:=abD hb.1.2
 split at h
 ·rename_i kd m
  obtain⟨hm,h⟩:=h
  split at h
  ·rename_i y off
   refine nG hT hg ho hb.1.1 Em hb.2 hm h bO oV fun G v hv=>?_
   cases hv with|dv hv=>cases hv with|«at» _ _ A cell mX hc hr=>
   exact⟨_,rfl,.dv (by rw[cG];exact .at y _ A cell mX hc hr)⟩
  ·rename_i j off
   refine nG hT hg ho hb.1.1 Em hb.2 hm h bO oV fun G v hv=>?_
   cases hv with|ptr _ _ b hb=>
   exact⟨_,rfl,by rw[show(⟨b,off,none⟩:Addr).add (m.toNat*(nth T (nth T t).elem).size)=⟨b,off+m.toNat*(nth T (nth T t).elem).size,none⟩by unfold Addr.add;split<;>simp[*]];exact .ptr j _ b hb⟩
  ·rename_i j ver ep p sz idx off
   refine nG hT hg ho hb.1.1 Em hb.2 hm h bO oV fun G v hv=>?_
   cases hv with
   |loc _ _ _ _ _ _ _ A n c e=>exact⟨_,rfl,by rw[cG,Nat.add_assoc];exact .loc j ver ep p sz idx _ A n c e⟩
   |qm _ _ _ _ _ _ _ A e=>exact⟨_,rfl,by rw[cG,Nat.add_assoc];exact .qm j ver ep p sz idx _ A e⟩
  ·exact h.elim
 ·exact h.elim
theorem Nu(hT:eV P T){t:Nat}{x:Operand}{v:AV}(hg:b5 ρ ops o.guard=some gd)(ho:o.op=.load t x)(cB:(nth T t).ok=true)
 (h:match v with
  |.ptr i off=>match κ i with
   |.cells l=>cn (nth T t).agg l off (nth T t).size fun v=>aT n o gd nx k v [i]
   |_=>False
  |.dv (.at x off)=>cn (nth T t).agg (eB x.cells) off (nth T t).size fun v=>aT n o gd nx k v []
  |.loc i ver ep p sz idx off=>match κ i with
   |.tree aY bY d=>bif Nat.beq ver aY&&(emp p||Nat.beq ep bY)then jw gd d p fun nd=>ko i ver bY p gd sz idx nd fun l=>
    cn (nth T t).agg l off (nth T t).size fun v=>aT n o gd nx k v [i]
    else False
   |_=>False
  |_=>False) (bO:bC ρ κ gd x v):Good P C ops n o nx ρ κ k:=by
 split at h
 ·split at h
  ·rename_i hk
   exact EC hT hg ho cB hk h bO
  ·exact h.elim
 ·exact Hn hT hg ho cB h bO
 ·split at h
  ·rename_i hk
   have hh:=aK h;clear h;obtain⟨cd,h⟩:=hh
   obtain⟨rfl,dG⟩:=dA cd
   exact ED hT hg ho cB hk dG h bO
  ·exact h.elim
 ·exact h.elim
theorem K7(hT:eV P T){t:Nat}{x y:Operand}{p v:AV}(hn:∀i,nx<=i->κ i=.none)(hg:b5 ρ ops o.guard=some gd)(ho:o.op=.store t x y)(cB:(nth T t).ok=true)
 (h:bif Nat.beq (cellsOf v).length (nth T t).size&&b9 (cellsOf v)then
  match p with
  |.ptr i off=>match κ i with
   |.cells l=>bif Nat.ble (off+(nth T t).size) l.length then dR n o nx k .any [(i,.cells (iB l off (cellsOf v)))] [i]else False
   |_=>False
  |.loc i ver ep p sz idx off=>pV n o nx κ k i ver ep p sz idx off (cellsOf v)
  |_=>False
  else False) (bO:bC ρ κ gd x p) (Jg:bC ρ κ gd y v):Good P C ops n o nx ρ κ k:=by
 have hh:=aK h;clear h;obtain⟨hb,h⟩:=hh
 simp only[aca]at hb
 have jP:=abD hb.1
 split at h
 ·rename_i i off
  split at h
  ·rename_i l hk
   have hh:=aK h;clear h;obtain⟨cd,h⟩:=hh
   have au:i<nx:=by
    rcases abT i nx with h|h
    ·exact h
    ·rw[hn i h]at hk;cases hk
   exact BY hT hg ho cB hk jP hb.2 (Nat.le_of_ble_eq_true cd) h au bO Jg
  ·exact h.elim
 ·exact B5 hT hg ho hn cB jP hb.2 h bO Jg
 ·exact h.elim
structure Jr(P:Program)(C:dO->Prop)(ops:List Oper)(n:Nat)(o:Oper)(nx:Nat)(ρ:Nat->AV)(κ:Nat->ar)(k:lj->Nat->Prop):Prop where
 call:∀{gd:Bool} {f:Nat} {l:List AV},b5 ρ ops o.guard=some gd->ub P ops o ρ κ gd f l->jR none (bV P f) n o gd nx κ k l->Good P C ops n o nx ρ κ k
 eP:∀{gd:Bool} {c:Call} {t i:Nat} {l:List AV},b5 ρ ops o.guard=some gd->o.op=.call c->c.callee=.value (.tmp t)->bC ρ κ gd (.tmp t) (.eP i)->lK ρ κ gd c.args.toList l->
  jR (some i) (eh P) n o gd nx κ k l->Good P C ops n o nx ρ κ k
theorem ug(hT:eV P T)(hn:∀i,nx<=i->κ i=.none)(hR:Jr P C ops n o nx ρ κ k)(h:p5 P T ops n o nx ρ κ k):Good P C ops n o nx ρ κ k:=by
 have jx:∀{gd:Bool} {f:Nat} {l:List AV},b5 ρ ops o.guard=some gd->ub P ops o ρ κ gd f l->(xN P n o nx κ gd k f l\/jR none (bV P f) n o gd nx κ k l)->Good P C ops n o nx ρ κ k:=by
  intro gd f l hg bO h
  rcases h with h|h
  ·exact Ns hn hg bO h
  ·exact hR.call hg bO h
 unfold p5 at h
 split at h
 ·exact h.elim
 ·rename_i gd hg
  split at h
  ·rename_i x ho
   exact Rr hg ho h
  ·rename_i x ho
   obtain⟨v,h,bO⟩:=aI h
   exact K8 hg ho h bO
  ·rename_i x ho
   obtain⟨v,h,bO⟩:=aI h
   split at h
   ·exact oW hg ho h bO (fun G v hv=>by cases hv;exact⟨_,rfl⟩)
   ·exact oW hg ho h bO (fun G v hv=>by cases hv<;>exact⟨_,rfl⟩)
   ·exact oW hg ho h bO (fun G v hv=>by cases hv with|dv hv=>cases hv;exact⟨_,rfl⟩)
   ·split at h
    ·rename_i hk
     have hh:=aK h;clear h;obtain⟨hb,h⟩:=hh
     obtain⟨rfl,dG⟩:=dA hb
     obtain⟨nd,h,dh⟩:=bU h
     split at h
     ·exact wo hg ho hk dG dh h bO
     ·exact h.elim
    ·exact h.elim
   ·exact h.elim
  ·rename_i c x y ho
   exact Nt hg ho h
  ·rename_i op t x y ty ho
   obtain⟨va,h,UI⟩:=aI h
   obtain⟨vb,h,UJ⟩:=aI h
   cases hb:vb.jS with
   |false=>
    rw[hb]at h
    cases ha:va.ag with
    |false=>rw[ha]at h;exact Nv hT hg ho UI UJ h
    |true=>rw[ha]at h;exact UL hT hg ho UI UJ h
   |true=>
    rw[hb]at h
    have hb:vb=.dv .az:=by
     cases vb with
     |dv d=>cases d<;>simp[AV.jS]at hb;rfl
     |_=>simp[AV.jS]at hb
    subst hb
    exact Ho hT hg ho UI UJ h
  ·rename_i op t x ho
   obtain⟨v,h,bO⟩:=aI h
   split at h
   ·exact UM hg ho h bO
   ·exact UN hg ho h bO
   ·exact h.elim
  ·rename_i x i ho
   obtain⟨v,h,bO⟩:=aI h
   split at h
   ·split at h
    ·rename_i hl
     rw[force_eq]at h
     exact Hp hg ho h hl bO
    ·exact h.elim
   ·exact h.elim
  ·rename_i t x f ho
   obtain⟨v,h,bO⟩:=aI h
   exact K5 hT hg ho h bO
  ·rename_i t x f ho
   obtain⟨v,h,bO⟩:=aI h
   exact Aa hT hg ho h bO
  ·rename_i t x i ho
   obtain⟨v,h,bO⟩:=aI h
   obtain⟨iv,h,oV⟩:=aI h
   cases hb:(nth T t).ok&&(nth T t).isSl&&(nth T (nth T t).elem).ok with
   |true=>rw[hb]at h;exact K6 hT hg ho (by rw[hb];exact h) bO.dn oV
   |false=>rw[hb]at h;exact Hm hT hg ho h bO oV
  ·rename_i t x ho
   have hh:=aK h;clear h;obtain⟨cB,h⟩:=hh
   obtain⟨v,h,bO⟩:=aI h
   exact Nu hT hg ho cB h bO
  ·rename_i t x y ho
   have hh:=aK h;clear h;obtain⟨cB,h⟩:=hh
   obtain⟨p,h,bO⟩:=aI h
   obtain⟨v,h,Jg⟩:=aI h
   exact K7 hT hn hg ho cB h bO Jg
  ·rename_i fn first bK ho
   obtain⟨l,h,h1⟩:=km h
   obtain⟨r,h,h2⟩:=km h
   split at h
   ·exact vk hg ho h1 h2 (.inl ⟨rfl,rfl⟩) h
   ·exact vk hg ho h1 h2 (.inr ⟨rfl,rfl⟩) h
   ·exact h.elim
  ·rename_i t ho
   have hh:=aK h;clear h;obtain⟨cB,s,h⟩:=hh
   exact G6 hg ho (hn nx (ab3 _)) h
  ·rename_i t x ho
   have hh:=aK h;clear h;obtain⟨cB,h⟩:=hh
   simp only[aca]at cB
   obtain⟨v,h,bO⟩:=aI h
   split at h
   ·obtain⟨s,h⟩:=h
    exact El hT hg ho cB.1 (abD cB.2) (hn nx (ab3 _)) h bO
   ·exact h.elim
  ·rename_i t x i c ho
   have hh:=aK h;clear h;obtain⟨hb,h⟩:=hh
   simp only[aca]at hb
   obtain⟨v,h,bO⟩:=aI h
   obtain⟨kv,h,oV⟩:=aI h
   exact KW hT hg ho hb.1.1 (abD hb.1.2) hb.2 bO oV h
  ·rename_i t x i y ho
   have hh:=aK h;clear h;obtain⟨hb,h⟩:=hh
   simp only[aca]at hb
   obtain⟨v,h,bO⟩:=aI h
   obtain⟨kv,h,oV⟩:=aI h
   obtain⟨u,h,Jg⟩:=aI h
   exact Cj hT hg ho hn hb.1 (abD hb.2) bO oV Jg h
  ·rename_i t ho
   have hh:=aK h;clear h;obtain⟨cB,h⟩:=hh
   exact MV hT hg ho cB (hn nx (ab3 _)) h
  ·rename_i t x ho
   obtain⟨v,h,bO⟩:=aI h
   have hh:=aK h;clear h;obtain⟨hc,h⟩:=hh
   exact Un hg ho (hn nx (ab3 _)) hc h bO
  ·rename_i t parts ho
   have hh:=aK h;clear h;obtain⟨hb,h⟩:=hh
   simp only[aca]at hb
   obtain⟨l,h,hp⟩:=l7 h
   split at h
   ·rename_i cs hf
    exact Nw hT hg ho hb.1 hp hf hb.2 h
   ·exact h.elim
  ·rename_i t len parts ho
   have hh:=aK h;clear h;obtain⟨hb,h⟩:=hh
   simp only[aca,Nat.blt_eq]at hb
   obtain⟨⟨⟨⟨h1,h2⟩,h3⟩,h4⟩,h5⟩:=hb
   obtain⟨l,h,hp⟩:=l7 h
   split at h
   ·rename_i cs hf
    have hh:=aK h;clear h;obtain⟨hc,h⟩:=hh
    exact z8 hT hg ho hn h1 h2 h3 h4 h5 hp hf hc h
   ·exact h.elim
  ·rename_i t l c ho
   have hh:=aK h;clear h;obtain⟨hb,h⟩:=hh
   simp only[aca,Nat.blt_eq]at hb
   obtain⟨⟨⟨b1,b2⟩,b3⟩,b4⟩:=hb
   obtain⟨lv,h,h1⟩:=aI h
   obtain⟨cv,h,h2⟩:=aI h
   split at h
   ·obtain⟨z,e1,e2,e3,e4,e5,fl,oe,h⟩:=h
    exact Cb hT hg ho b1 b2 b3 b4 (hn nx (ab3 _)) e1 e2 e3 e4 e5 oe h h1 h2
   ·exact h.elim
  ·rename_i t x l hh ho
   have hq:=aK h;clear h;obtain⟨hb,h⟩:=hq
   simp only[aca]at hb
   obtain⟨v,h,bO⟩:=aI h
   obtain⟨lo,h,hl⟩:=AM h
   obtain⟨hi,h,Ep⟩:=AM h
   exact Nq hT hg ho hn hb.1 hb.2 bO.dn hl Ep h
  ·rename_i c ho
   split at h
   ·rename_i hc
    split at h
    ·rename_i x t ha jN
     obtain⟨v,h,bO⟩:=aI h
     exact Rq hT hg ho hc ha jN bO.dn h
    ·exact h.elim
   ·rename_i hc
    split at h
    ·rename_i x i t t' ha jN
     have hh:=aK h;clear h;obtain⟨hb,h⟩:=hh
     simp only[aca]at hb
     obtain⟨v,h,bO⟩:=aI h
     obtain⟨kv,h,oV⟩:=aI h
     exact Ck hT hg ho hc ha jN hn hb.1 (abD hb.2) bO oV h
    ·exact h.elim
   ·rename_i hc
    split at h
    ·rename_i s x t t' ha jN
     have hh:=aK h;clear h;obtain⟨hb,h⟩:=hh
     have:=abD hb
     subst this
     obtain⟨sv,h,h1⟩:=aI h
     obtain⟨xv,h,h2⟩:=aI h
     rcases h with h|h
     ·exact GY hT hg ho hc ha jN hn h h1 h2.dn
     ·exact KL hT hg ho hc ha jN hn h h1.dn h2.dn
    ·exact h.elim
   ·rename_i hc
    split at h
    ·rename_i x y ha
     obtain⟨a,h,h1⟩:=aI h
     obtain⟨b,h,h2⟩:=aI h
     split at h
     ·exact UO hg ho hc ha h h1 h2
     ·exact h.elim
    ·exact h.elim
   ·rename_i hc
    split at h
    ·rename_i x y ha
     obtain⟨a,h,h1⟩:=aI h
     obtain⟨b,h,h2⟩:=aI h
     split at h
     ·exact UP hg ho hc ha h h1 h2
     ·exact h.elim
    ·exact h.elim
   ·rename_i f hc
    obtain⟨l,h,h1⟩:=km h
    exact jx hg (vp ho hc h1) h
   ·rename_i t hc
    obtain⟨v,h,bO⟩:=aI h
    obtain⟨l,h,h1⟩:=km h
    split at h
    ·exact jx hg (rh ho hc bO h1 (.inl ⟨_,rfl,rfl⟩)) h
    ·exact jx hg (rh ho hc bO h1 (.inr (.inl ⟨_,rfl,rfl⟩))) h
    ·exact jx hg (rh ho hc bO h1 (.inr (.inr ⟨_,rfl,rfl⟩))) h
    ·rcases h with h|⟨hf,u,h⟩
     ·exact hR.eP hg ho hc bO h1 h
     ·exact bq (fun c=>by rw[ho];simp) hg h fun _ _ _ _ _ _ _ _ aP=>by rw[hf]at aP;cases aP
    ·exact h.elim
   ·exact h.elim
  ·rename_i t x ho
   have hh:=aK h;clear h;obtain⟨hb,h⟩:=hh
   simp only[aca]at hb
   obtain⟨v,h,bO⟩:=aI h
   split at h
   ·rename_i j ver ep p
    split at h
    ·rename_i d hj
     have hh:=aK h;clear h;obtain⟨cd,h⟩:=hh
     simp only[aca,Bool.or_eq_true]at cd
     obtain⟨nd,h,dh⟩:=bU h
     split at h
     ·exact Ng hT hg ho hb.1 (abD hb.2) (hn nx (ab3 _)) hj (by have:=cd.2;rw[Nat.blt_eq]at this;exact this) (abD cd.1.1)
       (cd.1.2.imp (fun e=>by cases p with|nil=>rfl|cons=>simp[emp]at e) abD) (dh rfl) h bO
     ·exact h.elim
    ·exact h.elim
   ·exact h.elim
  ·rename_i x ho
   obtain⟨v,h,bO⟩:=aI h
   split at h
   ·rename_i i
    split at h
    ·rename_i hi
     exact Ni hg ho hi h.1 h.2 bO
    ·exact h.elim
   ·exact h.elim
  ·rename_i s t x ho
   have hh:=aK h;clear h;obtain⟨hb,h⟩:=hh
   simp only[aca]at hb
   obtain⟨v,h,bO⟩:=aI h
   split at h
   ·rename_i hi
    exact Hq hT hg ho hb.1 hb.2 hi h bO
   ·exact Np hT hg ho hb.1 hb.2 h (bC.dn bO)
  ·rename_i t x i ho
   have hh:=aK h;clear h;obtain⟨hb,h⟩:=hh
   simp only[aca]at hb
   obtain⟨v,h,bO⟩:=aI h
   obtain⟨iv,h,oV⟩:=aI h
   split at h
   ·obtain⟨b,Jm,h⟩:=h
    exact Nx hT hg ho hb.1 hb.2 Jm h bO oV
   ·exact h.elim
  ·exact h.elim
end
end
section
open Go.RowKit
variable [cj]
def Hr:Op->Bool
 |.buildSlice _ _ _=>true
 |.call c=>match c.callee with
  |.builtin .append=>true
  |_=>false
 |_=>false
def sr(o:Oper):Oper:={ o with guard:=none }
def Hs(P:Program)(T:List TI)(ops:List Oper)(n:Nat)(o:Oper)(nx:Nat)(ρ:Nat->AV)(κ:Nat->ar)(k:lj->Nat->Prop):Prop:=
 match o.guard with
 |none=>p5 P T ops n o nx ρ κ k
 |some _=>bif Hr o.op then p5 P T ops n o nx ρ κ k\/(match b5 ρ ops o.guard with
  |some g=>(g=false/\aT n o g nx k .any [])\/(g=true/\p5 P T ops n (sr o) nx ρ κ k)
  |none=>False)
  else p5 P T ops n o nx ρ κ k
def UQ(P:Program)(T:List TI)(ops:List Oper)(n:Nat):List Oper->Nat->Env->ae->(Nat->Env->ae->Prop)->Prop
 |[],nx,env,K,k=>k nx env K
 |o::rest,nx,env,K,k=>Hs P T ops n o nx (look env) (aa K) fun bp dZ=>xO bp.dst env fun kG=>xP bp.box K fun K'=>UQ P T ops n rest dZ kG K' k
structure Rec where
 rows:List Nat
 bp:lj
def Js:Op->Bool
 |.call c=>match c.callee with
  |.value (.tmp _)=>true
  |_=>false
 |_=>false
def eS:List (Nat×ar)->List Nat
 |[]=>[]
 |p::r=>p.1::eS r
def Jt(κ:Nat->ar)(rd:List Nat):List (Nat×ar)->(List (Nat×ar)->Prop)->Prop
 |[],k=>k []
 |(i,b)::r,k=>((iw i rd&& !iw i (eS r))=true/\κ i=b/\Jt κ rd r k)\/Jt κ rd r fun r=>k ((i,b)::r)
def Ny(ops:List Oper)(o:Oper)(κ:Nat->ar)(bp:lj)(k:lj->Prop):Prop:=
 bif Js o.op&&Nat.ble 16 ops.length then k bp\/Jt κ bp.reads bp.box fun bx=>k { bp with box:=bx }else k bp
def Ju(P:Program)(T:List TI)(ops:List Oper)(n:Nat):List Oper->Nat->Env->ae->List Rec->(Nat->Env->ae->List Rec->Prop)->Prop
 |[],nx,env,K,acc,k=>k nx env K acc
 |o::rest,nx,env,K,acc,k=>Hs P T ops n o nx (look env) (aa K) fun bp dZ=>Ny ops o (aa K) bp fun bp=>xO bp.dst env fun kG=>xP bp.box K fun K'=>Ju P T ops n rest dZ kG K' (acc++[⟨gJ (look env) (aa K) o,bp⟩]) k
def ke:List Nat->List Nat->Bool
 |[],_=>true
 |x::r,l=>!iw x l&&ke r l
def jy:List (Nat×AV)->List Nat
 |[]=>[]
 |p::r=>p.1::jy r
def dt(ops:List Oper)(x y:Rec)(oy:Oper):Bool:=
 ke (jy x.bp.dst) (oy.looksAt ops.toArray)&&ke (jy x.bp.dst) (jy y.bp.dst)&&
 ke (eS x.bp.box) y.rows&&ke (eS x.bp.box) y.bp.reads&&ke (eS x.bp.box) (eS y.bp.box)
def ss(o:Oper):List Nat:=o.after.toList.filterMap fun e=>bif Region.binds .any e then some e.on else none
def oX(ops:List Oper):Nat->Nat->Nat->Bool
 |0,_,_=>false
 |f+1,i,j=>match ops[j]? with
  |some o=>(ss o).any fun d=>Nat.beq d i||oX ops f i d
  |none=>false
def xQ:Nat->List Oper->Bool
 |_,[]=>true
 |i,o::r=>(ss o).all (fun d=>Nat.blt d i)&&xQ (i+1) r
def su(ops:List Oper)(rs:List Rec)(j:Nat)(y:Rec)(oy:Oper):Nat->List Rec->List Oper->Bool
 |i,x::xr,ox::or=>(bif Nat.blt i j then oX ops ops.length i j||(dt ops x y oy&&dt ops y x ox)else true)&&su ops rs j y oy (i+1) xr or
 |_,_,_=>true
def p6(ops:List Oper)(rs:List Rec):Nat->List Rec->List Oper->Bool
 |j,y::yr,oy::or=>su ops rs j y oy 0 rs ops&&p6 ops rs (j+1) yr or
 |_,_,_=>true
def uh(ops:List Oper)(rs:List Rec):Bool:=xQ 0 ops&&p6 ops rs 0 rs ops
def AP(g:dO)(n nx:Nat)(env:Env)(K:ae)(a:Act)(w:World):Prop:=St g n (look env) (aa K) a w/\g.m<=nx/\∀i,nx<=i->aa K i=.none
theorem sw{F:Fence}{m:Nat}{P:Program}{o:Oper}{a:Act}{w:World}{K K':Act->World->Prop}{Q:Exit->Act->World->Prop}(h:∀a w,K a w->K' a w)(hh:o.wpIn F m P a w K (fun _ _ _=>False)):o.wpIn F m P a w K' Q:=by
 unfold Oper.wpIn at*
 refine⟨hh.1,?_⟩
 have hh:=hh.2
 generalize (o.semAt F.round a.eval).run P w=r at*
 cases r with
 |ok x w'=>
  cases x<;>simp only[Oper.uponIn]at hh⊢<;>
   first
    |exact h _ _ hh
    |exact⟨hh.1,CallsIn.mono hh.2 (fun e w'' he=>by cases e<;>first|exact h _ _ he|exact he.elim|(obtain⟨_,_,hf⟩:=he;exact hf.elim))⟩
    |exact⟨hh.1,RowsIn.mono hh.2 (fun _ _ he=>h _ _ he)⟩
    |exact⟨hh.1,RoundIn.mono hh.2 (fun e w'' he=>by cases e<;>first|exact h _ _ he|exact he.elim|(obtain⟨_,_,hf⟩:=he;exact hf.elim))⟩
    |exact hh.elim
 |halt x w'=>cases x<;>simp only[Oper.uponIn]at hh⊢<;>exact hh.elim
def c7(P:Program)(C:dO->Prop):Prop:=∀(ops:List Oper) (n:Nat) (o:Oper) (nx:Nat) (ρ:Nat->AV) (κ:Nat->ar) (k:lj->Nat->Prop),(∀i,nx<=i->κ i=.none)->Jr P C ops n o nx ρ κ k
section
variable {P:Program} {C:dO->Prop} {T:List TI} {ops:List Oper} {n:Nat} {g:dO}
theorem Cs{o:Oper}{nx:Nat}{ρ:Nat->AV}{κ:Nat->ar}{k:lj->Nat->Prop}(hg:b5 ρ ops o.guard=some true)(h:Good P C ops n (sr o) nx ρ κ k):Good P C ops n o nx ρ κ k:=by
 obtain⟨bp,dZ,h1,h2,h3,h4⟩:=h
 refine⟨bp,dZ,h1,h2,h3,fun F hF ρ' κ' ax g a w dz aj=>?_⟩
 have hs:∀t,t∈(sr o).looksAt ops.toArray->ρ' t=ρ t:=fun t ht=>ax.bR t (by
  unfold Oper.looksAt sr at ht
  simp only[List.append_nil]at ht
  unfold Oper.looksAt
  exact List.mem_append_left _ ht)
 have hr:=h4 F hF ρ' κ' ⟨hs,ax.rows,ax.reads,ax.boxes⟩ g a w dz aj
 obtain⟨G,iu⟩:=aj
 unfold lZ at hr⊢
 rw[if_pos (cy hg ax.bR iu)]
 have hw:Region.wanted (sr o) (yielded ops.toArray a.tmps)=true:=rfl
 rw[if_pos hw]at hr
 exact hr
theorem rj(hT:eV P T){o:Oper}{nx:Nat}{ρ:Nat->AV}{κ:Nat->ar}{k:lj->Nat->Prop}(hn:∀i,nx<=i->κ i=.none)(hR:c7 P C)(h:Hs P T ops n o nx ρ κ k):Good P C ops n o nx ρ κ k:=by
 have zX:p5 P T ops n o nx ρ κ k->Good P C ops n o nx ρ κ k:=ug hT hn (hR _ _ _ _ _ _ _ hn)
 unfold Hs at h
 split at h
 ·exact zX h
 ·cases hh:Hr o.op with
  |false=>rw[hh]at h;exact zX h
  |true=>
   rw[hh]at h
   rcases h with h|h
   ·exact zX h
   ·split at h
    ·rename_i g hg
     rcases h with⟨hf,h⟩|⟨hf,h⟩
     ·subst hf
      refine bq (fun c hc=>?_) hg h fun _ _ _ _ _ _ _ _ aP=>by cases aP
      rw[hc]at hh;simp[Hr]at hh
     ·subst hf
      exact Cs hg (ug hT hn (hR _ _ _ _ _ _ _ hn) h)
    ·exact h.elim
theorem kH{nx dZ:Nat}{K:ae}{bx:List (Nat×ar)}(hn:∀i,nx<=i->aa K i=.none)(hle:nx<=dZ)(hb:∀p,p∈bx->p.1<dZ):∀i,dZ<=i->aa (wu bx K) i=.none:=by
 intro i hi
 rw[fR]
 have key:∀(l:List (Nat×ar)),(∀p,p∈l->p.1<dZ)->ay (aa K) l i=.none:=by
  intro l
  induction l with
  |nil=>intro _;exact hn i (by omega)
  |cons p r ih=>
   intro hl
   obtain⟨j,b⟩:=p
   have:=hl (j,b) (by simp)
   simp only[ay]
   rw[ah _ _ (by simp at this;omega)]
   exact ih fun p hp=>hl p (by simp[hp])
 exact key bx hb
theorem p7{o:Oper}{rest:List Oper}{a:Act}{w:World}{K:Act->World->Prop}{Q:Exit->Act->World->Prop}{F:Fence}(hF:iz F)(h:lZ P F ops.toArray o a w K)(hk:∀a w,K a w->wpListIn F 0 P ops.toArray Q rest a w):wpListIn F 0 P ops.toArray Q (o::rest) a w:=by
 unfold lZ at h
 simp only[wpListIn]
 split at h
 ·rename_i hw;rw[if_pos hw];exact sw hk h
 ·rename_i hw;rw[if_neg hw];exact⟨fun f _=>hF.fn f,hk _ _ h⟩
theorem xR(hT:eV P T)(hR:c7 P C)(Ct:C g){F:Fence}(hF:iz F){Q:Exit->Act->World->Prop}{k:Nat->Env->ae->Prop}(hQ:∀nx env K a w,k nx env K->AP g n nx env K a w->Q .normal a w):
 ∀(rest:List Oper) (nx:Nat) (env:Env) (K:ae) (a:Act) (w:World),UQ P T ops n rest nx env K k->AP g n nx env K a w->wpListIn F 0 P ops.toArray Q rest a w
 |[],nx,env,K,a,w,h,hs=>hQ nx env K a w h hs
 |o::rest,nx,env,K,a,w,h,⟨hs,dz,hn⟩=>by
  obtain⟨bp,dZ,hk,hle,hb,um⟩:=rj hT hn hR h
  rw[xS,xT]at hk
  refine p7 hF (um F hF (look env) (aa K) ⟨fun _ _=>rfl,fun _ _=>rfl,fun _ _=>rfl,fun _ _ _=>rfl⟩ g a w ⟨dz,Ct⟩ hs) fun a' w' cY=>?_
  refine xR hT hR Ct hF hQ rest dZ _ _ a' w' hk ⟨?_,Nat.le_trans dz hle,kH hn hle hb⟩
  rw[kp,fR]
  exact cY
def acc{γ:Type _}(f:Nat->γ)(wr:Nat->List (Nat×γ))(E:Nat->Bool):Nat->Nat->γ
 |0=>f
 |m+1=>if E m then ay (acc f wr E m) (wr m)else acc f wr E m
def keys{γ:Type _}(l:List (Nat×γ)):List Nat:=l.map (·.1)
theorem cw{γ:Type _}(f:Nat->γ):∀{l:List (Nat×γ)} {t:Nat},t∉keys l->ay f l t=f t
 |[],t,_=>rfl
 |(i,x)::r,t,h=>by
  simp only[keys,List.map_cons,abG,not_or]at h
  simp only[ay]
  rw[ah _ _ h.1]
  exact cw f h.2
theorem wP{γ:Type _}(f f':Nat->γ):∀{l:List (Nat×γ)} {t:Nat},t∈keys l->ay f l t=ay f' l t
 |[],t,h=>by simp[keys]at h
 |(i,x)::r,t,h=>by
  simp only[ay]
  by_cases e:t=i
  ·subst e;simp
  ·rw[ah _ _ e,ah _ _ e]
   simp only[keys,List.map_cons,abG,e,false_or]at h
   exact wP f f' h
section
variable {γ:Type _} {f:Nat->γ} {wr:Nat->List (Nat×γ)} {E:Nat->Bool}
theorem p8{t:Nat}:∀{j:Nat},(∀i,i<j->E i=false->t∉keys (wr i))->acc f wr E j t=acc f wr (fun _=>true) j t
 |0,_=>rfl
 |j+1,h=>by
  have ih:=p8 (t:=t) (j:=j) fun i hi=>h i (by omega)
  simp only[acc,if_true]
  cases he:E j with
  |true=>
   simp only[if_true]
   by_cases hk:t∈keys (wr j)
   ·exact wP _ _ hk
   ·rw[cw _ hk,cw _ hk,ih]
  |false=>
   simp only[Bool.false_eq_true,if_false]
   rw[cw _ (h j (by omega) he)]
   exact ih
theorem EE{t j:Nat}:∀{m:Nat},(∀i,j<=i->i<j+m->E i=true->t∉keys (wr i))->acc f wr E (j+m) t=acc f wr E j t
 |0,_=>rfl
 |m+1,h=>by
  have ih:=EE (t:=t) (j:=j) (m:=m) fun i h1 h2=>h i h1 (by omega)
  show acc f wr E (j+m+1) t=_
  simp only[acc]
  cases he:E (j+m)with
  |true=>simp only[if_true];rw[cw _ (h _ (by omega) (by omega) he)];exact ih
  |false=>simp only[Bool.false_eq_true,if_false];exact ih
theorem sx{t j len:Nat}(hj:j<=len)(h1:∀i,i<j->E i=false->t∉keys (wr i))(h2:∀i,j<=i->i<len->E i=true->t∉keys (wr i)):acc f wr E len t=acc f wr (fun _=>true) j t:=by
 obtain⟨m,rfl⟩:∃m,len=j+m:=⟨len-j,by omega⟩
 rw[EE h2,p8 h1]
def mC(E:Nat->Bool)(j:Nat):Nat->Bool:=fun i=>if i=j then true else E i
theorem sy{j:Nat}(hj:E j=false):∀{len:Nat},j<len->(∀i,j<i->i<len->E i=true->∀t,t∈keys (wr j)->t∉keys (wr i))->acc f wr (mC E j) len=ay (acc f wr E len) (wr j)
 |0,h,_=>by omega
 |len+1,h,hd=>by
  rcases abT j len with au|gG
  ·have ih:=sy hj au fun i h1 h2=>hd i h1 (by omega)
   have ck:len≠j:=by omega
   simp only[acc,mC,if_neg ck]
   cases he:E len with
   |false=>simp only[Bool.false_eq_true,if_false];exact ih
   |true=>
    simp only[if_true]
    show ay (acc f wr (mC E j) len) (wr len)=_
    rw[ih]
    funext t
    by_cases h1:t∈keys (wr j)
    ·have h2:=hd len au (by omega) he t h1
     rw[cw _ h2]
     exact wP _ _ h1
    ·rw[cw (ay (acc f wr E len) (wr len)) h1]
     by_cases h2:t∈keys (wr len)
     ·exact wP _ _ h2
     ·rw[cw _ h2,cw _ h2,cw _ h1]
  ·have:j=len:=by omega
   subst this
   have low:∀m,m<=j->acc f wr (mC E j) m=acc f wr E m:=by
    intro m
    induction m with
    |zero=>intro _;rfl
    |succ m ih=>
     intro hm
     simp only[acc,mC,if_neg (show m≠j by omega)]
     rw[ih (by omega)]
   simp only[acc,hj,Bool.false_eq_true,if_false]
   simp only[mC,if_true]
   rw[low j (ab3 _)]
end
theorem ML.lo{lo WW:Nat}{o:Oper}{ρ:Nat->AV}{κ:Nat->ar}{bp:lj}(h:ML P C ops n WW o ρ κ bp)(hl:lo<=WW):ML P C ops n lo o ρ κ bp:=
 fun F hF ρ' κ' ax g a w hg hs=>h F hF ρ' κ' ax g a w ⟨Nat.le_trans hg.1 hl,hg.2⟩ hs
theorem sA{γ:Type _}(f:Nat->γ)(wr wr':Nat->List (Nat×γ))(m:Nat):(∀i,i<m->wr' i=wr i)->acc f wr' (fun _=>true) m=acc f wr (fun _=>true) m:=by
 induction m with
 |zero=>intro _;rfl
 |succ m ih=>intro hh;simp only[acc,if_true];rw[ih fun i hi=>hh i (by omega),hh m (by omega)]
theorem rk{κ:Nat->ar}{rd:List Nat}:∀{bx:List (Nat×ar)} {k:List (Nat×ar)->Prop},Jt κ rd bx k->∃Rs,k Rs/\(∀p,p∈Rs->p∈bx)/\(∀p,p∈bx->p∈Rs\/p.1∈rd)/\∀κ':Nat->ar,(∀i,i∈rd->κ' i=κ i)->ay κ' Rs=ay κ' bx
 |[],k,h=>⟨[],h,fun _ h=>h,fun _ h=>.inl h,fun _ _=>rfl⟩
 |(i,b)::r,k,h=>by
  rcases h with⟨h1,h2,h⟩|h
  ·obtain⟨Rs,hk,ha,hb,hc⟩:=rk h
   simp only[aca,acd]at h1
   refine⟨Rs,hk,fun p hp=>abH _ (ha p hp),fun p hp=>?_,fun κ' hκ=>?_⟩
   ·rcases abG.1 hp with rfl|hp
    ·exact .inr (mr h1.1)
    ·exact hb p hp
   ·rw[hc κ' hκ]
    funext j
    by_cases e:j=i
    ·subst e
     have hkb:∀(l:List (Nat×ar)),eS l=keys l:=fun l=>by
      induction l with
      |nil=>rfl
      |cons p r ih=>simp[eS,keys,ih]
     rw[cw _ (by rw[<-hkb];exact fa h1.2)]
     simp only[ay,bo]
     rw[hκ _ (mr h1.1),h2]
    ·simp only[ay]
     rw[ah _ _ e]
  ·obtain⟨Rs,hk,ha,hb,hc⟩:=rk h
   refine⟨(i,b)::Rs,hk,fun p hp=>?_,fun p hp=>?_,fun κ' hκ=>?_⟩
   ·rcases abG.1 hp with rfl|hp
    ·exact abL
    ·exact abH _ (ha p hp)
   ·rcases abG.1 hp with rfl|hp
    ·exact .inl abL
    ·rcases hb p hp with h|h
     ·exact .inl (abH _ h)
     ·exact .inr h
   ·simp only[ay]
    rw[hc κ' hκ]
theorem Ht{o:Oper}{nx:Nat}{ρ:Nat->AV}{κ:Nat->ar}{k:lj->Nat->Prop}(h:Good P C ops n o nx ρ κ fun bp dZ=>Ny ops o κ bp fun bp=>k bp dZ):Good P C ops n o nx ρ κ k:=by
 obtain⟨bp,dZ,h1,h2,h3,h4⟩:=h
 unfold Ny at h1
 cases hd:Js o.op&&Nat.ble 16 ops.length with
 |false=>rw[hd]at h1;exact⟨bp,dZ,h1,h2,h3,h4⟩
 |true=>
  rw[hd]at h1
  rcases h1 with h1|h1
  ·exact⟨bp,dZ,h1,h2,h3,h4⟩
  ·obtain⟨Rs,hk,ha,hb,hc⟩:=rk h1
   refine⟨_,dZ,hk,h2,fun p hp=>h3 p (ha p hp),fun F hF ρ' κ' ax g a w dz aj=>?_⟩
   have hr:=h4 F hF ρ' κ' ⟨ax.bR,ax.rows,ax.reads,fun i b hib=>?_⟩ g a w dz aj
   ·simp only
    rw[hc κ' ax.reads]
    exact hr
   ·rcases hb _ hib with h|h
    ·exact ax.boxes i b h
    ·exact ax.reads i h
theorem vu(hT:eV P T)(hR:c7 P C){k:Nat->Env->ae->List Rec->Prop}{ρ0:Nat->AV}{κ0:Nat->ar}{lo:Nat}:
 ∀(rest done:List Oper) (nx:Nat) (env:Env) (K:ae) (rs:List Rec),ops=done++rest->rs.length=done.length->lo<=nx->
  (∀i,nx<=i->aa K i=.none)->
  look env=acc ρ0 (fun i=>(rs[i]?.map (·.bp.dst)).getD []) (fun _=>true) done.length->aa K=acc κ0 (fun i=>(rs[i]?.map (·.bp.box)).getD []) (fun _=>true) done.length->
  (∀i r o,rs[i]?=some r->ops[i]?=some o->r.rows=gJ (acc ρ0 (fun i=>(rs[i]?.map (·.bp.dst)).getD []) (fun _=>true) i) (acc κ0 (fun i=>(rs[i]?.map (·.bp.box)).getD []) (fun _=>true) i) o/\ML P C ops n lo o (acc ρ0 (fun i=>(rs[i]?.map (·.bp.dst)).getD []) (fun _=>true) i) (acc κ0 (fun i=>(rs[i]?.map (·.bp.box)).getD []) (fun _=>true) i) r.bp)->
  Ju P T ops n rest nx env K rs k->
  ∃dZ kG K' vw,k dZ kG K' vw/\vw.length=ops.length/\lo<=dZ/\(∀i,dZ<=i->aa K' i=.none)/\
   look kG=acc ρ0 (fun i=>(vw[i]?.map (·.bp.dst)).getD []) (fun _=>true) ops.length/\aa K'=acc κ0 (fun i=>(vw[i]?.map (·.bp.box)).getD []) (fun _=>true) ops.length/\
   ∀i r o,vw[i]?=some r->ops[i]?=some o->r.rows=gJ (acc ρ0 (fun i=>(vw[i]?.map (·.bp.dst)).getD []) (fun _=>true) i) (acc κ0 (fun i=>(vw[i]?.map (·.bp.box)).getD []) (fun _=>true) i) o/\ML P C ops n lo o (acc ρ0 (fun i=>(vw[i]?.map (·.bp.dst)).getD []) (fun _=>true) i) (acc κ0 (fun i=>(vw[i]?.map (·.bp.box)).getD []) (fun _=>true) i) r.bp
 |[],done,nx,env,K,rs,Cu,hlen,mj,hn,he,hk,br,h=>by
  have:done.length=ops.length:=by rw[Cu];simp
  exact⟨nx,env,K,rs,h,by omega,mj,hn,by rw[<-this];exact he,by rw[<-this];exact hk,br⟩
 |o::rest,done,nx,env,K,rs,Cu,hlen,mj,hn,he,hk,br,h=>by
  obtain⟨bp,dZ,fP,hle,hb,um⟩:=Ht (ops:=ops) (n:=n) (o:=o) (nx:=nx) (ρ:=look env) (κ:=aa K) (k:=fun bp dZ=>xO bp.dst env fun kG=>xP bp.box K fun K'=>Ju P T ops n rest dZ kG K' (rs++[(⟨gJ (look env) (aa K) o,bp⟩:Rec)]) k) (rj hT hn hR h)
  rw[xS,xT]at fP
  have oJ:∀i,i<rs.length->(rs++[⟨gJ (look env) (aa K) o,bp⟩])[i]?=rs[i]?:=fun i hi=>List.getElem?_append_left hi
  have xU:(rs++[(⟨gJ (look env) (aa K) o,bp⟩:Rec)])[done.length]?=some ⟨gJ (look env) (aa K) o,bp⟩:=by rw[<-hlen];simp
  have js:∀m,m<=done.length->acc ρ0 (fun i=>((rs++[(⟨gJ (look env) (aa K) o,bp⟩:Rec)])[i]?.map (·.bp.dst)).getD []) (fun _=>true) m=acc ρ0 (fun i=>(rs[i]?.map (·.bp.dst)).getD []) (fun _=>true) m:=
   fun m hm=>sA _ _ _ m fun i hi=>by rw[oJ i (by omega)]
  have lJ:∀m,m<=done.length->acc κ0 (fun i=>((rs++[(⟨gJ (look env) (aa K) o,bp⟩:Rec)])[i]?.map (·.bp.box)).getD []) (fun _=>true) m=acc κ0 (fun i=>(rs[i]?.map (·.bp.box)).getD []) (fun _=>true) m:=
   fun m hm=>sA _ _ _ m fun i hi=>by rw[oJ i (by omega)]
  refine vu hT hR rest (done++[o]) dZ (EF bp.dst env) (wu bp.box K) (rs++[⟨gJ (look env) (aa K) o,bp⟩]) (by rw[Cu];simp) (by simp[hlen]) (Nat.le_trans mj hle) (kH hn hle hb) ?_ ?_ ?_ fP
  ·rw[kp,abM]
   simp only[List.length_cons,List.length_nil,Nat.zero_add,acc,if_true]
   rw[js _ (ab3 _),xU,<-he];rfl
  ·rw[fR,abM]
   simp only[List.length_cons,List.length_nil,Nat.zero_add,acc,if_true]
   rw[lJ _ (ab3 _),xU,<-hk];rfl
  ·intro i r o' hr ju
   rcases abT i rs.length with au|gG
   ·rw[oJ i au]at hr
    rw[js i (by omega),lJ i (by omega)]
    exact br i r o' hr ju
   ·have hi:i=done.length:=by
     have:=(abA.1 hr).1
     simp at this;omega
    subst hi
    rw[xU]at hr
    injection hr with hr
    subst hr
    rw[Cu]at ju
    simp at ju
    subst ju
    rw[js _ (ab3 _),lJ _ (ab3 _),<-he,<-hk]
    exact⟨rfl,um.lo mj⟩
end
end
end Go.TM
