import Derived.Test.YtknnpcfhekkjjaaGreatDoorFM10
import Derived.Orders
set_option linter.all false
namespace Go.TM
section
open Go.RowKit
variable [cn]
section
variable {P:Program} {C:dP->Prop} {T:List TI} {ops:List Oper} {n:Nat} {o:Oper} {nx:Nat} {ρ:Nat->AV} {κ:Nat->aq} {k:kN->Nat->Prop} {gd:Bool}
theorem oP{x:Operand}{v:AV}(h:ev ρ κ x=v):bz ρ κ gd x v:=by
 intro ρ' κ' aw g n a w G ai _
 rw[<-h]
 exact AG ρ' κ' aw g n a w G ai
theorem uf{x:Operand}{v:AV}{g':Bool}(h:ev ρ κ x=.opt g' v)(hg:gd=true->g'=true)(hr:res κ v=v):bz ρ κ gd x v:=by
 have:=Ed h hg
 rwa[hr]at this
theorem M4{c x y:Operand}(hg:bZ ρ ops o.guard=some gd)(ho:o.op=.pick c x y)
 (h:match ev ρ κ c,ev ρ κ x,ev ρ κ y with
  |.dv (.bool b),.dv (.bool p),.dv (.bool q)=>aT n o gd nx k (.dv (.bool (bif b then p else q))) []
  |.dv (.bool b),.opt gp (.dv (.bool p)),.dv (.bool q)=>(gd=true->b=true->gp=true)/\aT n o gd nx k (.dv (.bool (bif b then p else q))) []
  |.dv (.bool b),.dv (.bool p),.opt gq (.dv (.bool q))=>(gd=true->b=false->gq=true)/\aT n o gd nx k (.dv (.bool (bif b then p else q))) []
  |.opt gb (.dv (.bool b)),.opt gp (.dv (.bool p)),.dv (.bool q)=>(gd=true->gb=true/\(b=true->gp=true))/\aT n o gd nx k (.dv (.bool (bif b then p else q))) []
  |.opt gb (.dv (.bool b)),.dv (.bool p),.opt gq (.dv (.bool q))=>(gd=true->gb=true/\(b=false->gq=true))/\aT n o gd nx k (.dv (.bool (bif b then p else q))) []
  |_,_,_=>False):Good P C ops n o nx ρ κ k:=by
 split at h
 ·rename_i b p q h1 h2 h3
  exact ny hg ho h (oP h1) (oP h2) (oP h3)
 ·rename_i b gp p q h1 h2 h3
  exact ny hg ho h.2 (oP h1) (uf h2 (by simp only[acj];exact fun hh=>h.1 hh.1 hh.2) rfl) (oP h3)
 ·rename_i b p gq q h1 h2 h3
  exact ny hg ho h.2 (oP h1) (oP h2) (uf h3 (by simp only[acj,acm];exact fun hh=>h.1 hh.1 hh.2) rfl)
 ·rename_i gb b gp p q h1 h2 h3
  exact ny hg ho h.2 (uf h1 (fun hh=>(h.1 hh).1) rfl) (uf h2 (by simp only[acj];exact fun hh=>(h.1 hh.1).2 hh.2) rfl) (oP h3)
 ·rename_i gb b p gq q h1 h2 h3
  exact ny hg ho h.2 (uf h1 (fun hh=>(h.1 hh).1) rfl) (oP h2) (uf h3 (by simp only[acj,acm];exact fun hh=>(h.1 hh.1).2 hh.2) rfl)
 ·exact h.elim
theorem Ro(hT:fb P T){c:Call}{x:Operand}{t:Nat}{v:AV}(hg:bZ ρ ops o.guard=some gd)(ho:o.op=.call c)(hc:c.callee=.builtin .len)(ha:c.args.toList=[x])(dw:c.argTypes.toList=[t])
 (bJ:bz ρ κ gd x v) (h:B3 (nth T t) κ gd v fun r rd=>aT n o gd nx k r rd):Good P C ops n o nx ρ κ k:=by
 unfold B3 at h
 split at h
 ·have hh:=aJ h;clear h;obtain⟨hb,h⟩:=hh
  simp only[acj]at hb
  refine q9 hT hg ho hc ha dw h bJ hb.1 fun _ κ' _ G w v _ hv=>.inl ⟨hb.2,?_⟩
  cases hv with|dv hv=>cases hv with
  |slnil=>exact⟨_,_,_,rfl,rfl⟩
  |sl=>exact⟨_,_,_,rfl,rfl⟩
 ·have hh:=aJ h;clear h;obtain⟨hb,h⟩:=hh
  simp only[acj]at hb
  refine q9 hT hg ho hc ha dw h bJ hb.1 fun _ κ' _ G w v _ hv=>.inl ⟨hb.2,?_⟩
  cases hv with|dv hv=>cases hv with
  |az=>exact⟨_,_,_,rfl,rfl⟩
 ·have hh:=aJ h;clear h;obtain⟨hb,h⟩:=hh
  simp only[acj]at hb
  refine q9 hT hg ho hc ha dw h bJ hb.1 fun _ κ' _ G w v _ hv=>.inr (.inl ⟨hb.2,?_⟩)
  cases hv with|dv hv=>cases hv with
  |str=>exact⟨_,rfl,rfl⟩
 ·rename_i i ver ep p
  split at h
  ·rename_i aW bX d hk
   have hh:=aJ h;clear h;obtain⟨hb,h⟩:=hh
   obtain⟨rfl,dJ⟩:=dC hb
   obtain⟨nd,h,dj⟩:=bU h
   split at h
   ·rename_i sz l
    have hh:=aJ h;clear h;obtain⟨hb,h⟩:=hh
    simp only[acj]at hb
    refine q9 hT hg ho hc ha dw h bJ hb.1 fun aN κ' aw G w v hf hv=>.inl ⟨hb.2,?_⟩
    obtain⟨u,h1,_,aZ⟩:=hf.node ((aw i (by simp)).trans hk) (dj aN) rfl
    cases hv with|own _ _ _ _ _ hh hc=>
    rw[cV dJ,h1]at hh
    injection hh with hh
    subst hh
    rcases aZ with⟨rfl,rfl⟩|⟨gb,ob,cap,cc,tt,rfl,_⟩
    ·exact⟨_,_,_,rfl,rfl⟩
    ·exact⟨_,_,_,rfl,rfl⟩
   ·rename_i ks m
    have hh:=aJ h;clear h;obtain⟨hb,h⟩:=hh
    simp only[acj]at hb
    refine q9 hT hg ho hc ha dw h bJ hb.1 fun aN κ' aw G w v hf hv=>.inr (.inr ⟨hb.2,?_⟩)
    obtain⟨u,h1,_,aZ⟩:=hf.node ((aw i (by simp)).trans hk) (dj aN) rfl
    cases hv with|own _ _ _ _ _ hh hc=>
    rw[cV dJ,h1]at hh
    injection hh with hh
    subst hh
    obtain⟨m0,vt,gb,es,clock,rfl,hw,aV,_⟩:=aZ
    exact⟨gb,es,clock,rfl,hw,by rw[aV,vt.length_eq]⟩
   ·exact h.elim
  ·exact h.elim
 ·have hh:=aJ h;clear h;obtain⟨hb,h⟩:=hh
  simp only[acj]at hb
  refine q9 hT hg ho hc ha dw h bJ hb.1 fun _ κ' _ G w v _ hv=>.inl ⟨hb.2,?_⟩
  cases hv
  exact⟨_,_,_,rfl,rfl⟩
 ·have hh:=aJ h;clear h;obtain⟨hb,h⟩:=hh
  simp only[acj]at hb
  refine q9 hT hg ho hc ha dw h bJ hb.1 fun _ κ' _ G w v _ hv=>.inl ⟨hb.2,?_⟩
  cases hv
  exact⟨_,_,_,rfl,rfl⟩
 ·exact h.elim
theorem wB{x:Operand}{i ver ep bX:Nat}{p:List PS}{d y:DV}(hg:bZ ρ ops o.guard=some gd)(ho:o.op=.nilCheck x)(hk:κ i=.tree ver bX d)(dJ:p=[]\/ep=bX)(dj:gd=true->get d p=some (.gl y))
 (hr:aT n o gd nx k (.loc i ver ep p 1 0 0) [i]) (bJ:bz ρ κ gd x (.own i ver ep p)):Good P C ops n o nx ρ κ k:=by
 refine bo (fun c=>by rw[ho];simp) hg hr fun ρ' κ' aw g a w G ai aN=>?_
 have hv:=bJ ρ' κ' (aw.op (by rw[ho];simp[Op.operands])) g n a w G ai aN
 generalize hx:a.eval x=v at hv
 obtain⟨u,h1,_,aZ⟩:=ai.fit.node ((aw.reads i (by simp)).trans hk) (dj aN) rfl
 cases hv with|own _ _ _ _ _ hh hc=>
 have W5:=hh
 rw[cV dJ,h1]at hh
 injection hh with hh
 subst hh
 obtain⟨gb,c,t,rfl,hw,_⟩:=aZ
 refine⟨.pointer (some ⟨gb,0,none⟩),by simp[execOp,ho,hx],?_⟩
 have:=aG.qo (G:=G) i ver ep p 1 0 0 _ W5
 rw[eO]at this
 exact this
theorem zY(hT:fb P T){t f:Nat}{x:Operand}{v:AV}(hg:bZ ρ ops o.guard=some gd)(ho:o.op=.fieldAddr t x f)
 (h:match(nth T t).ok,(nth T t).fields[f]? with
  |true,some (off,sz+1)=>match v with
   |.ptr i o'=>aT n o gd nx k (.ptr i (o'+off)) []
   |.dv (.at x o')=>aT n o gd nx k (.dv (.at x (o'+off))) []
   |.loc i ver ep p iT idx o'=>aT n o gd nx k (.loc i ver ep p iT idx (o'+off)) []
   |_=>False
  |_,_=>False) (bJ:bz ρ κ gd x v):Good P C ops n o nx ρ κ k:=by
 split at h
 ·rename_i off sz cr hf
  split at h
  ·refine nz hT hg ho cr hf h bJ (fun G v hv=>?_)
   cases hv with
   |ptr _ _ b hb=>
    refine⟨_,rfl,?_⟩
    rw[eO]
    exact .ptr _ _ b hb
  ·refine nz hT hg ho cr hf h bJ (fun G v hv=>?_)
   cases hv with|dv hv=>cases hv with
   |_=>
    rename_i A cell mq hc hr
    refine⟨_,rfl,?_⟩
    rw[cL]
    exact .dv (.at _ _ A cell mq hc hr)
  ·refine nz hT hg ho cr hf h bJ (fun G v hv=>?_)
   cases hv with
   |loc _ _ _ _ _ _ _ A m c he=>
    refine⟨_,rfl,?_⟩
    rw[cL,Nat.add_assoc]
    exact .loc _ _ _ _ _ _ _ A m c he
   |qo _ _ _ _ _ _ _ A he=>
    refine⟨_,rfl,?_⟩
    rw[cL,Nat.add_assoc]
    exact .qo _ _ _ _ _ _ _ A he
  ·exact h.elim
 ·exact h.elim
theorem KF(hT:fb P T){t f:Nat}{x:Operand}{v:AV}(hg:bZ ρ ops o.guard=some gd)(ho:o.op=.field t x f)
 (h:match(nth T t).ok,(nth T t).fields[f]?,(nth T t).B4[f]? with
  |true,some (off,sz+1),some ft=>match v with
   |.agg l=>bif (nth T ft).ok&&Nat.beq (nth T ft).size (sz+1)then ct (nth T ft).agg l off (sz+1) fun v=>aT n o gd nx k v []else False
   |_=>False
  |_,_,_=>False) (bJ:bz ρ κ gd x v):Good P C ops n o nx ρ κ k:=by
 split at h
 ·rename_i off sz ft cr hf XP
  split at h
  ·have hh:=aJ h;clear h;obtain⟨hb,h⟩:=hh
   simp only[acj]at hb
   exact M5 hT hg ho cr hf XP hb.1 (abL hb.2) h bJ
  ·exact h.elim
 ·exact h.elim
theorem KG(hT:fb P T){t:Nat}{x i:Operand}{v iv:AV}(hg:bZ ρ ops o.guard=some gd)(ho:o.op=.indexAddr t x i)
 (h:bif (nth T t).ok&&(nth T t).isSl&&(nth T (nth T t).elem).ok then
  match v,iv with
  |.dv (.sl sz l),.dv (.int _ m)=>bif Nat.beq sz (nth T (nth T t).elem).size then ∃x,(gd=true->0<=m/\l[m.toNat]?=some x)/\aT n o gd nx k (.dv (.at x 0)) []else False
  |.own j ver ep p,.dv (.int _ m)=>match κ j with
   |.tree aW bX d=>bif Nat.beq ver aW&&(emp p||Nat.beq ep bX)then jC gd d p fun nd=>match nd with
    |.aB sz l=>bif Nat.beq sz (nth T (nth T t).elem).size then(gd=true->0<=m/\m<l.length)/\aT n o gd nx k (.loc j ver ep p sz m.toNat 0) [j]else False
    |_=>False
    else False
   |_=>False
  |.sle j len,.dv (.int _ m)=>(gd=true->0<=m/\m<len)/\aT n o gd nx k (.ptr j (m.toNat*(nth T (nth T t).elem).size)) []
  |.pre j ver ep p sz lo len,.dv (.int _ m)=>bif Nat.beq sz (nth T (nth T t).elem).size then(gd=true->0<=m/\m<len)/\aT n o gd nx k (.loc j ver ep p sz (lo+m.toNat) 0) []else False
  |_,_=>False
  else False) (bJ:bz ρ κ gd x v) (oQ:bz ρ κ gd i iv):Good P C ops n o nx ρ κ k:=by
 have hh:=aJ h;clear h;obtain⟨hb,h⟩:=hh
 simp only[acj]at hb
 split at h
 ·have hh:=aJ h;clear h;obtain⟨ca,x,hy,h⟩:=hh
  exact Ee hT hg ho hb.1.1 hb.1.2 hb.2 (abL ca) hy h bJ oQ
 ·split at h
  ·rename_i hk
   have hh:=aJ h;clear h;obtain⟨ca,h⟩:=hh
   obtain⟨rfl,dJ⟩:=dC ca
   obtain⟨nd,h,dj⟩:=bU h
   split at h
   ·have hh:=aJ h;clear h;obtain⟨vz,hy,h⟩:=hh
    exact B5 hT hg ho hb.1.1 hb.1.2 hb.2 (abL vz) hk dJ dj hy h bJ oQ
   ·exact h.elim
  ·exact h.elim
 ·exact B6 hT hg ho hb.1.1 hb.1.2 hb.2 h.1 h.2 bJ oQ
 ·have hh:=aJ h;clear h;obtain⟨ca,hy,h⟩:=hh
  exact B7 hT hg ho hb.1.1 hb.1.2 hb.2 (abL ca) hy h bJ oQ
 ·exact h.elim
theorem G5(hT:fb P T){t:Nat}{x i:Operand}{v iv:AV}(hg:bZ ρ ops o.guard=some gd)(ho:o.op=.indexAddr t x i)
 (h:B8 (nth T t) (nth T (nth T t).elem) gd v iv fun v=>aT n o gd nx k v []) (bJ:bz ρ κ gd x v) (oQ:bz ρ κ gd i iv):Good P C ops n o nx ρ κ k:=by
 have hh:=aJ h;clear h;obtain⟨hb,h⟩:=hh
 simp only[acj]at hb
 have Ef:=abL hb.1.2
 split at h
 ·rename_i kd m
  obtain⟨hm,h⟩:=h
  split at h
  ·rename_i y off
   refine nA hT hg ho hb.1.1 Ef hb.2 hm h bJ oQ fun G v hv=>?_
   cases hv with|dv hv=>cases hv with|«at» _ _ A cell mq hc hr=>
   exact⟨_,rfl,.dv (by rw[cL];exact .at y _ A cell mq hc hr)⟩
  ·rename_i j off
   refine nA hT hg ho hb.1.1 Ef hb.2 hm h bJ oQ fun G v hv=>?_
   cases hv with|ptr _ _ b hb=>
   exact⟨_,rfl,by rw[show(⟨b,off,none⟩:Addr).add (m.toNat*(nth T (nth T t).elem).size)=⟨b,off+m.toNat*(nth T (nth T t).elem).size,none⟩by unfold Addr.add;split<;>simp[*]];exact .ptr j _ b hb⟩
  ·rename_i j ver ep p sz idx off
   refine nA hT hg ho hb.1.1 Ef hb.2 hm h bJ oQ fun G v hv=>?_
   cases hv with
   |loc _ _ _ _ _ _ _ A n c e=>exact⟨_,rfl,by rw[cL,Nat.add_assoc];exact .loc j ver ep p sz idx _ A n c e⟩
   |qo _ _ _ _ _ _ _ A e=>exact⟨_,rfl,by rw[cL,Nat.add_assoc];exact .qo j ver ep p sz idx _ A e⟩
  ·exact h.elim
 ·exact h.elim
theorem M6(hT:fb P T){t:Nat}{x:Operand}{v:AV}(hg:bZ ρ ops o.guard=some gd)(ho:o.op=.load t x)(cr:(nth T t).ok=true)
 (h:match v with
  |.ptr i off=>match κ i with
   |.cells l=>ct (nth T t).agg l off (nth T t).size fun v=>aT n o gd nx k v [i]
   |_=>False
  |.dv (.at x off)=>ct (nth T t).agg (fc x.cells) off (nth T t).size fun v=>aT n o gd nx k v []
  |.loc i ver ep p sz idx off=>match κ i with
   |.tree aW bX d=>bif Nat.beq ver aW&&(emp p||Nat.beq ep bX)then jC gd d p fun nd=>kC i ver bX p gd sz idx nd fun l=>
    ct (nth T t).agg l off (nth T t).size fun v=>aT n o gd nx k v [i]
    else False
   |_=>False
  |_=>False) (bJ:bz ρ κ gd x v):Good P C ops n o nx ρ κ k:=by
 split at h
 ·split at h
  ·rename_i hk
   exact Eg hT hg ho cr hk h bJ
  ·exact h.elim
 ·exact G6 hT hg ho cr h bJ
 ·split at h
  ·rename_i hk
   have hh:=aJ h;clear h;obtain⟨ca,h⟩:=hh
   obtain⟨rfl,dJ⟩:=dC ca
   exact Eh hT hg ho cr hk dJ h bJ
  ·exact h.elim
 ·exact h.elim
theorem KH(hT:fb P T){t:Nat}{x y:Operand}{p v:AV}(hn:∀i,nx<=i->κ i=.none)(hg:bZ ρ ops o.guard=some gd)(ho:o.op=.store t x y)(cr:(nth T t).ok=true)
 (h:bif Nat.beq (cellsOf v).length (nth T t).size&&b8 (cellsOf v)then
  match p with
  |.ptr i off=>match κ i with
   |.cells l=>bif Nat.ble (off+(nth T t).size) l.length then dO n o nx k .any [(i,.cells (iD l off (cellsOf v)))] [i]else False
   |_=>False
  |.loc i ver ep p sz idx off=>pY n o nx κ k i ver ep p sz idx off (cellsOf v)
  |_=>False
  else False) (bJ:bz ρ κ gd x p) (Jg:bz ρ κ gd y v):Good P C ops n o nx ρ κ k:=by
 have hh:=aJ h;clear h;obtain⟨hb,h⟩:=hh
 simp only[acj]at hb
 have iZ:=abL hb.1
 split at h
 ·rename_i i off
  split at h
  ·rename_i l hk
   have hh:=aJ h;clear h;obtain⟨ca,h⟩:=hh
   have au:i<nx:=by
    rcases ab1 i nx with h|h
    ·exact h
    ·rw[hn i h]at hk;cases hk
   exact B9 hT hg ho cr hk iZ hb.2 (Nat.le_of_ble_eq_true ca) h au bJ Jg
  ·exact h.elim
 ·exact Ca hT hg ho hn cr iZ hb.2 h bJ Jg
 ·exact h.elim
structure Jh(P:Program)(C:dP->Prop)(ops:List Oper)(n:Nat)(o:Oper)(nx:Nat)(ρ:Nat->AV)(κ:Nat->aq)(k:kN->Nat->Prop):Prop where
 call:∀{gd:Bool} {f:Nat} {l:List AV},bZ ρ ops o.guard=some gd->ua P ops o ρ κ gd f l->jX none (bV P f) n o gd nx κ k l->Good P C ops n o nx ρ κ k
 eN:∀{gd:Bool} {c:Call} {t i:Nat} {l:List AV},bZ ρ ops o.guard=some gd->o.op=.call c->c.callee=.value (.tmp t)->bz ρ κ gd (.tmp t) (.eN i)->lL ρ κ gd c.args.toList l->
  jX (some i) (eC P) n o gd nx κ k l->Good P C ops n o nx ρ κ k
theorem ug(hT:fb P T)(hn:∀i,nx<=i->κ i=.none)(hR:Jh P C ops n o nx ρ κ k)(h:pZ P T ops n o nx ρ κ k):Good P C ops n o nx ρ κ k:=by
 have jD:∀{gd:Bool} {f:Nat} {l:List AV},bZ ρ ops o.guard=some gd->ua P ops o ρ κ gd f l->(xy P n o nx κ gd k f l\/jX none (bV P f) n o gd nx κ k l)->Good P C ops n o nx ρ κ k:=by
  intro gd f l hg bJ h
  rcases h with h|h
  ·exact M1 hn hg bJ h
  ·exact hR.call hg bJ h
 unfold pZ at h
 split at h
 ·exact h.elim
 ·rename_i gd hg
  split at h
  ·rename_i x ho
   exact Rp hg ho h
  ·rename_i x ho
   obtain⟨v,h,bJ⟩:=aD h
   exact KI hg ho h bJ
  ·rename_i x ho
   obtain⟨v,h,bJ⟩:=aD h
   split at h
   ·exact oR hg ho h bJ (fun G v hv=>by cases hv;exact⟨_,rfl⟩)
   ·exact oR hg ho h bJ (fun G v hv=>by cases hv<;>exact⟨_,rfl⟩)
   ·exact oR hg ho h bJ (fun G v hv=>by cases hv with|dv hv=>cases hv;exact⟨_,rfl⟩)
   ·split at h
    ·rename_i hk
     have hh:=aJ h;clear h;obtain⟨hb,h⟩:=hh
     obtain⟨rfl,dJ⟩:=dC hb
     obtain⟨nd,h,dj⟩:=bU h
     split at h
     ·exact wB hg ho hk dJ dj h bJ
     ·exact h.elim
    ·exact h.elim
   ·exact h.elim
  ·rename_i c x y ho
   exact M4 hg ho h
  ·rename_i op t x y ty ho
   obtain⟨va,h,UL⟩:=aD h
   obtain⟨vb,h,UM⟩:=aD h
   cases hb:vb.jY with
   |false=>
    rw[hb]at h
    cases ha:va.ag with
    |false=>rw[ha]at h;exact M7 hT hg ho UL UM h
    |true=>rw[ha]at h;exact UN hT hg ho UL UM h
   |true=>
    rw[hb]at h
    have hb:vb=.dv .az:=by
     cases vb with
     |dv d=>cases d<;>simp[AV.jY]at hb;rfl
     |_=>simp[AV.jY]at hb
    subst hb
    exact G7 hT hg ho UL UM h
  ·rename_i op t x ho
   obtain⟨v,h,bJ⟩:=aD h
   split at h
   ·exact UO hg ho h bJ
   ·exact UP hg ho h bJ
   ·exact h.elim
  ·rename_i x i ho
   obtain⟨v,h,bJ⟩:=aD h
   split at h
   ·split at h
    ·rename_i hl
     rw[force_eq]at h
     exact G8 hg ho h hl bJ
    ·exact h.elim
   ·exact h.elim
  ·rename_i t x f ho
   obtain⟨v,h,bJ⟩:=aD h
   exact KF hT hg ho h bJ
  ·rename_i t x f ho
   obtain⟨v,h,bJ⟩:=aD h
   exact zY hT hg ho h bJ
  ·rename_i t x i ho
   obtain⟨v,h,bJ⟩:=aD h
   obtain⟨iv,h,oQ⟩:=aD h
   cases hb:(nth T t).ok&&(nth T t).isSl&&(nth T (nth T t).elem).ok with
   |true=>rw[hb]at h;exact KG hT hg ho (by rw[hb];exact h) bJ.dn oQ
   |false=>rw[hb]at h;exact G5 hT hg ho h bJ oQ
  ·rename_i t x ho
   have hh:=aJ h;clear h;obtain⟨cr,h⟩:=hh
   obtain⟨v,h,bJ⟩:=aD h
   exact M6 hT hg ho cr h bJ
  ·rename_i t x y ho
   have hh:=aJ h;clear h;obtain⟨cr,h⟩:=hh
   obtain⟨p,h,bJ⟩:=aD h
   obtain⟨v,h,Jg⟩:=aD h
   exact KH hT hn hg ho cr h bJ Jg
  ·rename_i fn first bK ho
   obtain⟨l,h,h1⟩:=kD h
   obtain⟨r,h,h2⟩:=kD h
   split at h
   ·exact vD hg ho h1 h2 (.inl ⟨rfl,rfl⟩) h
   ·exact vD hg ho h1 h2 (.inr ⟨rfl,rfl⟩) h
   ·exact h.elim
  ·rename_i t ho
   have hh:=aJ h;clear h;obtain⟨cr,s,h⟩:=hh
   exact G9 hg ho (hn nx (acb _)) h
  ·rename_i t x ho
   have hh:=aJ h;clear h;obtain⟨cr,h⟩:=hh
   simp only[acj]at cr
   obtain⟨v,h,bJ⟩:=aD h
   split at h
   ·obtain⟨s,h⟩:=h
    exact Ei hT hg ho cr.1 (abL cr.2) (hn nx (acb _)) h bJ
   ·exact h.elim
  ·rename_i t x i c ho
   have hh:=aJ h;clear h;obtain⟨hb,h⟩:=hh
   simp only[acj]at hb
   obtain⟨v,h,bJ⟩:=aD h
   obtain⟨kv,h,oQ⟩:=aD h
   exact KJ hT hg ho hb.1.1 (abL hb.1.2) hb.2 bJ oQ h
  ·rename_i t x i y ho
   have hh:=aJ h;clear h;obtain⟨hb,h⟩:=hh
   simp only[acj]at hb
   obtain⟨v,h,bJ⟩:=aD h
   obtain⟨kv,h,oQ⟩:=aD h
   obtain⟨u,h,Jg⟩:=aD h
   exact Cb hT hg ho hn hb.1 (abL hb.2) bJ oQ Jg h
  ·rename_i t ho
   have hh:=aJ h;clear h;obtain⟨cr,h⟩:=hh
   exact M8 hT hg ho cr (hn nx (acb _)) h
  ·rename_i t x ho
   obtain⟨v,h,bJ⟩:=aD h
   have hh:=aJ h;clear h;obtain⟨hc,h⟩:=hh
   exact UQ hg ho (hn nx (acb _)) hc h bJ
  ·rename_i t parts ho
   have hh:=aJ h;clear h;obtain⟨hb,h⟩:=hh
   simp only[acj]at hb
   obtain⟨l,h,hp⟩:=l6 h
   split at h
   ·rename_i cs hf
    exact M9 hT hg ho hb.1 hp hf hb.2 h
   ·exact h.elim
  ·rename_i t len parts ho
   have hh:=aJ h;clear h;obtain⟨hb,h⟩:=hh
   simp only[acj,Nat.blt_eq]at hb
   obtain⟨⟨⟨⟨h1,h2⟩,h3⟩,h4⟩,h5⟩:=hb
   obtain⟨l,h,hp⟩:=l6 h
   split at h
   ·rename_i cs hf
    have hh:=aJ h;clear h;obtain⟨hc,h⟩:=hh
    exact zZ hT hg ho hn h1 h2 h3 h4 h5 hp hf hc h
   ·exact h.elim
  ·rename_i t l c ho
   have hh:=aJ h;clear h;obtain⟨hb,h⟩:=hh
   simp only[acj,Nat.blt_eq]at hb
   obtain⟨⟨⟨b1,b2⟩,b3⟩,b4⟩:=hb
   obtain⟨lv,h,h1⟩:=aD h
   obtain⟨cv,h,h2⟩:=aD h
   split at h
   ·obtain⟨z,e1,e2,e3,e4,e5,fl,oH,h⟩:=h
    exact Cc hT hg ho b1 b2 b3 b4 (hn nx (acb _)) e1 e2 e3 e4 e5 oH h h1 h2
   ·exact h.elim
  ·rename_i t x l hh ho
   have hq:=aJ h;clear h;obtain⟨hb,h⟩:=hq
   simp only[acj]at hb
   obtain⟨v,h,bJ⟩:=aD h
   obtain⟨lo,h,hl⟩:=AB h
   obtain⟨hi,h,D7⟩:=AB h
   exact MW hT hg ho hn hb.1 hb.2 bJ.dn hl D7 h
  ·rename_i c ho
   split at h
   ·rename_i hc
    split at h
    ·rename_i x t ha dw
     obtain⟨v,h,bJ⟩:=aD h
     exact Ro hT hg ho hc ha dw bJ.dn h
    ·exact h.elim
   ·rename_i hc
    split at h
    ·rename_i x i t t' ha dw
     have hh:=aJ h;clear h;obtain⟨hb,h⟩:=hh
     simp only[acj]at hb
     obtain⟨v,h,bJ⟩:=aD h
     obtain⟨kv,h,oQ⟩:=aD h
     exact Cd hT hg ho hc ha dw hn hb.1 (abL hb.2) bJ oQ h
    ·exact h.elim
   ·rename_i hc
    split at h
    ·rename_i x y t t' ha dw
     have hh:=aJ h;clear h;obtain⟨hb,h⟩:=hh
     simp only[acj]at hb
     obtain⟨⟨⟨b1,b2⟩,b3⟩,b4⟩:=hb
     obtain rfl:=abL b1
     obtain⟨v,h,bJ⟩:=aD h
     obtain⟨u,h,heu⟩:=aD h
     exact Rl hT hg ho hc ha dw hn b2 b3 b4 bJ heu.dn h
    ·exact h.elim
   ·rename_i hc
    split at h
    ·rename_i s x t t' ha dw
     have hh:=aJ h;clear h;obtain⟨hb,h⟩:=hh
     have:=abL hb
     subst this
     obtain⟨sv,h,h1⟩:=aD h
     obtain⟨xv,h,h2⟩:=aD h
     rcases h with h|h
     ·exact Ha hT hg ho hc ha dw hn h h1 h2.dn
     ·exact KK hT hg ho hc ha dw hn h h1.dn h2.dn
    ·exact h.elim
   ·rename_i hc
    split at h
    ·rename_i x y ha
     obtain⟨a,h,h1⟩:=aD h
     obtain⟨b,h,h2⟩:=aD h
     split at h
     ·exact UR hg ho hc ha h h1 h2
     ·exact h.elim
    ·exact h.elim
   ·rename_i hc
    split at h
    ·rename_i x y ha
     obtain⟨a,h,h1⟩:=aD h
     obtain⟨b,h,h2⟩:=aD h
     split at h
     ·exact US hg ho hc ha h h1 h2
     ·exact h.elim
    ·exact h.elim
   ·rename_i f hc
    obtain⟨l,h,h1⟩:=kD h
    exact jD hg (vA ho hc h1) h
   ·rename_i t hc
    obtain⟨v,h,bJ⟩:=aD h
    obtain⟨l,h,h1⟩:=kD h
    split at h
    ·exact jD hg (q7 ho hc bJ h1 (.inl ⟨_,rfl,rfl⟩)) h
    ·exact jD hg (q7 ho hc bJ h1 (.inr (.inl ⟨_,rfl,rfl⟩))) h
    ·exact jD hg (q7 ho hc bJ h1 (.inr (.inr ⟨_,rfl,rfl⟩))) h
    ·rcases h with h|⟨hf,u,h⟩
     ·exact hR.eN hg ho hc bJ h1 h
     ·exact bo (fun c=>by rw[ho];simp) hg h fun _ _ _ _ _ _ _ _ aN=>by rw[hf]at aN;cases aN
    ·exact h.elim
   ·exact h.elim
  ·rename_i t x ho
   have hh:=aJ h;clear h;obtain⟨hb,h⟩:=hh
   simp only[acj]at hb
   obtain⟨v,h,bJ⟩:=aD h
   split at h
   ·rename_i j ver ep p
    split at h
    ·rename_i d hj
     have hh:=aJ h;clear h;obtain⟨ca,h⟩:=hh
     simp only[acj,Bool.or_eq_true]at ca
     obtain⟨nd,h,dj⟩:=bU h
     split at h
     ·exact Na hT hg ho hb.1 (abL hb.2) (hn nx (acb _)) hj (by have:=ca.2;rw[Nat.blt_eq]at this;exact this) (abL ca.1.1)
       (ca.1.2.imp (fun e=>by cases p with|nil=>rfl|cons=>simp[emp]at e) abL) (dj rfl) h bJ
     ·exact h.elim
    ·exact h.elim
   ·exact h.elim
  ·rename_i x ho
   obtain⟨v,h,bJ⟩:=aD h
   split at h
   ·rename_i i
    split at h
    ·rename_i hi
     exact Nb hg ho hi h.1 h.2 bJ
    ·exact h.elim
   ·exact h.elim
  ·rename_i s t x ho
   have hh:=aJ h;clear h;obtain⟨hb,h⟩:=hh
   simp only[acj]at hb
   obtain⟨v,h,bJ⟩:=aD h
   split at h
   ·rename_i hi
    exact Hb hT hg ho hb.1 hb.2 hi h bJ
   ·exact MU hT hg ho hb.1 hb.2 h (bz.dn bJ)
  ·rename_i t x i ho
   have hh:=aJ h;clear h;obtain⟨hb,h⟩:=hh
   simp only[acj]at hb
   obtain⟨v,h,bJ⟩:=aD h
   obtain⟨iv,h,oQ⟩:=aD h
   split at h
   ·obtain⟨b,Ja,h⟩:=h
    exact Nc hT hg ho hb.1 hb.2 Ja h bJ oQ
   ·exact h.elim
  ·exact h.elim
end
end
section
open Go.RowKit
variable [cn]
def Hc:Op->Bool
 |.buildSlice _ _ _=>true
 |.call c=>match c.callee with
  |.builtin .append=>true
  |_=>false
 |_=>false
def su(o:Oper):Oper:={ o with guard:=none }
def Hd(P:Program)(T:List TI)(ops:List Oper)(n:Nat)(o:Oper)(nx:Nat)(ρ:Nat->AV)(κ:Nat->aq)(k:kN->Nat->Prop):Prop:=
 match o.guard with
 |none=>pZ P T ops n o nx ρ κ k
 |some _=>bif Hc o.op then pZ P T ops n o nx ρ κ k\/(match bZ ρ ops o.guard with
  |some g=>(g=false/\aT n o g nx k .any [])\/(g=true/\pZ P T ops n (su o) nx ρ κ k)
  |none=>False)
  else pZ P T ops n o nx ρ κ k
def UT(P:Program)(T:List TI)(ops:List Oper)(n:Nat):List Oper->Nat->Env->ae->(Nat->Env->ae->Prop)->Prop
 |[],nx,env,K,k=>k nx env K
 |o::rest,nx,env,K,k=>Hd P T ops n o nx (look env) (aa K) fun bn ec=>xB bn.dst env fun kP=>xC bn.box K fun K'=>UT P T ops n rest ec kP K' k
structure Rec where
 rows:List Nat
 bn:kN
def Ji:Op->Bool
 |.call c=>match c.callee with
  |.value (.tmp _)=>true
  |_=>false
 |_=>false
def eT:List (Nat×aq)->List Nat
 |[]=>[]
 |p::r=>p.1::eT r
def Jj(κ:Nat->aq)(rd:List Nat):List (Nat×aq)->(List (Nat×aq)->Prop)->Prop
 |[],k=>k []
 |(i,b)::r,k=>((iu i rd&& !iu i (eT r))=true/\κ i=b/\Jj κ rd r k)\/Jj κ rd r fun r=>k ((i,b)::r)
def Nd(ops:List Oper)(o:Oper)(κ:Nat->aq)(bn:kN)(k:kN->Prop):Prop:=
 bif Ji o.op&&Nat.ble 16 ops.length then k bn\/Jj κ bn.reads bn.box fun bx=>k { bn with box:=bx }else k bn
def Jk(P:Program)(T:List TI)(ops:List Oper)(n:Nat):List Oper->Nat->Env->ae->List Rec->(Nat->Env->ae->List Rec->Prop)->Prop
 |[],nx,env,K,acc,k=>k nx env K acc
 |o::rest,nx,env,K,acc,k=>Hd P T ops n o nx (look env) (aa K) fun bn ec=>Nd ops o (aa K) bn fun bn=>xB bn.dst env fun kP=>xC bn.box K fun K'=>Jk P T ops n rest ec kP K' (acc++[⟨gM (look env) (aa K) o,bn⟩]) k
def kn:List Nat->List Nat->Bool
 |[],_=>true
 |x::r,l=>!iu x l&&kn r l
def jE:List (Nat×AV)->List Nat
 |[]=>[]
 |p::r=>p.1::jE r
def du(ops:List Oper)(x y:Rec)(oy:Oper):Bool:=
 kn (jE x.bn.dst) (oy.looksAt ops.toArray)&&kn (jE x.bn.dst) (jE y.bn.dst)&&
 kn (eT x.bn.box) y.rows&&kn (eT x.bn.box) y.bn.reads&&kn (eT x.bn.box) (eT y.bn.box)
def sw(o:Oper):List Nat:=o.after.toList.filterMap fun e=>bif Region.binds .any e then some e.on else none
def oS(ops:List Oper):Nat->Nat->Nat->Bool
 |0,_,_=>false
 |f+1,i,j=>match ops[j]? with
  |some o=>(sw o).any fun d=>Nat.beq d i||oS ops f i d
  |none=>false
def xD:Nat->List Oper->Bool
 |_,[]=>true
 |i,o::r=>(sw o).all (fun d=>Nat.blt d i)&&xD (i+1) r
def sx(ops:List Oper)(rs:List Rec)(j:Nat)(y:Rec)(oy:Oper):Nat->List Rec->List Oper->Bool
 |i,x::xr,ox::or=>(bif Nat.blt i j then oS ops ops.length i j||(du ops x y oy&&du ops y x ox)else true)&&sx ops rs j y oy (i+1) xr or
 |_,_,_=>true
def p5(ops:List Oper)(rs:List Rec):Nat->List Rec->List Oper->Bool
 |j,y::yr,oy::or=>sx ops rs j y oy 0 rs ops&&p5 ops rs (j+1) yr or
 |_,_,_=>true
def uh(ops:List Oper)(rs:List Rec):Bool:=xD 0 ops&&p5 ops rs 0 rs ops
def AH(g:dP)(n nx:Nat)(env:Env)(K:ae)(a:Act)(w:World):Prop:=St g n (look env) (aa K) a w/\g.m<=nx/\∀i,nx<=i->aa K i=.none
theorem sy{F:Fence}{m:Nat}{P:Program}{o:Oper}{a:Act}{w:World}{K K':Act->World->Prop}{Q:Exit->Act->World->Prop}(h:∀a w,K a w->K' a w)(hh:o.wpIn F m P a w K (fun _ _ _=>False)):o.wpIn F m P a w K' Q:=by
 unfold Oper.wpIn at*
 refine⟨hh.1,?_⟩
 have hh:=hh.2
 generalize (o.semAt F.round a.eval).run P w=r at*
 cases r with
 |ok x w'=>
  cases x<;>simp only[Oper.uponIn]at hh⊢<;>
   first
    |exact h _ _ hh
    |exact⟨hh.1,CallsIn.mono hh.2 (fun e w'' he=>by cases e<;>first|exact h _ _ he|exact he.elim|(obtain⟨_,_,hf⟩:=he;exact hf.elim))⟩
    |exact⟨hh.1,RowsIn.mono hh.2 (fun _ _ he=>h _ _ he)⟩
    |exact⟨hh.1,RoundIn.mono hh.2 (fun e w'' he=>by cases e<;>first|exact h _ _ he|exact he.elim|(obtain⟨_,_,hf⟩:=he;exact hf.elim))⟩
    |exact hh.elim
 |halt x w'=>cases x<;>simp only[Oper.uponIn]at hh⊢<;>exact hh.elim
def dc(P:Program)(C:dP->Prop):Prop:=∀(ops:List Oper) (n:Nat) (o:Oper) (nx:Nat) (ρ:Nat->AV) (κ:Nat->aq) (k:kN->Nat->Prop),(∀i,nx<=i->κ i=.none)->Jh P C ops n o nx ρ κ k
section
variable {P:Program} {C:dP->Prop} {T:List TI} {ops:List Oper} {n:Nat} {g:dP}
theorem Ce{o:Oper}{nx:Nat}{ρ:Nat->AV}{κ:Nat->aq}{k:kN->Nat->Prop}(hg:bZ ρ ops o.guard=some true)(h:Good P C ops n (su o) nx ρ κ k):Good P C ops n o nx ρ κ k:=by
 obtain⟨bn,ec,h1,h2,h3,h4⟩:=h
 refine⟨bn,ec,h1,h2,h3,fun F hF ρ' κ' aw g a w dz ai=>?_⟩
 have hs:∀t,t∈(su o).looksAt ops.toArray->ρ' t=ρ t:=fun t ht=>aw.bQ t (by
  unfold Oper.looksAt su at ht
  simp only[List.append_nil]at ht
  unfold Oper.looksAt
  exact List.mem_append_left _ ht)
 have hr:=h4 F hF ρ' κ' ⟨hs,aw.rows,aw.reads,aw.boxes⟩ g a w dz ai
 obtain⟨G,gr⟩:=ai
 unfold lZ at hr⊢
 rw[if_pos (cA hg aw.bQ gr)]
 have hw:Region.wanted (su o) (yielded ops.toArray a.tmps)=true:=rfl
 rw[if_pos hw]at hr
 exact hr
theorem ra(hT:fb P T){o:Oper}{nx:Nat}{ρ:Nat->AV}{κ:Nat->aq}{k:kN->Nat->Prop}(hn:∀i,nx<=i->κ i=.none)(hR:dc P C)(h:Hd P T ops n o nx ρ κ k):Good P C ops n o nx ρ κ k:=by
 have z7:pZ P T ops n o nx ρ κ k->Good P C ops n o nx ρ κ k:=ug hT hn (hR _ _ _ _ _ _ _ hn)
 unfold Hd at h
 split at h
 ·exact z7 h
 ·cases hh:Hc o.op with
  |false=>rw[hh]at h;exact z7 h
  |true=>
   rw[hh]at h
   rcases h with h|h
   ·exact z7 h
   ·split at h
    ·rename_i g hg
     rcases h with⟨hf,h⟩|⟨hf,h⟩
     ·subst hf
      refine bo (fun c hc=>?_) hg h fun _ _ _ _ _ _ _ _ aN=>by cases aN
      rw[hc]at hh;simp[Hc]at hh
     ·subst hf
      exact Ce hg (ug hT hn (hR _ _ _ _ _ _ _ hn) h)
    ·exact h.elim
theorem kQ{nx ec:Nat}{K:ae}{bx:List (Nat×aq)}(hn:∀i,nx<=i->aa K i=.none)(hle:nx<=ec)(hb:∀p,p∈bx->p.1<ec):∀i,ec<=i->aa (wC bx K) i=.none:=by
 intro i hi
 rw[fR]
 have key:∀(l:List (Nat×aq)),(∀p,p∈l->p.1<ec)->ay (aa K) l i=.none:=by
  intro l
  induction l with
  |nil=>intro _;exact hn i (by omega)
  |cons p r ih=>
   intro hl
   obtain⟨j,b⟩:=p
   have:=hl (j,b) (by simp)
   simp only[ay]
   rw[ah _ _ (by simp at this;omega)]
   exact ih fun p hp=>hl p (by simp[hp])
 exact key bx hb
theorem p6{o:Oper}{rest:List Oper}{a:Act}{w:World}{K:Act->World->Prop}{Q:Exit->Act->World->Prop}{F:Fence}(hF:iq F)(h:lZ P F ops.toArray o a w K)(hk:∀a w,K a w->wpListIn F 0 P ops.toArray Q rest a w):wpListIn F 0 P ops.toArray Q (o::rest) a w:=by
 unfold lZ at h
 simp only[wpListIn]
 split at h
 ·rename_i hw;rw[if_pos hw];exact sy hk h
 ·rename_i hw;rw[if_neg hw];exact⟨fun f _=>hF.fn f,hk _ _ h⟩
theorem xE(hT:fb P T)(hR:dc P C)(Cf:C g){F:Fence}(hF:iq F){Q:Exit->Act->World->Prop}{k:Nat->Env->ae->Prop}(hQ:∀nx env K a w,k nx env K->AH g n nx env K a w->Q .normal a w):
 ∀(rest:List Oper) (nx:Nat) (env:Env) (K:ae) (a:Act) (w:World),UT P T ops n rest nx env K k->AH g n nx env K a w->wpListIn F 0 P ops.toArray Q rest a w
 |[],nx,env,K,a,w,h,hs=>hQ nx env K a w h hs
 |o::rest,nx,env,K,a,w,h,⟨hs,dz,hn⟩=>by
  obtain⟨bn,ec,hk,hle,hb,um⟩:=ra hT hn hR h
  rw[xF,xG]at hk
  refine p6 hF (um F hF (look env) (aa K) ⟨fun _ _=>rfl,fun _ _=>rfl,fun _ _=>rfl,fun _ _ _=>rfl⟩ g a w ⟨dz,Cf⟩ hs) fun a' w' eE=>?_
  refine xE hT hR Cf hF hQ rest ec _ _ a' w' hk ⟨?_,Nat.le_trans dz hle,kQ hn hle hb⟩
  rw[kE,fR]
  exact eE
def acc{γ:Type _}(f:Nat->γ)(wr:Nat->List (Nat×γ))(E:Nat->Bool):Nat->Nat->γ
 |0=>f
 |m+1=>if E m then ay (acc f wr E m) (wr m)else acc f wr E m
def keys{γ:Type _}(l:List (Nat×γ)):List Nat:=l.map (·.1)
theorem cz{γ:Type _}(f:Nat->γ):∀{l:List (Nat×γ)} {t:Nat},t∉keys l->ay f l t=f t
 |[],t,_=>rfl
 |(i,x)::r,t,h=>by
  simp only[keys,List.map_cons,abO,not_or]at h
  simp only[ay]
  rw[ah _ _ h.1]
  exact cz f h.2
theorem wQ{γ:Type _}(f f':Nat->γ):∀{l:List (Nat×γ)} {t:Nat},t∈keys l->ay f l t=ay f' l t
 |[],t,h=>by simp[keys]at h
 |(i,x)::r,t,h=>by
  simp only[ay]
  by_cases e:t=i
  ·subst e;simp
  ·rw[ah _ _ e,ah _ _ e]
   simp only[keys,List.map_cons,abO,e,false_or]at h
   exact wQ f f' h
section
variable {γ:Type _} {f:Nat->γ} {wr:Nat->List (Nat×γ)} {E:Nat->Bool}
theorem p7{t:Nat}:∀{j:Nat},(∀i,i<j->E i=false->t∉keys (wr i))->acc f wr E j t=acc f wr (fun _=>true) j t
 |0,_=>rfl
 |j+1,h=>by
  have ih:=p7 (t:=t) (j:=j) fun i hi=>h i (by omega)
  simp only[acc,if_true]
  cases he:E j with
  |true=>
   simp only[if_true]
   by_cases hk:t∈keys (wr j)
   ·exact wQ _ _ hk
   ·rw[cz _ hk,cz _ hk,ih]
  |false=>
   simp only[Bool.false_eq_true,if_false]
   rw[cz _ (h j (by omega) he)]
   exact ih
theorem Ej{t j:Nat}:∀{m:Nat},(∀i,j<=i->i<j+m->E i=true->t∉keys (wr i))->acc f wr E (j+m) t=acc f wr E j t
 |0,_=>rfl
 |m+1,h=>by
  have ih:=Ej (t:=t) (j:=j) (m:=m) fun i h1 h2=>h i h1 (by omega)
  show acc f wr E (j+m+1) t=_
  simp only[acc]
  cases he:E (j+m)with
  |true=>simp only[if_true];rw[cz _ (h _ (by omega) (by omega) he)];exact ih
  |false=>simp only[Bool.false_eq_true,if_false];exact ih
theorem sA{t j len:Nat}(hj:j<=len)(h1:∀i,i<j->E i=false->t∉keys (wr i))(h2:∀i,j<=i->i<len->E i=true->t∉keys (wr i)):acc f wr E len t=acc f wr (fun _=>true) j t:=by
 obtain⟨m,rfl⟩:∃m,len=j+m:=⟨len-j,by omega⟩
 rw[Ej h2,p7 h1]
def mz(E:Nat->Bool)(j:Nat):Nat->Bool:=fun i=>if i=j then true else E i
theorem sB{j:Nat}(hj:E j=false):∀{len:Nat},j<len->(∀i,j<i->i<len->E i=true->∀t,t∈keys (wr j)->t∉keys (wr i))->acc f wr (mz E j) len=ay (acc f wr E len) (wr j)
 |0,h,_=>by omega
 |len+1,h,hd=>by
  rcases ab1 j len with au|gH
  ·have ih:=sB hj au fun i h1 h2=>hd i h1 (by omega)
   have b7:len≠j:=by omega
   simp only[acc,mz,if_neg b7]
   cases he:E len with
   |false=>simp only[Bool.false_eq_true,if_false];exact ih
   |true=>
    simp only[if_true]
    show ay (acc f wr (mz E j) len) (wr len)=_
    rw[ih]
    funext t
    by_cases h1:t∈keys (wr j)
    ·have h2:=hd len au (by omega) he t h1
     rw[cz _ h2]
     exact wQ _ _ h1
    ·rw[cz (ay (acc f wr E len) (wr len)) h1]
     by_cases h2:t∈keys (wr len)
     ·exact wQ _ _ h2
     ·rw[cz _ h2,cz _ h2,cz _ h1]
  ·have:j=len:=by omega
   subst this
   have low:∀m,m<=j->acc f wr (mz E j) m=acc f wr E m:=by
    intro m
    induction m with
    |zero=>intro _;rfl
    |succ m ih=>
     intro hm
     simp only[acc,mz,if_neg (show m≠j by omega)]
     rw[ih (by omega)]
   simp only[acc,hj,Bool.false_eq_true,if_false]
   simp only[mz,if_true]
   rw[low j (acb _)]
end
theorem ME.lo{lo W6:Nat}{o:Oper}{ρ:Nat->AV}{κ:Nat->aq}{bn:kN}(h:ME P C ops n W6 o ρ κ bn)(hl:lo<=W6):ME P C ops n lo o ρ κ bn:=
 fun F hF ρ' κ' aw g a w hg hs=>h F hF ρ' κ' aw g a w ⟨Nat.le_trans hg.1 hl,hg.2⟩ hs
theorem sC{γ:Type _}(f:Nat->γ)(wr wr':Nat->List (Nat×γ))(m:Nat):(∀i,i<m->wr' i=wr i)->acc f wr' (fun _=>true) m=acc f wr (fun _=>true) m:=by
 induction m with
 |zero=>intro _;rfl
 |succ m ih=>intro hh;simp only[acc,if_true];rw[ih fun i hi=>hh i (by omega),hh m (by omega)]
theorem rh{κ:Nat->aq}{rd:List Nat}:∀{bx:List (Nat×aq)} {k:List (Nat×aq)->Prop},Jj κ rd bx k->∃Rq,k Rq/\(∀p,p∈Rq->p∈bx)/\(∀p,p∈bx->p∈Rq\/p.1∈rd)/\∀κ':Nat->aq,(∀i,i∈rd->κ' i=κ i)->ay κ' Rq=ay κ' bx
 |[],k,h=>⟨[],h,fun _ h=>h,fun _ h=>.inl h,fun _ _=>rfl⟩
 |(i,b)::r,k,h=>by
  rcases h with⟨h1,h2,h⟩|h
  ·obtain⟨Rq,hk,ha,hb,hc⟩:=rh h
   simp only[acj,acm]at h1
   refine⟨Rq,hk,fun p hp=>abP _ (ha p hp),fun p hp=>?_,fun κ' hκ=>?_⟩
   ·rcases abO.1 hp with rfl|hp
    ·exact .inr (mA h1.1)
    ·exact hb p hp
   ·rw[hc κ' hκ]
    funext j
    by_cases e:j=i
    ·subst e
     have hkb:∀(l:List (Nat×aq)),eT l=keys l:=fun l=>by
      induction l with
      |nil=>rfl
      |cons p r ih=>simp[eT,keys,ih]
     rw[cz _ (by rw[<-hkb];exact fj h1.2)]
     simp only[ay,bl]
     rw[hκ _ (mA h1.1),h2]
    ·simp only[ay]
     rw[ah _ _ e]
  ·obtain⟨Rq,hk,ha,hb,hc⟩:=rh h
   refine⟨(i,b)::Rq,hk,fun p hp=>?_,fun p hp=>?_,fun κ' hκ=>?_⟩
   ·rcases abO.1 hp with rfl|hp
    ·exact abT
    ·exact abP _ (ha p hp)
   ·rcases abO.1 hp with rfl|hp
    ·exact .inl abT
    ·rcases hb p hp with h|h
     ·exact .inl (abP _ h)
     ·exact .inr h
   ·simp only[ay]
    rw[hc κ' hκ]
theorem He{o:Oper}{nx:Nat}{ρ:Nat->AV}{κ:Nat->aq}{k:kN->Nat->Prop}(h:Good P C ops n o nx ρ κ fun bn ec=>Nd ops o κ bn fun bn=>k bn ec):Good P C ops n o nx ρ κ k:=by
 obtain⟨bn,ec,h1,h2,h3,h4⟩:=h
 unfold Nd at h1
 cases hd:Ji o.op&&Nat.ble 16 ops.length with
 |false=>rw[hd]at h1;exact⟨bn,ec,h1,h2,h3,h4⟩
 |true=>
  rw[hd]at h1
  rcases h1 with h1|h1
  ·exact⟨bn,ec,h1,h2,h3,h4⟩
  ·obtain⟨Rq,hk,ha,hb,hc⟩:=rh h1
   refine⟨_,ec,hk,h2,fun p hp=>h3 p (ha p hp),fun F hF ρ' κ' aw g a w dz ai=>?_⟩
   have hr:=h4 F hF ρ' κ' ⟨aw.bQ,aw.rows,aw.reads,fun i b hib=>?_⟩ g a w dz ai
   ·simp only
    rw[hc κ' aw.reads]
    exact hr
   ·rcases hb _ hib with h|h
    ·exact aw.boxes i b h
    ·exact aw.reads i h
theorem vE(hT:fb P T)(hR:dc P C){k:Nat->Env->ae->List Rec->Prop}{ρ0:Nat->AV}{κ0:Nat->aq}{lo:Nat}:
 ∀(rest done:List Oper) (nx:Nat) (env:Env) (K:ae) (rs:List Rec),ops=done++rest->rs.length=done.length->lo<=nx->
  (∀i,nx<=i->aa K i=.none)->
  look env=acc ρ0 (fun i=>(rs[i]?.map (·.bn.dst)).getD []) (fun _=>true) done.length->aa K=acc κ0 (fun i=>(rs[i]?.map (·.bn.box)).getD []) (fun _=>true) done.length->
  (∀i r o,rs[i]?=some r->ops[i]?=some o->r.rows=gM (acc ρ0 (fun i=>(rs[i]?.map (·.bn.dst)).getD []) (fun _=>true) i) (acc κ0 (fun i=>(rs[i]?.map (·.bn.box)).getD []) (fun _=>true) i) o/\ME P C ops n lo o (acc ρ0 (fun i=>(rs[i]?.map (·.bn.dst)).getD []) (fun _=>true) i) (acc κ0 (fun i=>(rs[i]?.map (·.bn.box)).getD []) (fun _=>true) i) r.bn)->
  Jk P T ops n rest nx env K rs k->
  ∃ec kP K' vF,k ec kP K' vF/\vF.length=ops.length/\lo<=ec/\(∀i,ec<=i->aa K' i=.none)/\
   look kP=acc ρ0 (fun i=>(vF[i]?.map (·.bn.dst)).getD []) (fun _=>true) ops.length/\aa K'=acc κ0 (fun i=>(vF[i]?.map (·.bn.box)).getD []) (fun _=>true) ops.length/\
   ∀i r o,vF[i]?=some r->ops[i]?=some o->r.rows=gM (acc ρ0 (fun i=>(vF[i]?.map (·.bn.dst)).getD []) (fun _=>true) i) (acc κ0 (fun i=>(vF[i]?.map (·.bn.box)).getD []) (fun _=>true) i) o/\ME P C ops n lo o (acc ρ0 (fun i=>(vF[i]?.map (·.bn.dst)).getD []) (fun _=>true) i) (acc κ0 (fun i=>(vF[i]?.map (·.bn.box)).getD []) (fun _=>true) i) r.bn
 |[],done,nx,env,K,rs,Cg,hlen,mj,hn,he,hk,bq,h=>by
  have:done.length=ops.length:=by rw[Cg];simp
  exact⟨nx,env,K,rs,h,by omega,mj,hn,by rw[<-this];exact he,by rw[<-this];exact hk,bq⟩
 |o::rest,done,nx,env,K,rs,Cg,hlen,mj,hn,he,hk,bq,h=>by
  obtain⟨bn,ec,fN,hle,hb,um⟩:=He (ops:=ops) (n:=n) (o:=o) (nx:=nx) (ρ:=look env) (κ:=aa K) (k:=fun bn ec=>xB bn.dst env fun kP=>xC bn.box K fun K'=>Jk P T ops n rest ec kP K' (rs++[(⟨gM (look env) (aa K) o,bn⟩:Rec)]) k) (ra hT hn hR h)
  rw[xF,xG]at fN
  have oT:∀i,i<rs.length->(rs++[⟨gM (look env) (aa K) o,bn⟩])[i]?=rs[i]?:=fun i hi=>List.getElem?_append_left hi
  have xH:(rs++[(⟨gM (look env) (aa K) o,bn⟩:Rec)])[done.length]?=some ⟨gM (look env) (aa K) o,bn⟩:=by rw[<-hlen];simp
  have iY:∀m,m<=done.length->acc ρ0 (fun i=>((rs++[(⟨gM (look env) (aa K) o,bn⟩:Rec)])[i]?.map (·.bn.dst)).getD []) (fun _=>true) m=acc ρ0 (fun i=>(rs[i]?.map (·.bn.dst)).getD []) (fun _=>true) m:=
   fun m hm=>sC _ _ _ m fun i hi=>by rw[oT i (by omega)]
  have lJ:∀m,m<=done.length->acc κ0 (fun i=>((rs++[(⟨gM (look env) (aa K) o,bn⟩:Rec)])[i]?.map (·.bn.box)).getD []) (fun _=>true) m=acc κ0 (fun i=>(rs[i]?.map (·.bn.box)).getD []) (fun _=>true) m:=
   fun m hm=>sC _ _ _ m fun i hi=>by rw[oT i (by omega)]
  refine vE hT hR rest (done++[o]) ec (Ek bn.dst env) (wC bn.box K) (rs++[⟨gM (look env) (aa K) o,bn⟩]) (by rw[Cg];simp) (by simp[hlen]) (Nat.le_trans mj hle) (kQ hn hle hb) ?_ ?_ ?_ fN
  ·rw[kE,abU]
   simp only[List.length_cons,List.length_nil,Nat.zero_add,acc,if_true]
   rw[iY _ (acb _),xH,<-he];rfl
  ·rw[fR,abU]
   simp only[List.length_cons,List.length_nil,Nat.zero_add,acc,if_true]
   rw[lJ _ (acb _),xH,<-hk];rfl
  ·intro i r o' hr jz
   rcases ab1 i rs.length with au|gH
   ·rw[oT i au]at hr
    rw[iY i (by omega),lJ i (by omega)]
    exact bq i r o' hr jz
   ·have hi:i=done.length:=by
     have:=(abI.1 hr).1
     simp at this;omega
    subst hi
    rw[xH]at hr
    injection hr with hr
    subst hr
    rw[Cg]at jz
    simp at jz
    subst jz
    rw[iY _ (acb _),lJ _ (acb _),<-he,<-hk]
    exact⟨rfl,um.lo mj⟩
end
end
end Go.TM
