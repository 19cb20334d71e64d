import Derived.Test.YtpbdohkbiklflaaGreatDoorSM10
import Derived.Orders
set_option linter.unusedVariables false
set_option linter.unusedSimpArgs false
set_option linter.unusedSectionVars false
namespace Go.TM
open Go.RowKit
variable [cj]
section
variable {P:Program} {C:df→Prop} {T:List TI} {ops:List Oper} {n:Nat} {o:Oper} {nx:Nat} {ρ:Nat→AV} {κ:Nat→ak} {k:iP→Nat→Prop} {gd:Bool}
theorem l8 {x:Operand} {v:AV} (h:ev ρ κ x=v):bf ρ κ gd x v:=by
 intro ρ' κ' ao g n a w G ai _
 rw [←h]
 exact wO ρ' κ' ao g n a w G ai
theorem qv {x:Operand} {v:AV} {g':Bool} (h:ev ρ κ x=.opt g' v) (hg:gd=true→g'=true) (hr:res κ v=v):bf ρ κ gd x v:=by
 have:=zS h hg
 rwa [hr] at this
theorem G4 {c x y:Operand} (hg:bF ρ ops o.guard=some gd) (ho:o.op=.pick c x y)
  (h:match ev ρ κ c,ev ρ κ x,ev ρ κ y with
   | .dv (.bool b),.dv (.bool p),.dv (.bool q)=>aM n o gd nx k (.dv (.bool (bif b then p else q))) []
   | .dv (.bool b),.opt gp (.dv (.bool p)),.dv (.bool q)=>(gd=true→b=true→gp=true)∧aM n o gd nx k (.dv (.bool (bif b then p else q))) []
   | .dv (.bool b),.dv (.bool p),.opt gq (.dv (.bool q))=>(gd=true→b=false→gq=true)∧aM n o gd nx k (.dv (.bool (bif b then p else q))) []
   | .opt gb (.dv (.bool b)),.opt gp (.dv (.bool p)),.dv (.bool q)=>(gd=true→gb=true∧(b=true→gp=true))∧aM n o gd nx k (.dv (.bool (bif b then p else q))) []
   | .opt gb (.dv (.bool b)),.dv (.bool p),.opt gq (.dv (.bool q))=>(gd=true→gb=true∧(b=false→gq=true))∧aM n o gd nx k (.dv (.bool (bif b then p else q))) []
   | _,_,_=>False):Good P C ops n o nx ρ κ k:=by
 split at h
 ·rename_i b p q h1 h2 h3
  exact kH hg ho h (l8 h1) (l8 h2) (l8 h3)
 ·rename_i b gp p q h1 h2 h3
  exact kH hg ho h.2 (l8 h1) (qv h2 (by simp only [Bool.and_eq_true]; exact fun hh=>h.1 hh.1 hh.2) rfl) (l8 h3)
 ·rename_i b p gq q h1 h2 h3
  exact kH hg ho h.2 (l8 h1) (l8 h2) (qv h3 (by simp only [Bool.and_eq_true,Bool.not_eq_true']; exact fun hh=>h.1 hh.1 hh.2) rfl)
 ·rename_i gb b gp p q h1 h2 h3
  exact kH hg ho h.2 (qv h1 (fun hh=>(h.1 hh).1) rfl) (qv h2 (by simp only [Bool.and_eq_true]; exact fun hh=>(h.1 hh.1).2 hh.2) rfl) (l8 h3)
 ·rename_i gb b p gq q h1 h2 h3
  exact kH hg ho h.2 (qv h1 (fun hh=>(h.1 hh).1) rfl) (l8 h2) (qv h3 (by simp only [Bool.and_eq_true,Bool.not_eq_true']; exact fun hh=>(h.1 hh.1).2 hh.2) rfl)
 ·exact h.elim
theorem Kb (hT:dV P T) {c:Call} {x:Operand} {t:Nat} {v:AV} (hg:bF ρ ops o.guard=some gd) (ho:o.op=.call c) (hc:c.callee=.builtin .len) (ha:c.args.toList=[x]) (iH:c.argTypes.toList=[t])
  (bj:bf ρ κ gd x v) (h:xX (nth T t) κ gd v fun r rd=>aM n o gd nx k r rd):Good P C ops n o nx ρ κ k:=by
 unfold xX at h
 split at h
 ·have hh:=aE h; clear h; obtain ⟨hb,h⟩:=hh
  simp only [Bool.and_eq_true] at hb
  refine od hT hg ho hc ha iH h bj hb.1 fun _ κ' _ G w v _ hv=>.inl ⟨hb.2,?_⟩
  cases hv with | dv hv=>cases hv with
  | slnil=>exact ⟨_,_,_,rfl,rfl⟩
  | sl=>exact ⟨_,_,_,rfl,rfl⟩
 ·have hh:=aE h; clear h; obtain ⟨hb,h⟩:=hh
  simp only [Bool.and_eq_true] at hb
  refine od hT hg ho hc ha iH h bj hb.1 fun _ κ' _ G w v _ hv=>.inl ⟨hb.2,?_⟩
  cases hv with | dv hv=>cases hv with
  | aD=>exact ⟨_,_,_,rfl,rfl⟩
 ·have hh:=aE h; clear h; obtain ⟨hb,h⟩:=hh
  simp only [Bool.and_eq_true] at hb
  refine od hT hg ho hc ha iH h bj hb.1 fun _ κ' _ G w v _ hv=>.inr (.inl ⟨hb.2,?_⟩)
  cases hv with | dv hv=>cases hv with
  | str=>exact ⟨_,rfl,rfl⟩
 ·rename_i i ver ep p
  split at h
  ·rename_i aT bz d hk
   have hh:=aE h; clear h; obtain ⟨hb,h⟩:=hh
   obtain ⟨rfl,c9⟩:=c6 hb
   obtain ⟨nd,h,cT⟩:=bp h
   split at h
   ·rename_i sz l
    have hh:=aE h; clear h; obtain ⟨hb,h⟩:=hh
    simp only [Bool.and_eq_true] at hb
    refine od hT hg ho hc ha iH h bj hb.1 fun aI κ' ao G w v hf hv=>.inl ⟨hb.2,?_⟩
    obtain ⟨u,h1,_,aS⟩:=hf.node ((ao i (by simp)).trans hk) (cT aI) rfl
    cases hv with | own _ _ _ _ _ hh hc =>
    rw [cB c9,h1] at hh
    injection hh with hh
    subst hh
    rcases aS with ⟨rfl,rfl⟩ | ⟨gb,ob,cap,cc,tt,rfl,_⟩
    ·exact ⟨_,_,_,rfl,rfl⟩
    ·exact ⟨_,_,_,rfl,rfl⟩
   ·rename_i ks m
    have hh:=aE h; clear h; obtain ⟨hb,h⟩:=hh
    simp only [Bool.and_eq_true] at hb
    refine od hT hg ho hc ha iH h bj hb.1 fun aI κ' ao G w v hf hv=>.inr (.inr ⟨hb.2,?_⟩)
    obtain ⟨u,h1,_,aS⟩:=hf.node ((ao i (by simp)).trans hk) (cT aI) rfl
    cases hv with | own _ _ _ _ _ hh hc =>
    rw [cB c9,h1] at hh
    injection hh with hh
    subst hh
    obtain ⟨m0,o5,gb,es,clock,rfl,hw,aN,_⟩:=aS
    exact ⟨gb,es,clock,rfl,hw,by rw [aN,o5.length_eq]⟩
   ·exact h.elim
  ·exact h.elim
 ·have hh:=aE h; clear h; obtain ⟨hb,h⟩:=hh
  simp only [Bool.and_eq_true] at hb
  refine od hT hg ho hc ha iH h bj hb.1 fun _ κ' _ G w v _ hv=>.inl ⟨hb.2,?_⟩
  cases hv
  exact ⟨_,_,_,rfl,rfl⟩
 ·have hh:=aE h; clear h; obtain ⟨hb,h⟩:=hh
  simp only [Bool.and_eq_true] at hb
  refine od hT hg ho hc ha iH h bj hb.1 fun _ κ' _ G w v _ hv=>.inl ⟨hb.2,?_⟩
  cases hv
  exact ⟨_,_,_,rfl,rfl⟩
 ·exact h.elim
theorem sx {x:Operand} {i ver ep bz:Nat} {p:List PS} {d y:DV} (hg:bF ρ ops o.guard=some gd) (ho:o.op=.nilCheck x) (hk:κ i=.tree ver bz d) (c9:p=[] ∨ ep=bz) (cT:gd=true→get d p=some (.dG y))
  (hr:aM n o gd nx k (.loc i ver ep p 1 0 0) [i]) (bj:bf ρ κ gd x (.own i ver ep p)):Good P C ops n o nx ρ κ k:=by
 refine aY (fun c=>by rw [ho]; simp) hg hr fun ρ' κ' ao g a w G ai aI=>?_
 have hv:=bj ρ' κ' (ao.op (by rw [ho]; simp [Op.operands])) g n a w G ai aI
 generalize hx:a.eval x=v at hv
 obtain ⟨u,h1,_,aS⟩:=ai.fit.node ((ao.reads i (by simp)).trans hk) (cT aI) rfl
 cases hv with | own _ _ _ _ _ hh hc =>
 have vW:=hh
 rw [cB c9,h1] at hh
 injection hh with hh
 subst hh
 obtain ⟨gb,c,t,rfl,hw,_⟩:=aS
 refine ⟨.pointer (some ⟨gb,0,none⟩),by simp [execOp,ho,hx],?_⟩
 have:=aC.lP (G:=G) i ver ep p 1 0 0 _ vW
 rw [cw] at this
 exact this
theorem vX (hT:dV P T) {t f:Nat} {x:Operand} {v:AV} (hg:bF ρ ops o.guard=some gd) (ho:o.op=.fieldAddr t x f)
  (h:match (nth T t).ok,(nth T t).fields[f]? with
   | true,some (off,sz+1)=>match v with
    | .ptr i o'=>aM n o gd nx k (.ptr i (o'+off)) []
    | .dv (.at x o')=>aM n o gd nx k (.dv (.at x (o'+off))) []
    | .loc i ver ep p oe idx o'=>aM n o gd nx k (.loc i ver ep p oe idx (o'+off)) []
    | _=>False
   | _,_=>False) (bj:bf ρ κ gd x v):Good P C ops n o nx ρ κ k:=by
 split at h
 ·rename_i off sz bK hf
  split at h
  ·refine kI hT hg ho bK hf h bj (fun G v hv=>?_)
   cases hv with
   | ptr _ _ b hb =>
    refine ⟨_,rfl,?_⟩
    rw [cw]
    exact .ptr _ _ b hb
  ·refine kI hT hg ho bK hf h bj (fun G v hv=>?_)
   cases hv with | dv hv=>cases hv with
   | _ =>
    rename_i A cell jL hc hr
    refine ⟨_,rfl,?_⟩
    rw [cq]
    exact .dv (.at _ _ A cell jL hc hr)
  ·refine kI hT hg ho bK hf h bj (fun G v hv=>?_)
   cases hv with
   | loc _ _ _ _ _ _ _ A m c he =>
    refine ⟨_,rfl,?_⟩
    rw [cq,Nat.add_assoc]
    exact .loc _ _ _ _ _ _ _ A m c he
   | lP _ _ _ _ _ _ _ A he =>
    refine ⟨_,rfl,?_⟩
    rw [cq,Nat.add_assoc]
    exact .lP _ _ _ _ _ _ _ A he
  ·exact h.elim
 ·exact h.elim
theorem E9 (hT:dV P T) {t f:Nat} {x:Operand} {v:AV} (hg:bF ρ ops o.guard=some gd) (ho:o.op=.field t x f)
  (h:match (nth T t).ok,(nth T t).fields[f]?,(nth T t).xY[f]? with
   | true,some (off,sz+1),some ft=>match v with
    | .agg l=>bif (nth T ft).ok && Nat.beq (nth T ft).size (sz+1) then bR (nth T ft).agg l off (sz+1) fun v=>aM n o gd nx k v [] else False
    | _=>False
   | _,_,_=>False) (bj:bf ρ κ gd x v):Good P C ops n o nx ρ κ k:=by
 split at h
 ·rename_i off sz ft bK hf Pp
  split at h
  ·have hh:=aE h; clear h; obtain ⟨hb,h⟩:=hh
   simp only [Bool.and_eq_true] at hb
   exact G5 hT hg ho bK hf Pp hb.1 (Nat.eq_of_beq_eq_true hb.2) h bj
  ·exact h.elim
 ·exact h.elim
theorem Fa (hT:dV P T) {t:Nat} {x i:Operand} {v iv:AV} (hg:bF ρ ops o.guard=some gd) (ho:o.op=.indexAddr t x i)
  (h:bif (nth T t).ok && (nth T t).isSl && (nth T (nth T t).elem).ok then
    match v,iv with
    | .dv (.sl sz l),.dv (.int _ m)=>bif Nat.beq sz (nth T (nth T t).elem).size then ∃x,(gd=true→0≤m∧l[m.toNat]?=some x)∧aM n o gd nx k (.dv (.at x 0)) [] else False
    | .own j ver ep p,.dv (.int _ m)=>match κ j with
     | .tree aT bz d=>bif Nat.beq ver aT && (emp p || Nat.beq ep bz) then gN gd d p fun nd=>match nd with
      | .ar sz l=>bif Nat.beq sz (nth T (nth T t).elem).size then (gd=true→0≤m∧m<l.length)∧aM n o gd nx k (.loc j ver ep p sz m.toNat 0) [j] else False
      | _=>False
      else False
     | _=>False
    | .sle j len,.dv (.int _ m)=>(gd=true→0≤m∧m<len)∧aM n o gd nx k (.ptr j (m.toNat * (nth T (nth T t).elem).size)) []
    | .pre j ver ep p sz lo len,.dv (.int _ m)=>bif Nat.beq sz (nth T (nth T t).elem).size then (gd=true→0≤m∧m<len)∧aM n o gd nx k (.loc j ver ep p sz (lo+m.toNat) 0) [] else False
    | _,_=>False
   else False) (bj:bf ρ κ gd x v) (l9:bf ρ κ gd i iv):Good P C ops n o nx ρ κ k:=by
 have hh:=aE h; clear h; obtain ⟨hb,h⟩:=hh
 simp only [Bool.and_eq_true] at hb
 split at h
 ·have hh:=aE h; clear h; obtain ⟨cl,x,hy,h⟩:=hh
  exact zT hT hg ho hb.1.1 hb.1.2 hb.2 (Nat.eq_of_beq_eq_true cl) hy h bj l9
 ·split at h
  ·rename_i hk
   have hh:=aE h; clear h; obtain ⟨cl,h⟩:=hh
   obtain ⟨rfl,c9⟩:=c6 cl
   obtain ⟨nd,h,cT⟩:=bp h
   split at h
   ·have hh:=aE h; clear h; obtain ⟨vM,hy,h⟩:=hh
    exact xZ hT hg ho hb.1.1 hb.1.2 hb.2 (Nat.eq_of_beq_eq_true vM) hk c9 cT hy h bj l9
   ·exact h.elim
  ·exact h.elim
 ·exact x3 hT hg ho hb.1.1 hb.1.2 hb.2 h.1 h.2 bj l9
 ·have hh:=aE h; clear h; obtain ⟨cl,hy,h⟩:=hh
  exact x4 hT hg ho hb.1.1 hb.1.2 hb.2 (Nat.eq_of_beq_eq_true cl) hy h bj l9
 ·exact h.elim
theorem Cf (hT:dV P T) {t:Nat} {x i:Operand} {v iv:AV} (hg:bF ρ ops o.guard=some gd) (ho:o.op=.indexAddr t x i)
  (h:x5 (nth T t) (nth T (nth T t).elem) gd v iv fun v=>aM n o gd nx k v []) (bj:bf ρ κ gd x v) (l9:bf ρ κ gd i iv):Good P C ops n o nx ρ κ k:=by
 have hh:=aE h; clear h; obtain ⟨hb,h⟩:=hh
 simp only [Bool.and_eq_true] at hb
 have zU:=Nat.eq_of_beq_eq_true hb.1.2
 split at h
 ·rename_i kd m
  obtain ⟨hm,h⟩:=h
  split at h
  ·rename_i y off
   refine kJ hT hg ho hb.1.1 zU hb.2 hm h bj l9 fun G v hv=>?_
   cases hv with | dv hv=>cases hv with | «at» _ _ A cell jL hc hr =>
   exact ⟨_,rfl,.dv (by rw [cq]; exact .at y _ A cell jL hc hr)⟩
  ·rename_i j off
   refine kJ hT hg ho hb.1.1 zU hb.2 hm h bj l9 fun G v hv=>?_
   cases hv with | ptr _ _ b hb =>
   exact ⟨_,rfl,by rw [show (⟨b,off,none⟩:Addr).add (m.toNat * (nth T (nth T t).elem).size)=⟨b,off+m.toNat * (nth T (nth T t).elem).size,none⟩ by unfold Addr.add; split <;> simp [*]]; exact .ptr j _ b hb⟩
  ·rename_i j ver ep p sz idx off
   refine kJ hT hg ho hb.1.1 zU hb.2 hm h bj l9 fun G v hv=>?_
   cases hv with
   | loc _ _ _ _ _ _ _ A n c e=>exact ⟨_,rfl,by rw [cq,Nat.add_assoc]; exact .loc j ver ep p sz idx _ A n c e⟩
   | lP _ _ _ _ _ _ _ A e=>exact ⟨_,rfl,by rw [cq,Nat.add_assoc]; exact .lP j ver ep p sz idx _ A e⟩
  ·exact h.elim
 ·exact h.elim
theorem G6 (hT:dV P T) {t:Nat} {x:Operand} {v:AV} (hg:bF ρ ops o.guard=some gd) (ho:o.op=.load t x) (bK:(nth T t).ok=true)
  (h:match v with
   | .ptr i off=>match κ i with
    | .cells l=>bR (nth T t).agg l off (nth T t).size fun v=>aM n o gd nx k v [i]
    | _=>False
   | .dv (.at x off)=>bR (nth T t).agg (j4 x.cells) off (nth T t).size fun v=>aM n o gd nx k v []
   | .loc i ver ep p sz idx off=>match κ i with
    | .tree aT bz d=>bif Nat.beq ver aT && (emp p || Nat.beq ep bz) then gN gd d p fun nd=>iI i ver bz p gd sz idx nd fun l =>
      bR (nth T t).agg l off (nth T t).size fun v=>aM n o gd nx k v [i]
     else False
    | _=>False
   | _=>False) (bj:bf ρ κ gd x v):Good P C ops n o nx ρ κ k:=by
 split at h
 ·split at h
  ·rename_i hk
   exact zV hT hg ho bK hk h bj
  ·exact h.elim
 ·exact Cg hT hg ho bK h bj
 ·split at h
  ·rename_i hk
   have hh:=aE h; clear h; obtain ⟨cl,h⟩:=hh
   obtain ⟨rfl,c9⟩:=c6 cl
   exact zW hT hg ho bK hk c9 h bj
  ·exact h.elim
 ·exact h.elim
theorem Fb (hT:dV P T) {t:Nat} {x y:Operand} {p v:AV} (hn:∀i,nx≤i→κ i=.none) (hg:bF ρ ops o.guard=some gd) (ho:o.op=.store t x y) (bK:(nth T t).ok=true)
  (h:bif Nat.beq (cellsOf v).length (nth T t).size && bI (cellsOf v) then
    match p with
    | .ptr i off=>match κ i with
     | .cells l=>bif Nat.ble (off+(nth T t).size) l.length then dg n o nx k .any [(i,.cells (fT l off (cellsOf v)))] [i] else False
     | _=>False
    | .loc i ver ep p sz idx off=>m9 n o nx κ k i ver ep p sz idx off (cellsOf v)
    | _=>False
   else False) (bj:bf ρ κ gd x p) (DX:bf ρ κ gd y v):Good P C ops n o nx ρ κ k:=by
 have hh:=aE h; clear h; obtain ⟨hb,h⟩:=hh
 simp only [Bool.and_eq_true] at hb
 have jN:=Nat.eq_of_beq_eq_true hb.1
 split at h
 ·rename_i i off
  split at h
  ·rename_i l hk
   have hh:=aE h; clear h; obtain ⟨cl,h⟩:=hh
   have aK:i<nx:=by
    rcases Nat.lt_or_ge i nx with h | h
    ·exact h
    ·rw [hn i h] at hk; cases hk
   exact x6 hT hg ho bK hk jN hb.2 (Nat.le_of_ble_eq_true cl) h aK bj DX
  ·exact h.elim
 ·exact x7 hT hg ho hn bK jN hb.2 h bj DX
 ·exact h.elim
structure DY (P:Program) (C:df→Prop) (ops:List Oper) (n:Nat) (o:Oper) (nx:Nat) (ρ:Nat→AV) (κ:Nat→ak) (k:iP→Nat→Prop):Prop where
 call:∀{gd:Bool} {f:Nat} {l:List AV},bF ρ ops o.guard=some gd→qp P ops o ρ κ gd f l→jQ none (dA P f) n o gd nx κ k l→Good P C ops n o nx ρ κ k
 fc:∀{gd:Bool} {c:Call} {t i:Nat} {l:List AV},bF ρ ops o.guard=some gd→o.op=.call c→c.callee=.value (.tmp t)→bf ρ κ gd (.tmp t) (.fc i)→jB ρ κ gd c.args.toList l →
  jQ (some i) (qw P) n o gd nx κ k l→Good P C ops n o nx ρ κ k
theorem qx (hT:dV P T) (hn:∀i,nx≤i→κ i=.none) (hR:DY P C ops n o nx ρ κ k) (h:na P T ops n o nx ρ κ k):Good P C ops n o nx ρ κ k:=by
 have jC:∀{gd:Bool} {f:Nat} {l:List AV},bF ρ ops o.guard=some gd→qp P ops o ρ κ gd f l→(tr P n o nx κ gd k f l ∨ jQ none (dA P f) n o gd nx κ k l)→Good P C ops n o nx ρ κ k:=by
  intro gd f l hg bj h
  rcases h with h | h
  ·exact GY hn hg bj h
  ·exact hR.call hg bj h
 unfold na at h
 split at h
 ·exact h.elim
 ·rename_i gd hg
  split at h
  ·rename_i x ho
   exact Kc hg ho h
  ·rename_i x ho
   obtain ⟨v,h,bj⟩:=aB h
   exact Fc hg ho h bj
  ·rename_i x ho
   obtain ⟨v,h,bj⟩:=aB h
   split at h
   ·exact ma hg ho h bj (fun G v hv=>by cases hv; exact ⟨_,rfl⟩)
   ·exact ma hg ho h bj (fun G v hv=>by cases hv <;> exact ⟨_,rfl⟩)
   ·exact ma hg ho h bj (fun G v hv=>by cases hv with | dv hv=>cases hv; exact ⟨_,rfl⟩)
   ·split at h
    ·rename_i hk
     have hh:=aE h; clear h; obtain ⟨hb,h⟩:=hh
     obtain ⟨rfl,c9⟩:=c6 hb
     obtain ⟨nd,h,cT⟩:=bp h
     split at h
     ·exact sx hg ho hk c9 cT h bj
     ·exact h.elim
    ·exact h.elim
   ·exact h.elim
  ·rename_i c x y ho
   exact G4 hg ho h
  ·rename_i op t x y ty ho
   obtain ⟨va,h,MV⟩:=aB h
   obtain ⟨vb,h,MW⟩:=aB h
   cases hb:vb.ia with
   | false =>
    rw [hb] at h
    cases ha:va.ag with
    | false=>rw [ha] at h; exact G7 hT hg ho MV MW h
    | true=>rw [ha] at h; exact MX hT hg ho MV MW h
   | true =>
    rw [hb] at h
    have hb:vb=.dv .aD:=by
     cases vb with
     | dv d=>cases d <;> simp [AV.ia] at hb; rfl
     | _=>simp [AV.ia] at hb
    subst hb
    exact Ch hT hg ho MV MW h
  ·rename_i op t x ho
   obtain ⟨v,h,bj⟩:=aB h
   split at h
   ·exact MY hg ho h bj
   ·exact MZ hg ho h bj
   ·exact h.elim
  ·rename_i x i ho
   obtain ⟨v,h,bj⟩:=aB h
   split at h
   ·split at h
    ·rename_i hl
     rw [force_eq] at h
     exact Ci hg ho h hl bj
    ·exact h.elim
   ·exact h.elim
  ·rename_i t x f ho
   obtain ⟨v,h,bj⟩:=aB h
   exact E9 hT hg ho h bj
  ·rename_i t x f ho
   obtain ⟨v,h,bj⟩:=aB h
   exact vX hT hg ho h bj
  ·rename_i t x i ho
   obtain ⟨v,h,bj⟩:=aB h
   obtain ⟨iv,h,l9⟩:=aB h
   cases hb:(nth T t).ok && (nth T t).isSl && (nth T (nth T t).elem).ok with
   | true=>rw [hb] at h; exact Fa hT hg ho (by rw [hb]; exact h) bj.dn l9
   | false=>rw [hb] at h; exact Cf hT hg ho h bj l9
  ·rename_i t x ho
   have hh:=aE h; clear h; obtain ⟨bK,h⟩:=hh
   obtain ⟨v,h,bj⟩:=aB h
   exact G6 hT hg ho bK h bj
  ·rename_i t x y ho
   have hh:=aE h; clear h; obtain ⟨bK,h⟩:=hh
   obtain ⟨p,h,bj⟩:=aB h
   obtain ⟨v,h,DX⟩:=aB h
   exact Fb hT hn hg ho bK h bj DX
  ·rename_i fn first bh ho
   obtain ⟨l,h,h1⟩:=iJ h
   obtain ⟨r,h,h2⟩:=iJ h
   split at h
   ·exact rL hg ho h1 h2 (.inl ⟨rfl,rfl⟩) h
   ·exact rL hg ho h1 h2 (.inr ⟨rfl,rfl⟩) h
   ·exact h.elim
  ·rename_i t ho
   have hh:=aE h; clear h; obtain ⟨bK,s,h⟩:=hh
   exact Cj hg ho (hn nx (Nat.le_refl _)) h
  ·rename_i t x ho
   have hh:=aE h; clear h; obtain ⟨bK,h⟩:=hh
   simp only [Bool.and_eq_true] at bK
   obtain ⟨v,h,bj⟩:=aB h
   split at h
   ·obtain ⟨s,h⟩:=h
    exact zX hT hg ho bK.1 (Nat.eq_of_beq_eq_true bK.2) (hn nx (Nat.le_refl _)) h bj
   ·exact h.elim
  ·rename_i t x i c ho
   have hh:=aE h; clear h; obtain ⟨hb,h⟩:=hh
   simp only [Bool.and_eq_true] at hb
   obtain ⟨v,h,bj⟩:=aB h
   obtain ⟨kv,h,l9⟩:=aB h
   exact Fe hT hg ho hb.1.1 (Nat.eq_of_beq_eq_true hb.1.2) hb.2 bj l9 h
  ·rename_i t x i y ho
   have hh:=aE h; clear h; obtain ⟨hb,h⟩:=hh
   simp only [Bool.and_eq_true] at hb
   obtain ⟨v,h,bj⟩:=aB h
   obtain ⟨kv,h,l9⟩:=aB h
   obtain ⟨u,h,DX⟩:=aB h
   exact x8 hT hg ho hn hb.1 (Nat.eq_of_beq_eq_true hb.2) bj l9 DX h
  ·rename_i t ho
   have hh:=aE h; clear h; obtain ⟨bK,h⟩:=hh
   exact G8 hT hg ho bK (hn nx (Nat.le_refl _)) h
  ·rename_i t x ho
   obtain ⟨v,h,bj⟩:=aB h
   have hh:=aE h; clear h; obtain ⟨hc,h⟩:=hh
   exact M0 hg ho (hn nx (Nat.le_refl _)) hc h bj
  ·rename_i t parts ho
   have hh:=aE h; clear h; obtain ⟨hb,h⟩:=hh
   simp only [Bool.and_eq_true] at hb
   obtain ⟨l,h,hp⟩:=jR h
   split at h
   ·rename_i cs hf
    exact G9 hT hg ho hb.1 hp hf hb.2 h
   ·exact h.elim
  ·rename_i t len parts ho
   have hh:=aE h; clear h; obtain ⟨hb,h⟩:=hh
   simp only [Bool.and_eq_true,Nat.blt_eq] at hb
   obtain ⟨⟨⟨⟨h1,h2⟩,h3⟩,h4⟩,h5⟩:=hb
   obtain ⟨l,h,hp⟩:=jR h
   split at h
   ·rename_i cs hf
    have hh:=aE h; clear h; obtain ⟨hc,h⟩:=hh
    exact vY hT hg ho hn h1 h2 h3 h4 h5 hp hf hc h
   ·exact h.elim
  ·rename_i t l c ho
   have hh:=aE h; clear h; obtain ⟨hb,h⟩:=hh
   simp only [Bool.and_eq_true,Nat.blt_eq] at hb
   obtain ⟨⟨⟨b1,b2⟩,b3⟩,b4⟩:=hb
   obtain ⟨lv,h,h1⟩:=aB h
   obtain ⟨cv,h,h2⟩:=aB h
   split at h
   ·obtain ⟨z,e1,e2,e3,e4,e5,fl,J8,h⟩:=h
    exact x9 hT hg ho b1 b2 b3 b4 (hn nx (Nat.le_refl _)) e1 e2 e3 e4 e5 J8 h h1 h2
   ·exact h.elim
  ·rename_i t x l hh ho
   have hq:=aE h; clear h; obtain ⟨hb,h⟩:=hq
   simp only [Bool.and_eq_true] at hb
   obtain ⟨v,h,bj⟩:=aB h
   obtain ⟨lo,h,hl⟩:=wK h
   obtain ⟨hi,h,xV⟩:=wK h
   exact GV hT hg ho hn hb.1 hb.2 bj.dn hl xV h
  ·rename_i c ho
   split at h
   ·rename_i hc
    split at h
    ·rename_i x t ha iH
     obtain ⟨v,h,bj⟩:=aB h
     exact Kb hT hg ho hc ha iH bj.dn h
    ·exact h.elim
   ·rename_i hc
    split at h
    ·rename_i x i t t' ha iH
     have hh:=aE h; clear h; obtain ⟨hb,h⟩:=hh
     simp only [Bool.and_eq_true] at hb
     obtain ⟨v,h,bj⟩:=aB h
     obtain ⟨kv,h,l9⟩:=aB h
     exact ya hT hg ho hc ha iH hn hb.1 (Nat.eq_of_beq_eq_true hb.2) bj l9 h
    ·exact h.elim
   ·rename_i hc
    split at h
    ·rename_i s x t t' ha iH
     have hh:=aE h; clear h; obtain ⟨hb,h⟩:=hh
     have:=Nat.eq_of_beq_eq_true hb
     subst this
     obtain ⟨sv,h,h1⟩:=aB h
     obtain ⟨xv,h,h2⟩:=aB h
     rcases h with h | h
     ·exact Ck hT hg ho hc ha iH hn h h1 h2.dn
     ·exact Ff hT hg ho hc ha iH hn h h1.dn h2.dn
    ·exact h.elim
   ·rename_i hc
    split at h
    ·rename_i x y ha
     obtain ⟨a,h,h1⟩:=aB h
     obtain ⟨b,h,h2⟩:=aB h
     split at h
     ·exact M1 hg ho hc ha h h1 h2
     ·exact h.elim
    ·exact h.elim
   ·rename_i hc
    split at h
    ·rename_i x y ha
     obtain ⟨a,h,h1⟩:=aB h
     obtain ⟨b,h,h2⟩:=aB h
     split at h
     ·exact M3 hg ho hc ha h h1 h2
     ·exact h.elim
    ·exact h.elim
   ·rename_i f hc
    obtain ⟨l,h,h1⟩:=iJ h
    exact jC hg (rI ho hc h1) h
   ·rename_i t hc
    obtain ⟨v,h,bj⟩:=aB h
    obtain ⟨l,h,h1⟩:=iJ h
    split at h
    ·exact jC hg (oa ho hc bj h1 (.inl ⟨_,rfl,rfl⟩)) h
    ·exact jC hg (oa ho hc bj h1 (.inr (.inl ⟨_,rfl,rfl⟩))) h
    ·exact jC hg (oa ho hc bj h1 (.inr (.inr ⟨_,rfl,rfl⟩))) h
    ·rcases h with h | ⟨hf,u,h⟩
     ·exact hR.fc hg ho hc bj h1 h
     ·exact aY (fun c=>by rw [ho]; simp) hg h fun _ _ _ _ _ _ _ _ aI=>by rw [hf] at aI; cases aI
    ·exact h.elim
   ·exact h.elim
  ·rename_i t x ho
   have hh:=aE h; clear h; obtain ⟨hb,h⟩:=hh
   simp only [Bool.and_eq_true] at hb
   obtain ⟨v,h,bj⟩:=aB h
   split at h
   ·rename_i j ver ep p
    split at h
    ·rename_i d hj
     have hh:=aE h; clear h; obtain ⟨cl,h⟩:=hh
     simp only [Bool.and_eq_true,Bool.or_eq_true] at cl
     obtain ⟨nd,h,cT⟩:=bp h
     split at h
     ·exact Ha hT hg ho hb.1 (Nat.eq_of_beq_eq_true hb.2) (hn nx (Nat.le_refl _)) hj (by have:=cl.2; rw [Nat.blt_eq] at this; exact this) (Nat.eq_of_beq_eq_true cl.1.1)
       (cl.1.2.imp (fun e=>by cases p with | nil=>rfl | cons=>simp [emp] at e) Nat.eq_of_beq_eq_true) (cT rfl) h bj
     ·exact h.elim
    ·exact h.elim
   ·exact h.elim
  ·rename_i x ho
   obtain ⟨v,h,bj⟩:=aB h
   split at h
   ·rename_i i
    split at h
    ·rename_i hi
     exact Hb hg ho hi h.1 h.2 bj
    ·exact h.elim
   ·exact h.elim
  ·rename_i s t x ho
   have hh:=aE h; clear h; obtain ⟨hb,h⟩:=hh
   simp only [Bool.and_eq_true] at hb
   obtain ⟨v,h,bj⟩:=aB h
   split at h
   ·rename_i hi
    exact Cl hT hg ho hb.1 hb.2 hi h bj
   ·exact GR hT hg ho hb.1 hb.2 h (bf.dn bj)
  ·rename_i t x i ho
   have hh:=aE h; clear h; obtain ⟨hb,h⟩:=hh
   simp only [Bool.and_eq_true] at hb
   obtain ⟨v,h,bj⟩:=aB h
   obtain ⟨iv,h,l9⟩:=aB h
   split at h
   ·obtain ⟨b,JY,h⟩:=h
    exact Hc hT hg ho hb.1 hb.2 JY h bj l9
   ·exact h.elim
  ·exact h.elim
end
end Go.TM
namespace Go.TM
open Go.RowKit
variable [cj]
def Cm:Op→Bool
 | .buildSlice _ _ _=>true
 | .call c=>match c.callee with
  | .builtin .append=>true
  | _=>false
 | _=>false
def pk (o:Oper):Oper:={ o with guard:=none }
def Cn (P:Program) (T:List TI) (ops:List Oper) (n:Nat) (o:Oper) (nx:Nat) (ρ:Nat→AV) (κ:Nat→ak) (k:iP→Nat→Prop):Prop :=
 match o.guard with
 | none=>na P T ops n o nx ρ κ k
 | some _=>bif Cm o.op then na P T ops n o nx ρ κ k ∨ (match bF ρ ops o.guard with
   | some g=>(g=false∧aM n o g nx k .any []) ∨ (g=true∧na P T ops n (pk o) nx ρ κ k)
   | none=>False)
  else na P T ops n o nx ρ κ k
def M4 (P:Program) (T:List TI) (ops:List Oper) (n:Nat):List Oper→Nat→Env→af→(Nat→Env→af→Prop)→Prop
 | [],nx,env,K,k=>k nx env K
 | o::rest,nx,env,K,k=>Cn P T ops n o nx (look env) (aa K) fun aX dt=>tw aX.dst env fun iR=>tx aX.box K fun K'=>M4 P T ops n rest dt iR K' k
structure Rec where
 rows:List Nat
 aX:iP
def DZ:Op→Bool
 | .call c=>match c.callee with
  | .value (.tmp _)=>true
  | _=>false
 | _=>false
def dH:List (Nat × ak)→List Nat
 | []=>[]
 | p::r=>p.1::dH r
def D0 (κ:Nat→ak) (rd:List Nat):List (Nat × ak)→(List (Nat × ak)→Prop)→Prop
 | [],k=>k []
 | (i,b)::r,k=>((fJ i rd && !fJ i (dH r))=true∧κ i=b∧D0 κ rd r k) ∨ D0 κ rd r fun r=>k ((i,b)::r)
def Hd (ops:List Oper) (o:Oper) (κ:Nat→ak) (aX:iP) (k:iP→Prop):Prop :=
 bif DZ o.op && Nat.ble 16 ops.length then k aX ∨ D0 κ aX.reads aX.box fun bx=>k { aX with box:=bx } else k aX
def D1 (P:Program) (T:List TI) (ops:List Oper) (n:Nat):List Oper→Nat→Env→af→List Rec→(Nat→Env→af→List Rec→Prop)→Prop
 | [],nx,env,K,acc,k=>k nx env K acc
 | o::rest,nx,env,K,acc,k=>Cn P T ops n o nx (look env) (aa K) fun aX dt=>Hd ops o (aa K) aX fun aX=>tw aX.dst env fun iR=>tx aX.box K fun K'=>D1 P T ops n rest dt iR K' (acc++[⟨eY (look env) (aa K) o,aX⟩]) k
def iw:List Nat→List Nat→Bool
 | [],_=>true
 | x::r,l=>!fJ x l && iw r l
def gO:List (Nat × AV)→List Nat
 | []=>[]
 | p::r=>p.1::gO r
def cU (ops:List Oper) (x y:Rec) (oy:Oper):Bool :=
 iw (gO x.aX.dst) (oy.looksAt ops.toArray) && iw (gO x.aX.dst) (gO y.aX.dst) &&
 iw (dH x.aX.box) y.rows && iw (dH x.aX.box) y.aX.reads && iw (dH x.aX.box) (dH y.aX.box)
def pn (o:Oper):List Nat:=o.after.toList.filterMap fun e=>bif Region.binds .any e then some e.on else none
def mc (ops:List Oper):Nat→Nat→Nat→Bool
 | 0,_,_=>false
 | f+1,i,j=>match ops[j]? with
  | some o=>(pn o).any fun d=>Nat.beq d i || mc ops f i d
  | none=>false
def tz:Nat→List Oper→Bool
 | _,[]=>true
 | i,o::r=>(pn o).all (fun d=>Nat.blt d i) && tz (i+1) r
def po (ops:List Oper) (rs:List Rec) (j:Nat) (y:Rec) (oy:Oper):Nat→List Rec→List Oper→Bool
 | i,x::xr,ox::or=>(bif Nat.blt i j then mc ops ops.length i j || (cU ops x y oy && cU ops y x ox) else true) && po ops rs j y oy (i+1) xr or
 | _,_,_=>true
def nc (ops:List Oper) (rs:List Rec):Nat→List Rec→List Oper→Bool
 | j,y::yr,oy::or=>po ops rs j y oy 0 rs ops && nc ops rs (j+1) yr or
 | _,_,_=>true
def qy (ops:List Oper) (rs:List Rec):Bool:=tz 0 ops && nc ops rs 0 rs ops
def wP (g:df) (n nx:Nat) (env:Env) (K:af) (a:Act) (w:World):Prop:=St g n (look env) (aa K) a w∧g.m≤nx∧∀i,nx≤i→aa K i=.none
theorem pq {F:Fence} {m:Nat} {P:Program} {o:Oper} {a:Act} {w:World} {K K':Act→World→Prop} {Q:Exit→Act→World→Prop} (h:∀a w,K a w→K' a w) (hh:o.wpIn F m P a w K (fun _ _ _=>False)):o.wpIn F m P a w K' Q:=by
 unfold Oper.wpIn at *
 refine ⟨hh.1,?_⟩
 have hh:=hh.2
 generalize (o.semAt F.round a.eval).run P w=r at *
 cases r with
 | ok x w' =>
  cases x <;> simp only [Oper.uponIn] at hh ⊢ <;>
   first
    | exact h _ _ hh
    | exact ⟨hh.1,CallsIn.mono hh.2 (fun e UQ he=>by cases e <;> first | exact h _ _ he | exact he.elim | (obtain ⟨_,_,hf⟩:=he; exact hf.elim))⟩
    | exact ⟨hh.1,RowsIn.mono hh.2 (fun _ _ he=>h _ _ he)⟩
    | exact ⟨hh.1,RoundIn.mono hh.2 (fun e UQ he=>by cases e <;> first | exact h _ _ he | exact he.elim | (obtain ⟨_,_,hf⟩:=he; exact hf.elim))⟩
    | exact hh.elim
 | halt x w'=>cases x <;> simp only [Oper.uponIn] at hh ⊢ <;> exact hh.elim
def cK (P:Program) (C:df→Prop):Prop:=∀(ops:List Oper) (n:Nat) (o:Oper) (nx:Nat) (ρ:Nat→AV) (κ:Nat→ak) (k:iP→Nat→Prop),(∀i,nx≤i→κ i=.none)→DY P C ops n o nx ρ κ k
section
variable {P:Program} {C:df→Prop} {T:List TI} {ops:List Oper} {n:Nat} {g:df}
theorem yb {o:Oper} {nx:Nat} {ρ:Nat→AV} {κ:Nat→ak} {k:iP→Nat→Prop} (hg:bF ρ ops o.guard=some true) (h:Good P C ops n (pk o) nx ρ κ k):Good P C ops n o nx ρ κ k:=by
 obtain ⟨aX,dt,h1,h2,h3,h4⟩:=h
 refine ⟨aX,dt,h1,h2,h3,fun F hF ρ' κ' ao g a w c5 ai=>?_⟩
 have hs:∀t,t∈(pk o).looksAt ops.toArray→ρ' t=ρ t:=fun t ht=>ao.bl t (by
  unfold Oper.looksAt pk at ht
  simp only [List.append_nil] at ht
  unfold Oper.looksAt
  exact List.mem_append_left _ ht)
 have hr:=h4 F hF ρ' κ' ⟨hs,ao.rows,ao.reads,ao.boxes⟩ g a w c5 ai
 obtain ⟨G,fH⟩:=ai
 unfold jP at hr ⊢
 rw [if_pos (bX hg ao.bl fH)]
 have hw:Region.wanted (pk o) (yielded ops.toArray a.tmps)=true:=rfl
 rw [if_pos hw] at hr
 exact hr
theorem og (hT:dV P T) {o:Oper} {nx:Nat} {ρ:Nat→AV} {κ:Nat→ak} {k:iP→Nat→Prop} (hn:∀i,nx≤i→κ i=.none) (hR:cK P C) (h:Cn P T ops n o nx ρ κ k):Good P C ops n o nx ρ κ k:=by
 have vZ:na P T ops n o nx ρ κ k→Good P C ops n o nx ρ κ k:=qx hT hn (hR _ _ _ _ _ _ _ hn)
 unfold Cn at h
 split at h
 ·exact vZ h
 ·cases hh:Cm o.op with
  | false=>rw [hh] at h; exact vZ h
  | true =>
   rw [hh] at h
   rcases h with h | h
   ·exact vZ h
   ·split at h
    ·rename_i g hg
     rcases h with ⟨hf,h⟩ | ⟨hf,h⟩
     ·subst hf
      refine aY (fun c hc=>?_) hg h fun _ _ _ _ _ _ _ _ aI=>by cases aI
      rw [hc] at hh; simp [Cm] at hh
     ·subst hf
      exact yb hg (qx hT hn (hR _ _ _ _ _ _ _ hn) h)
    ·exact h.elim
theorem iS {nx dt:Nat} {K:af} {bx:List (Nat × ak)} (hn:∀i,nx≤i→aa K i=.none) (hle:nx≤dt) (hb:∀p,p∈bx→p.1<dt):∀i,dt≤i→aa (sy bx K) i=.none:=by
 intro i hi
 rw [eE]
 have key:∀(l:List (Nat × ak)),(∀p,p∈l→p.1<dt)→aq (aa K) l i=.none:=by
  intro l
  induction l with
  | nil=>intro _; exact hn i (by omega)
  | cons p r ih =>
   intro hl
   obtain ⟨j,b⟩:=p
   have:=hl (j,b) (by simp)
   simp only [aq]
   rw [ad _ _ (by simp at this; omega)]
   exact ih fun p hp=>hl p (by simp [hp])
 exact key bx hb
theorem ng {o:Oper} {rest:List Oper} {a:Act} {w:World} {K:Act→World→Prop} {Q:Exit→Act→World→Prop} {F:Fence} (hF:fI F) (h:jP P F ops.toArray o a w K) (hk:∀a w,K a w→wpListIn F 0 P ops.toArray Q rest a w):wpListIn F 0 P ops.toArray Q (o::rest) a w:=by
 unfold jP at h
 simp only [wpListIn]
 split at h
 ·rename_i hw; rw [if_pos hw]; exact pq hk h
 ·rename_i hw; rw [if_neg hw]; exact ⟨fun f _=>hF.fn f,hk _ _ h⟩
theorem tA (hT:dV P T) (hR:cK P C) (yc:C g) {F:Fence} (hF:fI F) {Q:Exit→Act→World→Prop} {k:Nat→Env→af→Prop} (hQ:∀nx env K a w,k nx env K→wP g n nx env K a w→Q .normal a w) :
  ∀(rest:List Oper) (nx:Nat) (env:Env) (K:af) (a:Act) (w:World),M4 P T ops n rest nx env K k→wP g n nx env K a w→wpListIn F 0 P ops.toArray Q rest a w
 | [],nx,env,K,a,w,h,hs=>hQ nx env K a w h hs
 | o::rest,nx,env,K,a,w,h,⟨hs,c5,hn⟩=>by
  obtain ⟨aX,dt,hk,hle,hb,qz⟩:=og hT hn hR h
  rw [tB,tC] at hk
  refine ng hF (qz F hF (look env) (aa K) ⟨fun _ _=>rfl,fun _ _=>rfl,fun _ _=>rfl,fun _ _ _=>rfl⟩ g a w ⟨c5,yc⟩ hs) fun a' w' dp=>?_
  refine tA hT hR yc hF hQ rest dt _ _ a' w' hk ⟨?_,Nat.le_trans c5 hle,iS hn hle hb⟩
  rw [iK,eE]
  exact dp
def acc {γ:Type _} (f:Nat→γ) (wr:Nat→List (Nat × γ)) (E:Nat→Bool):Nat→Nat→γ
 | 0=>f
 | m+1=>if E m then aq (acc f wr E m) (wr m) else acc f wr E m
def keys {γ:Type _} (l:List (Nat × γ)):List Nat:=l.map (·.1)
theorem bV {γ:Type _} (f:Nat→γ):∀{l:List (Nat × γ)} {t:Nat},t ∉ keys l→aq f l t=f t
 | [],t,_=>rfl
 | (i,x)::r,t,h=>by
  simp only [keys,List.map_cons,List.mem_cons,not_or] at h
  simp only [aq]
  rw [ad _ _ h.1]
  exact bV f h.2
theorem sG {γ:Type _} (f f':Nat→γ):∀{l:List (Nat × γ)} {t:Nat},t∈keys l→aq f l t=aq f' l t
 | [],t,h=>by simp [keys] at h
 | (i,x)::r,t,h=>by
  simp only [aq]
  by_cases e:t=i
  ·subst e; simp
  ·rw [ad _ _ e,ad _ _ e]
   simp only [keys,List.map_cons,List.mem_cons,e,false_or] at h
   exact sG f f' h
section
variable {γ:Type _} {f:Nat→γ} {wr:Nat→List (Nat × γ)} {E:Nat→Bool}
theorem ni {t:Nat}:∀{j:Nat},(∀i,i<j→E i=false→t ∉ keys (wr i))→acc f wr E j t=acc f wr (fun _=>true) j t
 | 0,_=>rfl
 | j+1,h=>by
  have ih:=ni (t:=t) (j:=j) fun i hi=>h i (by omega)
  simp only [acc,if_true]
  cases he:E j with
  | true =>
   simp only [if_true]
   by_cases hk:t∈keys (wr j)
   ·exact sG _ _ hk
   ·rw [bV _ hk,bV _ hk,ih]
  | false =>
   simp only [Bool.false_eq_true,if_false]
   rw [bV _ (h j (by omega) he)]
   exact ih
theorem zY {t j:Nat}:∀{m:Nat},(∀i,j≤i→i<j+m→E i=true→t ∉ keys (wr i))→acc f wr E (j+m) t=acc f wr E j t
 | 0,_=>rfl
 | m+1,h=>by
  have ih:=zY (t:=t) (j:=j) (m:=m) fun i h1 h2=>h i h1 (by omega)
  show acc f wr E (j+m+1) t=_
  simp only [acc]
  cases he:E (j+m) with
  | true=>simp only [if_true]; rw [bV _ (h _ (by omega) (by omega) he)]; exact ih
  | false=>simp only [Bool.false_eq_true,if_false]; exact ih
theorem pt {t j len:Nat} (hj:j≤len) (h1:∀i,i<j→E i=false→t ∉ keys (wr i)) (h2:∀i,j≤i→i<len→E i=true→t ∉ keys (wr i)):acc f wr E len t=acc f wr (fun _=>true) j t:=by
 obtain ⟨m,rfl⟩:∃m,len=j+m:=⟨len - j,by omega⟩
 rw [zY h2,ni h1]
def j5 (E:Nat→Bool) (j:Nat):Nat→Bool:=fun i=>if i=j then true else E i
theorem pw {j:Nat} (hj:E j=false):∀{len:Nat},j<len→(∀i,j<i→i<len→E i=true→∀t,t∈keys (wr j)→t ∉ keys (wr i))→acc f wr (j5 E j) len=aq (acc f wr E len) (wr j)
 | 0,h,_=>by omega
 | len+1,h,hd=>by
  rcases Nat.lt_or_ge j len with aK | db
  ·have ih:=pw hj aK fun i h1 h2=>hd i h1 (by omega)
   have bA:len ≠ j:=by omega
   simp only [acc,j5,if_neg bA]
   cases he:E len with
   | false=>simp only [Bool.false_eq_true,if_false]; exact ih
   | true =>
    simp only [if_true]
    show aq (acc f wr (j5 E j) len) (wr len)=_
    rw [ih]
    funext t
    by_cases h1:t∈keys (wr j)
    ·have h2:=hd len aK (by omega) he t h1
     rw [bV _ h2]
     exact sG _ _ h1
    ·rw [bV (aq (acc f wr E len) (wr len)) h1]
     by_cases h2:t∈keys (wr len)
     ·exact sG _ _ h2
     ·rw [bV _ h2,bV _ h2,bV _ h1]
  ·have:j=len:=by omega
   subst this
   have low:∀m,m≤j→acc f wr (j5 E j) m=acc f wr E m:=by
    intro m
    induction m with
    | zero=>intro _; rfl
    | succ m ih =>
     intro hm
     simp only [acc,j5,if_neg (show m ≠ j by omega)]
     rw [ih (by omega)]
   simp only [acc,hj,Bool.false_eq_true,if_false]
   simp only [j5,if_true]
   rw [low j (Nat.le_refl _)]
end
theorem GC.lo {lo OR:Nat} {o:Oper} {ρ:Nat→AV} {κ:Nat→ak} {aX:iP} (h:GC P C ops n OR o ρ κ aX) (hl:lo≤OR):GC P C ops n lo o ρ κ aX :=
 fun F hF ρ' κ' ao g a w hg hs=>h F hF ρ' κ' ao g a w ⟨Nat.le_trans hg.1 hl,hg.2⟩ hs
theorem px {γ:Type _} (f:Nat→γ) (wr TS:Nat→List (Nat × γ)) (m:Nat):(∀i,i<m→TS i=wr i)→acc f TS (fun _=>true) m=acc f wr (fun _=>true) m:=by
 induction m with
 | zero=>intro _; rfl
 | succ m ih=>intro hh; simp only [acc,if_true]; rw [ih fun i hi=>hh i (by omega),hh m (by omega)]
theorem oh {κ:Nat→ak} {rd:List Nat}:∀{bx:List (Nat × ak)} {k:List (Nat × ak)→Prop},D0 κ rd bx k→∃Kd,k Kd∧(∀p,p∈Kd→p∈bx)∧(∀p,p∈bx→p∈Kd ∨ p.1∈rd)∧∀κ':Nat→ak,(∀i,i∈rd→κ' i=κ i)→aq κ' Kd=aq κ' bx
 | [],k,h=>⟨[],h,fun _ h=>h,fun _ h=>.inl h,fun _ _=>rfl⟩
 | (i,b)::r,k,h=>by
  rcases h with ⟨h1,h2,h⟩ | h
  ·obtain ⟨Kd,hk,ha,hb,hc⟩:=oh h
   simp only [Bool.and_eq_true,Bool.not_eq_true'] at h1
   refine ⟨Kd,hk,fun p hp=>List.mem_cons_of_mem _ (ha p hp),fun p hp=>?_,fun κ' hκ=>?_⟩
   ·rcases List.mem_cons.1 hp with rfl | hp
    ·exact .inr (j6 h1.1)
    ·exact hb p hp
   ·rw [hc κ' hκ]
    funext j
    by_cases e:j=i
    ·subst e
     have UR:∀(l:List (Nat × ak)),dH l=keys l:=fun l=>by
      induction l with
      | nil=>rfl
      | cons p r ih=>simp [dH,keys,ih]
     rw [bV _ (by rw [←UR]; exact ec h1.2)]
     simp only [aq,aR]
     rw [hκ _ (j6 h1.1),h2]
    ·simp only [aq]
     rw [ad _ _ e]
  ·obtain ⟨Kd,hk,ha,hb,hc⟩:=oh h
   refine ⟨(i,b)::Kd,hk,fun p hp=>?_,fun p hp=>?_,fun κ' hκ=>?_⟩
   ·rcases List.mem_cons.1 hp with rfl | hp
    ·exact List.mem_cons_self
    ·exact List.mem_cons_of_mem _ (ha p hp)
   ·rcases List.mem_cons.1 hp with rfl | hp
    ·exact .inl List.mem_cons_self
    ·rcases hb p hp with h | h
     ·exact .inl (List.mem_cons_of_mem _ h)
     ·exact .inr h
   ·simp only [aq]
    rw [hc κ' hκ]
theorem Co {o:Oper} {nx:Nat} {ρ:Nat→AV} {κ:Nat→ak} {k:iP→Nat→Prop} (h:Good P C ops n o nx ρ κ fun aX dt=>Hd ops o κ aX fun aX=>k aX dt):Good P C ops n o nx ρ κ k:=by
 obtain ⟨aX,dt,h1,h2,h3,h4⟩:=h
 unfold Hd at h1
 cases hd:DZ o.op && Nat.ble 16 ops.length with
 | false=>rw [hd] at h1; exact ⟨aX,dt,h1,h2,h3,h4⟩
 | true =>
  rw [hd] at h1
  rcases h1 with h1 | h1
  ·exact ⟨aX,dt,h1,h2,h3,h4⟩
  ·obtain ⟨Kd,hk,ha,hb,hc⟩:=oh h1
   refine ⟨_,dt,hk,h2,fun p hp=>h3 p (ha p hp),fun F hF ρ' κ' ao g a w c5 ai=>?_⟩
   have hr:=h4 F hF ρ' κ' ⟨ao.bl,ao.rows,ao.reads,fun i b US=>?_⟩ g a w c5 ai
   ·simp only
    rw [hc κ' ao.reads]
    exact hr
   ·rcases hb _ US with h | h
    ·exact ao.boxes i b h
    ·exact ao.reads i h
theorem rM (hT:dV P T) (hR:cK P C) {k:Nat→Env→af→List Rec→Prop} {ρ0:Nat→AV} {κ0:Nat→ak} {lo:Nat} :
  ∀(rest done:List Oper) (nx:Nat) (env:Env) (K:af) (rs:List Rec),ops=done++rest→rs.length=done.length→lo≤nx →
   (∀i,nx≤i→aa K i=.none) →
   look env=acc ρ0 (fun i=>(rs[i]?.map (·.aX.dst)).getD []) (fun _=>true) done.length→aa K=acc κ0 (fun i=>(rs[i]?.map (·.aX.box)).getD []) (fun _=>true) done.length →
   (∀i r o,rs[i]?=some r→ops[i]?=some o→r.rows=eY (acc ρ0 (fun i=>(rs[i]?.map (·.aX.dst)).getD []) (fun _=>true) i) (acc κ0 (fun i=>(rs[i]?.map (·.aX.box)).getD []) (fun _=>true) i) o∧GC P C ops n lo o (acc ρ0 (fun i=>(rs[i]?.map (·.aX.dst)).getD []) (fun _=>true) i) (acc κ0 (fun i=>(rs[i]?.map (·.aX.box)).getD []) (fun _=>true) i) r.aX) →
   D1 P T ops n rest nx env K rs k →
   ∃dt iR K' oi,k dt iR K' oi∧oi.length=ops.length∧lo≤dt∧(∀i,dt≤i→aa K' i=.none) ∧
    look iR=acc ρ0 (fun i=>(oi[i]?.map (·.aX.dst)).getD []) (fun _=>true) ops.length∧aa K'=acc κ0 (fun i=>(oi[i]?.map (·.aX.box)).getD []) (fun _=>true) ops.length ∧
    ∀i r o,oi[i]?=some r→ops[i]?=some o→r.rows=eY (acc ρ0 (fun i=>(oi[i]?.map (·.aX.dst)).getD []) (fun _=>true) i) (acc κ0 (fun i=>(oi[i]?.map (·.aX.box)).getD []) (fun _=>true) i) o∧GC P C ops n lo o (acc ρ0 (fun i=>(oi[i]?.map (·.aX.dst)).getD []) (fun _=>true) i) (acc κ0 (fun i=>(oi[i]?.map (·.aX.box)).getD []) (fun _=>true) i) r.aX
 | [],done,nx,env,K,rs,yd,hlen,pg,hn,he,hk,cZ,h=>by
  have:done.length=ops.length:=by rw [yd]; simp
  exact ⟨nx,env,K,rs,h,by omega,pg,hn,by rw [←this]; exact he,by rw [←this]; exact hk,cZ⟩
 | o::rest,done,nx,env,K,rs,yd,hlen,pg,hn,he,hk,cZ,h=>by
  obtain ⟨aX,dt,ed,hle,hb,qz⟩:=Co (ops:=ops) (n:=n) (o:=o) (nx:=nx) (ρ:=look env) (κ:=aa K) (k:=fun aX dt=>tw aX.dst env fun iR=>tx aX.box K fun K'=>D1 P T ops n rest dt iR K' (rs++[(⟨eY (look env) (aa K) o,aX⟩:Rec)]) k) (og hT hn hR h)
  rw [tB,tC] at ed
  have bs:∀i,i<rs.length→(rs++[⟨eY (look env) (aa K) o,aX⟩])[i]?=rs[i]?:=fun i hi=>List.getElem?_append_left hi
  have rN:(rs++[(⟨eY (look env) (aa K) o,aX⟩:Rec)])[done.length]?=some ⟨eY (look env) (aa K) o,aX⟩:=by rw [←hlen]; simp
  have eT:∀m,m≤done.length→acc ρ0 (fun i=>((rs++[(⟨eY (look env) (aa K) o,aX⟩:Rec)])[i]?.map (·.aX.dst)).getD []) (fun _=>true) m=acc ρ0 (fun i=>(rs[i]?.map (·.aX.dst)).getD []) (fun _=>true) m :=
   fun m hm=>px _ _ _ m fun i hi=>by rw [bs i (by omega)]
  have n8:∀m,m≤done.length→acc κ0 (fun i=>((rs++[(⟨eY (look env) (aa K) o,aX⟩:Rec)])[i]?.map (·.aX.box)).getD []) (fun _=>true) m=acc κ0 (fun i=>(rs[i]?.map (·.aX.box)).getD []) (fun _=>true) m :=
   fun m hm=>px _ _ _ m fun i hi=>by rw [bs i (by omega)]
  refine rM hT hR rest (done++[o]) dt (zZ aX.dst env) (sy aX.box K) (rs++[⟨eY (look env) (aa K) o,aX⟩]) (by rw [yd]; simp) (by simp [hlen]) (Nat.le_trans pg hle) (iS hn hle hb) ?_ ?_ ?_ ed
  ·rw [iK,List.length_append]
   simp only [List.length_cons,List.length_nil,Nat.zero_add,acc,if_true]
   rw [eT _ (Nat.le_refl _),rN,←he]; rfl
  ·rw [eE,List.length_append]
   simp only [List.length_cons,List.length_nil,Nat.zero_add,acc,if_true]
   rw [n8 _ (Nat.le_refl _),rN,←hk]; rfl
  ·intro i r o' hr gL
   rcases Nat.lt_or_ge i rs.length with aK | db
   ·rw [bs i aK] at hr
    rw [eT i (by omega),n8 i (by omega)]
    exact cZ i r o' hr gL
   ·have hi:i=done.length:=by
     have:=(List.getElem?_eq_some_iff.1 hr).1
     simp at this; omega
    subst hi
    rw [rN] at hr
    injection hr with hr
    subst hr
    rw [yd] at gL
    simp at gL
    subst gL
    rw [eT _ (Nat.le_refl _),n8 _ (Nat.le_refl _),←he,←hk]
    exact ⟨rfl,qz.lo pg⟩
end
end Go.TM
