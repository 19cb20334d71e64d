import Derived.Test.YtpbdohkbiklflaaGreatDoorPM10
import Derived.Orders
set_option linter.unusedVariables false
set_option linter.unusedSimpArgs false
set_option linter.unusedSectionVars false
namespace Go.TM
open Go.RowKit
variable [ct]
section
variable {P:Program} {C:dy→Prop} {T:List TI} {ops:List Oper} {n:Nat} {o:Oper} {nx:Nat} {ρ:Nat→AV} {κ:Nat→ao} {k:jo→Nat→Prop} {gd:Bool}
theorem mM {x:Operand} {v:AV} (h:ev ρ κ x=v):bn ρ κ gd x v:=by
 intro ρ' κ' au g n a w G ai _
 rw [←h]
 exact xV ρ' κ' au g n a w G ai
theorem rB {x:Operand} {v:AV} {g':Bool} (h:ev ρ κ x=.opt g' v) (hg:gd=true→g'=true) (hr:res κ v=v):bn ρ κ gd x v:=by
 have:=Bo h hg
 rwa [hr] at this
theorem I2 {c x y:Operand} (hg:bL ρ ops o.guard=some gd) (ho:o.op=.pick c x y)
  (h:match ev ρ κ c,ev ρ κ x,ev ρ κ y with
   | .dv (.bool b),.dv (.bool p),.dv (.bool q)=>aR n o gd nx k (.dv (.bool (bif b then p else q))) []
   | .dv (.bool b),.opt gp (.dv (.bool p)),.dv (.bool q)=>(gd=true→b=true→gp=true)∧aR n o gd nx k (.dv (.bool (bif b then p else q))) []
   | .dv (.bool b),.dv (.bool p),.opt gq (.dv (.bool q))=>(gd=true→b=false→gq=true)∧aR n o gd nx k (.dv (.bool (bif b then p else q))) []
   | .opt gb (.dv (.bool b)),.opt gp (.dv (.bool p)),.dv (.bool q)=>(gd=true→gb=true∧(b=true→gp=true))∧aR n o gd nx k (.dv (.bool (bif b then p else q))) []
   | .opt gb (.dv (.bool b)),.dv (.bool p),.opt gq (.dv (.bool q))=>(gd=true→gb=true∧(b=false→gq=true))∧aR n o gd nx k (.dv (.bool (bif b then p else q))) []
   | _,_,_=>False):Good P C ops n o nx ρ κ k:=by
 split at h
 ·rename_i b p q h1 h2 h3
  exact lu hg ho h (mM h1) (mM h2) (mM h3)
 ·rename_i b gp p q h1 h2 h3
  exact lu hg ho h.2 (mM h1) (rB h2 (by simp only [Bool.and_eq_true]; exact fun hh=>h.1 hh.1 hh.2) rfl) (mM h3)
 ·rename_i b p gq q h1 h2 h3
  exact lu hg ho h.2 (mM h1) (mM h2) (rB h3 (by simp only [Bool.and_eq_true,Bool.not_eq_true']; exact fun hh=>h.1 hh.1 hh.2) rfl)
 ·rename_i gb b gp p q h1 h2 h3
  exact lu hg ho h.2 (rB h1 (fun hh=>(h.1 hh).1) rfl) (rB h2 (by simp only [Bool.and_eq_true]; exact fun hh=>(h.1 hh.1).2 hh.2) rfl) (mM h3)
 ·rename_i gb b p gq q h1 h2 h3
  exact lu hg ho h.2 (rB h1 (fun hh=>(h.1 hh).1) rfl) (mM h2) (rB h3 (by simp only [Bool.and_eq_true,Bool.not_eq_true']; exact fun hh=>(h.1 hh.1).2 hh.2) rfl)
 ·exact h.elim
theorem Mf (hT:ef P T) {c:Call} {x:Operand} {t:Nat} {v:AV} (hg:bL ρ ops o.guard=some gd) (ho:o.op=.call c) (hc:c.callee=.builtin .len) (ha:c.args.toList=[x]) (jf:c.argTypes.toList=[t])
  (br:bn ρ κ gd x v) (h:zk (nth T t) κ gd v fun r rd=>aR n o gd nx k r rd):Good P C ops n o nx ρ κ k:=by
 unfold zk at h
 split at h
 ·have hh:=aH h; clear h; obtain ⟨hb,h⟩:=hh
  simp only [Bool.and_eq_true] at hb
  refine oY hT hg ho hc ha jf h br hb.1 fun _ κ' _ G w v _ hv=>.inl ⟨hb.2,?_⟩
  cases hv with | dv hv=>cases hv with
  | slnil=>exact ⟨_,_,_,rfl,rfl⟩
  | sl=>exact ⟨_,_,_,rfl,rfl⟩
 ·have hh:=aH h; clear h; obtain ⟨hb,h⟩:=hh
  simp only [Bool.and_eq_true] at hb
  refine oY hT hg ho hc ha jf h br hb.1 fun _ κ' _ G w v _ hv=>.inl ⟨hb.2,?_⟩
  cases hv with | dv hv=>cases hv with
  | aG=>exact ⟨_,_,_,rfl,rfl⟩
 ·have hh:=aH h; clear h; obtain ⟨hb,h⟩:=hh
  simp only [Bool.and_eq_true] at hb
  refine oY hT hg ho hc ha jf h br hb.1 fun _ κ' _ G w v _ hv=>.inr (.inl ⟨hb.2,?_⟩)
  cases hv with | dv hv=>cases hv with
  | str=>exact ⟨_,rfl,rfl⟩
 ·rename_i i ver ep p
  split at h
  ·rename_i aY bG d hk
   have hh:=aH h; clear h; obtain ⟨hb,h⟩:=hh
   obtain ⟨rfl,dk⟩:=di hb
   obtain ⟨nd,h,c8⟩:=bB h
   split at h
   ·rename_i sz l
    have hh:=aH h; clear h; obtain ⟨hb,h⟩:=hh
    simp only [Bool.and_eq_true] at hb
    refine oY hT hg ho hc ha jf h br hb.1 fun aN κ' au G w v hf hv=>.inl ⟨hb.2,?_⟩
    obtain ⟨u,h1,_,aX⟩:=hf.node ((au i (by simp)).trans hk) (c8 aN) rfl
    cases hv with | own _ _ _ _ _ hh hc =>
    rw [cK dk,h1] at hh
    injection hh with hh
    subst hh
    rcases aX with ⟨rfl,rfl⟩ | ⟨gb,ob,cap,cc,tt,rfl,_⟩
    ·exact ⟨_,_,_,rfl,rfl⟩
    ·exact ⟨_,_,_,rfl,rfl⟩
   ·rename_i ks m
    have hh:=aH h; clear h; obtain ⟨hb,h⟩:=hh
    simp only [Bool.and_eq_true] at hb
    refine oY hT hg ho hc ha jf h br hb.1 fun aN κ' au G w v hf hv=>.inr (.inr ⟨hb.2,?_⟩)
    obtain ⟨u,h1,_,aX⟩:=hf.node ((au i (by simp)).trans hk) (c8 aN) rfl
    cases hv with | own _ _ _ _ _ hh hc =>
    rw [cK dk,h1] at hh
    injection hh with hh
    subst hh
    obtain ⟨m0,pU,gb,es,clock,rfl,hw,aT,_⟩:=aX
    exact ⟨gb,es,clock,rfl,hw,by rw [aT,pU.length_eq]⟩
   ·exact h.elim
  ·exact h.elim
 ·have hh:=aH h; clear h; obtain ⟨hb,h⟩:=hh
  simp only [Bool.and_eq_true] at hb
  refine oY hT hg ho hc ha jf h br hb.1 fun _ κ' _ G w v _ hv=>.inl ⟨hb.2,?_⟩
  cases hv
  exact ⟨_,_,_,rfl,rfl⟩
 ·have hh:=aH h; clear h; obtain ⟨hb,h⟩:=hh
  simp only [Bool.and_eq_true] at hb
  refine oY hT hg ho hc ha jf h br hb.1 fun _ κ' _ G w v _ hv=>.inl ⟨hb.2,?_⟩
  cases hv
  exact ⟨_,_,_,rfl,rfl⟩
 ·exact h.elim
theorem tC {x:Operand} {i ver ep bG:Nat} {p:List PS} {d y:DV} (hg:bL ρ ops o.guard=some gd) (ho:o.op=.nilCheck x) (hk:κ i=.tree ver bG d) (dk:p=[] ∨ ep=bG) (c8:gd=true→get d p=some (.cT y))
  (hr:aR n o gd nx k (.loc i ver ep p 1 0 0) [i]) (br:bn ρ κ gd x (.own i ver ep p)):Good P C ops n o nx ρ κ k:=by
 refine bg (fun c=>by rw [ho]; simp) hg hr fun ρ' κ' au g a w G ai aN=>?_
 have hv:=br ρ' κ' (au.op (by rw [ho]; simp [Op.operands])) g n a w G ai aN
 generalize hx:a.eval x=v at hv
 obtain ⟨u,h1,_,aX⟩:=ai.fit.node ((au.reads i (by simp)).trans hk) (c8 aN) rfl
 cases hv with | own _ _ _ _ _ hh hc =>
 have xf:=hh
 rw [cK dk,h1] at hh
 injection hh with hh
 subst hh
 obtain ⟨gb,c,t,rfl,hw,_⟩:=aX
 refine ⟨.pointer (some ⟨gb,0,none⟩),by simp [execOp,ho,hx],?_⟩
 have:=aE.my (G:=G) i ver ep p 1 0 0 _ xf
 rw [cE] at this
 exact this
theorem xg (hT:ef P T) {t f:Nat} {x:Operand} {v:AV} (hg:bL ρ ops o.guard=some gd) (ho:o.op=.fieldAddr t x f)
  (h:match (nth T t).ok,(nth T t).fields[f]? with
   | true,some (off,sz+1)=>match v with
    | .ptr i o'=>aR n o gd nx k (.ptr i (o'+off)) []
    | .dv (.at x o')=>aR n o gd nx k (.dv (.at x (o'+off))) []
    | .loc i ver ep p oZ idx o'=>aR n o gd nx k (.loc i ver ep p oZ idx (o'+off)) []
    | _=>False
   | _,_=>False) (br:bn ρ κ gd x v):Good P C ops n o nx ρ κ k:=by
 split at h
 ·rename_i off sz bY hf
  split at h
  ·refine lx hT hg ho bY hf h br (fun G v hv=>?_)
   cases hv with
   | ptr _ _ b hb =>
    refine ⟨_,rfl,?_⟩
    rw [cE]
    exact .ptr _ _ b hb
  ·refine lx hT hg ho bY hf h br (fun G v hv=>?_)
   cases hv with | dv hv=>cases hv with
   | _ =>
    rename_i A cell jY hc hr
    refine ⟨_,rfl,?_⟩
    rw [cy]
    exact .dv (.at _ _ A cell jY hc hr)
  ·refine lx hT hg ho bY hf h br (fun G v hv=>?_)
   cases hv with
   | loc _ _ _ _ _ _ _ A m c he =>
    refine ⟨_,rfl,?_⟩
    rw [cy,Nat.add_assoc]
    exact .loc _ _ _ _ _ _ _ A m c he
   | my _ _ _ _ _ _ _ A he =>
    refine ⟨_,rfl,?_⟩
    rw [cy,Nat.add_assoc]
    exact .my _ _ _ _ _ _ _ A he
  ·exact h.elim
 ·exact h.elim
theorem G9 (hT:ef P T) {t f:Nat} {x:Operand} {v:AV} (hg:bL ρ ops o.guard=some gd) (ho:o.op=.field t x f)
  (h:match (nth T t).ok,(nth T t).fields[f]?,(nth T t).zm[f]? with
   | true,some (off,sz+1),some ft=>match v with
    | .agg l=>bif (nth T ft).ok && Nat.beq (nth T ft).size (sz+1) then bX (nth T ft).agg l off (sz+1) fun v=>aR n o gd nx k v [] else False
    | _=>False
   | _,_,_=>False) (br:bn ρ κ gd x v):Good P C ops n o nx ρ κ k:=by
 split at h
 ·rename_i off sz ft bY hf RF
  split at h
  ·have hh:=aH h; clear h; obtain ⟨hb,h⟩:=hh
   simp only [Bool.and_eq_true] at hb
   exact I3 hT hg ho bY hf RF hb.1 (Nat.eq_of_beq_eq_true hb.2) h br
  ·exact h.elim
 ·exact h.elim
theorem Ha (hT:ef P T) {t:Nat} {x i:Operand} {v iv:AV} (hg:bL ρ ops o.guard=some gd) (ho:o.op=.indexAddr t x i)
  (h:bif (nth T t).ok && (nth T t).isSl && (nth T (nth T t).elem).ok then
    match v,iv with
    | .dv (.sl sz l),.dv (.int _ m)=>bif Nat.beq sz (nth T (nth T t).elem).size then ∃x,(gd=true→0≤m∧l[m.toNat]?=some x)∧aR n o gd nx k (.dv (.at x 0)) [] else False
    | .own j ver ep p,.dv (.int _ m)=>match κ j with
     | .tree aY bG d=>bif Nat.beq ver aY && (emp p || Nat.beq ep bG) then ia gd d p fun nd=>match nd with
      | .ay sz l=>bif Nat.beq sz (nth T (nth T t).elem).size then (gd=true→0≤m∧m<l.length)∧aR n o gd nx k (.loc j ver ep p sz m.toNat 0) [j] else False
      | _=>False
      else False
     | _=>False
    | .sle j len,.dv (.int _ m)=>(gd=true→0≤m∧m<len)∧aR n o gd nx k (.ptr j (m.toNat * (nth T (nth T t).elem).size)) []
    | .pre j ver ep p sz lo len,.dv (.int _ m)=>bif Nat.beq sz (nth T (nth T t).elem).size then (gd=true→0≤m∧m<len)∧aR n o gd nx k (.loc j ver ep p sz (lo+m.toNat) 0) [] else False
    | _,_=>False
   else False) (br:bn ρ κ gd x v) (mN:bn ρ κ gd i iv):Good P C ops n o nx ρ κ k:=by
 have hh:=aH h; clear h; obtain ⟨hb,h⟩:=hh
 simp only [Bool.and_eq_true] at hb
 split at h
 ·have hh:=aH h; clear h; obtain ⟨cw,x,hy,h⟩:=hh
  exact Bp hT hg ho hb.1.1 hb.1.2 hb.2 (Nat.eq_of_beq_eq_true cw) hy h br mN
 ·split at h
  ·rename_i hk
   have hh:=aH h; clear h; obtain ⟨cw,h⟩:=hh
   obtain ⟨rfl,dk⟩:=di cw
   obtain ⟨nd,h,c8⟩:=bB h
   split at h
   ·have hh:=aH h; clear h; obtain ⟨w4,hy,h⟩:=hh
    exact zn hT hg ho hb.1.1 hb.1.2 hb.2 (Nat.eq_of_beq_eq_true w4) hk dk c8 hy h br mN
   ·exact h.elim
  ·exact h.elim
 ·exact zo hT hg ho hb.1.1 hb.1.2 hb.2 h.1 h.2 br mN
 ·have hh:=aH h; clear h; obtain ⟨cw,hy,h⟩:=hh
  exact zp hT hg ho hb.1.1 hb.1.2 hb.2 (Nat.eq_of_beq_eq_true cw) hy h br mN
 ·exact h.elim
theorem DQ (hT:ef P T) {t:Nat} {x i:Operand} {v iv:AV} (hg:bL ρ ops o.guard=some gd) (ho:o.op=.indexAddr t x i)
  (h:zq (nth T t) (nth T (nth T t).elem) gd v iv fun v=>aR n o gd nx k v []) (br:bn ρ κ gd x v) (mN:bn ρ κ gd i iv):Good P C ops n o nx ρ κ k:=by
 have hh:=aH h; clear h; obtain ⟨hb,h⟩:=hh
 simp only [Bool.and_eq_true] at hb
 have Bq:=Nat.eq_of_beq_eq_true hb.1.2
 split at h
 ·rename_i kd m
  obtain ⟨hm,h⟩:=h
  split at h
  ·rename_i y off
   refine ly hT hg ho hb.1.1 Bq hb.2 hm h br mN fun G v hv=>?_
   cases hv with | dv hv=>cases hv with | «at» _ _ A cell jY hc hr =>
   exact ⟨_,rfl,.dv (by rw [cy]; exact .at y _ A cell jY hc hr)⟩
  ·rename_i j off
   refine ly hT hg ho hb.1.1 Bq hb.2 hm h br mN fun G v hv=>?_
   cases hv with | ptr _ _ b hb =>
   exact ⟨_,rfl,by rw [show (⟨b,off,none⟩:Addr).add (m.toNat * (nth T (nth T t).elem).size)=⟨b,off+m.toNat * (nth T (nth T t).elem).size,none⟩ by unfold Addr.add; split <;> simp [*]]; exact .ptr j _ b hb⟩
  ·rename_i j ver ep p sz idx off
   refine ly hT hg ho hb.1.1 Bq hb.2 hm h br mN fun G v hv=>?_
   cases hv with
   | loc _ _ _ _ _ _ _ A n c e=>exact ⟨_,rfl,by rw [cy,Nat.add_assoc]; exact .loc j ver ep p sz idx _ A n c e⟩
   | my _ _ _ _ _ _ _ A e=>exact ⟨_,rfl,by rw [cy,Nat.add_assoc]; exact .my j ver ep p sz idx _ A e⟩
  ·exact h.elim
 ·exact h.elim
theorem I4 (hT:ef P T) {t:Nat} {x:Operand} {v:AV} (hg:bL ρ ops o.guard=some gd) (ho:o.op=.load t x) (bY:(nth T t).ok=true)
  (h:match v with
   | .ptr i off=>match κ i with
    | .cells l=>bX (nth T t).agg l off (nth T t).size fun v=>aR n o gd nx k v [i]
    | _=>False
   | .dv (.at x off)=>bX (nth T t).agg (jU x.cells) off (nth T t).size fun v=>aR n o gd nx k v []
   | .loc i ver ep p sz idx off=>match κ i with
    | .tree aY bG d=>bif Nat.beq ver aY && (emp p || Nat.beq ep bG) then ia gd d p fun nd=>jg i ver bG p gd sz idx nd fun l =>
      bX (nth T t).agg l off (nth T t).size fun v=>aR n o gd nx k v [i]
     else False
    | _=>False
   | _=>False) (br:bn ρ κ gd x v):Good P C ops n o nx ρ κ k:=by
 split at h
 ·split at h
  ·rename_i hk
   exact Br hT hg ho bY hk h br
  ·exact h.elim
 ·exact DR hT hg ho bY h br
 ·split at h
  ·rename_i hk
   have hh:=aH h; clear h; obtain ⟨cw,h⟩:=hh
   obtain ⟨rfl,dk⟩:=di cw
   exact Bs hT hg ho bY hk dk h br
  ·exact h.elim
 ·exact h.elim
theorem Hb (hT:ef P T) {t:Nat} {x y:Operand} {p v:AV} (hn:∀i,nx≤i→κ i=.none) (hg:bL ρ ops o.guard=some gd) (ho:o.op=.store t x y) (bY:(nth T t).ok=true)
  (h:bif Nat.beq (cellsOf v).length (nth T t).size && bQ (cellsOf v) then
    match p with
    | .ptr i off=>match κ i with
     | .cells l=>bif Nat.ble (off+(nth T t).size) l.length then dz n o nx k .any [(i,.cells (gi l off (cellsOf v)))] [i] else False
     | _=>False
    | .loc i ver ep p sz idx off=>nT n o nx κ k i ver ep p sz idx off (cellsOf v)
    | _=>False
   else False) (br:bn ρ κ gd x p) (FM:bn ρ κ gd y v):Good P C ops n o nx ρ κ k:=by
 have hh:=aH h; clear h; obtain ⟨hb,h⟩:=hh
 simp only [Bool.and_eq_true] at hb
 have kj:=Nat.eq_of_beq_eq_true hb.1
 split at h
 ·rename_i i off
  split at h
  ·rename_i l hk
   have hh:=aH h; clear h; obtain ⟨cw,h⟩:=hh
   have aJ:i<nx:=by
    rcases Nat.lt_or_ge i nx with h | h
    ·exact h
    ·rw [hn i h] at hk; cases hk
   exact zr hT hg ho bY hk kj hb.2 (Nat.le_of_ble_eq_true cw) h aJ br FM
  ·exact h.elim
 ·exact zt hT hg ho hn bY kj hb.2 h br FM
 ·exact h.elim
structure FN (P:Program) (C:dy→Prop) (ops:List Oper) (n:Nat) (o:Oper) (nx:Nat) (ρ:Nat→AV) (κ:Nat→ao) (k:jo→Nat→Prop):Prop where
 call:∀{gd:Bool} {f:Nat} {l:List AV},bL ρ ops o.guard=some gd→ru P ops o ρ κ gd f l→kn none (dK P f) n o gd nx κ k l→Good P C ops n o nx ρ κ k
 fy:∀{gd:Bool} {c:Call} {t i:Nat} {l:List AV},bL ρ ops o.guard=some gd→o.op=.call c→c.callee=.value (.tmp t)→bn ρ κ gd (.tmp t) (.fy i)→j4 ρ κ gd c.args.toList l →
  kn (some i) (rC P) n o gd nx κ k l→Good P C ops n o nx ρ κ k
theorem rD (hT:ef P T) (hn:∀i,nx≤i→κ i=.none) (hR:FN P C ops n o nx ρ κ k) (h:nU P T ops n o nx ρ κ k):Good P C ops n o nx ρ κ k:=by
 have j5:∀{gd:Bool} {f:Nat} {l:List AV},bL ρ ops o.guard=some gd→ru P ops o ρ κ gd f l→(uI P n o nx κ gd k f l ∨ kn none (dK P f) n o gd nx κ k l)→Good P C ops n o nx ρ κ k:=by
  intro gd f l hg br h
  rcases h with h | h
  ·exact I0 hn hg br h
  ·exact hR.call hg br h
 unfold nU at h
 split at h
 ·exact h.elim
 ·rename_i gd hg
  split at h
  ·rename_i x ho
   exact Mg hg ho h
  ·rename_i x ho
   obtain ⟨v,h,br⟩:=aF h
   exact Hc hg ho h br
  ·rename_i x ho
   obtain ⟨v,h,br⟩:=aF h
   split at h
   ·exact mO hg ho h br (fun G v hv=>by cases hv; exact ⟨_,rfl⟩)
   ·exact mO hg ho h br (fun G v hv=>by cases hv <;> exact ⟨_,rfl⟩)
   ·exact mO hg ho h br (fun G v hv=>by cases hv with | dv hv=>cases hv; exact ⟨_,rfl⟩)
   ·split at h
    ·rename_i hk
     have hh:=aH h; clear h; obtain ⟨hb,h⟩:=hh
     obtain ⟨rfl,dk⟩:=di hb
     obtain ⟨nd,h,c8⟩:=bB h
     split at h
     ·exact tC hg ho hk dk c8 h br
     ·exact h.elim
    ·exact h.elim
   ·exact h.elim
  ·rename_i c x y ho
   exact I2 hg ho h
  ·rename_i op t x y ty ho
   obtain ⟨va,h,O7⟩:=aF h
   obtain ⟨vb,h,O8⟩:=aF h
   cases hb:vb.iC with
   | false =>
    rw [hb] at h
    cases ha:va.ag with
    | false=>rw [ha] at h; exact I5 hT hg ho O7 O8 h
    | true=>rw [ha] at h; exact O9 hT hg ho O7 O8 h
   | true =>
    rw [hb] at h
    have hb:vb=.dv .aG:=by
     cases vb with
     | dv d=>cases d <;> simp [AV.iC] at hb; rfl
     | _=>simp [AV.iC] at hb
    subst hb
    exact DS hT hg ho O7 O8 h
  ·rename_i op t x ho
   obtain ⟨v,h,br⟩:=aF h
   split at h
   ·exact Pb hg ho h br
   ·exact Pc hg ho h br
   ·exact h.elim
  ·rename_i x i ho
   obtain ⟨v,h,br⟩:=aF h
   split at h
   ·split at h
    ·rename_i hl
     rw [force_eq] at h
     exact DT hg ho h hl br
    ·exact h.elim
   ·exact h.elim
  ·rename_i t x f ho
   obtain ⟨v,h,br⟩:=aF h
   exact G9 hT hg ho h br
  ·rename_i t x f ho
   obtain ⟨v,h,br⟩:=aF h
   exact xg hT hg ho h br
  ·rename_i t x i ho
   obtain ⟨v,h,br⟩:=aF h
   obtain ⟨iv,h,mN⟩:=aF h
   cases hb:(nth T t).ok && (nth T t).isSl && (nth T (nth T t).elem).ok with
   | true=>rw [hb] at h; exact Ha hT hg ho (by rw [hb]; exact h) br.dn mN
   | false=>rw [hb] at h; exact DQ hT hg ho h br mN
  ·rename_i t x ho
   have hh:=aH h; clear h; obtain ⟨bY,h⟩:=hh
   obtain ⟨v,h,br⟩:=aF h
   exact I4 hT hg ho bY h br
  ·rename_i t x y ho
   have hh:=aH h; clear h; obtain ⟨bY,h⟩:=hh
   obtain ⟨p,h,br⟩:=aF h
   obtain ⟨v,h,FM⟩:=aF h
   exact Hb hT hn hg ho bY h br FM
  ·rename_i fn first bq ho
   obtain ⟨l,h,h1⟩:=jh h
   obtain ⟨r,h,h2⟩:=jh h
   split at h
   ·exact sO hg ho h1 h2 (.inl ⟨rfl,rfl⟩) h
   ·exact sO hg ho h1 h2 (.inr ⟨rfl,rfl⟩) h
   ·exact h.elim
  ·rename_i t ho
   have hh:=aH h; clear h; obtain ⟨bY,s,h⟩:=hh
   exact DU hg ho (hn nx (Nat.le_refl _)) h
  ·rename_i t x ho
   have hh:=aH h; clear h; obtain ⟨bY,h⟩:=hh
   simp only [Bool.and_eq_true] at bY
   obtain ⟨v,h,br⟩:=aF h
   split at h
   ·obtain ⟨s,h⟩:=h
    exact Bt hT hg ho bY.1 (Nat.eq_of_beq_eq_true bY.2) (hn nx (Nat.le_refl _)) h br
   ·exact h.elim
  ·rename_i t x i c ho
   have hh:=aH h; clear h; obtain ⟨hb,h⟩:=hh
   simp only [Bool.and_eq_true] at hb
   obtain ⟨v,h,br⟩:=aF h
   obtain ⟨kv,h,mN⟩:=aF h
   exact Hd hT hg ho hb.1.1 (Nat.eq_of_beq_eq_true hb.1.2) hb.2 br mN h
  ·rename_i t x i y ho
   have hh:=aH h; clear h; obtain ⟨hb,h⟩:=hh
   simp only [Bool.and_eq_true] at hb
   obtain ⟨v,h,br⟩:=aF h
   obtain ⟨kv,h,mN⟩:=aF h
   obtain ⟨u,h,FM⟩:=aF h
   exact zu hT hg ho hn hb.1 (Nat.eq_of_beq_eq_true hb.2) br mN FM h
  ·rename_i t ho
   have hh:=aH h; clear h; obtain ⟨bY,h⟩:=hh
   exact I6 hT hg ho bY (hn nx (Nat.le_refl _)) h
  ·rename_i t x ho
   obtain ⟨v,h,br⟩:=aF h
   have hh:=aH h; clear h; obtain ⟨hc,h⟩:=hh
   exact Pd hg ho (hn nx (Nat.le_refl _)) hc h br
  ·rename_i t parts ho
   have hh:=aH h; clear h; obtain ⟨hb,h⟩:=hh
   simp only [Bool.and_eq_true] at hb
   obtain ⟨l,h,hp⟩:=ko h
   split at h
   ·rename_i cs hf
    exact I7 hT hg ho hb.1 hp hf hb.2 h
   ·exact h.elim
  ·rename_i t len parts ho
   have hh:=aH h; clear h; obtain ⟨hb,h⟩:=hh
   simp only [Bool.and_eq_true,Nat.blt_eq] at hb
   obtain ⟨⟨⟨⟨h1,h2⟩,h3⟩,h4⟩,h5⟩:=hb
   obtain ⟨l,h,hp⟩:=ko h
   split at h
   ·rename_i cs hf
    have hh:=aH h; clear h; obtain ⟨hc,h⟩:=hh
    exact xh hT hg ho hn h1 h2 h3 h4 h5 hp hf hc h
   ·exact h.elim
  ·rename_i t l c ho
   have hh:=aH h; clear h; obtain ⟨hb,h⟩:=hh
   simp only [Bool.and_eq_true,Nat.blt_eq] at hb
   obtain ⟨⟨⟨b1,b2⟩,b3⟩,b4⟩:=hb
   obtain ⟨lv,h,h1⟩:=aF h
   obtain ⟨cv,h,h2⟩:=aF h
   split at h
   ·obtain ⟨z,e1,e2,e3,e4,e5,fl,Mc,h⟩:=h
    exact zv hT hg ho b1 b2 b3 b4 (hn nx (Nat.le_refl _)) e1 e2 e3 e4 e5 Mc h h1 h2
   ·exact h.elim
  ·rename_i t x l hh ho
   have hq:=aH h; clear h; obtain ⟨hb,h⟩:=hq
   simp only [Bool.and_eq_true] at hb
   obtain ⟨v,h,br⟩:=aF h
   obtain ⟨lo,h,hl⟩:=xR h
   obtain ⟨hi,h,zg⟩:=xR h
   exact IX hT hg ho hn hb.1 hb.2 br.dn hl zg h
  ·rename_i c ho
   split at h
   ·rename_i hc
    split at h
    ·rename_i x t ha jf
     obtain ⟨v,h,br⟩:=aF h
     exact Mf hT hg ho hc ha jf br.dn h
    ·exact h.elim
   ·rename_i hc
    split at h
    ·rename_i x i t t' ha jf
     have hh:=aH h; clear h; obtain ⟨hb,h⟩:=hh
     simp only [Bool.and_eq_true] at hb
     obtain ⟨v,h,br⟩:=aF h
     obtain ⟨kv,h,mN⟩:=aF h
     exact zw hT hg ho hc ha jf hn hb.1 (Nat.eq_of_beq_eq_true hb.2) br mN h
    ·exact h.elim
   ·rename_i hc
    split at h
    ·rename_i s x t t' ha jf
     have hh:=aH h; clear h; obtain ⟨hb,h⟩:=hh
     have:=Nat.eq_of_beq_eq_true hb
     subst this
     obtain ⟨sv,h,h1⟩:=aF h
     obtain ⟨xv,h,h2⟩:=aF h
     rcases h with h | h
     ·exact DW hT hg ho hc ha jf hn h h1 h2.dn
     ·exact He hT hg ho hc ha jf hn h h1.dn h2.dn
    ·exact h.elim
   ·rename_i hc
    split at h
    ·rename_i x y ha
     obtain ⟨a,h,h1⟩:=aF h
     obtain ⟨b,h,h2⟩:=aF h
     split at h
     ·exact Pe hg ho hc ha h h1 h2
     ·exact h.elim
    ·exact h.elim
   ·rename_i hc
    split at h
    ·rename_i x y ha
     obtain ⟨a,h,h1⟩:=aF h
     obtain ⟨b,h,h2⟩:=aF h
     split at h
     ·exact Pf hg ho hc ha h h1 h2
     ·exact h.elim
    ·exact h.elim
   ·rename_i f hc
    obtain ⟨l,h,h1⟩:=jh h
    exact j5 hg (sK ho hc h1) h
   ·rename_i t hc
    obtain ⟨v,h,br⟩:=aF h
    obtain ⟨l,h,h1⟩:=jh h
    split at h
    ·exact j5 hg (oW ho hc br h1 (.inl ⟨_,rfl,rfl⟩)) h
    ·exact j5 hg (oW ho hc br h1 (.inr (.inl ⟨_,rfl,rfl⟩))) h
    ·exact j5 hg (oW ho hc br h1 (.inr (.inr ⟨_,rfl,rfl⟩))) h
    ·rcases h with h | ⟨hf,u,h⟩
     ·exact hR.fy hg ho hc br h1 h
     ·exact bg (fun c=>by rw [ho]; simp) hg h fun _ _ _ _ _ _ _ _ aN=>by rw [hf] at aN; cases aN
    ·exact h.elim
   ·exact h.elim
  ·rename_i t x ho
   have hh:=aH h; clear h; obtain ⟨hb,h⟩:=hh
   simp only [Bool.and_eq_true] at hb
   obtain ⟨v,h,br⟩:=aF h
   split at h
   ·rename_i j ver ep p
    split at h
    ·rename_i d hj
     have hh:=aH h; clear h; obtain ⟨cw,h⟩:=hh
     simp only [Bool.and_eq_true,Bool.or_eq_true] at cw
     obtain ⟨nd,h,c8⟩:=bB h
     split at h
     ·exact I8 hT hg ho hb.1 (Nat.eq_of_beq_eq_true hb.2) (hn nx (Nat.le_refl _)) hj (by have:=cw.2; rw [Nat.blt_eq] at this; exact this) (Nat.eq_of_beq_eq_true cw.1.1)
       (cw.1.2.imp (fun e=>by cases p with | nil=>rfl | cons=>simp [emp] at e) Nat.eq_of_beq_eq_true) (c8 rfl) h br
     ·exact h.elim
    ·exact h.elim
   ·exact h.elim
  ·rename_i x ho
   obtain ⟨v,h,br⟩:=aF h
   split at h
   ·rename_i i
    split at h
    ·rename_i hi
     exact I9 hg ho hi h.1 h.2 br
    ·exact h.elim
   ·exact h.elim
  ·rename_i s t x ho
   have hh:=aH h; clear h; obtain ⟨hb,h⟩:=hh
   simp only [Bool.and_eq_true] at hb
   obtain ⟨v,h,br⟩:=aF h
   split at h
   ·rename_i hi
    exact DX hT hg ho hb.1 hb.2 hi h br
   ·exact IU hT hg ho hb.1 hb.2 h (bn.dn br)
  ·rename_i t x i ho
   have hh:=aH h; clear h; obtain ⟨hb,h⟩:=hh
   simp only [Bool.and_eq_true] at hb
   obtain ⟨v,h,br⟩:=aF h
   obtain ⟨iv,h,mN⟩:=aF h
   split at h
   ·obtain ⟨b,G7,h⟩:=h
    exact Ja hT hg ho hb.1 hb.2 G7 h br mN
   ·exact h.elim
  ·exact h.elim
end
end Go.TM
namespace Go.TM
open Go.RowKit
variable [ct]
def DY:Op→Bool
 | .buildSlice _ _ _=>true
 | .call c=>match c.callee with
  | .builtin .append=>true
  | _=>false
 | _=>false
def qb (o:Oper):Oper:={ o with guard:=none }
def DZ (P:Program) (T:List TI) (ops:List Oper) (n:Nat) (o:Oper) (nx:Nat) (ρ:Nat→AV) (κ:Nat→ao) (k:jo→Nat→Prop):Prop :=
 match o.guard with
 | none=>nU P T ops n o nx ρ κ k
 | some _=>bif DY o.op then nU P T ops n o nx ρ κ k ∨ (match bL ρ ops o.guard with
   | some g=>(g=false∧aR n o g nx k .any []) ∨ (g=true∧nU P T ops n (qb o) nx ρ κ k)
   | none=>False)
  else nU P T ops n o nx ρ κ k
def Pg (P:Program) (T:List TI) (ops:List Oper) (n:Nat):List Oper→Nat→Env→ah→(Nat→Env→ah→Prop)→Prop
 | [],nx,env,K,k=>k nx env K
 | o::rest,nx,env,K,k=>DZ P T ops n o nx (look env) (aa K) fun bf dF=>uL bf.dst env fun js=>uM bf.box K fun K'=>Pg P T ops n rest dF js K' k
structure Rec where
 rows:List Nat
 bf:jo
def FO:Op→Bool
 | .call c=>match c.callee with
  | .value (.tmp _)=>true
  | _=>false
 | _=>false
def dQ:List (Nat × ao)→List Nat
 | []=>[]
 | p::r=>p.1::dQ r
def FP (κ:Nat→ao) (rd:List Nat):List (Nat × ao)→(List (Nat × ao)→Prop)→Prop
 | [],k=>k []
 | (i,b)::r,k=>((fU i rd && !fU i (dQ r))=true∧κ i=b∧FP κ rd r k) ∨ FP κ rd r fun r=>k ((i,b)::r)
def Jb (ops:List Oper) (o:Oper) (κ:Nat→ao) (bf:jo) (k:jo→Prop):Prop :=
 bif FO o.op && Nat.ble 16 ops.length then k bf ∨ FP κ bf.reads bf.box fun bx=>k { bf with box:=bx } else k bf
def FQ (P:Program) (T:List TI) (ops:List Oper) (n:Nat):List Oper→Nat→Env→ah→List Rec→(Nat→Env→ah→List Rec→Prop)→Prop
 | [],nx,env,K,acc,k=>k nx env K acc
 | o::rest,nx,env,K,acc,k=>DZ P T ops n o nx (look env) (aa K) fun bf dF=>Jb ops o (aa K) bf fun bf=>uL bf.dst env fun js=>uM bf.box K fun K'=>FQ P T ops n rest dF js K' (acc++[⟨fo (look env) (aa K) o,bf⟩]) k
def iU:List Nat→List Nat→Bool
 | [],_=>true
 | x::r,l=>!fU x l && iU r l
def ib:List (Nat × AV)→List Nat
 | []=>[]
 | p::r=>p.1::ib r
def da (ops:List Oper) (x y:Rec) (oy:Oper):Bool :=
 iU (ib x.bf.dst) (oy.looksAt ops.toArray) && iU (ib x.bf.dst) (ib y.bf.dst) &&
 iU (dQ x.bf.box) y.rows && iU (dQ x.bf.box) y.bf.reads && iU (dQ x.bf.box) (dQ y.bf.box)
def qc (o:Oper):List Nat:=o.after.toList.filterMap fun e=>bif Region.binds .any e then some e.on else none
def mP (ops:List Oper):Nat→Nat→Nat→Bool
 | 0,_,_=>false
 | f+1,i,j=>match ops[j]? with
  | some o=>(qc o).any fun d=>Nat.beq d i || mP ops f i d
  | none=>false
def uN:Nat→List Oper→Bool
 | _,[]=>true
 | i,o::r=>(qc o).all (fun d=>Nat.blt d i) && uN (i+1) r
def qd (ops:List Oper) (rs:List Rec) (j:Nat) (y:Rec) (oy:Oper):Nat→List Rec→List Oper→Bool
 | i,x::xr,ox::or=>(bif Nat.blt i j then mP ops ops.length i j || (da ops x y oy && da ops y x ox) else true) && qd ops rs j y oy (i+1) xr or
 | _,_,_=>true
def nV (ops:List Oper) (rs:List Rec):Nat→List Rec→List Oper→Bool
 | j,y::yr,oy::or=>qd ops rs j y oy 0 rs ops && nV ops rs (j+1) yr or
 | _,_,_=>true
def rE (ops:List Oper) (rs:List Rec):Bool:=uN 0 ops && nV ops rs 0 rs ops
def xW (g:dy) (n nx:Nat) (env:Env) (K:ah) (a:Act) (w:World):Prop:=St g n (look env) (aa K) a w∧g.m≤nx∧∀i,nx≤i→aa K i=.none
theorem qe {F:Fence} {m:Nat} {P:Program} {o:Oper} {a:Act} {w:World} {K K':Act→World→Prop} {Q:Exit→Act→World→Prop} (h:∀a w,K a w→K' a w) (hh:o.wpIn F m P a w K (fun _ _ _=>False)):o.wpIn F m P a w K' Q:=by
 unfold Oper.wpIn at *
 refine ⟨hh.1,?_⟩
 have hh:=hh.2
 generalize (o.semAt F.round a.eval).run P w=r at *
 cases r with
 | ok x w' =>
  cases x <;> simp only [Oper.uponIn] at hh ⊢ <;>
   first
    | exact h _ _ hh
    | exact ⟨hh.1,CallsIn.mono hh.2 (fun e Xs he=>by cases e <;> first | exact h _ _ he | exact he.elim | (obtain ⟨_,_,hf⟩:=he; exact hf.elim))⟩
    | exact ⟨hh.1,RowsIn.mono hh.2 (fun _ _ he=>h _ _ he)⟩
    | exact ⟨hh.1,RoundIn.mono hh.2 (fun e Xs he=>by cases e <;> first | exact h _ _ he | exact he.elim | (obtain ⟨_,_,hf⟩:=he; exact hf.elim))⟩
    | exact hh.elim
 | halt x w'=>cases x <;> simp only [Oper.uponIn] at hh ⊢ <;> exact hh.elim
def cX (P:Program) (C:dy→Prop):Prop:=∀(ops:List Oper) (n:Nat) (o:Oper) (nx:Nat) (ρ:Nat→AV) (κ:Nat→ao) (k:jo→Nat→Prop),(∀i,nx≤i→κ i=.none)→FN P C ops n o nx ρ κ k
section
variable {P:Program} {C:dy→Prop} {T:List TI} {ops:List Oper} {n:Nat} {g:dy}
theorem zx {o:Oper} {nx:Nat} {ρ:Nat→AV} {κ:Nat→ao} {k:jo→Nat→Prop} (hg:bL ρ ops o.guard=some true) (h:Good P C ops n (qb o) nx ρ κ k):Good P C ops n o nx ρ κ k:=by
 obtain ⟨bf,dF,h1,h2,h3,h4⟩:=h
 refine ⟨bf,dF,h1,h2,h3,fun F hF ρ' κ' au g a w dh ai=>?_⟩
 have hs:∀t,t∈(qb o).looksAt ops.toArray→ρ' t=ρ t:=fun t ht=>au.bt t (by
  unfold Oper.looksAt qb at ht
  simp only [List.append_nil] at ht
  unfold Oper.looksAt
  exact List.mem_append_left _ ht)
 have hr:=h4 F hF ρ' κ' ⟨hs,au.rows,au.reads,au.boxes⟩ g a w dh ai
 obtain ⟨G,fS⟩:=ai
 unfold km at hr ⊢
 rw [if_pos (cf hg au.bt fS)]
 have hw:Region.wanted (qb o) (yielded ops.toArray a.tmps)=true:=rfl
 rw [if_pos hw] at hr
 exact hr
theorem o0 (hT:ef P T) {o:Oper} {nx:Nat} {ρ:Nat→AV} {κ:Nat→ao} {k:jo→Nat→Prop} (hn:∀i,nx≤i→κ i=.none) (hR:cX P C) (h:DZ P T ops n o nx ρ κ k):Good P C ops n o nx ρ κ k:=by
 have xi:nU P T ops n o nx ρ κ k→Good P C ops n o nx ρ κ k:=rD hT hn (hR _ _ _ _ _ _ _ hn)
 unfold DZ at h
 split at h
 ·exact xi h
 ·cases hh:DY o.op with
  | false=>rw [hh] at h; exact xi h
  | true =>
   rw [hh] at h
   rcases h with h | h
   ·exact xi h
   ·split at h
    ·rename_i g hg
     rcases h with ⟨hf,h⟩ | ⟨hf,h⟩
     ·subst hf
      refine bg (fun c hc=>?_) hg h fun _ _ _ _ _ _ _ _ aN=>by cases aN
      rw [hc] at hh; simp [DY] at hh
     ·subst hf
      exact zx hg (rD hT hn (hR _ _ _ _ _ _ _ hn) h)
    ·exact h.elim
theorem jt {nx dF:Nat} {K:ah} {bx:List (Nat × ao)} (hn:∀i,nx≤i→aa K i=.none) (hle:nx≤dF) (hb:∀p,p∈bx→p.1<dF):∀i,dF≤i→aa (tD bx K) i=.none:=by
 intro i hi
 rw [eT]
 have key:∀(l:List (Nat × ao)),(∀p,p∈l→p.1<dF)→aw (aa K) l i=.none:=by
  intro l
  induction l with
  | nil=>intro _; exact hn i (by omega)
  | cons p r ih =>
   intro hl
   obtain ⟨j,b⟩:=p
   have:=hl (j,b) (by simp)
   simp only [aw]
   rw [ae _ _ (by simp at this; omega)]
   exact ih fun p hp=>hl p (by simp [hp])
 exact key bx hb
theorem nW {o:Oper} {rest:List Oper} {a:Act} {w:World} {K:Act→World→Prop} {Q:Exit→Act→World→Prop} {F:Fence} (hF:fT F) (h:km P F ops.toArray o a w K) (hk:∀a w,K a w→wpListIn F 0 P ops.toArray Q rest a w):wpListIn F 0 P ops.toArray Q (o::rest) a w:=by
 unfold km at h
 simp only [wpListIn]
 split at h
 ·rename_i hw; rw [if_pos hw]; exact qe hk h
 ·rename_i hw; rw [if_neg hw]; exact ⟨fun f _=>hF.fn f,hk _ _ h⟩
theorem uO (hT:ef P T) (hR:cX P C) (zy:C g) {F:Fence} (hF:fT F) {Q:Exit→Act→World→Prop} {k:Nat→Env→ah→Prop} (hQ:∀nx env K a w,k nx env K→xW g n nx env K a w→Q .normal a w) :
  ∀(rest:List Oper) (nx:Nat) (env:Env) (K:ah) (a:Act) (w:World),Pg P T ops n rest nx env K k→xW g n nx env K a w→wpListIn F 0 P ops.toArray Q rest a w
 | [],nx,env,K,a,w,h,hs=>hQ nx env K a w h hs
 | o::rest,nx,env,K,a,w,h,⟨hs,dh,hn⟩=>by
  obtain ⟨bf,dF,hk,hle,hb,rF⟩:=o0 hT hn hR h
  rw [uP,uQ] at hk
  refine nW hF (rF F hF (look env) (aa K) ⟨fun _ _=>rfl,fun _ _=>rfl,fun _ _=>rfl,fun _ _ _=>rfl⟩ g a w ⟨dh,zy⟩ hs) fun a' w' dD=>?_
  refine uO hT hR zy hF hQ rest dF _ _ a' w' hk ⟨?_,Nat.le_trans dh hle,jt hn hle hb⟩
  rw [ji,eT]
  exact dD
def acc {γ:Type _} (f:Nat→γ) (wr:Nat→List (Nat × γ)) (E:Nat→Bool):Nat→Nat→γ
 | 0=>f
 | m+1=>if E m then aw (acc f wr E m) (wr m) else acc f wr E m
def keys {γ:Type _} (l:List (Nat × γ)):List Nat:=l.map (·.1)
theorem cd {γ:Type _} (f:Nat→γ):∀{l:List (Nat × γ)} {t:Nat},t ∉ keys l→aw f l t=f t
 | [],t,_=>rfl
 | (i,x)::r,t,h=>by
  simp only [keys,List.map_cons,List.mem_cons,not_or] at h
  simp only [aw]
  rw [ae _ _ h.1]
  exact cd f h.2
theorem tM {γ:Type _} (f f':Nat→γ):∀{l:List (Nat × γ)} {t:Nat},t∈keys l→aw f l t=aw f' l t
 | [],t,h=>by simp [keys] at h
 | (i,x)::r,t,h=>by
  simp only [aw]
  by_cases e:t=i
  ·subst e; simp
  ·rw [ae _ _ e,ae _ _ e]
   simp only [keys,List.map_cons,List.mem_cons,e,false_or] at h
   exact tM f f' h
section
variable {γ:Type _} {f:Nat→γ} {wr:Nat→List (Nat × γ)} {E:Nat→Bool}
theorem nX {t:Nat}:∀{j:Nat},(∀i,i<j→E i=false→t ∉ keys (wr i))→acc f wr E j t=acc f wr (fun _=>true) j t
 | 0,_=>rfl
 | j+1,h=>by
  have ih:=nX (t:=t) (j:=j) fun i hi=>h i (by omega)
  simp only [acc,if_true]
  cases he:E j with
  | true =>
   simp only [if_true]
   by_cases hk:t∈keys (wr j)
   ·exact tM _ _ hk
   ·rw [cd _ hk,cd _ hk,ih]
  | false =>
   simp only [Bool.false_eq_true,if_false]
   rw [cd _ (h j (by omega) he)]
   exact ih
theorem Bu {t j:Nat}:∀{m:Nat},(∀i,j≤i→i<j+m→E i=true→t ∉ keys (wr i))→acc f wr E (j+m) t=acc f wr E j t
 | 0,_=>rfl
 | m+1,h=>by
  have ih:=Bu (t:=t) (j:=j) (m:=m) fun i h1 h2=>h i h1 (by omega)
  show acc f wr E (j+m+1) t=_
  simp only [acc]
  cases he:E (j+m) with
  | true=>simp only [if_true]; rw [cd _ (h _ (by omega) (by omega) he)]; exact ih
  | false=>simp only [Bool.false_eq_true,if_false]; exact ih
theorem qg {t j len:Nat} (hj:j≤len) (h1:∀i,i<j→E i=false→t ∉ keys (wr i)) (h2:∀i,j≤i→i<len→E i=true→t ∉ keys (wr i)):acc f wr E len t=acc f wr (fun _=>true) j t:=by
 obtain ⟨m,rfl⟩:∃m,len=j+m:=⟨len - j,by omega⟩
 rw [Bu h2,nX h1]
def kE (E:Nat→Bool) (j:Nat):Nat→Bool:=fun i=>if i=j then true else E i
theorem qh {j:Nat} (hj:E j=false):∀{len:Nat},j<len→(∀i,j<i→i<len→E i=true→∀t,t∈keys (wr j)→t ∉ keys (wr i))→acc f wr (kE E j) len=aw (acc f wr E len) (wr j)
 | 0,h,_=>by omega
 | len+1,h,hd=>by
  rcases Nat.lt_or_ge j len with aJ | dw
  ·have ih:=qh hj aJ fun i h1 h2=>hd i h1 (by omega)
   have bD:len ≠ j:=by omega
   simp only [acc,kE,if_neg bD]
   cases he:E len with
   | false=>simp only [Bool.false_eq_true,if_false]; exact ih
   | true =>
    simp only [if_true]
    show aw (acc f wr (kE E j) len) (wr len)=_
    rw [ih]
    funext t
    by_cases h1:t∈keys (wr j)
    ·have h2:=hd len aJ (by omega) he t h1
     rw [cd _ h2]
     exact tM _ _ h1
    ·rw [cd (aw (acc f wr E len) (wr len)) h1]
     by_cases h2:t∈keys (wr len)
     ·exact tM _ _ h2
     ·rw [cd _ h2,cd _ h2,cd _ h1]
  ·have:j=len:=by omega
   subst this
   have low:∀m,m≤j→acc f wr (kE E j) m=acc f wr E m:=by
    intro m
    induction m with
    | zero=>intro _; rfl
    | succ m ih =>
     intro hm
     simp only [acc,kE,if_neg (show m ≠ j by omega)]
     rw [ih (by omega)]
   simp only [acc,hj,Bool.false_eq_true,if_false]
   simp only [kE,if_true]
   rw [low j (Nat.le_refl _)]
end
theorem ID.lo {lo Q5:Nat} {o:Oper} {ρ:Nat→AV} {κ:Nat→ao} {bf:jo} (h:ID P C ops n Q5 o ρ κ bf) (hl:lo≤Q5):ID P C ops n lo o ρ κ bf :=
 fun F hF ρ' κ' au g a w hg hs=>h F hF ρ' κ' au g a w ⟨Nat.le_trans hg.1 hl,hg.2⟩ hs
theorem qi {γ:Type _} (f:Nat→γ) (wr Wt:Nat→List (Nat × γ)) (m:Nat):(∀i,i<m→Wt i=wr i)→acc f Wt (fun _=>true) m=acc f wr (fun _=>true) m:=by
 induction m with
 | zero=>intro _; rfl
 | succ m ih=>intro hh; simp only [acc,if_true]; rw [ih fun i hi=>hh i (by omega),hh m (by omega)]
theorem o3 {κ:Nat→ao} {rd:List Nat}:∀{bx:List (Nat × ao)} {k:List (Nat × ao)→Prop},FP κ rd bx k→∃Mh,k Mh∧(∀p,p∈Mh→p∈bx)∧(∀p,p∈bx→p∈Mh ∨ p.1∈rd)∧∀κ':Nat→ao,(∀i,i∈rd→κ' i=κ i)→aw κ' Mh=aw κ' bx
 | [],k,h=>⟨[],h,fun _ h=>h,fun _ h=>.inl h,fun _ _=>rfl⟩
 | (i,b)::r,k,h=>by
  rcases h with ⟨h1,h2,h⟩ | h
  ·obtain ⟨Mh,hk,ha,hb,hc⟩:=o3 h
   simp only [Bool.and_eq_true,Bool.not_eq_true'] at h1
   refine ⟨Mh,hk,fun p hp=>List.mem_cons_of_mem _ (ha p hp),fun p hp=>?_,fun κ' hκ=>?_⟩
   ·rcases List.mem_cons.1 hp with rfl | hp
    ·exact .inr (kF h1.1)
    ·exact hb p hp
   ·rw [hc κ' hκ]
    funext j
    by_cases e:j=i
    ·subst e
     have Xt:∀(l:List (Nat × ao)),dQ l=keys l:=fun l=>by
      induction l with
      | nil=>rfl
      | cons p r ih=>simp [dQ,keys,ih]
     rw [cd _ (by rw [←Xt]; exact eu h1.2)]
     simp only [aw,aW]
     rw [hκ _ (kF h1.1),h2]
    ·simp only [aw]
     rw [ae _ _ e]
  ·obtain ⟨Mh,hk,ha,hb,hc⟩:=o3 h
   refine ⟨(i,b)::Mh,hk,fun p hp=>?_,fun p hp=>?_,fun κ' hκ=>?_⟩
   ·rcases List.mem_cons.1 hp with rfl | hp
    ·exact List.mem_cons_self
    ·exact List.mem_cons_of_mem _ (ha p hp)
   ·rcases List.mem_cons.1 hp with rfl | hp
    ·exact .inl List.mem_cons_self
    ·rcases hb p hp with h | h
     ·exact .inl (List.mem_cons_of_mem _ h)
     ·exact .inr h
   ·simp only [aw]
    rw [hc κ' hκ]
theorem D0 {o:Oper} {nx:Nat} {ρ:Nat→AV} {κ:Nat→ao} {k:jo→Nat→Prop} (h:Good P C ops n o nx ρ κ fun bf dF=>Jb ops o κ bf fun bf=>k bf dF):Good P C ops n o nx ρ κ k:=by
 obtain ⟨bf,dF,h1,h2,h3,h4⟩:=h
 unfold Jb at h1
 cases hd:FO o.op && Nat.ble 16 ops.length with
 | false=>rw [hd] at h1; exact ⟨bf,dF,h1,h2,h3,h4⟩
 | true =>
  rw [hd] at h1
  rcases h1 with h1 | h1
  ·exact ⟨bf,dF,h1,h2,h3,h4⟩
  ·obtain ⟨Mh,hk,ha,hb,hc⟩:=o3 h1
   refine ⟨_,dF,hk,h2,fun p hp=>h3 p (ha p hp),fun F hF ρ' κ' au g a w dh ai=>?_⟩
   have hr:=h4 F hF ρ' κ' ⟨au.bt,au.rows,au.reads,fun i b Xu=>?_⟩ g a w dh ai
   ·simp only
    rw [hc κ' au.reads]
    exact hr
   ·rcases hb _ Xu with h | h
    ·exact au.boxes i b h
    ·exact au.reads i h
theorem sP (hT:ef P T) (hR:cX P C) {k:Nat→Env→ah→List Rec→Prop} {ρ0:Nat→AV} {κ0:Nat→ao} {lo:Nat} :
  ∀(rest done:List Oper) (nx:Nat) (env:Env) (K:ah) (rs:List Rec),ops=done++rest→rs.length=done.length→lo≤nx →
   (∀i,nx≤i→aa K i=.none) →
   look env=acc ρ0 (fun i=>(rs[i]?.map (·.bf.dst)).getD []) (fun _=>true) done.length→aa K=acc κ0 (fun i=>(rs[i]?.map (·.bf.box)).getD []) (fun _=>true) done.length →
   (∀i r o,rs[i]?=some r→ops[i]?=some o→r.rows=fo (acc ρ0 (fun i=>(rs[i]?.map (·.bf.dst)).getD []) (fun _=>true) i) (acc κ0 (fun i=>(rs[i]?.map (·.bf.box)).getD []) (fun _=>true) i) o∧ID P C ops n lo o (acc ρ0 (fun i=>(rs[i]?.map (·.bf.dst)).getD []) (fun _=>true) i) (acc κ0 (fun i=>(rs[i]?.map (·.bf.box)).getD []) (fun _=>true) i) r.bf) →
   FQ P T ops n rest nx env K rs k →
   ∃dF js K' o4,k dF js K' o4∧o4.length=ops.length∧lo≤dF∧(∀i,dF≤i→aa K' i=.none) ∧
    look js=acc ρ0 (fun i=>(o4[i]?.map (·.bf.dst)).getD []) (fun _=>true) ops.length∧aa K'=acc κ0 (fun i=>(o4[i]?.map (·.bf.box)).getD []) (fun _=>true) ops.length ∧
    ∀i r o,o4[i]?=some r→ops[i]?=some o→r.rows=fo (acc ρ0 (fun i=>(o4[i]?.map (·.bf.dst)).getD []) (fun _=>true) i) (acc κ0 (fun i=>(o4[i]?.map (·.bf.box)).getD []) (fun _=>true) i) o∧ID P C ops n lo o (acc ρ0 (fun i=>(o4[i]?.map (·.bf.dst)).getD []) (fun _=>true) i) (acc κ0 (fun i=>(o4[i]?.map (·.bf.box)).getD []) (fun _=>true) i) r.bf
 | [],done,nx,env,K,rs,zA,hlen,pY,hn,he,hk,df,h=>by
  have:done.length=ops.length:=by rw [zA]; simp
  exact ⟨nx,env,K,rs,h,by omega,pY,hn,by rw [←this]; exact he,by rw [←this]; exact hk,df⟩
 | o::rest,done,nx,env,K,rs,zA,hlen,pY,hn,he,hk,df,h=>by
  obtain ⟨bf,dF,ey,hle,hb,rF⟩:=D0 (ops:=ops) (n:=n) (o:=o) (nx:=nx) (ρ:=look env) (κ:=aa K) (k:=fun bf dF=>uL bf.dst env fun js=>uM bf.box K fun K'=>FQ P T ops n rest dF js K' (rs++[(⟨fo (look env) (aa K) o,bf⟩:Rec)]) k) (o0 hT hn hR h)
  rw [uP,uQ] at ey
  have bp:∀i,i<rs.length→(rs++[⟨fo (look env) (aa K) o,bf⟩])[i]?=rs[i]?:=fun i hi=>List.getElem?_append_left hi
  have mQ:(rs++[(⟨fo (look env) (aa K) o,bf⟩:Rec)])[done.length]?=some ⟨fo (look env) (aa K) o,bf⟩:=by rw [←hlen]; simp
  have fb:∀m,m≤done.length→acc ρ0 (fun i=>((rs++[(⟨fo (look env) (aa K) o,bf⟩:Rec)])[i]?.map (·.bf.dst)).getD []) (fun _=>true) m=acc ρ0 (fun i=>(rs[i]?.map (·.bf.dst)).getD []) (fun _=>true) m :=
   fun m hm=>qi _ _ _ m fun i hi=>by rw [bp i (by omega)]
  have oC:∀m,m≤done.length→acc κ0 (fun i=>((rs++[(⟨fo (look env) (aa K) o,bf⟩:Rec)])[i]?.map (·.bf.box)).getD []) (fun _=>true) m=acc κ0 (fun i=>(rs[i]?.map (·.bf.box)).getD []) (fun _=>true) m :=
   fun m hm=>qi _ _ _ m fun i hi=>by rw [bp i (by omega)]
  refine sP hT hR rest (done++[o]) dF (Bv bf.dst env) (tD bf.box K) (rs++[⟨fo (look env) (aa K) o,bf⟩]) (by rw [zA]; simp) (by simp [hlen]) (Nat.le_trans pY hle) (jt hn hle hb) ?_ ?_ ?_ ey
  ·rw [ji,List.length_append]
   simp only [List.length_cons,List.length_nil,Nat.zero_add,acc,if_true]
   rw [fb _ (Nat.le_refl _),mQ,←he]; rfl
  ·rw [eT,List.length_append]
   simp only [List.length_cons,List.length_nil,Nat.zero_add,acc,if_true]
   rw [oC _ (Nat.le_refl _),mQ,←hk]; rfl
  ·intro i r o' hr hU
   rcases Nat.lt_or_ge i rs.length with aJ | dw
   ·rw [bp i aJ] at hr
    rw [fb i (by omega),oC i (by omega)]
    exact df i r o' hr hU
   ·have hi:i=done.length:=by
     have:=(List.getElem?_eq_some_iff.1 hr).1
     simp at this; omega
    subst hi
    rw [mQ] at hr
    injection hr with hr
    subst hr
    rw [zA] at hU
    simp at hU
    subst hU
    rw [fb _ (Nat.le_refl _),oC _ (Nat.le_refl _),←he,←hk]
    exact ⟨rfl,rF.lo pY⟩
end
end Go.TM
