import Derived.Test.YtpbdohkbiklflaaGreatDoorCM10
import Derived.Orders
set_option linter.unusedVariables false
set_option linter.unusedSimpArgs false
set_option linter.unusedSectionVars false
namespace Go.TM
open Go.RowKit
variable [cu]
section
variable {P:Program} {C:dD→Prop} {T:List TI} {ops:List Oper} {n:Nat} {o:Oper} {nx:Nat} {ρ:Nat→AV} {κ:Nat→ar} {k:jH→Nat→Prop} {gd:Bool}
theorem nr {x:Operand} {v:AV} (h:ev ρ κ x=v):bu ρ κ gd x v:=by
 intro ρ' κ' ax g n a w G ak _
 rw [←h]
 exact yT ρ' κ' ax g n a w G ak
theorem so {x:Operand} {v:AV} {g':Bool} (h:ev ρ κ x=.opt g' v) (hg:gd=true→g'=true) (hr:res κ v=v):bu ρ κ gd x v:=by
 have:=Cs h hg
 rwa [hr] at this
theorem KG {c x y:Operand} (hg:bR ρ ops o.guard=some gd) (ho:o.op=.pick c x y)
  (h:match ev ρ κ c,ev ρ κ x,ev ρ κ y with
   | .dv (.bool b),.dv (.bool p),.dv (.bool q)=>aW n o gd nx k (.dv (.bool (bif b then p else q))) []
   | .dv (.bool b),.opt gp (.dv (.bool p)),.dv (.bool q)=>(gd=true→b=true→gp=true)∧aW n o gd nx k (.dv (.bool (bif b then p else q))) []
   | .dv (.bool b),.dv (.bool p),.opt gq (.dv (.bool q))=>(gd=true→b=false→gq=true)∧aW n o gd nx k (.dv (.bool (bif b then p else q))) []
   | .opt gb (.dv (.bool b)),.opt gp (.dv (.bool p)),.dv (.bool q)=>(gd=true→gb=true∧(b=true→gp=true))∧aW n o gd nx k (.dv (.bool (bif b then p else q))) []
   | .opt gb (.dv (.bool b)),.dv (.bool p),.opt gq (.dv (.bool q))=>(gd=true→gb=true∧(b=false→gq=true))∧aW n o gd nx k (.dv (.bool (bif b then p else q))) []
   | _,_,_=>False):Good P C ops n o nx ρ κ k:=by
 split at h
 ·rename_i b p q h1 h2 h3
  exact lO hg ho h (nr h1) (nr h2) (nr h3)
 ·rename_i b gp p q h1 h2 h3
  exact lO hg ho h.2 (nr h1) (so h2 (by simp only [Bool.and_eq_true]; exact fun hh=>h.1 hh.1 hh.2) rfl) (nr h3)
 ·rename_i b p gq q h1 h2 h3
  exact lO hg ho h.2 (nr h1) (nr h2) (so h3 (by simp only [Bool.and_eq_true,Bool.not_eq_true']; exact fun hh=>h.1 hh.1 hh.2) rfl)
 ·rename_i gb b gp p q h1 h2 h3
  exact lO hg ho h.2 (so h1 (fun hh=>(h.1 hh).1) rfl) (so h2 (by simp only [Bool.and_eq_true]; exact fun hh=>(h.1 hh.1).2 hh.2) rfl) (nr h3)
 ·rename_i gb b p gq q h1 h2 h3
  exact lO hg ho h.2 (so h1 (fun hh=>(h.1 hh).1) rfl) (nr h2) (so h3 (by simp only [Bool.and_eq_true,Bool.not_eq_true']; exact fun hh=>(h.1 hh.1).2 hh.2) rfl)
 ·exact h.elim
theorem N6 (hT:er P T) {c:Call} {x:Operand} {t:Nat} {v:AV} (hg:bR ρ ops o.guard=some gd) (ho:o.op=.call c) (hc:c.callee=.builtin .len) (ha:c.args.toList=[x]) (jz:c.argTypes.toList=[t])
  (bB:bu ρ κ gd x v) (h:Al (nth T t) κ gd v fun r rd=>aW n o gd nx k r rd):Good P C ops n o nx ρ κ k:=by
 unfold Al at h
 split at h
 ·have hh:=aM h; clear h; obtain ⟨hb,h⟩:=hh
  simp only [Bool.and_eq_true] at hb
  refine pN hT hg ho hc ha jz h bB hb.1 fun _ κ' _ G w v _ hv=>.inl ⟨hb.2,?_⟩
  cases hv with | dv hv=>cases hv with
  | slnil=>exact ⟨_,_,_,rfl,rfl⟩
  | sl=>exact ⟨_,_,_,rfl,rfl⟩
 ·have hh:=aM h; clear h; obtain ⟨hb,h⟩:=hh
  simp only [Bool.and_eq_true] at hb
  refine pN hT hg ho hc ha jz h bB hb.1 fun _ κ' _ G w v _ hv=>.inl ⟨hb.2,?_⟩
  cases hv with | dv hv=>cases hv with
  | aG=>exact ⟨_,_,_,rfl,rfl⟩
 ·have hh:=aM h; clear h; obtain ⟨hb,h⟩:=hh
  simp only [Bool.and_eq_true] at hb
  refine pN hT hg ho hc ha jz h bB hb.1 fun _ κ' _ G w v _ hv=>.inr (.inl ⟨hb.2,?_⟩)
  cases hv with | dv hv=>cases hv with
  | str=>exact ⟨_,rfl,rfl⟩
 ·rename_i i ver ep p
  split at h
  ·rename_i bg bN d hk
   have hh:=aM h; clear h; obtain ⟨hb,h⟩:=hh
   obtain ⟨rfl,dx⟩:=dt hb
   obtain ⟨nd,h,c9⟩:=bG h
   split at h
   ·rename_i sz l
    have hh:=aM h; clear h; obtain ⟨hb,h⟩:=hh
    simp only [Bool.and_eq_true] at hb
    refine pN hT hg ho hc ha jz h bB hb.1 fun aR κ' ax G w v hf hv=>.inl ⟨hb.2,?_⟩
    obtain ⟨u,h1,_,bf⟩:=hf.node ((ax i (by simp)).trans hk) (c9 aR) rfl
    cases hv with | own _ _ _ _ _ hh hc =>
    rw [cU dx,h1] at hh
    injection hh with hh
    subst hh
    rcases bf with ⟨rfl,rfl⟩ | ⟨gb,ob,cap,cc,tt,rfl,_⟩
    ·exact ⟨_,_,_,rfl,rfl⟩
    ·exact ⟨_,_,_,rfl,rfl⟩
   ·rename_i ks m
    have hh:=aM h; clear h; obtain ⟨hb,h⟩:=hh
    simp only [Bool.and_eq_true] at hb
    refine pN hT hg ho hc ha jz h bB hb.1 fun aR κ' ax G w v hf hv=>.inr (.inr ⟨hb.2,?_⟩)
    obtain ⟨u,h1,_,bf⟩:=hf.node ((ax i (by simp)).trans hk) (c9 aR) rfl
    cases hv with | own _ _ _ _ _ hh hc =>
    rw [cU dx,h1] at hh
    injection hh with hh
    subst hh
    obtain ⟨m0,pf,gb,es,clock,rfl,hw,aU,_⟩:=bf
    exact ⟨gb,es,clock,rfl,hw,by rw [aU,pf.length_eq]⟩
   ·exact h.elim
  ·exact h.elim
 ·have hh:=aM h; clear h; obtain ⟨hb,h⟩:=hh
  simp only [Bool.and_eq_true] at hb
  refine pN hT hg ho hc ha jz h bB hb.1 fun _ κ' _ G w v _ hv=>.inl ⟨hb.2,?_⟩
  cases hv
  exact ⟨_,_,_,rfl,rfl⟩
 ·have hh:=aM h; clear h; obtain ⟨hb,h⟩:=hh
  simp only [Bool.and_eq_true] at hb
  refine pN hT hg ho hc ha jz h bB hb.1 fun _ κ' _ G w v _ hv=>.inl ⟨hb.2,?_⟩
  cases hv
  exact ⟨_,_,_,rfl,rfl⟩
 ·exact h.elim
theorem uC {x:Operand} {i ver ep bN:Nat} {p:List PS} {d y:DV} (hg:bR ρ ops o.guard=some gd) (ho:o.op=.nilCheck x) (hk:κ i=.tree ver bN d) (dx:p=[] ∨ ep=bN) (c9:gd=true→get d p=some (.cB y))
  (hr:aW n o gd nx k (.loc i ver ep p 1 0 0) [i]) (bB:bu ρ κ gd x (.own i ver ep p)):Good P C ops n o nx ρ κ k:=by
 refine bm (fun c=>by rw [ho]; simp) hg hr fun ρ' κ' ax g a w G ak aR=>?_
 have hv:=bB ρ' κ' (ax.op (by rw [ho]; simp [Op.operands])) g n a w G ak aR
 generalize hx:a.eval x=v at hv
 obtain ⟨u,h1,_,bf⟩:=ak.fit.node ((ax.reads i (by simp)).trans hk) (c9 aR) rfl
 cases hv with | own _ _ _ _ _ hh hc =>
 have yd:=hh
 rw [cU dx,h1] at hh
 injection hh with hh
 subst hh
 obtain ⟨gb,c,t,rfl,hw,_⟩:=bf
 refine ⟨.pointer (some ⟨gb,0,none⟩),by simp [execOp,ho,hx],?_⟩
 have:=aH.mU (G:=G) i ver ep p 1 0 0 _ yd
 rw [cO] at this
 exact this
theorem ye (hT:er P T) {t f:Nat} {x:Operand} {v:AV} (hg:bR ρ ops o.guard=some gd) (ho:o.op=.fieldAddr t x f)
  (h:match (nth T t).ok,(nth T t).fields[f]? with
   | true,some (off,sz+1)=>match v with
    | .ptr i o'=>aW n o gd nx k (.ptr i (o'+off)) []
    | .dv (.at x o')=>aW n o gd nx k (.dv (.at x (o'+off))) []
    | .loc i ver ep p pO idx o'=>aW n o gd nx k (.loc i ver ep p pO idx (o'+off)) []
    | _=>False
   | _,_=>False) (bB:bu ρ κ gd x v):Good P C ops n o nx ρ κ k:=by
 split at h
 ·rename_i off sz bK hf
  split at h
  ·refine lP hT hg ho bK hf h bB (fun G v hv=>?_)
   cases hv with
   | ptr _ _ b hb =>
    refine ⟨_,rfl,?_⟩
    rw [cO]
    exact .ptr _ _ b hb
  ·refine lP hT hg ho bK hf h bB (fun G v hv=>?_)
   cases hv with | dv hv=>cases hv with
   | _ =>
    rename_i A cell fM hc hr
    refine ⟨_,rfl,?_⟩
    rw [cF]
    exact .dv (.at _ _ A cell fM hc hr)
  ·refine lP hT hg ho bK hf h bB (fun G v hv=>?_)
   cases hv with
   | loc _ _ _ _ _ _ _ A m c he =>
    refine ⟨_,rfl,?_⟩
    rw [cF,Nat.add_assoc]
    exact .loc _ _ _ _ _ _ _ A m c he
   | mU _ _ _ _ _ _ _ A he =>
    refine ⟨_,rfl,?_⟩
    rw [cF,Nat.add_assoc]
    exact .mU _ _ _ _ _ _ _ A he
  ·exact h.elim
 ·exact h.elim
theorem IS (hT:er P T) {t f:Nat} {x:Operand} {v:AV} (hg:bR ρ ops o.guard=some gd) (ho:o.op=.field t x f)
  (h:match (nth T t).ok,(nth T t).fields[f]?,(nth T t).Am[f]? with
   | true,some (off,sz+1),some ft=>match v with
    | .agg l=>bif (nth T ft).ok && Nat.beq (nth T ft).size (sz+1) then cd (nth T ft).agg l off (sz+1) fun v=>aW n o gd nx k v [] else False
    | _=>False
   | _,_,_=>False) (bB:bu ρ κ gd x v):Good P C ops n o nx ρ κ k:=by
 split at h
 ·rename_i off sz ft bK hf TP
  split at h
  ·have hh:=aM h; clear h; obtain ⟨hb,h⟩:=hh
   simp only [Bool.and_eq_true] at hb
   exact KH hT hg ho bK hf TP hb.1 (Nat.eq_of_beq_eq_true hb.2) h bB
  ·exact h.elim
 ·exact h.elim
theorem IT (hT:er P T) {t:Nat} {x i:Operand} {v iv:AV} (hg:bR ρ ops o.guard=some gd) (ho:o.op=.indexAddr t x i)
  (h:bif (nth T t).ok && (nth T t).isSl && (nth T (nth T t).elem).ok then
    match v,iv with
    | .dv (.sl sz l),.dv (.int _ m)=>bif Nat.beq sz (nth T (nth T t).elem).size then ∃x,(gd=true→0≤m∧l[m.toNat]?=some x)∧aW n o gd nx k (.dv (.at x 0)) [] else False
    | .own j ver ep p,.dv (.int _ m)=>match κ j with
     | .tree bg bN d=>bif Nat.beq ver bg && (emp p || Nat.beq ep bN) then iD gd d p fun nd=>match nd with
      | .aw sz l=>bif Nat.beq sz (nth T (nth T t).elem).size then (gd=true→0≤m∧m<l.length)∧aW n o gd nx k (.loc j ver ep p sz m.toNat 0) [j] else False
      | _=>False
      else False
     | _=>False
    | .sle j len,.dv (.int _ m)=>(gd=true→0≤m∧m<len)∧aW n o gd nx k (.ptr j (m.toNat * (nth T (nth T t).elem).size)) []
    | .pre j ver ep p sz lo len,.dv (.int _ m)=>bif Nat.beq sz (nth T (nth T t).elem).size then (gd=true→0≤m∧m<len)∧aW n o gd nx k (.loc j ver ep p sz (lo+m.toNat) 0) [] else False
    | _,_=>False
   else False) (bB:bu ρ κ gd x v) (nt:bu ρ κ gd i iv):Good P C ops n o nx ρ κ k:=by
 have hh:=aM h; clear h; obtain ⟨hb,h⟩:=hh
 simp only [Bool.and_eq_true] at hb
 split at h
 ·have hh:=aM h; clear h; obtain ⟨cy,x,hy,h⟩:=hh
  exact Ct hT hg ho hb.1.1 hb.1.2 hb.2 (Nat.eq_of_beq_eq_true cy) hy h bB nt
 ·split at h
  ·rename_i hk
   have hh:=aM h; clear h; obtain ⟨cy,h⟩:=hh
   obtain ⟨rfl,dx⟩:=dt cy
   obtain ⟨nd,h,c9⟩:=bG h
   split at h
   ·have hh:=aM h; clear h; obtain ⟨x5,hy,h⟩:=hh
    exact An hT hg ho hb.1.1 hb.1.2 hb.2 (Nat.eq_of_beq_eq_true x5) hk dx c9 hy h bB nt
   ·exact h.elim
  ·exact h.elim
 ·exact Ao hT hg ho hb.1.1 hb.1.2 hb.2 h.1 h.2 bB nt
 ·have hh:=aM h; clear h; obtain ⟨cy,hy,h⟩:=hh
  exact Ap hT hg ho hb.1.1 hb.1.2 hb.2 (Nat.eq_of_beq_eq_true cy) hy h bB nt
 ·exact h.elim
theorem E5 (hT:er P T) {t:Nat} {x i:Operand} {v iv:AV} (hg:bR ρ ops o.guard=some gd) (ho:o.op=.indexAddr t x i)
  (h:Aq (nth T t) (nth T (nth T t).elem) gd v iv fun v=>aW n o gd nx k v []) (bB:bu ρ κ gd x v) (nt:bu ρ κ gd i iv):Good P C ops n o nx ρ κ k:=by
 have hh:=aM h; clear h; obtain ⟨hb,h⟩:=hh
 simp only [Bool.and_eq_true] at hb
 have Cu:=Nat.eq_of_beq_eq_true hb.1.2
 split at h
 ·rename_i kd m
  obtain ⟨hm,h⟩:=h
  split at h
  ·rename_i y off
   refine lQ hT hg ho hb.1.1 Cu hb.2 hm h bB nt fun G v hv=>?_
   cases hv with | dv hv=>cases hv with | «at» _ _ A cell fM hc hr =>
   exact ⟨_,rfl,.dv (by rw [cF]; exact .at y _ A cell fM hc hr)⟩
  ·rename_i j off
   refine lQ hT hg ho hb.1.1 Cu hb.2 hm h bB nt fun G v hv=>?_
   cases hv with | ptr _ _ b hb =>
   exact ⟨_,rfl,by rw [show (⟨b,off,none⟩:Addr).add (m.toNat * (nth T (nth T t).elem).size)=⟨b,off+m.toNat * (nth T (nth T t).elem).size,none⟩ by unfold Addr.add; split <;> simp [*]]; exact .ptr j _ b hb⟩
  ·rename_i j ver ep p sz idx off
   refine lQ hT hg ho hb.1.1 Cu hb.2 hm h bB nt fun G v hv=>?_
   cases hv with
   | loc _ _ _ _ _ _ _ A n c e=>exact ⟨_,rfl,by rw [cF,Nat.add_assoc]; exact .loc j ver ep p sz idx _ A n c e⟩
   | mU _ _ _ _ _ _ _ A e=>exact ⟨_,rfl,by rw [cF,Nat.add_assoc]; exact .mU j ver ep p sz idx _ A e⟩
  ·exact h.elim
 ·exact h.elim
theorem KI (hT:er P T) {t:Nat} {x:Operand} {v:AV} (hg:bR ρ ops o.guard=some gd) (ho:o.op=.load t x) (bK:(nth T t).ok=true)
  (h:match v with
   | .ptr i off=>match κ i with
    | .cells l=>cd (nth T t).agg l off (nth T t).size fun v=>aW n o gd nx k v [i]
    | _=>False
   | .dv (.at x off)=>cd (nth T t).agg (iU x.cells) off (nth T t).size fun v=>aW n o gd nx k v []
   | .loc i ver ep p sz idx off=>match κ i with
    | .tree bg bN d=>bif Nat.beq ver bg && (emp p || Nat.beq ep bN) then iD gd d p fun nd=>jA i ver bN p gd sz idx nd fun l =>
      cd (nth T t).agg l off (nth T t).size fun v=>aW n o gd nx k v [i]
     else False
    | _=>False
   | _=>False) (bB:bu ρ κ gd x v):Good P C ops n o nx ρ κ k:=by
 split at h
 ·split at h
  ·rename_i hk
   exact Cv hT hg ho bK hk h bB
  ·exact h.elim
 ·exact E6 hT hg ho bK h bB
 ·split at h
  ·rename_i hk
   have hh:=aM h; clear h; obtain ⟨cy,h⟩:=hh
   obtain ⟨rfl,dx⟩:=dt cy
   exact Cw hT hg ho bK hk dx h bB
  ·exact h.elim
 ·exact h.elim
theorem IU (hT:er P T) {t:Nat} {x y:Operand} {p v:AV} (hn:∀i,nx≤i→κ i=.none) (hg:bR ρ ops o.guard=some gd) (ho:o.op=.store t x y) (bK:(nth T t).ok=true)
  (h:bif Nat.beq (cellsOf v).length (nth T t).size && bV (cellsOf v) then
    match p with
    | .ptr i off=>match κ i with
     | .cells l=>bif Nat.ble (off+(nth T t).size) l.length then dE n o nx k .any [(i,.cells (gC l off (cellsOf v)))] [i] else False
     | _=>False
    | .loc i ver ep p sz idx off=>oB n o nx κ k i ver ep p sz idx off (cellsOf v)
    | _=>False
   else False) (bB:bu ρ κ gd x p) (Hl:bu ρ κ gd y v):Good P C ops n o nx ρ κ k:=by
 have hh:=aM h; clear h; obtain ⟨hb,h⟩:=hh
 simp only [Bool.and_eq_true] at hb
 have ki:=Nat.eq_of_beq_eq_true hb.1
 split at h
 ·rename_i i off
  split at h
  ·rename_i l hk
   have hh:=aM h; clear h; obtain ⟨cy,h⟩:=hh
   have aK:i<nx:=by
    rcases Nat.lt_or_ge i nx with h | h
    ·exact h
    ·rw [hn i h] at hk; cases hk
   exact Ar hT hg ho bK hk ki hb.2 (Nat.le_of_ble_eq_true cy) h aK bB Hl
  ·exact h.elim
 ·exact As hT hg ho hn bK ki hb.2 h bB Hl
 ·exact h.elim
structure Hm (P:Program) (C:dD→Prop) (ops:List Oper) (n:Nat) (o:Oper) (nx:Nat) (ρ:Nat→AV) (κ:Nat→ar) (k:jH→Nat→Prop):Prop where
 call:∀{gd:Bool} {f:Nat} {l:List AV},bR ρ ops o.guard=some gd→si P ops o ρ κ gd f l→kH none (dR P f) n o gd nx κ k l→Good P C ops n o nx ρ κ k
 fN:∀{gd:Bool} {c:Call} {t i:Nat} {l:List AV},bR ρ ops o.guard=some gd→o.op=.call c→c.callee=.value (.tmp t)→bu ρ κ gd (.tmp t) (.fN i)→kn ρ κ gd c.args.toList l →
  kH (some i) (sq P) n o gd nx κ k l→Good P C ops n o nx ρ κ k
theorem sr (hT:er P T) (hn:∀i,nx≤i→κ i=.none) (hR:Hm P C ops n o nx ρ κ k) (h:oC P T ops n o nx ρ κ k):Good P C ops n o nx ρ κ k:=by
 have ko:∀{gd:Bool} {f:Nat} {l:List AV},bR ρ ops o.guard=some gd→si P ops o ρ κ gd f l→(vG P n o nx κ gd k f l ∨ kH none (dR P f) n o gd nx κ k l)→Good P C ops n o nx ρ κ k:=by
  intro gd f l hg bB h
  rcases h with h | h
  ·exact KE hn hg bB h
  ·exact hR.call hg bB h
 unfold oC at h
 split at h
 ·exact h.elim
 ·rename_i gd hg
  split at h
  ·rename_i x ho
   exact N7 hg ho h
  ·rename_i x ho
   obtain ⟨v,h,bB⟩:=aI h
   exact IV hg ho h bB
  ·rename_i x ho
   obtain ⟨v,h,bB⟩:=aI h
   split at h
   ·exact nu hg ho h bB (fun G v hv=>by cases hv; exact ⟨_,rfl⟩)
   ·exact nu hg ho h bB (fun G v hv=>by cases hv <;> exact ⟨_,rfl⟩)
   ·exact nu hg ho h bB (fun G v hv=>by cases hv with | dv hv=>cases hv; exact ⟨_,rfl⟩)
   ·split at h
    ·rename_i hk
     have hh:=aM h; clear h; obtain ⟨hb,h⟩:=hh
     obtain ⟨rfl,dx⟩:=dt hb
     obtain ⟨nd,h,c9⟩:=bG h
     split at h
     ·exact uC hg ho hk dx c9 h bB
     ·exact h.elim
    ·exact h.elim
   ·exact h.elim
  ·rename_i c x y ho
   exact KG hg ho h
  ·rename_i op t x y ty ho
   obtain ⟨va,h,Q7⟩:=aI h
   obtain ⟨vb,h,Q8⟩:=aI h
   cases hb:vb.iW with
   | false =>
    rw [hb] at h
    cases ha:va.ag with
    | false=>rw [ha] at h; exact KJ hT hg ho Q7 Q8 h
    | true=>rw [ha] at h; exact Q9 hT hg ho Q7 Q8 h
   | true =>
    rw [hb] at h
    have hb:vb=.dv .aG:=by
     cases vb with
     | dv d=>cases d <;> simp [AV.iW] at hb; rfl
     | _=>simp [AV.iW] at hb
    subst hb
    exact E7 hT hg ho Q7 Q8 h
  ·rename_i op t x ho
   obtain ⟨v,h,bB⟩:=aI h
   split at h
   ·exact Ra hg ho h bB
   ·exact Rb hg ho h bB
   ·exact h.elim
  ·rename_i x i ho
   obtain ⟨v,h,bB⟩:=aI h
   split at h
   ·split at h
    ·rename_i hl
     rw [force_eq] at h
     exact E8 hg ho h hl bB
    ·exact h.elim
   ·exact h.elim
  ·rename_i t x f ho
   obtain ⟨v,h,bB⟩:=aI h
   exact IS hT hg ho h bB
  ·rename_i t x f ho
   obtain ⟨v,h,bB⟩:=aI h
   exact ye hT hg ho h bB
  ·rename_i t x i ho
   obtain ⟨v,h,bB⟩:=aI h
   obtain ⟨iv,h,nt⟩:=aI h
   cases hb:(nth T t).ok && (nth T t).isSl && (nth T (nth T t).elem).ok with
   | true=>rw [hb] at h; exact IT hT hg ho (by rw [hb]; exact h) bB.dn nt
   | false=>rw [hb] at h; exact E5 hT hg ho h bB nt
  ·rename_i t x ho
   have hh:=aM h; clear h; obtain ⟨bK,h⟩:=hh
   obtain ⟨v,h,bB⟩:=aI h
   exact KI hT hg ho bK h bB
  ·rename_i t x y ho
   have hh:=aM h; clear h; obtain ⟨bK,h⟩:=hh
   obtain ⟨p,h,bB⟩:=aI h
   obtain ⟨v,h,Hl⟩:=aI h
   exact IU hT hn hg ho bK h bB Hl
  ·rename_i fn first bA ho
   obtain ⟨l,h,h1⟩:=jB h
   obtain ⟨r,h,h2⟩:=jB h
   split at h
   ·exact tH hg ho h1 h2 (.inl ⟨rfl,rfl⟩) h
   ·exact tH hg ho h1 h2 (.inr ⟨rfl,rfl⟩) h
   ·exact h.elim
  ·rename_i t ho
   have hh:=aM h; clear h; obtain ⟨bK,s,h⟩:=hh
   exact E9 hg ho (hn nx (Nat.le_refl _)) h
  ·rename_i t x ho
   have hh:=aM h; clear h; obtain ⟨bK,h⟩:=hh
   simp only [Bool.and_eq_true] at bK
   obtain ⟨v,h,bB⟩:=aI h
   split at h
   ·obtain ⟨s,h⟩:=h
    exact Cx hT hg ho bK.1 (Nat.eq_of_beq_eq_true bK.2) (hn nx (Nat.le_refl _)) h bB
   ·exact h.elim
  ·rename_i t x i c ho
   have hh:=aM h; clear h; obtain ⟨hb,h⟩:=hh
   simp only [Bool.and_eq_true] at hb
   obtain ⟨v,h,bB⟩:=aI h
   obtain ⟨kv,h,nt⟩:=aI h
   exact IW hT hg ho hb.1.1 (Nat.eq_of_beq_eq_true hb.1.2) hb.2 bB nt h
  ·rename_i t x i y ho
   have hh:=aM h; clear h; obtain ⟨hb,h⟩:=hh
   simp only [Bool.and_eq_true] at hb
   obtain ⟨v,h,bB⟩:=aI h
   obtain ⟨kv,h,nt⟩:=aI h
   obtain ⟨u,h,Hl⟩:=aI h
   exact At hT hg ho hn hb.1 (Nat.eq_of_beq_eq_true hb.2) bB nt Hl h
  ·rename_i t ho
   have hh:=aM h; clear h; obtain ⟨bK,h⟩:=hh
   exact KK hT hg ho bK (hn nx (Nat.le_refl _)) h
  ·rename_i t x ho
   obtain ⟨v,h,bB⟩:=aI h
   have hh:=aM h; clear h; obtain ⟨hc,h⟩:=hh
   exact Rc hg ho (hn nx (Nat.le_refl _)) hc h bB
  ·rename_i t parts ho
   have hh:=aM h; clear h; obtain ⟨hb,h⟩:=hh
   simp only [Bool.and_eq_true] at hb
   obtain ⟨l,h,hp⟩:=kI h
   split at h
   ·rename_i cs hf
    exact KL hT hg ho hb.1 hp hf hb.2 h
   ·exact h.elim
  ·rename_i t len parts ho
   have hh:=aM h; clear h; obtain ⟨hb,h⟩:=hh
   simp only [Bool.and_eq_true,Nat.blt_eq] at hb
   obtain ⟨⟨⟨⟨h1,h2⟩,h3⟩,h4⟩,h5⟩:=hb
   obtain ⟨l,h,hp⟩:=kI h
   split at h
   ·rename_i cs hf
    have hh:=aM h; clear h; obtain ⟨hc,h⟩:=hh
    exact yf hT hg ho hn h1 h2 h3 h4 h5 hp hf hc h
   ·exact h.elim
  ·rename_i t l c ho
   have hh:=aM h; clear h; obtain ⟨hb,h⟩:=hh
   simp only [Bool.and_eq_true,Nat.blt_eq] at hb
   obtain ⟨⟨⟨b1,b2⟩,b3⟩,b4⟩:=hb
   obtain ⟨lv,h,h1⟩:=aI h
   obtain ⟨cv,h,h2⟩:=aI h
   split at h
   ·obtain ⟨z,e1,e2,e3,e4,e5,fl,N3,h⟩:=h
    exact Au hT hg ho b1 b2 b3 b4 (hn nx (Nat.le_refl _)) e1 e2 e3 e4 e5 N3 h h1 h2
   ·exact h.elim
  ·rename_i t x l hh ho
   have hq:=aM h; clear h; obtain ⟨hb,h⟩:=hq
   simp only [Bool.and_eq_true] at hb
   obtain ⟨v,h,bB⟩:=aI h
   obtain ⟨lo,h,hl⟩:=yP h
   obtain ⟨hi,h,Aj⟩:=yP h
   exact KB hT hg ho hn hb.1 hb.2 bB.dn hl Aj h
  ·rename_i c ho
   split at h
   ·rename_i hc
    split at h
    ·rename_i x t ha jz
     obtain ⟨v,h,bB⟩:=aI h
     exact N6 hT hg ho hc ha jz bB.dn h
    ·exact h.elim
   ·rename_i hc
    split at h
    ·rename_i x i t t' ha jz
     have hh:=aM h; clear h; obtain ⟨hb,h⟩:=hh
     simp only [Bool.and_eq_true] at hb
     obtain ⟨v,h,bB⟩:=aI h
     obtain ⟨kv,h,nt⟩:=aI h
     exact Av hT hg ho hc ha jz hn hb.1 (Nat.eq_of_beq_eq_true hb.2) bB nt h
    ·exact h.elim
   ·rename_i hc
    split at h
    ·rename_i s x t t' ha jz
     have hh:=aM h; clear h; obtain ⟨hb,h⟩:=hh
     have:=Nat.eq_of_beq_eq_true hb
     subst this
     obtain ⟨sv,h,h1⟩:=aI h
     obtain ⟨xv,h,h2⟩:=aI h
     rcases h with h | h
     ·exact Fa hT hg ho hc ha jz hn h h1 h2.dn
     ·exact IX hT hg ho hc ha jz hn h h1.dn h2.dn
    ·exact h.elim
   ·rename_i hc
    split at h
    ·rename_i x y ha
     obtain ⟨a,h,h1⟩:=aI h
     obtain ⟨b,h,h2⟩:=aI h
     split at h
     ·exact Rd hg ho hc ha h h1 h2
     ·exact h.elim
    ·exact h.elim
   ·rename_i hc
    split at h
    ·rename_i x y ha
     obtain ⟨a,h,h1⟩:=aI h
     obtain ⟨b,h,h2⟩:=aI h
     split at h
     ·exact Re hg ho hc ha h h1 h2
     ·exact h.elim
    ·exact h.elim
   ·rename_i f hc
    obtain ⟨l,h,h1⟩:=jB h
    exact ko hg (tD ho hc h1) h
   ·rename_i t hc
    obtain ⟨v,h,bB⟩:=aI h
    obtain ⟨l,h,h1⟩:=jB h
    split at h
    ·exact ko hg (pL ho hc bB h1 (.inl ⟨_,rfl,rfl⟩)) h
    ·exact ko hg (pL ho hc bB h1 (.inr (.inl ⟨_,rfl,rfl⟩))) h
    ·exact ko hg (pL ho hc bB h1 (.inr (.inr ⟨_,rfl,rfl⟩))) h
    ·rcases h with h | ⟨hf,u,h⟩
     ·exact hR.fN hg ho hc bB h1 h
     ·exact bm (fun c=>by rw [ho]; simp) hg h fun _ _ _ _ _ _ _ _ aR=>by rw [hf] at aR; cases aR
    ·exact h.elim
   ·exact h.elim
  ·rename_i t x ho
   have hh:=aM h; clear h; obtain ⟨hb,h⟩:=hh
   simp only [Bool.and_eq_true] at hb
   obtain ⟨v,h,bB⟩:=aI h
   split at h
   ·rename_i j ver ep p
    split at h
    ·rename_i d hj
     have hh:=aM h; clear h; obtain ⟨cy,h⟩:=hh
     simp only [Bool.and_eq_true,Bool.or_eq_true] at cy
     obtain ⟨nd,h,c9⟩:=bG h
     split at h
     ·exact KM hT hg ho hb.1 (Nat.eq_of_beq_eq_true hb.2) (hn nx (Nat.le_refl _)) hj (by have:=cy.2; rw [Nat.blt_eq] at this; exact this) (Nat.eq_of_beq_eq_true cy.1.1)
       (cy.1.2.imp (fun e=>by cases p with | nil=>rfl | cons=>simp [emp] at e) Nat.eq_of_beq_eq_true) (c9 rfl) h bB
     ·exact h.elim
    ·exact h.elim
   ·exact h.elim
  ·rename_i x ho
   obtain ⟨v,h,bB⟩:=aI h
   split at h
   ·rename_i i
    split at h
    ·rename_i hi
     exact KN hg ho hi h.1 h.2 bB
    ·exact h.elim
   ·exact h.elim
  ·rename_i s t x ho
   have hh:=aM h; clear h; obtain ⟨hb,h⟩:=hh
   simp only [Bool.and_eq_true] at hb
   obtain ⟨v,h,bB⟩:=aI h
   split at h
   ·rename_i hi
    exact Fb hT hg ho hb.1 hb.2 hi h bB
   ·exact Kv hT hg ho hb.1 hb.2 h (bu.dn bB)
  ·rename_i t x i ho
   have hh:=aM h; clear h; obtain ⟨hb,h⟩:=hh
   simp only [Bool.and_eq_true] at hb
   obtain ⟨v,h,bB⟩:=aI h
   obtain ⟨iv,h,nt⟩:=aI h
   split at h
   ·obtain ⟨b,IP,h⟩:=h
    exact KO hT hg ho hb.1 hb.2 IP h bB nt
   ·exact h.elim
  ·exact h.elim
end
end Go.TM
namespace Go.TM
open Go.RowKit
variable [cu]
def Fc:Op→Bool
 | .buildSlice _ _ _=>true
 | .call c=>match c.callee with
  | .builtin .append=>true
  | _=>false
 | _=>false
def qQ (o:Oper):Oper:={ o with guard:=none }
def Fe (P:Program) (T:List TI) (ops:List Oper) (n:Nat) (o:Oper) (nx:Nat) (ρ:Nat→AV) (κ:Nat→ar) (k:jH→Nat→Prop):Prop :=
 match o.guard with
 | none=>oC P T ops n o nx ρ κ k
 | some _=>bif Fc o.op then oC P T ops n o nx ρ κ k ∨ (match bR ρ ops o.guard with
   | some g=>(g=false∧aW n o g nx k .any []) ∨ (g=true∧oC P T ops n (qQ o) nx ρ κ k)
   | none=>False)
  else oC P T ops n o nx ρ κ k
def Rf (P:Program) (T:List TI) (ops:List Oper) (n:Nat):List Oper→Nat→Env→aj→(Nat→Env→aj→Prop)→Prop
 | [],nx,env,K,k=>k nx env K
 | o::rest,nx,env,K,k=>Fe P T ops n o nx (look env) (aa K) fun bk dK=>vJ bk.dst env fun jJ=>vL bk.box K fun K'=>Rf P T ops n rest dK jJ K' k
structure Rec where
 rows:List Nat
 bk:jH
def Hn:Op→Bool
 | .call c=>match c.callee with
  | .value (.tmp _)=>true
  | _=>false
 | _=>false
def dY:List (Nat × ar)→List Nat
 | []=>[]
 | p::r=>p.1::dY r
def Ho (κ:Nat→ar) (rd:List Nat):List (Nat × ar)→(List (Nat × ar)→Prop)→Prop
 | [],k=>k []
 | (i,b)::r,k=>((gu i rd && !gu i (dY r))=true∧κ i=b∧Ho κ rd r k) ∨ Ho κ rd r fun r=>k ((i,b)::r)
def KP (ops:List Oper) (o:Oper) (κ:Nat→ar) (bk:jH) (k:jH→Prop):Prop :=
 bif Hn o.op && Nat.ble 16 ops.length then k bk ∨ Ho κ bk.reads bk.box fun bx=>k { bk with box:=bx } else k bk
def Hp (P:Program) (T:List TI) (ops:List Oper) (n:Nat):List Oper→Nat→Env→aj→List Rec→(Nat→Env→aj→List Rec→Prop)→Prop
 | [],nx,env,K,acc,k=>k nx env K acc
 | o::rest,nx,env,K,acc,k=>Fe P T ops n o nx (look env) (aa K) fun bk dK=>KP ops o (aa K) bk fun bk=>vJ bk.dst env fun jJ=>vL bk.box K fun K'=>Hp P T ops n rest dK jJ K' (acc++[⟨fF (look env) (aa K) o,bk⟩]) k
def jm:List Nat→List Nat→Bool
 | [],_=>true
 | x::r,l=>!gu x l && jm r l
def iE:List (Nat × AV)→List Nat
 | []=>[]
 | p::r=>p.1::iE r
def dh (ops:List Oper) (x y:Rec) (oy:Oper):Bool :=
 jm (iE x.bk.dst) (oy.looksAt ops.toArray) && jm (iE x.bk.dst) (iE y.bk.dst) &&
 jm (dY x.bk.box) y.rows && jm (dY x.bk.box) y.bk.reads && jm (dY x.bk.box) (dY y.bk.box)
def qR (o:Oper):List Nat:=o.after.toList.filterMap fun e=>bif Region.binds .any e then some e.on else none
def nv (ops:List Oper):Nat→Nat→Nat→Bool
 | 0,_,_=>false
 | f+1,i,j=>match ops[j]? with
  | some o=>(qR o).any fun d=>Nat.beq d i || nv ops f i d
  | none=>false
def vM:Nat→List Oper→Bool
 | _,[]=>true
 | i,o::r=>(qR o).all (fun d=>Nat.blt d i) && vM (i+1) r
def qS (ops:List Oper) (rs:List Rec) (j:Nat) (y:Rec) (oy:Oper):Nat→List Rec→List Oper→Bool
 | i,x::xr,ox::or=>(bif Nat.blt i j then nv ops ops.length i j || (dh ops x y oy && dh ops y x ox) else true) && qS ops rs j y oy (i+1) xr or
 | _,_,_=>true
def oD (ops:List Oper) (rs:List Rec):Nat→List Rec→List Oper→Bool
 | j,y::yr,oy::or=>qS ops rs j y oy 0 rs ops && oD ops rs (j+1) yr or
 | _,_,_=>true
def ss (ops:List Oper) (rs:List Rec):Bool:=vM 0 ops && oD ops rs 0 rs ops
def yU (g:dD) (n nx:Nat) (env:Env) (K:aj) (a:Act) (w:World):Prop:=St g n (look env) (aa K) a w∧g.m≤nx∧∀i,nx≤i→aa K i=.none
theorem qT {F:Fence} {m:Nat} {P:Program} {o:Oper} {a:Act} {w:World} {K K':Act→World→Prop} {Q:Exit→Act→World→Prop} (h:∀a w,K a w→K' a w) (hh:o.wpIn F m P a w K (fun _ _ _=>False)):o.wpIn F m P a w K' Q:=by
 unfold Oper.wpIn at *
 refine ⟨hh.1,?_⟩
 have hh:=hh.2
 generalize (o.semAt F.round a.eval).run P w=r at *
 cases r with
 | ok x w' =>
  cases x <;> simp only [Oper.uponIn] at hh ⊢ <;>
   first
    | exact h _ _ hh
    | exact ⟨hh.1,CallsIn.mono hh.2 (fun e ZH he=>by cases e <;> first | exact h _ _ he | exact he.elim | (obtain ⟨_,_,hf⟩:=he; exact hf.elim))⟩
    | exact ⟨hh.1,RowsIn.mono hh.2 (fun _ _ he=>h _ _ he)⟩
    | exact ⟨hh.1,RoundIn.mono hh.2 (fun e ZH he=>by cases e <;> first | exact h _ _ he | exact he.elim | (obtain ⟨_,_,hf⟩:=he; exact hf.elim))⟩
    | exact hh.elim
 | halt x w'=>cases x <;> simp only [Oper.uponIn] at hh ⊢ <;> exact hh.elim
def c5 (P:Program) (C:dD→Prop):Prop:=∀(ops:List Oper) (n:Nat) (o:Oper) (nx:Nat) (ρ:Nat→AV) (κ:Nat→ar) (k:jH→Nat→Prop),(∀i,nx≤i→κ i=.none)→Hm P C ops n o nx ρ κ k
section
variable {P:Program} {C:dD→Prop} {T:List TI} {ops:List Oper} {n:Nat} {g:dD}
theorem Aw {o:Oper} {nx:Nat} {ρ:Nat→AV} {κ:Nat→ar} {k:jH→Nat→Prop} (hg:bR ρ ops o.guard=some true) (h:Good P C ops n (qQ o) nx ρ κ k):Good P C ops n o nx ρ κ k:=by
 obtain ⟨bk,dK,h1,h2,h3,h4⟩:=h
 refine ⟨bk,dK,h1,h2,h3,fun F hF ρ' κ' ax g a w dq ak=>?_⟩
 have hs:∀t,t∈(qQ o).looksAt ops.toArray→ρ' t=ρ t:=fun t ht=>ax.bC t (by
  unfold Oper.looksAt qQ at ht
  simp only [List.append_nil] at ht
  unfold Oper.looksAt
  exact List.mem_append_left _ ht)
 have hr:=h4 F hF ρ' κ' ⟨hs,ax.rows,ax.reads,ax.boxes⟩ g a w dq ak
 obtain ⟨G,gn⟩:=ak
 unfold kG at hr ⊢
 rw [if_pos (cl hg ax.bC gn)]
 have hw:Region.wanted (qQ o) (yielded ops.toArray a.tmps)=true:=rfl
 rw [if_pos hw] at hr
 exact hr
theorem pP (hT:er P T) {o:Oper} {nx:Nat} {ρ:Nat→AV} {κ:Nat→ar} {k:jH→Nat→Prop} (hn:∀i,nx≤i→κ i=.none) (hR:c5 P C) (h:Fe P T ops n o nx ρ κ k):Good P C ops n o nx ρ κ k:=by
 have yg:oC P T ops n o nx ρ κ k→Good P C ops n o nx ρ κ k:=sr hT hn (hR _ _ _ _ _ _ _ hn)
 unfold Fe at h
 split at h
 ·exact yg h
 ·cases hh:Fc o.op with
  | false=>rw [hh] at h; exact yg h
  | true =>
   rw [hh] at h
   rcases h with h | h
   ·exact yg h
   ·split at h
    ·rename_i g hg
     rcases h with ⟨hf,h⟩ | ⟨hf,h⟩
     ·subst hf
      refine bm (fun c hc=>?_) hg h fun _ _ _ _ _ _ _ _ aR=>by cases aR
      rw [hc] at hh; simp [Fc] at hh
     ·subst hf
      exact Aw hg (sr hT hn (hR _ _ _ _ _ _ _ hn) h)
    ·exact h.elim
theorem jK {nx dK:Nat} {K:aj} {bx:List (Nat × ar)} (hn:∀i,nx≤i→aa K i=.none) (hle:nx≤dK) (hb:∀p,p∈bx→p.1<dK):∀i,dK≤i→aa (uD bx K) i=.none:=by
 intro i hi
 rw [fa]
 have key:∀(l:List (Nat × ar)),(∀p,p∈l→p.1<dK)→az (aa K) l i=.none:=by
  intro l
  induction l with
  | nil=>intro _; exact hn i (by omega)
  | cons p r ih =>
   intro hl
   obtain ⟨j,b⟩:=p
   have:=hl (j,b) (by simp)
   simp only [az]
   rw [ae _ _ (by simp at this; omega)]
   exact ih fun p hp=>hl p (by simp [hp])
 exact key bx hb
theorem oE {o:Oper} {rest:List Oper} {a:Act} {w:World} {K:Act→World→Prop} {Q:Exit→Act→World→Prop} {F:Fence} (hF:gr F) (h:kG P F ops.toArray o a w K) (hk:∀a w,K a w→wpListIn F 0 P ops.toArray Q rest a w):wpListIn F 0 P ops.toArray Q (o::rest) a w:=by
 unfold kG at h
 simp only [wpListIn]
 split at h
 ·rename_i hw; rw [if_pos hw]; exact qT hk h
 ·rename_i hw; rw [if_neg hw]; exact ⟨fun f _=>hF.fn f,hk _ _ h⟩
theorem vN (hT:er P T) (hR:c5 P C) (Ax:C g) {F:Fence} (hF:gr F) {Q:Exit→Act→World→Prop} {k:Nat→Env→aj→Prop} (hQ:∀nx env K a w,k nx env K→yU g n nx env K a w→Q .normal a w) :
  ∀(rest:List Oper) (nx:Nat) (env:Env) (K:aj) (a:Act) (w:World),Rf P T ops n rest nx env K k→yU g n nx env K a w→wpListIn F 0 P ops.toArray Q rest a w
 | [],nx,env,K,a,w,h,hs=>hQ nx env K a w h hs
 | o::rest,nx,env,K,a,w,h,⟨hs,dq,hn⟩=>by
  obtain ⟨bk,dK,hk,hle,hb,su⟩:=pP hT hn hR h
  rw [vO,vP] at hk
  refine oE hF (su F hF (look env) (aa K) ⟨fun _ _=>rfl,fun _ _=>rfl,fun _ _=>rfl,fun _ _ _=>rfl⟩ g a w ⟨dq,Ax⟩ hs) fun a' w' dI=>?_
  refine vN hT hR Ax hF hQ rest dK _ _ a' w' hk ⟨?_,Nat.le_trans dq hle,jK hn hle hb⟩
  rw [jC,fa]
  exact dI
def acc {γ:Type _} (f:Nat→γ) (wr:Nat→List (Nat × γ)) (E:Nat→Bool):Nat→Nat→γ
 | 0=>f
 | m+1=>if E m then az (acc f wr E m) (wr m) else acc f wr E m
def keys {γ:Type _} (l:List (Nat × γ)):List Nat:=l.map (·.1)
theorem cj {γ:Type _} (f:Nat→γ):∀{l:List (Nat × γ)} {t:Nat},t ∉ keys l→az f l t=f t
 | [],t,_=>rfl
 | (i,x)::r,t,h=>by
  simp only [keys,List.map_cons,List.mem_cons,not_or] at h
  simp only [az]
  rw [ae _ _ h.1]
  exact cj f h.2
theorem uL {γ:Type _} (f f':Nat→γ):∀{l:List (Nat × γ)} {t:Nat},t∈keys l→az f l t=az f' l t
 | [],t,h=>by simp [keys] at h
 | (i,x)::r,t,h=>by
  simp only [az]
  by_cases e:t=i
  ·subst e; simp
  ·rw [ae _ _ e,ae _ _ e]
   simp only [keys,List.map_cons,List.mem_cons,e,false_or] at h
   exact uL f f' h
section
variable {γ:Type _} {f:Nat→γ} {wr:Nat→List (Nat × γ)} {E:Nat→Bool}
theorem oF {t:Nat}:∀{j:Nat},(∀i,i<j→E i=false→t ∉ keys (wr i))→acc f wr E j t=acc f wr (fun _=>true) j t
 | 0,_=>rfl
 | j+1,h=>by
  have ih:=oF (t:=t) (j:=j) fun i hi=>h i (by omega)
  simp only [acc,if_true]
  cases he:E j with
  | true =>
   simp only [if_true]
   by_cases hk:t∈keys (wr j)
   ·exact uL _ _ hk
   ·rw [cj _ hk,cj _ hk,ih]
  | false =>
   simp only [Bool.false_eq_true,if_false]
   rw [cj _ (h j (by omega) he)]
   exact ih
theorem Cy {t j:Nat}:∀{m:Nat},(∀i,j≤i→i<j+m→E i=true→t ∉ keys (wr i))→acc f wr E (j+m) t=acc f wr E j t
 | 0,_=>rfl
 | m+1,h=>by
  have ih:=Cy (t:=t) (j:=j) (m:=m) fun i h1 h2=>h i h1 (by omega)
  show acc f wr E (j+m+1) t=_
  simp only [acc]
  cases he:E (j+m) with
  | true=>simp only [if_true]; rw [cj _ (h _ (by omega) (by omega) he)]; exact ih
  | false=>simp only [Bool.false_eq_true,if_false]; exact ih
theorem qU {t j len:Nat} (hj:j≤len) (h1:∀i,i<j→E i=false→t ∉ keys (wr i)) (h2:∀i,j≤i→i<len→E i=true→t ∉ keys (wr i)):acc f wr E len t=acc f wr (fun _=>true) j t:=by
 obtain ⟨m,rfl⟩:∃m,len=j+m:=⟨len - j,by omega⟩
 rw [Cy h2,oF h1]
def kV (E:Nat→Bool) (j:Nat):Nat→Bool:=fun i=>if i=j then true else E i
theorem qV {j:Nat} (hj:E j=false):∀{len:Nat},j<len→(∀i,j<i→i<len→E i=true→∀t,t∈keys (wr j)→t ∉ keys (wr i))→acc f wr (kV E j) len=az (acc f wr E len) (wr j)
 | 0,h,_=>by omega
 | len+1,h,hd=>by
  rcases Nat.lt_or_ge j len with aK | dy
  ·have ih:=qV hj aK fun i h1 h2=>hd i h1 (by omega)
   have bJ:len ≠ j:=by omega
   simp only [acc,kV,if_neg bJ]
   cases he:E len with
   | false=>simp only [Bool.false_eq_true,if_false]; exact ih
   | true =>
    simp only [if_true]
    show az (acc f wr (kV E j) len) (wr len)=_
    rw [ih]
    funext t
    by_cases h1:t∈keys (wr j)
    ·have h2:=hd len aK (by omega) he t h1
     rw [cj _ h2]
     exact uL _ _ h1
    ·rw [cj (az (acc f wr E len) (wr len)) h1]
     by_cases h2:t∈keys (wr len)
     ·exact uL _ _ h2
     ·rw [cj _ h2,cj _ h2,cj _ h1]
  ·have:j=len:=by omega
   subst this
   have low:∀m,m≤j→acc f wr (kV E j) m=acc f wr E m:=by
    intro m
    induction m with
    | zero=>intro _; rfl
    | succ m ih =>
     intro hm
     simp only [acc,kV,if_neg (show m ≠ j by omega)]
     rw [ih (by omega)]
   simp only [acc,hj,Bool.false_eq_true,if_false]
   simp only [kV,if_true]
   rw [low j (Nat.le_refl _)]
end
theorem Kj.lo {lo Tk:Nat} {o:Oper} {ρ:Nat→AV} {κ:Nat→ar} {bk:jH} (h:Kj P C ops n Tk o ρ κ bk) (hl:lo≤Tk):Kj P C ops n lo o ρ κ bk :=
 fun F hF ρ' κ' ax g a w hg hs=>h F hF ρ' κ' ax g a w ⟨Nat.le_trans hg.1 hl,hg.2⟩ hs
theorem qW {γ:Type _} (f:Nat→γ) (wr YE:Nat→List (Nat × γ)) (m:Nat):(∀i,i<m→YE i=wr i)→acc f YE (fun _=>true) m=acc f wr (fun _=>true) m:=by
 induction m with
 | zero=>intro _; rfl
 | succ m ih=>intro hh; simp only [acc,if_true]; rw [ih fun i hi=>hh i (by omega),hh m (by omega)]
theorem pQ {κ:Nat→ar} {rd:List Nat}:∀{bx:List (Nat × ar)} {k:List (Nat × ar)→Prop},Ho κ rd bx k→∃N8,k N8∧(∀p,p∈N8→p∈bx)∧(∀p,p∈bx→p∈N8 ∨ p.1∈rd)∧∀κ':Nat→ar,(∀i,i∈rd→κ' i=κ i)→az κ' N8=az κ' bx
 | [],k,h=>⟨[],h,fun _ h=>h,fun _ h=>.inl h,fun _ _=>rfl⟩
 | (i,b)::r,k,h=>by
  rcases h with ⟨h1,h2,h⟩ | h
  ·obtain ⟨N8,hk,ha,hb,hc⟩:=pQ h
   simp only [Bool.and_eq_true,Bool.not_eq_true'] at h1
   refine ⟨N8,hk,fun p hp=>List.mem_cons_of_mem _ (ha p hp),fun p hp=>?_,fun κ' hκ=>?_⟩
   ·rcases List.mem_cons.1 hp with rfl | hp
    ·exact .inr (kW h1.1)
    ·exact hb p hp
   ·rw [hc κ' hκ]
    funext j
    by_cases e:j=i
    ·subst e
     have ZI:∀(l:List (Nat × ar)),dY l=keys l:=fun l=>by
      induction l with
      | nil=>rfl
      | cons p r ih=>simp [dY,keys,ih]
     rw [cj _ (by rw [←ZI]; exact eD h1.2)]
     simp only [az,aZ]
     rw [hκ _ (kW h1.1),h2]
    ·simp only [az]
     rw [ae _ _ e]
  ·obtain ⟨N8,hk,ha,hb,hc⟩:=pQ h
   refine ⟨(i,b)::N8,hk,fun p hp=>?_,fun p hp=>?_,fun κ' hκ=>?_⟩
   ·rcases List.mem_cons.1 hp with rfl | hp
    ·exact List.mem_cons_self
    ·exact List.mem_cons_of_mem _ (ha p hp)
   ·rcases List.mem_cons.1 hp with rfl | hp
    ·exact .inl List.mem_cons_self
    ·rcases hb p hp with h | h
     ·exact .inl (List.mem_cons_of_mem _ h)
     ·exact .inr h
   ·simp only [az]
    rw [hc κ' hκ]
theorem Ff {o:Oper} {nx:Nat} {ρ:Nat→AV} {κ:Nat→ar} {k:jH→Nat→Prop} (h:Good P C ops n o nx ρ κ fun bk dK=>KP ops o κ bk fun bk=>k bk dK):Good P C ops n o nx ρ κ k:=by
 obtain ⟨bk,dK,h1,h2,h3,h4⟩:=h
 unfold KP at h1
 cases hd:Hn o.op && Nat.ble 16 ops.length with
 | false=>rw [hd] at h1; exact ⟨bk,dK,h1,h2,h3,h4⟩
 | true =>
  rw [hd] at h1
  rcases h1 with h1 | h1
  ·exact ⟨bk,dK,h1,h2,h3,h4⟩
  ·obtain ⟨N8,hk,ha,hb,hc⟩:=pQ h1
   refine ⟨_,dK,hk,h2,fun p hp=>h3 p (ha p hp),fun F hF ρ' κ' ax g a w dq ak=>?_⟩
   have hr:=h4 F hF ρ' κ' ⟨ax.bC,ax.rows,ax.reads,fun i b ZJ=>?_⟩ g a w dq ak
   ·simp only
    rw [hc κ' ax.reads]
    exact hr
   ·rcases hb _ ZJ with h | h
    ·exact ax.boxes i b h
    ·exact ax.reads i h
theorem tI (hT:er P T) (hR:c5 P C) {k:Nat→Env→aj→List Rec→Prop} {ρ0:Nat→AV} {κ0:Nat→ar} {lo:Nat} :
  ∀(rest done:List Oper) (nx:Nat) (env:Env) (K:aj) (rs:List Rec),ops=done++rest→rs.length=done.length→lo≤nx →
   (∀i,nx≤i→aa K i=.none) →
   look env=acc ρ0 (fun i=>(rs[i]?.map (·.bk.dst)).getD []) (fun _=>true) done.length→aa K=acc κ0 (fun i=>(rs[i]?.map (·.bk.box)).getD []) (fun _=>true) done.length →
   (∀i r o,rs[i]?=some r→ops[i]?=some o→r.rows=fF (acc ρ0 (fun i=>(rs[i]?.map (·.bk.dst)).getD []) (fun _=>true) i) (acc κ0 (fun i=>(rs[i]?.map (·.bk.box)).getD []) (fun _=>true) i) o∧Kj P C ops n lo o (acc ρ0 (fun i=>(rs[i]?.map (·.bk.dst)).getD []) (fun _=>true) i) (acc κ0 (fun i=>(rs[i]?.map (·.bk.box)).getD []) (fun _=>true) i) r.bk) →
   Hp P T ops n rest nx env K rs k →
   ∃dK jJ K' pR,k dK jJ K' pR∧pR.length=ops.length∧lo≤dK∧(∀i,dK≤i→aa K' i=.none) ∧
    look jJ=acc ρ0 (fun i=>(pR[i]?.map (·.bk.dst)).getD []) (fun _=>true) ops.length∧aa K'=acc κ0 (fun i=>(pR[i]?.map (·.bk.box)).getD []) (fun _=>true) ops.length ∧
    ∀i r o,pR[i]?=some r→ops[i]?=some o→r.rows=fF (acc ρ0 (fun i=>(pR[i]?.map (·.bk.dst)).getD []) (fun _=>true) i) (acc κ0 (fun i=>(pR[i]?.map (·.bk.box)).getD []) (fun _=>true) i) o∧Kj P C ops n lo o (acc ρ0 (fun i=>(pR[i]?.map (·.bk.dst)).getD []) (fun _=>true) i) (acc κ0 (fun i=>(pR[i]?.map (·.bk.box)).getD []) (fun _=>true) i) r.bk
 | [],done,nx,env,K,rs,Ay,hlen,qN,hn,he,hk,dk,h=>by
  have:done.length=ops.length:=by rw [Ay]; simp
  exact ⟨nx,env,K,rs,h,by omega,qN,hn,by rw [←this]; exact he,by rw [←this]; exact hk,dk⟩
 | o::rest,done,nx,env,K,rs,Ay,hlen,qN,hn,he,hk,dk,h=>by
  obtain ⟨bk,dK,eG,hle,hb,su⟩:=Ff (ops:=ops) (n:=n) (o:=o) (nx:=nx) (ρ:=look env) (κ:=aa K) (k:=fun bk dK=>vJ bk.dst env fun jJ=>vL bk.box K fun K'=>Hp P T ops n rest dK jJ K' (rs++[(⟨fF (look env) (aa K) o,bk⟩:Rec)]) k) (pP hT hn hR h)
  rw [vO,vP] at eG
  have bt:∀i,i<rs.length→(rs++[⟨fF (look env) (aa K) o,bk⟩])[i]?=rs[i]?:=fun i hi=>List.getElem?_append_left hi
  have kX:(rs++[(⟨fF (look env) (aa K) o,bk⟩:Rec)])[done.length]?=some ⟨fF (look env) (aa K) o,bk⟩:=by rw [←hlen]; simp
  have fh:∀m,m≤done.length→acc ρ0 (fun i=>((rs++[(⟨fF (look env) (aa K) o,bk⟩:Rec)])[i]?.map (·.bk.dst)).getD []) (fun _=>true) m=acc ρ0 (fun i=>(rs[i]?.map (·.bk.dst)).getD []) (fun _=>true) m :=
   fun m hm=>qW _ _ _ m fun i hi=>by rw [bt i (by omega)]
  have ph:∀m,m≤done.length→acc κ0 (fun i=>((rs++[(⟨fF (look env) (aa K) o,bk⟩:Rec)])[i]?.map (·.bk.box)).getD []) (fun _=>true) m=acc κ0 (fun i=>(rs[i]?.map (·.bk.box)).getD []) (fun _=>true) m :=
   fun m hm=>qW _ _ _ m fun i hi=>by rw [bt i (by omega)]
  refine tI hT hR rest (done++[o]) dK (Cz bk.dst env) (uD bk.box K) (rs++[⟨fF (look env) (aa K) o,bk⟩]) (by rw [Ay]; simp) (by simp [hlen]) (Nat.le_trans qN hle) (jK hn hle hb) ?_ ?_ ?_ eG
  ·rw [jC,List.length_append]
   simp only [List.length_cons,List.length_nil,Nat.zero_add,acc,if_true]
   rw [fh _ (Nat.le_refl _),kX,←he]; rfl
  ·rw [fa,List.length_append]
   simp only [List.length_cons,List.length_nil,Nat.zero_add,acc,if_true]
   rw [ph _ (Nat.le_refl _),kX,←hk]; rfl
  ·intro i r o' hr iC
   rcases Nat.lt_or_ge i rs.length with aK | dy
   ·rw [bt i aK] at hr
    rw [fh i (by omega),ph i (by omega)]
    exact dk i r o' hr iC
   ·have hi:i=done.length:=by
     have:=(List.getElem?_eq_some_iff.1 hr).1
     simp at this; omega
    subst hi
    rw [kX] at hr
    injection hr with hr
    subst hr
    rw [Ay] at iC
    simp at iC
    subst iC
    rw [fh _ (Nat.le_refl _),ph _ (Nat.le_refl _),←he,←hk]
    exact ⟨rfl,su.lo qN⟩
end
end Go.TM
