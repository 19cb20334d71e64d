import Derived.Test.YtpbdohkbiklflaaGreatDoorFM10
import Derived.Orders
set_option linter.unusedVariables false
set_option linter.unusedSimpArgs false
set_option linter.unusedSectionVars false
namespace Go.TM
open Go.RowKit
variable [cu]
section
variable {P:Program} {C:dw→Prop} {T:List TI} {ops:List Oper} {n:Nat} {o:Oper} {nx:Nat} {ρ:Nat→AV} {κ:Nat→ao} {k:jo→Nat→Prop} {gd:Bool}
theorem mK {x:Operand} {v:AV} (h:ev ρ κ x=v):bo ρ κ gd x v:=by
 intro ρ' κ' au g n a w G aj _
 rw [←h]
 exact x9 ρ' κ' au g n a w G aj
theorem rD {x:Operand} {v:AV} {g':Bool} (h:ev ρ κ x=.opt g' v) (hg:gd=true→g'=true) (hr:res κ v=v):bo ρ κ gd x v:=by
 have:=Bv h hg
 rwa [hr] at this
theorem Je {c x y:Operand} (hg:bK ρ ops o.guard=some gd) (ho:o.op=.pick c x y)
  (h:match ev ρ κ c,ev ρ κ x,ev ρ κ y with
   | .dv (.bool b),.dv (.bool p),.dv (.bool q)=>aS n o gd nx k (.dv (.bool (bif b then p else q))) []
   | .dv (.bool b),.opt gp (.dv (.bool p)),.dv (.bool q)=>(gd=true→b=true→gp=true)∧aS n o gd nx k (.dv (.bool (bif b then p else q))) []
   | .dv (.bool b),.dv (.bool p),.opt gq (.dv (.bool q))=>(gd=true→b=false→gq=true)∧aS n o gd nx k (.dv (.bool (bif b then p else q))) []
   | .opt gb (.dv (.bool b)),.opt gp (.dv (.bool p)),.dv (.bool q)=>(gd=true→gb=true∧(b=true→gp=true))∧aS n o gd nx k (.dv (.bool (bif b then p else q))) []
   | .opt gb (.dv (.bool b)),.dv (.bool p),.opt gq (.dv (.bool q))=>(gd=true→gb=true∧(b=false→gq=true))∧aS n o gd nx k (.dv (.bool (bif b then p else q))) []
   | _,_,_=>False):Good P C ops n o nx ρ κ k:=by
 split at h
 ·rename_i b p q h1 h2 h3
  exact lk hg ho h (mK h1) (mK h2) (mK h3)
 ·rename_i b gp p q h1 h2 h3
  exact lk hg ho h.2 (mK h1) (rD h2 (by simp only [Bool.and_eq_true]; exact fun hh=>h.1 hh.1 hh.2) rfl) (mK h3)
 ·rename_i b p gq q h1 h2 h3
  exact lk hg ho h.2 (mK h1) (mK h2) (rD h3 (by simp only [Bool.and_eq_true,Bool.not_eq_true']; exact fun hh=>h.1 hh.1 hh.2) rfl)
 ·rename_i gb b gp p q h1 h2 h3
  exact lk hg ho h.2 (rD h1 (fun hh=>(h.1 hh).1) rfl) (rD h2 (by simp only [Bool.and_eq_true]; exact fun hh=>(h.1 hh.1).2 hh.2) rfl) (mK h3)
 ·rename_i gb b p gq q h1 h2 h3
  exact lk hg ho h.2 (rD h1 (fun hh=>(h.1 hh).1) rfl) (mK h2) (rD h3 (by simp only [Bool.and_eq_true,Bool.not_eq_true']; exact fun hh=>(h.1 hh.1).2 hh.2) rfl)
 ·exact h.elim
theorem Mm (hT:ed P T) {c:Call} {x:Operand} {t:Nat} {v:AV} (hg:bK ρ ops o.guard=some gd) (ho:o.op=.call c) (hc:c.callee=.builtin .len) (ha:c.args.toList=[x]) (je:c.argTypes.toList=[t])
  (bs:bo ρ κ gd x v) (h:zt (nth T t) κ gd v fun r rd=>aS n o gd nx k r rd):Good P C ops n o nx ρ κ k:=by
 unfold zt at h
 split at h
 ·have hh:=aI h; clear h; obtain ⟨hb,h⟩:=hh
  simp only [Bool.and_eq_true] at hb
  refine o5 hT hg ho hc ha je h bs hb.1 fun _ κ' _ G w v _ hv=>.inl ⟨hb.2,?_⟩
  cases hv with | dv hv=>cases hv with
  | slnil=>exact ⟨_,_,_,rfl,rfl⟩
  | sl=>exact ⟨_,_,_,rfl,rfl⟩
 ·have hh:=aI h; clear h; obtain ⟨hb,h⟩:=hh
  simp only [Bool.and_eq_true] at hb
  refine o5 hT hg ho hc ha je h bs hb.1 fun _ κ' _ G w v _ hv=>.inl ⟨hb.2,?_⟩
  cases hv with | dv hv=>cases hv with
  | aH=>exact ⟨_,_,_,rfl,rfl⟩
 ·have hh:=aI h; clear h; obtain ⟨hb,h⟩:=hh
  simp only [Bool.and_eq_true] at hb
  refine o5 hT hg ho hc ha je h bs hb.1 fun _ κ' _ G w v _ hv=>.inr (.inl ⟨hb.2,?_⟩)
  cases hv with | dv hv=>cases hv with
  | str=>exact ⟨_,rfl,rfl⟩
 ·rename_i i ver ep p
  split at h
  ·rename_i aZ bF d hk
   have hh:=aI h; clear h; obtain ⟨hb,h⟩:=hh
   obtain ⟨rfl,dj⟩:=dh hb
   obtain ⟨nd,h,c6⟩:=bB h
   split at h
   ·rename_i sz l
    have hh:=aI h; clear h; obtain ⟨hb,h⟩:=hh
    simp only [Bool.and_eq_true] at hb
    refine o5 hT hg ho hc ha je h bs hb.1 fun aM κ' au G w v hf hv=>.inl ⟨hb.2,?_⟩
    obtain ⟨u,h1,_,aY⟩:=hf.node ((au i (by simp)).trans hk) (c6 aM) rfl
    cases hv with | own _ _ _ _ _ hh hc =>
    rw [cK dj,h1] at hh
    injection hh with hh
    subst hh
    rcases aY with ⟨rfl,rfl⟩ | ⟨gb,ob,cap,cc,tt,rfl,_⟩
    ·exact ⟨_,_,_,rfl,rfl⟩
    ·exact ⟨_,_,_,rfl,rfl⟩
   ·rename_i ks m
    have hh:=aI h; clear h; obtain ⟨hb,h⟩:=hh
    simp only [Bool.and_eq_true] at hb
    refine o5 hT hg ho hc ha je h bs hb.1 fun aM κ' au G w v hf hv=>.inr (.inr ⟨hb.2,?_⟩)
    obtain ⟨u,h1,_,aY⟩:=hf.node ((au i (by simp)).trans hk) (c6 aM) rfl
    cases hv with | own _ _ _ _ _ hh hc =>
    rw [cK dj,h1] at hh
    injection hh with hh
    subst hh
    obtain ⟨m0,pY,gb,es,clock,rfl,hw,aT,_⟩:=aY
    exact ⟨gb,es,clock,rfl,hw,by rw [aT,pY.length_eq]⟩
   ·exact h.elim
  ·exact h.elim
 ·have hh:=aI h; clear h; obtain ⟨hb,h⟩:=hh
  simp only [Bool.and_eq_true] at hb
  refine o5 hT hg ho hc ha je h bs hb.1 fun _ κ' _ G w v _ hv=>.inl ⟨hb.2,?_⟩
  cases hv
  exact ⟨_,_,_,rfl,rfl⟩
 ·have hh:=aI h; clear h; obtain ⟨hb,h⟩:=hh
  simp only [Bool.and_eq_true] at hb
  refine o5 hT hg ho hc ha je h bs hb.1 fun _ κ' _ G w v _ hv=>.inl ⟨hb.2,?_⟩
  cases hv
  exact ⟨_,_,_,rfl,rfl⟩
 ·exact h.elim
theorem tG {x:Operand} {i ver ep bF:Nat} {p:List PS} {d y:DV} (hg:bK ρ ops o.guard=some gd) (ho:o.op=.nilCheck x) (hk:κ i=.tree ver bF d) (dj:p=[] ∨ ep=bF) (c6:gd=true→get d p=some (.cN y))
  (hr:aS n o gd nx k (.loc i ver ep p 1 0 0) [i]) (bs:bo ρ κ gd x (.own i ver ep p)):Good P C ops n o nx ρ κ k:=by
 refine bg (fun c=>by rw [ho]; simp) hg hr fun ρ' κ' au g a w G aj aM=>?_
 have hv:=bs ρ' κ' (au.op (by rw [ho]; simp [Op.operands])) g n a w G aj aM
 generalize hx:a.eval x=v at hv
 obtain ⟨u,h1,_,aY⟩:=aj.fit.node ((au.reads i (by simp)).trans hk) (c6 aM) rfl
 cases hv with | own _ _ _ _ _ hh hc =>
 have xw:=hh
 rw [cK dj,h1] at hh
 injection hh with hh
 subst hh
 obtain ⟨gb,c,t,rfl,hw,_⟩:=aY
 refine ⟨.pointer (some ⟨gb,0,none⟩),by simp [execOp,ho,hx],?_⟩
 have:=aE.mr (G:=G) i ver ep p 1 0 0 _ xw
 rw [cE] at this
 exact this
theorem xx (hT:ed P T) {t f:Nat} {x:Operand} {v:AV} (hg:bK ρ ops o.guard=some gd) (ho:o.op=.fieldAddr t x f)
  (h:match (nth T t).ok,(nth T t).fields[f]? with
   | true,some (off,sz+1)=>match v with
    | .ptr i o'=>aS n o gd nx k (.ptr i (o'+off)) []
    | .dv (.at x o')=>aS n o gd nx k (.dv (.at x (o'+off))) []
    | .loc i ver ep p o7 idx o'=>aS n o gd nx k (.loc i ver ep p o7 idx (o'+off)) []
    | _=>False
   | _,_=>False) (bs:bo ρ κ gd x v):Good P C ops n o nx ρ κ k:=by
 split at h
 ·rename_i off sz bJ hf
  split at h
  ·refine ln hT hg ho bJ hf h bs (fun G v hv=>?_)
   cases hv with
   | ptr _ _ b hb =>
    refine ⟨_,rfl,?_⟩
    rw [cE]
    exact .ptr _ _ b hb
  ·refine ln hT hg ho bJ hf h bs (fun G v hv=>?_)
   cases hv with | dv hv=>cases hv with
   | _ =>
    rename_i A cell j9 hc hr
    refine ⟨_,rfl,?_⟩
    rw [cy]
    exact .dv (.at _ _ A cell j9 hc hr)
  ·refine ln hT hg ho bJ hf h bs (fun G v hv=>?_)
   cases hv with
   | loc _ _ _ _ _ _ _ A m c he =>
    refine ⟨_,rfl,?_⟩
    rw [cy,Nat.add_assoc]
    exact .loc _ _ _ _ _ _ _ A m c he
   | mr _ _ _ _ _ _ _ A he =>
    refine ⟨_,rfl,?_⟩
    rw [cy,Nat.add_assoc]
    exact .mr _ _ _ _ _ _ _ A he
  ·exact h.elim
 ·exact h.elim
theorem Hn (hT:ed P T) {t f:Nat} {x:Operand} {v:AV} (hg:bK ρ ops o.guard=some gd) (ho:o.op=.field t x f)
  (h:match (nth T t).ok,(nth T t).fields[f]?,(nth T t).zu[f]? with
   | true,some (off,sz+1),some ft=>match v with
    | .agg l=>bif (nth T ft).ok && Nat.beq (nth T ft).size (sz+1) then bW (nth T ft).agg l off (sz+1) fun v=>aS n o gd nx k v [] else False
    | _=>False
   | _,_,_=>False) (bs:bo ρ κ gd x v):Good P C ops n o nx ρ κ k:=by
 split at h
 ·rename_i off sz ft bJ hf RP
  split at h
  ·have hh:=aI h; clear h; obtain ⟨hb,h⟩:=hh
   simp only [Bool.and_eq_true] at hb
   exact Jf hT hg ho bJ hf RP hb.1 (Nat.eq_of_beq_eq_true hb.2) h bs
  ·exact h.elim
 ·exact h.elim
theorem Ho (hT:ed P T) {t:Nat} {x i:Operand} {v iv:AV} (hg:bK ρ ops o.guard=some gd) (ho:o.op=.indexAddr t x i)
  (h:bif (nth T t).ok && (nth T t).isSl && (nth T (nth T t).elem).ok then
    match v,iv with
    | .dv (.sl sz l),.dv (.int _ m)=>bif Nat.beq sz (nth T (nth T t).elem).size then ∃x,(gd=true→0≤m∧l[m.toNat]?=some x)∧aS n o gd nx k (.dv (.at x 0)) [] else False
    | .own j ver ep p,.dv (.int _ m)=>match κ j with
     | .tree aZ bF d=>bif Nat.beq ver aZ && (emp p || Nat.beq ep bF) then hP gd d p fun nd=>match nd with
      | .ay sz l=>bif Nat.beq sz (nth T (nth T t).elem).size then (gd=true→0≤m∧m<l.length)∧aS n o gd nx k (.loc j ver ep p sz m.toNat 0) [j] else False
      | _=>False
      else False
     | _=>False
    | .sle j len,.dv (.int _ m)=>(gd=true→0≤m∧m<len)∧aS n o gd nx k (.ptr j (m.toNat * (nth T (nth T t).elem).size)) []
    | .pre j ver ep p sz lo len,.dv (.int _ m)=>bif Nat.beq sz (nth T (nth T t).elem).size then (gd=true→0≤m∧m<len)∧aS n o gd nx k (.loc j ver ep p sz (lo+m.toNat) 0) [] else False
    | _,_=>False
   else False) (bs:bo ρ κ gd x v) (mL:bo ρ κ gd i iv):Good P C ops n o nx ρ κ k:=by
 have hh:=aI h; clear h; obtain ⟨hb,h⟩:=hh
 simp only [Bool.and_eq_true] at hb
 split at h
 ·have hh:=aI h; clear h; obtain ⟨cw,x,hy,h⟩:=hh
  exact Bw hT hg ho hb.1.1 hb.1.2 hb.2 (Nat.eq_of_beq_eq_true cw) hy h bs mL
 ·split at h
  ·rename_i hk
   have hh:=aI h; clear h; obtain ⟨cw,h⟩:=hh
   obtain ⟨rfl,dj⟩:=dh cw
   obtain ⟨nd,h,c6⟩:=bB h
   split at h
   ·have hh:=aI h; clear h; obtain ⟨xe,hy,h⟩:=hh
    exact zv hT hg ho hb.1.1 hb.1.2 hb.2 (Nat.eq_of_beq_eq_true xe) hk dj c6 hy h bs mL
   ·exact h.elim
  ·exact h.elim
 ·exact zw hT hg ho hb.1.1 hb.1.2 hb.2 h.1 h.2 bs mL
 ·have hh:=aI h; clear h; obtain ⟨cw,hy,h⟩:=hh
  exact zx hT hg ho hb.1.1 hb.1.2 hb.2 (Nat.eq_of_beq_eq_true cw) hy h bs mL
 ·exact h.elim
theorem DX (hT:ed P T) {t:Nat} {x i:Operand} {v iv:AV} (hg:bK ρ ops o.guard=some gd) (ho:o.op=.indexAddr t x i)
  (h:zy (nth T t) (nth T (nth T t).elem) gd v iv fun v=>aS n o gd nx k v []) (bs:bo ρ κ gd x v) (mL:bo ρ κ gd i iv):Good P C ops n o nx ρ κ k:=by
 have hh:=aI h; clear h; obtain ⟨hb,h⟩:=hh
 simp only [Bool.and_eq_true] at hb
 have Bx:=Nat.eq_of_beq_eq_true hb.1.2
 split at h
 ·rename_i kd m
  obtain ⟨hm,h⟩:=h
  split at h
  ·rename_i y off
   refine lp hT hg ho hb.1.1 Bx hb.2 hm h bs mL fun G v hv=>?_
   cases hv with | dv hv=>cases hv with | «at» _ _ A cell j9 hc hr =>
   exact ⟨_,rfl,.dv (by rw [cy]; exact .at y _ A cell j9 hc hr)⟩
  ·rename_i j off
   refine lp hT hg ho hb.1.1 Bx hb.2 hm h bs mL fun G v hv=>?_
   cases hv with | ptr _ _ b hb =>
   exact ⟨_,rfl,by rw [show (⟨b,off,none⟩:Addr).add (m.toNat * (nth T (nth T t).elem).size)=⟨b,off+m.toNat * (nth T (nth T t).elem).size,none⟩ by unfold Addr.add; split <;> simp [*]]; exact .ptr j _ b hb⟩
  ·rename_i j ver ep p sz idx off
   refine lp hT hg ho hb.1.1 Bx hb.2 hm h bs mL fun G v hv=>?_
   cases hv with
   | loc _ _ _ _ _ _ _ A n c e=>exact ⟨_,rfl,by rw [cy,Nat.add_assoc]; exact .loc j ver ep p sz idx _ A n c e⟩
   | mr _ _ _ _ _ _ _ A e=>exact ⟨_,rfl,by rw [cy,Nat.add_assoc]; exact .mr j ver ep p sz idx _ A e⟩
  ·exact h.elim
 ·exact h.elim
theorem Jg (hT:ed P T) {t:Nat} {x:Operand} {v:AV} (hg:bK ρ ops o.guard=some gd) (ho:o.op=.load t x) (bJ:(nth T t).ok=true)
  (h:match v with
   | .ptr i off=>match κ i with
    | .cells l=>bW (nth T t).agg l off (nth T t).size fun v=>aS n o gd nx k v [i]
    | _=>False
   | .dv (.at x off)=>bW (nth T t).agg (jR x.cells) off (nth T t).size fun v=>aS n o gd nx k v []
   | .loc i ver ep p sz idx off=>match κ i with
    | .tree aZ bF d=>bif Nat.beq ver aZ && (emp p || Nat.beq ep bF) then hP gd d p fun nd=>jf i ver bF p gd sz idx nd fun l =>
      bW (nth T t).agg l off (nth T t).size fun v=>aS n o gd nx k v [i]
     else False
    | _=>False
   | _=>False) (bs:bo ρ κ gd x v):Good P C ops n o nx ρ κ k:=by
 split at h
 ·split at h
  ·rename_i hk
   exact By hT hg ho bJ hk h bs
  ·exact h.elim
 ·exact DY hT hg ho bJ h bs
 ·split at h
  ·rename_i hk
   have hh:=aI h; clear h; obtain ⟨cw,h⟩:=hh
   obtain ⟨rfl,dj⟩:=dh cw
   exact Bz hT hg ho bJ hk dj h bs
  ·exact h.elim
 ·exact h.elim
theorem Hp (hT:ed P T) {t:Nat} {x y:Operand} {p v:AV} (hn:∀i,nx≤i→κ i=.none) (hg:bK ρ ops o.guard=some gd) (ho:o.op=.store t x y) (bJ:(nth T t).ok=true)
  (h:bif Nat.beq (cellsOf v).length (nth T t).size && bP (cellsOf v) then
    match p with
    | .ptr i off=>match κ i with
     | .cells l=>bif Nat.ble (off+(nth T t).size) l.length then dx n o nx k .any [(i,.cells (gi l off (cellsOf v)))] [i] else False
     | _=>False
    | .loc i ver ep p sz idx off=>nW n o nx κ k i ver ep p sz idx off (cellsOf v)
    | _=>False
   else False) (bs:bo ρ κ gd x p) (FX:bo ρ κ gd y v):Good P C ops n o nx ρ κ k:=by
 have hh:=aI h; clear h; obtain ⟨hb,h⟩:=hh
 simp only [Bool.and_eq_true] at hb
 have jV:=Nat.eq_of_beq_eq_true hb.1
 split at h
 ·rename_i i off
  split at h
  ·rename_i l hk
   have hh:=aI h; clear h; obtain ⟨cw,h⟩:=hh
   have aK:i<nx:=by
    rcases Nat.lt_or_ge i nx with h | h
    ·exact h
    ·rw [hn i h] at hk; cases hk
   exact zA hT hg ho bJ hk jV hb.2 (Nat.le_of_ble_eq_true cw) h aK bs FX
  ·exact h.elim
 ·exact zB hT hg ho hn bJ jV hb.2 h bs FX
 ·exact h.elim
structure FY (P:Program) (C:dw→Prop) (ops:List Oper) (n:Nat) (o:Oper) (nx:Nat) (ρ:Nat→AV) (κ:Nat→ao) (k:jo→Nat→Prop):Prop where
 call:∀{gd:Bool} {f:Nat} {l:List AV},bK ρ ops o.guard=some gd→rz P ops o ρ κ gd f l→kg none (dK P f) n o gd nx κ k l→Good P C ops n o nx ρ κ k
 fw:∀{gd:Bool} {c:Call} {t i:Nat} {l:List AV},bK ρ ops o.guard=some gd→o.op=.call c→c.callee=.value (.tmp t)→bo ρ κ gd (.tmp t) (.fw i)→jY ρ κ gd c.args.toList l →
  kg (some i) (rE P) n o gd nx κ k l→Good P C ops n o nx ρ κ k
theorem rF (hT:ed P T) (hn:∀i,nx≤i→κ i=.none) (hR:FY P C ops n o nx ρ κ k) (h:nX P T ops n o nx ρ κ k):Good P C ops n o nx ρ κ k:=by
 have jZ:∀{gd:Bool} {f:Nat} {l:List AV},bK ρ ops o.guard=some gd→rz P ops o ρ κ gd f l→(uO P n o nx κ gd k f l ∨ kg none (dK P f) n o gd nx κ k l)→Good P C ops n o nx ρ κ k:=by
  intro gd f l hg bs h
  rcases h with h | h
  ·exact Jc hn hg bs h
  ·exact hR.call hg bs h
 unfold nX at h
 split at h
 ·exact h.elim
 ·rename_i gd hg
  split at h
  ·rename_i x ho
   exact Mn hg ho h
  ·rename_i x ho
   obtain ⟨v,h,bs⟩:=aF h
   exact Hq hg ho h bs
  ·rename_i x ho
   obtain ⟨v,h,bs⟩:=aF h
   split at h
   ·exact mM hg ho h bs (fun G v hv=>by cases hv; exact ⟨_,rfl⟩)
   ·exact mM hg ho h bs (fun G v hv=>by cases hv <;> exact ⟨_,rfl⟩)
   ·exact mM hg ho h bs (fun G v hv=>by cases hv with | dv hv=>cases hv; exact ⟨_,rfl⟩)
   ·split at h
    ·rename_i hk
     have hh:=aI h; clear h; obtain ⟨hb,h⟩:=hh
     obtain ⟨rfl,dj⟩:=dh hb
     obtain ⟨nd,h,c6⟩:=bB h
     split at h
     ·exact tG hg ho hk dj c6 h bs
     ·exact h.elim
    ·exact h.elim
   ·exact h.elim
  ·rename_i c x y ho
   exact Je hg ho h
  ·rename_i op t x y ty ho
   obtain ⟨va,h,Pk⟩:=aF h
   obtain ⟨vb,h,Pl⟩:=aF h
   cases hb:vb.iC with
   | false =>
    rw [hb] at h
    cases ha:va.ag with
    | false=>rw [ha] at h; exact Jh hT hg ho Pk Pl h
    | true=>rw [ha] at h; exact Pm hT hg ho Pk Pl h
   | true =>
    rw [hb] at h
    have hb:vb=.dv .aH:=by
     cases vb with
     | dv d=>cases d <;> simp [AV.iC] at hb; rfl
     | _=>simp [AV.iC] at hb
    subst hb
    exact DZ hT hg ho Pk Pl h
  ·rename_i op t x ho
   obtain ⟨v,h,bs⟩:=aF h
   split at h
   ·exact Pn hg ho h bs
   ·exact Po hg ho h bs
   ·exact h.elim
  ·rename_i x i ho
   obtain ⟨v,h,bs⟩:=aF h
   split at h
   ·split at h
    ·rename_i hl
     rw [force_eq] at h
     exact D0 hg ho h hl bs
    ·exact h.elim
   ·exact h.elim
  ·rename_i t x f ho
   obtain ⟨v,h,bs⟩:=aF h
   exact Hn hT hg ho h bs
  ·rename_i t x f ho
   obtain ⟨v,h,bs⟩:=aF h
   exact xx hT hg ho h bs
  ·rename_i t x i ho
   obtain ⟨v,h,bs⟩:=aF h
   obtain ⟨iv,h,mL⟩:=aF h
   cases hb:(nth T t).ok && (nth T t).isSl && (nth T (nth T t).elem).ok with
   | true=>rw [hb] at h; exact Ho hT hg ho (by rw [hb]; exact h) bs.dn mL
   | false=>rw [hb] at h; exact DX hT hg ho h bs mL
  ·rename_i t x ho
   have hh:=aI h; clear h; obtain ⟨bJ,h⟩:=hh
   obtain ⟨v,h,bs⟩:=aF h
   exact Jg hT hg ho bJ h bs
  ·rename_i t x y ho
   have hh:=aI h; clear h; obtain ⟨bJ,h⟩:=hh
   obtain ⟨p,h,bs⟩:=aF h
   obtain ⟨v,h,FX⟩:=aF h
   exact Hp hT hn hg ho bJ h bs FX
  ·rename_i fn first br ho
   obtain ⟨l,h,h1⟩:=jg h
   obtain ⟨r,h,h2⟩:=jg h
   split at h
   ·exact sU hg ho h1 h2 (.inl ⟨rfl,rfl⟩) h
   ·exact sU hg ho h1 h2 (.inr ⟨rfl,rfl⟩) h
   ·exact h.elim
  ·rename_i t ho
   have hh:=aI h; clear h; obtain ⟨bJ,s,h⟩:=hh
   exact D1 hg ho (hn nx (Nat.le_refl _)) h
  ·rename_i t x ho
   have hh:=aI h; clear h; obtain ⟨bJ,h⟩:=hh
   simp only [Bool.and_eq_true] at bJ
   obtain ⟨v,h,bs⟩:=aF h
   split at h
   ·obtain ⟨s,h⟩:=h
    exact BA hT hg ho bJ.1 (Nat.eq_of_beq_eq_true bJ.2) (hn nx (Nat.le_refl _)) h bs
   ·exact h.elim
  ·rename_i t x i c ho
   have hh:=aI h; clear h; obtain ⟨hb,h⟩:=hh
   simp only [Bool.and_eq_true] at hb
   obtain ⟨v,h,bs⟩:=aF h
   obtain ⟨kv,h,mL⟩:=aF h
   exact Hr hT hg ho hb.1.1 (Nat.eq_of_beq_eq_true hb.1.2) hb.2 bs mL h
  ·rename_i t x i y ho
   have hh:=aI h; clear h; obtain ⟨hb,h⟩:=hh
   simp only [Bool.and_eq_true] at hb
   obtain ⟨v,h,bs⟩:=aF h
   obtain ⟨kv,h,mL⟩:=aF h
   obtain ⟨u,h,FX⟩:=aF h
   exact zC hT hg ho hn hb.1 (Nat.eq_of_beq_eq_true hb.2) bs mL FX h
  ·rename_i t ho
   have hh:=aI h; clear h; obtain ⟨bJ,h⟩:=hh
   exact Ji hT hg ho bJ (hn nx (Nat.le_refl _)) h
  ·rename_i t x ho
   obtain ⟨v,h,bs⟩:=aF h
   have hh:=aI h; clear h; obtain ⟨hc,h⟩:=hh
   exact Pp hg ho (hn nx (Nat.le_refl _)) hc h bs
  ·rename_i t parts ho
   have hh:=aI h; clear h; obtain ⟨hb,h⟩:=hh
   simp only [Bool.and_eq_true] at hb
   obtain ⟨l,h,hp⟩:=kh h
   split at h
   ·rename_i cs hf
    exact Jj hT hg ho hb.1 hp hf hb.2 h
   ·exact h.elim
  ·rename_i t len parts ho
   have hh:=aI h; clear h; obtain ⟨hb,h⟩:=hh
   simp only [Bool.and_eq_true,Nat.blt_eq] at hb
   obtain ⟨⟨⟨⟨h1,h2⟩,h3⟩,h4⟩,h5⟩:=hb
   obtain ⟨l,h,hp⟩:=kh h
   split at h
   ·rename_i cs hf
    have hh:=aI h; clear h; obtain ⟨hc,h⟩:=hh
    exact xy hT hg ho hn h1 h2 h3 h4 h5 hp hf hc h
   ·exact h.elim
  ·rename_i t l c ho
   have hh:=aI h; clear h; obtain ⟨hb,h⟩:=hh
   simp only [Bool.and_eq_true,Nat.blt_eq] at hb
   obtain ⟨⟨⟨b1,b2⟩,b3⟩,b4⟩:=hb
   obtain ⟨lv,h,h1⟩:=aF h
   obtain ⟨cv,h,h2⟩:=aF h
   split at h
   ·obtain ⟨z,e1,e2,e3,e4,e5,fl,Mj,h⟩:=h
    exact zD hT hg ho b1 b2 b3 b4 (hn nx (Nat.le_refl _)) e1 e2 e3 e4 e5 Mj h h1 h2
   ·exact h.elim
  ·rename_i t x l hh ho
   have hq:=aI h; clear h; obtain ⟨hb,h⟩:=hq
   simp only [Bool.and_eq_true] at hb
   obtain ⟨v,h,bs⟩:=aF h
   obtain ⟨lo,h,hl⟩:=x5 h
   obtain ⟨hi,h,zq⟩:=x5 h
   exact I9 hT hg ho hn hb.1 hb.2 bs.dn hl zq h
  ·rename_i c ho
   split at h
   ·rename_i hc
    split at h
    ·rename_i x t ha je
     obtain ⟨v,h,bs⟩:=aF h
     exact Mm hT hg ho hc ha je bs.dn h
    ·exact h.elim
   ·rename_i hc
    split at h
    ·rename_i x i t t' ha je
     have hh:=aI h; clear h; obtain ⟨hb,h⟩:=hh
     simp only [Bool.and_eq_true] at hb
     obtain ⟨v,h,bs⟩:=aF h
     obtain ⟨kv,h,mL⟩:=aF h
     exact zE hT hg ho hc ha je hn hb.1 (Nat.eq_of_beq_eq_true hb.2) bs mL h
    ·exact h.elim
   ·rename_i hc
    split at h
    ·rename_i s x t t' ha je
     have hh:=aI h; clear h; obtain ⟨hb,h⟩:=hh
     have:=Nat.eq_of_beq_eq_true hb
     subst this
     obtain ⟨sv,h,h1⟩:=aF h
     obtain ⟨xv,h,h2⟩:=aF h
     rcases h with h | h
     ·exact D2 hT hg ho hc ha je hn h h1 h2.dn
     ·exact Hs hT hg ho hc ha je hn h h1.dn h2.dn
    ·exact h.elim
   ·rename_i hc
    split at h
    ·rename_i x y ha
     obtain ⟨a,h,h1⟩:=aF h
     obtain ⟨b,h,h2⟩:=aF h
     split at h
     ·exact Pq hg ho hc ha h h1 h2
     ·exact h.elim
    ·exact h.elim
   ·rename_i hc
    split at h
    ·rename_i x y ha
     obtain ⟨a,h,h1⟩:=aF h
     obtain ⟨b,h,h2⟩:=aF h
     split at h
     ·exact Pr hg ho hc ha h h1 h2
     ·exact h.elim
    ·exact h.elim
   ·rename_i f hc
    obtain ⟨l,h,h1⟩:=jg h
    exact jZ hg (sP ho hc h1) h
   ·rename_i t hc
    obtain ⟨v,h,bs⟩:=aF h
    obtain ⟨l,h,h1⟩:=jg h
    split at h
    ·exact jZ hg (o3 ho hc bs h1 (.inl ⟨_,rfl,rfl⟩)) h
    ·exact jZ hg (o3 ho hc bs h1 (.inr (.inl ⟨_,rfl,rfl⟩))) h
    ·exact jZ hg (o3 ho hc bs h1 (.inr (.inr ⟨_,rfl,rfl⟩))) h
    ·rcases h with h | ⟨hf,u,h⟩
     ·exact hR.fw hg ho hc bs h1 h
     ·exact bg (fun c=>by rw [ho]; simp) hg h fun _ _ _ _ _ _ _ _ aM=>by rw [hf] at aM; cases aM
    ·exact h.elim
   ·exact h.elim
  ·rename_i t x ho
   have hh:=aI h; clear h; obtain ⟨hb,h⟩:=hh
   simp only [Bool.and_eq_true] at hb
   obtain ⟨v,h,bs⟩:=aF h
   split at h
   ·rename_i j ver ep p
    split at h
    ·rename_i d hj
     have hh:=aI h; clear h; obtain ⟨cw,h⟩:=hh
     simp only [Bool.and_eq_true,Bool.or_eq_true] at cw
     obtain ⟨nd,h,c6⟩:=bB h
     split at h
     ·exact Jk hT hg ho hb.1 (Nat.eq_of_beq_eq_true hb.2) (hn nx (Nat.le_refl _)) hj (by have:=cw.2; rw [Nat.blt_eq] at this; exact this) (Nat.eq_of_beq_eq_true cw.1.1)
       (cw.1.2.imp (fun e=>by cases p with | nil=>rfl | cons=>simp [emp] at e) Nat.eq_of_beq_eq_true) (c6 rfl) h bs
     ·exact h.elim
    ·exact h.elim
   ·exact h.elim
  ·rename_i x ho
   obtain ⟨v,h,bs⟩:=aF h
   split at h
   ·rename_i i
    split at h
    ·rename_i hi
     exact Jl hg ho hi h.1 h.2 bs
    ·exact h.elim
   ·exact h.elim
  ·rename_i s t x ho
   have hh:=aI h; clear h; obtain ⟨hb,h⟩:=hh
   simp only [Bool.and_eq_true] at hb
   obtain ⟨v,h,bs⟩:=aF h
   split at h
   ·rename_i hi
    exact D3 hT hg ho hb.1 hb.2 hi h bs
   ·exact I5 hT hg ho hb.1 hb.2 h (bo.dn bs)
  ·rename_i t x i ho
   have hh:=aI h; clear h; obtain ⟨hb,h⟩:=hh
   simp only [Bool.and_eq_true] at hb
   obtain ⟨v,h,bs⟩:=aF h
   obtain ⟨iv,h,mL⟩:=aF h
   split at h
   ·obtain ⟨b,Hl,h⟩:=h
    exact Jm hT hg ho hb.1 hb.2 Hl h bs mL
   ·exact h.elim
  ·exact h.elim
end
end Go.TM
namespace Go.TM
open Go.RowKit
variable [cu]
def D4:Op→Bool
 | .buildSlice _ _ _=>true
 | .call c=>match c.callee with
  | .builtin .append=>true
  | _=>false
 | _=>false
def qe (o:Oper):Oper:={ o with guard:=none }
def D5 (P:Program) (T:List TI) (ops:List Oper) (n:Nat) (o:Oper) (nx:Nat) (ρ:Nat→AV) (κ:Nat→ao) (k:jo→Nat→Prop):Prop :=
 match o.guard with
 | none=>nX P T ops n o nx ρ κ k
 | some _=>bif D4 o.op then nX P T ops n o nx ρ κ k ∨ (match bK ρ ops o.guard with
   | some g=>(g=false∧aS n o g nx k .any []) ∨ (g=true∧nX P T ops n (qe o) nx ρ κ k)
   | none=>False)
  else nX P T ops n o nx ρ κ k
def Ps (P:Program) (T:List TI) (ops:List Oper) (n:Nat):List Oper→Nat→Env→ah→(Nat→Env→ah→Prop)→Prop
 | [],nx,env,K,k=>k nx env K
 | o::rest,nx,env,K,k=>D5 P T ops n o nx (look env) (aa K) fun bf dD=>uR bf.dst env fun jq=>uS bf.box K fun K'=>Ps P T ops n rest dD jq K' k
structure Rec where
 rows:List Nat
 bf:jo
def FZ:Op→Bool
 | .call c=>match c.callee with
  | .value (.tmp _)=>true
  | _=>false
 | _=>false
def dP:List (Nat × ao)→List Nat
 | []=>[]
 | p::r=>p.1::dP r
def F0 (κ:Nat→ao) (rd:List Nat):List (Nat × ao)→(List (Nat × ao)→Prop)→Prop
 | [],k=>k []
 | (i,b)::r,k=>((fV i rd && !fV i (dP r))=true∧κ i=b∧F0 κ rd r k) ∨ F0 κ rd r fun r=>k ((i,b)::r)
def Jn (ops:List Oper) (o:Oper) (κ:Nat→ao) (bf:jo) (k:jo→Prop):Prop :=
 bif FZ o.op && Nat.ble 16 ops.length then k bf ∨ F0 κ bf.reads bf.box fun bx=>k { bf with box:=bx } else k bf
def F1 (P:Program) (T:List TI) (ops:List Oper) (n:Nat):List Oper→Nat→Env→ah→List Rec→(Nat→Env→ah→List Rec→Prop)→Prop
 | [],nx,env,K,acc,k=>k nx env K acc
 | o::rest,nx,env,K,acc,k=>D5 P T ops n o nx (look env) (aa K) fun bf dD=>Jn ops o (aa K) bf fun bf=>uR bf.dst env fun jq=>uS bf.box K fun K'=>F1 P T ops n rest dD jq K' (acc++[⟨fj (look env) (aa K) o,bf⟩]) k
def iT:List Nat→List Nat→Bool
 | [],_=>true
 | x::r,l=>!fV x l && iT r l
def hU:List (Nat × AV)→List Nat
 | []=>[]
 | p::r=>p.1::hU r
def c8 (ops:List Oper) (x y:Rec) (oy:Oper):Bool :=
 iT (hU x.bf.dst) (oy.looksAt ops.toArray) && iT (hU x.bf.dst) (hU y.bf.dst) &&
 iT (dP x.bf.box) y.rows && iT (dP x.bf.box) y.bf.reads && iT (dP x.bf.box) (dP y.bf.box)
def qg (o:Oper):List Nat:=o.after.toList.filterMap fun e=>bif Region.binds .any e then some e.on else none
def mN (ops:List Oper):Nat→Nat→Nat→Bool
 | 0,_,_=>false
 | f+1,i,j=>match ops[j]? with
  | some o=>(qg o).any fun d=>Nat.beq d i || mN ops f i d
  | none=>false
def uT:Nat→List Oper→Bool
 | _,[]=>true
 | i,o::r=>(qg o).all (fun d=>Nat.blt d i) && uT (i+1) r
def qh (ops:List Oper) (rs:List Rec) (j:Nat) (y:Rec) (oy:Oper):Nat→List Rec→List Oper→Bool
 | i,x::xr,ox::or=>(bif Nat.blt i j then mN ops ops.length i j || (c8 ops x y oy && c8 ops y x ox) else true) && qh ops rs j y oy (i+1) xr or
 | _,_,_=>true
def nY (ops:List Oper) (rs:List Rec):Nat→List Rec→List Oper→Bool
 | j,y::yr,oy::or=>qh ops rs j y oy 0 rs ops && nY ops rs (j+1) yr or
 | _,_,_=>true
def rG (ops:List Oper) (rs:List Rec):Bool:=uT 0 ops && nY ops rs 0 rs ops
def ya (g:dw) (n nx:Nat) (env:Env) (K:ah) (a:Act) (w:World):Prop:=St g n (look env) (aa K) a w∧g.m≤nx∧∀i,nx≤i→aa K i=.none
theorem qi {F:Fence} {m:Nat} {P:Program} {o:Oper} {a:Act} {w:World} {K K':Act→World→Prop} {Q:Exit→Act→World→Prop} (h:∀a w,K a w→K' a w) (hh:o.wpIn F m P a w K (fun _ _ _=>False)):o.wpIn F m P a w K' Q:=by
 unfold Oper.wpIn at *
 refine ⟨hh.1,?_⟩
 have hh:=hh.2
 generalize (o.semAt F.round a.eval).run P w=r at *
 cases r with
 | ok x w' =>
  cases x <;> simp only [Oper.uponIn] at hh ⊢ <;>
   first
    | exact h _ _ hh
    | exact ⟨hh.1,CallsIn.mono hh.2 (fun e Xx he=>by cases e <;> first | exact h _ _ he | exact he.elim | (obtain ⟨_,_,hf⟩:=he; exact hf.elim))⟩
    | exact ⟨hh.1,RowsIn.mono hh.2 (fun _ _ he=>h _ _ he)⟩
    | exact ⟨hh.1,RoundIn.mono hh.2 (fun e Xx he=>by cases e <;> first | exact h _ _ he | exact he.elim | (obtain ⟨_,_,hf⟩:=he; exact hf.elim))⟩
    | exact hh.elim
 | halt x w'=>cases x <;> simp only [Oper.uponIn] at hh ⊢ <;> exact hh.elim
def cV (P:Program) (C:dw→Prop):Prop:=∀(ops:List Oper) (n:Nat) (o:Oper) (nx:Nat) (ρ:Nat→AV) (κ:Nat→ao) (k:jo→Nat→Prop),(∀i,nx≤i→κ i=.none)→FY P C ops n o nx ρ κ k
section
variable {P:Program} {C:dw→Prop} {T:List TI} {ops:List Oper} {n:Nat} {g:dw}
theorem zF {o:Oper} {nx:Nat} {ρ:Nat→AV} {κ:Nat→ao} {k:jo→Nat→Prop} (hg:bK ρ ops o.guard=some true) (h:Good P C ops n (qe o) nx ρ κ k):Good P C ops n o nx ρ κ k:=by
 obtain ⟨bf,dD,h1,h2,h3,h4⟩:=h
 refine ⟨bf,dD,h1,h2,h3,fun F hF ρ' κ' au g a w dg aj=>?_⟩
 have hs:∀t,t∈(qe o).looksAt ops.toArray→ρ' t=ρ t:=fun t ht=>au.bt t (by
  unfold Oper.looksAt qe at ht
  simp only [List.append_nil] at ht
  unfold Oper.looksAt
  exact List.mem_append_left _ ht)
 have hr:=h4 F hF ρ' κ' ⟨hs,au.rows,au.reads,au.boxes⟩ g a w dg aj
 obtain ⟨G,fT⟩:=aj
 unfold kf at hr ⊢
 rw [if_pos (cd hg au.bt fT)]
 have hw:Region.wanted (qe o) (yielded ops.toArray a.tmps)=true:=rfl
 rw [if_pos hw] at hr
 exact hr
theorem o8 (hT:ed P T) {o:Oper} {nx:Nat} {ρ:Nat→AV} {κ:Nat→ao} {k:jo→Nat→Prop} (hn:∀i,nx≤i→κ i=.none) (hR:cV P C) (h:D5 P T ops n o nx ρ κ k):Good P C ops n o nx ρ κ k:=by
 have xz:nX P T ops n o nx ρ κ k→Good P C ops n o nx ρ κ k:=rF hT hn (hR _ _ _ _ _ _ _ hn)
 unfold D5 at h
 split at h
 ·exact xz h
 ·cases hh:D4 o.op with
  | false=>rw [hh] at h; exact xz h
  | true =>
   rw [hh] at h
   rcases h with h | h
   ·exact xz h
   ·split at h
    ·rename_i g hg
     rcases h with ⟨hf,h⟩ | ⟨hf,h⟩
     ·subst hf
      refine bg (fun c hc=>?_) hg h fun _ _ _ _ _ _ _ _ aM=>by cases aM
      rw [hc] at hh; simp [D4] at hh
     ·subst hf
      exact zF hg (rF hT hn (hR _ _ _ _ _ _ _ hn) h)
    ·exact h.elim
theorem jr {nx dD:Nat} {K:ah} {bx:List (Nat × ao)} (hn:∀i,nx≤i→aa K i=.none) (hle:nx≤dD) (hb:∀p,p∈bx→p.1<dD):∀i,dD≤i→aa (tH bx K) i=.none:=by
 intro i hi
 rw [eO]
 have key:∀(l:List (Nat × ao)),(∀p,p∈l→p.1<dD)→aw (aa K) l i=.none:=by
  intro l
  induction l with
  | nil=>intro _; exact hn i (by omega)
  | cons p r ih =>
   intro hl
   obtain ⟨j,b⟩:=p
   have:=hl (j,b) (by simp)
   simp only [aw]
   rw [ae _ _ (by simp at this; omega)]
   exact ih fun p hp=>hl p (by simp [hp])
 exact key bx hb
theorem nZ {o:Oper} {rest:List Oper} {a:Act} {w:World} {K:Act→World→Prop} {Q:Exit→Act→World→Prop} {F:Fence} (hF:fU F) (h:kf P F ops.toArray o a w K) (hk:∀a w,K a w→wpListIn F 0 P ops.toArray Q rest a w):wpListIn F 0 P ops.toArray Q (o::rest) a w:=by
 unfold kf at h
 simp only [wpListIn]
 split at h
 ·rename_i hw; rw [if_pos hw]; exact qi hk h
 ·rename_i hw; rw [if_neg hw]; exact ⟨fun f _=>hF.fn f,hk _ _ h⟩
theorem uU (hT:ed P T) (hR:cV P C) (zG:C g) {F:Fence} (hF:fU F) {Q:Exit→Act→World→Prop} {k:Nat→Env→ah→Prop} (hQ:∀nx env K a w,k nx env K→ya g n nx env K a w→Q .normal a w) :
  ∀(rest:List Oper) (nx:Nat) (env:Env) (K:ah) (a:Act) (w:World),Ps P T ops n rest nx env K k→ya g n nx env K a w→wpListIn F 0 P ops.toArray Q rest a w
 | [],nx,env,K,a,w,h,hs=>hQ nx env K a w h hs
 | o::rest,nx,env,K,a,w,h,⟨hs,dg,hn⟩=>by
  obtain ⟨bf,dD,hk,hle,hb,rH⟩:=o8 hT hn hR h
  rw [uV,uW] at hk
  refine nZ hF (rH F hF (look env) (aa K) ⟨fun _ _=>rfl,fun _ _=>rfl,fun _ _=>rfl,fun _ _ _=>rfl⟩ g a w ⟨dg,zG⟩ hs) fun a' w' dB=>?_
  refine uU hT hR zG hF hQ rest dD _ _ a' w' hk ⟨?_,Nat.le_trans dg hle,jr hn hle hb⟩
  rw [jh,eO]
  exact dB
def acc {γ:Type _} (f:Nat→γ) (wr:Nat→List (Nat × γ)) (E:Nat→Bool):Nat→Nat→γ
 | 0=>f
 | m+1=>if E m then aw (acc f wr E m) (wr m) else acc f wr E m
def keys {γ:Type _} (l:List (Nat × γ)):List Nat:=l.map (·.1)
theorem ca {γ:Type _} (f:Nat→γ):∀{l:List (Nat × γ)} {t:Nat},t ∉ keys l→aw f l t=f t
 | [],t,_=>rfl
 | (i,x)::r,t,h=>by
  simp only [keys,List.map_cons,List.mem_cons,not_or] at h
  simp only [aw]
  rw [ae _ _ h.1]
  exact ca f h.2
theorem tR {γ:Type _} (f f':Nat→γ):∀{l:List (Nat × γ)} {t:Nat},t∈keys l→aw f l t=aw f' l t
 | [],t,h=>by simp [keys] at h
 | (i,x)::r,t,h=>by
  simp only [aw]
  by_cases e:t=i
  ·subst e; simp
  ·rw [ae _ _ e,ae _ _ e]
   simp only [keys,List.map_cons,List.mem_cons,e,false_or] at h
   exact tR f f' h
section
variable {γ:Type _} {f:Nat→γ} {wr:Nat→List (Nat × γ)} {E:Nat→Bool}
theorem n3 {t:Nat}:∀{j:Nat},(∀i,i<j→E i=false→t ∉ keys (wr i))→acc f wr E j t=acc f wr (fun _=>true) j t
 | 0,_=>rfl
 | j+1,h=>by
  have ih:=n3 (t:=t) (j:=j) fun i hi=>h i (by omega)
  simp only [acc,if_true]
  cases he:E j with
  | true =>
   simp only [if_true]
   by_cases hk:t∈keys (wr j)
   ·exact tR _ _ hk
   ·rw [ca _ hk,ca _ hk,ih]
  | false =>
   simp only [Bool.false_eq_true,if_false]
   rw [ca _ (h j (by omega) he)]
   exact ih
theorem BB {t j:Nat}:∀{m:Nat},(∀i,j≤i→i<j+m→E i=true→t ∉ keys (wr i))→acc f wr E (j+m) t=acc f wr E j t
 | 0,_=>rfl
 | m+1,h=>by
  have ih:=BB (t:=t) (j:=j) (m:=m) fun i h1 h2=>h i h1 (by omega)
  show acc f wr E (j+m+1) t=_
  simp only [acc]
  cases he:E (j+m) with
  | true=>simp only [if_true]; rw [ca _ (h _ (by omega) (by omega) he)]; exact ih
  | false=>simp only [Bool.false_eq_true,if_false]; exact ih
theorem qj {t j len:Nat} (hj:j≤len) (h1:∀i,i<j→E i=false→t ∉ keys (wr i)) (h2:∀i,j≤i→i<len→E i=true→t ∉ keys (wr i)):acc f wr E len t=acc f wr (fun _=>true) j t:=by
 obtain ⟨m,rfl⟩:∃m,len=j+m:=⟨len - j,by omega⟩
 rw [BB h2,n3 h1]
def ku (E:Nat→Bool) (j:Nat):Nat→Bool:=fun i=>if i=j then true else E i
theorem qk {j:Nat} (hj:E j=false):∀{len:Nat},j<len→(∀i,j<i→i<len→E i=true→∀t,t∈keys (wr j)→t ∉ keys (wr i))→acc f wr (ku E j) len=aw (acc f wr E len) (wr j)
 | 0,h,_=>by omega
 | len+1,h,hd=>by
  rcases Nat.lt_or_ge j len with aK | dk
  ·have ih:=qk hj aK fun i h1 h2=>hd i h1 (by omega)
   have bD:len ≠ j:=by omega
   simp only [acc,ku,if_neg bD]
   cases he:E len with
   | false=>simp only [Bool.false_eq_true,if_false]; exact ih
   | true =>
    simp only [if_true]
    show aw (acc f wr (ku E j) len) (wr len)=_
    rw [ih]
    funext t
    by_cases h1:t∈keys (wr j)
    ·have h2:=hd len aK (by omega) he t h1
     rw [ca _ h2]
     exact tR _ _ h1
    ·rw [ca (aw (acc f wr E len) (wr len)) h1]
     by_cases h2:t∈keys (wr len)
     ·exact tR _ _ h2
     ·rw [ca _ h2,ca _ h2,ca _ h1]
  ·have:j=len:=by omega
   subst this
   have low:∀m,m≤j→acc f wr (ku E j) m=acc f wr E m:=by
    intro m
    induction m with
    | zero=>intro _; rfl
    | succ m ih =>
     intro hm
     simp only [acc,ku,if_neg (show m ≠ j by omega)]
     rw [ih (by omega)]
   simp only [acc,hj,Bool.false_eq_true,if_false]
   simp only [ku,if_true]
   rw [low j (Nat.le_refl _)]
end
theorem IU.lo {lo Rh:Nat} {o:Oper} {ρ:Nat→AV} {κ:Nat→ao} {bf:jo} (h:IU P C ops n Rh o ρ κ bf) (hl:lo≤Rh):IU P C ops n lo o ρ κ bf :=
 fun F hF ρ' κ' au g a w hg hs=>h F hF ρ' κ' au g a w ⟨Nat.le_trans hg.1 hl,hg.2⟩ hs
theorem ql {γ:Type _} (f:Nat→γ) (wr Ww:Nat→List (Nat × γ)) (m:Nat):(∀i,i<m→Ww i=wr i)→acc f Ww (fun _=>true) m=acc f wr (fun _=>true) m:=by
 induction m with
 | zero=>intro _; rfl
 | succ m ih=>intro hh; simp only [acc,if_true]; rw [ih fun i hi=>hh i (by omega),hh m (by omega)]
theorem o9 {κ:Nat→ao} {rd:List Nat}:∀{bx:List (Nat × ao)} {k:List (Nat × ao)→Prop},F0 κ rd bx k→∃Mo,k Mo∧(∀p,p∈Mo→p∈bx)∧(∀p,p∈bx→p∈Mo ∨ p.1∈rd)∧∀κ':Nat→ao,(∀i,i∈rd→κ' i=κ i)→aw κ' Mo=aw κ' bx
 | [],k,h=>⟨[],h,fun _ h=>h,fun _ h=>.inl h,fun _ _=>rfl⟩
 | (i,b)::r,k,h=>by
  rcases h with ⟨h1,h2,h⟩ | h
  ·obtain ⟨Mo,hk,ha,hb,hc⟩:=o9 h
   simp only [Bool.and_eq_true,Bool.not_eq_true'] at h1
   refine ⟨Mo,hk,fun p hp=>List.mem_cons_of_mem _ (ha p hp),fun p hp=>?_,fun κ' hκ=>?_⟩
   ·rcases List.mem_cons.1 hp with rfl | hp
    ·exact .inr (kz h1.1)
    ·exact hb p hp
   ·rw [hc κ' hκ]
    funext j
    by_cases e:j=i
    ·subst e
     have Xy:∀(l:List (Nat × ao)),dP l=keys l:=fun l=>by
      induction l with
      | nil=>rfl
      | cons p r ih=>simp [dP,keys,ih]
     rw [ca _ (by rw [←Xy]; exact er h1.2)]
     simp only [aw,aX]
     rw [hκ _ (kz h1.1),h2]
    ·simp only [aw]
     rw [ae _ _ e]
  ·obtain ⟨Mo,hk,ha,hb,hc⟩:=o9 h
   refine ⟨(i,b)::Mo,hk,fun p hp=>?_,fun p hp=>?_,fun κ' hκ=>?_⟩
   ·rcases List.mem_cons.1 hp with rfl | hp
    ·exact List.mem_cons_self
    ·exact List.mem_cons_of_mem _ (ha p hp)
   ·rcases List.mem_cons.1 hp with rfl | hp
    ·exact .inl List.mem_cons_self
    ·rcases hb p hp with h | h
     ·exact .inl (List.mem_cons_of_mem _ h)
     ·exact .inr h
   ·simp only [aw]
    rw [hc κ' hκ]
theorem D6 {o:Oper} {nx:Nat} {ρ:Nat→AV} {κ:Nat→ao} {k:jo→Nat→Prop} (h:Good P C ops n o nx ρ κ fun bf dD=>Jn ops o κ bf fun bf=>k bf dD):Good P C ops n o nx ρ κ k:=by
 obtain ⟨bf,dD,h1,h2,h3,h4⟩:=h
 unfold Jn at h1
 cases hd:FZ o.op && Nat.ble 16 ops.length with
 | false=>rw [hd] at h1; exact ⟨bf,dD,h1,h2,h3,h4⟩
 | true =>
  rw [hd] at h1
  rcases h1 with h1 | h1
  ·exact ⟨bf,dD,h1,h2,h3,h4⟩
  ·obtain ⟨Mo,hk,ha,hb,hc⟩:=o9 h1
   refine ⟨_,dD,hk,h2,fun p hp=>h3 p (ha p hp),fun F hF ρ' κ' au g a w dg aj=>?_⟩
   have hr:=h4 F hF ρ' κ' ⟨au.bt,au.rows,au.reads,fun i b Xz=>?_⟩ g a w dg aj
   ·simp only
    rw [hc κ' au.reads]
    exact hr
   ·rcases hb _ Xz with h | h
    ·exact au.boxes i b h
    ·exact au.reads i h
theorem sV (hT:ed P T) (hR:cV P C) {k:Nat→Env→ah→List Rec→Prop} {ρ0:Nat→AV} {κ0:Nat→ao} {lo:Nat} :
  ∀(rest done:List Oper) (nx:Nat) (env:Env) (K:ah) (rs:List Rec),ops=done++rest→rs.length=done.length→lo≤nx →
   (∀i,nx≤i→aa K i=.none) →
   look env=acc ρ0 (fun i=>(rs[i]?.map (·.bf.dst)).getD []) (fun _=>true) done.length→aa K=acc κ0 (fun i=>(rs[i]?.map (·.bf.box)).getD []) (fun _=>true) done.length →
   (∀i r o,rs[i]?=some r→ops[i]?=some o→r.rows=fj (acc ρ0 (fun i=>(rs[i]?.map (·.bf.dst)).getD []) (fun _=>true) i) (acc κ0 (fun i=>(rs[i]?.map (·.bf.box)).getD []) (fun _=>true) i) o∧IU P C ops n lo o (acc ρ0 (fun i=>(rs[i]?.map (·.bf.dst)).getD []) (fun _=>true) i) (acc κ0 (fun i=>(rs[i]?.map (·.bf.box)).getD []) (fun _=>true) i) r.bf) →
   F1 P T ops n rest nx env K rs k →
   ∃dD jq K' pa,k dD jq K' pa∧pa.length=ops.length∧lo≤dD∧(∀i,dD≤i→aa K' i=.none) ∧
    look jq=acc ρ0 (fun i=>(pa[i]?.map (·.bf.dst)).getD []) (fun _=>true) ops.length∧aa K'=acc κ0 (fun i=>(pa[i]?.map (·.bf.box)).getD []) (fun _=>true) ops.length ∧
    ∀i r o,pa[i]?=some r→ops[i]?=some o→r.rows=fj (acc ρ0 (fun i=>(pa[i]?.map (·.bf.dst)).getD []) (fun _=>true) i) (acc κ0 (fun i=>(pa[i]?.map (·.bf.box)).getD []) (fun _=>true) i) o∧IU P C ops n lo o (acc ρ0 (fun i=>(pa[i]?.map (·.bf.dst)).getD []) (fun _=>true) i) (acc κ0 (fun i=>(pa[i]?.map (·.bf.box)).getD []) (fun _=>true) i) r.bf
 | [],done,nx,env,K,rs,zH,hlen,tQ,hn,he,hk,db,h=>by
  have:done.length=ops.length:=by rw [zH]; simp
  exact ⟨nx,env,K,rs,h,by omega,tQ,hn,by rw [←this]; exact he,by rw [←this]; exact hk,db⟩
 | o::rest,done,nx,env,K,rs,zH,hlen,tQ,hn,he,hk,db,h=>by
  obtain ⟨bf,dD,ey,hle,hb,rH⟩:=D6 (ops:=ops) (n:=n) (o:=o) (nx:=nx) (ρ:=look env) (κ:=aa K) (k:=fun bf dD=>uR bf.dst env fun jq=>uS bf.box K fun K'=>F1 P T ops n rest dD jq K' (rs++[(⟨fj (look env) (aa K) o,bf⟩:Rec)]) k) (o8 hT hn hR h)
  rw [uV,uW] at ey
  have bm:∀i,i<rs.length→(rs++[⟨fj (look env) (aa K) o,bf⟩])[i]?=rs[i]?:=fun i hi=>List.getElem?_append_left hi
  have qm:(rs++[(⟨fj (look env) (aa K) o,bf⟩:Rec)])[done.length]?=some ⟨fj (look env) (aa K) o,bf⟩:=by rw [←hlen]; simp
  have eZ:∀m,m≤done.length→acc ρ0 (fun i=>((rs++[(⟨fj (look env) (aa K) o,bf⟩:Rec)])[i]?.map (·.bf.dst)).getD []) (fun _=>true) m=acc ρ0 (fun i=>(rs[i]?.map (·.bf.dst)).getD []) (fun _=>true) m :=
   fun m hm=>ql _ _ _ m fun i hi=>by rw [bm i (by omega)]
  have nT:∀m,m≤done.length→acc κ0 (fun i=>((rs++[(⟨fj (look env) (aa K) o,bf⟩:Rec)])[i]?.map (·.bf.box)).getD []) (fun _=>true) m=acc κ0 (fun i=>(rs[i]?.map (·.bf.box)).getD []) (fun _=>true) m :=
   fun m hm=>ql _ _ _ m fun i hi=>by rw [bm i (by omega)]
  refine sV hT hR rest (done++[o]) dD (BC bf.dst env) (tH bf.box K) (rs++[⟨fj (look env) (aa K) o,bf⟩]) (by rw [zH]; simp) (by simp [hlen]) (Nat.le_trans tQ hle) (jr hn hle hb) ?_ ?_ ?_ ey
  ·rw [jh,List.length_append]
   simp only [List.length_cons,List.length_nil,Nat.zero_add,acc,if_true]
   rw [eZ _ (Nat.le_refl _),qm,←he]; rfl
  ·rw [eO,List.length_append]
   simp only [List.length_cons,List.length_nil,Nat.zero_add,acc,if_true]
   rw [nT _ (Nat.le_refl _),qm,←hk]; rfl
  ·intro i r o' hr g9
   rcases Nat.lt_or_ge i rs.length with aK | dk
   ·rw [bm i aK] at hr
    rw [eZ i (by omega),nT i (by omega)]
    exact db i r o' hr g9
   ·have hi:i=done.length:=by
     have:=(List.getElem?_eq_some_iff.1 hr).1
     simp at this; omega
    subst hi
    rw [qm] at hr
    injection hr with hr
    subst hr
    rw [zH] at g9
    simp at g9
    subst g9
    rw [eZ _ (Nat.le_refl _),nT _ (Nat.le_refl _),←he,←hk]
    exact ⟨rfl,rH.lo tQ⟩
end
end Go.TM
