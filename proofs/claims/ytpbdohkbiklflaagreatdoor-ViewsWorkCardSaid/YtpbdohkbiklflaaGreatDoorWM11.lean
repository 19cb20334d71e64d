import Derived.Test.YtpbdohkbiklflaaGreatDoorWM10
import Derived.Orders
set_option linter.unusedVariables false
set_option linter.unusedSimpArgs false
set_option linter.unusedSectionVars false
namespace Go.TM
open Go.RowKit
variable [ct]
section
variable {P:Program} {C:dx→Prop} {T:List TI} {ops:List Oper} {n:Nat} {o:Oper} {nx:Nat} {ρ:Nat→AV} {κ:Nat→ao} {k:jl→Nat→Prop} {gd:Bool}
theorem mG {x:Operand} {v:AV} (h:ev ρ κ x=v):bk ρ κ gd x v:=by
 intro ρ' κ' au g n a w G aj _
 rw [←h]
 exact xH ρ' κ' au g n a w G aj
theorem ri {x:Operand} {v:AV} {g':Bool} (h:ev ρ κ x=.opt g' v) (hg:gd=true→g'=true) (hr:res κ v=v):bk ρ κ gd x v:=by
 have:=A5 h hg
 rwa [hr] at this
theorem Ix {c x y:Operand} (hg:bJ ρ ops o.guard=some gd) (ho:o.op=.pick c x y)
  (h:match ev ρ κ c,ev ρ κ x,ev ρ κ y with
   | .dv (.bool b),.dv (.bool p),.dv (.bool q)=>aR n o gd nx k (.dv (.bool (bif b then p else q))) []
   | .dv (.bool b),.opt gp (.dv (.bool p)),.dv (.bool q)=>(gd=true→b=true→gp=true)∧aR n o gd nx k (.dv (.bool (bif b then p else q))) []
   | .dv (.bool b),.dv (.bool p),.opt gq (.dv (.bool q))=>(gd=true→b=false→gq=true)∧aR n o gd nx k (.dv (.bool (bif b then p else q))) []
   | .opt gb (.dv (.bool b)),.opt gp (.dv (.bool p)),.dv (.bool q)=>(gd=true→gb=true∧(b=true→gp=true))∧aR n o gd nx k (.dv (.bool (bif b then p else q))) []
   | .opt gb (.dv (.bool b)),.dv (.bool p),.opt gq (.dv (.bool q))=>(gd=true→gb=true∧(b=false→gq=true))∧aR n o gd nx k (.dv (.bool (bif b then p else q))) []
   | _,_,_=>False):Good P C ops n o nx ρ κ k:=by
 split at h
 ·rename_i b p q h1 h2 h3
  exact lh hg ho h (mG h1) (mG h2) (mG h3)
 ·rename_i b gp p q h1 h2 h3
  exact lh hg ho h.2 (mG h1) (ri h2 (by simp only [Bool.and_eq_true]; exact fun hh=>h.1 hh.1 hh.2) rfl) (mG h3)
 ·rename_i b p gq q h1 h2 h3
  exact lh hg ho h.2 (mG h1) (mG h2) (ri h3 (by simp only [Bool.and_eq_true,Bool.not_eq_true']; exact fun hh=>h.1 hh.1 hh.2) rfl)
 ·rename_i gb b gp p q h1 h2 h3
  exact lh hg ho h.2 (ri h1 (fun hh=>(h.1 hh).1) rfl) (ri h2 (by simp only [Bool.and_eq_true]; exact fun hh=>(h.1 hh.1).2 hh.2) rfl) (mG h3)
 ·rename_i gb b p gq q h1 h2 h3
  exact lh hg ho h.2 (ri h1 (fun hh=>(h.1 hh).1) rfl) (mG h2) (ri h3 (by simp only [Bool.and_eq_true,Bool.not_eq_true']; exact fun hh=>(h.1 hh.1).2 hh.2) rfl)
 ·exact h.elim
theorem LL (hT:ec P T) {c:Call} {x:Operand} {t:Nat} {v:AV} (hg:bJ ρ ops o.guard=some gd) (ho:o.op=.call c) (hc:c.callee=.builtin .len) (ha:c.args.toList=[x]) (jb:c.argTypes.toList=[t])
  (bp:bk ρ κ gd x v) (h:yY (nth T t) κ gd v fun r rd=>aR n o gd nx k r rd):Good P C ops n o nx ρ κ k:=by
 unfold yY at h
 split at h
 ·have hh:=aH h; clear h; obtain ⟨hb,h⟩:=hh
  simp only [Bool.and_eq_true] at hb
  refine oQ hT hg ho hc ha jb h bp hb.1 fun _ κ' _ G w v _ hv=>.inl ⟨hb.2,?_⟩
  cases hv with | dv hv=>cases hv with
  | slnil=>exact ⟨_,_,_,rfl,rfl⟩
  | sl=>exact ⟨_,_,_,rfl,rfl⟩
 ·have hh:=aH h; clear h; obtain ⟨hb,h⟩:=hh
  simp only [Bool.and_eq_true] at hb
  refine oQ hT hg ho hc ha jb h bp hb.1 fun _ κ' _ G w v _ hv=>.inl ⟨hb.2,?_⟩
  cases hv with | dv hv=>cases hv with
  | aG=>exact ⟨_,_,_,rfl,rfl⟩
 ·have hh:=aH h; clear h; obtain ⟨hb,h⟩:=hh
  simp only [Bool.and_eq_true] at hb
  refine oQ hT hg ho hc ha jb h bp hb.1 fun _ κ' _ G w v _ hv=>.inr (.inl ⟨hb.2,?_⟩)
  cases hv with | dv hv=>cases hv with
  | str=>exact ⟨_,rfl,rfl⟩
 ·rename_i i ver ep p
  split at h
  ·rename_i aY bE d hk
   have hh:=aH h; clear h; obtain ⟨hb,h⟩:=hh
   obtain ⟨rfl,dj⟩:=dh hb
   obtain ⟨nd,h,c6⟩:=bA h
   split at h
   ·rename_i sz l
    have hh:=aH h; clear h; obtain ⟨hb,h⟩:=hh
    simp only [Bool.and_eq_true] at hb
    refine oQ hT hg ho hc ha jb h bp hb.1 fun aL κ' au G w v hf hv=>.inl ⟨hb.2,?_⟩
    obtain ⟨u,h1,_,aX⟩:=hf.node ((au i (by simp)).trans hk) (c6 aL) rfl
    cases hv with | own _ _ _ _ _ hh hc =>
    rw [cJ dj,h1] at hh
    injection hh with hh
    subst hh
    rcases aX with ⟨rfl,rfl⟩ | ⟨gb,ob,cap,cc,tt,rfl,_⟩
    ·exact ⟨_,_,_,rfl,rfl⟩
    ·exact ⟨_,_,_,rfl,rfl⟩
   ·rename_i ks m
    have hh:=aH h; clear h; obtain ⟨hb,h⟩:=hh
    simp only [Bool.and_eq_true] at hb
    refine oQ hT hg ho hc ha jb h bp hb.1 fun aL κ' au G w v hf hv=>.inr (.inr ⟨hb.2,?_⟩)
    obtain ⟨u,h1,_,aX⟩:=hf.node ((au i (by simp)).trans hk) (c6 aL) rfl
    cases hv with | own _ _ _ _ _ hh hc =>
    rw [cJ dj,h1] at hh
    injection hh with hh
    subst hh
    obtain ⟨m0,pL,gb,es,clock,rfl,hw,aT,_⟩:=aX
    exact ⟨gb,es,clock,rfl,hw,by rw [aT,pL.length_eq]⟩
   ·exact h.elim
  ·exact h.elim
 ·have hh:=aH h; clear h; obtain ⟨hb,h⟩:=hh
  simp only [Bool.and_eq_true] at hb
  refine oQ hT hg ho hc ha jb h bp hb.1 fun _ κ' _ G w v _ hv=>.inl ⟨hb.2,?_⟩
  cases hv
  exact ⟨_,_,_,rfl,rfl⟩
 ·have hh:=aH h; clear h; obtain ⟨hb,h⟩:=hh
  simp only [Bool.and_eq_true] at hb
  refine oQ hT hg ho hc ha jb h bp hb.1 fun _ κ' _ G w v _ hv=>.inl ⟨hb.2,?_⟩
  cases hv
  exact ⟨_,_,_,rfl,rfl⟩
 ·exact h.elim
theorem tu {x:Operand} {i ver ep bE:Nat} {p:List PS} {d y:DV} (hg:bJ ρ ops o.guard=some gd) (ho:o.op=.nilCheck x) (hk:κ i=.tree ver bE d) (dj:p=[] ∨ ep=bE) (c6:gd=true→get d p=some (.cQ y))
  (hr:aR n o gd nx k (.loc i ver ep p 1 0 0) [i]) (bp:bk ρ κ gd x (.own i ver ep p)):Good P C ops n o nx ρ κ k:=by
 refine bf (fun c=>by rw [ho]; simp) hg hr fun ρ' κ' au g a w G aj aL=>?_
 have hv:=bp ρ' κ' (au.op (by rw [ho]; simp [Op.operands])) g n a w G aj aL
 generalize hx:a.eval x=v at hv
 obtain ⟨u,h1,_,aX⟩:=aj.fit.node ((au.reads i (by simp)).trans hk) (c6 aL) rfl
 cases hv with | own _ _ _ _ _ hh hc =>
 have wZ:=hh
 rw [cJ dj,h1] at hh
 injection hh with hh
 subst hh
 obtain ⟨gb,c,t,rfl,hw,_⟩:=aX
 refine ⟨.pointer (some ⟨gb,0,none⟩),by simp [execOp,ho,hx],?_⟩
 have:=aD.mn (G:=G) i ver ep p 1 0 0 _ wZ
 rw [cD] at this
 exact this
theorem w3 (hT:ec P T) {t f:Nat} {x:Operand} {v:AV} (hg:bJ ρ ops o.guard=some gd) (ho:o.op=.fieldAddr t x f)
  (h:match (nth T t).ok,(nth T t).fields[f]? with
   | true,some (off,sz+1)=>match v with
    | .ptr i o'=>aR n o gd nx k (.ptr i (o'+off)) []
    | .dv (.at x o')=>aR n o gd nx k (.dv (.at x (o'+off))) []
    | .loc i ver ep p oR idx o'=>aR n o gd nx k (.loc i ver ep p oR idx (o'+off)) []
    | _=>False
   | _,_=>False) (bp:bk ρ κ gd x v):Good P C ops n o nx ρ κ k:=by
 split at h
 ·rename_i off sz bU hf
  split at h
  ·refine lj hT hg ho bU hf h bp (fun G v hv=>?_)
   cases hv with
   | ptr _ _ b hb =>
    refine ⟨_,rfl,?_⟩
    rw [cD]
    exact .ptr _ _ b hb
  ·refine lj hT hg ho bU hf h bp (fun G v hv=>?_)
   cases hv with | dv hv=>cases hv with
   | _ =>
    rename_i A cell j7 hc hr
    refine ⟨_,rfl,?_⟩
    rw [cy]
    exact .dv (.at _ _ A cell j7 hc hr)
  ·refine lj hT hg ho bU hf h bp (fun G v hv=>?_)
   cases hv with
   | loc _ _ _ _ _ _ _ A m c he =>
    refine ⟨_,rfl,?_⟩
    rw [cy,Nat.add_assoc]
    exact .loc _ _ _ _ _ _ _ A m c he
   | mn _ _ _ _ _ _ _ A he =>
    refine ⟨_,rfl,?_⟩
    rw [cy,Nat.add_assoc]
    exact .mn _ _ _ _ _ _ _ A he
  ·exact h.elim
 ·exact h.elim
theorem GG (hT:ec P T) {t f:Nat} {x:Operand} {v:AV} (hg:bJ ρ ops o.guard=some gd) (ho:o.op=.field t x f)
  (h:match (nth T t).ok,(nth T t).fields[f]?,(nth T t).yZ[f]? with
   | true,some (off,sz+1),some ft=>match v with
    | .agg l=>bif (nth T ft).ok && Nat.beq (nth T ft).size (sz+1) then bX (nth T ft).agg l off (sz+1) fun v=>aR n o gd nx k v [] else False
    | _=>False
   | _,_,_=>False) (bp:bk ρ κ gd x v):Good P C ops n o nx ρ κ k:=by
 split at h
 ·rename_i off sz ft bU hf Q5
  split at h
  ·have hh:=aH h; clear h; obtain ⟨hb,h⟩:=hh
   simp only [Bool.and_eq_true] at hb
   exact Iy hT hg ho bU hf Q5 hb.1 (Nat.eq_of_beq_eq_true hb.2) h bp
  ·exact h.elim
 ·exact h.elim
theorem GH (hT:ec P T) {t:Nat} {x i:Operand} {v iv:AV} (hg:bJ ρ ops o.guard=some gd) (ho:o.op=.indexAddr t x i)
  (h:bif (nth T t).ok && (nth T t).isSl && (nth T (nth T t).elem).ok then
    match v,iv with
    | .dv (.sl sz l),.dv (.int _ m)=>bif Nat.beq sz (nth T (nth T t).elem).size then ∃x,(gd=true→0≤m∧l[m.toNat]?=some x)∧aR n o gd nx k (.dv (.at x 0)) [] else False
    | .own j ver ep p,.dv (.int _ m)=>match κ j with
     | .tree aY bE d=>bif Nat.beq ver aY && (emp p || Nat.beq ep bE) then g9 gd d p fun nd=>match nd with
      | .ax sz l=>bif Nat.beq sz (nth T (nth T t).elem).size then (gd=true→0≤m∧m<l.length)∧aR n o gd nx k (.loc j ver ep p sz m.toNat 0) [j] else False
      | _=>False
      else False
     | _=>False
    | .sle j len,.dv (.int _ m)=>(gd=true→0≤m∧m<len)∧aR n o gd nx k (.ptr j (m.toNat * (nth T (nth T t).elem).size)) []
    | .pre j ver ep p sz lo len,.dv (.int _ m)=>bif Nat.beq sz (nth T (nth T t).elem).size then (gd=true→0≤m∧m<len)∧aR n o gd nx k (.loc j ver ep p sz (lo+m.toNat) 0) [] else False
    | _,_=>False
   else False) (bp:bk ρ κ gd x v) (mI:bk ρ κ gd i iv):Good P C ops n o nx ρ κ k:=by
 have hh:=aH h; clear h; obtain ⟨hb,h⟩:=hh
 simp only [Bool.and_eq_true] at hb
 split at h
 ·have hh:=aH h; clear h; obtain ⟨cw,x,hy,h⟩:=hh
  exact A6 hT hg ho hb.1.1 hb.1.2 hb.2 (Nat.eq_of_beq_eq_true cw) hy h bp mI
 ·split at h
  ·rename_i hk
   have hh:=aH h; clear h; obtain ⟨cw,h⟩:=hh
   obtain ⟨rfl,dj⟩:=dh cw
   obtain ⟨nd,h,c6⟩:=bA h
   split at h
   ·have hh:=aH h; clear h; obtain ⟨wO,hy,h⟩:=hh
    exact y1 hT hg ho hb.1.1 hb.1.2 hb.2 (Nat.eq_of_beq_eq_true wO) hk dj c6 hy h bp mI
   ·exact h.elim
  ·exact h.elim
 ·exact y2 hT hg ho hb.1.1 hb.1.2 hb.2 h.1 h.2 bp mI
 ·have hh:=aH h; clear h; obtain ⟨cw,hy,h⟩:=hh
  exact y3 hT hg ho hb.1.1 hb.1.2 hb.2 (Nat.eq_of_beq_eq_true cw) hy h bp mI
 ·exact h.elim
theorem Ds (hT:ec P T) {t:Nat} {x i:Operand} {v iv:AV} (hg:bJ ρ ops o.guard=some gd) (ho:o.op=.indexAddr t x i)
  (h:y4 (nth T t) (nth T (nth T t).elem) gd v iv fun v=>aR n o gd nx k v []) (bp:bk ρ κ gd x v) (mI:bk ρ κ gd i iv):Good P C ops n o nx ρ κ k:=by
 have hh:=aH h; clear h; obtain ⟨hb,h⟩:=hh
 simp only [Bool.and_eq_true] at hb
 have A7:=Nat.eq_of_beq_eq_true hb.1.2
 split at h
 ·rename_i kd m
  obtain ⟨hm,h⟩:=h
  split at h
  ·rename_i y off
   refine lk hT hg ho hb.1.1 A7 hb.2 hm h bp mI fun G v hv=>?_
   cases hv with | dv hv=>cases hv with | «at» _ _ A cell j7 hc hr =>
   exact ⟨_,rfl,.dv (by rw [cy]; exact .at y _ A cell j7 hc hr)⟩
  ·rename_i j off
   refine lk hT hg ho hb.1.1 A7 hb.2 hm h bp mI fun G v hv=>?_
   cases hv with | ptr _ _ b hb =>
   exact ⟨_,rfl,by rw [show (⟨b,off,none⟩:Addr).add (m.toNat * (nth T (nth T t).elem).size)=⟨b,off+m.toNat * (nth T (nth T t).elem).size,none⟩ by unfold Addr.add; split <;> simp [*]]; exact .ptr j _ b hb⟩
  ·rename_i j ver ep p sz idx off
   refine lk hT hg ho hb.1.1 A7 hb.2 hm h bp mI fun G v hv=>?_
   cases hv with
   | loc _ _ _ _ _ _ _ A n c e=>exact ⟨_,rfl,by rw [cy,Nat.add_assoc]; exact .loc j ver ep p sz idx _ A n c e⟩
   | mn _ _ _ _ _ _ _ A e=>exact ⟨_,rfl,by rw [cy,Nat.add_assoc]; exact .mn j ver ep p sz idx _ A e⟩
  ·exact h.elim
 ·exact h.elim
theorem Iz (hT:ec P T) {t:Nat} {x:Operand} {v:AV} (hg:bJ ρ ops o.guard=some gd) (ho:o.op=.load t x) (bU:(nth T t).ok=true)
  (h:match v with
   | .ptr i off=>match κ i with
    | .cells l=>bX (nth T t).agg l off (nth T t).size fun v=>aR n o gd nx k v [i]
    | _=>False
   | .dv (.at x off)=>bX (nth T t).agg (jP x.cells) off (nth T t).size fun v=>aR n o gd nx k v []
   | .loc i ver ep p sz idx off=>match κ i with
    | .tree aY bE d=>bif Nat.beq ver aY && (emp p || Nat.beq ep bE) then g9 gd d p fun nd=>jc i ver bE p gd sz idx nd fun l =>
      bX (nth T t).agg l off (nth T t).size fun v=>aR n o gd nx k v [i]
     else False
    | _=>False
   | _=>False) (bp:bk ρ κ gd x v):Good P C ops n o nx ρ κ k:=by
 split at h
 ·split at h
  ·rename_i hk
   exact A8 hT hg ho bU hk h bp
  ·exact h.elim
 ·exact Dt hT hg ho bU h bp
 ·split at h
  ·rename_i hk
   have hh:=aH h; clear h; obtain ⟨cw,h⟩:=hh
   obtain ⟨rfl,dj⟩:=dh cw
   exact A9 hT hg ho bU hk dj h bp
  ·exact h.elim
 ·exact h.elim
theorem GI (hT:ec P T) {t:Nat} {x y:Operand} {p v:AV} (hn:∀i,nx≤i→κ i=.none) (hg:bJ ρ ops o.guard=some gd) (ho:o.op=.store t x y) (bU:(nth T t).ok=true)
  (h:bif Nat.beq (cellsOf v).length (nth T t).size && bN (cellsOf v) then
    match p with
    | .ptr i off=>match κ i with
     | .cells l=>bif Nat.ble (off+(nth T t).size) l.length then dy n o nx k .any [(i,.cells (fY l off (cellsOf v)))] [i] else False
     | _=>False
    | .loc i ver ep p sz idx off=>nO n o nx κ k i ver ep p sz idx off (cellsOf v)
    | _=>False
   else False) (bp:bk ρ κ gd x p) (Fp:bk ρ κ gd y v):Good P C ops n o nx ρ κ k:=by
 have hh:=aH h; clear h; obtain ⟨hb,h⟩:=hh
 simp only [Bool.and_eq_true] at hb
 have j9:=Nat.eq_of_beq_eq_true hb.1
 split at h
 ·rename_i i off
  split at h
  ·rename_i l hk
   have hh:=aH h; clear h; obtain ⟨cw,h⟩:=hh
   have aJ:i<nx:=by
    rcases Nat.lt_or_ge i nx with h | h
    ·exact h
    ·rw [hn i h] at hk; cases hk
   exact y5 hT hg ho bU hk j9 hb.2 (Nat.le_of_ble_eq_true cw) h aJ bp Fp
  ·exact h.elim
 ·exact y6 hT hg ho hn bU j9 hb.2 h bp Fp
 ·exact h.elim
structure Fq (P:Program) (C:dx→Prop) (ops:List Oper) (n:Nat) (o:Oper) (nx:Nat) (ρ:Nat→AV) (κ:Nat→ao) (k:jl→Nat→Prop):Prop where
 call:∀{gd:Bool} {f:Nat} {l:List AV},bJ ρ ops o.guard=some gd→q9 P ops o ρ κ gd f l→kf none (dJ P f) n o gd nx κ k l→Good P C ops n o nx ρ κ k
 fq:∀{gd:Bool} {c:Call} {t i:Nat} {l:List AV},bJ ρ ops o.guard=some gd→o.op=.call c→c.callee=.value (.tmp t)→bk ρ κ gd (.tmp t) (.fq i)→jV ρ κ gd c.args.toList l →
  kf (some i) (rj P) n o gd nx κ k l→Good P C ops n o nx ρ κ k
theorem rn (hT:ec P T) (hn:∀i,nx≤i→κ i=.none) (hR:Fq P C ops n o nx ρ κ k) (h:nP P T ops n o nx ρ κ k):Good P C ops n o nx ρ κ k:=by
 have jW:∀{gd:Bool} {f:Nat} {l:List AV},bJ ρ ops o.guard=some gd→q9 P ops o ρ κ gd f l→(uA P n o nx κ gd k f l ∨ kf none (dJ P f) n o gd nx κ k l)→Good P C ops n o nx ρ κ k:=by
  intro gd f l hg bp h
  rcases h with h | h
  ·exact Iv hn hg bp h
  ·exact hR.call hg bp h
 unfold nP at h
 split at h
 ·exact h.elim
 ·rename_i gd hg
  split at h
  ·rename_i x ho
   exact LM hg ho h
  ·rename_i x ho
   obtain ⟨v,h,bp⟩:=aE h
   exact GJ hg ho h bp
  ·rename_i x ho
   obtain ⟨v,h,bp⟩:=aE h
   split at h
   ·exact mJ hg ho h bp (fun G v hv=>by cases hv; exact ⟨_,rfl⟩)
   ·exact mJ hg ho h bp (fun G v hv=>by cases hv <;> exact ⟨_,rfl⟩)
   ·exact mJ hg ho h bp (fun G v hv=>by cases hv with | dv hv=>cases hv; exact ⟨_,rfl⟩)
   ·split at h
    ·rename_i hk
     have hh:=aH h; clear h; obtain ⟨hb,h⟩:=hh
     obtain ⟨rfl,dj⟩:=dh hb
     obtain ⟨nd,h,c6⟩:=bA h
     split at h
     ·exact tu hg ho hk dj c6 h bp
     ·exact h.elim
    ·exact h.elim
   ·exact h.elim
  ·rename_i c x y ho
   exact Ix hg ho h
  ·rename_i op t x y ty ho
   obtain ⟨va,h,OF⟩:=aE h
   obtain ⟨vb,h,OG⟩:=aE h
   cases hb:vb.iA with
   | false =>
    rw [hb] at h
    cases ha:va.ag with
    | false=>rw [ha] at h; exact IA hT hg ho OF OG h
    | true=>rw [ha] at h; exact OH hT hg ho OF OG h
   | true =>
    rw [hb] at h
    have hb:vb=.dv .aG:=by
     cases vb with
     | dv d=>cases d <;> simp [AV.iA] at hb; rfl
     | _=>simp [AV.iA] at hb
    subst hb
    exact Du hT hg ho OF OG h
  ·rename_i op t x ho
   obtain ⟨v,h,bp⟩:=aE h
   split at h
   ·exact OI hg ho h bp
   ·exact OJ hg ho h bp
   ·exact h.elim
  ·rename_i x i ho
   obtain ⟨v,h,bp⟩:=aE h
   split at h
   ·split at h
    ·rename_i hl
     rw [force_eq] at h
     exact Dv hg ho h hl bp
    ·exact h.elim
   ·exact h.elim
  ·rename_i t x f ho
   obtain ⟨v,h,bp⟩:=aE h
   exact GG hT hg ho h bp
  ·rename_i t x f ho
   obtain ⟨v,h,bp⟩:=aE h
   exact w3 hT hg ho h bp
  ·rename_i t x i ho
   obtain ⟨v,h,bp⟩:=aE h
   obtain ⟨iv,h,mI⟩:=aE h
   cases hb:(nth T t).ok && (nth T t).isSl && (nth T (nth T t).elem).ok with
   | true=>rw [hb] at h; exact GH hT hg ho (by rw [hb]; exact h) bp.dn mI
   | false=>rw [hb] at h; exact Ds hT hg ho h bp mI
  ·rename_i t x ho
   have hh:=aH h; clear h; obtain ⟨bU,h⟩:=hh
   obtain ⟨v,h,bp⟩:=aE h
   exact Iz hT hg ho bU h bp
  ·rename_i t x y ho
   have hh:=aH h; clear h; obtain ⟨bU,h⟩:=hh
   obtain ⟨p,h,bp⟩:=aE h
   obtain ⟨v,h,Fp⟩:=aE h
   exact GI hT hn hg ho bU h bp Fp
  ·rename_i fn first bo ho
   obtain ⟨l,h,h1⟩:=jd h
   obtain ⟨r,h,h2⟩:=jd h
   split at h
   ·exact sJ hg ho h1 h2 (.inl ⟨rfl,rfl⟩) h
   ·exact sJ hg ho h1 h2 (.inr ⟨rfl,rfl⟩) h
   ·exact h.elim
  ·rename_i t ho
   have hh:=aH h; clear h; obtain ⟨bU,s,h⟩:=hh
   exact Dw hg ho (hn nx (Nat.le_refl _)) h
  ·rename_i t x ho
   have hh:=aH h; clear h; obtain ⟨bU,h⟩:=hh
   simp only [Bool.and_eq_true] at bU
   obtain ⟨v,h,bp⟩:=aE h
   split at h
   ·obtain ⟨s,h⟩:=h
    exact Ba hT hg ho bU.1 (Nat.eq_of_beq_eq_true bU.2) (hn nx (Nat.le_refl _)) h bp
   ·exact h.elim
  ·rename_i t x i c ho
   have hh:=aH h; clear h; obtain ⟨hb,h⟩:=hh
   simp only [Bool.and_eq_true] at hb
   obtain ⟨v,h,bp⟩:=aE h
   obtain ⟨kv,h,mI⟩:=aE h
   exact GK hT hg ho hb.1.1 (Nat.eq_of_beq_eq_true hb.1.2) hb.2 bp mI h
  ·rename_i t x i y ho
   have hh:=aH h; clear h; obtain ⟨hb,h⟩:=hh
   simp only [Bool.and_eq_true] at hb
   obtain ⟨v,h,bp⟩:=aE h
   obtain ⟨kv,h,mI⟩:=aE h
   obtain ⟨u,h,Fp⟩:=aE h
   exact y7 hT hg ho hn hb.1 (Nat.eq_of_beq_eq_true hb.2) bp mI Fp h
  ·rename_i t ho
   have hh:=aH h; clear h; obtain ⟨bU,h⟩:=hh
   exact IB hT hg ho bU (hn nx (Nat.le_refl _)) h
  ·rename_i t x ho
   obtain ⟨v,h,bp⟩:=aE h
   have hh:=aH h; clear h; obtain ⟨hc,h⟩:=hh
   exact OK hg ho (hn nx (Nat.le_refl _)) hc h bp
  ·rename_i t parts ho
   have hh:=aH h; clear h; obtain ⟨hb,h⟩:=hh
   simp only [Bool.and_eq_true] at hb
   obtain ⟨l,h,hp⟩:=kg h
   split at h
   ·rename_i cs hf
    exact IC hT hg ho hb.1 hp hf hb.2 h
   ·exact h.elim
  ·rename_i t len parts ho
   have hh:=aH h; clear h; obtain ⟨hb,h⟩:=hh
   simp only [Bool.and_eq_true,Nat.blt_eq] at hb
   obtain ⟨⟨⟨⟨h1,h2⟩,h3⟩,h4⟩,h5⟩:=hb
   obtain ⟨l,h,hp⟩:=kg h
   split at h
   ·rename_i cs hf
    have hh:=aH h; clear h; obtain ⟨hc,h⟩:=hh
    exact w4 hT hg ho hn h1 h2 h3 h4 h5 hp hf hc h
   ·exact h.elim
  ·rename_i t l c ho
   have hh:=aH h; clear h; obtain ⟨hb,h⟩:=hh
   simp only [Bool.and_eq_true,Nat.blt_eq] at hb
   obtain ⟨⟨⟨b1,b2⟩,b3⟩,b4⟩:=hb
   obtain ⟨lv,h,h1⟩:=aE h
   obtain ⟨cv,h,h2⟩:=aE h
   split at h
   ·obtain ⟨z,e1,e2,e3,e4,e5,fl,LI,h⟩:=h
    exact y8 hT hg ho b1 b2 b3 b4 (hn nx (Nat.le_refl _)) e1 e2 e3 e4 e5 LI h h1 h2
   ·exact h.elim
  ·rename_i t x l hh ho
   have hq:=aH h; clear h; obtain ⟨hb,h⟩:=hq
   simp only [Bool.and_eq_true] at hb
   obtain ⟨v,h,bp⟩:=aE h
   obtain ⟨lo,h,hl⟩:=xD h
   obtain ⟨hi,h,yW⟩:=xD h
   exact Is hT hg ho hn hb.1 hb.2 bp.dn hl yW h
  ·rename_i c ho
   split at h
   ·rename_i hc
    split at h
    ·rename_i x t ha jb
     obtain ⟨v,h,bp⟩:=aE h
     exact LL hT hg ho hc ha jb bp.dn h
    ·exact h.elim
   ·rename_i hc
    split at h
    ·rename_i x i t t' ha jb
     have hh:=aH h; clear h; obtain ⟨hb,h⟩:=hh
     simp only [Bool.and_eq_true] at hb
     obtain ⟨v,h,bp⟩:=aE h
     obtain ⟨kv,h,mI⟩:=aE h
     exact y9 hT hg ho hc ha jb hn hb.1 (Nat.eq_of_beq_eq_true hb.2) bp mI h
    ·exact h.elim
   ·rename_i hc
    split at h
    ·rename_i s x t t' ha jb
     have hh:=aH h; clear h; obtain ⟨hb,h⟩:=hh
     have:=Nat.eq_of_beq_eq_true hb
     subst this
     obtain ⟨sv,h,h1⟩:=aE h
     obtain ⟨xv,h,h2⟩:=aE h
     rcases h with h | h
     ·exact Dx hT hg ho hc ha jb hn h h1 h2.dn
     ·exact GL hT hg ho hc ha jb hn h h1.dn h2.dn
    ·exact h.elim
   ·rename_i hc
    split at h
    ·rename_i x y ha
     obtain ⟨a,h,h1⟩:=aE h
     obtain ⟨b,h,h2⟩:=aE h
     split at h
     ·exact OL hg ho hc ha h h1 h2
     ·exact h.elim
    ·exact h.elim
   ·rename_i hc
    split at h
    ·rename_i x y ha
     obtain ⟨a,h,h1⟩:=aE h
     obtain ⟨b,h,h2⟩:=aE h
     split at h
     ·exact OM hg ho hc ha h h1 h2
     ·exact h.elim
    ·exact h.elim
   ·rename_i f hc
    obtain ⟨l,h,h1⟩:=jd h
    exact jW hg (sF ho hc h1) h
   ·rename_i t hc
    obtain ⟨v,h,bp⟩:=aE h
    obtain ⟨l,h,h1⟩:=jd h
    split at h
    ·exact jW hg (oO ho hc bp h1 (.inl ⟨_,rfl,rfl⟩)) h
    ·exact jW hg (oO ho hc bp h1 (.inr (.inl ⟨_,rfl,rfl⟩))) h
    ·exact jW hg (oO ho hc bp h1 (.inr (.inr ⟨_,rfl,rfl⟩))) h
    ·rcases h with h | ⟨hf,u,h⟩
     ·exact hR.fq hg ho hc bp h1 h
     ·exact bf (fun c=>by rw [ho]; simp) hg h fun _ _ _ _ _ _ _ _ aL=>by rw [hf] at aL; cases aL
    ·exact h.elim
   ·exact h.elim
  ·rename_i t x ho
   have hh:=aH h; clear h; obtain ⟨hb,h⟩:=hh
   simp only [Bool.and_eq_true] at hb
   obtain ⟨v,h,bp⟩:=aE h
   split at h
   ·rename_i j ver ep p
    split at h
    ·rename_i d hj
     have hh:=aH h; clear h; obtain ⟨cw,h⟩:=hh
     simp only [Bool.and_eq_true,Bool.or_eq_true] at cw
     obtain ⟨nd,h,c6⟩:=bA h
     split at h
     ·exact ID hT hg ho hb.1 (Nat.eq_of_beq_eq_true hb.2) (hn nx (Nat.le_refl _)) hj (by have:=cw.2; rw [Nat.blt_eq] at this; exact this) (Nat.eq_of_beq_eq_true cw.1.1)
       (cw.1.2.imp (fun e=>by cases p with | nil=>rfl | cons=>simp [emp] at e) Nat.eq_of_beq_eq_true) (c6 rfl) h bp
     ·exact h.elim
    ·exact h.elim
   ·exact h.elim
  ·rename_i x ho
   obtain ⟨v,h,bp⟩:=aE h
   split at h
   ·rename_i i
    split at h
    ·rename_i hi
     exact IE hg ho hi h.1 h.2 bp
    ·exact h.elim
   ·exact h.elim
  ·rename_i s t x ho
   have hh:=aH h; clear h; obtain ⟨hb,h⟩:=hh
   simp only [Bool.and_eq_true] at hb
   obtain ⟨v,h,bp⟩:=aE h
   split at h
   ·rename_i hi
    exact Dy hT hg ho hb.1 hb.2 hi h bp
   ·exact Ip hT hg ho hb.1 hb.2 h (bk.dn bp)
  ·rename_i t x i ho
   have hh:=aH h; clear h; obtain ⟨hb,h⟩:=hh
   simp only [Bool.and_eq_true] at hb
   obtain ⟨v,h,bp⟩:=aE h
   obtain ⟨iv,h,mI⟩:=aE h
   split at h
   ·obtain ⟨b,GD,h⟩:=h
    exact IF hT hg ho hb.1 hb.2 GD h bp mI
   ·exact h.elim
  ·exact h.elim
end
end Go.TM
namespace Go.TM
open Go.RowKit
variable [ct]
def Dz:Op→Bool
 | .buildSlice _ _ _=>true
 | .call c=>match c.callee with
  | .builtin .append=>true
  | _=>false
 | _=>false
def pR (o:Oper):Oper:={ o with guard:=none }
def DA (P:Program) (T:List TI) (ops:List Oper) (n:Nat) (o:Oper) (nx:Nat) (ρ:Nat→AV) (κ:Nat→ao) (k:jl→Nat→Prop):Prop :=
 match o.guard with
 | none=>nP P T ops n o nx ρ κ k
 | some _=>bif Dz o.op then nP P T ops n o nx ρ κ k ∨ (match bJ ρ ops o.guard with
   | some g=>(g=false∧aR n o g nx k .any []) ∨ (g=true∧nP P T ops n (pR o) nx ρ κ k)
   | none=>False)
  else nP P T ops n o nx ρ κ k
def ON (P:Program) (T:List TI) (ops:List Oper) (n:Nat):List Oper→Nat→Env→ah→(Nat→Env→ah→Prop)→Prop
 | [],nx,env,K,k=>k nx env K
 | o::rest,nx,env,K,k=>DA P T ops n o nx (look env) (aa K) fun bc dE=>uD bc.dst env fun jn=>uE bc.box K fun K'=>ON P T ops n rest dE jn K' k
structure Rec where
 rows:List Nat
 bc:jl
def Fs:Op→Bool
 | .call c=>match c.callee with
  | .value (.tmp _)=>true
  | _=>false
 | _=>false
def dO:List (Nat × ao)→List Nat
 | []=>[]
 | p::r=>p.1::dO r
def Ft (κ:Nat→ao) (rd:List Nat):List (Nat × ao)→(List (Nat × ao)→Prop)→Prop
 | [],k=>k []
 | (i,b)::r,k=>((fR i rd && !fR i (dO r))=true∧κ i=b∧Ft κ rd r k) ∨ Ft κ rd r fun r=>k ((i,b)::r)
def IG (ops:List Oper) (o:Oper) (κ:Nat→ao) (bc:jl) (k:jl→Prop):Prop :=
 bif Fs o.op && Nat.ble 16 ops.length then k bc ∨ Ft κ bc.reads bc.box fun bx=>k { bc with box:=bx } else k bc
def Fu (P:Program) (T:List TI) (ops:List Oper) (n:Nat):List Oper→Nat→Env→ah→List Rec→(Nat→Env→ah→List Rec→Prop)→Prop
 | [],nx,env,K,acc,k=>k nx env K acc
 | o::rest,nx,env,K,acc,k=>DA P T ops n o nx (look env) (aa K) fun bc dE=>IG ops o (aa K) bc fun bc=>uD bc.dst env fun jn=>uE bc.box K fun K'=>Fu P T ops n rest dE jn K' (acc++[⟨fj (look env) (aa K) o,bc⟩]) k
def iQ:List Nat→List Nat→Bool
 | [],_=>true
 | x::r,l=>!fR x l && iQ r l
def hP:List (Nat × AV)→List Nat
 | []=>[]
 | p::r=>p.1::hP r
def c8 (ops:List Oper) (x y:Rec) (oy:Oper):Bool :=
 iQ (hP x.bc.dst) (oy.looksAt ops.toArray) && iQ (hP x.bc.dst) (hP y.bc.dst) &&
 iQ (dO x.bc.box) y.rows && iQ (dO x.bc.box) y.bc.reads && iQ (dO x.bc.box) (dO y.bc.box)
def pS (o:Oper):List Nat:=o.after.toList.filterMap fun e=>bif Region.binds .any e then some e.on else none
def mK (ops:List Oper):Nat→Nat→Nat→Bool
 | 0,_,_=>false
 | f+1,i,j=>match ops[j]? with
  | some o=>(pS o).any fun d=>Nat.beq d i || mK ops f i d
  | none=>false
def uF:Nat→List Oper→Bool
 | _,[]=>true
 | i,o::r=>(pS o).all (fun d=>Nat.blt d i) && uF (i+1) r
def pT (ops:List Oper) (rs:List Rec) (j:Nat) (y:Rec) (oy:Oper):Nat→List Rec→List Oper→Bool
 | i,x::xr,ox::or=>(bif Nat.blt i j then mK ops ops.length i j || (c8 ops x y oy && c8 ops y x ox) else true) && pT ops rs j y oy (i+1) xr or
 | _,_,_=>true
def nQ (ops:List Oper) (rs:List Rec):Nat→List Rec→List Oper→Bool
 | j,y::yr,oy::or=>pT ops rs j y oy 0 rs ops && nQ ops rs (j+1) yr or
 | _,_,_=>true
def rp (ops:List Oper) (rs:List Rec):Bool:=uF 0 ops && nQ ops rs 0 rs ops
def xJ (g:dx) (n nx:Nat) (env:Env) (K:ah) (a:Act) (w:World):Prop:=St g n (look env) (aa K) a w∧g.m≤nx∧∀i,nx≤i→aa K i=.none
theorem pU {F:Fence} {m:Nat} {P:Program} {o:Oper} {a:Act} {w:World} {K K':Act→World→Prop} {Q:Exit→Act→World→Prop} (h:∀a w,K a w→K' a w) (hh:o.wpIn F m P a w K (fun _ _ _=>False)):o.wpIn F m P a w K' Q:=by
 unfold Oper.wpIn at *
 refine ⟨hh.1,?_⟩
 have hh:=hh.2
 generalize (o.semAt F.round a.eval).run P w=r at *
 cases r with
 | ok x w' =>
  cases x <;> simp only [Oper.uponIn] at hh ⊢ <;>
   first
    | exact h _ _ hh
    | exact ⟨hh.1,CallsIn.mono hh.2 (fun e WN he=>by cases e <;> first | exact h _ _ he | exact he.elim | (obtain ⟨_,_,hf⟩:=he; exact hf.elim))⟩
    | exact ⟨hh.1,RowsIn.mono hh.2 (fun _ _ he=>h _ _ he)⟩
    | exact ⟨hh.1,RoundIn.mono hh.2 (fun e WN he=>by cases e <;> first | exact h _ _ he | exact he.elim | (obtain ⟨_,_,hf⟩:=he; exact hf.elim))⟩
    | exact hh.elim
 | halt x w'=>cases x <;> simp only [Oper.uponIn] at hh ⊢ <;> exact hh.elim
def cU (P:Program) (C:dx→Prop):Prop:=∀(ops:List Oper) (n:Nat) (o:Oper) (nx:Nat) (ρ:Nat→AV) (κ:Nat→ao) (k:jl→Nat→Prop),(∀i,nx≤i→κ i=.none)→Fq P C ops n o nx ρ κ k
section
variable {P:Program} {C:dx→Prop} {T:List TI} {ops:List Oper} {n:Nat} {g:dx}
theorem za {o:Oper} {nx:Nat} {ρ:Nat→AV} {κ:Nat→ao} {k:jl→Nat→Prop} (hg:bJ ρ ops o.guard=some true) (h:Good P C ops n (pR o) nx ρ κ k):Good P C ops n o nx ρ κ k:=by
 obtain ⟨bc,dE,h1,h2,h3,h4⟩:=h
 refine ⟨bc,dE,h1,h2,h3,fun F hF ρ' κ' au g a w dg aj=>?_⟩
 have hs:∀t,t∈(pR o).looksAt ops.toArray→ρ' t=ρ t:=fun t ht=>au.bs t (by
  unfold Oper.looksAt pR at ht
  simp only [List.append_nil] at ht
  unfold Oper.looksAt
  exact List.mem_append_left _ ht)
 have hr:=h4 F hF ρ' κ' ⟨hs,au.rows,au.reads,au.boxes⟩ g a w dg aj
 obtain ⟨G,fP⟩:=aj
 unfold ke at hr ⊢
 rw [if_pos (cd hg au.bs fP)]
 have hw:Region.wanted (pR o) (yielded ops.toArray a.tmps)=true:=rfl
 rw [if_pos hw] at hr
 exact hr
theorem oS (hT:ec P T) {o:Oper} {nx:Nat} {ρ:Nat→AV} {κ:Nat→ao} {k:jl→Nat→Prop} (hn:∀i,nx≤i→κ i=.none) (hR:cU P C) (h:DA P T ops n o nx ρ κ k):Good P C ops n o nx ρ κ k:=by
 have w5:nP P T ops n o nx ρ κ k→Good P C ops n o nx ρ κ k:=rn hT hn (hR _ _ _ _ _ _ _ hn)
 unfold DA at h
 split at h
 ·exact w5 h
 ·cases hh:Dz o.op with
  | false=>rw [hh] at h; exact w5 h
  | true =>
   rw [hh] at h
   rcases h with h | h
   ·exact w5 h
   ·split at h
    ·rename_i g hg
     rcases h with ⟨hf,h⟩ | ⟨hf,h⟩
     ·subst hf
      refine bf (fun c hc=>?_) hg h fun _ _ _ _ _ _ _ _ aL=>by cases aL
      rw [hc] at hh; simp [Dz] at hh
     ·subst hf
      exact za hg (rn hT hn (hR _ _ _ _ _ _ _ hn) h)
    ·exact h.elim
theorem jo {nx dE:Nat} {K:ah} {bx:List (Nat × ao)} (hn:∀i,nx≤i→aa K i=.none) (hle:nx≤dE) (hb:∀p,p∈bx→p.1<dE):∀i,dE≤i→aa (tw bx K) i=.none:=by
 intro i hi
 rw [eN]
 have key:∀(l:List (Nat × ao)),(∀p,p∈l→p.1<dE)→aw (aa K) l i=.none:=by
  intro l
  induction l with
  | nil=>intro _; exact hn i (by omega)
  | cons p r ih =>
   intro hl
   obtain ⟨j,b⟩:=p
   have:=hl (j,b) (by simp)
   simp only [aw]
   rw [ae _ _ (by simp at this; omega)]
   exact ih fun p hp=>hl p (by simp [hp])
 exact key bx hb
theorem nR {o:Oper} {rest:List Oper} {a:Act} {w:World} {K:Act→World→Prop} {Q:Exit→Act→World→Prop} {F:Fence} (hF:fQ F) (h:ke P F ops.toArray o a w K) (hk:∀a w,K a w→wpListIn F 0 P ops.toArray Q rest a w):wpListIn F 0 P ops.toArray Q (o::rest) a w:=by
 unfold ke at h
 simp only [wpListIn]
 split at h
 ·rename_i hw; rw [if_pos hw]; exact pU hk h
 ·rename_i hw; rw [if_neg hw]; exact ⟨fun f _=>hF.fn f,hk _ _ h⟩
theorem uG (hT:ec P T) (hR:cU P C) (zb:C g) {F:Fence} (hF:fQ F) {Q:Exit→Act→World→Prop} {k:Nat→Env→ah→Prop} (hQ:∀nx env K a w,k nx env K→xJ g n nx env K a w→Q .normal a w) :
  ∀(rest:List Oper) (nx:Nat) (env:Env) (K:ah) (a:Act) (w:World),ON P T ops n rest nx env K k→xJ g n nx env K a w→wpListIn F 0 P ops.toArray Q rest a w
 | [],nx,env,K,a,w,h,hs=>hQ nx env K a w h hs
 | o::rest,nx,env,K,a,w,h,⟨hs,dg,hn⟩=>by
  obtain ⟨bc,dE,hk,hle,hb,ru⟩:=oS hT hn hR h
  rw [uH,uI] at hk
  refine nR hF (ru F hF (look env) (aa K) ⟨fun _ _=>rfl,fun _ _=>rfl,fun _ _=>rfl,fun _ _ _=>rfl⟩ g a w ⟨dg,zb⟩ hs) fun a' w' dC=>?_
  refine uG hT hR zb hF hQ rest dE _ _ a' w' hk ⟨?_,Nat.le_trans dg hle,jo hn hle hb⟩
  rw [je,eN]
  exact dC
def acc {γ:Type _} (f:Nat→γ) (wr:Nat→List (Nat × γ)) (E:Nat→Bool):Nat→Nat→γ
 | 0=>f
 | m+1=>if E m then aw (acc f wr E m) (wr m) else acc f wr E m
def keys {γ:Type _} (l:List (Nat × γ)):List Nat:=l.map (·.1)
theorem ca {γ:Type _} (f:Nat→γ):∀{l:List (Nat × γ)} {t:Nat},t ∉ keys l→aw f l t=f t
 | [],t,_=>rfl
 | (i,x)::r,t,h=>by
  simp only [keys,List.map_cons,List.mem_cons,not_or] at h
  simp only [aw]
  rw [ae _ _ h.1]
  exact ca f h.2
theorem tG {γ:Type _} (f f':Nat→γ):∀{l:List (Nat × γ)} {t:Nat},t∈keys l→aw f l t=aw f' l t
 | [],t,h=>by simp [keys] at h
 | (i,x)::r,t,h=>by
  simp only [aw]
  by_cases e:t=i
  ·subst e; simp
  ·rw [ae _ _ e,ae _ _ e]
   simp only [keys,List.map_cons,List.mem_cons,e,false_or] at h
   exact tG f f' h
section
variable {γ:Type _} {f:Nat→γ} {wr:Nat→List (Nat × γ)} {E:Nat→Bool}
theorem nS {t:Nat}:∀{j:Nat},(∀i,i<j→E i=false→t ∉ keys (wr i))→acc f wr E j t=acc f wr (fun _=>true) j t
 | 0,_=>rfl
 | j+1,h=>by
  have ih:=nS (t:=t) (j:=j) fun i hi=>h i (by omega)
  simp only [acc,if_true]
  cases he:E j with
  | true =>
   simp only [if_true]
   by_cases hk:t∈keys (wr j)
   ·exact tG _ _ hk
   ·rw [ca _ hk,ca _ hk,ih]
  | false =>
   simp only [Bool.false_eq_true,if_false]
   rw [ca _ (h j (by omega) he)]
   exact ih
theorem Bb {t j:Nat}:∀{m:Nat},(∀i,j≤i→i<j+m→E i=true→t ∉ keys (wr i))→acc f wr E (j+m) t=acc f wr E j t
 | 0,_=>rfl
 | m+1,h=>by
  have ih:=Bb (t:=t) (j:=j) (m:=m) fun i h1 h2=>h i h1 (by omega)
  show acc f wr E (j+m+1) t=_
  simp only [acc]
  cases he:E (j+m) with
  | true=>simp only [if_true]; rw [ca _ (h _ (by omega) (by omega) he)]; exact ih
  | false=>simp only [Bool.false_eq_true,if_false]; exact ih
theorem pV {t j len:Nat} (hj:j≤len) (h1:∀i,i<j→E i=false→t ∉ keys (wr i)) (h2:∀i,j≤i→i<len→E i=true→t ∉ keys (wr i)):acc f wr E len t=acc f wr (fun _=>true) j t:=by
 obtain ⟨m,rfl⟩:∃m,len=j+m:=⟨len - j,by omega⟩
 rw [Bb h2,nS h1]
def ku (E:Nat→Bool) (j:Nat):Nat→Bool:=fun i=>if i=j then true else E i
theorem pW {j:Nat} (hj:E j=false):∀{len:Nat},j<len→(∀i,j<i→i<len→E i=true→∀t,t∈keys (wr j)→t ∉ keys (wr i))→acc f wr (ku E j) len=aw (acc f wr E len) (wr j)
 | 0,h,_=>by omega
 | len+1,h,hd=>by
  rcases Nat.lt_or_ge j len with aJ | du
  ·have ih:=pW hj aJ fun i h1 h2=>hd i h1 (by omega)
   have bB:len ≠ j:=by omega
   simp only [acc,ku,if_neg bB]
   cases he:E len with
   | false=>simp only [Bool.false_eq_true,if_false]; exact ih
   | true =>
    simp only [if_true]
    show aw (acc f wr (ku E j) len) (wr len)=_
    rw [ih]
    funext t
    by_cases h1:t∈keys (wr j)
    ·have h2:=hd len aJ (by omega) he t h1
     rw [ca _ h2]
     exact tG _ _ h1
    ·rw [ca (aw (acc f wr E len) (wr len)) h1]
     by_cases h2:t∈keys (wr len)
     ·exact tG _ _ h2
     ·rw [ca _ h2,ca _ h2,ca _ h1]
  ·have:j=len:=by omega
   subst this
   have low:∀m,m≤j→acc f wr (ku E j) m=acc f wr E m:=by
    intro m
    induction m with
    | zero=>intro _; rfl
    | succ m ih =>
     intro hm
     simp only [acc,ku,if_neg (show m ≠ j by omega)]
     rw [ih (by omega)]
   simp only [acc,hj,Bool.false_eq_true,if_false]
   simp only [ku,if_true]
   rw [low j (Nat.le_refl _)]
end
theorem Ib.lo {lo Qz:Nat} {o:Oper} {ρ:Nat→AV} {κ:Nat→ao} {bc:jl} (h:Ib P C ops n Qz o ρ κ bc) (hl:lo≤Qz):Ib P C ops n lo o ρ κ bc :=
 fun F hF ρ' κ' au g a w hg hs=>h F hF ρ' κ' au g a w ⟨Nat.le_trans hg.1 hl,hg.2⟩ hs
theorem pX {γ:Type _} (f:Nat→γ) (wr VM:Nat→List (Nat × γ)) (m:Nat):(∀i,i<m→VM i=wr i)→acc f VM (fun _=>true) m=acc f wr (fun _=>true) m:=by
 induction m with
 | zero=>intro _; rfl
 | succ m ih=>intro hh; simp only [acc,if_true]; rw [ih fun i hi=>hh i (by omega),hh m (by omega)]
theorem oT {κ:Nat→ao} {rd:List Nat}:∀{bx:List (Nat × ao)} {k:List (Nat × ao)→Prop},Ft κ rd bx k→∃LN,k LN∧(∀p,p∈LN→p∈bx)∧(∀p,p∈bx→p∈LN ∨ p.1∈rd)∧∀κ':Nat→ao,(∀i,i∈rd→κ' i=κ i)→aw κ' LN=aw κ' bx
 | [],k,h=>⟨[],h,fun _ h=>h,fun _ h=>.inl h,fun _ _=>rfl⟩
 | (i,b)::r,k,h=>by
  rcases h with ⟨h1,h2,h⟩ | h
  ·obtain ⟨LN,hk,ha,hb,hc⟩:=oT h
   simp only [Bool.and_eq_true,Bool.not_eq_true'] at h1
   refine ⟨LN,hk,fun p hp=>List.mem_cons_of_mem _ (ha p hp),fun p hp=>?_,fun κ' hκ=>?_⟩
   ·rcases List.mem_cons.1 hp with rfl | hp
    ·exact .inr (kz h1.1)
    ·exact hb p hp
   ·rw [hc κ' hκ]
    funext j
    by_cases e:j=i
    ·subst e
     have WO:∀(l:List (Nat × ao)),dO l=keys l:=fun l=>by
      induction l with
      | nil=>rfl
      | cons p r ih=>simp [dO,keys,ih]
     rw [ca _ (by rw [←WO]; exact eo h1.2)]
     simp only [aw,aW]
     rw [hκ _ (kz h1.1),h2]
    ·simp only [aw]
     rw [ae _ _ e]
  ·obtain ⟨LN,hk,ha,hb,hc⟩:=oT h
   refine ⟨(i,b)::LN,hk,fun p hp=>?_,fun p hp=>?_,fun κ' hκ=>?_⟩
   ·rcases List.mem_cons.1 hp with rfl | hp
    ·exact List.mem_cons_self
    ·exact List.mem_cons_of_mem _ (ha p hp)
   ·rcases List.mem_cons.1 hp with rfl | hp
    ·exact .inl List.mem_cons_self
    ·rcases hb p hp with h | h
     ·exact .inl (List.mem_cons_of_mem _ h)
     ·exact .inr h
   ·simp only [aw]
    rw [hc κ' hκ]
theorem DB {o:Oper} {nx:Nat} {ρ:Nat→AV} {κ:Nat→ao} {k:jl→Nat→Prop} (h:Good P C ops n o nx ρ κ fun bc dE=>IG ops o κ bc fun bc=>k bc dE):Good P C ops n o nx ρ κ k:=by
 obtain ⟨bc,dE,h1,h2,h3,h4⟩:=h
 unfold IG at h1
 cases hd:Fs o.op && Nat.ble 16 ops.length with
 | false=>rw [hd] at h1; exact ⟨bc,dE,h1,h2,h3,h4⟩
 | true =>
  rw [hd] at h1
  rcases h1 with h1 | h1
  ·exact ⟨bc,dE,h1,h2,h3,h4⟩
  ·obtain ⟨LN,hk,ha,hb,hc⟩:=oT h1
   refine ⟨_,dE,hk,h2,fun p hp=>h3 p (ha p hp),fun F hF ρ' κ' au g a w dg aj=>?_⟩
   have hr:=h4 F hF ρ' κ' ⟨au.bs,au.rows,au.reads,fun i b WQ=>?_⟩ g a w dg aj
   ·simp only
    rw [hc κ' au.reads]
    exact hr
   ·rcases hb _ WQ with h | h
    ·exact au.boxes i b h
    ·exact au.reads i h
theorem sK (hT:ec P T) (hR:cU P C) {k:Nat→Env→ah→List Rec→Prop} {ρ0:Nat→AV} {κ0:Nat→ao} {lo:Nat} :
  ∀(rest done:List Oper) (nx:Nat) (env:Env) (K:ah) (rs:List Rec),ops=done++rest→rs.length=done.length→lo≤nx →
   (∀i,nx≤i→aa K i=.none) →
   look env=acc ρ0 (fun i=>(rs[i]?.map (·.bc.dst)).getD []) (fun _=>true) done.length→aa K=acc κ0 (fun i=>(rs[i]?.map (·.bc.box)).getD []) (fun _=>true) done.length →
   (∀i r o,rs[i]?=some r→ops[i]?=some o→r.rows=fj (acc ρ0 (fun i=>(rs[i]?.map (·.bc.dst)).getD []) (fun _=>true) i) (acc κ0 (fun i=>(rs[i]?.map (·.bc.box)).getD []) (fun _=>true) i) o∧Ib P C ops n lo o (acc ρ0 (fun i=>(rs[i]?.map (·.bc.dst)).getD []) (fun _=>true) i) (acc κ0 (fun i=>(rs[i]?.map (·.bc.box)).getD []) (fun _=>true) i) r.bc) →
   Fu P T ops n rest nx env K rs k →
   ∃dE jn K' oU,k dE jn K' oU∧oU.length=ops.length∧lo≤dE∧(∀i,dE≤i→aa K' i=.none) ∧
    look jn=acc ρ0 (fun i=>(oU[i]?.map (·.bc.dst)).getD []) (fun _=>true) ops.length∧aa K'=acc κ0 (fun i=>(oU[i]?.map (·.bc.box)).getD []) (fun _=>true) ops.length ∧
    ∀i r o,oU[i]?=some r→ops[i]?=some o→r.rows=fj (acc ρ0 (fun i=>(oU[i]?.map (·.bc.dst)).getD []) (fun _=>true) i) (acc κ0 (fun i=>(oU[i]?.map (·.bc.box)).getD []) (fun _=>true) i) o∧Ib P C ops n lo o (acc ρ0 (fun i=>(oU[i]?.map (·.bc.dst)).getD []) (fun _=>true) i) (acc κ0 (fun i=>(oU[i]?.map (·.bc.box)).getD []) (fun _=>true) i) r.bc
 | [],done,nx,env,K,rs,zd,hlen,tF,hn,he,hk,db,h=>by
  have:done.length=ops.length:=by rw [zd]; simp
  exact ⟨nx,env,K,rs,h,by omega,tF,hn,by rw [←this]; exact he,by rw [←this]; exact hk,db⟩
 | o::rest,done,nx,env,K,rs,zd,hlen,tF,hn,he,hk,db,h=>by
  obtain ⟨bc,dE,er,hle,hb,ru⟩:=DB (ops:=ops) (n:=n) (o:=o) (nx:=nx) (ρ:=look env) (κ:=aa K) (k:=fun bc dE=>uD bc.dst env fun jn=>uE bc.box K fun K'=>Fu P T ops n rest dE jn K' (rs++[(⟨fj (look env) (aa K) o,bc⟩:Rec)]) k) (oS hT hn hR h)
  rw [uH,uI] at er
  have bm:∀i,i<rs.length→(rs++[⟨fj (look env) (aa K) o,bc⟩])[i]?=rs[i]?:=fun i hi=>List.getElem?_append_left hi
  have pY:(rs++[(⟨fj (look env) (aa K) o,bc⟩:Rec)])[done.length]?=some ⟨fj (look env) (aa K) o,bc⟩:=by rw [←hlen]; simp
  have eT:∀m,m≤done.length→acc ρ0 (fun i=>((rs++[(⟨fj (look env) (aa K) o,bc⟩:Rec)])[i]?.map (·.bc.dst)).getD []) (fun _=>true) m=acc ρ0 (fun i=>(rs[i]?.map (·.bc.dst)).getD []) (fun _=>true) m :=
   fun m hm=>pX _ _ _ m fun i hi=>by rw [bm i (by omega)]
  have ot:∀m,m≤done.length→acc κ0 (fun i=>((rs++[(⟨fj (look env) (aa K) o,bc⟩:Rec)])[i]?.map (·.bc.box)).getD []) (fun _=>true) m=acc κ0 (fun i=>(rs[i]?.map (·.bc.box)).getD []) (fun _=>true) m :=
   fun m hm=>pX _ _ _ m fun i hi=>by rw [bm i (by omega)]
  refine sK hT hR rest (done++[o]) dE (Bc bc.dst env) (tw bc.box K) (rs++[⟨fj (look env) (aa K) o,bc⟩]) (by rw [zd]; simp) (by simp [hlen]) (Nat.le_trans tF hle) (jo hn hle hb) ?_ ?_ ?_ er
  ·rw [je,List.length_append]
   simp only [List.length_cons,List.length_nil,Nat.zero_add,acc,if_true]
   rw [eT _ (Nat.le_refl _),pY,←he]; rfl
  ·rw [eN,List.length_append]
   simp only [List.length_cons,List.length_nil,Nat.zero_add,acc,if_true]
   rw [ot _ (Nat.le_refl _),pY,←hk]; rfl
  ·intro i r o' hr gX
   rcases Nat.lt_or_ge i rs.length with aJ | du
   ·rw [bm i aJ] at hr
    rw [eT i (by omega),ot i (by omega)]
    exact db i r o' hr gX
   ·have hi:i=done.length:=by
     have:=(List.getElem?_eq_some_iff.1 hr).1
     simp at this; omega
    subst hi
    rw [pY] at hr
    injection hr with hr
    subst hr
    rw [zd] at gX
    simp at gX
    subst gX
    rw [eT _ (Nat.le_refl _),ot _ (Nat.le_refl _),←he,←hk]
    exact ⟨rfl,ru.lo tF⟩
end
end Go.TM
