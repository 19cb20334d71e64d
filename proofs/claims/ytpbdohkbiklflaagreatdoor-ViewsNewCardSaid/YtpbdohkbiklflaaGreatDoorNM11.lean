import Derived.Test.YtpbdohkbiklflaaGreatDoorNM10
import Derived.Orders
set_option linter.unusedVariables false
set_option linter.unusedSimpArgs false
set_option linter.unusedSectionVars false
namespace Go.TM
open Go.RowKit
variable [Glob]
section
variable {P:Program} {C:Org→Prop} {T:List TI} {ops:List Oper} {n:Nat} {o:Oper} {nx:Nat} {ρ:Nat→AV} {κ:Nat→Box} {k:Eff→Nat→Prop} {gd:Bool}
theorem ev_is {x:Operand} {v:AV} (h:ev ρ κ x=v):EvOk ρ κ gd x v:=by
 intro ρ' κ' hag g n a w G hst _
 rw [←h]
 exact ev_ok ρ' κ' hag g n a w G hst
theorem ev_opt {x:Operand} {v:AV} {g':Bool} (h:ev ρ κ x=.opt g' v) (hg:gd=true→g'=true) (hr:res κ v=v):EvOk ρ κ gd x v:=by
 have:=ev_guard h hg
 rwa [hr] at this
theorem aop_pick {c x y:Operand} (hg:gval ρ ops o.guard=some gd) (ho:o.op=.pick c x y)
  (h:match ev ρ κ c,ev ρ κ x,ev ρ κ y with
   | .dv (.bool b),.dv (.bool p),.dv (.bool q)=>retv n o gd nx k (.dv (.bool (bif b then p else q))) []
   | .dv (.bool b),.opt gp (.dv (.bool p)),.dv (.bool q)=>(gd=true→b=true→gp=true)∧retv n o gd nx k (.dv (.bool (bif b then p else q))) []
   | .dv (.bool b),.dv (.bool p),.opt gq (.dv (.bool q))=>(gd=true→b=false→gq=true)∧retv n o gd nx k (.dv (.bool (bif b then p else q))) []
   | .opt gb (.dv (.bool b)),.opt gp (.dv (.bool p)),.dv (.bool q)=>(gd=true→gb=true∧(b=true→gp=true))∧retv n o gd nx k (.dv (.bool (bif b then p else q))) []
   | .opt gb (.dv (.bool b)),.dv (.bool p),.opt gq (.dv (.bool q))=>(gd=true→gb=true∧(b=false→gq=true))∧retv n o gd nx k (.dv (.bool (bif b then p else q))) []
   | _,_,_=>False):Good P C ops n o nx ρ κ k:=by
 split at h
 ·rename_i b p q h1 h2 h3
  exact op_pick hg ho h (ev_is h1) (ev_is h2) (ev_is h3)
 ·rename_i b gp p q h1 h2 h3
  exact op_pick hg ho h.2 (ev_is h1) (ev_opt h2 (by simp only [Bool.and_eq_true]; exact fun hh=>h.1 hh.1 hh.2) rfl) (ev_is h3)
 ·rename_i b p gq q h1 h2 h3
  exact op_pick hg ho h.2 (ev_is h1) (ev_is h2) (ev_opt h3 (by simp only [Bool.and_eq_true,Bool.not_eq_true']; exact fun hh=>h.1 hh.1 hh.2) rfl)
 ·rename_i gb b gp p q h1 h2 h3
  exact op_pick hg ho h.2 (ev_opt h1 (fun hh=>(h.1 hh).1) rfl) (ev_opt h2 (by simp only [Bool.and_eq_true]; exact fun hh=>(h.1 hh.1).2 hh.2) rfl) (ev_is h3)
 ·rename_i gb b p gq q h1 h2 h3
  exact op_pick hg ho h.2 (ev_opt h1 (fun hh=>(h.1 hh).1) rfl) (ev_is h2) (ev_opt h3 (by simp only [Bool.and_eq_true,Bool.not_eq_true']; exact fun hh=>(h.1 hh.1).2 hh.2) rfl)
 ·exact h.elim
theorem aop_len (hT:TOk P T) {c:Call} {x:Operand} {t:Nat} {v:AV} (hg:gval ρ ops o.guard=some gd) (ho:o.op=.call c) (hc:c.callee=.builtin .len) (ha:c.args.toList=[x]) (hat:c.argTypes.toList=[t])
  (hev:EvOk ρ κ gd x v) (h:alen (nth T t) κ gd v fun r rd=>retv n o gd nx k r rd):Good P C ops n o nx ρ κ k:=by
 unfold alen at h
 split at h
 ·have hh:=bif_true h; clear h; obtain ⟨hb,h⟩:=hh
  simp only [Bool.and_eq_true] at hb
  refine op_len hT hg ho hc ha hat h hev hb.1 fun _ κ' _ G w v _ hv=>.inl ⟨hb.2,?_⟩
  cases hv with | dv hv=>cases hv with
  | slnil=>exact ⟨_,_,_,rfl,rfl⟩
  | sl=>exact ⟨_,_,_,rfl,rfl⟩
 ·have hh:=bif_true h; clear h; obtain ⟨hb,h⟩:=hh
  simp only [Bool.and_eq_true] at hb
  refine op_len hT hg ho hc ha hat h hev hb.1 fun _ κ' _ G w v _ hv=>.inl ⟨hb.2,?_⟩
  cases hv with | dv hv=>cases hv with
  | nils=>exact ⟨_,_,_,rfl,rfl⟩
 ·have hh:=bif_true h; clear h; obtain ⟨hb,h⟩:=hh
  simp only [Bool.and_eq_true] at hb
  refine op_len hT hg ho hc ha hat h hev hb.1 fun _ κ' _ G w v _ hv=>.inr (.inl ⟨hb.2,?_⟩)
  cases hv with | dv hv=>cases hv with
  | str=>exact ⟨_,rfl,rfl⟩
 ·rename_i i ver ep p
  split at h
  ·rename_i ver' ep' d hk
   have hh:=bif_true h; clear h; obtain ⟨hb,h⟩:=hh
   obtain ⟨rfl,hcur⟩:=vis_cur hb
   obtain ⟨nd,h,hnd⟩:=getN_sound h
   split at h
   ·rename_i sz l
    have hh:=bif_true h; clear h; obtain ⟨hb,h⟩:=hh
    simp only [Bool.and_eq_true] at hb
    refine op_len hT hg ho hc ha hat h hev hb.1 fun hgd κ' hag G w v hf hv=>.inl ⟨hb.2,?_⟩
    obtain ⟨u,h1,_,hnode⟩:=hf.node ((hag i (by simp)).trans hk) (hnd hgd) rfl
    cases hv with | own _ _ _ _ _ hh hc =>
    rw [hdr_cur hcur,h1] at hh
    injection hh with hh
    subst hh
    rcases hnode with ⟨rfl,rfl⟩ | ⟨gb,ob,cap,cc,tt,rfl,_⟩
    ·exact ⟨_,_,_,rfl,rfl⟩
    ·exact ⟨_,_,_,rfl,rfl⟩
   ·rename_i ks m
    have hh:=bif_true h; clear h; obtain ⟨hb,h⟩:=hh
    simp only [Bool.and_eq_true] at hb
    refine op_len hT hg ho hc ha hat h hev hb.1 fun hgd κ' hag G w v hf hv=>.inr (.inr ⟨hb.2,?_⟩)
    obtain ⟨u,h1,_,hnode⟩:=hf.node ((hag i (by simp)).trans hk) (hnd hgd) rfl
    cases hv with | own _ _ _ _ _ hh hc =>
    rw [hdr_cur hcur,h1] at hh
    injection hh with hh
    subst hh
    obtain ⟨m0,hpm,gb,es,clock,rfl,hw,hsz,_⟩:=hnode
    exact ⟨gb,es,clock,rfl,hw,by rw [hsz,hpm.length_eq]⟩
   ·exact h.elim
  ·exact h.elim
 ·have hh:=bif_true h; clear h; obtain ⟨hb,h⟩:=hh
  simp only [Bool.and_eq_true] at hb
  refine op_len hT hg ho hc ha hat h hev hb.1 fun _ κ' _ G w v _ hv=>.inl ⟨hb.2,?_⟩
  cases hv
  exact ⟨_,_,_,rfl,rfl⟩
 ·have hh:=bif_true h; clear h; obtain ⟨hb,h⟩:=hh
  simp only [Bool.and_eq_true] at hb
  refine op_len hT hg ho hc ha hat h hev hb.1 fun _ κ' _ G w v _ hv=>.inl ⟨hb.2,?_⟩
  cases hv
  exact ⟨_,_,_,rfl,rfl⟩
 ·exact h.elim
theorem op_nilCheck_own {x:Operand} {i ver ep ep':Nat} {p:List PS} {d y:DV} (hg:gval ρ ops o.guard=some gd) (ho:o.op=.nilCheck x) (hk:κ i=.tree ver ep' d) (hcur:p=[] ∨ ep=ep') (hnd:gd=true→get d p=some (.optr y))
  (hr:retv n o gd nx k (.loc i ver ep p 1 0 0) [i]) (hev:EvOk ρ κ gd x (.own i ver ep p)):Good P C ops n o nx ρ κ k:=by
 refine snd_val (fun c=>by rw [ho]; simp) hg hr fun ρ' κ' hag g a w G hst hgd=>?_
 have hv:=hev ρ' κ' (hag.op (by rw [ho]; simp [Op.operands])) g n a w G hst hgd
 generalize hx:a.eval x=v at hv
 obtain ⟨u,h1,_,hnode⟩:=hst.fit.node ((hag.reads i (by simp)).trans hk) (hnd hgd) rfl
 cases hv with | own _ _ _ _ _ hh hc =>
 have hh0:=hh
 rw [hdr_cur hcur,h1] at hh
 injection hh with hh
 subst hh
 obtain ⟨gb,c,t,rfl,hw,_⟩:=hnode
 refine ⟨.pointer (some ⟨gb,0,none⟩),by simp [execOp,ho,hx],?_⟩
 have:=VRel.locp (G:=G) i ver ep p 1 0 0 _ hh0
 rw [add_at] at this
 exact this
theorem aop_fieldAddr (hT:TOk P T) {t f:Nat} {x:Operand} {v:AV} (hg:gval ρ ops o.guard=some gd) (ho:o.op=.fieldAddr t x f)
  (h:match (nth T t).ok,(nth T t).fields[f]? with
   | true,some (off,sz+1)=>match v with
    | .ptr i o'=>retv n o gd nx k (.ptr i (o'+off)) []
    | .dv (.at x o')=>retv n o gd nx k (.dv (.at x (o'+off))) []
    | .loc i ver ep p sz' idx o'=>retv n o gd nx k (.loc i ver ep p sz' idx (o'+off)) []
    | _=>False
   | _,_=>False) (hev:EvOk ρ κ gd x v):Good P C ops n o nx ρ κ k:=by
 split at h
 ·rename_i off sz hok hf
  split at h
  ·refine op_fieldAddr hT hg ho hok hf h hev (fun G v hv=>?_)
   cases hv with
   | ptr _ _ b hb =>
    refine ⟨_,rfl,?_⟩
    rw [add_at]
    exact .ptr _ _ b hb
  ·refine op_fieldAddr hT hg ho hok hf h hev (fun G v hv=>?_)
   cases hv with | dv hv=>cases hv with
   | _ =>
    rename_i A cell hcl hc hr
    refine ⟨_,rfl,?_⟩
    rw [add_of_add]
    exact .dv (.at _ _ A cell hcl hc hr)
  ·refine op_fieldAddr hT hg ho hok hf h hev (fun G v hv=>?_)
   cases hv with
   | loc _ _ _ _ _ _ _ A m c he =>
    refine ⟨_,rfl,?_⟩
    rw [add_of_add,Nat.add_assoc]
    exact .loc _ _ _ _ _ _ _ A m c he
   | locp _ _ _ _ _ _ _ A he =>
    refine ⟨_,rfl,?_⟩
    rw [add_of_add,Nat.add_assoc]
    exact .locp _ _ _ _ _ _ _ A he
  ·exact h.elim
 ·exact h.elim
theorem aop_field (hT:TOk P T) {t f:Nat} {x:Operand} {v:AV} (hg:gval ρ ops o.guard=some gd) (ho:o.op=.field t x f)
  (h:match (nth T t).ok,(nth T t).fields[f]?,(nth T t).ftys[f]? with
   | true,some (off,sz+1),some ft=>match v with
    | .agg l=>bif (nth T ft).ok && Nat.beq (nth T ft).size (sz+1) then pickCells (nth T ft).agg l off (sz+1) fun v=>retv n o gd nx k v [] else False
    | _=>False
   | _,_,_=>False) (hev:EvOk ρ κ gd x v):Good P C ops n o nx ρ κ k:=by
 split at h
 ·rename_i off sz ft hok hf hft
  split at h
  ·have hh:=bif_true h; clear h; obtain ⟨hb,h⟩:=hh
   simp only [Bool.and_eq_true] at hb
   exact op_field hT hg ho hok hf hft hb.1 (Nat.eq_of_beq_eq_true hb.2) h hev
  ·exact h.elim
 ·exact h.elim
theorem aop_index (hT:TOk P T) {t:Nat} {x i:Operand} {v iv:AV} (hg:gval ρ ops o.guard=some gd) (ho:o.op=.indexAddr t x i)
  (h:bif (nth T t).ok && (nth T t).isSl && (nth T (nth T t).elem).ok then
    match v,iv with
    | .dv (.sl sz l),.dv (.int _ m)=>bif Nat.beq sz (nth T (nth T t).elem).size then ∃x,(gd=true→0≤m∧l[m.toNat]?=some x)∧retv n o gd nx k (.dv (.at x 0)) [] else False
    | .own j ver ep p,.dv (.int _ m)=>match κ j with
     | .tree ver' ep' d=>bif Nat.beq ver ver' && (emp p || Nat.beq ep ep') then getN gd d p fun nd=>match nd with
      | .osl sz l=>bif Nat.beq sz (nth T (nth T t).elem).size then (gd=true→0≤m∧m<l.length)∧retv n o gd nx k (.loc j ver ep p sz m.toNat 0) [j] else False
      | _=>False
      else False
     | _=>False
    | .sle j len,.dv (.int _ m)=>(gd=true→0≤m∧m<len)∧retv n o gd nx k (.ptr j (m.toNat * (nth T (nth T t).elem).size)) []
    | .pre j ver ep p sz lo len,.dv (.int _ m)=>bif Nat.beq sz (nth T (nth T t).elem).size then (gd=true→0≤m∧m<len)∧retv n o gd nx k (.loc j ver ep p sz (lo+m.toNat) 0) [] else False
    | _,_=>False
   else False) (hev:EvOk ρ κ gd x v) (hei:EvOk ρ κ gd i iv):Good P C ops n o nx ρ κ k:=by
 have hh:=bif_true h; clear h; obtain ⟨hb,h⟩:=hh
 simp only [Bool.and_eq_true] at hb
 split at h
 ·have hh:=bif_true h; clear h; obtain ⟨hb2,x,hy,h⟩:=hh
  exact op_index_sl hT hg ho hb.1.1 hb.1.2 hb.2 (Nat.eq_of_beq_eq_true hb2) hy h hev hei
 ·split at h
  ·rename_i hk
   have hh:=bif_true h; clear h; obtain ⟨hb2,h⟩:=hh
   obtain ⟨rfl,hcur⟩:=vis_cur hb2
   obtain ⟨nd,h,hnd⟩:=getN_sound h
   split at h
   ·have hh:=bif_true h; clear h; obtain ⟨hb3,hy,h⟩:=hh
    exact op_index_own hT hg ho hb.1.1 hb.1.2 hb.2 (Nat.eq_of_beq_eq_true hb3) hk hcur hnd hy h hev hei
   ·exact h.elim
  ·exact h.elim
 ·exact op_index_sle hT hg ho hb.1.1 hb.1.2 hb.2 h.1 h.2 hev hei
 ·have hh:=bif_true h; clear h; obtain ⟨hb2,hy,h⟩:=hh
  exact op_index_pre hT hg ho hb.1.1 hb.1.2 hb.2 (Nat.eq_of_beq_eq_true hb2) hy h hev hei
 ·exact h.elim
theorem aop_indexA (hT:TOk P T) {t:Nat} {x i:Operand} {v iv:AV} (hg:gval ρ ops o.guard=some gd) (ho:o.op=.indexAddr t x i)
  (h:aindexA (nth T t) (nth T (nth T t).elem) gd v iv fun v=>retv n o gd nx k v []) (hev:EvOk ρ κ gd x v) (hei:EvOk ρ κ gd i iv):Good P C ops n o nx ρ κ k:=by
 have hh:=bif_true h; clear h; obtain ⟨hb,h⟩:=hh
 simp only [Bool.and_eq_true] at hb
 have hkd:=Nat.eq_of_beq_eq_true hb.1.2
 split at h
 ·rename_i kd m
  obtain ⟨hm,h⟩:=h
  split at h
  ·rename_i y off
   refine op_index_arr hT hg ho hb.1.1 hkd hb.2 hm h hev hei fun G v hv=>?_
   cases hv with | dv hv=>cases hv with | «at» _ _ A cell hcl hc hr =>
   exact ⟨_,rfl,.dv (by rw [add_of_add]; exact .at y _ A cell hcl hc hr)⟩
  ·rename_i j off
   refine op_index_arr hT hg ho hb.1.1 hkd hb.2 hm h hev hei fun G v hv=>?_
   cases hv with | ptr _ _ b hb =>
   exact ⟨_,rfl,by rw [show (⟨b,off,none⟩:Addr).add (m.toNat * (nth T (nth T t).elem).size)=⟨b,off+m.toNat * (nth T (nth T t).elem).size,none⟩ by unfold Addr.add; split <;> simp [*]]; exact .ptr j _ b hb⟩
  ·rename_i j ver ep p sz idx off
   refine op_index_arr hT hg ho hb.1.1 hkd hb.2 hm h hev hei fun G v hv=>?_
   cases hv with
   | loc _ _ _ _ _ _ _ A n c e=>exact ⟨_,rfl,by rw [add_of_add,Nat.add_assoc]; exact .loc j ver ep p sz idx _ A n c e⟩
   | locp _ _ _ _ _ _ _ A e=>exact ⟨_,rfl,by rw [add_of_add,Nat.add_assoc]; exact .locp j ver ep p sz idx _ A e⟩
  ·exact h.elim
 ·exact h.elim
theorem aop_load (hT:TOk P T) {t:Nat} {x:Operand} {v:AV} (hg:gval ρ ops o.guard=some gd) (ho:o.op=.load t x) (hok:(nth T t).ok=true)
  (h:match v with
   | .ptr i off=>match κ i with
    | .cells l=>pickCells (nth T t).agg l off (nth T t).size fun v=>retv n o gd nx k v [i]
    | _=>False
   | .dv (.at x off)=>pickCells (nth T t).agg (dvs x.cells) off (nth T t).size fun v=>retv n o gd nx k v []
   | .loc i ver ep p sz idx off=>match κ i with
    | .tree ver' ep' d=>bif Nat.beq ver ver' && (emp p || Nat.beq ep ep') then getN gd d p fun nd=>nodeCells i ver ep' p gd sz idx nd fun l =>
      pickCells (nth T t).agg l off (nth T t).size fun v=>retv n o gd nx k v [i]
     else False
    | _=>False
   | _=>False) (hev:EvOk ρ κ gd x v):Good P C ops n o nx ρ κ k:=by
 split at h
 ·split at h
  ·rename_i hk
   exact op_load_ptr hT hg ho hok hk h hev
  ·exact h.elim
 ·exact op_load_at hT hg ho hok h hev
 ·split at h
  ·rename_i hk
   have hh:=bif_true h; clear h; obtain ⟨hb2,h⟩:=hh
   obtain ⟨rfl,hcur⟩:=vis_cur hb2
   exact op_load_loc hT hg ho hok hk hcur h hev
  ·exact h.elim
 ·exact h.elim
theorem aop_store (hT:TOk P T) {t:Nat} {x y:Operand} {p v:AV} (hn:∀i,nx≤i→κ i=.none) (hg:gval ρ ops o.guard=some gd) (ho:o.op=.store t x y) (hok:(nth T t).ok=true)
  (h:bif Nat.beq (cellsOf v).length (nth T t).size && allCell (cellsOf v) then
    match p with
    | .ptr i off=>match κ i with
     | .cells l=>bif Nat.ble (off+(nth T t).size) l.length then retb n o nx k .any [(i,.cells (splice l off (cellsOf v)))] [i] else False
     | _=>False
    | .loc i ver ep p sz idx off=>astoreT n o nx κ k i ver ep p sz idx off (cellsOf v)
    | _=>False
   else False) (hev:EvOk ρ κ gd x p) (hey:EvOk ρ κ gd y v):Good P C ops n o nx ρ κ k:=by
 have hh:=bif_true h; clear h; obtain ⟨hb,h⟩:=hh
 simp only [Bool.and_eq_true] at hb
 have hb1:=Nat.eq_of_beq_eq_true hb.1
 split at h
 ·rename_i i off
  split at h
  ·rename_i l hk
   have hh:=bif_true h; clear h; obtain ⟨hb2,h⟩:=hh
   have hlt:i<nx:=by
    rcases Nat.lt_or_ge i nx with h | h
    ·exact h
    ·rw [hn i h] at hk; cases hk
   exact op_store_ptr hT hg ho hok hk hb1 hb.2 (Nat.le_of_ble_eq_true hb2) h hlt hev hey
  ·exact h.elim
 ·exact op_store_loc hT hg ho hn hok hb1 hb.2 h hev hey
 ·exact h.elim
structure CallSnd (P:Program) (C:Org→Prop) (ops:List Oper) (n:Nat) (o:Oper) (nx:Nat) (ρ:Nat→AV) (κ:Nat→Box) (k:Eff→Nat→Prop):Prop where
 call:∀{gd:Bool} {f:Nat} {l:List AV},gval ρ ops o.guard=some gd→CallEv P ops o ρ κ gd f l→acallR none (CSpecR P f) n o gd nx κ k l→Good P C ops n o nx ρ κ k
 yld:∀{gd:Bool} {c:Call} {t i:Nat} {l:List AV},gval ρ ops o.guard=some gd→o.op=.call c→c.callee=.value (.tmp t)→EvOk ρ κ gd (.tmp t) (.yld i)→EvsOk ρ κ gd c.args.toList l →
  acallR (some i) (YSpecR P) n o gd nx κ k l→Good P C ops n o nx ρ κ k
theorem aop_sound (hT:TOk P T) (hn:∀i,nx≤i→κ i=.none) (hR:CallSnd P C ops n o nx ρ κ k) (h:aop P T ops n o nx ρ κ k):Good P C ops n o nx ρ κ k:=by
 have hcall:∀{gd:Bool} {f:Nat} {l:List AV},gval ρ ops o.guard=some gd→CallEv P ops o ρ κ gd f l→(acall P n o nx κ gd k f l ∨ acallR none (CSpecR P f) n o gd nx κ k l)→Good P C ops n o nx ρ κ k:=by
  intro gd f l hg hev h
  rcases h with h | h
  ·exact op_acall hn hg hev h
  ·exact hR.call hg hev h
 unfold aop at h
 split at h
 ·exact h.elim
 ·rename_i gd hg
  split at h
  ·rename_i x ho
   exact op_move hg ho h
  ·rename_i x ho
   obtain ⟨v,h,hev⟩:=ex_sound h
   exact op_assign hg ho h hev
  ·rename_i x ho
   obtain ⟨v,h,hev⟩:=ex_sound h
   split at h
   ·exact op_nilCheck hg ho h hev (fun G v hv=>by cases hv; exact ⟨_,rfl⟩)
   ·exact op_nilCheck hg ho h hev (fun G v hv=>by cases hv <;> exact ⟨_,rfl⟩)
   ·exact op_nilCheck hg ho h hev (fun G v hv=>by cases hv with | dv hv=>cases hv; exact ⟨_,rfl⟩)
   ·split at h
    ·rename_i hk
     have hh:=bif_true h; clear h; obtain ⟨hb,h⟩:=hh
     obtain ⟨rfl,hcur⟩:=vis_cur hb
     obtain ⟨nd,h,hnd⟩:=getN_sound h
     split at h
     ·exact op_nilCheck_own hg ho hk hcur hnd h hev
     ·exact h.elim
    ·exact h.elim
   ·exact h.elim
  ·rename_i c x y ho
   exact aop_pick hg ho h
  ·rename_i op t x y ty ho
   obtain ⟨va,h,hea⟩:=ex_sound h
   obtain ⟨vb,h,heb⟩:=ex_sound h
   cases hb:vb.isNils with
   | false =>
    rw [hb] at h
    cases ha:va.ag with
    | false=>rw [ha] at h; exact op_binOp hT hg ho hea heb h
    | true=>rw [ha] at h; exact op_eqA hT hg ho hea heb h
   | true =>
    rw [hb] at h
    have hb:vb=.dv .nils:=by
     cases vb with
     | dv d=>cases d <;> simp [AV.isNils] at hb; rfl
     | _=>simp [AV.isNils] at hb
    subst hb
    exact op_cmpNilA hT hg ho hea heb h
  ·rename_i op t x ho
   obtain ⟨v,h,hev⟩:=ex_sound h
   split at h
   ·exact op_not hg ho h hev
   ·exact op_neg hg ho h hev
   ·exact h.elim
  ·rename_i x i ho
   obtain ⟨v,h,hev⟩:=ex_sound h
   split at h
   ·split at h
    ·rename_i hl
     rw [force_eq] at h
     exact op_extract hg ho h hl hev
    ·exact h.elim
   ·exact h.elim
  ·rename_i t x f ho
   obtain ⟨v,h,hev⟩:=ex_sound h
   exact aop_field hT hg ho h hev
  ·rename_i t x f ho
   obtain ⟨v,h,hev⟩:=ex_sound h
   exact aop_fieldAddr hT hg ho h hev
  ·rename_i t x i ho
   obtain ⟨v,h,hev⟩:=ex_sound h
   obtain ⟨iv,h,hei⟩:=ex_sound h
   cases hb:(nth T t).ok && (nth T t).isSl && (nth T (nth T t).elem).ok with
   | true=>rw [hb] at h; exact aop_index hT hg ho (by rw [hb]; exact h) hev.dn hei
   | false=>rw [hb] at h; exact aop_indexA hT hg ho h hev hei
  ·rename_i t x ho
   have hh:=bif_true h; clear h; obtain ⟨hok,h⟩:=hh
   obtain ⟨v,h,hev⟩:=ex_sound h
   exact aop_load hT hg ho hok h hev
  ·rename_i t x y ho
   have hh:=bif_true h; clear h; obtain ⟨hok,h⟩:=hh
   obtain ⟨p,h,hev⟩:=ex_sound h
   obtain ⟨v,h,hey⟩:=ex_sound h
   exact aop_store hT hn hg ho hok h hev hey
  ·rename_i fn first caps ho
   obtain ⟨l,h,h1⟩:=exs_sound h
   obtain ⟨r,h,h2⟩:=exs_sound h
   split at h
   ·exact op_makeFunc hg ho h1 h2 (.inl ⟨rfl,rfl⟩) h
   ·exact op_makeFunc hg ho h1 h2 (.inr ⟨rfl,rfl⟩) h
   ·exact h.elim
  ·rename_i t ho
   have hh:=bif_true h; clear h; obtain ⟨hok,s,h⟩:=hh
   exact op_makeMap hg ho (hn nx (Nat.le_refl _)) h
  ·rename_i t x ho
   have hh:=bif_true h; clear h; obtain ⟨hok,h⟩:=hh
   simp only [Bool.and_eq_true] at hok
   obtain ⟨v,h,hev⟩:=ex_sound h
   split at h
   ·obtain ⟨s,h⟩:=h
    exact op_makeMapH hT hg ho hok.1 (Nat.eq_of_beq_eq_true hok.2) (hn nx (Nat.le_refl _)) h hev
   ·exact h.elim
  ·rename_i t x i c ho
   have hh:=bif_true h; clear h; obtain ⟨hb,h⟩:=hh
   simp only [Bool.and_eq_true] at hb
   obtain ⟨v,h,hev⟩:=ex_sound h
   obtain ⟨kv,h,hei⟩:=ex_sound h
   exact op_lookup hT hg ho hb.1.1 (Nat.eq_of_beq_eq_true hb.1.2) hb.2 hev hei h
  ·rename_i t x i y ho
   have hh:=bif_true h; clear h; obtain ⟨hb,h⟩:=hh
   simp only [Bool.and_eq_true] at hb
   obtain ⟨v,h,hev⟩:=ex_sound h
   obtain ⟨kv,h,hei⟩:=ex_sound h
   obtain ⟨u,h,hey⟩:=ex_sound h
   exact op_mapUpdate hT hg ho hn hb.1 (Nat.eq_of_beq_eq_true hb.2) hev hei hey h
  ·rename_i t ho
   have hh:=bif_true h; clear h; obtain ⟨hok,h⟩:=hh
   exact op_alloc hT hg ho hok (hn nx (Nat.le_refl _)) h
  ·rename_i t x ho
   obtain ⟨v,h,hev⟩:=ex_sound h
   have hh:=bif_true h; clear h; obtain ⟨hc,h⟩:=hh
   exact op_box hg ho (hn nx (Nat.le_refl _)) hc h hev
  ·rename_i t parts ho
   have hh:=bif_true h; clear h; obtain ⟨hb,h⟩:=hh
   simp only [Bool.and_eq_true] at hb
   obtain ⟨l,h,hp⟩:=exParts_sound h
   split at h
   ·rename_i cs hf
    exact op_build hT hg ho hb.1 hp hf hb.2 h
   ·exact h.elim
  ·rename_i t len parts ho
   have hh:=bif_true h; clear h; obtain ⟨hb,h⟩:=hh
   simp only [Bool.and_eq_true,Nat.blt_eq] at hb
   obtain ⟨⟨⟨⟨h1,h2⟩,h3⟩,h4⟩,h5⟩:=hb
   obtain ⟨l,h,hp⟩:=exParts_sound h
   split at h
   ·rename_i cs hf
    have hh:=bif_true h; clear h; obtain ⟨hc,h⟩:=hh
    exact op_buildSlice hT hg ho hn h1 h2 h3 h4 h5 hp hf hc h
   ·exact h.elim
  ·rename_i t l c ho
   have hh:=bif_true h; clear h; obtain ⟨hb,h⟩:=hh
   simp only [Bool.and_eq_true,Nat.blt_eq] at hb
   obtain ⟨⟨⟨b1,b2⟩,b3⟩,b4⟩:=hb
   obtain ⟨lv,h,h1⟩:=ex_sound h
   obtain ⟨cv,h,h2⟩:=ex_sound h
   split at h
   ·obtain ⟨z,e1,e2,e3,e4,e5,fl,hfl,h⟩:=h
    exact op_makeSlice hT hg ho b1 b2 b3 b4 (hn nx (Nat.le_refl _)) e1 e2 e3 e4 e5 hfl h h1 h2
   ·exact h.elim
  ·rename_i t x l hh ho
   have hq:=bif_true h; clear h; obtain ⟨hb,h⟩:=hq
   simp only [Bool.and_eq_true] at hb
   obtain ⟨v,h,hev⟩:=ex_sound h
   obtain ⟨lo,h,hl⟩:=exI_sound h
   obtain ⟨hi,h,hhi⟩:=exI_sound h
   exact op_slice hT hg ho hn hb.1 hb.2 hev.dn hl hhi h
  ·rename_i c ho
   split at h
   ·rename_i hc
    split at h
    ·rename_i x t ha hat
     obtain ⟨v,h,hev⟩:=ex_sound h
     exact aop_len hT hg ho hc ha hat hev.dn h
    ·exact h.elim
   ·rename_i hc
    split at h
    ·rename_i x i t t' ha hat
     have hh:=bif_true h; clear h; obtain ⟨hb,h⟩:=hh
     simp only [Bool.and_eq_true] at hb
     obtain ⟨v,h,hev⟩:=ex_sound h
     obtain ⟨kv,h,hei⟩:=ex_sound h
     exact op_mapDelete hT hg ho hc ha hat hn hb.1 (Nat.eq_of_beq_eq_true hb.2) hev hei h
    ·exact h.elim
   ·rename_i hc
    split at h
    ·rename_i s x t t' ha hat
     have hh:=bif_true h; clear h; obtain ⟨hb,h⟩:=hh
     have:=Nat.eq_of_beq_eq_true hb
     subst this
     obtain ⟨sv,h,h1⟩:=ex_sound h
     obtain ⟨xv,h,h2⟩:=ex_sound h
     rcases h with h | h
     ·exact op_appendF hT hg ho hc ha hat hn h h1 h2.dn
     ·exact op_append hT hg ho hc ha hat hn h h1.dn h2.dn
    ·exact h.elim
   ·rename_i hc
    split at h
    ·rename_i x y ha
     obtain ⟨a,h,h1⟩:=ex_sound h
     obtain ⟨b,h,h2⟩:=ex_sound h
     split at h
     ·exact op_min hg ho hc ha h h1 h2
     ·exact h.elim
    ·exact h.elim
   ·rename_i hc
    split at h
    ·rename_i x y ha
     obtain ⟨a,h,h1⟩:=ex_sound h
     obtain ⟨b,h,h2⟩:=ex_sound h
     split at h
     ·exact op_max hg ho hc ha h h1 h2
     ·exact h.elim
    ·exact h.elim
   ·rename_i f hc
    obtain ⟨l,h,h1⟩:=exs_sound h
    exact hcall hg (callEv_func ho hc h1) h
   ·rename_i t hc
    obtain ⟨v,h,hev⟩:=ex_sound h
    obtain ⟨l,h,h1⟩:=exs_sound h
    split at h
    ·exact hcall hg (callEv_val ho hc hev h1 (.inl ⟨_,rfl,rfl⟩)) h
    ·exact hcall hg (callEv_val ho hc hev h1 (.inr (.inl ⟨_,rfl,rfl⟩))) h
    ·exact hcall hg (callEv_val ho hc hev h1 (.inr (.inr ⟨_,rfl,rfl⟩))) h
    ·rcases h with h | ⟨hf,u,h⟩
     ·exact hR.yld hg ho hc hev h1 h
     ·exact snd_val (fun c=>by rw [ho]; simp) hg h fun _ _ _ _ _ _ _ _ hgd=>by rw [hf] at hgd; cases hgd
    ·exact h.elim
   ·exact h.elim
  ·rename_i t x ho
   have hh:=bif_true h; clear h; obtain ⟨hb,h⟩:=hh
   simp only [Bool.and_eq_true] at hb
   obtain ⟨v,h,hev⟩:=ex_sound h
   split at h
   ·rename_i j ver ep p
    split at h
    ·rename_i d hj
     have hh:=bif_true h; clear h; obtain ⟨hb2,h⟩:=hh
     simp only [Bool.and_eq_true,Bool.or_eq_true] at hb2
     obtain ⟨nd,h,hnd⟩:=getN_sound h
     split at h
     ·exact op_range hT hg ho hb.1 (Nat.eq_of_beq_eq_true hb.2) (hn nx (Nat.le_refl _)) hj (by have:=hb2.2; rw [Nat.blt_eq] at this; exact this) (Nat.eq_of_beq_eq_true hb2.1.1)
       (hb2.1.2.imp (fun e=>by cases p with | nil=>rfl | cons=>simp [emp] at e) Nat.eq_of_beq_eq_true) (hnd rfl) h hev
     ·exact h.elim
    ·exact h.elim
   ·exact h.elim
  ·rename_i x ho
   obtain ⟨v,h,hev⟩:=ex_sound h
   split at h
   ·rename_i i
    split at h
    ·rename_i hi
     exact op_entry hg ho hi h.1 h.2 hev
    ·exact h.elim
   ·exact h.elim
  ·rename_i s t x ho
   have hh:=bif_true h; clear h; obtain ⟨hb,h⟩:=hh
   simp only [Bool.and_eq_true] at hb
   obtain ⟨v,h,hev⟩:=ex_sound h
   split at h
   ·rename_i hi
    exact op_convert hT hg ho hb.1 hb.2 hi h hev
   ·exact op_convS hT hg ho hb.1 hb.2 h (EvOk.dn hev)
  ·rename_i t x i ho
   have hh:=bif_true h; clear h; obtain ⟨hb,h⟩:=hh
   simp only [Bool.and_eq_true] at hb
   obtain ⟨v,h,hev⟩:=ex_sound h
   obtain ⟨iv,h,hei⟩:=ex_sound h
   split at h
   ·obtain ⟨b,hbd,h⟩:=h
    exact op_index hT hg ho hb.1 hb.2 hbd h hev hei
   ·exact h.elim
  ·exact h.elim
end
end Go.TM
namespace Go.TM
open Go.RowKit
variable [Glob]
def hardOp:Op→Bool
 | .buildSlice _ _ _=>true
 | .call c=>match c.callee with
  | .builtin .append=>true
  | _=>false
 | _=>false
def noGuard (o:Oper):Oper:={ o with guard:=none }
def aopH (P:Program) (T:List TI) (ops:List Oper) (n:Nat) (o:Oper) (nx:Nat) (ρ:Nat→AV) (κ:Nat→Box) (k:Eff→Nat→Prop):Prop :=
 match o.guard with
 | none=>aop P T ops n o nx ρ κ k
 | some _=>bif hardOp o.op then aop P T ops n o nx ρ κ k ∨ (match gval ρ ops o.guard with
   | some g=>(g=false∧retv n o g nx k .any []) ∨ (g=true∧aop P T ops n (noGuard o) nx ρ κ k)
   | none=>False)
  else aop P T ops n o nx ρ κ k
def arun (P:Program) (T:List TI) (ops:List Oper) (n:Nat):List Oper→Nat→Env→Boxes→(Nat→Env→Boxes→Prop)→Prop
 | [],nx,env,K,k=>k nx env K
 | o::rest,nx,env,K,k=>aopH P T ops n o nx (look env) (lookB K) fun eff nx'=>contE eff.dst env fun env'=>contB eff.box K fun K'=>arun P T ops n rest nx' env' K' k
structure Rec where
 rows:List Nat
 eff:Eff
def dynCall:Op→Bool
 | .call c=>match c.callee with
  | .value (.tmp _)=>true
  | _=>false
 | _=>false
def keysB:List (Nat × Box)→List Nat
 | []=>[]
 | p::r=>p.1::keysB r
def trimB (κ:Nat→Box) (rd:List Nat):List (Nat × Box)→(List (Nat × Box)→Prop)→Prop
 | [],k=>k []
 | (i,b)::r,k=>((memN i rd && !memN i (keysB r))=true∧κ i=b∧trimB κ rd r k) ∨ trimB κ rd r fun r=>k ((i,b)::r)
def trimE (ops:List Oper) (o:Oper) (κ:Nat→Box) (eff:Eff) (k:Eff→Prop):Prop :=
 bif dynCall o.op && Nat.ble 16 ops.length then k eff ∨ trimB κ eff.reads eff.box fun bx=>k { eff with box:=bx } else k eff
def adraw (P:Program) (T:List TI) (ops:List Oper) (n:Nat):List Oper→Nat→Env→Boxes→List Rec→(Nat→Env→Boxes→List Rec→Prop)→Prop
 | [],nx,env,K,acc,k=>k nx env K acc
 | o::rest,nx,env,K,acc,k=>aopH P T ops n o nx (look env) (lookB K) fun eff nx'=>trimE ops o (lookB K) eff fun eff=>contE eff.dst env fun env'=>contB eff.box K fun K'=>adraw P T ops n rest nx' env' K' (acc++[⟨ridk (look env) (lookB K) o,eff⟩]) k
def disj:List Nat→List Nat→Bool
 | [],_=>true
 | x::r,l=>!memN x l && disj r l
def keysE:List (Nat × AV)→List Nat
 | []=>[]
 | p::r=>p.1::keysE r
def apartB (ops:List Oper) (x y:Rec) (oy:Oper):Bool :=
 disj (keysE x.eff.dst) (oy.looksAt ops.toArray) && disj (keysE x.eff.dst) (keysE y.eff.dst) &&
 disj (keysB x.eff.box) y.rows && disj (keysB x.eff.box) y.eff.reads && disj (keysB x.eff.box) (keysB y.eff.box)
def deps (o:Oper):List Nat:=o.after.toList.filterMap fun e=>bif Region.binds .any e then some e.on else none
def reachB (ops:List Oper):Nat→Nat→Nat→Bool
 | 0,_,_=>false
 | f+1,i,j=>match ops[j]? with
  | some o=>(deps o).any fun d=>Nat.beq d i || reachB ops f i d
  | none=>false
def edgesB:Nat→List Oper→Bool
 | _,[]=>true
 | i,o::r=>(deps o).all (fun d=>Nat.blt d i) && edgesB (i+1) r
def indepAt (ops:List Oper) (rs:List Rec) (j:Nat) (y:Rec) (oy:Oper):Nat→List Rec→List Oper→Bool
 | i,x::xr,ox::or=>(bif Nat.blt i j then reachB ops ops.length i j || (apartB ops x y oy && apartB ops y x ox) else true) && indepAt ops rs j y oy (i+1) xr or
 | _,_,_=>true
def indepFrom (ops:List Oper) (rs:List Rec):Nat→List Rec→List Oper→Bool
 | j,y::yr,oy::or=>indepAt ops rs j y oy 0 rs ops && indepFrom ops rs (j+1) yr or
 | _,_,_=>true
def indepB (ops:List Oper) (rs:List Rec):Bool:=edgesB 0 ops && indepFrom ops rs 0 rs ops
def StL (g:Org) (n nx:Nat) (env:Env) (K:Boxes) (a:Act) (w:World):Prop:=St g n (look env) (lookB K) a w∧g.m≤nx∧∀i,nx≤i→lookB K i=.none
theorem wpIn_imp {F:Fence} {m:Nat} {P:Program} {o:Oper} {a:Act} {w:World} {K K':Act→World→Prop} {Q:Exit→Act→World→Prop} (h:∀a w,K a w→K' a w) (hh:o.wpIn F m P a w K (fun _ _ _=>False)):o.wpIn F m P a w K' Q:=by
 unfold Oper.wpIn at *
 refine ⟨hh.1,?_⟩
 have hh:=hh.2
 generalize (o.semAt F.round a.eval).run P w=r at *
 cases r with
 | ok x w' =>
  cases x <;> simp only [Oper.uponIn] at hh ⊢ <;>
   first
    | exact h _ _ hh
    | exact ⟨hh.1,CallsIn.mono hh.2 (fun e w'' he=>by cases e <;> first | exact h _ _ he | exact he.elim | (obtain ⟨_,_,hf⟩:=he; exact hf.elim))⟩
    | exact ⟨hh.1,RowsIn.mono hh.2 (fun _ _ he=>h _ _ he)⟩
    | exact ⟨hh.1,RoundIn.mono hh.2 (fun e w'' he=>by cases e <;> first | exact h _ _ he | exact he.elim | (obtain ⟨_,_,hf⟩:=he; exact hf.elim))⟩
    | exact hh.elim
 | halt x w'=>cases x <;> simp only [Oper.uponIn] at hh ⊢ <;> exact hh.elim
def CallsSnd (P:Program) (C:Org→Prop):Prop:=∀(ops:List Oper) (n:Nat) (o:Oper) (nx:Nat) (ρ:Nat→AV) (κ:Nat→Box) (k:Eff→Nat→Prop),(∀i,nx≤i→κ i=.none)→CallSnd P C ops n o nx ρ κ k
section
variable {P:Program} {C:Org→Prop} {T:List TI} {ops:List Oper} {n:Nat} {g:Org}
theorem good_noGuard {o:Oper} {nx:Nat} {ρ:Nat→AV} {κ:Nat→Box} {k:Eff→Nat→Prop} (hg:gval ρ ops o.guard=some true) (h:Good P C ops n (noGuard o) nx ρ κ k):Good P C ops n o nx ρ κ k:=by
 obtain ⟨eff,nx',h1,h2,h3,h4⟩:=h
 refine ⟨eff,nx',h1,h2,h3,fun F hF ρ' κ' hag g a w hgm hst=>?_⟩
 have hs:∀t,t∈(noGuard o).looksAt ops.toArray→ρ' t=ρ t:=fun t ht=>hag.slots t (by
  unfold Oper.looksAt noGuard at ht
  simp only [List.append_nil] at ht
  unfold Oper.looksAt
  exact List.mem_append_left _ ht)
 have hr:=h4 F hF ρ' κ' ⟨hs,hag.rows,hag.reads,hag.boxes⟩ g a w hgm hst
 obtain ⟨G,hst'⟩:=hst
 unfold Runs at hr ⊢
 rw [if_pos (wanted_gval hg hag.slots hst')]
 have hw:Region.wanted (noGuard o) (yielded ops.toArray a.tmps)=true:=rfl
 rw [if_pos hw] at hr
 exact hr
theorem aopH_sound (hT:TOk P T) {o:Oper} {nx:Nat} {ρ:Nat→AV} {κ:Nat→Box} {k:Eff→Nat→Prop} (hn:∀i,nx≤i→κ i=.none) (hR:CallsSnd P C) (h:aopH P T ops n o nx ρ κ k):Good P C ops n o nx ρ κ k:=by
 have old:aop P T ops n o nx ρ κ k→Good P C ops n o nx ρ κ k:=aop_sound hT hn (hR _ _ _ _ _ _ _ hn)
 unfold aopH at h
 split at h
 ·exact old h
 ·cases hh:hardOp o.op with
  | false=>rw [hh] at h; exact old h
  | true =>
   rw [hh] at h
   rcases h with h | h
   ·exact old h
   ·split at h
    ·rename_i g hg
     rcases h with ⟨hf,h⟩ | ⟨hf,h⟩
     ·subst hf
      refine snd_val (fun c hc=>?_) hg h fun _ _ _ _ _ _ _ _ hgd=>by cases hgd
      rw [hc] at hh; simp [hardOp] at hh
     ·subst hf
      exact good_noGuard hg (aop_sound hT hn (hR _ _ _ _ _ _ _ hn) h)
    ·exact h.elim
theorem none_after {nx nx':Nat} {K:Boxes} {bx:List (Nat × Box)} (hn:∀i,nx≤i→lookB K i=.none) (hle:nx≤nx') (hb:∀p,p∈bx→p.1<nx'):∀i,nx'≤i→lookB (addB bx K) i=.none:=by
 intro i hi
 rw [lookB_addB]
 have key:∀(l:List (Nat × Box)),(∀p,p∈l→p.1<nx')→updl (lookB K) l i=.none:=by
  intro l
  induction l with
  | nil=>intro _; exact hn i (by omega)
  | cons p r ih =>
   intro hl
   obtain ⟨j,b⟩:=p
   have:=hl (j,b) (by simp)
   simp only [updl]
   rw [upd_other _ _ (by simp at this; omega)]
   exact ih fun p hp=>hl p (by simp [hp])
 exact key bx hb
theorem runs_list {o:Oper} {rest:List Oper} {a:Act} {w:World} {K:Act→World→Prop} {Q:Exit→Act→World→Prop} {F:Fence} (hF:Wide F) (h:Runs P F ops.toArray o a w K) (hk:∀a w,K a w→wpListIn F 0 P ops.toArray Q rest a w):wpListIn F 0 P ops.toArray Q (o::rest) a w:=by
 unfold Runs at h
 simp only [wpListIn]
 split at h
 ·rename_i hw; rw [if_pos hw]; exact wpIn_imp hk h
 ·rename_i hw; rw [if_neg hw]; exact ⟨fun f _=>hF.fn f,hk _ _ h⟩
theorem arun_sound (hT:TOk P T) (hR:CallsSnd P C) (hCg:C g) {F:Fence} (hF:Wide F) {Q:Exit→Act→World→Prop} {k:Nat→Env→Boxes→Prop} (hQ:∀nx env K a w,k nx env K→StL g n nx env K a w→Q .normal a w) :
  ∀(rest:List Oper) (nx:Nat) (env:Env) (K:Boxes) (a:Act) (w:World),arun P T ops n rest nx env K k→StL g n nx env K a w→wpListIn F 0 P ops.toArray Q rest a w
 | [],nx,env,K,a,w,h,hs=>hQ nx env K a w h hs
 | o::rest,nx,env,K,a,w,h,⟨hs,hgm,hn⟩=>by
  obtain ⟨eff,nx',hk,hle,hb,hsnd⟩:=aopH_sound hT hn hR h
  rw [contE_eq,contB_eq] at hk
  refine runs_list hF (hsnd F hF (look env) (lookB K) ⟨fun _ _=>rfl,fun _ _=>rfl,fun _ _=>rfl,fun _ _ _=>rfl⟩ g a w ⟨hgm,hCg⟩ hs) fun a' w' hs'=>?_
  refine arun_sound hT hR hCg hF hQ rest nx' _ _ a' w' hk ⟨?_,Nat.le_trans hgm hle,none_after hn hle hb⟩
  rw [look_addE,lookB_addB]
  exact hs'
def acc {γ:Type _} (f:Nat→γ) (wr:Nat→List (Nat × γ)) (E:Nat→Bool):Nat→Nat→γ
 | 0=>f
 | m+1=>if E m then updl (acc f wr E m) (wr m) else acc f wr E m
def keys {γ:Type _} (l:List (Nat × γ)):List Nat:=l.map (·.1)
theorem updl_notin {γ:Type _} (f:Nat→γ):∀{l:List (Nat × γ)} {t:Nat},t ∉ keys l→updl f l t=f t
 | [],t,_=>rfl
 | (i,x)::r,t,h=>by
  simp only [keys,List.map_cons,List.mem_cons,not_or] at h
  simp only [updl]
  rw [upd_other _ _ h.1]
  exact updl_notin f h.2
theorem updl_in {γ:Type _} (f f':Nat→γ):∀{l:List (Nat × γ)} {t:Nat},t∈keys l→updl f l t=updl f' l t
 | [],t,h=>by simp [keys] at h
 | (i,x)::r,t,h=>by
  simp only [updl]
  by_cases e:t=i
  ·subst e; simp
  ·rw [upd_other _ _ e,upd_other _ _ e]
   simp only [keys,List.map_cons,List.mem_cons,e,false_or] at h
   exact updl_in f f' h
section
variable {γ:Type _} {f:Nat→γ} {wr:Nat→List (Nat × γ)} {E:Nat→Bool}
theorem acc_low {t:Nat}:∀{j:Nat},(∀i,i<j→E i=false→t ∉ keys (wr i))→acc f wr E j t=acc f wr (fun _=>true) j t
 | 0,_=>rfl
 | j+1,h=>by
  have ih:=acc_low (t:=t) (j:=j) fun i hi=>h i (by omega)
  simp only [acc,if_true]
  cases he:E j with
  | true =>
   simp only [if_true]
   by_cases hk:t∈keys (wr j)
   ·exact updl_in _ _ hk
   ·rw [updl_notin _ hk,updl_notin _ hk,ih]
  | false =>
   simp only [Bool.false_eq_true,if_false]
   rw [updl_notin _ (h j (by omega) he)]
   exact ih
theorem acc_high {t j:Nat}:∀{m:Nat},(∀i,j≤i→i<j+m→E i=true→t ∉ keys (wr i))→acc f wr E (j+m) t=acc f wr E j t
 | 0,_=>rfl
 | m+1,h=>by
  have ih:=acc_high (t:=t) (j:=j) (m:=m) fun i h1 h2=>h i h1 (by omega)
  show acc f wr E (j+m+1) t=_
  simp only [acc]
  cases he:E (j+m) with
  | true=>simp only [if_true]; rw [updl_notin _ (h _ (by omega) (by omega) he)]; exact ih
  | false=>simp only [Bool.false_eq_true,if_false]; exact ih
theorem acc_read {t j len:Nat} (hj:j≤len) (h1:∀i,i<j→E i=false→t ∉ keys (wr i)) (h2:∀i,j≤i→i<len→E i=true→t ∉ keys (wr i)):acc f wr E len t=acc f wr (fun _=>true) j t:=by
 obtain ⟨m,rfl⟩:∃m,len=j+m:=⟨len - j,by omega⟩
 rw [acc_high h2,acc_low h1]
def setE (E:Nat→Bool) (j:Nat):Nat→Bool:=fun i=>if i=j then true else E i
theorem acc_set {j:Nat} (hj:E j=false):∀{len:Nat},j<len→(∀i,j<i→i<len→E i=true→∀t,t∈keys (wr j)→t ∉ keys (wr i))→acc f wr (setE E j) len=updl (acc f wr E len) (wr j)
 | 0,h,_=>by omega
 | len+1,h,hd=>by
  rcases Nat.lt_or_ge j len with hlt | hge
  ·have ih:=acc_set hj hlt fun i h1 h2=>hd i h1 (by omega)
   have hne:len ≠ j:=by omega
   simp only [acc,setE,if_neg hne]
   cases he:E len with
   | false=>simp only [Bool.false_eq_true,if_false]; exact ih
   | true =>
    simp only [if_true]
    show updl (acc f wr (setE E j) len) (wr len)=_
    rw [ih]
    funext t
    by_cases h1:t∈keys (wr j)
    ·have h2:=hd len hlt (by omega) he t h1
     rw [updl_notin _ h2]
     exact updl_in _ _ h1
    ·rw [updl_notin (updl (acc f wr E len) (wr len)) h1]
     by_cases h2:t∈keys (wr len)
     ·exact updl_in _ _ h2
     ·rw [updl_notin _ h2,updl_notin _ h2,updl_notin _ h1]
  ·have:j=len:=by omega
   subst this
   have low:∀m,m≤j→acc f wr (setE E j) m=acc f wr E m:=by
    intro m
    induction m with
    | zero=>intro _; rfl
    | succ m ih =>
     intro hm
     simp only [acc,setE,if_neg (show m ≠ j by omega)]
     rw [ih (by omega)]
   simp only [acc,hj,Bool.false_eq_true,if_false]
   simp only [setE,if_true]
   rw [low j (Nat.le_refl _)]
end
theorem Snd.lo {lo lo':Nat} {o:Oper} {ρ:Nat→AV} {κ:Nat→Box} {eff:Eff} (h:Snd P C ops n lo' o ρ κ eff) (hl:lo≤lo'):Snd P C ops n lo o ρ κ eff :=
 fun F hF ρ' κ' hag g a w hg hs=>h F hF ρ' κ' hag g a w ⟨Nat.le_trans hg.1 hl,hg.2⟩ hs
theorem acc_same {γ:Type _} (f:Nat→γ) (wr wr':Nat→List (Nat × γ)) (m:Nat):(∀i,i<m→wr' i=wr i)→acc f wr' (fun _=>true) m=acc f wr (fun _=>true) m:=by
 induction m with
 | zero=>intro _; rfl
 | succ m ih=>intro hh; simp only [acc,if_true]; rw [ih fun i hi=>hh i (by omega),hh m (by omega)]
theorem trimB_spec {κ:Nat→Box} {rd:List Nat}:∀{bx:List (Nat × Box)} {k:List (Nat × Box)→Prop},trimB κ rd bx k→∃bx',k bx'∧(∀p,p∈bx'→p∈bx)∧(∀p,p∈bx→p∈bx' ∨ p.1∈rd)∧∀κ':Nat→Box,(∀i,i∈rd→κ' i=κ i)→updl κ' bx'=updl κ' bx
 | [],k,h=>⟨[],h,fun _ h=>h,fun _ h=>.inl h,fun _ _=>rfl⟩
 | (i,b)::r,k,h=>by
  rcases h with ⟨h1,h2,h⟩ | h
  ·obtain ⟨bx',hk,ha,hb,hc⟩:=trimB_spec h
   simp only [Bool.and_eq_true,Bool.not_eq_true'] at h1
   refine ⟨bx',hk,fun p hp=>List.mem_cons_of_mem _ (ha p hp),fun p hp=>?_,fun κ' hκ=>?_⟩
   ·rcases List.mem_cons.1 hp with rfl | hp
    ·exact .inr (memN_true h1.1)
    ·exact hb p hp
   ·rw [hc κ' hκ]
    funext j
    by_cases e:j=i
    ·subst e
     have hkb:∀(l:List (Nat × Box)),keysB l=keys l:=fun l=>by
      induction l with
      | nil=>rfl
      | cons p r ih=>simp [keysB,keys,ih]
     rw [updl_notin _ (by rw [←hkb]; exact memN_false h1.2)]
     simp only [updl,upd_same]
     rw [hκ _ (memN_true h1.1),h2]
    ·simp only [updl]
     rw [upd_other _ _ e]
  ·obtain ⟨bx',hk,ha,hb,hc⟩:=trimB_spec h
   refine ⟨(i,b)::bx',hk,fun p hp=>?_,fun p hp=>?_,fun κ' hκ=>?_⟩
   ·rcases List.mem_cons.1 hp with rfl | hp
    ·exact List.mem_cons_self
    ·exact List.mem_cons_of_mem _ (ha p hp)
   ·rcases List.mem_cons.1 hp with rfl | hp
    ·exact .inl List.mem_cons_self
    ·rcases hb p hp with h | h
     ·exact .inl (List.mem_cons_of_mem _ h)
     ·exact .inr h
   ·simp only [updl]
    rw [hc κ' hκ]
theorem trimE_good {o:Oper} {nx:Nat} {ρ:Nat→AV} {κ:Nat→Box} {k:Eff→Nat→Prop} (h:Good P C ops n o nx ρ κ fun eff nx'=>trimE ops o κ eff fun eff=>k eff nx'):Good P C ops n o nx ρ κ k:=by
 obtain ⟨eff,nx',h1,h2,h3,h4⟩:=h
 unfold trimE at h1
 cases hd:dynCall o.op && Nat.ble 16 ops.length with
 | false=>rw [hd] at h1; exact ⟨eff,nx',h1,h2,h3,h4⟩
 | true =>
  rw [hd] at h1
  rcases h1 with h1 | h1
  ·exact ⟨eff,nx',h1,h2,h3,h4⟩
  ·obtain ⟨bx',hk,ha,hb,hc⟩:=trimB_spec h1
   refine ⟨_,nx',hk,h2,fun p hp=>h3 p (ha p hp),fun F hF ρ' κ' hag g a w hgm hst=>?_⟩
   have hr:=h4 F hF ρ' κ' ⟨hag.slots,hag.rows,hag.reads,fun i b hib=>?_⟩ g a w hgm hst
   ·simp only
    rw [hc κ' hag.reads]
    exact hr
   ·rcases hb _ hib with h | h
    ·exact hag.boxes i b h
    ·exact hag.reads i h
theorem adraw_sound (hT:TOk P T) (hR:CallsSnd P C) {k:Nat→Env→Boxes→List Rec→Prop} {ρ0:Nat→AV} {κ0:Nat→Box} {lo:Nat} :
  ∀(rest done:List Oper) (nx:Nat) (env:Env) (K:Boxes) (rs:List Rec),ops=done++rest→rs.length=done.length→lo≤nx →
   (∀i,nx≤i→lookB K i=.none) →
   look env=acc ρ0 (fun i=>(rs[i]?.map (·.eff.dst)).getD []) (fun _=>true) done.length→lookB K=acc κ0 (fun i=>(rs[i]?.map (·.eff.box)).getD []) (fun _=>true) done.length →
   (∀i r o,rs[i]?=some r→ops[i]?=some o→r.rows=ridk (acc ρ0 (fun i=>(rs[i]?.map (·.eff.dst)).getD []) (fun _=>true) i) (acc κ0 (fun i=>(rs[i]?.map (·.eff.box)).getD []) (fun _=>true) i) o∧Snd P C ops n lo o (acc ρ0 (fun i=>(rs[i]?.map (·.eff.dst)).getD []) (fun _=>true) i) (acc κ0 (fun i=>(rs[i]?.map (·.eff.box)).getD []) (fun _=>true) i) r.eff) →
   adraw P T ops n rest nx env K rs k →
   ∃nx' env' K' rs',k nx' env' K' rs'∧rs'.length=ops.length∧lo≤nx'∧(∀i,nx'≤i→lookB K' i=.none) ∧
    look env'=acc ρ0 (fun i=>(rs'[i]?.map (·.eff.dst)).getD []) (fun _=>true) ops.length∧lookB K'=acc κ0 (fun i=>(rs'[i]?.map (·.eff.box)).getD []) (fun _=>true) ops.length ∧
    ∀i r o,rs'[i]?=some r→ops[i]?=some o→r.rows=ridk (acc ρ0 (fun i=>(rs'[i]?.map (·.eff.dst)).getD []) (fun _=>true) i) (acc κ0 (fun i=>(rs'[i]?.map (·.eff.box)).getD []) (fun _=>true) i) o∧Snd P C ops n lo o (acc ρ0 (fun i=>(rs'[i]?.map (·.eff.dst)).getD []) (fun _=>true) i) (acc κ0 (fun i=>(rs'[i]?.map (·.eff.box)).getD []) (fun _=>true) i) r.eff
 | [],done,nx,env,K,rs,hops,hlen,hlo,hn,he,hk,hall,h=>by
  have:done.length=ops.length:=by rw [hops]; simp
  exact ⟨nx,env,K,rs,h,by omega,hlo,hn,by rw [←this]; exact he,by rw [←this]; exact hk,hall⟩
 | o::rest,done,nx,env,K,rs,hops,hlen,hlo,hn,he,hk,hall,h=>by
  obtain ⟨eff,nx',hk',hle,hb,hsnd⟩:=trimE_good (ops:=ops) (n:=n) (o:=o) (nx:=nx) (ρ:=look env) (κ:=lookB K) (k:=fun eff nx'=>contE eff.dst env fun env'=>contB eff.box K fun K'=>adraw P T ops n rest nx' env' K' (rs++[(⟨ridk (look env) (lookB K) o,eff⟩:Rec)]) k) (aopH_sound hT hn hR h)
  rw [contE_eq,contB_eq] at hk'
  have hget:∀i,i<rs.length→(rs++[⟨ridk (look env) (lookB K) o,eff⟩])[i]?=rs[i]?:=fun i hi=>List.getElem?_append_left hi
  have hlast:(rs++[(⟨ridk (look env) (lookB K) o,eff⟩:Rec)])[done.length]?=some ⟨ridk (look env) (lookB K) o,eff⟩:=by rw [←hlen]; simp
  have hs1:∀m,m≤done.length→acc ρ0 (fun i=>((rs++[(⟨ridk (look env) (lookB K) o,eff⟩:Rec)])[i]?.map (·.eff.dst)).getD []) (fun _=>true) m=acc ρ0 (fun i=>(rs[i]?.map (·.eff.dst)).getD []) (fun _=>true) m :=
   fun m hm=>acc_same _ _ _ m fun i hi=>by rw [hget i (by omega)]
  have hs2:∀m,m≤done.length→acc κ0 (fun i=>((rs++[(⟨ridk (look env) (lookB K) o,eff⟩:Rec)])[i]?.map (·.eff.box)).getD []) (fun _=>true) m=acc κ0 (fun i=>(rs[i]?.map (·.eff.box)).getD []) (fun _=>true) m :=
   fun m hm=>acc_same _ _ _ m fun i hi=>by rw [hget i (by omega)]
  refine adraw_sound hT hR rest (done++[o]) nx' (addE eff.dst env) (addB eff.box K) (rs++[⟨ridk (look env) (lookB K) o,eff⟩]) (by rw [hops]; simp) (by simp [hlen]) (Nat.le_trans hlo hle) (none_after hn hle hb) ?_ ?_ ?_ hk'
  ·rw [look_addE,List.length_append]
   simp only [List.length_cons,List.length_nil,Nat.zero_add,acc,if_true]
   rw [hs1 _ (Nat.le_refl _),hlast,←he]; rfl
  ·rw [lookB_addB,List.length_append]
   simp only [List.length_cons,List.length_nil,Nat.zero_add,acc,if_true]
   rw [hs2 _ (Nat.le_refl _),hlast,←hk]; rfl
  ·intro i r o' hr ho'
   rcases Nat.lt_or_ge i rs.length with hlt | hge
   ·rw [hget i hlt] at hr
    rw [hs1 i (by omega),hs2 i (by omega)]
    exact hall i r o' hr ho'
   ·have hi:i=done.length:=by
     have:=(List.getElem?_eq_some_iff.1 hr).1
     simp at this; omega
    subst hi
    rw [hlast] at hr
    injection hr with hr
    subst hr
    rw [hops] at ho'
    simp at ho'
    subst ho'
    rw [hs1 _ (Nat.le_refl _),hs2 _ (Nat.le_refl _),←he,←hk]
    exact ⟨rfl,hsnd.lo hlo⟩
end
end Go.TM
