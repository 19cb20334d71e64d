import Derived.Test.YtpbdohkbiklflaaGreatDoorSM4
import Derived.Laws.StructEq
set_option linter.unusedVariables false
set_option linter.unusedSimpArgs false
set_option linter.unusedSectionVars false
namespace Go.TM
open Go.RowKit
variable [cj]
section
variable {P:Program} {C:df→Prop} {T:List TI} {ops:List Oper} {n:Nat} {o:Oper} {nx:Nat} {ρ:Nat→AV} {κ:Nat→ak} {k:iP→Nat→Prop} {gd:Bool}
theorem Kc {x:Operand} (hg:bF ρ ops o.guard=some gd) (ho:o.op=.move x) (h:ex ρ κ gd x fun v=>aM n o gd nx k v []):Good P C ops n o nx ρ κ k:=by
 by_cases hm:eY ρ κ o=Gu ρ o
 ·obtain ⟨av,hk,bj⟩:=aB h
  refine aY (fun c=>by rw [ho]; simp) hg hk fun ρ' κ' ao g a w G ai aI=>?_
  have hv:=bj ρ' κ' (ao.Uv (by rw [ho]; simp [Op.operands]) hm) g n a w G ai aI
  exact ⟨_,by simp [execOp,ho],hv⟩
 ·unfold eY at hm
  split at hm
  ·rename_i t ht
   rw [ho] at ht
   injection ht with ht
   subst ht
   cases hb:Tl κ (ρ t) with
   | false=>rw [hb] at hm; exact absurd rfl hm
   | true =>
    generalize hρ:ρ t=v at hb
    cases v with
    | own i ver ep p =>
     simp only [Tl] at hb
     cases hk:κ i with
     | tree V E d =>
      unfold ex at h
      simp only [ev,hρ,res,hk] at h
      cases hc:Nat.beq ver V && (emp p || Nat.beq ep E) with
      | true =>
       rw [hc] at h
       simp only [cond_true] at h
       rw [force_eq] at h
       refine aY (fun c=>by rw [ho]; simp) hg h fun ρ' κ' ao g a w G ai aI=>?_
       have h1:=ai.env t
       rw [ao.bl t (by unfold Oper.looksAt; rw [ho]; exact List.mem_append.2 (.inl (by simp [Op.operands]))),hρ] at h1
       exact ⟨_,by simp only [execOp,ho]; rfl,h1⟩
      | false =>
       rw [hc] at h
       simp only [cond_false] at h
       rw [force_eq] at h
       refine aY (fun c=>by rw [ho]; simp) hg h fun ρ' κ' ao g a w G ai aI=>?_
       exact ⟨a.eval (.tmp t),by simp [execOp,ho],.any _⟩
     | _=>rw [hk] at hb; cases hb
    | _=>cases hb
  ·exact absurd rfl hm
theorem Fc {x:Operand} {av:AV} (hg:bF ρ ops o.guard=some gd) (ho:o.op=.assign x) (hk:aM n o gd nx k av []) (bj:bf ρ κ gd x av):Good P C ops n o nx ρ κ k:=by
 refine aY (fun c=>by rw [ho]; simp) hg hk fun ρ' κ' ao g a w G ai aI=>?_
 have hv:=bj ρ' κ' (ao.op (by rw [ho]; simp [Op.operands])) g n a w G ai aI
 exact ⟨_,by simp [execOp,ho],hv⟩
theorem ma {x:Operand} {av:AV} (hg:bF ρ ops o.guard=some gd) (ho:o.op=.nilCheck x) (hk:aM n o gd nx k av []) (bj:bf ρ κ gd x av)
  (hp:∀(G:Gh) (v:Value),aC G av v→∃a,v=.pointer (some a)):Good P C ops n o nx ρ κ k:=by
 refine aY (fun c=>by rw [ho]; simp) hg hk fun ρ' κ' ao g a w G ai aI=>?_
 have hv:=bj ρ' κ' (ao.op (by rw [ho]; simp [Op.operands])) g n a w G ai aI
 obtain ⟨p,hp⟩:=hp _ _ hv
 refine ⟨_,?_,hv⟩
 simp [execOp,ho,hp]
theorem G7 (hT:dV P T) {op:BinOp} {t ty:TypeId} {x y:Operand} (hg:bF ρ ops o.guard=some gd) (ho:o.op=.binOp op t x y ty)
  {va vb:AV} (MV:bf ρ κ gd x va) (MW:bf ρ κ gd y vb) (h:pQ (nth T t) op va vb gd fun v=>aM n o gd nx k v []):Good P C ops n o nx ρ κ k:=by
 obtain ⟨r,hk,hc,hr⟩:=DB (P:=P) hT h
 refine aY (fun c=>by rw [ho]; simp) hg hk fun ρ' κ' ao g a w G ai aI=>?_
 have h1:=MV ρ' κ' (ao.op (by rw [ho]; simp [Op.operands])) g n a w G ai aI
 have h2:=MW ρ' κ' (ao.op (by rw [ho]; simp [Op.operands])) g n a w G ai aI
 obtain ⟨v,h3,h4,h5,h6⟩:=hr G w _ _ aI h1 h2
 refine ⟨v,?_,.dv h4⟩
 simp only [execOp,ho,Sem.run_bind,gf op t x y _ _ h5 h6,Result.andThen_ok,h3,Sem.run_pure]
theorem MY {t:TypeId} {x:Operand} {b:Bool} (hg:bF ρ ops o.guard=some gd) (ho:o.op=.unOp .not t x) (hk:aM n o gd nx k (.dv (.bool (!b))) []) (bj:bf ρ κ gd x (.dv (.bool b))):Good P C ops n o nx ρ κ k:=by
 refine aY (fun c=>by rw [ho]; simp) hg hk fun ρ' κ' ao g a w G ai aI=>?_
 have hv:=bj ρ' κ' (ao.op (by rw [ho]; simp [Op.operands])) g n a w G ai aI
 generalize hx:a.eval x=v at hv
 cases hv with | dv hv=>cases hv with | bool =>
 exact ⟨_,by simp [execOp,ho,hx,Op.unary],.dv (.bool _)⟩
theorem MZ {t:TypeId} {x:Operand} {kd:IntKind} {m:Int} (hg:bF ρ ops o.guard=some gd) (ho:o.op=.unOp .neg t x) (hk:arith kd (0 - m) gd fun v=>aM n o gd nx k v []) (bj:bf ρ κ gd x (.dv (.int kd m))):Good P C ops n o nx ρ κ k:=by
 obtain ⟨r,hk,he⟩:=hE hk
 refine aY (fun c=>by rw [ho]; simp) hg hk fun ρ' κ' ao g a w G ai aI=>?_
 have hv:=bj ρ' κ' (ao.op (by rw [ho]; simp [Op.operands])) g n a w G ai aI
 generalize hx:a.eval x=v at hv
 cases hv with | dv hv=>cases hv with | int =>
 refine ⟨.int kd r,?_,.dv (.int kd r)⟩
 have:=he aI
 simp only [execOp,ho,hx,Op.unary,Op.intArith,this,Sem.run_bind,Sem.run_pure,Result.andThen_ok]
theorem Ci {x:Operand} {i:Nat} {l:List AV} {av:AV} (hg:bF ρ ops o.guard=some gd) (ho:o.op=.extract x i) (hk:aM n o gd nx k av []) (hl:l[i]?=some av) (bj:bf ρ κ gd x (.eJ l)):Good P C ops n o nx ρ κ k:=by
 refine aY (fun c=>by rw [ho]; simp) hg hk fun ρ' κ' ao g a w G ai aI=>?_
 have hv:=bj ρ' κ' (ao.op (by rw [ho]; simp [Op.operands])) g n a w G ai aI
 generalize hx:a.eval x=v at hv
 cases hv with
 | eJ _ vs hlen hr =>
  have hi:i<l.length:=(List.getElem?_eq_some_iff.1 hl).1
  have Uw:vs[i]?=some (vs[i]'(by omega)):=List.getElem?_eq_getElem (by omega)
  refine ⟨_,?_,hr i av _ hl Uw⟩
  simp [execOp,ho,hx,Instr.extract,Uw]
theorem kH {c x y:Operand} {b p q:Bool} (hg:bF ρ ops o.guard=some gd) (ho:o.op=.pick c x y) (hk:aM n o gd nx k (.dv (.bool (bif b then p else q))) [])
  (hc:bf ρ κ gd c (.dv (.bool b))) (hx:bf ρ κ (gd && b) x (.dv (.bool p))) (hy:bf ρ κ (gd && !b) y (.dv (.bool q))):Good P C ops n o nx ρ κ k:=by
 refine aY (fun c=>by rw [ho]; simp) hg hk fun ρ' κ' ao g a w G ai aI=>?_
 have hv:=hc ρ' κ' (ao.op (by rw [ho]; simp [Op.operands])) g n a w G ai aI
 generalize RI:a.eval c=v at hv
 cases hv with | dv hv=>cases hv with | bool =>
 subst aI
 cases b with
 | true =>
  have hv:=hx ρ' κ' (ao.op (by rw [ho]; simp [Op.operands])) g n a w G ai rfl
  generalize nC:a.eval x=v at hv
  cases hv with | dv hv=>cases hv with | bool =>
  exact ⟨_,by simp [execOp,ho,RI,nC,asBool],.dv (.bool _)⟩
 | false =>
  have hv:=hy ρ' κ' (ao.op (by rw [ho]; simp [Op.operands])) g n a w G ai rfl
  generalize nC:a.eval y=v at hv
  cases hv with | dv hv=>cases hv with | bool =>
  exact ⟨_,by simp [execOp,ho,RI,nC,asBool],.dv (.bool _)⟩
theorem kI (hT:dV P T) {t f off sz:Nat} {x:Operand} {av QL:AV} (hg:bF ρ ops o.guard=some gd) (ho:o.op=.fieldAddr t x f) (bK:(nth T t).ok=true) (hf:(nth T t).fields[f]?=some (off,sz+1))
  (hk:aM n o gd nx k QL []) (bj:bf ρ κ gd x av)
  (hp:∀(G:Gh) (v:Value),aC G av v→∃a,v=.pointer (some a)∧aC G QL (.pointer (some (a.add off)))):Good P C ops n o nx ρ κ k:=by
 obtain ⟨i,u,z,tf⟩:=hT.facts bK
 obtain ⟨fs,fd,hu,QM,JG,j,hj,Ux⟩:=tf.field hf (by omega)
 refine aY (fun c=>by rw [ho]; simp) hg hk fun ρ' κ' ao g a w G ai aI=>?_
 have hv:=bj ρ' κ' (ao.op (by rw [ho]; simp [Op.operands])) g n a w G ai aI
 obtain ⟨p,hp,LQ⟩:=hp _ _ hv
 refine ⟨_,?_,LQ⟩
 simp [execOp,ho,hp,Instr.fieldAt,run_underlying hu,QM,Instr.sureAddr,fieldPlace,g9 hj,Ux,JG]
theorem dq {agg:Bool} {l:List AV} {off sz:Nat} {ret:AV→Prop} (h:bR agg l off sz ret) :
  ∃v,ret v∧((agg=true∧off+sz≤l.length∧v=.agg ((l.drop off).take sz)) ∨ (agg=false∧l[off]?=some v)):=by
 unfold bR at h
 cases agg with
 | true =>
  simp only [cond_true] at h
  cases hb:Nat.ble (off+sz) l.length with
  | false=>rw [hb] at h; exact h.elim
  | true=>rw [hb] at h; exact ⟨_,h,.inl ⟨rfl,Nat.le_of_ble_eq_true hb,rfl⟩⟩
 | false =>
  simp only [cond_false] at h
  split at h
  ·rename_i v hv; rw [force_eq] at h; exact ⟨v,h,.inr ⟨rfl,hv⟩⟩
  ·exact h.elim
theorem iZ (hT:dV P T) {t off:Nat} {l:List AV} {av:AV} {w:World} {G:Gh} (bK:(nth T t).ok=true) (A:Addr) (vs:Nat→Value)
  (hc:∀j,j<l.length→w.cell? (A.add j)=some (vs j)) (hr:∀(j:Nat) (d:AV),l[j]?=some d→aC G d (vs j))
  (hp:((nth T t).agg=true∧off+(nth T t).size≤l.length∧av=.agg ((l.drop off).take (nth T t).size)) ∨ ((nth T t).agg=false∧l[off]?=some av)) :
  ∃v,(Instr.loadAt t (.pointer (some (A.add off)))).run P w=.ok v w∧aC G av v:=by
 obtain ⟨i,u,z,tf⟩:=hT.facts bK
 rcases hp with ⟨ha,hle,rfl⟩ | ⟨ha,hl⟩
 ·refine ⟨.agg ((List.range (nth T t).size).map fun j=>vs (off+j)).toArray,?_,?_⟩
  ·have:=run_loadCells (P:=P) w (A.add off) (nth T t).size (fun j=>vs (off+j)) (fun j hj=>by rw [cq]; exact hc _ (by omega))
   simp only [Instr.loadAt,Instr.sureAddr,Sem.run_bind,Sem.run_pure,Result.andThen_ok,loadVar,tf.rn w,ha,if_true,tf.eD w,this]
  ·refine .agg _ _ (by simp; omega) fun j d v hd hv=>?_
   rw [List.getElem?_take] at hd
   split at hd
   ·rename_i hj
    rw [List.getElem?_drop] at hd
    simp [hj] at hv
    subst hv
    exact hr _ _ hd
   ·cases hd
 ·have aK:off<l.length:=(List.getElem?_eq_some_iff.1 hl).1
  refine ⟨vs off,?_,hr _ _ hl⟩
  simp only [Instr.loadAt,Instr.sureAddr,Sem.run_bind,Sem.run_pure,Result.andThen_ok,loadVar,tf.rn w,ha,Bool.false_eq_true,if_false,run_load,hc off aK]
theorem zV (hT:dV P T) {t i off:Nat} {x:Operand} {l:List AV} (hg:bF ρ ops o.guard=some gd) (ho:o.op=.load t x) (bK:(nth T t).ok=true) (hb:κ i=.cells l)
  (hk:bR (nth T t).agg l off (nth T t).size fun v=>aM n o gd nx k v [i]) (bj:bf ρ κ gd x (.ptr i off)):Good P C ops n o nx ρ κ k:=by
 obtain ⟨av,hk,hp⟩:=dq hk
 refine aY (fun c=>by rw [ho]; simp) hg hk fun ρ' κ' ao g a w G ai aI=>?_
 have hv:=bj ρ' κ' (ao.op (by rw [ho]; simp [Op.operands])) g n a w G ai aI
 have dD:κ' i=.cells l:=(ao.reads i (by simp)).trans hb
 have qI:=ai.fit.box i
 rw [dD] at qI
 obtain ⟨b,c,tt,RJ,hw,aN,jL,hr⟩:=qI
 generalize hx:a.eval x=v at hv
 cases hv with
 | ptr _ _ b' ym =>
 rw [RJ] at ym; injection ym with ym; subst ym
 have hA:(⟨b,off,none⟩:Addr)=(⟨b,0,none⟩:Addr).add off:=by rw [cw]; simp
 obtain ⟨v,h1,h2⟩:=iZ (P:=P) (av:=av) (w:=w) (G:=G) (l:=l) (off:=off) hT bK ⟨b,0,none⟩ (fun j=>c.getD j undef) (fun j hj=>by
   rw [cw]
   simp [World.cell?,hw,aN,hj]) (fun j d hd=>by
   have hj:j<l.length:=(List.getElem?_eq_some_iff.1 hd).1
   exact hr j d _ hd (by simp [aN,hj])) hp
 refine ⟨v,?_,h2⟩
 rw [←hA] at h1
 simp only [execOp,ho,hx,Sem.run_bind,h1,Result.andThen_ok,Sem.run_pure]
theorem Cg (hT:dV P T) {t off:Nat} {x:Operand} {y:DV} (hg:bF ρ ops o.guard=some gd) (ho:o.op=.load t x) (bK:(nth T t).ok=true)
  (hk:bR (nth T t).agg (j4 y.cells) off (nth T t).size fun v=>aM n o gd nx k v []) (bj:bf ρ κ gd x (.dv (.at y off))):Good P C ops n o nx ρ κ k:=by
 obtain ⟨av,hk,hp⟩:=dq hk
 refine aY (fun c=>by rw [ho]; simp) hg hk fun ρ' κ' ao g a w G ai aI=>?_
 have hv:=bj ρ' κ' (ao.op (by rw [ho]; simp [Op.operands])) g n a w G ai aI
 generalize hx:a.eval x=v at hv
 cases hv with | dv hv=>cases hv with
 | _ =>
  rename_i A cell jL hc hr
  obtain ⟨v,h1,h2⟩:=iZ (P:=P) (av:=av) (w:=w) (G:=G) (l:=j4 y.cells) (off:=off) hT bK A cell (fun j hj=>ai.fit.sub.cell (hc j (by simpa [ly] using hj))) (fun j d hd=>by
   obtain ⟨d',iG,rfl⟩:=JA hd
   exact .dv (hr j d' iG)) hp
  refine ⟨v,?_,h2⟩
  simp only [execOp,ho,hx,Sem.run_bind,h1,Result.andThen_ok,Sem.run_pure]
theorem bp {gd:Bool}:∀{p:List PS} {d:DV} {k:DV→Prop},gN gd d p k→∃nd,k nd∧(gd=true→get d p=some nd)
 | [],d,k,h=>⟨d,h,fun _=>rfl⟩
 | s::p,d,k,h=>by
  cases d <;> cases s <;> simp only [gN] at h <;> (try exact h.elim)
  ·obtain ⟨x,hx,h⟩:=h
   split at h
   ·rename_i c hc
    obtain ⟨nd,h1,h2⟩:=bp h
    exact ⟨nd,h1,fun hg=>by simp only [get,step,hx hg,hc]; exact h2 hg⟩
   ·exact h.elim
  ·rename_i x i j
   cases hb:Nat.beq i 0 with
   | false=>rw [hb] at h; exact h.elim
   | true =>
    rw [hb] at h
    simp only [cond_true] at h
    split at h
    ·rename_i c hc
     obtain ⟨nd,h1,h2⟩:=bp h
     exact ⟨nd,h1,fun hg=>by simp only [get,step,hb,cond_true,hc]; exact h2 hg⟩
    ·exact h.elim
  ·obtain ⟨x,hx,h⟩:=h
   split at h
   ·rename_i c hc
    obtain ⟨nd,h1,h2⟩:=bp h
    exact ⟨nd,h1,fun hg=>by simp only [get,step,hx hg,hc]; exact h2 hg⟩
   ·exact h.elim
theorem eb:∀{p:List PS} {d nd:DV} {k:DV→Prop},qQ d p nd k→k (bH d p nd)∧∃c,get d p=some c
 | [],d,nd,k,h=>⟨h,d,rfl⟩
 | s::p,d,nd,k,h=>by
  cases d <;> cases s <;> simp only [qQ] at h <;> (try exact h.elim)
  ·rename_i sz l i j
   obtain ⟨x,hx,h⟩:=h
   split at h
   ·rename_i c hc
    obtain ⟨h1,c',h2⟩:=eb h
    exact ⟨by simp only [bH,step,hx,hc,put]; exact h1,c',by simp only [get,step,hx,hc]; exact h2⟩
   ·exact h.elim
  ·rename_i x i j
   cases hb:Nat.beq i 0 with
   | false=>rw [hb] at h; exact h.elim
   | true =>
    rw [hb] at h
    simp only [cond_true] at h
    split at h
    ·rename_i c hc
     obtain ⟨h1,c',h2⟩:=eb h
     exact ⟨by simp only [bH,step,hb,cond_true,hc,put]; exact h1,c',by simp only [get,step,hb,cond_true,hc]; exact h2⟩
    ·exact h.elim
  ·rename_i s m kk j
   obtain ⟨x,hx,h⟩:=h
   split at h
   ·rename_i c hc
    obtain ⟨h1,c',h2⟩:=eb h
    exact ⟨by simp only [bH,step,hx,hc,put]; exact h1,c',by simp only [get,step,hx,hc]; exact h2⟩
   ·exact h.elim
theorem c6 {ver aT ep bz:Nat} {p:List PS} (h:(Nat.beq ver aT && (emp p || Nat.beq ep bz))=true):ver=aT∧(p=[] ∨ ep=bz):=by
 simp only [Bool.and_eq_true,Bool.or_eq_true] at h
 refine ⟨Nat.eq_of_beq_eq_true h.1,?_⟩
 rcases h.2 with h | h
 ·left; cases p with
  | nil=>rfl
  | cons=>simp [emp] at h
 ·right; exact Nat.eq_of_beq_eq_true h
theorem cB {H:Nat→Nat→Nat→List PS→Option Value} {i ver ep bz:Nat} {p:List PS} (h:p=[] ∨ ep=bz):az H i ver ep p=az H i ver bz p:=by
 rcases h with rfl | rfl <;> rfl
theorem Fit.node {κ:Nat→ak} {w:World} {G:Gh} (ai:Fit G w κ) {i ver ep:Nat} {d nd:DV} {p:List PS} (hk:κ i=.tree ver ep d) (hp:get d p=some nd) (ho:nd.ae=true) :
  ∃v,az G.H i ver ep p=some v∧v.oneCell'=true∧bQ G.M w v (fun s=>az G.H i ver ep (p++[s])) nd:=by
 have hb:=ai.box i
 rw [hk] at hb
 exact hb.1.2 p nd hp ho
theorem vA {G:Gh} {i ver ep:Nat} {p:List PS} {s:PS} {d:DV} {u:Value} (hc:d.aj=true) (h:cW G.M (az G.H i ver ep (p++[s])) d u) (hu:d.ae=true→u.oneCell'=true):aC G (r7 i ver ep p s d) u:=by
 rcases h with ⟨h1,h2⟩ | ⟨h1,h2⟩
 ·simp only [r7,h1,cond_true]; exact .own _ _ _ _ _ h2 (hu h1)
 ·simp only [r7,h1,cond_false]; exact .dv h2
theorem vB {i ver ep:Nat} {p:List PS} {idx:Nat}:∀{l:List DV} {s j:Nat} {v:AV},(jd i ver ep p idx s l)[j]?=some v→∃d,l[j]?=some d∧v=r7 i ver ep p (.el idx (s+j)) d
 | [],s,j,v,h=>by simp [jd] at h
 | d::l,s,0,v,h=>by simp [jd] at h; exact ⟨d,rfl,h.symm⟩
 | d::l,s,j+1,v,h=>by
  simp only [jd,List.getElem?_cons_succ] at h
  obtain ⟨d',h1,h2⟩:=vB h
  exact ⟨d',by simpa using h1,by rw [h2]; congr 2; omega⟩
theorem lz {i ver ep:Nat} {p:List PS} {idx:Nat}:∀{l:List DV} {s:Nat},(jd i ver ep p idx s l).length=l.length
 | [],s=>rfl
 | d::l,s=>by simp [jd,lz]
theorem vD {i ver ep:Nat} {p:List PS} {kk:DV}:∀{l:List DV} {s j:Nat} {v:AV},(je i ver ep p kk s l)[j]?=some v→∃d,l[j]?=some d∧v=r7 i ver ep p (.key kk (s+j)) d
 | [],s,j,v,h=>by simp [je] at h
 | d::l,s,0,v,h=>by simp [je] at h; exact ⟨d,rfl,h.symm⟩
 | d::l,s,j+1,v,h=>by
  simp only [je,List.getElem?_cons_succ] at h
  obtain ⟨d',h1,h2⟩:=vD h
  exact ⟨d',by simpa using h1,by rw [h2]; congr 2; omega⟩
theorem lA {i ver ep:Nat} {p:List PS} {kk:DV}:∀{l:List DV} {s:Nat},(je i ver ep p kk s l).length=l.length
 | [],s=>rfl
 | d::l,s=>by simp [je,lA]
theorem Fit.cells {κ:Nat→ak} {w:World} {G:Gh} (ai:Fit G w κ) {i ver ep:Nat} {d nd:DV} {p:List PS} (hk:κ i=.tree ver ep d) (hp:get d p=some nd) {sz idx:Nat} {K:List AV→Prop} {A:Addr}
  (hA:az G.H i ver ep p=some (.pointer (some A)) ∨ ∃m c,az G.H i ver ep p=some (.slice (some A) m c)) {l:List AV} (hl:(∃l0 x,nd=.ar sz l0∧l0[idx]?=some x∧l=jd i ver ep p idx 0 x.cells) ∨ (∃x,nd=.dG x∧idx=0∧l=jd i ver ep p 0 0 x.cells)) :
  ∃vs:Nat→Value,(∀j,j<l.length→w.cell? ((A.add (idx * sz)).add j)=some (vs j))∧∀(j:Nat) (d:AV),l[j]?=some d→aC G d (vs j):=by
 have gS:∀s c u,step nd s=some c→c.ae=true→az G.H i ver ep (p++[s])=some u→u.oneCell'=true:=by
  intro s c u hs hc hu
  obtain ⟨v,h1,h2,_⟩:=ai.node hk (p:=p++[s]) (nd:=c) (by rw [get_append,hp]; simp [get,hs]) hc
  rw [h1] at hu; injection hu with hu; subst hu; exact h2
 rcases hl with ⟨l0,x,rfl,hx,rfl⟩ | ⟨x,rfl,rfl,rfl⟩
 ·obtain ⟨v,h1,h2,aS⟩:=ai.node hk hp rfl
  rcases aS with ⟨rfl,_⟩ | ⟨gb,ob,cap,c,t,rfl,dY,hw,aN,nC⟩
  ·simp at hx
  ·have To:A=⟨gb,ob,none⟩:=by
    rcases hA with hA | ⟨m,cc,hA⟩
    ·rw [h1] at hA; cases hA
    ·rw [h1] at hA; injection hA with hA; injection hA with hA; injection hA with hA; exact hA.symm
   subst To
   obtain ⟨a1,a2⟩:=nC idx x hx
   refine ⟨fun j=>c.getD (ob+idx * sz+j) undef,fun j hj=>?_,fun j dd hd=>?_⟩
   ·rw [lz] at hj
    obtain ⟨_,u,b1,_⟩:=a2 j _ (List.getElem?_eq_getElem hj)
    rw [cq,cw]
    simp only [World.cell?,hw]
    rw [show ob+(idx * sz+j)=ob+idx * sz+j by omega,Array.getD_eq_getD_getElem?,b1]
    rfl
   ·obtain ⟨d0,e1,rfl⟩:=vB hd
    obtain ⟨b0,u,b1,b2⟩:=a2 j d0 e1
    show aC G _ (c.getD (ob+idx * sz+j) undef)
    rw [Array.getD_eq_getD_getElem?,b1,Nat.zero_add]
    refine vA b0 b2 fun ho=>?_
    rcases b2 with ⟨_,b2⟩ | ⟨b2,_⟩
    ·exact gS (.el idx j) d0 u (by simp only [step,hx]; exact e1) ho b2
    ·rw [ho] at b2; cases b2
 ·obtain ⟨v,h1,h2,aS⟩:=ai.node hk hp rfl
  obtain ⟨gb,c,t,rfl,hw,aN,nC⟩:=aS
  have To:A=⟨gb,0,none⟩:=by
   rcases hA with hA | ⟨m,cc,hA⟩
   ·rw [h1] at hA; injection hA with hA; injection hA with hA; injection hA with hA; exact hA.symm
   ·rw [h1] at hA; cases hA
  subst To
  refine ⟨fun j=>c.getD j undef,fun j hj=>?_,fun j dd hd=>?_⟩
  ·rw [lz] at hj
   obtain ⟨_,u,b1,_⟩:=nC j _ (List.getElem?_eq_getElem hj)
   rw [cq,cw]
   simp only [World.cell?,hw]
   rw [show 0+(0 * sz+j)=j by omega,Array.getD_eq_getD_getElem?,b1]
   rfl
  ·obtain ⟨d0,e1,rfl⟩:=vB hd
   obtain ⟨b0,u,b1,b2⟩:=nC j d0 e1
   show aC G _ (c.getD j undef)
   rw [Array.getD_eq_getD_getElem?,b1,Nat.zero_add]
   refine vA b0 b2 fun ho=>?_
   rcases b2 with ⟨_,b2⟩ | ⟨b2,_⟩
   ·exact gS (.el 0 j) d0 u (by simp [step]; exact e1) ho b2
   ·rw [ho] at b2; cases b2
theorem zW (hT:dV P T) {t i ver ep bz sz idx off:Nat} {p:List PS} {x:Operand} {d:DV} (hg:bF ρ ops o.guard=some gd) (ho:o.op=.load t x) (bK:(nth T t).ok=true)
  (hb:κ i=.tree ver bz d) (c9:p=[] ∨ ep=bz)
  (hk:gN gd d p fun nd=>iI i ver bz p gd sz idx nd fun l=>bR (nth T t).agg l off (nth T t).size fun v=>aM n o gd nx k v [i]) (bj:bf ρ κ gd x (.loc i ver ep p sz idx off)):Good P C ops n o nx ρ κ k:=by
 obtain ⟨nd,hk,cT⟩:=bp hk
 have nO:∃l,(bR (nth T t).agg l off (nth T t).size fun v=>aM n o gd nx k v [i])∧(gd=true→(∃l0 x,nd=.ar sz l0∧l0[idx]?=some x∧l=jd i ver bz p idx 0 x.cells) ∨ (∃x,nd=.dG x∧idx=0∧l=jd i ver bz p 0 0 x.cells)):=by
  unfold iI at hk
  split at hk
  ·rename_i oe l0
   cases hs:Nat.beq sz oe with
   | false=>rw [hs] at hk; exact hk.elim
   | true =>
    rw [hs] at hk
    have:=Nat.eq_of_beq_eq_true hs
    subst this
    obtain ⟨x,hx,hk⟩:=hk
    exact ⟨_,hk,fun aI=>.inl ⟨l0,x,rfl,hx aI,rfl⟩⟩
  ·rename_i x
   cases hs:Nat.beq idx 0 with
   | false=>rw [hs] at hk; exact hk.elim
   | true =>
    rw [hs] at hk
    exact ⟨_,hk,fun _=>.inr ⟨x,rfl,Nat.eq_of_beq_eq_true hs,rfl⟩⟩
  ·exact hk.elim
 obtain ⟨l,hk,hl⟩:=nO
 obtain ⟨av,hk,hp⟩:=dq hk
 refine aY (fun c=>by rw [ho]; simp) hg hk fun ρ' κ' ao g a w G ai aI=>?_
 have hv:=bj ρ' κ' (ao.op (by rw [ho]; simp [Op.operands])) g n a w G ai aI
 have dD:κ' i=.tree ver bz d:=(ao.reads i (by simp)).trans hb
 have key:∀A,a.eval x=.pointer (some (A.add (idx * sz+off)))→(az G.H i ver ep p=some (.pointer (some A)) ∨ ∃m c,az G.H i ver ep p=some (.slice (some A) m c))→∃v,(execOp a.eval o).run P w=.ok (.value v) w∧aC G av v:=by
  intro A hx hA
  rw [cB c9] at hA
  obtain ⟨vs,h1,h2⟩:=ai.fit.cells (K:=fun _=>True) dD (cT aI) hA (hl aI)
  obtain ⟨v,h3,h4⟩:=iZ (P:=P) (av:=av) (w:=w) (G:=G) (l:=l) (off:=off) hT bK (A.add (idx * sz)) vs h1 h2 hp
  rw [cq] at h3
  exact ⟨v,by simp only [execOp,ho,hx,Sem.run_bind,h3,Result.andThen_ok,Sem.run_pure],h4⟩
 generalize hx:a.eval x=v at hv
 cases hv with
 | loc _ _ _ _ _ _ _ A m c h=>exact key A hx (.inr ⟨m,c,h⟩)
 | lP _ _ _ _ _ _ _ A h=>exact key A hx (.inl h)
end
end Go.TM
namespace Go.TM
open Go.RowKit
variable [cj]
theorem add_zero' (a:Addr):a.add 0=a:=by simp [Addr.add]
section
variable {P:Program} {C:df→Prop} {T:List TI} {ops:List Oper} {n:Nat} {o:Oper} {nx:Nat} {ρ:Nat→AV} {κ:Nat→ak} {k:iP→Nat→Prop} {gd:Bool}
theorem zT (hT:dV P T) {t:Nat} {x i:Operand} {sz:Nat} {l:List DV} {y:DV} {kd:IntKind} {m:Int} (hg:bF ρ ops o.guard=some gd) (ho:o.op=.indexAddr t x i)
  (bK:(nth T t).ok=true) (im:(nth T t).isSl=true) (m5:(nth T (nth T t).elem).ok=true) (aN:sz=(nth T (nth T t).elem).size)
  (hy:gd=true→0≤m∧l[m.toNat]?=some y) (hk:aM n o gd nx k (.dv (.at y 0)) []) (bj:bf ρ κ gd x (.dv (.sl sz l))) (l9:bf ρ κ gd i (.dv (.int kd m))):Good P C ops n o nx ρ κ k:=by
 obtain ⟨ti,u,z,tf⟩:=hT.facts bK
 obtain ⟨te,ue,ze,hJ⟩:=hT.facts m5
 refine aY (fun c=>by rw [ho]; simp) hg hk fun ρ' κ' ao g a w G ai aI=>?_
 have hv:=bj ρ' κ' (ao.op (by rw [ho]; simp [Op.operands])) g n a w G ai aI
 have eH:=l9 ρ' κ' (ao.op (by rw [ho]; simp [Op.operands])) g n a w G ai aI
 generalize hx:a.eval x=v at hv
 generalize hi:a.eval i=vi at eH
 obtain ⟨Fk,OA⟩:=hy aI
 have aK:m.toNat<l.length:=(List.getElem?_eq_some_iff.1 OA).1
 cases eH with | dv eH=>cases eH with | int =>
 cases hv with | dv hv=>cases hv with
 | slnil=>simp at aK
 | sl _ _ A cap cell dY hlen hc hr =>
  have eK:0≤m∧m<(l.length:Int):=⟨Fk,by omega⟩
  refine ⟨.pointer (some (A.add (m.toNat * sz))),?_,?_⟩
  ·have n9:=hJ.eD w
   rw [←aN] at n9
   simp [execOp,ho,hx,hi,Instr.indexAt,run_underlying (tf.slice im),asIntOf,eK,n9]
  ·have:=bc.at (M:=G.M) y 0 (A.add (m.toNat * sz)) (fun j=>cell m.toNat j) (hlen y (List.mem_of_getElem? OA)).2
    (fun j hj=>by rw [cq]; exact hc _ _ aK (by rw [(hlen y (List.mem_of_getElem? OA)).1] at hj; exact hj))
    (fun j d hd=>hr _ y j d OA hd)
   rw [add_zero'] at this
   exact .dv this
theorem kJ (hT:dV P T) {t:Nat} {x i:Operand} {av QL:AV} {kd:IntKind} {m:Int} (hg:bF ρ ops o.guard=some gd) (ho:o.op=.indexAddr t x i)
  (bK:(nth T t).ok=true) (zU:(nth T t).kind=10) (m5:(nth T (nth T t).elem).ok=true) (hm:gd=true→0≤m∧m<(nth T t).len)
  (hk:aM n o gd nx k QL []) (bj:bf ρ κ gd x av) (l9:bf ρ κ gd i (.dv (.int kd m)))
  (hp:∀(G:Gh) (v:Value),aC G av v→∃a,v=.pointer (some a)∧aC G QL (.pointer (some (a.add (m.toNat * (nth T (nth T t).elem).size))))):Good P C ops n o nx ρ κ k:=by
 obtain ⟨ti,u,z,tf⟩:=hT.facts bK
 obtain ⟨te,ue,ze,hJ⟩:=hT.facts m5
 refine aY (fun c=>by rw [ho]; simp) hg hk fun ρ' κ' ao g a w G ai aI=>?_
 have hv:=bj ρ' κ' (ao.op (by rw [ho]; simp [Op.operands])) g n a w G ai aI
 have eH:=l9 ρ' κ' (ao.op (by rw [ho]; simp [Op.operands])) g n a w G ai aI
 generalize hi:a.eval i=vi at eH
 cases eH with | dv eH=>cases eH with | int =>
 obtain ⟨p,hp,LQ⟩:=hp _ _ hv
 refine ⟨_,?_,LQ⟩
 have hu:P.underlying t=some (.array (nth T t).len (nth T t).elem):=by
  have h1:=tf.kind
  rw [zU] at h1
  have h2:=tf.len
  have h3:=tf.elem
  rw [tf.wL]
  cases u <;> simp [kindOf] at h1
  simp [lenOf] at h2
  simp [IB] at h3
  rw [h2,h3]
 have eK:=hm aI
 simp [execOp,ho,hp,hi,Instr.indexAt,run_underlying hu,asIntOf,Instr.sureAddr,eK,hJ.eD w]
theorem xZ (hT:dV P T) {t:Nat} {x i:Operand} {id ver ep bz sz:Nat} {p:List PS} {d:DV} {l:List DV} {kd:IntKind} {m:Int} (hg:bF ρ ops o.guard=some gd) (ho:o.op=.indexAddr t x i)
  (bK:(nth T t).ok=true) (im:(nth T t).isSl=true) (m5:(nth T (nth T t).elem).ok=true) (aN:sz=(nth T (nth T t).elem).size) (hb:κ id=.tree ver bz d) (c9:p=[] ∨ ep=bz) (cT:gd=true→get d p=some (.ar sz l))
  (hy:gd=true→0≤m∧m<l.length) (hk:aM n o gd nx k (.loc id ver ep p sz m.toNat 0) [id]) (bj:bf ρ κ gd x (.own id ver ep p)) (l9:bf ρ κ gd i (.dv (.int kd m))):Good P C ops n o nx ρ κ k:=by
 obtain ⟨ti,u,z,tf⟩:=hT.facts bK
 obtain ⟨te,ue,ze,hJ⟩:=hT.facts m5
 refine aY (fun c=>by rw [ho]; simp) hg hk fun ρ' κ' ao g a w G ai aI=>?_
 have hv:=bj ρ' κ' (ao.op (by rw [ho]; simp [Op.operands])) g n a w G ai aI
 have eH:=l9 ρ' κ' (ao.op (by rw [ho]; simp [Op.operands])) g n a w G ai aI
 generalize hx:a.eval x=v at hv
 generalize hi:a.eval i=vi at eH
 obtain ⟨Fk,OA⟩:=hy aI
 have dD:κ' id=.tree ver bz d:=(ao.reads id (by simp)).trans hb
 obtain ⟨u,h1,_,aS⟩:=ai.fit.node dD (cT aI) rfl
 cases eH with | dv eH=>cases eH with | int =>
 cases hv with
 | own _ _ _ _ _ hh hc =>
  have vW:=hh
  rw [cB c9,h1] at hh
  injection hh with hh
  subst hh
  rcases aS with ⟨rfl,_⟩ | ⟨gb,ob,cap,cc,tt,rfl,dY,hw,RW,BR⟩
  ·simp at OA; omega
  ·have eK:0≤m∧m<(l.length:Int):=⟨Fk,OA⟩
   refine ⟨.pointer (some ((⟨gb,ob,none⟩:Addr).add (m.toNat * sz))),?_,?_⟩
   ·have n9:=hJ.eD w
    rw [←aN] at n9
    simp [execOp,ho,hx,hi,Instr.indexAt,run_underlying (tf.slice im),asIntOf,eK,n9]
   ·have:=aC.loc (G:=G) id ver ep p sz m.toNat 0 _ _ _ vW
    rwa [Nat.add_zero] at this
theorem x3 (hT:dV P T) {t:Nat} {x i:Operand} {id len:Nat} {kd:IntKind} {m:Int} (hg:bF ρ ops o.guard=some gd) (ho:o.op=.indexAddr t x i)
  (bK:(nth T t).ok=true) (im:(nth T t).isSl=true) (m5:(nth T (nth T t).elem).ok=true)
  (hy:gd=true→0≤m∧m<len) (hk:aM n o gd nx k (.ptr id (m.toNat * (nth T (nth T t).elem).size)) []) (bj:bf ρ κ gd x (.sle id len)) (l9:bf ρ κ gd i (.dv (.int kd m))):Good P C ops n o nx ρ κ k:=by
 obtain ⟨ti,u,z,tf⟩:=hT.facts bK
 obtain ⟨te,ue,ze,hJ⟩:=hT.facts m5
 refine aY (fun c=>by rw [ho]; simp) hg hk fun ρ' κ' ao g a w G ai aI=>?_
 have hv:=bj ρ' κ' (ao.op (by rw [ho]; simp [Op.operands])) g n a w G ai aI
 have eH:=l9 ρ' κ' (ao.op (by rw [ho]; simp [Op.operands])) g n a w G ai aI
 generalize hx:a.eval x=v at hv
 generalize hi:a.eval i=vi at eH
 have eK:=hy aI
 cases eH with | dv eH=>cases eH with | int =>
 cases hv with
 | sle _ _ b hb =>
  refine ⟨.pointer (some ((⟨b,0,none⟩:Addr).add (m.toNat * (nth T (nth T t).elem).size))),?_,?_⟩
  ·have n9:=hJ.eD w
   simp [execOp,ho,hx,hi,Instr.indexAt,run_underlying (tf.slice im),asIntOf,eK,n9]
  ·rw [cw,Nat.zero_add]; exact .ptr _ _ b hb
theorem x4 (hT:dV P T) {t:Nat} {x i:Operand} {id ver ep sz lo len:Nat} {p:List PS} {kd:IntKind} {m:Int} (hg:bF ρ ops o.guard=some gd) (ho:o.op=.indexAddr t x i)
  (bK:(nth T t).ok=true) (im:(nth T t).isSl=true) (m5:(nth T (nth T t).elem).ok=true) (aN:sz=(nth T (nth T t).elem).size)
  (hy:gd=true→0≤m∧m<len) (hk:aM n o gd nx k (.loc id ver ep p sz (lo+m.toNat) 0) []) (bj:bf ρ κ gd x (.pre id ver ep p sz lo len)) (l9:bf ρ κ gd i (.dv (.int kd m))):Good P C ops n o nx ρ κ k:=by
 obtain ⟨ti,u,z,tf⟩:=hT.facts bK
 obtain ⟨te,ue,ze,hJ⟩:=hT.facts m5
 refine aY (fun c=>by rw [ho]; simp) hg hk fun ρ' κ' ao g a w G ai aI=>?_
 have hv:=bj ρ' κ' (ao.op (by rw [ho]; simp [Op.operands])) g n a w G ai aI
 have eH:=l9 ρ' κ' (ao.op (by rw [ho]; simp [Op.operands])) g n a w G ai aI
 generalize hx:a.eval x=v at hv
 generalize hi:a.eval i=vi at eH
 have eK:=hy aI
 cases eH with | dv eH=>cases eH with | int =>
 cases hv with
 | pre _ _ _ _ _ _ _ q c hh =>
  obtain ⟨A,N,c',hq,rfl⟩:=hh (by omega)
  refine ⟨.pointer (some ((A.add (lo * sz)).add (m.toNat * sz))),?_,?_⟩
  ·have n9:=hJ.eD w
   rw [←aN] at n9
   simp [execOp,ho,hx,hi,Instr.indexAt,run_underlying (tf.slice im),asIntOf,eK,n9]
  ·rw [cq,←Nat.add_mul]
   have:=aC.loc (G:=G) id ver ep p sz (lo+m.toNat) 0 _ _ _ hq
   rwa [Nat.add_zero] at this
theorem od (hT:dV P T) {t:Nat} {x:Operand} {c:Call} {av:AV} {m:Int} {rd:List Nat} (hg:bF ρ ops o.guard=some gd) (ho:o.op=.call c) (hc:c.callee=.builtin .len) (ha:c.args.toList=[x]) (iH:c.argTypes.toList=[t])
  (hk:aM n o gd nx k (.dv (.int .i64 m)) rd) (bj:bf ρ κ gd x av) (bK:(nth T t).ok=true)
  (hp:gd=true→∀κ',(∀i,i∈rd→κ' i=κ i)→∀(G:Gh) (w:World) (v:Value),Fit G w κ'→aC G av v →
   ((nth T t).isSl=true∧∃p l c,v=.slice p l c∧(l:Int)=m) ∨ ((nth T t).isStr=true∧∃s,v=.string s∧(s.size:Int)=m) ∨
   (Nat.beq (nth T t).kind 6=true∧∃b es clock,v=.map (some b)∧w.heap[b]?=some (.map es clock)∧(es.size:Int)=m)):Good P C ops n o nx ρ κ k:=by
 have bG:c.args=#[x]:=Array.ext' (by simpa using ha)
 have DC:c.argTypes=#[t]:=Array.ext' (by simpa using iH)
 refine aY (fun c=>by rw [ho]; simp) hg hk fun ρ' κ' ao g a w G ai aI=>?_
 have hv:=bj ρ' κ' (ao.op (by rw [ho]; simp [Op.operands,Call.operands,hc,bG])) g n a w G ai aI
 refine ⟨.int .i64 m,?_,.dv (.int _ _)⟩
 obtain ⟨ti,u,z,tf⟩:=hT.facts bK
 rcases hp aI κ' ao.reads G w _ ai.fit hv with ⟨im,p,l,cc,Im,hm⟩ | ⟨im,s,Im,hm⟩ | ⟨Wf,b,es,clock,Im,hw,hm⟩
 ·simp [execOp,ho,resolve,hc,bG,DC,invoke,builtin,Builtin.len_,run_underlying (tf.slice im),Im,goInt,hm]
 ·simp [execOp,ho,resolve,hc,bG,DC,invoke,builtin,Builtin.len_,run_underlying (tf.string im),Im,goInt,hm]
 ·have hu:∃kt et,P.underlying t=some (.map kt et):=by
   have h1:=tf.kind
   rw [Nat.eq_of_beq_eq_true Wf] at h1
   cases u <;> simp [kindOf] at h1
   exact ⟨_,_,tf.wL⟩
  obtain ⟨kt,et,hu⟩:=hu
  simp [execOp,ho,resolve,hc,bG,DC,invoke,builtin,Builtin.len_,run_underlying hu,Im,goInt,hm,MapKept.run_getObj_map hw]
theorem fa {w:World} {t e:TypeId} (hu:P.underlying t=some (.slice e)) (a:Option Addr) (l c:Nat):(Op.equal t (.slice a l c) (.slice none 0 0)).run P w=.ok a.isNone w:=by
 have h:∀d,(Op.equalIn (d+1) t (.slice a l c) (.slice none 0 0)).run P w=.ok a.isNone w:=fun d=>by
  cases a <;> simp [Op.equalIn,run_underlying hu]
 simp only [Op.equal,Op.maxDepth,h 9999]
theorem OB {b:Bool} {p:Prop} (h:bif b then p else False):b=true∧p:=by
 cases b with
 | false=>exact h.elim
 | true=>exact ⟨rfl,h⟩
theorem zp {κ:Nat→ak} {gd:Bool} {a:AV} {k:Option Bool→List Nat→Prop} (h:vn κ gd a k):∃c rd,k c rd∧(gd=true→∀κ',(∀i,i∈rd→κ' i=κ i)→∀(G:Gh) (w:World) (v:Value),Fit G w κ'→aC G a v→∃p l cc,v=.slice p l cc∧∀b,c=some b→p.isNone=b):=by
 unfold vn at h
 split at h
 ·refine ⟨_,_,h,fun _ κ' _ G w v _ hv=>?_⟩
  cases hv with | dv hv=>cases hv with | aD=>exact ⟨_,_,_,rfl,fun b hb=>by injection hb⟩
 ·rcases h with h | ⟨hl,h⟩
  ·refine ⟨_,_,h,fun _ κ' _ G w v _ hv=>?_⟩
   cases hv with | dv hv=>cases hv with
   | slnil=>exact ⟨_,_,_,rfl,fun b hb=>by cases hb⟩
   | sl=>exact ⟨_,_,_,rfl,fun b hb=>by cases hb⟩
  ·refine ⟨_,_,h,fun _ κ' _ G w v _ hv=>?_⟩
   cases hv with | dv hv=>cases hv with
   | slnil=>exact absurd rfl hl
   | sl=>exact ⟨_,_,_,rfl,fun b hb=>by injection hb⟩
 ·rename_i i ver ep p
  split at h
  ·rename_i aT bz d hk
   have hh:=OB h; clear h; obtain ⟨hb,h⟩:=hh
   obtain ⟨rfl,c9⟩:=c6 hb
   obtain ⟨nd,h,cT⟩:=bp h
   split at h
   ·rename_i sz l
    have key:gd=true→∀κ',(∀j,j∈[i]→κ' j=κ j)→∀(G:Gh) (w:World) (v:Value),Fit G w κ'→aC G (.own i ver ep p) v→∃q m cc,v=.slice q m cc∧(l ≠ []→q.isNone=false):=by
     intro aI κ' ao G w v hf hv
     have ed:=(ao i (by simp)).trans hk
     obtain ⟨u,e1,e2,e3⟩:=hf.node ed (cT aI) rfl
     cases hv with | own _ _ _ _ _ hh hc =>
     rw [cB c9] at hh
     rw [hh] at e1; injection e1 with e1; subst e1
     rcases e3 with ⟨kE,hx⟩ | ⟨gb,o,cap,c,tt,hx,_⟩
     ·exact ⟨_,_,_,hx,fun hl=>absurd kE hl⟩
     ·exact ⟨_,_,_,hx,fun _=>rfl⟩
    rcases h with h | ⟨hl,h⟩
    ·refine ⟨_,_,h,fun aI κ' ao G w v hf hv=>?_⟩
     obtain ⟨q,m,cc,e,_⟩:=key aI κ' ao G w v hf hv
     exact ⟨q,m,cc,e,fun b hb=>by cases hb⟩
    ·refine ⟨_,_,h,fun aI κ' ao G w v hf hv=>?_⟩
     obtain ⟨q,m,cc,e,e2⟩:=key aI κ' ao G w v hf hv
     exact ⟨q,m,cc,e,fun b hb=>by injection hb with hb; rw [e2 hl,hb]⟩
   ·exact h.elim
  ·exact h.elim
 ·refine ⟨_,_,h,fun _ κ' _ G w v _ hv=>?_⟩
  cases hv with | bM _ _ a m hh=>exact ⟨_,_,_,rfl,fun b hb=>by injection hb⟩
 ·exact h.elim
theorem Nh {α:Type} {b:Bool} {x:Option α} {y:α} (h:(bif b then x else none)=some y):b=true∧x=some y:=by cases b <;> simp_all
theorem BB {G:Gh} {w:World} {x y:AV} {u v:Value} {e:Bool} {f:TypeId} {k D:Nat} (hp:oI (P.underlying f)=k) (h:zn k x y=some e) (hx:aC G x u) (hy:aC G y v) :
  (Op.equalIn (D+1) f u v).run P w=.ok e w:=by
 unfold zn at h
 split at h
 ·rename_i kk a k' b
  cases hk:kk == k' with
  | false=>rw [hk] at h; cases h
  | true =>
   rw [hk] at h
   have FA:kk=k':=by simpa using hk
   subst FA
   injection h with h; subst h
   cases hx with | dv hx=>cases hx with | int=>cases hy with | dv hy=>cases hy with | int =>
   obtain ⟨q,hq⟩:∃q,P.underlying f=some (.int q):=by
    unfold oI at hp
    split at hp <;> first | (cases hp; done) | exact ⟨_,by assumption⟩
   exact run_equalIn_int w D f kk q a b hq
 ·rename_i a b
  injection h with h; subst h
  cases hx with | dv hx=>cases hx with | bool=>cases hy with | dv hy=>cases hy with | bool =>
  have hq:P.underlying f=some .bool:=by
   unfold oI at hp
   split at hp <;> first | (cases hp; done) | assumption
  exact run_equalIn_bool w D f a b hq
 ·rename_i a b
  injection h with h; subst h
  cases hx with | dv hx=>cases hx with | str=>cases hy with | dv hy=>cases hy with | str =>
  have hq:P.underlying f=some .string:=by
   unfold oI at hp
   split at hp <;> first | (cases hp; done) | assumption
  exact run_equalIn_string w D f a b hq
 ·cases h
theorem qg {w:World} {e:TypeId} {k:Nat} (he:oI (P.underlying e)=k+1) {xs:Array Value} {off:Nat} {v:Value} (hx:xs[off]?=some v):(part e xs off).run P w=.ok v w:=by
 unfold oI at he
 split at he
 ·rename_i k hu; simp [part,isAgg,run_underlying hu,hx]
 ·rename_i hu; simp [part,isAgg,run_underlying hu,hx]
 ·rename_i hu; simp [part,isAgg,run_underlying hu,hx]
 ·cases he
theorem qh {G:Gh} {w:World} {xs ys:Array Value} {D:Nat}:∀(fs:List Field) (i:Nat) (q:List Nat) (l r:List AV) (e:Bool),uL P i fs=some q→gG q l r=some e →
  (∀(j:Nat) (d:AV),l[j]?=some d→∃u,xs[i+j]?=some u∧aC G d u)→(∀(j:Nat) (d:AV),r[j]?=some d→∃u,ys[i+j]?=some u∧aC G d u) →
  (Op.eqFields (D+1) xs ys fs).run P w=.ok e w
 | [],i,q,l,r,e,hp,he,hx,hy=>by
  simp only [uL,Option.some.injEq] at hp
  subst hp
  cases l <;> cases r <;> simp [gG] at he
  subst he; simp [Op.eqFields]
 | f::fs,i,q,l,r,e,hp,he,hx,hy=>by
  simp only [uL] at hp
  have hh:=Nh hp; clear hp; obtain ⟨hb,hp⟩:=hh
  simp only [Bool.and_eq_true,bne_iff_ne] at hb
  obtain ⟨n1,o1⟩:=hb
  have o1:=Nat.eq_of_beq_eq_true o1
  split at hp
  ·rename_i k q' hk B0
   injection hp with hp; subst hp
   cases l with
   | nil=>cases r <;> simp [gG] at he
   | cons x l=>cases r with
    | nil=>simp [gG] at he
    | cons y r =>
     simp only [gG] at he
     split at he
     ·rename_i a b ha hb
      injection he with he; subst he
      obtain ⟨u,hu,Tp⟩:=hx 0 x rfl
      obtain ⟨v,hv,O0⟩:=hy 0 y rfl
      have h1:=BB (w:=w) (D:=D) hk ha Tp O0
      simp only [Op.eqFields,n1,ne_eq,not_false_eq_true,if_true,Sem.run_bind,o1]
      rw [qg hk (by simpa using hu)]
      simp only [Result.andThen_ok]
      rw [qg hk (by simpa using hv)]
      simp only [Result.andThen_ok,h1]
      cases a with
      | false=>simp
      | true =>
       simp only [Bool.not_true,Bool.false_eq_true,if_false,Bool.true_and]
       exact qh fs (i+1) q' l r b B0 hb (fun j d hd=>by have:=hx (j+1) d (by simpa using hd); rwa [show i+(j+1)=i+1+j by omega] at this)
        (fun j d hd=>by have:=hy (j+1) d (by simpa using hd); rwa [show i+(j+1)=i+1+j by omega] at this)
     ·cases he
  ·cases hp
theorem MX (hT:dV P T) {op:BinOp} {t ty:TypeId} {x y:Operand} (hg:bF ρ ops o.guard=some gd) (ho:o.op=.binOp op t x y ty) {va vb:AV} (MV:bf ρ κ gd x va) (MW:bf ρ κ gd y vb)
  (h:NR (nth T t) op va vb fun v=>aM n o gd nx k v []):Good P C ops n o nx ρ κ k:=by
 have hh:=OB h; clear h; obtain ⟨hb,h⟩:=hh
 simp only [Bool.and_eq_true] at hb
 obtain ⟨i,u,z,tf⟩:=hT.facts hb.1
 split at h
 ·rename_i x1 l r
  split at h
  ·rename_i e he
   have hk:=tf.kind
   rw [Nat.eq_of_beq_eq_true hb.2] at hk
   obtain ⟨fs,rfl⟩:∃fs,u=.struct fs:=by
    cases u <;> simp [kindOf] at hk
    exact ⟨_,rfl⟩
   have heq:=tf.NJ
   simp only [IC] at heq
   split at heq
   ·rename_i q hq
    cases hc:Nat.beq fs.toList.length i.size && !P.stoodInHeld t && !P.eqGuardType P.depth t with
    | false=>rw [hc] at heq; simp only [cond_false] at heq; rw [heq] at he; simp [gG] at he
    | true =>
     rw [hc] at heq
     simp only [cond_true] at heq
     rw [heq] at he
     simp only [Bool.and_eq_true,Bool.not_eq_true'] at hc
     have hf:P.fieldsOf t=fs:=by simp [Program.fieldsOf,tf.wL]
     have core:∀(G:Gh) (w:World) (u v:Value),aC G (.agg (x1::l)) u→aC G (.agg r) v→∃us vs,u=.agg us∧v=.agg vs∧(Op.equalIn 10000 t u v).run P w=.ok e w:=by
      intro G w u v hu hv
      cases hu with | agg _ us W4 Tp=>cases hv with | agg _ vs RD O0 =>
      refine ⟨_,_,rfl,rfl,?_⟩
      rw [run_equalIn_struct w 9999 t _ _ (by rw [hf]; exact tf.wL) hc.1.2,hf]
      refine qh (G:=G) (D:=9998) fs.toList 0 q _ _ e hq he (fun j d hd=>?_) (fun j d hd=>?_)
      ·have hj:=(List.getElem?_eq_some_iff.1 hd).1
       exact ⟨us[j]'(by omega),by simp,Tp j d _ hd (List.getElem?_eq_getElem (by omega))⟩
      ·have hj:=(List.getElem?_eq_some_iff.1 hd).1
       exact ⟨vs[j]'(by omega),by simp,O0 j d _ hd (List.getElem?_eq_getElem (by omega))⟩
     have fin:∀c:Bool,aM n o gd nx k (.dv (.bool c)) []→(∀(w:World) (us vs:Array Value),(Op.equalIn 10000 t (.agg us) (.agg vs)).run P w=.ok e w→(binOp op t (.agg us) (.agg vs)).run P w=.ok (.bool c) w)→Good P C ops n o nx ρ κ k:=by
      intro c ed aV
      refine aY (fun c=>by rw [ho]; simp) hg ed fun ρ' κ' ao g a w G ai aI=>?_
      have h1:=MV ρ' κ' (ao.op (by rw [ho]; simp [Op.operands])) g n a w G ai aI
      have h2:=MW ρ' κ' (ao.op (by rw [ho]; simp [Op.operands])) g n a w G ai aI
      obtain ⟨us,vs,e1,e2,e3⟩:=core G w _ _ h1 h2
      refine ⟨.bool c,?_,.dv (.bool c)⟩
      rw [e1,e2] at e3
      simp only [execOp,ho,Sem.run_bind]
      rw [e1,e2,run_eqGuard_agg w op t x y us vs hc.2]
      simp only [Result.andThen_ok,aV w us vs e3,Sem.run_pure]
     split at h
     ·exact fin e h fun w us vs h3=>by rw [run_eql_struct,h3]; rfl
     ·exact fin (!e) h fun w us vs h3=>by rw [run_neq_struct,h3]; rfl
     ·exact h.elim
   ·rw [heq] at he; simp [gG] at he
  ·exact h.elim
 ·exact h.elim
theorem Ch (hT:dV P T) {op:BinOp} {t ty:TypeId} {x y:Operand} (hg:bF ρ ops o.guard=some gd) (ho:o.op=.binOp op t x y ty) {av:AV} (bj:bf ρ κ gd x av) (DX:bf ρ κ gd y (.dv .aD))
  (h:zm (nth T t) op κ gd av fun v rd=>aM n o gd nx k v rd):Good P C ops n o nx ρ κ k:=by
 unfold zm at h
 have hh:=OB h; clear h; obtain ⟨hb,h⟩:=hh
 simp only [Bool.and_eq_true] at hb
 obtain ⟨i,u,z,tf⟩:=hT.facts hb.1
 have hu:=tf.slice hb.2
 have core:∀(neg:Bool),(∀(w:World) (p:Option Addr) (l cc:Nat),(binOp op t (.slice p l cc) (.slice none 0 0)).run P w=.ok (.bool (bif neg then !p.isNone else p.isNone)) w)→(vn κ gd av fun c rd=>aM n o gd nx k (Ou neg c) rd)→Good P C ops n o nx ρ κ k:=by
  intro neg aV h
  obtain ⟨c,rd,hk,hs⟩:=zp h
  refine aY (fun c=>by rw [ho]; simp) hg hk fun ρ' κ' ao g a w G ai aI=>?_
  have h1:=bj ρ' κ' (ao.op (by rw [ho]; simp [Op.operands])) g n a w G ai aI
  have h2:=DX ρ' κ' (ao.op (by rw [ho]; simp [Op.operands])) g n a w G ai aI
  obtain ⟨p,l,cc,hv,hp⟩:=hs aI κ' ao.reads G w _ ai.fit h1
  generalize hy:a.eval y=vy at h2
  cases h2 with | dv h2=>cases h2 with | aD =>
  refine ⟨.bool (bif neg then !p.isNone else p.isNone),?_,?_⟩
  ·simp only [execOp,ho,Sem.run_bind]
   rw [gf op t x y _ _ (by rw [hv]; simp) (by rw [hv]; simp),hv,hy]
   simp only [Result.andThen_ok,aV w p l cc,Sem.run_pure]
  ·cases c with
   | none=>exact .dv (.lX _)
   | some b=>rw [hp b rfl]; exact .dv (.bool _)
 split at h
 ·exact core false (fun w p l cc=>by simp only [binOp,Sem.run_bind,fa hu,Result.andThen_ok,Sem.run_pure,cond_false]) h
 ·exact core true (fun w p l cc=>by simp only [binOp,Sem.run_bind,fa hu,Result.andThen_ok,Sem.run_pure,cond_true]) h
 ·exact h.elim
theorem Cl (hT:dV P T) {s t:TypeId} {x:Operand} {kx kd:IntKind} {m:Int} (hg:bF ρ ops o.guard=some gd) (ho:o.op=.convert s t x) (hs:(nth T s).ok=true) (ht:(nth T t).ok=true) (hi:(nth T t).B6=some kd) (hk:aM n o gd nx k (.dv (.int kd (kd.wrap m))) []) (bj:bf ρ κ gd x (.dv (.int kx m))):Good P C ops n o nx ρ κ k:=by
 obtain ⟨i1,u1,z1,Pl⟩:=hT.facts hs
 obtain ⟨i2,u2,z2,Q5⟩:=hT.facts ht
 refine aY (fun c=>by rw [ho]; simp) hg hk fun ρ' κ' ao g a w G ai aI=>?_
 have hv:=bj ρ' κ' (ao.op (by rw [ho]; simp [Op.operands])) g n a w G ai aI
 generalize hx:a.eval x=v at hv
 cases hv with | dv hv=>cases hv with | int =>
 have h2:=Q5.B6
 rw [hi] at h2
 cases u2 <;> simp [zM] at h2
 subst h2
 refine ⟨.int kd (kd.wrap m),?_,.dv (.int _ _)⟩
 simp [execOp,ho,hx,convert,run_underlying Pl.wL,run_underlying Q5.wL,Conv.intToInt]
theorem Hc (hT:dV P T) {t:TypeId} {x ix:Operand} {kx:IntKind} {m:Int} {s:ByteArray} {b:UInt8} (hg:bF ρ ops o.guard=some gd) (ho:o.op=.index t x ix) (ht:(nth T t).ok=true) (ai:(nth T t).isStr=true) (hb:gd=true→0≤m∧s[m.toNat]?=some b) (hk:aM n o gd nx k (.dv (.int .u8 b.toNat)) []) (bj:bf ρ κ gd x (.dv (.str s))) (l9:bf ρ κ gd ix (.dv (.int kx m))):Good P C ops n o nx ρ κ k:=by
 obtain ⟨i1,u1,z1,Pl⟩:=hT.facts ht
 have hu:=Pl.string ai
 refine aY (fun c=>by rw [ho]; simp) hg hk fun ρ' κ' ao g a w G ai aI=>?_
 have hv:=bj ρ' κ' (ao.op (by rw [ho]; simp [Op.operands])) g n a w G ai aI
 have hi:=l9 ρ' κ' (ao.op (by rw [ho]; simp [Op.operands])) g n a w G ai aI
 generalize hx:a.eval x=v at hv
 generalize hy:a.eval ix=u at hi
 cases hv with | dv hv=>cases hv with | str =>
 cases hi with | dv hi=>cases hi with | int =>
 obtain ⟨h0,hb⟩:=hb aI
 refine ⟨.int .u8 b.toNat,?_,.dv (.int _ _)⟩
 simp [execOp,ho,hx,hy,Instr.index,asIntOf,run_underlying hu,h0,hb]
theorem M1 {x y:Operand} {c:Call} {p q:Int} (hg:bF ρ ops o.guard=some gd) (ho:o.op=.call c) (hc:c.callee=.builtin .min) (ha:c.args.toList=[x,y])
  (hk:aM n o gd nx k (.dv (.int .i64 (if q<p then q else p))) []) (bj:bf ρ κ gd x (.dv (.int .i64 p))) (l9:bf ρ κ gd y (.dv (.int .i64 q))):Good P C ops n o nx ρ κ k:=by
 have bG:c.args=#[x,y]:=Array.ext' (by simpa using ha)
 refine aY (fun c=>by rw [ho]; simp) hg hk fun ρ' κ' ao g a w G ai aI=>?_
 have hv:=bj ρ' κ' (ao.op (by rw [ho]; simp [Op.operands,Call.operands,hc,bG])) g n a w G ai aI
 have eH:=l9 ρ' κ' (ao.op (by rw [ho]; simp [Op.operands,Call.operands,hc,bG])) g n a w G ai aI
 generalize hx:a.eval x=v at hv
 generalize hi:a.eval y=vi at eH
 cases eH with | dv eH=>cases eH with | int =>
 cases hv with | dv hv=>cases hv with | int =>
 refine ⟨_,?_,.dv (.int _ _)⟩
 simp [execOp,ho,resolve,hc,bG,invoke,builtin,Builtin.min_,Builtin.min2,hx,hi]
theorem M3 {x y:Operand} {c:Call} {p q:Int} (hg:bF ρ ops o.guard=some gd) (ho:o.op=.call c) (hc:c.callee=.builtin .max) (ha:c.args.toList=[x,y])
  (hk:aM n o gd nx k (.dv (.int .i64 (if p<q then q else p))) []) (bj:bf ρ κ gd x (.dv (.int .i64 p))) (l9:bf ρ κ gd y (.dv (.int .i64 q))):Good P C ops n o nx ρ κ k:=by
 have bG:c.args=#[x,y]:=Array.ext' (by simpa using ha)
 refine aY (fun c=>by rw [ho]; simp) hg hk fun ρ' κ' ao g a w G ai aI=>?_
 have hv:=bj ρ' κ' (ao.op (by rw [ho]; simp [Op.operands,Call.operands,hc,bG])) g n a w G ai aI
 have eH:=l9 ρ' κ' (ao.op (by rw [ho]; simp [Op.operands,Call.operands,hc,bG])) g n a w G ai aI
 generalize hx:a.eval x=v at hv
 generalize hi:a.eval y=vi at eH
 cases eH with | dv eH=>cases eH with | int =>
 cases hv with | dv hv=>cases hv with | int =>
 refine ⟨_,?_,.dv (.int _ _)⟩
 simp [execOp,ho,resolve,hc,bG,invoke,builtin,Builtin.max_,Builtin.max2,hx,hi]
def lB (ρ:Nat→AV) (κ:Nat→ak) (g:Bool):List (Nat × Operand)→List (Nat × AV)→Prop
 | [],[]=>True
 | (i,x)::r,(j,v)::l=>i=j∧bf ρ κ g x v∧lB ρ κ g r l
 | _,_=>False
theorem jR:∀{l:List (Nat × Operand)} {k:List (Nat × AV)→Prop},pP ρ κ gd l k→∃r,k r∧lB ρ κ gd l r
 | [],k,h=>⟨[],h,tv⟩
 | (i,x)::l,k,h=>by
  obtain ⟨v,h,hv⟩:=aB h
  obtain ⟨r,h,hr⟩:=jR h
  exact ⟨_,h,rfl,hv,hr⟩
theorem eF:∀{l:List AV},bI l=true→∀v,v∈l→v.aj=true
 | [],_,v,h=>by simp at h
 | x::l,h,v,hv=>by
  simp only [bI,Bool.and_eq_true] at h
  rcases List.mem_cons.1 hv with rfl | hv
  ·exact h.1
  ·exact eF h.2 v hv
section
variable {G:Gh}
theorem bJ.cA {l:List AV} {vs:List Value} (h:bJ G l vs) (hc:bI l=true):∀v,v∈vs→v.oneCell'=true:=by
 intro v hv
 obtain ⟨j,hj,rfl⟩:=List.getElem_of_mem hv
 have nL:j<l.length:=by rw [h.1]; exact hj
 exact (h.2 j l[j] vs[j] (List.getElem?_eq_getElem nL) (List.getElem?_eq_getElem hj)).cA (eF hc _ (List.getElem_mem nL))
theorem kp {av:AV} {v:Value} (h:aC G av v) (hc:bI (cellsOf av)=true):bJ G (cellsOf av) v.cells.toList:=by
 cases av with
 | agg l =>
  cases h with
  | agg _ vs hl hr=>exact ⟨by simpa [cellsOf,Value.cells] using hl,by simpa [cellsOf,Value.cells] using hr⟩
 | _ =>
  simp only [cellsOf,bI,Bool.and_true] at hc
  have h1:=h.cA hc
  have:v.cells=#[v]:=by cases v <;> first | rfl | (simp [Value.oneCell'] at h1)
  rw [this]
  refine ⟨rfl,fun j d u hd hu=>?_⟩
  cases j with
  | zero=>simp [cellsOf] at hd hu; subst hd; subst hu; exact h
  | succ j=>simp [cellsOf] at hd
theorem bJ.fT {l:List AV} {vs:List Value} {l':List AV} {rD:List Value} (h:bJ G l vs) (h':bJ G l' rD) (off:Nat) (hle:off+l'.length≤l.length) :
  bJ G (fT l off l') (vs.take off++rD++vs.drop (off+rD.length)):=by
 have e:=h.1
 have e':=h'.1
 constructor
 ·simp [TM.fT]; omega
 ·intro j d v hd hv
  simp only [TM.fT,List.append_assoc] at hd hv
  rw [List.getElem?_append] at hd hv
  simp only [List.length_take] at hd hv
  by_cases h1:j<off
  ·rw [if_pos (by omega)] at hd hv
   rw [List.getElem?_take,if_pos h1] at hd hv
   exact h.2 j d v hd hv
  ·rw [if_neg (by omega)] at hd hv
   rw [List.getElem?_append] at hd hv
   rw [show min off l.length=off by omega] at hd
   rw [show min off vs.length=off by omega] at hv
   by_cases h2:j - off<l'.length
   ·rw [if_pos h2] at hd
    rw [if_pos (by omega)] at hv
    exact h'.2 _ d v hd hv
   ·rw [if_neg h2] at hd
    rw [if_neg (by omega)] at hv
    rw [List.getElem?_drop] at hd hv
    rw [←e'] at hv
    exact h.2 _ d v hd hv
theorem BC (off:Nat):∀(vs:List Value) (i:Nat) (cur:Array Value),off+i+vs.length≤cur.size →
  ((vs.zipIdx i).foldl (fun cs (p:Value × Nat)=>cs.setIfInBounds (off+p.2) p.1) cur).toList=cur.toList.take (off+i)++vs++cur.toList.drop (off+i+vs.length)
 | [],i,cur,_=>by simp
 | v::rest,i,cur,hl=>by
  simp only [List.zipIdx_cons,List.foldl_cons]
  rw [BC off rest (i+1) (cur.setIfInBounds (off+i) v) (by simp at hl ⊢; omega)]
  have e:=list_seg_step cur.toList (off+i) v rest (by simp at hl ⊢; omega)
  simpa [Array.toList_setIfInBounds,Nat.add_assoc] using e
theorem oT (place:Nat→Option (Nat × Nat)):∀(parts:List (Nat × AV)) (DD:List (Nat × Value)) (l l':List AV) (cs:Array Value),
  (parts.length=DD.length∧∀(j:Nat) (p:Nat × AV) (q:Nat × Value),parts[j]?=some p→DD[j]?=some q→p.1=q.1∧aC G p.2 q.2)→bJ G l cs.toList→nS place l parts=some l' →
  ∃LR,Instr.fill place cs DD=some LR∧bJ G l' LR.toList
 | [],[],l,l',cs,_,hc,h=>by simp [nS] at h; subst h; exact ⟨cs,rfl,hc⟩
 | [],q::vr,l,l',cs,hp,_,_=>by simp at hp
 | p::r,[],l,l',cs,hp,_,_=>by simp at hp
 | (i,av)::r,(i',v)::vr,l,l',cs,hp,hc,h=>by
  have h0:=hp.2 0 (i,av) (i',v) rfl rfl
  simp only at h0
  obtain ⟨rfl,hv⟩:=h0
  simp only [nS] at h
  split at h
  ·cases h
  ·rename_i off sz Nl
   cases hb:(Nat.beq (cellsOf av).length sz && Nat.ble (off+sz) l.length && bI (cellsOf av)) with
   | false=>rw [hb] at h; cases h
   | true =>
    rw [hb] at h
    simp only [cond_true] at h
    simp only [Bool.and_eq_true] at hb
    obtain ⟨⟨jN,cl⟩,vM⟩:=hb
    have jN:=Nat.eq_of_beq_eq_true jN
    have cl:=Nat.le_of_ble_eq_true cl
    have nN:=kp hv vM
    have aN:v.cells.size=sz:=by rw [←jN,nN.1]; simp
    have W5:l.length=cs.size:=by rw [hc.1]; simp
    have il:((v.cells.zipIdx.foldl (fun cs (p:Value × Nat)=>cs.setIfInBounds (off+p.2) p.1) cs).toList)=cs.toList.take off++v.cells.toList++cs.toList.drop (off+v.cells.toList.length):=by
     rw [←Array.foldl_toList,Array.toList_zipIdx]
     have:=BC off v.cells.toList 0 cs (by simp; omega)
     simpa using this
    have oX:bJ G (fT l off (cellsOf av)) (v.cells.zipIdx.foldl (fun cs (p:Value × Nat)=>cs.setIfInBounds (off+p.2) p.1) cs).toList:=by
     rw [il]
     exact hc.fT nN off (by omega)
    obtain ⟨LR,h1,h2⟩:=oT place r vr _ l' _ ⟨by simpa using hp.1,fun j p q LQ B0=>hp.2 (j+1) p q (by simpa using LQ) (by simpa using B0)⟩ oX h
    refine ⟨LR,?_,h2⟩
    simp only [Instr.fill,Nl,aN]
    rw [if_neg (by simp; omega)]
    exact h1
end
theorem lB.rel {ρ':Nat→AV} {κ':Nat→ak} {g:df} {a:Act} {w:World} {G:Gh} (ai:bT g n ρ' κ' a w G) (aI:gd=true) :
  ∀{l:List (Nat × Operand)} {r:List (Nat × AV)},lB ρ κ gd l r→(∀p,p∈l→xS ρ ρ' κ κ' p.2) →
   (r.length=(l.map fun p=>(p.1,a.eval p.2)).length∧∀(j:Nat) (p:Nat × AV) (q:Nat × Value),r[j]?=some p→(l.map fun p=>(p.1,a.eval p.2))[j]?=some q→p.1=q.1∧aC G p.2 q.2)
 | [],[],_,_=>⟨rfl,by simp⟩
 | [],_::_,h,_=>h.elim
 | _::_,[],h,_=>h.elim
 | (i,x)::l,(j,v)::r,⟨DQ,hv,h⟩,ao=>by
  obtain ⟨h1,h2⟩:=lB.rel ai aI h (fun p hp=>ao p (by simp [hp]))
  have CZ:=hv ρ' κ' (ao (i,x) (by simp)) g n a w G ai aI
  refine ⟨by simpa using h1,fun jj p q hp hq=>?_⟩
  cases jj with
  | zero=>simp at hp hq; subst hp; subst hq; exact ⟨DQ.symm,CZ⟩
  | succ jj=>exact h2 jj p q (by simpa using hp) (by simpa using hq)
theorem BD {w:World} (fs:List Field) (h:∀f,f∈fs→∃j,P.info? f.type=some j):((fs.toArray.mapM fun f=>do pure (f.offset,←sizeOf f.type)):Sem (Array (Nat × Nat))).run P w=.ok (fs.map fun f=>(f.offset,match P.info? f.type with | some j=>j.size | none=>0)).toArray w:=by
 have key:∀(l:List Field),(∀f,f∈l→∃j,P.info? f.type=some j)→((l.mapM fun f=>do pure (f.offset,←sizeOf f.type)):Sem (List (Nat × Nat))).run P w=.ok (l.map fun f=>(f.offset,match P.info? f.type with | some j=>j.size | none=>0)) w:=by
  intro l
  induction l with
  | nil=>intro _; rfl
  | cons f r ih =>
   intro hl
   obtain ⟨j,hj⟩:=hl f (by simp)
   have:=ih (fun f hf=>hl f (by simp [hf]))
   simp only [List.mapM_cons,Sem.run_bind,g9 hj,Result.andThen_ok,Sem.run_pure,this,List.map_cons,hj]
 rw [List.mapM_toArray]
 simp only [Sem.run_map,key fs h,Result.andThen_ok]
theorem G9 (hT:dV P T) {t:Nat} {parts:Array (Nat × Operand)} {l:List (Nat × AV)} {cs:List AV} (hg:bF ρ ops o.guard=some gd) (ho:o.op=.build t parts) (bK:(nth T t).ok=true)
  (hp:lB ρ κ gd parts.toList l) (J8:nS (fun i=>(nth T t).fields[i]?) (j4 (nth T t).zero) l=some cs) (Tq:Nat.beq (nth T t).kind 9=true) (hk:aM n o gd nx k (.agg cs) []):Good P C ops n o nx ρ κ k:=by
 obtain ⟨ti,u,z,tf⟩:=hT.facts bK
 have hu:∃fs,u=.struct fs:=by
  have h1:=tf.kind
  rw [Nat.eq_of_beq_eq_true Tq] at h1
  cases u <;> simp [kindOf] at h1
  exact ⟨_,rfl⟩
 obtain ⟨fs,rfl⟩:=hu
 refine aY (fun c=>by rw [ho]; simp) hg hk fun ρ' κ' ao g a w G ai aI=>?_
 have CR:∀p,p∈parts.toList→xS ρ ρ' κ κ' p.2:=fun p LQ=>ao.op (by
  rw [ho]
  simp only [Op.operands,List.mem_toArray,List.mem_map]
  exact ⟨p,LQ,rfl⟩)
 have h1:=hp.rel ai aI CR
 have hz:bJ G (j4 (nth T t).zero) z.cells.toList:=by
  exact gx (dN (M:=G.M) tf.zc).1
 obtain ⟨LR,h3,h4⟩:=oT _ l _ _ cs z.cells h1 hz J8
 have Tr:aC G (.agg cs) (.agg LR):=by
  have:=aC.agg (G:=G) cs LR.toList h4.1 h4.2
  simpa using this
 refine ⟨.agg LR,?_,Tr⟩
 ·have Nl:((fs.mapM fun f=>do pure (f.offset,←sizeOf f.type)):Sem (Array (Nat × Nat))).run P w=.ok (nth T t).fields.toArray w:=by
   have:=BD (P:=P) (w:=w) fs.toList (fun f hf=>by
    have:=tf.fin
    simp only [uK,List.all_eq_true] at this
    exact Option.isSome_iff_exists.1 (this f hf))
   simp only [Array.toArray_toList] at this
   rw [this,tf.fields]
   rfl
  have E3:Instr.fill (fun i=>(nth T t).fields.toArray[i]?) z.cells (parts.map fun p=>(p.1,a.eval p.2)).toList=some LR:=by
   simpa using h3
  simp only [execOp,ho,Instr.build,Sem.run_bind,tf.qe w,Result.andThen_ok,run_underlying tf.wL,Nl]
  rw [E3]
  rfl
end
end Go.TM
