import Derived.Test.YtpbdohkbiklflaaGreatDoorPM4
import Derived.Laws.StructEq
set_option linter.unusedVariables false
set_option linter.unusedSimpArgs false
set_option linter.unusedSectionVars false
namespace Go.TM
open Go.RowKit
variable [ct]
section
variable {P:Program} {C:dy→Prop} {T:List TI} {ops:List Oper} {n:Nat} {o:Oper} {nx:Nat} {ρ:Nat→AV} {κ:Nat→ao} {k:jo→Nat→Prop} {gd:Bool}
theorem Mg {x:Operand} (hg:bL ρ ops o.guard=some gd) (ho:o.op=.move x) (h:ex ρ κ gd x fun v=>aR n o gd nx k v []):Good P C ops n o nx ρ κ k:=by
 by_cases hm:fo ρ κ o=Iv ρ o
 ·obtain ⟨av,hk,br⟩:=aF h
  refine bg (fun c=>by rw [ho]; simp) hg hk fun ρ' κ' au g a w G ai aN=>?_
  have hv:=br ρ' κ' (au.Xa (by rw [ho]; simp [Op.operands]) hm) g n a w G ai aN
  exact ⟨_,by simp [execOp,ho],hv⟩
 ·unfold fo at hm
  split at hm
  ·rename_i t ht
   rw [ho] at ht
   injection ht with ht
   subst ht
   cases hb:VY κ (ρ t) with
   | false=>rw [hb] at hm; exact absurd rfl hm
   | true =>
    generalize hρ:ρ t=v at hb
    cases v with
    | own i ver ep p =>
     simp only [VY] at hb
     cases hk:κ i with
     | tree V E d =>
      unfold ex at h
      simp only [ev,hρ,res,hk] at h
      cases hc:Nat.beq ver V && (emp p || Nat.beq ep E) with
      | true =>
       rw [hc] at h
       simp only [cond_true] at h
       rw [force_eq] at h
       refine bg (fun c=>by rw [ho]; simp) hg h fun ρ' κ' au g a w G ai aN=>?_
       have h1:=ai.env t
       rw [au.bt t (by unfold Oper.looksAt; rw [ho]; exact List.mem_append.2 (.inl (by simp [Op.operands]))),hρ] at h1
       exact ⟨_,by simp only [execOp,ho]; rfl,h1⟩
      | false =>
       rw [hc] at h
       simp only [cond_false] at h
       rw [force_eq] at h
       refine bg (fun c=>by rw [ho]; simp) hg h fun ρ' κ' au g a w G ai aN=>?_
       exact ⟨a.eval (.tmp t),by simp [execOp,ho],.any _⟩
     | _=>rw [hk] at hb; cases hb
    | _=>cases hb
  ·exact absurd rfl hm
theorem Hc {x:Operand} {av:AV} (hg:bL ρ ops o.guard=some gd) (ho:o.op=.assign x) (hk:aR n o gd nx k av []) (br:bn ρ κ gd x av):Good P C ops n o nx ρ κ k:=by
 refine bg (fun c=>by rw [ho]; simp) hg hk fun ρ' κ' au g a w G ai aN=>?_
 have hv:=br ρ' κ' (au.op (by rw [ho]; simp [Op.operands])) g n a w G ai aN
 exact ⟨_,by simp [execOp,ho],hv⟩
theorem mO {x:Operand} {av:AV} (hg:bL ρ ops o.guard=some gd) (ho:o.op=.nilCheck x) (hk:aR n o gd nx k av []) (br:bn ρ κ gd x av)
  (hp:∀(G:Gh) (v:Value),aE G av v→∃a,v=.pointer (some a)):Good P C ops n o nx ρ κ k:=by
 refine bg (fun c=>by rw [ho]; simp) hg hk fun ρ' κ' au g a w G ai aN=>?_
 have hv:=br ρ' κ' (au.op (by rw [ho]; simp [Op.operands])) g n a w G ai aN
 obtain ⟨p,hp⟩:=hp _ _ hv
 refine ⟨_,?_,hv⟩
 simp [execOp,ho,hp]
theorem I5 (hT:ef P T) {op:BinOp} {t ty:TypeId} {x y:Operand} (hg:bL ρ ops o.guard=some gd) (ho:o.op=.binOp op t x y ty)
  {va vb:AV} (O7:bn ρ κ gd x va) (O8:bn ρ κ gd y vb) (h:qE (nth T t) op va vb gd fun v=>aR n o gd nx k v []):Good P C ops n o nx ρ κ k:=by
 obtain ⟨r,hk,hc,hr⟩:=Fq (P:=P) hT h
 refine bg (fun c=>by rw [ho]; simp) hg hk fun ρ' κ' au g a w G ai aN=>?_
 have h1:=O7 ρ' κ' (au.op (by rw [ho]; simp [Op.operands])) g n a w G ai aN
 have h2:=O8 ρ' κ' (au.op (by rw [ho]; simp [Op.operands])) g n a w G ai aN
 obtain ⟨v,h3,h4,h5,h6⟩:=hr G w _ _ aN h1 h2
 refine ⟨v,?_,.dv h4⟩
 simp only [execOp,ho,Sem.run_bind,gv op t x y _ _ h5 h6,Result.andThen_ok,h3,Sem.run_pure]
theorem Pb {t:TypeId} {x:Operand} {b:Bool} (hg:bL ρ ops o.guard=some gd) (ho:o.op=.unOp .not t x) (hk:aR n o gd nx k (.dv (.bool (!b))) []) (br:bn ρ κ gd x (.dv (.bool b))):Good P C ops n o nx ρ κ k:=by
 refine bg (fun c=>by rw [ho]; simp) hg hk fun ρ' κ' au g a w G ai aN=>?_
 have hv:=br ρ' κ' (au.op (by rw [ho]; simp [Op.operands])) g n a w G ai aN
 generalize hx:a.eval x=v at hv
 cases hv with | dv hv=>cases hv with | bool =>
 exact ⟨_,by simp [execOp,ho,hx,Op.unary],.dv (.bool _)⟩
theorem Pc {t:TypeId} {x:Operand} {kd:IntKind} {m:Int} (hg:bL ρ ops o.guard=some gd) (ho:o.op=.unOp .neg t x) (hk:arith kd (0 - m) gd fun v=>aR n o gd nx k v []) (br:bn ρ κ gd x (.dv (.int kd m))):Good P C ops n o nx ρ κ k:=by
 obtain ⟨r,hk,he⟩:=iy hk
 refine bg (fun c=>by rw [ho]; simp) hg hk fun ρ' κ' au g a w G ai aN=>?_
 have hv:=br ρ' κ' (au.op (by rw [ho]; simp [Op.operands])) g n a w G ai aN
 generalize hx:a.eval x=v at hv
 cases hv with | dv hv=>cases hv with | int =>
 refine ⟨.int kd r,?_,.dv (.int kd r)⟩
 have:=he aN
 simp only [execOp,ho,hx,Op.unary,Op.intArith,this,Sem.run_bind,Sem.run_pure,Result.andThen_ok]
theorem DT {x:Operand} {i:Nat} {l:List AV} {av:AV} (hg:bL ρ ops o.guard=some gd) (ho:o.op=.extract x i) (hk:aR n o gd nx k av []) (hl:l[i]?=some av) (br:bn ρ κ gd x (.eP l)):Good P C ops n o nx ρ κ k:=by
 refine bg (fun c=>by rw [ho]; simp) hg hk fun ρ' κ' au g a w G ai aN=>?_
 have hv:=br ρ' κ' (au.op (by rw [ho]; simp [Op.operands])) g n a w G ai aN
 generalize hx:a.eval x=v at hv
 cases hv with
 | eP _ vs hlen hr =>
  have hi:i<l.length:=(List.getElem?_eq_some_iff.1 hl).1
  have Xb:vs[i]?=some (vs[i]'(by omega)):=List.getElem?_eq_getElem (by omega)
  refine ⟨_,?_,hr i av _ hl Xb⟩
  simp [execOp,ho,hx,Instr.extract,Xb]
theorem lu {c x y:Operand} {b p q:Bool} (hg:bL ρ ops o.guard=some gd) (ho:o.op=.pick c x y) (hk:aR n o gd nx k (.dv (.bool (bif b then p else q))) [])
  (hc:bn ρ κ gd c (.dv (.bool b))) (hx:bn ρ κ (gd && b) x (.dv (.bool p))) (hy:bn ρ κ (gd && !b) y (.dv (.bool q))):Good P C ops n o nx ρ κ k:=by
 refine bg (fun c=>by rw [ho]; simp) hg hk fun ρ' κ' au g a w G ai aN=>?_
 have hv:=hc ρ' κ' (au.op (by rw [ho]; simp [Op.operands])) g n a w G ai aN
 generalize Uh:a.eval c=v at hv
 cases hv with | dv hv=>cases hv with | bool =>
 subst aN
 cases b with
 | true =>
  have hv:=hx ρ' κ' (au.op (by rw [ho]; simp [Op.operands])) g n a w G ai rfl
  generalize oi:a.eval x=v at hv
  cases hv with | dv hv=>cases hv with | bool =>
  exact ⟨_,by simp [execOp,ho,Uh,oi,asBool],.dv (.bool _)⟩
 | false =>
  have hv:=hy ρ' κ' (au.op (by rw [ho]; simp [Op.operands])) g n a w G ai rfl
  generalize oi:a.eval y=v at hv
  cases hv with | dv hv=>cases hv with | bool =>
  exact ⟨_,by simp [execOp,ho,Uh,oi,asBool],.dv (.bool _)⟩
theorem lx (hT:ef P T) {t f off sz:Nat} {x:Operand} {av Tl:AV} (hg:bL ρ ops o.guard=some gd) (ho:o.op=.fieldAddr t x f) (bY:(nth T t).ok=true) (hf:(nth T t).fields[f]?=some (off,sz+1))
  (hk:aR n o gd nx k Tl []) (br:bn ρ κ gd x av)
  (hp:∀(G:Gh) (v:Value),aE G av v→∃a,v=.pointer (some a)∧aE G Tl (.pointer (some (a.add off)))):Good P C ops n o nx ρ κ k:=by
 obtain ⟨i,u,z,tf⟩:=hT.facts bY
 obtain ⟨fs,fd,hu,Tm,LH,j,hj,Xc⟩:=tf.field hf (by omega)
 refine bg (fun c=>by rw [ho]; simp) hg hk fun ρ' κ' au g a w G ai aN=>?_
 have hv:=br ρ' κ' (au.op (by rw [ho]; simp [Op.operands])) g n a w G ai aN
 obtain ⟨p,hp,NV⟩:=hp _ _ hv
 refine ⟨_,?_,NV⟩
 simp [execOp,ho,hp,Instr.fieldAt,run_underlying hu,Tm,Instr.sureAddr,fieldPlace,iw hj,Xc,LH]
theorem dE {agg:Bool} {l:List AV} {off sz:Nat} {ret:AV→Prop} (h:bX agg l off sz ret) :
  ∃v,ret v∧((agg=true∧off+sz≤l.length∧v=.agg ((l.drop off).take sz)) ∨ (agg=false∧l[off]?=some v)):=by
 unfold bX at h
 cases agg with
 | true =>
  simp only [cond_true] at h
  cases hb:Nat.ble (off+sz) l.length with
  | false=>rw [hb] at h; exact h.elim
  | true=>rw [hb] at h; exact ⟨_,h,.inl ⟨rfl,Nat.le_of_ble_eq_true hb,rfl⟩⟩
 | false =>
  simp only [cond_false] at h
  split at h
  ·rename_i v hv; rw [force_eq] at h; exact ⟨v,h,.inr ⟨rfl,hv⟩⟩
  ·exact h.elim
theorem jA (hT:ef P T) {t off:Nat} {l:List AV} {av:AV} {w:World} {G:Gh} (bY:(nth T t).ok=true) (A:Addr) (vs:Nat→Value)
  (hc:∀j,j<l.length→w.cell? (A.add j)=some (vs j)) (hr:∀(j:Nat) (d:AV),l[j]?=some d→aE G d (vs j))
  (hp:((nth T t).agg=true∧off+(nth T t).size≤l.length∧av=.agg ((l.drop off).take (nth T t).size)) ∨ ((nth T t).agg=false∧l[off]?=some av)) :
  ∃v,(Instr.loadAt t (.pointer (some (A.add off)))).run P w=.ok v w∧aE G av v:=by
 obtain ⟨i,u,z,tf⟩:=hT.facts bY
 rcases hp with ⟨ha,hle,rfl⟩ | ⟨ha,hl⟩
 ·refine ⟨.agg ((List.range (nth T t).size).map fun j=>vs (off+j)).toArray,?_,?_⟩
  ·have:=run_loadCells (P:=P) w (A.add off) (nth T t).size (fun j=>vs (off+j)) (fun j hj=>by rw [cy]; exact hc _ (by omega))
   simp only [Instr.loadAt,Instr.sureAddr,Sem.run_bind,Sem.run_pure,Result.andThen_ok,loadVar,tf.sw w,ha,if_true,tf.eS w,this]
  ·refine .agg _ _ (by simp; omega) fun j d v hd hv=>?_
   rw [List.getElem?_take] at hd
   split at hd
   ·rename_i hj
    rw [List.getElem?_drop] at hd
    simp [hj] at hv
    subst hv
    exact hr _ _ hd
   ·cases hd
 ·have aJ:off<l.length:=(List.getElem?_eq_some_iff.1 hl).1
  refine ⟨vs off,?_,hr _ _ hl⟩
  simp only [Instr.loadAt,Instr.sureAddr,Sem.run_bind,Sem.run_pure,Result.andThen_ok,loadVar,tf.sw w,ha,Bool.false_eq_true,if_false,run_load,hc off aJ]
theorem Br (hT:ef P T) {t i off:Nat} {x:Operand} {l:List AV} (hg:bL ρ ops o.guard=some gd) (ho:o.op=.load t x) (bY:(nth T t).ok=true) (hb:κ i=.cells l)
  (hk:bX (nth T t).agg l off (nth T t).size fun v=>aR n o gd nx k v [i]) (br:bn ρ κ gd x (.ptr i off)):Good P C ops n o nx ρ κ k:=by
 obtain ⟨av,hk,hp⟩:=dE hk
 refine bg (fun c=>by rw [ho]; simp) hg hk fun ρ' κ' au g a w G ai aN=>?_
 have hv:=br ρ' κ' (au.op (by rw [ho]; simp [Op.operands])) g n a w G ai aN
 have dN:κ' i=.cells l:=(au.reads i (by simp)).trans hb
 have rO:=ai.fit.box i
 rw [dN] at rO
 obtain ⟨b,c,tt,Ui,hw,aT,jY,hr⟩:=rO
 generalize hx:a.eval x=v at hv
 cases hv with
 | ptr _ _ b' zK =>
 rw [Ui] at zK; injection zK with zK; subst zK
 have hA:(⟨b,off,none⟩:Addr)=(⟨b,0,none⟩:Addr).add off:=by rw [cE]; simp
 obtain ⟨v,h1,h2⟩:=jA (P:=P) (av:=av) (w:=w) (G:=G) (l:=l) (off:=off) hT bY ⟨b,0,none⟩ (fun j=>c.getD j undef) (fun j hj=>by
   rw [cE]
   simp [World.cell?,hw,aT,hj]) (fun j d hd=>by
   have hj:j<l.length:=(List.getElem?_eq_some_iff.1 hd).1
   exact hr j d _ hd (by simp [aT,hj])) hp
 refine ⟨v,?_,h2⟩
 rw [←hA] at h1
 simp only [execOp,ho,hx,Sem.run_bind,h1,Result.andThen_ok,Sem.run_pure]
theorem DR (hT:ef P T) {t off:Nat} {x:Operand} {y:DV} (hg:bL ρ ops o.guard=some gd) (ho:o.op=.load t x) (bY:(nth T t).ok=true)
  (hk:bX (nth T t).agg (jU y.cells) off (nth T t).size fun v=>aR n o gd nx k v []) (br:bn ρ κ gd x (.dv (.at y off))):Good P C ops n o nx ρ κ k:=by
 obtain ⟨av,hk,hp⟩:=dE hk
 refine bg (fun c=>by rw [ho]; simp) hg hk fun ρ' κ' au g a w G ai aN=>?_
 have hv:=br ρ' κ' (au.op (by rw [ho]; simp [Op.operands])) g n a w G ai aN
 generalize hx:a.eval x=v at hv
 cases hv with | dv hv=>cases hv with
 | _ =>
  rename_i A cell jY hc hr
  obtain ⟨v,h1,h2⟩:=jA (P:=P) (av:=av) (w:=w) (G:=G) (l:=jU y.cells) (off:=off) hT bY A cell (fun j hj=>ai.fit.sub.cell (hc j (by simpa [l6] using hj))) (fun j d hd=>by
   obtain ⟨d',je,rfl⟩:=LA hd
   exact .dv (hr j d' je)) hp
  refine ⟨v,?_,h2⟩
  simp only [execOp,ho,hx,Sem.run_bind,h1,Result.andThen_ok,Sem.run_pure]
theorem bB {gd:Bool}:∀{p:List PS} {d:DV} {k:DV→Prop},ia gd d p k→∃nd,k nd∧(gd=true→get d p=some nd)
 | [],d,k,h=>⟨d,h,fun _=>rfl⟩
 | s::p,d,k,h=>by
  cases d <;> cases s <;> simp only [ia] at h <;> (try exact h.elim)
  ·obtain ⟨x,hx,h⟩:=h
   split at h
   ·rename_i c hc
    obtain ⟨nd,h1,h2⟩:=bB h
    exact ⟨nd,h1,fun hg=>by simp only [get,step,hx hg,hc]; exact h2 hg⟩
   ·exact h.elim
  ·rename_i x i j
   cases hb:Nat.beq i 0 with
   | false=>rw [hb] at h; exact h.elim
   | true =>
    rw [hb] at h
    simp only [cond_true] at h
    split at h
    ·rename_i c hc
     obtain ⟨nd,h1,h2⟩:=bB h
     exact ⟨nd,h1,fun hg=>by simp only [get,step,hb,cond_true,hc]; exact h2 hg⟩
    ·exact h.elim
  ·obtain ⟨x,hx,h⟩:=h
   split at h
   ·rename_i c hc
    obtain ⟨nd,h1,h2⟩:=bB h
    exact ⟨nd,h1,fun hg=>by simp only [get,step,hx hg,hc]; exact h2 hg⟩
   ·exact h.elim
theorem er:∀{p:List PS} {d nd:DV} {k:DV→Prop},rW d p nd k→k (bO d p nd)∧∃c,get d p=some c
 | [],d,nd,k,h=>⟨h,d,rfl⟩
 | s::p,d,nd,k,h=>by
  cases d <;> cases s <;> simp only [rW] at h <;> (try exact h.elim)
  ·rename_i sz l i j
   obtain ⟨x,hx,h⟩:=h
   split at h
   ·rename_i c hc
    obtain ⟨h1,c',h2⟩:=er h
    exact ⟨by simp only [bO,step,hx,hc,put]; exact h1,c',by simp only [get,step,hx,hc]; exact h2⟩
   ·exact h.elim
  ·rename_i x i j
   cases hb:Nat.beq i 0 with
   | false=>rw [hb] at h; exact h.elim
   | true =>
    rw [hb] at h
    simp only [cond_true] at h
    split at h
    ·rename_i c hc
     obtain ⟨h1,c',h2⟩:=er h
     exact ⟨by simp only [bO,step,hb,cond_true,hc,put]; exact h1,c',by simp only [get,step,hb,cond_true,hc]; exact h2⟩
    ·exact h.elim
  ·rename_i s m kk j
   obtain ⟨x,hx,h⟩:=h
   split at h
   ·rename_i c hc
    obtain ⟨h1,c',h2⟩:=er h
    exact ⟨by simp only [bO,step,hx,hc,put]; exact h1,c',by simp only [get,step,hx,hc]; exact h2⟩
   ·exact h.elim
theorem di {ver aY ep bG:Nat} {p:List PS} (h:(Nat.beq ver aY && (emp p || Nat.beq ep bG))=true):ver=aY∧(p=[] ∨ ep=bG):=by
 simp only [Bool.and_eq_true,Bool.or_eq_true] at h
 refine ⟨Nat.eq_of_beq_eq_true h.1,?_⟩
 rcases h.2 with h | h
 ·left; cases p with
  | nil=>rfl
  | cons=>simp [emp] at h
 ·right; exact Nat.eq_of_beq_eq_true h
theorem cK {H:Nat→Nat→Nat→List PS→Option Value} {i ver ep bG:Nat} {p:List PS} (h:p=[] ∨ ep=bG):az H i ver ep p=az H i ver bG p:=by
 rcases h with rfl | rfl <;> rfl
theorem Fit.node {κ:Nat→ao} {w:World} {G:Gh} (ai:Fit G w κ) {i ver ep:Nat} {d nd:DV} {p:List PS} (hk:κ i=.tree ver ep d) (hp:get d p=some nd) (ho:nd.af=true) :
  ∃v,az G.H i ver ep p=some v∧v.oneCell'=true∧bW G.M w v (fun s=>az G.H i ver ep (p++[s])) nd:=by
 have hb:=ai.box i
 rw [hk] at hb
 exact hb.1.2 p nd hp ho
theorem wR {G:Gh} {i ver ep:Nat} {p:List PS} {s:PS} {d:DV} {u:Value} (hc:d.ak=true) (h:de G.M (az G.H i ver ep (p++[s])) d u) (hu:d.af=true→u.oneCell'=true):aE G (s9 i ver ep p s d) u:=by
 rcases h with ⟨h1,h2⟩ | ⟨h1,h2⟩
 ·simp only [s9,h1,cond_true]; exact .own _ _ _ _ _ h2 (hu h1)
 ·simp only [s9,h1,cond_false]; exact .dv h2
theorem wS {i ver ep:Nat} {p:List PS} {idx:Nat}:∀{l:List DV} {s j:Nat} {v:AV},(jE i ver ep p idx s l)[j]?=some v→∃d,l[j]?=some d∧v=s9 i ver ep p (.el idx (s+j)) d
 | [],s,j,v,h=>by simp [jE] at h
 | d::l,s,0,v,h=>by simp [jE] at h; exact ⟨d,rfl,h.symm⟩
 | d::l,s,j+1,v,h=>by
  simp only [jE,List.getElem?_cons_succ] at h
  obtain ⟨d',h1,h2⟩:=wS h
  exact ⟨d',by simpa using h1,by rw [h2]; congr 2; omega⟩
theorem l8 {i ver ep:Nat} {p:List PS} {idx:Nat}:∀{l:List DV} {s:Nat},(jE i ver ep p idx s l).length=l.length
 | [],s=>rfl
 | d::l,s=>by simp [jE,l8]
theorem wT {i ver ep:Nat} {p:List PS} {kk:DV}:∀{l:List DV} {s j:Nat} {v:AV},(jF i ver ep p kk s l)[j]?=some v→∃d,l[j]?=some d∧v=s9 i ver ep p (.key kk (s+j)) d
 | [],s,j,v,h=>by simp [jF] at h
 | d::l,s,0,v,h=>by simp [jF] at h; exact ⟨d,rfl,h.symm⟩
 | d::l,s,j+1,v,h=>by
  simp only [jF,List.getElem?_cons_succ] at h
  obtain ⟨d',h1,h2⟩:=wT h
  exact ⟨d',by simpa using h1,by rw [h2]; congr 2; omega⟩
theorem l9 {i ver ep:Nat} {p:List PS} {kk:DV}:∀{l:List DV} {s:Nat},(jF i ver ep p kk s l).length=l.length
 | [],s=>rfl
 | d::l,s=>by simp [jF,l9]
theorem Fit.cells {κ:Nat→ao} {w:World} {G:Gh} (ai:Fit G w κ) {i ver ep:Nat} {d nd:DV} {p:List PS} (hk:κ i=.tree ver ep d) (hp:get d p=some nd) {sz idx:Nat} {K:List AV→Prop} {A:Addr}
  (hA:az G.H i ver ep p=some (.pointer (some A)) ∨ ∃m c,az G.H i ver ep p=some (.slice (some A) m c)) {l:List AV} (hl:(∃l0 x,nd=.ay sz l0∧l0[idx]?=some x∧l=jE i ver ep p idx 0 x.cells) ∨ (∃x,nd=.cT x∧idx=0∧l=jE i ver ep p 0 0 x.cells)) :
  ∃vs:Nat→Value,(∀j,j<l.length→w.cell? ((A.add (idx * sz)).add j)=some (vs j))∧∀(j:Nat) (d:AV),l[j]?=some d→aE G d (vs j):=by
 have gF:∀s c u,step nd s=some c→c.af=true→az G.H i ver ep (p++[s])=some u→u.oneCell'=true:=by
  intro s c u hs hc hu
  obtain ⟨v,h1,h2,_⟩:=ai.node hk (p:=p++[s]) (nd:=c) (by rw [get_append,hp]; simp [get,hs]) hc
  rw [h1] at hu; injection hu with hu; subst hu; exact h2
 rcases hl with ⟨l0,x,rfl,hx,rfl⟩ | ⟨x,rfl,rfl,rfl⟩
 ·obtain ⟨v,h1,h2,aX⟩:=ai.node hk hp rfl
  rcases aX with ⟨rfl,_⟩ | ⟨gb,ob,cap,c,t,rfl,ek,hw,aT,oi⟩
  ·simp at hx
  ·have V1:A=⟨gb,ob,none⟩:=by
    rcases hA with hA | ⟨m,cc,hA⟩
    ·rw [h1] at hA; cases hA
    ·rw [h1] at hA; injection hA with hA; injection hA with hA; injection hA with hA; exact hA.symm
   subst V1
   obtain ⟨a1,a2⟩:=oi idx x hx
   refine ⟨fun j=>c.getD (ob+idx * sz+j) undef,fun j hj=>?_,fun j dd hd=>?_⟩
   ·rw [l8] at hj
    obtain ⟨_,u,b1,_⟩:=a2 j _ (List.getElem?_eq_getElem hj)
    rw [cy,cE]
    simp only [World.cell?,hw]
    rw [show ob+(idx * sz+j)=ob+idx * sz+j by omega,Array.getD_eq_getD_getElem?,b1]
    rfl
   ·obtain ⟨d0,e1,rfl⟩:=wS hd
    obtain ⟨b0,u,b1,b2⟩:=a2 j d0 e1
    show aE G _ (c.getD (ob+idx * sz+j) undef)
    rw [Array.getD_eq_getD_getElem?,b1,Nat.zero_add]
    refine wR b0 b2 fun ho=>?_
    rcases b2 with ⟨_,b2⟩ | ⟨b2,_⟩
    ·exact gF (.el idx j) d0 u (by simp only [step,hx]; exact e1) ho b2
    ·rw [ho] at b2; cases b2
 ·obtain ⟨v,h1,h2,aX⟩:=ai.node hk hp rfl
  obtain ⟨gb,c,t,rfl,hw,aT,oi⟩:=aX
  have V1:A=⟨gb,0,none⟩:=by
   rcases hA with hA | ⟨m,cc,hA⟩
   ·rw [h1] at hA; injection hA with hA; injection hA with hA; injection hA with hA; exact hA.symm
   ·rw [h1] at hA; cases hA
  subst V1
  refine ⟨fun j=>c.getD j undef,fun j hj=>?_,fun j dd hd=>?_⟩
  ·rw [l8] at hj
   obtain ⟨_,u,b1,_⟩:=oi j _ (List.getElem?_eq_getElem hj)
   rw [cy,cE]
   simp only [World.cell?,hw]
   rw [show 0+(0 * sz+j)=j by omega,Array.getD_eq_getD_getElem?,b1]
   rfl
  ·obtain ⟨d0,e1,rfl⟩:=wS hd
   obtain ⟨b0,u,b1,b2⟩:=oi j d0 e1
   show aE G _ (c.getD j undef)
   rw [Array.getD_eq_getD_getElem?,b1,Nat.zero_add]
   refine wR b0 b2 fun ho=>?_
   rcases b2 with ⟨_,b2⟩ | ⟨b2,_⟩
   ·exact gF (.el 0 j) d0 u (by simp [step]; exact e1) ho b2
   ·rw [ho] at b2; cases b2
theorem Bs (hT:ef P T) {t i ver ep bG sz idx off:Nat} {p:List PS} {x:Operand} {d:DV} (hg:bL ρ ops o.guard=some gd) (ho:o.op=.load t x) (bY:(nth T t).ok=true)
  (hb:κ i=.tree ver bG d) (dk:p=[] ∨ ep=bG)
  (hk:ia gd d p fun nd=>jg i ver bG p gd sz idx nd fun l=>bX (nth T t).agg l off (nth T t).size fun v=>aR n o gd nx k v [i]) (br:bn ρ κ gd x (.loc i ver ep p sz idx off)):Good P C ops n o nx ρ κ k:=by
 obtain ⟨nd,hk,c8⟩:=bB hk
 have oF:∃l,(bX (nth T t).agg l off (nth T t).size fun v=>aR n o gd nx k v [i])∧(gd=true→(∃l0 x,nd=.ay sz l0∧l0[idx]?=some x∧l=jE i ver bG p idx 0 x.cells) ∨ (∃x,nd=.cT x∧idx=0∧l=jE i ver bG p 0 0 x.cells)):=by
  unfold jg at hk
  split at hk
  ·rename_i oZ l0
   cases hs:Nat.beq sz oZ with
   | false=>rw [hs] at hk; exact hk.elim
   | true =>
    rw [hs] at hk
    have:=Nat.eq_of_beq_eq_true hs
    subst this
    obtain ⟨x,hx,hk⟩:=hk
    exact ⟨_,hk,fun aN=>.inl ⟨l0,x,rfl,hx aN,rfl⟩⟩
  ·rename_i x
   cases hs:Nat.beq idx 0 with
   | false=>rw [hs] at hk; exact hk.elim
   | true =>
    rw [hs] at hk
    exact ⟨_,hk,fun _=>.inr ⟨x,rfl,Nat.eq_of_beq_eq_true hs,rfl⟩⟩
  ·exact hk.elim
 obtain ⟨l,hk,hl⟩:=oF
 obtain ⟨av,hk,hp⟩:=dE hk
 refine bg (fun c=>by rw [ho]; simp) hg hk fun ρ' κ' au g a w G ai aN=>?_
 have hv:=br ρ' κ' (au.op (by rw [ho]; simp [Op.operands])) g n a w G ai aN
 have dN:κ' i=.tree ver bG d:=(au.reads i (by simp)).trans hb
 have key:∀A,a.eval x=.pointer (some (A.add (idx * sz+off)))→(az G.H i ver ep p=some (.pointer (some A)) ∨ ∃m c,az G.H i ver ep p=some (.slice (some A) m c))→∃v,(execOp a.eval o).run P w=.ok (.value v) w∧aE G av v:=by
  intro A hx hA
  rw [cK dk] at hA
  obtain ⟨vs,h1,h2⟩:=ai.fit.cells (K:=fun _=>True) dN (c8 aN) hA (hl aN)
  obtain ⟨v,h3,h4⟩:=jA (P:=P) (av:=av) (w:=w) (G:=G) (l:=l) (off:=off) hT bY (A.add (idx * sz)) vs h1 h2 hp
  rw [cy] at h3
  exact ⟨v,by simp only [execOp,ho,hx,Sem.run_bind,h3,Result.andThen_ok,Sem.run_pure],h4⟩
 generalize hx:a.eval x=v at hv
 cases hv with
 | loc _ _ _ _ _ _ _ A m c h=>exact key A hx (.inr ⟨m,c,h⟩)
 | my _ _ _ _ _ _ _ A h=>exact key A hx (.inl h)
end
end Go.TM
namespace Go.TM
open Go.RowKit
variable [ct]
theorem add_zero' (a:Addr):a.add 0=a:=by simp [Addr.add]
section
variable {P:Program} {C:dy→Prop} {T:List TI} {ops:List Oper} {n:Nat} {o:Oper} {nx:Nat} {ρ:Nat→AV} {κ:Nat→ao} {k:jo→Nat→Prop} {gd:Bool}
theorem Bp (hT:ef P T) {t:Nat} {x i:Operand} {sz:Nat} {l:List DV} {y:DV} {kd:IntKind} {m:Int} (hg:bL ρ ops o.guard=some gd) (ho:o.op=.indexAddr t x i)
  (bY:(nth T t).ok=true) (iJ:(nth T t).isSl=true) (iQ:(nth T (nth T t).elem).ok=true) (aT:sz=(nth T (nth T t).elem).size)
  (hy:gd=true→0≤m∧l[m.toNat]?=some y) (hk:aR n o gd nx k (.dv (.at y 0)) []) (br:bn ρ κ gd x (.dv (.sl sz l))) (mN:bn ρ κ gd i (.dv (.int kd m))):Good P C ops n o nx ρ κ k:=by
 obtain ⟨ti,u,z,tf⟩:=hT.facts bY
 obtain ⟨te,ue,ze,iz⟩:=hT.facts iQ
 refine bg (fun c=>by rw [ho]; simp) hg hk fun ρ' κ' au g a w G ai aN=>?_
 have hv:=br ρ' κ' (au.op (by rw [ho]; simp [Op.operands])) g n a w G ai aN
 have eW:=mN ρ' κ' (au.op (by rw [ho]; simp [Op.operands])) g n a w G ai aN
 generalize hx:a.eval x=v at hv
 generalize hi:a.eval i=vi at eW
 obtain ⟨Hj,QO⟩:=hy aN
 have aJ:m.toNat<l.length:=(List.getElem?_eq_some_iff.1 QO).1
 cases eW with | dv eW=>cases eW with | int =>
 cases hv with | dv hv=>cases hv with
 | slnil=>simp at aJ
 | sl _ _ A cap cell ek hlen hc hr =>
  have eJ:0≤m∧m<(l.length:Int):=⟨Hj,by omega⟩
  refine ⟨.pointer (some (A.add (m.toNat * sz))),?_,?_⟩
  ·have oV:=iz.eS w
   rw [←aT] at oV
   simp [execOp,ho,hx,hi,Instr.indexAt,run_underlying (tf.slice iJ),asIntOf,eJ,oV]
  ·have:=bk.at (M:=G.M) y 0 (A.add (m.toNat * sz)) (fun j=>cell m.toNat j) (hlen y (List.mem_of_getElem? QO)).2
    (fun j hj=>by rw [cy]; exact hc _ _ aJ (by rw [(hlen y (List.mem_of_getElem? QO)).1] at hj; exact hj))
    (fun j d hd=>hr _ y j d QO hd)
   rw [add_zero'] at this
   exact .dv this
theorem ly (hT:ef P T) {t:Nat} {x i:Operand} {av Tl:AV} {kd:IntKind} {m:Int} (hg:bL ρ ops o.guard=some gd) (ho:o.op=.indexAddr t x i)
  (bY:(nth T t).ok=true) (Bq:(nth T t).kind=10) (iQ:(nth T (nth T t).elem).ok=true) (hm:gd=true→0≤m∧m<(nth T t).len)
  (hk:aR n o gd nx k Tl []) (br:bn ρ κ gd x av) (mN:bn ρ κ gd i (.dv (.int kd m)))
  (hp:∀(G:Gh) (v:Value),aE G av v→∃a,v=.pointer (some a)∧aE G Tl (.pointer (some (a.add (m.toNat * (nth T (nth T t).elem).size))))):Good P C ops n o nx ρ κ k:=by
 obtain ⟨ti,u,z,tf⟩:=hT.facts bY
 obtain ⟨te,ue,ze,iz⟩:=hT.facts iQ
 refine bg (fun c=>by rw [ho]; simp) hg hk fun ρ' κ' au g a w G ai aN=>?_
 have hv:=br ρ' κ' (au.op (by rw [ho]; simp [Op.operands])) g n a w G ai aN
 have eW:=mN ρ' κ' (au.op (by rw [ho]; simp [Op.operands])) g n a w G ai aN
 generalize hi:a.eval i=vi at eW
 cases eW with | dv eW=>cases eW with | int =>
 obtain ⟨p,hp,NV⟩:=hp _ _ hv
 refine ⟨_,?_,NV⟩
 have hu:P.underlying t=some (.array (nth T t).len (nth T t).elem):=by
  have h1:=tf.kind
  rw [Bq] at h1
  have h2:=tf.len
  have h3:=tf.elem
  rw [tf.xS]
  cases u <;> simp [kindOf] at h1
  simp [lenOf] at h2
  simp [Kp] at h3
  rw [h2,h3]
 have eJ:=hm aN
 simp [execOp,ho,hp,hi,Instr.indexAt,run_underlying hu,asIntOf,Instr.sureAddr,eJ,iz.eS w]
theorem zn (hT:ef P T) {t:Nat} {x i:Operand} {id ver ep bG sz:Nat} {p:List PS} {d:DV} {l:List DV} {kd:IntKind} {m:Int} (hg:bL ρ ops o.guard=some gd) (ho:o.op=.indexAddr t x i)
  (bY:(nth T t).ok=true) (iJ:(nth T t).isSl=true) (iQ:(nth T (nth T t).elem).ok=true) (aT:sz=(nth T (nth T t).elem).size) (hb:κ id=.tree ver bG d) (dk:p=[] ∨ ep=bG) (c8:gd=true→get d p=some (.ay sz l))
  (hy:gd=true→0≤m∧m<l.length) (hk:aR n o gd nx k (.loc id ver ep p sz m.toNat 0) [id]) (br:bn ρ κ gd x (.own id ver ep p)) (mN:bn ρ κ gd i (.dv (.int kd m))):Good P C ops n o nx ρ κ k:=by
 obtain ⟨ti,u,z,tf⟩:=hT.facts bY
 obtain ⟨te,ue,ze,iz⟩:=hT.facts iQ
 refine bg (fun c=>by rw [ho]; simp) hg hk fun ρ' κ' au g a w G ai aN=>?_
 have hv:=br ρ' κ' (au.op (by rw [ho]; simp [Op.operands])) g n a w G ai aN
 have eW:=mN ρ' κ' (au.op (by rw [ho]; simp [Op.operands])) g n a w G ai aN
 generalize hx:a.eval x=v at hv
 generalize hi:a.eval i=vi at eW
 obtain ⟨Hj,QO⟩:=hy aN
 have dN:κ' id=.tree ver bG d:=(au.reads id (by simp)).trans hb
 obtain ⟨u,h1,_,aX⟩:=ai.fit.node dN (c8 aN) rfl
 cases eW with | dv eW=>cases eW with | int =>
 cases hv with
 | own _ _ _ _ _ hh hc =>
  have xf:=hh
  rw [cK dk,h1] at hh
  injection hh with hh
  subst hh
  rcases aX with ⟨rfl,_⟩ | ⟨gb,ob,cap,cc,tt,rfl,ek,hw,Uu,Ds⟩
  ·simp at QO; omega
  ·have eJ:0≤m∧m<(l.length:Int):=⟨Hj,QO⟩
   refine ⟨.pointer (some ((⟨gb,ob,none⟩:Addr).add (m.toNat * sz))),?_,?_⟩
   ·have oV:=iz.eS w
    rw [←aT] at oV
    simp [execOp,ho,hx,hi,Instr.indexAt,run_underlying (tf.slice iJ),asIntOf,eJ,oV]
   ·have:=aE.loc (G:=G) id ver ep p sz m.toNat 0 _ _ _ xf
    rwa [Nat.add_zero] at this
theorem zo (hT:ef P T) {t:Nat} {x i:Operand} {id len:Nat} {kd:IntKind} {m:Int} (hg:bL ρ ops o.guard=some gd) (ho:o.op=.indexAddr t x i)
  (bY:(nth T t).ok=true) (iJ:(nth T t).isSl=true) (iQ:(nth T (nth T t).elem).ok=true)
  (hy:gd=true→0≤m∧m<len) (hk:aR n o gd nx k (.ptr id (m.toNat * (nth T (nth T t).elem).size)) []) (br:bn ρ κ gd x (.sle id len)) (mN:bn ρ κ gd i (.dv (.int kd m))):Good P C ops n o nx ρ κ k:=by
 obtain ⟨ti,u,z,tf⟩:=hT.facts bY
 obtain ⟨te,ue,ze,iz⟩:=hT.facts iQ
 refine bg (fun c=>by rw [ho]; simp) hg hk fun ρ' κ' au g a w G ai aN=>?_
 have hv:=br ρ' κ' (au.op (by rw [ho]; simp [Op.operands])) g n a w G ai aN
 have eW:=mN ρ' κ' (au.op (by rw [ho]; simp [Op.operands])) g n a w G ai aN
 generalize hx:a.eval x=v at hv
 generalize hi:a.eval i=vi at eW
 have eJ:=hy aN
 cases eW with | dv eW=>cases eW with | int =>
 cases hv with
 | sle _ _ b hb =>
  refine ⟨.pointer (some ((⟨b,0,none⟩:Addr).add (m.toNat * (nth T (nth T t).elem).size))),?_,?_⟩
  ·have oV:=iz.eS w
   simp [execOp,ho,hx,hi,Instr.indexAt,run_underlying (tf.slice iJ),asIntOf,eJ,oV]
  ·rw [cE,Nat.zero_add]; exact .ptr _ _ b hb
theorem zp (hT:ef P T) {t:Nat} {x i:Operand} {id ver ep sz lo len:Nat} {p:List PS} {kd:IntKind} {m:Int} (hg:bL ρ ops o.guard=some gd) (ho:o.op=.indexAddr t x i)
  (bY:(nth T t).ok=true) (iJ:(nth T t).isSl=true) (iQ:(nth T (nth T t).elem).ok=true) (aT:sz=(nth T (nth T t).elem).size)
  (hy:gd=true→0≤m∧m<len) (hk:aR n o gd nx k (.loc id ver ep p sz (lo+m.toNat) 0) []) (br:bn ρ κ gd x (.pre id ver ep p sz lo len)) (mN:bn ρ κ gd i (.dv (.int kd m))):Good P C ops n o nx ρ κ k:=by
 obtain ⟨ti,u,z,tf⟩:=hT.facts bY
 obtain ⟨te,ue,ze,iz⟩:=hT.facts iQ
 refine bg (fun c=>by rw [ho]; simp) hg hk fun ρ' κ' au g a w G ai aN=>?_
 have hv:=br ρ' κ' (au.op (by rw [ho]; simp [Op.operands])) g n a w G ai aN
 have eW:=mN ρ' κ' (au.op (by rw [ho]; simp [Op.operands])) g n a w G ai aN
 generalize hx:a.eval x=v at hv
 generalize hi:a.eval i=vi at eW
 have eJ:=hy aN
 cases eW with | dv eW=>cases eW with | int =>
 cases hv with
 | pre _ _ _ _ _ _ _ q c hh =>
  obtain ⟨A,N,c',hq,rfl⟩:=hh (by omega)
  refine ⟨.pointer (some ((A.add (lo * sz)).add (m.toNat * sz))),?_,?_⟩
  ·have oV:=iz.eS w
   rw [←aT] at oV
   simp [execOp,ho,hx,hi,Instr.indexAt,run_underlying (tf.slice iJ),asIntOf,eJ,oV]
  ·rw [cy,←Nat.add_mul]
   have:=aE.loc (G:=G) id ver ep p sz (lo+m.toNat) 0 _ _ _ hq
   rwa [Nat.add_zero] at this
theorem oY (hT:ef P T) {t:Nat} {x:Operand} {c:Call} {av:AV} {m:Int} {rd:List Nat} (hg:bL ρ ops o.guard=some gd) (ho:o.op=.call c) (hc:c.callee=.builtin .len) (ha:c.args.toList=[x]) (jf:c.argTypes.toList=[t])
  (hk:aR n o gd nx k (.dv (.int .i64 m)) rd) (br:bn ρ κ gd x av) (bY:(nth T t).ok=true)
  (hp:gd=true→∀κ',(∀i,i∈rd→κ' i=κ i)→∀(G:Gh) (w:World) (v:Value),Fit G w κ'→aE G av v →
   ((nth T t).isSl=true∧∃p l c,v=.slice p l c∧(l:Int)=m) ∨ ((nth T t).isStr=true∧∃s,v=.string s∧(s.size:Int)=m) ∨
   (Nat.beq (nth T t).kind 6=true∧∃b es clock,v=.map (some b)∧w.heap[b]?=some (.map es clock)∧(es.size:Int)=m)):Good P C ops n o nx ρ κ k:=by
 have bM:c.args=#[x]:=Array.ext' (by simpa using ha)
 have Fs:c.argTypes=#[t]:=Array.ext' (by simpa using jf)
 refine bg (fun c=>by rw [ho]; simp) hg hk fun ρ' κ' au g a w G ai aN=>?_
 have hv:=br ρ' κ' (au.op (by rw [ho]; simp [Op.operands,Call.operands,hc,bM])) g n a w G ai aN
 refine ⟨.int .i64 m,?_,.dv (.int _ _)⟩
 obtain ⟨ti,u,z,tf⟩:=hT.facts bY
 rcases hp aN κ' au.reads G w _ ai.fit hv with ⟨iJ,p,l,cc,Gt,hm⟩ | ⟨iJ,s,Gt,hm⟩ | ⟨YV,b,es,clock,Gt,hw,hm⟩
 ·simp [execOp,ho,resolve,hc,bM,Fs,invoke,builtin,Builtin.len_,run_underlying (tf.slice iJ),Gt,goInt,hm]
 ·simp [execOp,ho,resolve,hc,bM,Fs,invoke,builtin,Builtin.len_,run_underlying (tf.string iJ),Gt,goInt,hm]
 ·have hu:∃kt et,P.underlying t=some (.map kt et):=by
   have h1:=tf.kind
   rw [Nat.eq_of_beq_eq_true YV] at h1
   cases u <;> simp [kindOf] at h1
   exact ⟨_,_,tf.xS⟩
  obtain ⟨kt,et,hu⟩:=hu
  simp [execOp,ho,resolve,hc,bM,Fs,invoke,builtin,Builtin.len_,run_underlying hu,Gt,goInt,hm,MapKept.run_getObj_map hw]
theorem fv {w:World} {t e:TypeId} (hu:P.underlying t=some (.slice e)) (a:Option Addr) (l c:Nat):(Op.equal t (.slice a l c) (.slice none 0 0)).run P w=.ok a.isNone w:=by
 have h:∀d,(Op.equalIn (d+1) t (.slice a l c) (.slice none 0 0)).run P w=.ok a.isNone w:=fun d=>by
  cases a <;> simp [Op.equalIn,run_underlying hu]
 simp only [Op.equal,Op.maxDepth,h 9999]
theorem QP {b:Bool} {p:Prop} (h:bif b then p else False):b=true∧p:=by
 cases b with
 | false=>exact h.elim
 | true=>exact ⟨rfl,h⟩
theorem AT {κ:Nat→ao} {gd:Bool} {a:AV} {k:Option Bool→List Nat→Prop} (h:wJ κ gd a k):∃c rd,k c rd∧(gd=true→∀κ',(∀i,i∈rd→κ' i=κ i)→∀(G:Gh) (w:World) (v:Value),Fit G w κ'→aE G a v→∃p l cc,v=.slice p l cc∧∀b,c=some b→p.isNone=b):=by
 unfold wJ at h
 split at h
 ·refine ⟨_,_,h,fun _ κ' _ G w v _ hv=>?_⟩
  cases hv with | dv hv=>cases hv with | aG=>exact ⟨_,_,_,rfl,fun b hb=>by injection hb⟩
 ·rcases h with h | ⟨hl,h⟩
  ·refine ⟨_,_,h,fun _ κ' _ G w v _ hv=>?_⟩
   cases hv with | dv hv=>cases hv with
   | slnil=>exact ⟨_,_,_,rfl,fun b hb=>by cases hb⟩
   | sl=>exact ⟨_,_,_,rfl,fun b hb=>by cases hb⟩
  ·refine ⟨_,_,h,fun _ κ' _ G w v _ hv=>?_⟩
   cases hv with | dv hv=>cases hv with
   | slnil=>exact absurd rfl hl
   | sl=>exact ⟨_,_,_,rfl,fun b hb=>by injection hb⟩
 ·rename_i i ver ep p
  split at h
  ·rename_i aY bG d hk
   have hh:=QP h; clear h; obtain ⟨hb,h⟩:=hh
   obtain ⟨rfl,dk⟩:=di hb
   obtain ⟨nd,h,c8⟩:=bB h
   split at h
   ·rename_i sz l
    have key:gd=true→∀κ',(∀j,j∈[i]→κ' j=κ j)→∀(G:Gh) (w:World) (v:Value),Fit G w κ'→aE G (.own i ver ep p) v→∃q m cc,v=.slice q m cc∧(l ≠ []→q.isNone=false):=by
     intro aN κ' au G w v hf hv
     have ey:=(au i (by simp)).trans hk
     obtain ⟨u,e1,e2,e3⟩:=hf.node ey (c8 aN) rfl
     cases hv with | own _ _ _ _ _ hh hc =>
     rw [cK dk] at hh
     rw [hh] at e1; injection e1 with e1; subst e1
     rcases e3 with ⟨lq,hx⟩ | ⟨gb,o,cap,c,tt,hx,_⟩
     ·exact ⟨_,_,_,hx,fun hl=>absurd lq hl⟩
     ·exact ⟨_,_,_,hx,fun _=>rfl⟩
    rcases h with h | ⟨hl,h⟩
    ·refine ⟨_,_,h,fun aN κ' au G w v hf hv=>?_⟩
     obtain ⟨q,m,cc,e,_⟩:=key aN κ' au G w v hf hv
     exact ⟨q,m,cc,e,fun b hb=>by cases hb⟩
    ·refine ⟨_,_,h,fun aN κ' au G w v hf hv=>?_⟩
     obtain ⟨q,m,cc,e,e2⟩:=key aN κ' au G w v hf hv
     exact ⟨q,m,cc,e,fun b hb=>by injection hb with hb; rw [e2 hl,hb]⟩
   ·exact h.elim
  ·exact h.elim
 ·refine ⟨_,_,h,fun _ κ' _ G w v _ hv=>?_⟩
  cases hv with | bT _ _ a m hh=>exact ⟨_,_,_,rfl,fun b hb=>by injection hb⟩
 ·exact h.elim
theorem Pt {α:Type} {b:Bool} {x:Option α} {y:α} (h:(bif b then x else none)=some y):b=true∧x=some y:=by cases b <;> simp_all
theorem Db {G:Gh} {w:World} {x y:AV} {u v:Value} {e:Bool} {f:TypeId} {k D:Nat} (hp:pq (P.underlying f)=k) (h:AQ k x y=some e) (hx:aE G x u) (hy:aE G y v) :
  (Op.equalIn (D+1) f u v).run P w=.ok e w:=by
 unfold AQ at h
 split at h
 ·rename_i kk a k' b
  cases hk:kk == k' with
  | false=>rw [hk] at h; cases h
  | true =>
   rw [hk] at h
   have Hw:kk=k':=by simpa using hk
   subst Hw
   injection h with h; subst h
   cases hx with | dv hx=>cases hx with | int=>cases hy with | dv hy=>cases hy with | int =>
   obtain ⟨q,hq⟩:∃q,P.underlying f=some (.int q):=by
    unfold pq at hp
    split at hp <;> first | (cases hp; done) | exact ⟨_,by assumption⟩
   exact run_equalIn_int w D f kk q a b hq
 ·rename_i a b
  injection h with h; subst h
  cases hx with | dv hx=>cases hx with | bool=>cases hy with | dv hy=>cases hy with | bool =>
  have hq:P.underlying f=some .bool:=by
   unfold pq at hp
   split at hp <;> first | (cases hp; done) | assumption
  exact run_equalIn_bool w D f a b hq
 ·rename_i a b
  injection h with h; subst h
  cases hx with | dv hx=>cases hx with | str=>cases hy with | dv hy=>cases hy with | str =>
  have hq:P.underlying f=some .string:=by
   unfold pq at hp
   split at hp <;> first | (cases hp; done) | assumption
  exact run_equalIn_string w D f a b hq
 ·cases h
theorem q5 {w:World} {e:TypeId} {k:Nat} (he:pq (P.underlying e)=k+1) {xs:Array Value} {off:Nat} {v:Value} (hx:xs[off]?=some v):(part e xs off).run P w=.ok v w:=by
 unfold pq at he
 split at he
 ·rename_i k hu; simp [part,isAgg,run_underlying hu,hx]
 ·rename_i hu; simp [part,isAgg,run_underlying hu,hx]
 ·rename_i hu; simp [part,isAgg,run_underlying hu,hx]
 ·cases he
theorem q6 {G:Gh} {w:World} {xs ys:Array Value} {D:Nat}:∀(fs:List Field) (i:Nat) (q:List Nat) (l r:List AV) (e:Bool),vW P i fs=some q→gW q l r=some e →
  (∀(j:Nat) (d:AV),l[j]?=some d→∃u,xs[i+j]?=some u∧aE G d u)→(∀(j:Nat) (d:AV),r[j]?=some d→∃u,ys[i+j]?=some u∧aE G d u) →
  (Op.eqFields (D+1) xs ys fs).run P w=.ok e w
 | [],i,q,l,r,e,hp,he,hx,hy=>by
  simp only [vW,Option.some.injEq] at hp
  subst hp
  cases l <;> cases r <;> simp [gW] at he
  subst he; simp [Op.eqFields]
 | f::fs,i,q,l,r,e,hp,he,hx,hy=>by
  simp only [vW] at hp
  have hh:=Pt hp; clear hp; obtain ⟨hb,hp⟩:=hh
  simp only [Bool.and_eq_true,bne_iff_ne] at hb
  obtain ⟨n1,o1⟩:=hb
  have o1:=Nat.eq_of_beq_eq_true o1
  split at hp
  ·rename_i k q' hk DB
   injection hp with hp; subst hp
   cases l with
   | nil=>cases r <;> simp [gW] at he
   | cons x l=>cases r with
    | nil=>simp [gW] at he
    | cons y r =>
     simp only [gW] at he
     split at he
     ·rename_i a b ha hb
      injection he with he; subst he
      obtain ⟨u,hu,V2⟩:=hx 0 x rfl
      obtain ⟨v,hv,Rf⟩:=hy 0 y rfl
      have h1:=Db (w:=w) (D:=D) hk ha V2 Rf
      simp only [Op.eqFields,n1,ne_eq,not_false_eq_true,if_true,Sem.run_bind,o1]
      rw [q5 hk (by simpa using hu)]
      simp only [Result.andThen_ok]
      rw [q5 hk (by simpa using hv)]
      simp only [Result.andThen_ok,h1]
      cases a with
      | false=>simp
      | true =>
       simp only [Bool.not_true,Bool.false_eq_true,if_false,Bool.true_and]
       exact q6 fs (i+1) q' l r b DB hb (fun j d hd=>by have:=hx (j+1) d (by simpa using hd); rwa [show i+(j+1)=i+1+j by omega] at this)
        (fun j d hd=>by have:=hy (j+1) d (by simpa using hd); rwa [show i+(j+1)=i+1+j by omega] at this)
     ·cases he
  ·cases hp
theorem O9 (hT:ef P T) {op:BinOp} {t ty:TypeId} {x y:Operand} (hg:bL ρ ops o.guard=some gd) (ho:o.op=.binOp op t x y ty) {va vb:AV} (O7:bn ρ κ gd x va) (O8:bn ρ κ gd y vb)
  (h:P4 (nth T t) op va vb fun v=>aR n o gd nx k v []):Good P C ops n o nx ρ κ k:=by
 have hh:=QP h; clear h; obtain ⟨hb,h⟩:=hh
 simp only [Bool.and_eq_true] at hb
 obtain ⟨i,u,z,tf⟩:=hT.facts hb.1
 split at h
 ·rename_i x1 l r
  split at h
  ·rename_i e he
   have hk:=tf.kind
   rw [Nat.eq_of_beq_eq_true hb.2] at hk
   obtain ⟨fs,rfl⟩:∃fs,u=.struct fs:=by
    cases u <;> simp [kindOf] at hk
    exact ⟨_,rfl⟩
   have heq:=tf.PV
   simp only [Kq] at heq
   split at heq
   ·rename_i q hq
    cases hc:Nat.beq fs.toList.length i.size && !P.stoodInHeld t && !P.eqGuardType P.depth t with
    | false=>rw [hc] at heq; simp only [cond_false] at heq; rw [heq] at he; simp [gW] at he
    | true =>
     rw [hc] at heq
     simp only [cond_true] at heq
     rw [heq] at he
     simp only [Bool.and_eq_true,Bool.not_eq_true'] at hc
     have hf:P.fieldsOf t=fs:=by simp [Program.fieldsOf,tf.xS]
     have core:∀(G:Gh) (w:World) (u v:Value),aE G (.agg (x1::l)) u→aE G (.agg r) v→∃us vs,u=.agg us∧v=.agg vs∧(Op.equalIn 10000 t u v).run P w=.ok e w:=by
      intro G w u v hu hv
      cases hu with | agg _ us ZG V2=>cases hv with | agg _ vs Ub Rf =>
      refine ⟨_,_,rfl,rfl,?_⟩
      rw [run_equalIn_struct w 9999 t _ _ (by rw [hf]; exact tf.xS) hc.1.2,hf]
      refine q6 (G:=G) (D:=9998) fs.toList 0 q _ _ e hq he (fun j d hd=>?_) (fun j d hd=>?_)
      ·have hj:=(List.getElem?_eq_some_iff.1 hd).1
       exact ⟨us[j]'(by omega),by simp,V2 j d _ hd (List.getElem?_eq_getElem (by omega))⟩
      ·have hj:=(List.getElem?_eq_some_iff.1 hd).1
       exact ⟨vs[j]'(by omega),by simp,Rf j d _ hd (List.getElem?_eq_getElem (by omega))⟩
     have fin:∀c:Bool,aR n o gd nx k (.dv (.bool c)) []→(∀(w:World) (us vs:Array Value),(Op.equalIn 10000 t (.agg us) (.agg vs)).run P w=.ok e w→(binOp op t (.agg us) (.agg vs)).run P w=.ok (.bool c) w)→Good P C ops n o nx ρ κ k:=by
      intro c ey bc
      refine bg (fun c=>by rw [ho]; simp) hg ey fun ρ' κ' au g a w G ai aN=>?_
      have h1:=O7 ρ' κ' (au.op (by rw [ho]; simp [Op.operands])) g n a w G ai aN
      have h2:=O8 ρ' κ' (au.op (by rw [ho]; simp [Op.operands])) g n a w G ai aN
      obtain ⟨us,vs,e1,e2,e3⟩:=core G w _ _ h1 h2
      refine ⟨.bool c,?_,.dv (.bool c)⟩
      rw [e1,e2] at e3
      simp only [execOp,ho,Sem.run_bind]
      rw [e1,e2,run_eqGuard_agg w op t x y us vs hc.2]
      simp only [Result.andThen_ok,bc w us vs e3,Sem.run_pure]
     split at h
     ·exact fin e h fun w us vs h3=>by rw [run_eql_struct,h3]; rfl
     ·exact fin (!e) h fun w us vs h3=>by rw [run_neq_struct,h3]; rfl
     ·exact h.elim
   ·rw [heq] at he; simp [gW] at he
  ·exact h.elim
 ·exact h.elim
theorem DS (hT:ef P T) {op:BinOp} {t ty:TypeId} {x y:Operand} (hg:bL ρ ops o.guard=some gd) (ho:o.op=.binOp op t x y ty) {av:AV} (br:bn ρ κ gd x av) (FM:bn ρ κ gd y (.dv .aG))
  (h:AP (nth T t) op κ gd av fun v rd=>aR n o gd nx k v rd):Good P C ops n o nx ρ κ k:=by
 unfold AP at h
 have hh:=QP h; clear h; obtain ⟨hb,h⟩:=hh
 simp only [Bool.and_eq_true] at hb
 obtain ⟨i,u,z,tf⟩:=hT.facts hb.1
 have hu:=tf.slice hb.2
 have core:∀(neg:Bool),(∀(w:World) (p:Option Addr) (l cc:Nat),(binOp op t (.slice p l cc) (.slice none 0 0)).run P w=.ok (.bool (bif neg then !p.isNone else p.isNone)) w)→(wJ κ gd av fun c rd=>aR n o gd nx k (QJ neg c) rd)→Good P C ops n o nx ρ κ k:=by
  intro neg bc h
  obtain ⟨c,rd,hk,hs⟩:=AT h
  refine bg (fun c=>by rw [ho]; simp) hg hk fun ρ' κ' au g a w G ai aN=>?_
  have h1:=br ρ' κ' (au.op (by rw [ho]; simp [Op.operands])) g n a w G ai aN
  have h2:=FM ρ' κ' (au.op (by rw [ho]; simp [Op.operands])) g n a w G ai aN
  obtain ⟨p,l,cc,hv,hp⟩:=hs aN κ' au.reads G w _ ai.fit h1
  generalize hy:a.eval y=vy at h2
  cases h2 with | dv h2=>cases h2 with | aG =>
  refine ⟨.bool (bif neg then !p.isNone else p.isNone),?_,?_⟩
  ·simp only [execOp,ho,Sem.run_bind]
   rw [gv op t x y _ _ (by rw [hv]; simp) (by rw [hv]; simp),hv,hy]
   simp only [Result.andThen_ok,bc w p l cc,Sem.run_pure]
  ·cases c with
   | none=>exact .dv (.mI _)
   | some b=>rw [hp b rfl]; exact .dv (.bool _)
 split at h
 ·exact core false (fun w p l cc=>by simp only [binOp,Sem.run_bind,fv hu,Result.andThen_ok,Sem.run_pure,cond_false]) h
 ·exact core true (fun w p l cc=>by simp only [binOp,Sem.run_bind,fv hu,Result.andThen_ok,Sem.run_pure,cond_true]) h
 ·exact h.elim
theorem DX (hT:ef P T) {s t:TypeId} {x:Operand} {kx kd:IntKind} {m:Int} (hg:bL ρ ops o.guard=some gd) (ho:o.op=.convert s t x) (hs:(nth T s).ok=true) (ht:(nth T t).ok=true) (hi:(nth T t).DH=some kd) (hk:aR n o gd nx k (.dv (.int kd (kd.wrap m))) []) (br:bn ρ κ gd x (.dv (.int kx m))):Good P C ops n o nx ρ κ k:=by
 obtain ⟨i1,u1,z1,RA⟩:=hT.facts hs
 obtain ⟨i2,u2,z2,TE⟩:=hT.facts ht
 refine bg (fun c=>by rw [ho]; simp) hg hk fun ρ' κ' au g a w G ai aN=>?_
 have hv:=br ρ' κ' (au.op (by rw [ho]; simp [Op.operands])) g n a w G ai aN
 generalize hx:a.eval x=v at hv
 cases hv with | dv hv=>cases hv with | int =>
 have h2:=TE.DH
 rw [hi] at h2
 cases u2 <;> simp [Bi] at h2
 subst h2
 refine ⟨.int kd (kd.wrap m),?_,.dv (.int _ _)⟩
 simp [execOp,ho,hx,convert,run_underlying RA.xS,run_underlying TE.xS,Conv.intToInt]
theorem Ja (hT:ef P T) {t:TypeId} {x ix:Operand} {kx:IntKind} {m:Int} {s:ByteArray} {b:UInt8} (hg:bL ρ ops o.guard=some gd) (ho:o.op=.index t x ix) (ht:(nth T t).ok=true) (ai:(nth T t).isStr=true) (hb:gd=true→0≤m∧s[m.toNat]?=some b) (hk:aR n o gd nx k (.dv (.int .u8 b.toNat)) []) (br:bn ρ κ gd x (.dv (.str s))) (mN:bn ρ κ gd ix (.dv (.int kx m))):Good P C ops n o nx ρ κ k:=by
 obtain ⟨i1,u1,z1,RA⟩:=hT.facts ht
 have hu:=RA.string ai
 refine bg (fun c=>by rw [ho]; simp) hg hk fun ρ' κ' au g a w G ai aN=>?_
 have hv:=br ρ' κ' (au.op (by rw [ho]; simp [Op.operands])) g n a w G ai aN
 have hi:=mN ρ' κ' (au.op (by rw [ho]; simp [Op.operands])) g n a w G ai aN
 generalize hx:a.eval x=v at hv
 generalize hy:a.eval ix=u at hi
 cases hv with | dv hv=>cases hv with | str =>
 cases hi with | dv hi=>cases hi with | int =>
 obtain ⟨h0,hb⟩:=hb aN
 refine ⟨.int .u8 b.toNat,?_,.dv (.int _ _)⟩
 simp [execOp,ho,hx,hy,Instr.index,asIntOf,run_underlying hu,h0,hb]
theorem Pe {x y:Operand} {c:Call} {p q:Int} (hg:bL ρ ops o.guard=some gd) (ho:o.op=.call c) (hc:c.callee=.builtin .min) (ha:c.args.toList=[x,y])
  (hk:aR n o gd nx k (.dv (.int .i64 (if q<p then q else p))) []) (br:bn ρ κ gd x (.dv (.int .i64 p))) (mN:bn ρ κ gd y (.dv (.int .i64 q))):Good P C ops n o nx ρ κ k:=by
 have bM:c.args=#[x,y]:=Array.ext' (by simpa using ha)
 refine bg (fun c=>by rw [ho]; simp) hg hk fun ρ' κ' au g a w G ai aN=>?_
 have hv:=br ρ' κ' (au.op (by rw [ho]; simp [Op.operands,Call.operands,hc,bM])) g n a w G ai aN
 have eW:=mN ρ' κ' (au.op (by rw [ho]; simp [Op.operands,Call.operands,hc,bM])) g n a w G ai aN
 generalize hx:a.eval x=v at hv
 generalize hi:a.eval y=vi at eW
 cases eW with | dv eW=>cases eW with | int =>
 cases hv with | dv hv=>cases hv with | int =>
 refine ⟨_,?_,.dv (.int _ _)⟩
 simp [execOp,ho,resolve,hc,bM,invoke,builtin,Builtin.min_,Builtin.min2,hx,hi]
theorem Pf {x y:Operand} {c:Call} {p q:Int} (hg:bL ρ ops o.guard=some gd) (ho:o.op=.call c) (hc:c.callee=.builtin .max) (ha:c.args.toList=[x,y])
  (hk:aR n o gd nx k (.dv (.int .i64 (if p<q then q else p))) []) (br:bn ρ κ gd x (.dv (.int .i64 p))) (mN:bn ρ κ gd y (.dv (.int .i64 q))):Good P C ops n o nx ρ κ k:=by
 have bM:c.args=#[x,y]:=Array.ext' (by simpa using ha)
 refine bg (fun c=>by rw [ho]; simp) hg hk fun ρ' κ' au g a w G ai aN=>?_
 have hv:=br ρ' κ' (au.op (by rw [ho]; simp [Op.operands,Call.operands,hc,bM])) g n a w G ai aN
 have eW:=mN ρ' κ' (au.op (by rw [ho]; simp [Op.operands,Call.operands,hc,bM])) g n a w G ai aN
 generalize hx:a.eval x=v at hv
 generalize hi:a.eval y=vi at eW
 cases eW with | dv eW=>cases eW with | int =>
 cases hv with | dv hv=>cases hv with | int =>
 refine ⟨_,?_,.dv (.int _ _)⟩
 simp [execOp,ho,resolve,hc,bM,invoke,builtin,Builtin.max_,Builtin.max2,hx,hi]
def ma (ρ:Nat→AV) (κ:Nat→ao) (g:Bool):List (Nat × Operand)→List (Nat × AV)→Prop
 | [],[]=>True
 | (i,x)::r,(j,v)::l=>i=j∧bn ρ κ g x v∧ma ρ κ g r l
 | _,_=>False
theorem ko:∀{l:List (Nat × Operand)} {k:List (Nat × AV)→Prop},qD ρ κ gd l k→∃r,k r∧ma ρ κ gd l r
 | [],k,h=>⟨[],h,tv⟩
 | (i,x)::l,k,h=>by
  obtain ⟨v,h,hv⟩:=aF h
  obtain ⟨r,h,hr⟩:=ko h
  exact ⟨_,h,rfl,hv,hr⟩
theorem eU:∀{l:List AV},bQ l=true→∀v,v∈l→v.ak=true
 | [],_,v,h=>by simp at h
 | x::l,h,v,hv=>by
  simp only [bQ,Bool.and_eq_true] at h
  rcases List.mem_cons.1 hv with rfl | hv
  ·exact h.1
  ·exact eU h.2 v hv
section
variable {G:Gh}
theorem bR.cJ {l:List AV} {vs:List Value} (h:bR G l vs) (hc:bQ l=true):∀v,v∈vs→v.oneCell'=true:=by
 intro v hv
 obtain ⟨j,hj,rfl⟩:=List.getElem_of_mem hv
 have oB:j<l.length:=by rw [h.1]; exact hj
 exact (h.2 j l[j] vs[j] (List.getElem?_eq_getElem oB) (List.getElem?_eq_getElem hj)).cJ (eU hc _ (List.getElem_mem oB))
theorem la {av:AV} {v:Value} (h:aE G av v) (hc:bQ (cellsOf av)=true):bR G (cellsOf av) v.cells.toList:=by
 cases av with
 | agg l =>
  cases h with
  | agg _ vs hl hr=>exact ⟨by simpa [cellsOf,Value.cells] using hl,by simpa [cellsOf,Value.cells] using hr⟩
 | _ =>
  simp only [cellsOf,bQ,Bool.and_true] at hc
  have h1:=h.cJ hc
  have:v.cells=#[v]:=by cases v <;> first | rfl | (simp [Value.oneCell'] at h1)
  rw [this]
  refine ⟨rfl,fun j d u hd hu=>?_⟩
  cases j with
  | zero=>simp [cellsOf] at hd hu; subst hd; subst hu; exact h
  | succ j=>simp [cellsOf] at hd
theorem bR.gi {l:List AV} {vs:List Value} {l':List AV} {sF:List Value} (h:bR G l vs) (h':bR G l' sF) (off:Nat) (hle:off+l'.length≤l.length) :
  bR G (gi l off l') (vs.take off++sF++vs.drop (off+sF.length)):=by
 have e:=h.1
 have e':=h'.1
 constructor
 ·simp [TM.gi]; omega
 ·intro j d v hd hv
  simp only [TM.gi,List.append_assoc] at hd hv
  rw [List.getElem?_append] at hd hv
  simp only [List.length_take] at hd hv
  by_cases h1:j<off
  ·rw [if_pos (by omega)] at hd hv
   rw [List.getElem?_take,if_pos h1] at hd hv
   exact h.2 j d v hd hv
  ·rw [if_neg (by omega)] at hd hv
   rw [List.getElem?_append] at hd hv
   rw [show min off l.length=off by omega] at hd
   rw [show min off vs.length=off by omega] at hv
   by_cases h2:j - off<l'.length
   ·rw [if_pos h2] at hd
    rw [if_pos (by omega)] at hv
    exact h'.2 _ d v hd hv
   ·rw [if_neg h2] at hd
    rw [if_neg (by omega)] at hv
    rw [List.getElem?_drop] at hd hv
    rw [←e'] at hv
    exact h.2 _ d v hd hv
theorem Dc (off:Nat):∀(vs:List Value) (i:Nat) (cur:Array Value),off+i+vs.length≤cur.size →
  ((vs.zipIdx i).foldl (fun cs (p:Value × Nat)=>cs.setIfInBounds (off+p.2) p.1) cur).toList=cur.toList.take (off+i)++vs++cur.toList.drop (off+i+vs.length)
 | [],i,cur,_=>by simp
 | v::rest,i,cur,hl=>by
  simp only [List.zipIdx_cons,List.foldl_cons]
  rw [Dc off rest (i+1) (cur.setIfInBounds (off+i) v) (by simp at hl ⊢; omega)]
  have e:=list_seg_step cur.toList (off+i) v rest (by simp at hl ⊢; omega)
  simpa [Array.toList_setIfInBounds,Nat.add_assoc] using e
theorem pL (place:Nat→Option (Nat × Nat)):∀(parts:List (Nat × AV)) (Ft:List (Nat × Value)) (l l':List AV) (cs:Array Value),
  (parts.length=Ft.length∧∀(j:Nat) (p:Nat × AV) (q:Nat × Value),parts[j]?=some p→Ft[j]?=some q→p.1=q.1∧aE G p.2 q.2)→bR G l cs.toList→oJ place l parts=some l' →
  ∃NW,Instr.fill place cs Ft=some NW∧bR G l' NW.toList
 | [],[],l,l',cs,_,hc,h=>by simp [oJ] at h; subst h; exact ⟨cs,rfl,hc⟩
 | [],q::vr,l,l',cs,hp,_,_=>by simp at hp
 | p::r,[],l,l',cs,hp,_,_=>by simp at hp
 | (i,av)::r,(i',v)::vr,l,l',cs,hp,hc,h=>by
  have h0:=hp.2 0 (i,av) (i',v) rfl rfl
  simp only at h0
  obtain ⟨rfl,hv⟩:=h0
  simp only [oJ] at h
  split at h
  ·cases h
  ·rename_i off sz Pw
   cases hb:(Nat.beq (cellsOf av).length sz && Nat.ble (off+sz) l.length && bQ (cellsOf av)) with
   | false=>rw [hb] at h; cases h
   | true =>
    rw [hb] at h
    simp only [cond_true] at h
    simp only [Bool.and_eq_true] at hb
    obtain ⟨⟨kj,cw⟩,w4⟩:=hb
    have kj:=Nat.eq_of_beq_eq_true kj
    have cw:=Nat.le_of_ble_eq_true cw
    have oE:=la hv w4
    have aT:v.cells.size=sz:=by rw [←kj,oE.1]; simp
    have ZH:l.length=cs.size:=by rw [hc.1]; simp
    have iP:((v.cells.zipIdx.foldl (fun cs (p:Value × Nat)=>cs.setIfInBounds (off+p.2) p.1) cs).toList)=cs.toList.take off++v.cells.toList++cs.toList.drop (off+v.cells.toList.length):=by
     rw [←Array.foldl_toList,Array.toList_zipIdx]
     have:=Dc off v.cells.toList 0 cs (by simp; omega)
     simpa using this
    have fE:bR G (gi l off (cellsOf av)) (v.cells.zipIdx.foldl (fun cs (p:Value × Nat)=>cs.setIfInBounds (off+p.2) p.1) cs).toList:=by
     rw [iP]
     exact hc.gi oE off (by omega)
    obtain ⟨NW,h1,h2⟩:=pL place r vr _ l' _ ⟨by simpa using hp.1,fun j p q NV DB=>hp.2 (j+1) p q (by simpa using NV) (by simpa using DB)⟩ fE h
    refine ⟨NW,?_,h2⟩
    simp only [Instr.fill,Pw,aT]
    rw [if_neg (by simp; omega)]
    exact h1
end
theorem ma.rel {ρ':Nat→AV} {κ':Nat→ao} {g:dy} {a:Act} {w:World} {G:Gh} (ai:bZ g n ρ' κ' a w G) (aN:gd=true) :
  ∀{l:List (Nat × Operand)} {r:List (Nat × AV)},ma ρ κ gd l r→(∀p,p∈l→zb ρ ρ' κ κ' p.2) →
   (r.length=(l.map fun p=>(p.1,a.eval p.2)).length∧∀(j:Nat) (p:Nat × AV) (q:Nat × Value),r[j]?=some p→(l.map fun p=>(p.1,a.eval p.2))[j]?=some q→p.1=q.1∧aE G p.2 q.2)
 | [],[],_,_=>⟨rfl,by simp⟩
 | [],_::_,h,_=>h.elim
 | _::_,[],h,_=>h.elim
 | (i,x)::l,(j,v)::r,⟨FG,hv,h⟩,au=>by
  obtain ⟨h1,h2⟩:=ma.rel ai aN h (fun p hp=>au p (by simp [hp]))
  have EE:=hv ρ' κ' (au (i,x) (by simp)) g n a w G ai aN
  refine ⟨by simpa using h1,fun jj p q hp hq=>?_⟩
  cases jj with
  | zero=>simp at hp hq; subst hp; subst hq; exact ⟨FG.symm,EE⟩
  | succ jj=>exact h2 jj p q (by simpa using hp) (by simpa using hq)
theorem Dd {w:World} (fs:List Field) (h:∀f,f∈fs→∃j,P.info? f.type=some j):((fs.toArray.mapM fun f=>do pure (f.offset,←sizeOf f.type)):Sem (Array (Nat × Nat))).run P w=.ok (fs.map fun f=>(f.offset,match P.info? f.type with | some j=>j.size | none=>0)).toArray w:=by
 have key:∀(l:List Field),(∀f,f∈l→∃j,P.info? f.type=some j)→((l.mapM fun f=>do pure (f.offset,←sizeOf f.type)):Sem (List (Nat × Nat))).run P w=.ok (l.map fun f=>(f.offset,match P.info? f.type with | some j=>j.size | none=>0)) w:=by
  intro l
  induction l with
  | nil=>intro _; rfl
  | cons f r ih =>
   intro hl
   obtain ⟨j,hj⟩:=hl f (by simp)
   have:=ih (fun f hf=>hl f (by simp [hf]))
   simp only [List.mapM_cons,Sem.run_bind,iw hj,Result.andThen_ok,Sem.run_pure,this,List.map_cons,hj]
 rw [List.mapM_toArray]
 simp only [Sem.run_map,key fs h,Result.andThen_ok]
theorem I7 (hT:ef P T) {t:Nat} {parts:Array (Nat × Operand)} {l:List (Nat × AV)} {cs:List AV} (hg:bL ρ ops o.guard=some gd) (ho:o.op=.build t parts) (bY:(nth T t).ok=true)
  (hp:ma ρ κ gd parts.toList l) (Mc:oJ (fun i=>(nth T t).fields[i]?) (jU (nth T t).zero) l=some cs) (V3:Nat.beq (nth T t).kind 9=true) (hk:aR n o gd nx k (.agg cs) []):Good P C ops n o nx ρ κ k:=by
 obtain ⟨ti,u,z,tf⟩:=hT.facts bY
 have hu:∃fs,u=.struct fs:=by
  have h1:=tf.kind
  rw [Nat.eq_of_beq_eq_true V3] at h1
  cases u <;> simp [kindOf] at h1
  exact ⟨_,rfl⟩
 obtain ⟨fs,rfl⟩:=hu
 refine bg (fun c=>by rw [ho]; simp) hg hk fun ρ' κ' au g a w G ai aN=>?_
 have Eu:∀p,p∈parts.toList→zb ρ ρ' κ κ' p.2:=fun p NV=>au.op (by
  rw [ho]
  simp only [Op.operands,List.mem_toArray,List.mem_map]
  exact ⟨p,NV,rfl⟩)
 have h1:=hp.rel ai aN Eu
 have hz:bR G (jU (nth T t).zero) z.cells.toList:=by
  exact gM (dW (M:=G.M) tf.zc).1
 obtain ⟨NW,h3,h4⟩:=pL _ l _ _ cs z.cells h1 hz Mc
 have V4:aE G (.agg cs) (.agg NW):=by
  have:=aE.agg (G:=G) cs NW.toList h4.1 h4.2
  simpa using this
 refine ⟨.agg NW,?_,V4⟩
 ·have Pw:((fs.mapM fun f=>do pure (f.offset,←sizeOf f.type)):Sem (Array (Nat × Nat))).run P w=.ok (nth T t).fields.toArray w:=by
   have:=Dd (P:=P) (w:=w) fs.toList (fun f hf=>by
    have:=tf.fin
    simp only [vV,List.all_eq_true] at this
    exact Option.isSome_iff_exists.1 (this f hf))
   simp only [Array.toArray_toList] at this
   rw [this,tf.fields]
   rfl
  have GY:Instr.fill (fun i=>(nth T t).fields.toArray[i]?) z.cells (parts.map fun p=>(p.1,a.eval p.2)).toList=some NW:=by
   simpa using h3
  simp only [execOp,ho,Instr.build,Sem.run_bind,tf.qZ w,Result.andThen_ok,run_underlying tf.xS,Pw]
  rw [GY]
  rfl
end
end Go.TM
