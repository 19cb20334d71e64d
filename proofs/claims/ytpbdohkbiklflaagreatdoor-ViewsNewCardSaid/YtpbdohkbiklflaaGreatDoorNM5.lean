import Derived.Test.YtpbdohkbiklflaaGreatDoorNM4
import Derived.Laws.StructEq
set_option linter.unusedVariables false
set_option linter.unusedSimpArgs false
set_option linter.unusedSectionVars false
namespace Go.TM
open Go.RowKit
variable [Glob]
section
variable {P:Program} {C:Org→Prop} {T:List TI} {ops:List Oper} {n:Nat} {o:Oper} {nx:Nat} {ρ:Nat→AV} {κ:Nat→Box} {k:Eff→Nat→Prop} {gd:Bool}
theorem op_move {x:Operand} (hg:gval ρ ops o.guard=some gd) (ho:o.op=.move x) (h:ex ρ κ gd x fun v=>retv n o gd nx k v []):Good P C ops n o nx ρ κ k:=by
 by_cases hm:ridk ρ κ o=rids ρ o
 ·obtain ⟨av,hk,hev⟩:=ex_sound h
  refine snd_val (fun c=>by rw [ho]; simp) hg hk fun ρ' κ' hag g a w G hst hgd=>?_
  have hv:=hev ρ' κ' (hag.opR (by rw [ho]; simp [Op.operands]) hm) g n a w G hst hgd
  exact ⟨_,by simp [execOp,ho],hv⟩
 ·unfold ridk at hm
  split at hm
  ·rename_i t ht
   rw [ho] at ht
   injection ht with ht
   subst ht
   cases hb:mvT κ (ρ t) with
   | false=>rw [hb] at hm; exact absurd rfl hm
   | true =>
    generalize hρ:ρ t=v at hb
    cases v with
    | own i ver ep p =>
     simp only [mvT] at hb
     cases hk:κ i with
     | tree V E d =>
      unfold ex at h
      simp only [ev,hρ,res,hk] at h
      cases hc:Nat.beq ver V && (emp p || Nat.beq ep E) with
      | true =>
       rw [hc] at h
       simp only [cond_true] at h
       rw [force_eq] at h
       refine snd_val (fun c=>by rw [ho]; simp) hg h fun ρ' κ' hag g a w G hst hgd=>?_
       have h1:=hst.env t
       rw [hag.slots t (by unfold Oper.looksAt; rw [ho]; exact List.mem_append.2 (.inl (by simp [Op.operands]))),hρ] at h1
       exact ⟨_,by simp only [execOp,ho]; rfl,h1⟩
      | false =>
       rw [hc] at h
       simp only [cond_false] at h
       rw [force_eq] at h
       refine snd_val (fun c=>by rw [ho]; simp) hg h fun ρ' κ' hag g a w G hst hgd=>?_
       exact ⟨a.eval (.tmp t),by simp [execOp,ho],.any _⟩
     | _=>rw [hk] at hb; cases hb
    | _=>cases hb
  ·exact absurd rfl hm
theorem op_assign {x:Operand} {av:AV} (hg:gval ρ ops o.guard=some gd) (ho:o.op=.assign x) (hk:retv n o gd nx k av []) (hev:EvOk ρ κ gd x av):Good P C ops n o nx ρ κ k:=by
 refine snd_val (fun c=>by rw [ho]; simp) hg hk fun ρ' κ' hag g a w G hst hgd=>?_
 have hv:=hev ρ' κ' (hag.op (by rw [ho]; simp [Op.operands])) g n a w G hst hgd
 exact ⟨_,by simp [execOp,ho],hv⟩
theorem op_nilCheck {x:Operand} {av:AV} (hg:gval ρ ops o.guard=some gd) (ho:o.op=.nilCheck x) (hk:retv n o gd nx k av []) (hev:EvOk ρ κ gd x av)
  (hp:∀(G:Gh) (v:Value),VRel G av v→∃a,v=.pointer (some a)):Good P C ops n o nx ρ κ k:=by
 refine snd_val (fun c=>by rw [ho]; simp) hg hk fun ρ' κ' hag g a w G hst hgd=>?_
 have hv:=hev ρ' κ' (hag.op (by rw [ho]; simp [Op.operands])) g n a w G hst hgd
 obtain ⟨p,hp⟩:=hp _ _ hv
 refine ⟨_,?_,hv⟩
 simp [execOp,ho,hp]
theorem op_binOp (hT:TOk P T) {op:BinOp} {t ty:TypeId} {x y:Operand} (hg:gval ρ ops o.guard=some gd) (ho:o.op=.binOp op t x y ty)
  {va vb:AV} (hea:EvOk ρ κ gd x va) (heb:EvOk ρ κ gd y vb) (h:abin (nth T t) op va vb gd fun v=>retv n o gd nx k v []):Good P C ops n o nx ρ κ k:=by
 obtain ⟨r,hk,hc,hr⟩:=abin_sound (P:=P) hT h
 refine snd_val (fun c=>by rw [ho]; simp) hg hk fun ρ' κ' hag g a w G hst hgd=>?_
 have h1:=hea ρ' κ' (hag.op (by rw [ho]; simp [Op.operands])) g n a w G hst hgd
 have h2:=heb ρ' κ' (hag.op (by rw [ho]; simp [Op.operands])) g n a w G hst hgd
 obtain ⟨v,h3,h4,h5,h6⟩:=hr G w _ _ hgd h1 h2
 refine ⟨v,?_,.dv h4⟩
 simp only [execOp,ho,Sem.run_bind,run_eqGuard_plain op t x y _ _ h5 h6,Result.andThen_ok,h3,Sem.run_pure]
theorem op_not {t:TypeId} {x:Operand} {b:Bool} (hg:gval ρ ops o.guard=some gd) (ho:o.op=.unOp .not t x) (hk:retv n o gd nx k (.dv (.bool (!b))) []) (hev:EvOk ρ κ gd x (.dv (.bool b))):Good P C ops n o nx ρ κ k:=by
 refine snd_val (fun c=>by rw [ho]; simp) hg hk fun ρ' κ' hag g a w G hst hgd=>?_
 have hv:=hev ρ' κ' (hag.op (by rw [ho]; simp [Op.operands])) g n a w G hst hgd
 generalize hx:a.eval x=v at hv
 cases hv with | dv hv=>cases hv with | bool =>
 exact ⟨_,by simp [execOp,ho,hx,Op.unary],.dv (.bool _)⟩
theorem op_neg {t:TypeId} {x:Operand} {kd:IntKind} {m:Int} (hg:gval ρ ops o.guard=some gd) (ho:o.op=.unOp .neg t x) (hk:arith kd (0 - m) gd fun v=>retv n o gd nx k v []) (hev:EvOk ρ κ gd x (.dv (.int kd m))):Good P C ops n o nx ρ κ k:=by
 obtain ⟨r,hk,he⟩:=arith_sound hk
 refine snd_val (fun c=>by rw [ho]; simp) hg hk fun ρ' κ' hag g a w G hst hgd=>?_
 have hv:=hev ρ' κ' (hag.op (by rw [ho]; simp [Op.operands])) g n a w G hst hgd
 generalize hx:a.eval x=v at hv
 cases hv with | dv hv=>cases hv with | int =>
 refine ⟨.int kd r,?_,.dv (.int kd r)⟩
 have:=he hgd
 simp only [execOp,ho,hx,Op.unary,Op.intArith,this,Sem.run_bind,Sem.run_pure,Result.andThen_ok]
theorem op_extract {x:Operand} {i:Nat} {l:List AV} {av:AV} (hg:gval ρ ops o.guard=some gd) (ho:o.op=.extract x i) (hk:retv n o gd nx k av []) (hl:l[i]?=some av) (hev:EvOk ρ κ gd x (.tup l)):Good P C ops n o nx ρ κ k:=by
 refine snd_val (fun c=>by rw [ho]; simp) hg hk fun ρ' κ' hag g a w G hst hgd=>?_
 have hv:=hev ρ' κ' (hag.op (by rw [ho]; simp [Op.operands])) g n a w G hst hgd
 generalize hx:a.eval x=v at hv
 cases hv with
 | tup _ vs hlen hr =>
  have hi:i<l.length:=(List.getElem?_eq_some_iff.1 hl).1
  have hvi:vs[i]?=some (vs[i]'(by omega)):=List.getElem?_eq_getElem (by omega)
  refine ⟨_,?_,hr i av _ hl hvi⟩
  simp [execOp,ho,hx,Instr.extract,hvi]
theorem op_pick {c x y:Operand} {b p q:Bool} (hg:gval ρ ops o.guard=some gd) (ho:o.op=.pick c x y) (hk:retv n o gd nx k (.dv (.bool (bif b then p else q))) [])
  (hc:EvOk ρ κ gd c (.dv (.bool b))) (hx:EvOk ρ κ (gd && b) x (.dv (.bool p))) (hy:EvOk ρ κ (gd && !b) y (.dv (.bool q))):Good P C ops n o nx ρ κ k:=by
 refine snd_val (fun c=>by rw [ho]; simp) hg hk fun ρ' κ' hag g a w G hst hgd=>?_
 have hv:=hc ρ' κ' (hag.op (by rw [ho]; simp [Op.operands])) g n a w G hst hgd
 generalize hxc:a.eval c=v at hv
 cases hv with | dv hv=>cases hv with | bool =>
 subst hgd
 cases b with
 | true =>
  have hv:=hx ρ' κ' (hag.op (by rw [ho]; simp [Op.operands])) g n a w G hst rfl
  generalize hxx:a.eval x=v at hv
  cases hv with | dv hv=>cases hv with | bool =>
  exact ⟨_,by simp [execOp,ho,hxc,hxx,asBool],.dv (.bool _)⟩
 | false =>
  have hv:=hy ρ' κ' (hag.op (by rw [ho]; simp [Op.operands])) g n a w G hst rfl
  generalize hxx:a.eval y=v at hv
  cases hv with | dv hv=>cases hv with | bool =>
  exact ⟨_,by simp [execOp,ho,hxc,hxx,asBool],.dv (.bool _)⟩
theorem op_fieldAddr (hT:TOk P T) {t f off sz:Nat} {x:Operand} {av av':AV} (hg:gval ρ ops o.guard=some gd) (ho:o.op=.fieldAddr t x f) (hok:(nth T t).ok=true) (hf:(nth T t).fields[f]?=some (off,sz+1))
  (hk:retv n o gd nx k av' []) (hev:EvOk ρ κ gd x av)
  (hp:∀(G:Gh) (v:Value),VRel G av v→∃a,v=.pointer (some a)∧VRel G av' (.pointer (some (a.add off)))):Good P C ops n o nx ρ κ k:=by
 obtain ⟨i,u,z,tf⟩:=hT.facts hok
 obtain ⟨fs,fd,hu,hfd,hoff,j,hj,hjs⟩:=tf.field hf (by omega)
 refine snd_val (fun c=>by rw [ho]; simp) hg hk fun ρ' κ' hag g a w G hst hgd=>?_
 have hv:=hev ρ' κ' (hag.op (by rw [ho]; simp [Op.operands])) g n a w G hst hgd
 obtain ⟨p,hp,hp'⟩:=hp _ _ hv
 refine ⟨_,?_,hp'⟩
 simp [execOp,ho,hp,Instr.fieldAt,run_underlying hu,hfd,Instr.sureAddr,fieldPlace,run_sizeOf' hj,hjs,hoff]
theorem pickCells_sound {agg:Bool} {l:List AV} {off sz:Nat} {ret:AV→Prop} (h:pickCells agg l off sz ret) :
  ∃v,ret v∧((agg=true∧off+sz≤l.length∧v=.agg ((l.drop off).take sz)) ∨ (agg=false∧l[off]?=some v)):=by
 unfold pickCells at h
 cases agg with
 | true =>
  simp only [cond_true] at h
  cases hb:Nat.ble (off+sz) l.length with
  | false=>rw [hb] at h; exact h.elim
  | true=>rw [hb] at h; exact ⟨_,h,.inl ⟨rfl,Nat.le_of_ble_eq_true hb,rfl⟩⟩
 | false =>
  simp only [cond_false] at h
  split at h
  ·rename_i v hv; rw [force_eq] at h; exact ⟨v,h,.inr ⟨rfl,hv⟩⟩
  ·exact h.elim
theorem load_known (hT:TOk P T) {t off:Nat} {l:List AV} {av:AV} {w:World} {G:Gh} (hok:(nth T t).ok=true) (A:Addr) (vs:Nat→Value)
  (hc:∀j,j<l.length→w.cell? (A.add j)=some (vs j)) (hr:∀(j:Nat) (d:AV),l[j]?=some d→VRel G d (vs j))
  (hp:((nth T t).agg=true∧off+(nth T t).size≤l.length∧av=.agg ((l.drop off).take (nth T t).size)) ∨ ((nth T t).agg=false∧l[off]?=some av)) :
  ∃v,(Instr.loadAt t (.pointer (some (A.add off)))).run P w=.ok v w∧VRel G av v:=by
 obtain ⟨i,u,z,tf⟩:=hT.facts hok
 rcases hp with ⟨ha,hle,rfl⟩ | ⟨ha,hl⟩
 ·refine ⟨.agg ((List.range (nth T t).size).map fun j=>vs (off+j)).toArray,?_,?_⟩
  ·have:=run_loadCells (P:=P) w (A.add off) (nth T t).size (fun j=>vs (off+j)) (fun j hj=>by rw [add_of_add]; exact hc _ (by omega))
   simp only [Instr.loadAt,Instr.sureAddr,Sem.run_bind,Sem.run_pure,Result.andThen_ok,loadVar,tf.run_isAgg w,ha,if_true,tf.run_size w,this]
  ·refine .agg _ _ (by simp; omega) fun j d v hd hv=>?_
   rw [List.getElem?_take] at hd
   split at hd
   ·rename_i hj
    rw [List.getElem?_drop] at hd
    simp [hj] at hv
    subst hv
    exact hr _ _ hd
   ·cases hd
 ·have hlt:off<l.length:=(List.getElem?_eq_some_iff.1 hl).1
  refine ⟨vs off,?_,hr _ _ hl⟩
  simp only [Instr.loadAt,Instr.sureAddr,Sem.run_bind,Sem.run_pure,Result.andThen_ok,loadVar,tf.run_isAgg w,ha,Bool.false_eq_true,if_false,run_load,hc off hlt]
theorem op_load_ptr (hT:TOk P T) {t i off:Nat} {x:Operand} {l:List AV} (hg:gval ρ ops o.guard=some gd) (ho:o.op=.load t x) (hok:(nth T t).ok=true) (hb:κ i=.cells l)
  (hk:pickCells (nth T t).agg l off (nth T t).size fun v=>retv n o gd nx k v [i]) (hev:EvOk ρ κ gd x (.ptr i off)):Good P C ops n o nx ρ κ k:=by
 obtain ⟨av,hk,hp⟩:=pickCells_sound hk
 refine snd_val (fun c=>by rw [ho]; simp) hg hk fun ρ' κ' hag g a w G hst hgd=>?_
 have hv:=hev ρ' κ' (hag.op (by rw [ho]; simp [Op.operands])) g n a w G hst hgd
 have hki:κ' i=.cells l:=(hag.reads i (by simp)).trans hb
 have hbox:=hst.fit.box i
 rw [hki] at hbox
 obtain ⟨b,c,tt,hbe,hw,hsz,hcl,hr⟩:=hbox
 generalize hx:a.eval x=v at hv
 cases hv with
 | ptr _ _ b' hbb =>
 rw [hbe] at hbb; injection hbb with hbb; subst hbb
 have hA:(⟨b,off,none⟩:Addr)=(⟨b,0,none⟩:Addr).add off:=by rw [add_at]; simp
 obtain ⟨v,h1,h2⟩:=load_known (P:=P) (av:=av) (w:=w) (G:=G) (l:=l) (off:=off) hT hok ⟨b,0,none⟩ (fun j=>c.getD j undef) (fun j hj=>by
   rw [add_at]
   simp [World.cell?,hw,hsz,hj]) (fun j d hd=>by
   have hj:j<l.length:=(List.getElem?_eq_some_iff.1 hd).1
   exact hr j d _ hd (by simp [hsz,hj])) hp
 refine ⟨v,?_,h2⟩
 rw [←hA] at h1
 simp only [execOp,ho,hx,Sem.run_bind,h1,Result.andThen_ok,Sem.run_pure]
theorem op_load_at (hT:TOk P T) {t off:Nat} {x:Operand} {y:DV} (hg:gval ρ ops o.guard=some gd) (ho:o.op=.load t x) (hok:(nth T t).ok=true)
  (hk:pickCells (nth T t).agg (dvs y.cells) off (nth T t).size fun v=>retv n o gd nx k v []) (hev:EvOk ρ κ gd x (.dv (.at y off))):Good P C ops n o nx ρ κ k:=by
 obtain ⟨av,hk,hp⟩:=pickCells_sound hk
 refine snd_val (fun c=>by rw [ho]; simp) hg hk fun ρ' κ' hag g a w G hst hgd=>?_
 have hv:=hev ρ' κ' (hag.op (by rw [ho]; simp [Op.operands])) g n a w G hst hgd
 generalize hx:a.eval x=v at hv
 cases hv with | dv hv=>cases hv with
 | _ =>
  rename_i A cell hcl hc hr
  obtain ⟨v,h1,h2⟩:=load_known (P:=P) (av:=av) (w:=w) (G:=G) (l:=dvs y.cells) (off:=off) hT hok A cell (fun j hj=>hst.fit.sub.cell (hc j (by simpa [dvs_length] using hj))) (fun j d hd=>by
   obtain ⟨d',hd',rfl⟩:=dvs_at hd
   exact .dv (hr j d' hd')) hp
  refine ⟨v,?_,h2⟩
  simp only [execOp,ho,hx,Sem.run_bind,h1,Result.andThen_ok,Sem.run_pure]
theorem getN_sound {gd:Bool}:∀{p:List PS} {d:DV} {k:DV→Prop},getN gd d p k→∃nd,k nd∧(gd=true→get d p=some nd)
 | [],d,k,h=>⟨d,h,fun _=>rfl⟩
 | s::p,d,k,h=>by
  cases d <;> cases s <;> simp only [getN] at h <;> (try exact h.elim)
  ·obtain ⟨x,hx,h⟩:=h
   split at h
   ·rename_i c hc
    obtain ⟨nd,h1,h2⟩:=getN_sound h
    exact ⟨nd,h1,fun hg=>by simp only [get,step,hx hg,hc]; exact h2 hg⟩
   ·exact h.elim
  ·rename_i x i j
   cases hb:Nat.beq i 0 with
   | false=>rw [hb] at h; exact h.elim
   | true =>
    rw [hb] at h
    simp only [cond_true] at h
    split at h
    ·rename_i c hc
     obtain ⟨nd,h1,h2⟩:=getN_sound h
     exact ⟨nd,h1,fun hg=>by simp only [get,step,hb,cond_true,hc]; exact h2 hg⟩
    ·exact h.elim
  ·obtain ⟨x,hx,h⟩:=h
   split at h
   ·rename_i c hc
    obtain ⟨nd,h1,h2⟩:=getN_sound h
    exact ⟨nd,h1,fun hg=>by simp only [get,step,hx hg,hc]; exact h2 hg⟩
   ·exact h.elim
theorem setN_sound:∀{p:List PS} {d nd:DV} {k:DV→Prop},setN d p nd k→k (setP d p nd)∧∃c,get d p=some c
 | [],d,nd,k,h=>⟨h,d,rfl⟩
 | s::p,d,nd,k,h=>by
  cases d <;> cases s <;> simp only [setN] at h <;> (try exact h.elim)
  ·rename_i sz l i j
   obtain ⟨x,hx,h⟩:=h
   split at h
   ·rename_i c hc
    obtain ⟨h1,c',h2⟩:=setN_sound h
    exact ⟨by simp only [setP,step,hx,hc,put]; exact h1,c',by simp only [get,step,hx,hc]; exact h2⟩
   ·exact h.elim
  ·rename_i x i j
   cases hb:Nat.beq i 0 with
   | false=>rw [hb] at h; exact h.elim
   | true =>
    rw [hb] at h
    simp only [cond_true] at h
    split at h
    ·rename_i c hc
     obtain ⟨h1,c',h2⟩:=setN_sound h
     exact ⟨by simp only [setP,step,hb,cond_true,hc,put]; exact h1,c',by simp only [get,step,hb,cond_true,hc]; exact h2⟩
    ·exact h.elim
  ·rename_i s m kk j
   obtain ⟨x,hx,h⟩:=h
   split at h
   ·rename_i c hc
    obtain ⟨h1,c',h2⟩:=setN_sound h
    exact ⟨by simp only [setP,step,hx,hc,put]; exact h1,c',by simp only [get,step,hx,hc]; exact h2⟩
   ·exact h.elim
theorem vis_cur {ver ver' ep ep':Nat} {p:List PS} (h:(Nat.beq ver ver' && (emp p || Nat.beq ep ep'))=true):ver=ver'∧(p=[] ∨ ep=ep'):=by
 simp only [Bool.and_eq_true,Bool.or_eq_true] at h
 refine ⟨Nat.eq_of_beq_eq_true h.1,?_⟩
 rcases h.2 with h | h
 ·left; cases p with
  | nil=>rfl
  | cons=>simp [emp] at h
 ·right; exact Nat.eq_of_beq_eq_true h
theorem hdr_cur {H:Nat→Nat→Nat→List PS→Option Value} {i ver ep ep':Nat} {p:List PS} (h:p=[] ∨ ep=ep'):hdr H i ver ep p=hdr H i ver ep' p:=by
 rcases h with rfl | rfl <;> rfl
theorem Fit.node {κ:Nat→Box} {w:World} {G:Gh} (hst:Fit G w κ) {i ver ep:Nat} {d nd:DV} {p:List PS} (hk:κ i=.tree ver ep d) (hp:get d p=some nd) (ho:nd.owning=true) :
  ∃v,hdr G.H i ver ep p=some v∧v.oneCell'=true∧NodeAt G.M w v (fun s=>hdr G.H i ver ep (p++[s])) nd:=by
 have hb:=hst.box i
 rw [hk] at hb
 exact hb.1.2 p nd hp ho
theorem lift_rel {G:Gh} {i ver ep:Nat} {p:List PS} {s:PS} {d:DV} {u:Value} (hc:d.isCell=true) (h:CellR G.M (hdr G.H i ver ep (p++[s])) d u) (hu:d.owning=true→u.oneCell'=true):VRel G (lift1 i ver ep p s d) u:=by
 rcases h with ⟨h1,h2⟩ | ⟨h1,h2⟩
 ·simp only [lift1,h1,cond_true]; exact .own _ _ _ _ _ h2 (hu h1)
 ·simp only [lift1,h1,cond_false]; exact .dv h2
theorem liftE_at {i ver ep:Nat} {p:List PS} {idx:Nat}:∀{l:List DV} {s j:Nat} {v:AV},(liftE i ver ep p idx s l)[j]?=some v→∃d,l[j]?=some d∧v=lift1 i ver ep p (.el idx (s+j)) d
 | [],s,j,v,h=>by simp [liftE] at h
 | d::l,s,0,v,h=>by simp [liftE] at h; exact ⟨d,rfl,h.symm⟩
 | d::l,s,j+1,v,h=>by
  simp only [liftE,List.getElem?_cons_succ] at h
  obtain ⟨d',h1,h2⟩:=liftE_at h
  exact ⟨d',by simpa using h1,by rw [h2]; congr 2; omega⟩
theorem liftE_length {i ver ep:Nat} {p:List PS} {idx:Nat}:∀{l:List DV} {s:Nat},(liftE i ver ep p idx s l).length=l.length
 | [],s=>rfl
 | d::l,s=>by simp [liftE,liftE_length]
theorem liftK_at {i ver ep:Nat} {p:List PS} {kk:DV}:∀{l:List DV} {s j:Nat} {v:AV},(liftK i ver ep p kk s l)[j]?=some v→∃d,l[j]?=some d∧v=lift1 i ver ep p (.key kk (s+j)) d
 | [],s,j,v,h=>by simp [liftK] at h
 | d::l,s,0,v,h=>by simp [liftK] at h; exact ⟨d,rfl,h.symm⟩
 | d::l,s,j+1,v,h=>by
  simp only [liftK,List.getElem?_cons_succ] at h
  obtain ⟨d',h1,h2⟩:=liftK_at h
  exact ⟨d',by simpa using h1,by rw [h2]; congr 2; omega⟩
theorem liftK_length {i ver ep:Nat} {p:List PS} {kk:DV}:∀{l:List DV} {s:Nat},(liftK i ver ep p kk s l).length=l.length
 | [],s=>rfl
 | d::l,s=>by simp [liftK,liftK_length]
theorem Fit.cells {κ:Nat→Box} {w:World} {G:Gh} (hst:Fit G w κ) {i ver ep:Nat} {d nd:DV} {p:List PS} (hk:κ i=.tree ver ep d) (hp:get d p=some nd) {sz idx:Nat} {K:List AV→Prop} {A:Addr}
  (hA:hdr G.H i ver ep p=some (.pointer (some A)) ∨ ∃m c,hdr G.H i ver ep p=some (.slice (some A) m c)) {l:List AV} (hl:(∃l0 x,nd=.osl sz l0∧l0[idx]?=some x∧l=liftE i ver ep p idx 0 x.cells) ∨ (∃x,nd=.optr x∧idx=0∧l=liftE i ver ep p 0 0 x.cells)) :
  ∃vs:Nat→Value,(∀j,j<l.length→w.cell? ((A.add (idx * sz)).add j)=some (vs j))∧∀(j:Nat) (d:AV),l[j]?=some d→VRel G d (vs j):=by
 have hown:∀s c u,step nd s=some c→c.owning=true→hdr G.H i ver ep (p++[s])=some u→u.oneCell'=true:=by
  intro s c u hs hc hu
  obtain ⟨v,h1,h2,_⟩:=hst.node hk (p:=p++[s]) (nd:=c) (by rw [get_append,hp]; simp [get,hs]) hc
  rw [h1] at hu; injection hu with hu; subst hu; exact h2
 rcases hl with ⟨l0,x,rfl,hx,rfl⟩ | ⟨x,rfl,rfl,rfl⟩
 ·obtain ⟨v,h1,h2,hnode⟩:=hst.node hk hp rfl
  rcases hnode with ⟨rfl,_⟩ | ⟨gb,ob,cap,c,t,rfl,hcap,hw,hsz,hxx⟩
  ·simp at hx
  ·have hAe:A=⟨gb,ob,none⟩:=by
    rcases hA with hA | ⟨m,cc,hA⟩
    ·rw [h1] at hA; cases hA
    ·rw [h1] at hA; injection hA with hA; injection hA with hA; injection hA with hA; exact hA.symm
   subst hAe
   obtain ⟨a1,a2⟩:=hxx idx x hx
   refine ⟨fun j=>c.getD (ob+idx * sz+j) undef,fun j hj=>?_,fun j dd hd=>?_⟩
   ·rw [liftE_length] at hj
    obtain ⟨_,u,b1,_⟩:=a2 j _ (List.getElem?_eq_getElem hj)
    rw [add_of_add,add_at]
    simp only [World.cell?,hw]
    rw [show ob+(idx * sz+j)=ob+idx * sz+j by omega,Array.getD_eq_getD_getElem?,b1]
    rfl
   ·obtain ⟨d0,e1,rfl⟩:=liftE_at hd
    obtain ⟨b0,u,b1,b2⟩:=a2 j d0 e1
    show VRel G _ (c.getD (ob+idx * sz+j) undef)
    rw [Array.getD_eq_getD_getElem?,b1,Nat.zero_add]
    refine lift_rel b0 b2 fun ho=>?_
    rcases b2 with ⟨_,b2⟩ | ⟨b2,_⟩
    ·exact hown (.el idx j) d0 u (by simp only [step,hx]; exact e1) ho b2
    ·rw [ho] at b2; cases b2
 ·obtain ⟨v,h1,h2,hnode⟩:=hst.node hk hp rfl
  obtain ⟨gb,c,t,rfl,hw,hsz,hxx⟩:=hnode
  have hAe:A=⟨gb,0,none⟩:=by
   rcases hA with hA | ⟨m,cc,hA⟩
   ·rw [h1] at hA; injection hA with hA; injection hA with hA; injection hA with hA; exact hA.symm
   ·rw [h1] at hA; cases hA
  subst hAe
  refine ⟨fun j=>c.getD j undef,fun j hj=>?_,fun j dd hd=>?_⟩
  ·rw [liftE_length] at hj
   obtain ⟨_,u,b1,_⟩:=hxx j _ (List.getElem?_eq_getElem hj)
   rw [add_of_add,add_at]
   simp only [World.cell?,hw]
   rw [show 0+(0 * sz+j)=j by omega,Array.getD_eq_getD_getElem?,b1]
   rfl
  ·obtain ⟨d0,e1,rfl⟩:=liftE_at hd
   obtain ⟨b0,u,b1,b2⟩:=hxx j d0 e1
   show VRel G _ (c.getD j undef)
   rw [Array.getD_eq_getD_getElem?,b1,Nat.zero_add]
   refine lift_rel b0 b2 fun ho=>?_
   rcases b2 with ⟨_,b2⟩ | ⟨b2,_⟩
   ·exact hown (.el 0 j) d0 u (by simp [step]; exact e1) ho b2
   ·rw [ho] at b2; cases b2
theorem op_load_loc (hT:TOk P T) {t i ver ep ep' sz idx off:Nat} {p:List PS} {x:Operand} {d:DV} (hg:gval ρ ops o.guard=some gd) (ho:o.op=.load t x) (hok:(nth T t).ok=true)
  (hb:κ i=.tree ver ep' d) (hcur:p=[] ∨ ep=ep')
  (hk:getN gd d p fun nd=>nodeCells i ver ep' p gd sz idx nd fun l=>pickCells (nth T t).agg l off (nth T t).size fun v=>retv n o gd nx k v [i]) (hev:EvOk ρ κ gd x (.loc i ver ep p sz idx off)):Good P C ops n o nx ρ κ k:=by
 obtain ⟨nd,hk,hnd⟩:=getN_sound hk
 have hcase:∃l,(pickCells (nth T t).agg l off (nth T t).size fun v=>retv n o gd nx k v [i])∧(gd=true→(∃l0 x,nd=.osl sz l0∧l0[idx]?=some x∧l=liftE i ver ep' p idx 0 x.cells) ∨ (∃x,nd=.optr x∧idx=0∧l=liftE i ver ep' p 0 0 x.cells)):=by
  unfold nodeCells at hk
  split at hk
  ·rename_i sz' l0
   cases hs:Nat.beq sz sz' with
   | false=>rw [hs] at hk; exact hk.elim
   | true =>
    rw [hs] at hk
    have:=Nat.eq_of_beq_eq_true hs
    subst this
    obtain ⟨x,hx,hk⟩:=hk
    exact ⟨_,hk,fun hgd=>.inl ⟨l0,x,rfl,hx hgd,rfl⟩⟩
  ·rename_i x
   cases hs:Nat.beq idx 0 with
   | false=>rw [hs] at hk; exact hk.elim
   | true =>
    rw [hs] at hk
    exact ⟨_,hk,fun _=>.inr ⟨x,rfl,Nat.eq_of_beq_eq_true hs,rfl⟩⟩
  ·exact hk.elim
 obtain ⟨l,hk,hl⟩:=hcase
 obtain ⟨av,hk,hp⟩:=pickCells_sound hk
 refine snd_val (fun c=>by rw [ho]; simp) hg hk fun ρ' κ' hag g a w G hst hgd=>?_
 have hv:=hev ρ' κ' (hag.op (by rw [ho]; simp [Op.operands])) g n a w G hst hgd
 have hki:κ' i=.tree ver ep' d:=(hag.reads i (by simp)).trans hb
 have key:∀A,a.eval x=.pointer (some (A.add (idx * sz+off)))→(hdr G.H i ver ep p=some (.pointer (some A)) ∨ ∃m c,hdr G.H i ver ep p=some (.slice (some A) m c))→∃v,(execOp a.eval o).run P w=.ok (.value v) w∧VRel G av v:=by
  intro A hx hA
  rw [hdr_cur hcur] at hA
  obtain ⟨vs,h1,h2⟩:=hst.fit.cells (K:=fun _=>True) hki (hnd hgd) hA (hl hgd)
  obtain ⟨v,h3,h4⟩:=load_known (P:=P) (av:=av) (w:=w) (G:=G) (l:=l) (off:=off) hT hok (A.add (idx * sz)) vs h1 h2 hp
  rw [add_of_add] at h3
  exact ⟨v,by simp only [execOp,ho,hx,Sem.run_bind,h3,Result.andThen_ok,Sem.run_pure],h4⟩
 generalize hx:a.eval x=v at hv
 cases hv with
 | loc _ _ _ _ _ _ _ A m c h=>exact key A hx (.inr ⟨m,c,h⟩)
 | locp _ _ _ _ _ _ _ A h=>exact key A hx (.inl h)
end
end Go.TM
namespace Go.TM
open Go.RowKit
variable [Glob]
theorem add_zero' (a:Addr):a.add 0=a:=by simp [Addr.add]
section
variable {P:Program} {C:Org→Prop} {T:List TI} {ops:List Oper} {n:Nat} {o:Oper} {nx:Nat} {ρ:Nat→AV} {κ:Nat→Box} {k:Eff→Nat→Prop} {gd:Bool}
theorem op_index_sl (hT:TOk P T) {t:Nat} {x i:Operand} {sz:Nat} {l:List DV} {y:DV} {kd:IntKind} {m:Int} (hg:gval ρ ops o.guard=some gd) (ho:o.op=.indexAddr t x i)
  (hok:(nth T t).ok=true) (hsl:(nth T t).isSl=true) (hel:(nth T (nth T t).elem).ok=true) (hsz:sz=(nth T (nth T t).elem).size)
  (hy:gd=true→0≤m∧l[m.toNat]?=some y) (hk:retv n o gd nx k (.dv (.at y 0)) []) (hev:EvOk ρ κ gd x (.dv (.sl sz l))) (hei:EvOk ρ κ gd i (.dv (.int kd m))):Good P C ops n o nx ρ κ k:=by
 obtain ⟨ti,u,z,tf⟩:=hT.facts hok
 obtain ⟨te,ue,ze,tfe⟩:=hT.facts hel
 refine snd_val (fun c=>by rw [ho]; simp) hg hk fun ρ' κ' hag g a w G hst hgd=>?_
 have hv:=hev ρ' κ' (hag.op (by rw [ho]; simp [Op.operands])) g n a w G hst hgd
 have hv2:=hei ρ' κ' (hag.op (by rw [ho]; simp [Op.operands])) g n a w G hst hgd
 generalize hx:a.eval x=v at hv
 generalize hi:a.eval i=vi at hv2
 obtain ⟨hm0,hmy⟩:=hy hgd
 have hlt:m.toNat<l.length:=(List.getElem?_eq_some_iff.1 hmy).1
 cases hv2 with | dv hv2=>cases hv2 with | int =>
 cases hv with | dv hv=>cases hv with
 | slnil=>simp at hlt
 | sl _ _ A cap cell hcap hlen hc hr =>
  have hpos:0≤m∧m<(l.length:Int):=⟨hm0,by omega⟩
  refine ⟨.pointer (some (A.add (m.toNat * sz))),?_,?_⟩
  ·have hrs:=tfe.run_size w
   rw [←hsz] at hrs
   simp [execOp,ho,hx,hi,Instr.indexAt,run_underlying (tf.slice hsl),asIntOf,hpos,hrs]
  ·have:=DRel.at (M:=G.M) y 0 (A.add (m.toNat * sz)) (fun j=>cell m.toNat j) (hlen y (List.mem_of_getElem? hmy)).2
    (fun j hj=>by rw [add_of_add]; exact hc _ _ hlt (by rw [(hlen y (List.mem_of_getElem? hmy)).1] at hj; exact hj))
    (fun j d hd=>hr _ y j d hmy hd)
   rw [add_zero'] at this
   exact .dv this
theorem op_index_arr (hT:TOk P T) {t:Nat} {x i:Operand} {av av':AV} {kd:IntKind} {m:Int} (hg:gval ρ ops o.guard=some gd) (ho:o.op=.indexAddr t x i)
  (hok:(nth T t).ok=true) (hkd:(nth T t).kind=10) (hel:(nth T (nth T t).elem).ok=true) (hm:gd=true→0≤m∧m<(nth T t).len)
  (hk:retv n o gd nx k av' []) (hev:EvOk ρ κ gd x av) (hei:EvOk ρ κ gd i (.dv (.int kd m)))
  (hp:∀(G:Gh) (v:Value),VRel G av v→∃a,v=.pointer (some a)∧VRel G av' (.pointer (some (a.add (m.toNat * (nth T (nth T t).elem).size))))):Good P C ops n o nx ρ κ k:=by
 obtain ⟨ti,u,z,tf⟩:=hT.facts hok
 obtain ⟨te,ue,ze,tfe⟩:=hT.facts hel
 refine snd_val (fun c=>by rw [ho]; simp) hg hk fun ρ' κ' hag g a w G hst hgd=>?_
 have hv:=hev ρ' κ' (hag.op (by rw [ho]; simp [Op.operands])) g n a w G hst hgd
 have hv2:=hei ρ' κ' (hag.op (by rw [ho]; simp [Op.operands])) g n a w G hst hgd
 generalize hi:a.eval i=vi at hv2
 cases hv2 with | dv hv2=>cases hv2 with | int =>
 obtain ⟨p,hp,hp'⟩:=hp _ _ hv
 refine ⟨_,?_,hp'⟩
 have hu:P.underlying t=some (.array (nth T t).len (nth T t).elem):=by
  have h1:=tf.kind
  rw [hkd] at h1
  have h2:=tf.len
  have h3:=tf.elem
  rw [tf.und]
  cases u <;> simp [kindOf] at h1
  simp [lenOf] at h2
  simp [elOf] at h3
  rw [h2,h3]
 have hpos:=hm hgd
 simp [execOp,ho,hp,hi,Instr.indexAt,run_underlying hu,asIntOf,Instr.sureAddr,hpos,tfe.run_size w]
theorem op_index_own (hT:TOk P T) {t:Nat} {x i:Operand} {id ver ep ep' sz:Nat} {p:List PS} {d:DV} {l:List DV} {kd:IntKind} {m:Int} (hg:gval ρ ops o.guard=some gd) (ho:o.op=.indexAddr t x i)
  (hok:(nth T t).ok=true) (hsl:(nth T t).isSl=true) (hel:(nth T (nth T t).elem).ok=true) (hsz:sz=(nth T (nth T t).elem).size) (hb:κ id=.tree ver ep' d) (hcur:p=[] ∨ ep=ep') (hnd:gd=true→get d p=some (.osl sz l))
  (hy:gd=true→0≤m∧m<l.length) (hk:retv n o gd nx k (.loc id ver ep p sz m.toNat 0) [id]) (hev:EvOk ρ κ gd x (.own id ver ep p)) (hei:EvOk ρ κ gd i (.dv (.int kd m))):Good P C ops n o nx ρ κ k:=by
 obtain ⟨ti,u,z,tf⟩:=hT.facts hok
 obtain ⟨te,ue,ze,tfe⟩:=hT.facts hel
 refine snd_val (fun c=>by rw [ho]; simp) hg hk fun ρ' κ' hag g a w G hst hgd=>?_
 have hv:=hev ρ' κ' (hag.op (by rw [ho]; simp [Op.operands])) g n a w G hst hgd
 have hv2:=hei ρ' κ' (hag.op (by rw [ho]; simp [Op.operands])) g n a w G hst hgd
 generalize hx:a.eval x=v at hv
 generalize hi:a.eval i=vi at hv2
 obtain ⟨hm0,hmy⟩:=hy hgd
 have hki:κ' id=.tree ver ep' d:=(hag.reads id (by simp)).trans hb
 obtain ⟨u,h1,_,hnode⟩:=hst.fit.node hki (hnd hgd) rfl
 cases hv2 with | dv hv2=>cases hv2 with | int =>
 cases hv with
 | own _ _ _ _ _ hh hc =>
  have hh0:=hh
  rw [hdr_cur hcur,h1] at hh
  injection hh with hh
  subst hh
  rcases hnode with ⟨rfl,_⟩ | ⟨gb,ob,cap,cc,tt,rfl,hcap,hw,hcsz,hxs⟩
  ·simp at hmy; omega
  ·have hpos:0≤m∧m<(l.length:Int):=⟨hm0,hmy⟩
   refine ⟨.pointer (some ((⟨gb,ob,none⟩:Addr).add (m.toNat * sz))),?_,?_⟩
   ·have hrs:=tfe.run_size w
    rw [←hsz] at hrs
    simp [execOp,ho,hx,hi,Instr.indexAt,run_underlying (tf.slice hsl),asIntOf,hpos,hrs]
   ·have:=VRel.loc (G:=G) id ver ep p sz m.toNat 0 _ _ _ hh0
    rwa [Nat.add_zero] at this
theorem op_index_sle (hT:TOk P T) {t:Nat} {x i:Operand} {id len:Nat} {kd:IntKind} {m:Int} (hg:gval ρ ops o.guard=some gd) (ho:o.op=.indexAddr t x i)
  (hok:(nth T t).ok=true) (hsl:(nth T t).isSl=true) (hel:(nth T (nth T t).elem).ok=true)
  (hy:gd=true→0≤m∧m<len) (hk:retv n o gd nx k (.ptr id (m.toNat * (nth T (nth T t).elem).size)) []) (hev:EvOk ρ κ gd x (.sle id len)) (hei:EvOk ρ κ gd i (.dv (.int kd m))):Good P C ops n o nx ρ κ k:=by
 obtain ⟨ti,u,z,tf⟩:=hT.facts hok
 obtain ⟨te,ue,ze,tfe⟩:=hT.facts hel
 refine snd_val (fun c=>by rw [ho]; simp) hg hk fun ρ' κ' hag g a w G hst hgd=>?_
 have hv:=hev ρ' κ' (hag.op (by rw [ho]; simp [Op.operands])) g n a w G hst hgd
 have hv2:=hei ρ' κ' (hag.op (by rw [ho]; simp [Op.operands])) g n a w G hst hgd
 generalize hx:a.eval x=v at hv
 generalize hi:a.eval i=vi at hv2
 have hpos:=hy hgd
 cases hv2 with | dv hv2=>cases hv2 with | int =>
 cases hv with
 | sle _ _ b hb =>
  refine ⟨.pointer (some ((⟨b,0,none⟩:Addr).add (m.toNat * (nth T (nth T t).elem).size))),?_,?_⟩
  ·have hrs:=tfe.run_size w
   simp [execOp,ho,hx,hi,Instr.indexAt,run_underlying (tf.slice hsl),asIntOf,hpos,hrs]
  ·rw [add_at,Nat.zero_add]; exact .ptr _ _ b hb
theorem op_index_pre (hT:TOk P T) {t:Nat} {x i:Operand} {id ver ep sz lo len:Nat} {p:List PS} {kd:IntKind} {m:Int} (hg:gval ρ ops o.guard=some gd) (ho:o.op=.indexAddr t x i)
  (hok:(nth T t).ok=true) (hsl:(nth T t).isSl=true) (hel:(nth T (nth T t).elem).ok=true) (hsz:sz=(nth T (nth T t).elem).size)
  (hy:gd=true→0≤m∧m<len) (hk:retv n o gd nx k (.loc id ver ep p sz (lo+m.toNat) 0) []) (hev:EvOk ρ κ gd x (.pre id ver ep p sz lo len)) (hei:EvOk ρ κ gd i (.dv (.int kd m))):Good P C ops n o nx ρ κ k:=by
 obtain ⟨ti,u,z,tf⟩:=hT.facts hok
 obtain ⟨te,ue,ze,tfe⟩:=hT.facts hel
 refine snd_val (fun c=>by rw [ho]; simp) hg hk fun ρ' κ' hag g a w G hst hgd=>?_
 have hv:=hev ρ' κ' (hag.op (by rw [ho]; simp [Op.operands])) g n a w G hst hgd
 have hv2:=hei ρ' κ' (hag.op (by rw [ho]; simp [Op.operands])) g n a w G hst hgd
 generalize hx:a.eval x=v at hv
 generalize hi:a.eval i=vi at hv2
 have hpos:=hy hgd
 cases hv2 with | dv hv2=>cases hv2 with | int =>
 cases hv with
 | pre _ _ _ _ _ _ _ q c hh =>
  obtain ⟨A,N,c',hq,rfl⟩:=hh (by omega)
  refine ⟨.pointer (some ((A.add (lo * sz)).add (m.toNat * sz))),?_,?_⟩
  ·have hrs:=tfe.run_size w
   rw [←hsz] at hrs
   simp [execOp,ho,hx,hi,Instr.indexAt,run_underlying (tf.slice hsl),asIntOf,hpos,hrs]
  ·rw [add_of_add,←Nat.add_mul]
   have:=VRel.loc (G:=G) id ver ep p sz (lo+m.toNat) 0 _ _ _ hq
   rwa [Nat.add_zero] at this
theorem op_len (hT:TOk P T) {t:Nat} {x:Operand} {c:Call} {av:AV} {m:Int} {rd:List Nat} (hg:gval ρ ops o.guard=some gd) (ho:o.op=.call c) (hc:c.callee=.builtin .len) (ha:c.args.toList=[x]) (hat:c.argTypes.toList=[t])
  (hk:retv n o gd nx k (.dv (.int .i64 m)) rd) (hev:EvOk ρ κ gd x av) (hok:(nth T t).ok=true)
  (hp:gd=true→∀κ',(∀i,i∈rd→κ' i=κ i)→∀(G:Gh) (w:World) (v:Value),Fit G w κ'→VRel G av v →
   ((nth T t).isSl=true∧∃p l c,v=.slice p l c∧(l:Int)=m) ∨ ((nth T t).isStr=true∧∃s,v=.string s∧(s.size:Int)=m) ∨
   (Nat.beq (nth T t).kind 6=true∧∃b es clock,v=.map (some b)∧w.heap[b]?=some (.map es clock)∧(es.size:Int)=m)):Good P C ops n o nx ρ κ k:=by
 have hargs:c.args=#[x]:=Array.ext' (by simpa using ha)
 have hats:c.argTypes=#[t]:=Array.ext' (by simpa using hat)
 refine snd_val (fun c=>by rw [ho]; simp) hg hk fun ρ' κ' hag g a w G hst hgd=>?_
 have hv:=hev ρ' κ' (hag.op (by rw [ho]; simp [Op.operands,Call.operands,hc,hargs])) g n a w G hst hgd
 refine ⟨.int .i64 m,?_,.dv (.int _ _)⟩
 obtain ⟨ti,u,z,tf⟩:=hT.facts hok
 rcases hp hgd κ' hag.reads G w _ hst.fit hv with ⟨hsl,p,l,cc,hvv,hm⟩ | ⟨hsl,s,hvv,hm⟩ | ⟨hmk,b,es,clock,hvv,hw,hm⟩
 ·simp [execOp,ho,resolve,hc,hargs,hats,invoke,builtin,Builtin.len_,run_underlying (tf.slice hsl),hvv,goInt,hm]
 ·simp [execOp,ho,resolve,hc,hargs,hats,invoke,builtin,Builtin.len_,run_underlying (tf.string hsl),hvv,goInt,hm]
 ·have hu:∃kt et,P.underlying t=some (.map kt et):=by
   have h1:=tf.kind
   rw [Nat.eq_of_beq_eq_true hmk] at h1
   cases u <;> simp [kindOf] at h1
   exact ⟨_,_,tf.und⟩
  obtain ⟨kt,et,hu⟩:=hu
  simp [execOp,ho,resolve,hc,hargs,hats,invoke,builtin,Builtin.len_,run_underlying hu,hvv,goInt,hm,MapKept.run_getObj_map hw]
theorem equal_slice_nil {w:World} {t e:TypeId} (hu:P.underlying t=some (.slice e)) (a:Option Addr) (l c:Nat):(Op.equal t (.slice a l c) (.slice none 0 0)).run P w=.ok a.isNone w:=by
 have h:∀d,(Op.equalIn (d+1) t (.slice a l c) (.slice none 0 0)).run P w=.ok a.isNone w:=fun d=>by
  cases a <;> simp [Op.equalIn,run_underlying hu]
 simp only [Op.equal,Op.maxDepth,h 9999]
theorem bifT {b:Bool} {p:Prop} (h:bif b then p else False):b=true∧p:=by
 cases b with
 | false=>exact h.elim
 | true=>exact ⟨rfl,h⟩
theorem aisNil_sound {κ:Nat→Box} {gd:Bool} {a:AV} {k:Option Bool→List Nat→Prop} (h:aisNil κ gd a k):∃c rd,k c rd∧(gd=true→∀κ',(∀i,i∈rd→κ' i=κ i)→∀(G:Gh) (w:World) (v:Value),Fit G w κ'→VRel G a v→∃p l cc,v=.slice p l cc∧∀b,c=some b→p.isNone=b):=by
 unfold aisNil at h
 split at h
 ·refine ⟨_,_,h,fun _ κ' _ G w v _ hv=>?_⟩
  cases hv with | dv hv=>cases hv with | nils=>exact ⟨_,_,_,rfl,fun b hb=>by injection hb⟩
 ·rcases h with h | ⟨hl,h⟩
  ·refine ⟨_,_,h,fun _ κ' _ G w v _ hv=>?_⟩
   cases hv with | dv hv=>cases hv with
   | slnil=>exact ⟨_,_,_,rfl,fun b hb=>by cases hb⟩
   | sl=>exact ⟨_,_,_,rfl,fun b hb=>by cases hb⟩
  ·refine ⟨_,_,h,fun _ κ' _ G w v _ hv=>?_⟩
   cases hv with | dv hv=>cases hv with
   | slnil=>exact absurd rfl hl
   | sl=>exact ⟨_,_,_,rfl,fun b hb=>by injection hb⟩
 ·rename_i i ver ep p
  split at h
  ·rename_i ver' ep' d hk
   have hh:=bifT h; clear h; obtain ⟨hb,h⟩:=hh
   obtain ⟨rfl,hcur⟩:=vis_cur hb
   obtain ⟨nd,h,hnd⟩:=getN_sound h
   split at h
   ·rename_i sz l
    have key:gd=true→∀κ',(∀j,j∈[i]→κ' j=κ j)→∀(G:Gh) (w:World) (v:Value),Fit G w κ'→VRel G (.own i ver ep p) v→∃q m cc,v=.slice q m cc∧(l ≠ []→q.isNone=false):=by
     intro hgd κ' hag G w v hf hv
     have hk':=(hag i (by simp)).trans hk
     obtain ⟨u,e1,e2,e3⟩:=hf.node hk' (hnd hgd) rfl
     cases hv with | own _ _ _ _ _ hh hc =>
     rw [hdr_cur hcur] at hh
     rw [hh] at e1; injection e1 with e1; subst e1
     rcases e3 with ⟨hnil,hx⟩ | ⟨gb,o,cap,c,tt,hx,_⟩
     ·exact ⟨_,_,_,hx,fun hl=>absurd hnil hl⟩
     ·exact ⟨_,_,_,hx,fun _=>rfl⟩
    rcases h with h | ⟨hl,h⟩
    ·refine ⟨_,_,h,fun hgd κ' hag G w v hf hv=>?_⟩
     obtain ⟨q,m,cc,e,_⟩:=key hgd κ' hag G w v hf hv
     exact ⟨q,m,cc,e,fun b hb=>by cases hb⟩
    ·refine ⟨_,_,h,fun hgd κ' hag G w v hf hv=>?_⟩
     obtain ⟨q,m,cc,e,e2⟩:=key hgd κ' hag G w v hf hv
     exact ⟨q,m,cc,e,fun b hb=>by injection hb with hb; rw [e2 hl,hb]⟩
   ·exact h.elim
  ·exact h.elim
 ·refine ⟨_,_,h,fun _ κ' _ G w v _ hv=>?_⟩
  cases hv with | ownf _ _ a m hh=>exact ⟨_,_,_,rfl,fun b hb=>by injection hb⟩
 ·exact h.elim
theorem bifO {α:Type} {b:Bool} {x:Option α} {y:α} (h:(bif b then x else none)=some y):b=true∧x=some y:=by cases b <;> simp_all
theorem eqCell1_run {G:Gh} {w:World} {x y:AV} {u v:Value} {e:Bool} {f:TypeId} {k D:Nat} (hp:plainK (P.underlying f)=k) (h:eqCell1 k x y=some e) (hx:VRel G x u) (hy:VRel G y v) :
  (Op.equalIn (D+1) f u v).run P w=.ok e w:=by
 unfold eqCell1 at h
 split at h
 ·rename_i kk a k' b
  cases hk:kk == k' with
  | false=>rw [hk] at h; cases h
  | true =>
   rw [hk] at h
   have hkk:kk=k':=by simpa using hk
   subst hkk
   injection h with h; subst h
   cases hx with | dv hx=>cases hx with | int=>cases hy with | dv hy=>cases hy with | int =>
   obtain ⟨q,hq⟩:∃q,P.underlying f=some (.int q):=by
    unfold plainK at hp
    split at hp <;> first | (cases hp; done) | exact ⟨_,by assumption⟩
   exact run_equalIn_int w D f kk q a b hq
 ·rename_i a b
  injection h with h; subst h
  cases hx with | dv hx=>cases hx with | bool=>cases hy with | dv hy=>cases hy with | bool =>
  have hq:P.underlying f=some .bool:=by
   unfold plainK at hp
   split at hp <;> first | (cases hp; done) | assumption
  exact run_equalIn_bool w D f a b hq
 ·rename_i a b
  injection h with h; subst h
  cases hx with | dv hx=>cases hx with | str=>cases hy with | dv hy=>cases hy with | str =>
  have hq:P.underlying f=some .string:=by
   unfold plainK at hp
   split at hp <;> first | (cases hp; done) | assumption
  exact run_equalIn_string w D f a b hq
 ·cases h
theorem run_part_one {w:World} {e:TypeId} {k:Nat} (he:plainK (P.underlying e)=k+1) {xs:Array Value} {off:Nat} {v:Value} (hx:xs[off]?=some v):(part e xs off).run P w=.ok v w:=by
 unfold plainK at he
 split at he
 ·rename_i k hu; simp [part,isAgg,run_underlying hu,hx]
 ·rename_i hu; simp [part,isAgg,run_underlying hu,hx]
 ·rename_i hu; simp [part,isAgg,run_underlying hu,hx]
 ·cases he
theorem eqFields_run {G:Gh} {w:World} {xs ys:Array Value} {D:Nat}:∀(fs:List Field) (i:Nat) (q:List Nat) (l r:List AV) (e:Bool),plainF P i fs=some q→eqCells q l r=some e →
  (∀(j:Nat) (d:AV),l[j]?=some d→∃u,xs[i+j]?=some u∧VRel G d u)→(∀(j:Nat) (d:AV),r[j]?=some d→∃u,ys[i+j]?=some u∧VRel G d u) →
  (Op.eqFields (D+1) xs ys fs).run P w=.ok e w
 | [],i,q,l,r,e,hp,he,hx,hy=>by
  simp only [plainF,Option.some.injEq] at hp
  subst hp
  cases l <;> cases r <;> simp [eqCells] at he
  subst he; simp [Op.eqFields]
 | f::fs,i,q,l,r,e,hp,he,hx,hy=>by
  simp only [plainF] at hp
  have hh:=bifO hp; clear hp; obtain ⟨hb,hp⟩:=hh
  simp only [Bool.and_eq_true,bne_iff_ne] at hb
  obtain ⟨n1,o1⟩:=hb
  have o1:=Nat.eq_of_beq_eq_true o1
  split at hp
  ·rename_i k q' hk hq'
   injection hp with hp; subst hp
   cases l with
   | nil=>cases r <;> simp [eqCells] at he
   | cons x l=>cases r with
    | nil=>simp [eqCells] at he
    | cons y r =>
     simp only [eqCells] at he
     split at he
     ·rename_i a b ha hb
      injection he with he; subst he
      obtain ⟨u,hu,hru⟩:=hx 0 x rfl
      obtain ⟨v,hv,hrv⟩:=hy 0 y rfl
      have h1:=eqCell1_run (w:=w) (D:=D) hk ha hru hrv
      simp only [Op.eqFields,n1,ne_eq,not_false_eq_true,if_true,Sem.run_bind,o1]
      rw [run_part_one hk (by simpa using hu)]
      simp only [Result.andThen_ok]
      rw [run_part_one hk (by simpa using hv)]
      simp only [Result.andThen_ok,h1]
      cases a with
      | false=>simp
      | true =>
       simp only [Bool.not_true,Bool.false_eq_true,if_false,Bool.true_and]
       exact eqFields_run fs (i+1) q' l r b hq' hb (fun j d hd=>by have:=hx (j+1) d (by simpa using hd); rwa [show i+(j+1)=i+1+j by omega] at this)
        (fun j d hd=>by have:=hy (j+1) d (by simpa using hd); rwa [show i+(j+1)=i+1+j by omega] at this)
     ·cases he
  ·cases hp
theorem op_eqA (hT:TOk P T) {op:BinOp} {t ty:TypeId} {x y:Operand} (hg:gval ρ ops o.guard=some gd) (ho:o.op=.binOp op t x y ty) {va vb:AV} (hea:EvOk ρ κ gd x va) (heb:EvOk ρ κ gd y vb)
  (h:aeqA (nth T t) op va vb fun v=>retv n o gd nx k v []):Good P C ops n o nx ρ κ k:=by
 have hh:=bifT h; clear h; obtain ⟨hb,h⟩:=hh
 simp only [Bool.and_eq_true] at hb
 obtain ⟨i,u,z,tf⟩:=hT.facts hb.1
 split at h
 ·rename_i x1 l r
  split at h
  ·rename_i e he
   have hk:=tf.kind
   rw [Nat.eq_of_beq_eq_true hb.2] at hk
   obtain ⟨fs,rfl⟩:∃fs,u=.struct fs:=by
    cases u <;> simp [kindOf] at hk
    exact ⟨_,rfl⟩
   have heq:=tf.eqk
   simp only [eqkOf] at heq
   split at heq
   ·rename_i q hq
    cases hc:Nat.beq fs.toList.length i.size && !P.stoodInHeld t && !P.eqGuardType P.depth t with
    | false=>rw [hc] at heq; simp only [cond_false] at heq; rw [heq] at he; simp [eqCells] at he
    | true =>
     rw [hc] at heq
     simp only [cond_true] at heq
     rw [heq] at he
     simp only [Bool.and_eq_true,Bool.not_eq_true'] at hc
     have hf:P.fieldsOf t=fs:=by simp [Program.fieldsOf,tf.und]
     have core:∀(G:Gh) (w:World) (u v:Value),VRel G (.agg (x1::l)) u→VRel G (.agg r) v→∃us vs,u=.agg us∧v=.agg vs∧(Op.equalIn 10000 t u v).run P w=.ok e w:=by
      intro G w u v hu hv
      cases hu with | agg _ us hlu hru=>cases hv with | agg _ vs hlv hrv =>
      refine ⟨_,_,rfl,rfl,?_⟩
      rw [run_equalIn_struct w 9999 t _ _ (by rw [hf]; exact tf.und) hc.1.2,hf]
      refine eqFields_run (G:=G) (D:=9998) fs.toList 0 q _ _ e hq he (fun j d hd=>?_) (fun j d hd=>?_)
      ·have hj:=(List.getElem?_eq_some_iff.1 hd).1
       exact ⟨us[j]'(by omega),by simp,hru j d _ hd (List.getElem?_eq_getElem (by omega))⟩
      ·have hj:=(List.getElem?_eq_some_iff.1 hd).1
       exact ⟨vs[j]'(by omega),by simp,hrv j d _ hd (List.getElem?_eq_getElem (by omega))⟩
     have fin:∀c:Bool,retv n o gd nx k (.dv (.bool c)) []→(∀(w:World) (us vs:Array Value),(Op.equalIn 10000 t (.agg us) (.agg vs)).run P w=.ok e w→(binOp op t (.agg us) (.agg vs)).run P w=.ok (.bool c) w)→Good P C ops n o nx ρ κ k:=by
      intro c hk' hrun
      refine snd_val (fun c=>by rw [ho]; simp) hg hk' fun ρ' κ' hag g a w G hst hgd=>?_
      have h1:=hea ρ' κ' (hag.op (by rw [ho]; simp [Op.operands])) g n a w G hst hgd
      have h2:=heb ρ' κ' (hag.op (by rw [ho]; simp [Op.operands])) g n a w G hst hgd
      obtain ⟨us,vs,e1,e2,e3⟩:=core G w _ _ h1 h2
      refine ⟨.bool c,?_,.dv (.bool c)⟩
      rw [e1,e2] at e3
      simp only [execOp,ho,Sem.run_bind]
      rw [e1,e2,run_eqGuard_agg w op t x y us vs hc.2]
      simp only [Result.andThen_ok,hrun w us vs e3,Sem.run_pure]
     split at h
     ·exact fin e h fun w us vs h3=>by rw [run_eql_struct,h3]; rfl
     ·exact fin (!e) h fun w us vs h3=>by rw [run_neq_struct,h3]; rfl
     ·exact h.elim
   ·rw [heq] at he; simp [eqCells] at he
  ·exact h.elim
 ·exact h.elim
theorem op_cmpNilA (hT:TOk P T) {op:BinOp} {t ty:TypeId} {x y:Operand} (hg:gval ρ ops o.guard=some gd) (ho:o.op=.binOp op t x y ty) {av:AV} (hev:EvOk ρ κ gd x av) (hey:EvOk ρ κ gd y (.dv .nils))
  (h:acmpNil (nth T t) op κ gd av fun v rd=>retv n o gd nx k v rd):Good P C ops n o nx ρ κ k:=by
 unfold acmpNil at h
 have hh:=bifT h; clear h; obtain ⟨hb,h⟩:=hh
 simp only [Bool.and_eq_true] at hb
 obtain ⟨i,u,z,tf⟩:=hT.facts hb.1
 have hu:=tf.slice hb.2
 have core:∀(neg:Bool),(∀(w:World) (p:Option Addr) (l cc:Nat),(binOp op t (.slice p l cc) (.slice none 0 0)).run P w=.ok (.bool (bif neg then !p.isNone else p.isNone)) w)→(aisNil κ gd av fun c rd=>retv n o gd nx k (nilR neg c) rd)→Good P C ops n o nx ρ κ k:=by
  intro neg hrun h
  obtain ⟨c,rd,hk,hs⟩:=aisNil_sound h
  refine snd_val (fun c=>by rw [ho]; simp) hg hk fun ρ' κ' hag g a w G hst hgd=>?_
  have h1:=hev ρ' κ' (hag.op (by rw [ho]; simp [Op.operands])) g n a w G hst hgd
  have h2:=hey ρ' κ' (hag.op (by rw [ho]; simp [Op.operands])) g n a w G hst hgd
  obtain ⟨p,l,cc,hv,hp⟩:=hs hgd κ' hag.reads G w _ hst.fit h1
  generalize hy:a.eval y=vy at h2
  cases h2 with | dv h2=>cases h2 with | nils =>
  refine ⟨.bool (bif neg then !p.isNone else p.isNone),?_,?_⟩
  ·simp only [execOp,ho,Sem.run_bind]
   rw [run_eqGuard_plain op t x y _ _ (by rw [hv]; simp) (by rw [hv]; simp),hv,hy]
   simp only [Result.andThen_ok,hrun w p l cc,Sem.run_pure]
  ·cases c with
   | none=>exact .dv (.anyb _)
   | some b=>rw [hp b rfl]; exact .dv (.bool _)
 split at h
 ·exact core false (fun w p l cc=>by simp only [binOp,Sem.run_bind,equal_slice_nil hu,Result.andThen_ok,Sem.run_pure,cond_false]) h
 ·exact core true (fun w p l cc=>by simp only [binOp,Sem.run_bind,equal_slice_nil hu,Result.andThen_ok,Sem.run_pure,cond_true]) h
 ·exact h.elim
theorem op_convert (hT:TOk P T) {s t:TypeId} {x:Operand} {kx kd:IntKind} {m:Int} (hg:gval ρ ops o.guard=some gd) (ho:o.op=.convert s t x) (hs:(nth T s).ok=true) (ht:(nth T t).ok=true) (hi:(nth T t).ikd=some kd) (hk:retv n o gd nx k (.dv (.int kd (kd.wrap m))) []) (hev:EvOk ρ κ gd x (.dv (.int kx m))):Good P C ops n o nx ρ κ k:=by
 obtain ⟨i1,u1,z1,tf1⟩:=hT.facts hs
 obtain ⟨i2,u2,z2,tf2⟩:=hT.facts ht
 refine snd_val (fun c=>by rw [ho]; simp) hg hk fun ρ' κ' hag g a w G hst hgd=>?_
 have hv:=hev ρ' κ' (hag.op (by rw [ho]; simp [Op.operands])) g n a w G hst hgd
 generalize hx:a.eval x=v at hv
 cases hv with | dv hv=>cases hv with | int =>
 have h2:=tf2.ikd
 rw [hi] at h2
 cases u2 <;> simp [ikdOf] at h2
 subst h2
 refine ⟨.int kd (kd.wrap m),?_,.dv (.int _ _)⟩
 simp [execOp,ho,hx,convert,run_underlying tf1.und,run_underlying tf2.und,Conv.intToInt]
theorem op_index (hT:TOk P T) {t:TypeId} {x ix:Operand} {kx:IntKind} {m:Int} {s:ByteArray} {b:UInt8} (hg:gval ρ ops o.guard=some gd) (ho:o.op=.index t x ix) (ht:(nth T t).ok=true) (hst:(nth T t).isStr=true) (hb:gd=true→0≤m∧s[m.toNat]?=some b) (hk:retv n o gd nx k (.dv (.int .u8 b.toNat)) []) (hev:EvOk ρ κ gd x (.dv (.str s))) (hei:EvOk ρ κ gd ix (.dv (.int kx m))):Good P C ops n o nx ρ κ k:=by
 obtain ⟨i1,u1,z1,tf1⟩:=hT.facts ht
 have hu:=tf1.string hst
 refine snd_val (fun c=>by rw [ho]; simp) hg hk fun ρ' κ' hag g a w G hst hgd=>?_
 have hv:=hev ρ' κ' (hag.op (by rw [ho]; simp [Op.operands])) g n a w G hst hgd
 have hi:=hei ρ' κ' (hag.op (by rw [ho]; simp [Op.operands])) g n a w G hst hgd
 generalize hx:a.eval x=v at hv
 generalize hy:a.eval ix=u at hi
 cases hv with | dv hv=>cases hv with | str =>
 cases hi with | dv hi=>cases hi with | int =>
 obtain ⟨h0,hb⟩:=hb hgd
 refine ⟨.int .u8 b.toNat,?_,.dv (.int _ _)⟩
 simp [execOp,ho,hx,hy,Instr.index,asIntOf,run_underlying hu,h0,hb]
theorem op_min {x y:Operand} {c:Call} {p q:Int} (hg:gval ρ ops o.guard=some gd) (ho:o.op=.call c) (hc:c.callee=.builtin .min) (ha:c.args.toList=[x,y])
  (hk:retv n o gd nx k (.dv (.int .i64 (if q<p then q else p))) []) (hev:EvOk ρ κ gd x (.dv (.int .i64 p))) (hei:EvOk ρ κ gd y (.dv (.int .i64 q))):Good P C ops n o nx ρ κ k:=by
 have hargs:c.args=#[x,y]:=Array.ext' (by simpa using ha)
 refine snd_val (fun c=>by rw [ho]; simp) hg hk fun ρ' κ' hag g a w G hst hgd=>?_
 have hv:=hev ρ' κ' (hag.op (by rw [ho]; simp [Op.operands,Call.operands,hc,hargs])) g n a w G hst hgd
 have hv2:=hei ρ' κ' (hag.op (by rw [ho]; simp [Op.operands,Call.operands,hc,hargs])) g n a w G hst hgd
 generalize hx:a.eval x=v at hv
 generalize hi:a.eval y=vi at hv2
 cases hv2 with | dv hv2=>cases hv2 with | int =>
 cases hv with | dv hv=>cases hv with | int =>
 refine ⟨_,?_,.dv (.int _ _)⟩
 simp [execOp,ho,resolve,hc,hargs,invoke,builtin,Builtin.min_,Builtin.min2,hx,hi]
theorem op_max {x y:Operand} {c:Call} {p q:Int} (hg:gval ρ ops o.guard=some gd) (ho:o.op=.call c) (hc:c.callee=.builtin .max) (ha:c.args.toList=[x,y])
  (hk:retv n o gd nx k (.dv (.int .i64 (if p<q then q else p))) []) (hev:EvOk ρ κ gd x (.dv (.int .i64 p))) (hei:EvOk ρ κ gd y (.dv (.int .i64 q))):Good P C ops n o nx ρ κ k:=by
 have hargs:c.args=#[x,y]:=Array.ext' (by simpa using ha)
 refine snd_val (fun c=>by rw [ho]; simp) hg hk fun ρ' κ' hag g a w G hst hgd=>?_
 have hv:=hev ρ' κ' (hag.op (by rw [ho]; simp [Op.operands,Call.operands,hc,hargs])) g n a w G hst hgd
 have hv2:=hei ρ' κ' (hag.op (by rw [ho]; simp [Op.operands,Call.operands,hc,hargs])) g n a w G hst hgd
 generalize hx:a.eval x=v at hv
 generalize hi:a.eval y=vi at hv2
 cases hv2 with | dv hv2=>cases hv2 with | int =>
 cases hv with | dv hv=>cases hv with | int =>
 refine ⟨_,?_,.dv (.int _ _)⟩
 simp [execOp,ho,resolve,hc,hargs,invoke,builtin,Builtin.max_,Builtin.max2,hx,hi]
def PartsOk (ρ:Nat→AV) (κ:Nat→Box) (g:Bool):List (Nat × Operand)→List (Nat × AV)→Prop
 | [],[]=>True
 | (i,x)::r,(j,v)::l=>i=j∧EvOk ρ κ g x v∧PartsOk ρ κ g r l
 | _,_=>False
theorem exParts_sound:∀{l:List (Nat × Operand)} {k:List (Nat × AV)→Prop},exParts ρ κ gd l k→∃r,k r∧PartsOk ρ κ gd l r
 | [],k,h=>⟨[],h,tv⟩
 | (i,x)::l,k,h=>by
  obtain ⟨v,h,hv⟩:=ex_sound h
  obtain ⟨r,h,hr⟩:=exParts_sound h
  exact ⟨_,h,rfl,hv,hr⟩
theorem allCell_mem:∀{l:List AV},allCell l=true→∀v,v∈l→v.isCell=true
 | [],_,v,h=>by simp at h
 | x::l,h,v,hv=>by
  simp only [allCell,Bool.and_eq_true] at h
  rcases List.mem_cons.1 hv with rfl | hv
  ·exact h.1
  ·exact allCell_mem h.2 v hv
section
variable {G:Gh}
theorem CRel.oneCell {l:List AV} {vs:List Value} (h:CRel G l vs) (hc:allCell l=true):∀v,v∈vs→v.oneCell'=true:=by
 intro v hv
 obtain ⟨j,hj,rfl⟩:=List.getElem_of_mem hv
 have hj':j<l.length:=by rw [h.1]; exact hj
 exact (h.2 j l[j] vs[j] (List.getElem?_eq_getElem hj') (List.getElem?_eq_getElem hj)).oneCell (allCell_mem hc _ (List.getElem_mem hj'))
theorem cells_rel {av:AV} {v:Value} (h:VRel G av v) (hc:allCell (cellsOf av)=true):CRel G (cellsOf av) v.cells.toList:=by
 cases av with
 | agg l =>
  cases h with
  | agg _ vs hl hr=>exact ⟨by simpa [cellsOf,Value.cells] using hl,by simpa [cellsOf,Value.cells] using hr⟩
 | _ =>
  simp only [cellsOf,allCell,Bool.and_true] at hc
  have h1:=h.oneCell hc
  have:v.cells=#[v]:=by cases v <;> first | rfl | (simp [Value.oneCell'] at h1)
  rw [this]
  refine ⟨rfl,fun j d u hd hu=>?_⟩
  cases j with
  | zero=>simp [cellsOf] at hd hu; subst hd; subst hu; exact h
  | succ j=>simp [cellsOf] at hd
theorem CRel.splice {l:List AV} {vs:List Value} {l':List AV} {vs':List Value} (h:CRel G l vs) (h':CRel G l' vs') (off:Nat) (hle:off+l'.length≤l.length) :
  CRel G (splice l off l') (vs.take off++vs'++vs.drop (off+vs'.length)):=by
 have e:=h.1
 have e':=h'.1
 constructor
 ·simp [TM.splice]; omega
 ·intro j d v hd hv
  simp only [TM.splice,List.append_assoc] at hd hv
  rw [List.getElem?_append] at hd hv
  simp only [List.length_take] at hd hv
  by_cases h1:j<off
  ·rw [if_pos (by omega)] at hd hv
   rw [List.getElem?_take,if_pos h1] at hd hv
   exact h.2 j d v hd hv
  ·rw [if_neg (by omega)] at hd hv
   rw [List.getElem?_append] at hd hv
   rw [show min off l.length=off by omega] at hd
   rw [show min off vs.length=off by omega] at hv
   by_cases h2:j - off<l'.length
   ·rw [if_pos h2] at hd
    rw [if_pos (by omega)] at hv
    exact h'.2 _ d v hd hv
   ·rw [if_neg h2] at hd
    rw [if_neg (by omega)] at hv
    rw [List.getElem?_drop] at hd hv
    rw [←e'] at hv
    exact h.2 _ d v hd hv
theorem fold_set (off:Nat):∀(vs:List Value) (i:Nat) (cur:Array Value),off+i+vs.length≤cur.size →
  ((vs.zipIdx i).foldl (fun cs (p:Value × Nat)=>cs.setIfInBounds (off+p.2) p.1) cur).toList=cur.toList.take (off+i)++vs++cur.toList.drop (off+i+vs.length)
 | [],i,cur,_=>by simp
 | v::rest,i,cur,hl=>by
  simp only [List.zipIdx_cons,List.foldl_cons]
  rw [fold_set off rest (i+1) (cur.setIfInBounds (off+i) v) (by simp at hl ⊢; omega)]
  have e:=list_seg_step cur.toList (off+i) v rest (by simp at hl ⊢; omega)
  simpa [Array.toList_setIfInBounds,Nat.add_assoc] using e
theorem fill_sound (place:Nat→Option (Nat × Nat)):∀(parts:List (Nat × AV)) (vparts:List (Nat × Value)) (l l':List AV) (cs:Array Value),
  (parts.length=vparts.length∧∀(j:Nat) (p:Nat × AV) (q:Nat × Value),parts[j]?=some p→vparts[j]?=some q→p.1=q.1∧VRel G p.2 q.2)→CRel G l cs.toList→fillA place l parts=some l' →
  ∃cs',Instr.fill place cs vparts=some cs'∧CRel G l' cs'.toList
 | [],[],l,l',cs,_,hc,h=>by simp [fillA] at h; subst h; exact ⟨cs,rfl,hc⟩
 | [],q::vr,l,l',cs,hp,_,_=>by simp at hp
 | p::r,[],l,l',cs,hp,_,_=>by simp at hp
 | (i,av)::r,(i',v)::vr,l,l',cs,hp,hc,h=>by
  have h0:=hp.2 0 (i,av) (i',v) rfl rfl
  simp only at h0
  obtain ⟨rfl,hv⟩:=h0
  simp only [fillA] at h
  split at h
  ·cases h
  ·rename_i off sz hpl
   cases hb:(Nat.beq (cellsOf av).length sz && Nat.ble (off+sz) l.length && allCell (cellsOf av)) with
   | false=>rw [hb] at h; cases h
   | true =>
    rw [hb] at h
    simp only [cond_true] at h
    simp only [Bool.and_eq_true] at hb
    obtain ⟨⟨hb1,hb2⟩,hb3⟩:=hb
    have hb1:=Nat.eq_of_beq_eq_true hb1
    have hb2:=Nat.le_of_ble_eq_true hb2
    have hcr:=cells_rel hv hb3
    have hsz:v.cells.size=sz:=by rw [←hb1,hcr.1]; simp
    have hls:l.length=cs.size:=by rw [hc.1]; simp
    have hnew:((v.cells.zipIdx.foldl (fun cs (p:Value × Nat)=>cs.setIfInBounds (off+p.2) p.1) cs).toList)=cs.toList.take off++v.cells.toList++cs.toList.drop (off+v.cells.toList.length):=by
     rw [←Array.foldl_toList,Array.toList_zipIdx]
     have:=fold_set off v.cells.toList 0 cs (by simp; omega)
     simpa using this
    have hc2:CRel G (splice l off (cellsOf av)) (v.cells.zipIdx.foldl (fun cs (p:Value × Nat)=>cs.setIfInBounds (off+p.2) p.1) cs).toList:=by
     rw [hnew]
     exact hc.splice hcr off (by omega)
    obtain ⟨cs',h1,h2⟩:=fill_sound place r vr _ l' _ ⟨by simpa using hp.1,fun j p q hp' hq'=>hp.2 (j+1) p q (by simpa using hp') (by simpa using hq')⟩ hc2 h
    refine ⟨cs',?_,h2⟩
    simp only [Instr.fill,hpl,hsz]
    rw [if_neg (by simp; omega)]
    exact h1
end
theorem PartsOk.rel {ρ':Nat→AV} {κ':Nat→Box} {g:Org} {a:Act} {w:World} {G:Gh} (hst:StM g n ρ' κ' a w G) (hgd:gd=true) :
  ∀{l:List (Nat × Operand)} {r:List (Nat × AV)},PartsOk ρ κ gd l r→(∀p,p∈l→Agr1 ρ ρ' κ κ' p.2) →
   (r.length=(l.map fun p=>(p.1,a.eval p.2)).length∧∀(j:Nat) (p:Nat × AV) (q:Nat × Value),r[j]?=some p→(l.map fun p=>(p.1,a.eval p.2))[j]?=some q→p.1=q.1∧VRel G p.2 q.2)
 | [],[],_,_=>⟨rfl,by simp⟩
 | [],_::_,h,_=>h.elim
 | _::_,[],h,_=>h.elim
 | (i,x)::l,(j,v)::r,⟨hij,hv,h⟩,hag=>by
  obtain ⟨h1,h2⟩:=PartsOk.rel hst hgd h (fun p hp=>hag p (by simp [hp]))
  have hv1:=hv ρ' κ' (hag (i,x) (by simp)) g n a w G hst hgd
  refine ⟨by simpa using h1,fun jj p q hp hq=>?_⟩
  cases jj with
  | zero=>simp at hp hq; subst hp; subst hq; exact ⟨hij.symm,hv1⟩
  | succ jj=>exact h2 jj p q (by simpa using hp) (by simpa using hq)
theorem mapM_places {w:World} (fs:List Field) (h:∀f,f∈fs→∃j,P.info? f.type=some j):((fs.toArray.mapM fun f=>do pure (f.offset,←sizeOf f.type)):Sem (Array (Nat × Nat))).run P w=.ok (fs.map fun f=>(f.offset,match P.info? f.type with | some j=>j.size | none=>0)).toArray w:=by
 have key:∀(l:List Field),(∀f,f∈l→∃j,P.info? f.type=some j)→((l.mapM fun f=>do pure (f.offset,←sizeOf f.type)):Sem (List (Nat × Nat))).run P w=.ok (l.map fun f=>(f.offset,match P.info? f.type with | some j=>j.size | none=>0)) w:=by
  intro l
  induction l with
  | nil=>intro _; rfl
  | cons f r ih =>
   intro hl
   obtain ⟨j,hj⟩:=hl f (by simp)
   have:=ih (fun f hf=>hl f (by simp [hf]))
   simp only [List.mapM_cons,Sem.run_bind,run_sizeOf' hj,Result.andThen_ok,Sem.run_pure,this,List.map_cons,hj]
 rw [List.mapM_toArray]
 simp only [Sem.run_map,key fs h,Result.andThen_ok]
theorem op_build (hT:TOk P T) {t:Nat} {parts:Array (Nat × Operand)} {l:List (Nat × AV)} {cs:List AV} (hg:gval ρ ops o.guard=some gd) (ho:o.op=.build t parts) (hok:(nth T t).ok=true)
  (hp:PartsOk ρ κ gd parts.toList l) (hfl:fillA (fun i=>(nth T t).fields[i]?) (dvs (nth T t).zero) l=some cs) (hst9:Nat.beq (nth T t).kind 9=true) (hk:retv n o gd nx k (.agg cs) []):Good P C ops n o nx ρ κ k:=by
 obtain ⟨ti,u,z,tf⟩:=hT.facts hok
 have hu:∃fs,u=.struct fs:=by
  have h1:=tf.kind
  rw [Nat.eq_of_beq_eq_true hst9] at h1
  cases u <;> simp [kindOf] at h1
  exact ⟨_,rfl⟩
 obtain ⟨fs,rfl⟩:=hu
 refine snd_val (fun c=>by rw [ho]; simp) hg hk fun ρ' κ' hag g a w G hst hgd=>?_
 have hag':∀p,p∈parts.toList→Agr1 ρ ρ' κ κ' p.2:=fun p hp'=>hag.op (by
  rw [ho]
  simp only [Op.operands,List.mem_toArray,List.mem_map]
  exact ⟨p,hp',rfl⟩)
 have h1:=hp.rel hst hgd hag'
 have hz:CRel G (dvs (nth T t).zero) z.cells.toList:=by
  exact vrels_dvs (zcells_ok (M:=G.M) tf.zc).1
 obtain ⟨cs',h3,h4⟩:=fill_sound _ l _ _ cs z.cells h1 hz hfl
 have hagg:VRel G (.agg cs) (.agg cs'):=by
  have:=VRel.agg (G:=G) cs cs'.toList h4.1 h4.2
  simpa using this
 refine ⟨.agg cs',?_,hagg⟩
 ·have hpl:((fs.mapM fun f=>do pure (f.offset,←sizeOf f.type)):Sem (Array (Nat × Nat))).run P w=.ok (nth T t).fields.toArray w:=by
   have:=mapM_places (P:=P) (w:=w) fs.toList (fun f hf=>by
    have:=tf.fin
    simp only [fieldsIn,List.all_eq_true] at this
    exact Option.isSome_iff_exists.1 (this f hf))
   simp only [Array.toArray_toList] at this
   rw [this,tf.fields]
   rfl
  have hfill:Instr.fill (fun i=>(nth T t).fields.toArray[i]?) z.cells (parts.map fun p=>(p.1,a.eval p.2)).toList=some cs':=by
   simpa using h3
  simp only [execOp,ho,Instr.build,Sem.run_bind,tf.run_zero w,Result.andThen_ok,run_underlying tf.und,hpl]
  rw [hfill]
  rfl
end
end Go.TM
