import Derived.Test.YtpbdohkbiklflaaGreatDoorCM4
import Derived.Laws.StructEq
set_option linter.unusedVariables false
set_option linter.unusedSimpArgs false
set_option linter.unusedSectionVars false
namespace Go.TM
open Go.RowKit
variable [cu]
section
variable {P:Program} {C:dD→Prop} {T:List TI} {ops:List Oper} {n:Nat} {o:Oper} {nx:Nat} {ρ:Nat→AV} {κ:Nat→ar} {k:jH→Nat→Prop} {gd:Bool}
theorem N7 {x:Operand} (hg:bR ρ ops o.guard=some gd) (ho:o.op=.move x) (h:ex ρ κ gd x fun v=>aW n o gd nx k v []):Good P C ops n o nx ρ κ k:=by
 by_cases hm:fF ρ κ o=Kb ρ o
 ·obtain ⟨av,hk,bB⟩:=aI h
  refine bm (fun c=>by rw [ho]; simp) hg hk fun ρ' κ' ax g a w G ak aR=>?_
  have hv:=bB ρ' κ' (ax.Zo (by rw [ho]; simp [Op.operands]) hm) g n a w G ak aR
  exact ⟨_,by simp [execOp,ho],hv⟩
 ·unfold fF at hm
  split at hm
  ·rename_i t ht
   rw [ho] at ht
   injection ht with ht
   subst ht
   cases hb:Yb κ (ρ t) with
   | false=>rw [hb] at hm; exact absurd rfl hm
   | true =>
    generalize hρ:ρ t=v at hb
    cases v with
    | own i ver ep p =>
     simp only [Yb] at hb
     cases hk:κ i with
     | tree V E d =>
      unfold ex at h
      simp only [ev,hρ,res,hk] at h
      cases hc:Nat.beq ver V && (emp p || Nat.beq ep E) with
      | true =>
       rw [hc] at h
       simp only [cond_true] at h
       rw [force_eq] at h
       refine bm (fun c=>by rw [ho]; simp) hg h fun ρ' κ' ax g a w G ak aR=>?_
       have h1:=ak.env t
       rw [ax.bC t (by unfold Oper.looksAt; rw [ho]; exact List.mem_append.2 (.inl (by simp [Op.operands]))),hρ] at h1
       exact ⟨_,by simp only [execOp,ho]; rfl,h1⟩
      | false =>
       rw [hc] at h
       simp only [cond_false] at h
       rw [force_eq] at h
       refine bm (fun c=>by rw [ho]; simp) hg h fun ρ' κ' ax g a w G ak aR=>?_
       exact ⟨a.eval (.tmp t),by simp [execOp,ho],.any _⟩
     | _=>rw [hk] at hb; cases hb
    | _=>cases hb
  ·exact absurd rfl hm
theorem IV {x:Operand} {av:AV} (hg:bR ρ ops o.guard=some gd) (ho:o.op=.assign x) (hk:aW n o gd nx k av []) (bB:bu ρ κ gd x av):Good P C ops n o nx ρ κ k:=by
 refine bm (fun c=>by rw [ho]; simp) hg hk fun ρ' κ' ax g a w G ak aR=>?_
 have hv:=bB ρ' κ' (ax.op (by rw [ho]; simp [Op.operands])) g n a w G ak aR
 exact ⟨_,by simp [execOp,ho],hv⟩
theorem nu {x:Operand} {av:AV} (hg:bR ρ ops o.guard=some gd) (ho:o.op=.nilCheck x) (hk:aW n o gd nx k av []) (bB:bu ρ κ gd x av)
  (hp:∀(G:Gh) (v:Value),aH G av v→∃a,v=.pointer (some a)):Good P C ops n o nx ρ κ k:=by
 refine bm (fun c=>by rw [ho]; simp) hg hk fun ρ' κ' ax g a w G ak aR=>?_
 have hv:=bB ρ' κ' (ax.op (by rw [ho]; simp [Op.operands])) g n a w G ak aR
 obtain ⟨p,hp⟩:=hp _ _ hv
 refine ⟨_,?_,hv⟩
 simp [execOp,ho,hp]
theorem KJ (hT:er P T) {op:BinOp} {t ty:TypeId} {x y:Operand} (hg:bR ρ ops o.guard=some gd) (ho:o.op=.binOp op t x y ty)
  {va vb:AV} (Q7:bu ρ κ gd x va) (Q8:bu ρ κ gd y vb) (h:rD (nth T t) op va vb gd fun v=>aW n o gd nx k v []):Good P C ops n o nx ρ κ k:=by
 obtain ⟨r,hk,hc,hr⟩:=GV (P:=P) hT h
 refine bm (fun c=>by rw [ho]; simp) hg hk fun ρ' κ' ax g a w G ak aR=>?_
 have h1:=Q7 ρ' κ' (ax.op (by rw [ho]; simp [Op.operands])) g n a w G ak aR
 have h2:=Q8 ρ' κ' (ax.op (by rw [ho]; simp [Op.operands])) g n a w G ak aR
 obtain ⟨v,h3,h4,h5,h6⟩:=hr G w _ _ aR h1 h2
 refine ⟨v,?_,.dv h4⟩
 simp only [execOp,ho,Sem.run_bind,gK op t x y _ _ h5 h6,Result.andThen_ok,h3,Sem.run_pure]
theorem Ra {t:TypeId} {x:Operand} {b:Bool} (hg:bR ρ ops o.guard=some gd) (ho:o.op=.unOp .not t x) (hk:aW n o gd nx k (.dv (.bool (!b))) []) (bB:bu ρ κ gd x (.dv (.bool b))):Good P C ops n o nx ρ κ k:=by
 refine bm (fun c=>by rw [ho]; simp) hg hk fun ρ' κ' ax g a w G ak aR=>?_
 have hv:=bB ρ' κ' (ax.op (by rw [ho]; simp [Op.operands])) g n a w G ak aR
 generalize hx:a.eval x=v at hv
 cases hv with | dv hv=>cases hv with | bool =>
 exact ⟨_,by simp [execOp,ho,hx,Op.unary],.dv (.bool _)⟩
theorem Rb {t:TypeId} {x:Operand} {kd:IntKind} {m:Int} (hg:bR ρ ops o.guard=some gd) (ho:o.op=.unOp .neg t x) (hk:arith kd (0 - m) gd fun v=>aW n o gd nx k v []) (bB:bu ρ κ gd x (.dv (.int kd m))):Good P C ops n o nx ρ κ k:=by
 obtain ⟨r,hk,he⟩:=iS hk
 refine bm (fun c=>by rw [ho]; simp) hg hk fun ρ' κ' ax g a w G ak aR=>?_
 have hv:=bB ρ' κ' (ax.op (by rw [ho]; simp [Op.operands])) g n a w G ak aR
 generalize hx:a.eval x=v at hv
 cases hv with | dv hv=>cases hv with | int =>
 refine ⟨.int kd r,?_,.dv (.int kd r)⟩
 have:=he aR
 simp only [execOp,ho,hx,Op.unary,Op.intArith,this,Sem.run_bind,Sem.run_pure,Result.andThen_ok]
theorem E8 {x:Operand} {i:Nat} {l:List AV} {av:AV} (hg:bR ρ ops o.guard=some gd) (ho:o.op=.extract x i) (hk:aW n o gd nx k av []) (hl:l[i]?=some av) (bB:bu ρ κ gd x (.eV l)):Good P C ops n o nx ρ κ k:=by
 refine bm (fun c=>by rw [ho]; simp) hg hk fun ρ' κ' ax g a w G ak aR=>?_
 have hv:=bB ρ' κ' (ax.op (by rw [ho]; simp [Op.operands])) g n a w G ak aR
 generalize hx:a.eval x=v at hv
 cases hv with
 | eV _ vs hlen hr =>
  have hi:i<l.length:=(List.getElem?_eq_some_iff.1 hl).1
  have Zp:vs[i]?=some (vs[i]'(by omega)):=List.getElem?_eq_getElem (by omega)
  refine ⟨_,?_,hr i av _ hl Zp⟩
  simp [execOp,ho,hx,Instr.extract,Zp]
theorem lO {c x y:Operand} {b p q:Bool} (hg:bR ρ ops o.guard=some gd) (ho:o.op=.pick c x y) (hk:aW n o gd nx k (.dv (.bool (bif b then p else q))) [])
  (hc:bu ρ κ gd c (.dv (.bool b))) (hx:bu ρ κ (gd && b) x (.dv (.bool p))) (hy:bu ρ κ (gd && !b) y (.dv (.bool q))):Good P C ops n o nx ρ κ k:=by
 refine bm (fun c=>by rw [ho]; simp) hg hk fun ρ' κ' ax g a w G ak aR=>?_
 have hv:=hc ρ' κ' (ax.op (by rw [ho]; simp [Op.operands])) g n a w G ak aR
 generalize Wl:a.eval c=v at hv
 cases hv with | dv hv=>cases hv with | bool =>
 subst aR
 cases b with
 | true =>
  have hv:=hx ρ' κ' (ax.op (by rw [ho]; simp [Op.operands])) g n a w G ak rfl
  generalize o7:a.eval x=v at hv
  cases hv with | dv hv=>cases hv with | bool =>
  exact ⟨_,by simp [execOp,ho,Wl,o7,asBool],.dv (.bool _)⟩
 | false =>
  have hv:=hy ρ' κ' (ax.op (by rw [ho]; simp [Op.operands])) g n a w G ak rfl
  generalize o7:a.eval y=v at hv
  cases hv with | dv hv=>cases hv with | bool =>
  exact ⟨_,by simp [execOp,ho,Wl,o7,asBool],.dv (.bool _)⟩
theorem lP (hT:er P T) {t f off sz:Nat} {x:Operand} {av Vu:AV} (hg:bR ρ ops o.guard=some gd) (ho:o.op=.fieldAddr t x f) (bK:(nth T t).ok=true) (hf:(nth T t).fields[f]?=some (off,sz+1))
  (hk:aW n o gd nx k Vu []) (bB:bu ρ κ gd x av)
  (hp:∀(G:Gh) (v:Value),aH G av v→∃a,v=.pointer (some a)∧aH G Vu (.pointer (some (a.add off)))):Good P C ops n o nx ρ κ k:=by
 obtain ⟨i,u,z,tf⟩:=hT.facts bK
 obtain ⟨fs,fd,hu,Vv,Nw,j,hj,Zq⟩:=tf.field hf (by omega)
 refine bm (fun c=>by rw [ho]; simp) hg hk fun ρ' κ' ax g a w G ak aR=>?_
 have hv:=bB ρ' κ' (ax.op (by rw [ho]; simp [Op.operands])) g n a w G ak aR
 obtain ⟨p,hp,PU⟩:=hp _ _ hv
 refine ⟨_,?_,PU⟩
 simp [execOp,ho,hp,Instr.fieldAt,run_underlying hu,Vv,Instr.sureAddr,fieldPlace,iR hj,Zq,Nw]
theorem dJ {agg:Bool} {l:List AV} {off sz:Nat} {ret:AV→Prop} (h:cd agg l off sz ret) :
  ∃v,ret v∧((agg=true∧off+sz≤l.length∧v=.agg ((l.drop off).take sz)) ∨ (agg=false∧l[off]?=some v)):=by
 unfold cd at h
 cases agg with
 | true =>
  simp only [cond_true] at h
  cases hb:Nat.ble (off+sz) l.length with
  | false=>rw [hb] at h; exact h.elim
  | true=>rw [hb] at h; exact ⟨_,h,.inl ⟨rfl,Nat.le_of_ble_eq_true hb,rfl⟩⟩
 | false =>
  simp only [cond_false] at h
  split at h
  ·rename_i v hv; rw [force_eq] at h; exact ⟨v,h,.inr ⟨rfl,hv⟩⟩
  ·exact h.elim
theorem jS (hT:er P T) {t off:Nat} {l:List AV} {av:AV} {w:World} {G:Gh} (bK:(nth T t).ok=true) (A:Addr) (vs:Nat→Value)
  (hc:∀j,j<l.length→w.cell? (A.add j)=some (vs j)) (hr:∀(j:Nat) (d:AV),l[j]?=some d→aH G d (vs j))
  (hp:((nth T t).agg=true∧off+(nth T t).size≤l.length∧av=.agg ((l.drop off).take (nth T t).size)) ∨ ((nth T t).agg=false∧l[off]?=some av)) :
  ∃v,(Instr.loadAt t (.pointer (some (A.add off)))).run P w=.ok v w∧aH G av v:=by
 obtain ⟨i,u,z,tf⟩:=hT.facts bK
 rcases hp with ⟨ha,hle,rfl⟩ | ⟨ha,hl⟩
 ·refine ⟨.agg ((List.range (nth T t).size).map fun j=>vs (off+j)).toArray,?_,?_⟩
  ·have:=run_loadCells (P:=P) w (A.add off) (nth T t).size (fun j=>vs (off+j)) (fun j hj=>by rw [cF]; exact hc _ (by omega))
   simp only [Instr.loadAt,Instr.sureAddr,Sem.run_bind,Sem.run_pure,Result.andThen_ok,loadVar,tf.tn w,ha,if_true,tf.eZ w,this]
  ·refine .agg _ _ (by simp; omega) fun j d v hd hv=>?_
   rw [List.getElem?_take] at hd
   split at hd
   ·rename_i hj
    rw [List.getElem?_drop] at hd
    simp [hj] at hv
    subst hv
    exact hr _ _ hd
   ·cases hd
 ·have aK:off<l.length:=(List.getElem?_eq_some_iff.1 hl).1
  refine ⟨vs off,?_,hr _ _ hl⟩
  simp only [Instr.loadAt,Instr.sureAddr,Sem.run_bind,Sem.run_pure,Result.andThen_ok,loadVar,tf.tn w,ha,Bool.false_eq_true,if_false,run_load,hc off aK]
theorem Cv (hT:er P T) {t i off:Nat} {x:Operand} {l:List AV} (hg:bR ρ ops o.guard=some gd) (ho:o.op=.load t x) (bK:(nth T t).ok=true) (hb:κ i=.cells l)
  (hk:cd (nth T t).agg l off (nth T t).size fun v=>aW n o gd nx k v [i]) (bB:bu ρ κ gd x (.ptr i off)):Good P C ops n o nx ρ κ k:=by
 obtain ⟨av,hk,hp⟩:=dJ hk
 refine bm (fun c=>by rw [ho]; simp) hg hk fun ρ' κ' ax g a w G ak aR=>?_
 have hv:=bB ρ' κ' (ax.op (by rw [ho]; simp [Op.operands])) g n a w G ak aR
 have dV:κ' i=.cells l:=(ax.reads i (by simp)).trans hb
 have sF:=ak.fit.box i
 rw [dV] at sF
 obtain ⟨b,c,tt,Wm,hw,aU,fM,hr⟩:=sF
 generalize hx:a.eval x=v at hv
 cases hv with
 | ptr _ _ b' AK =>
 rw [Wm] at AK; injection AK with AK; subst AK
 have hA:(⟨b,off,none⟩:Addr)=(⟨b,0,none⟩:Addr).add off:=by rw [cO]; simp
 obtain ⟨v,h1,h2⟩:=jS (P:=P) (av:=av) (w:=w) (G:=G) (l:=l) (off:=off) hT bK ⟨b,0,none⟩ (fun j=>c.getD j undef) (fun j hj=>by
   rw [cO]
   simp [World.cell?,hw,aU,hj]) (fun j d hd=>by
   have hj:j<l.length:=(List.getElem?_eq_some_iff.1 hd).1
   exact hr j d _ hd (by simp [aU,hj])) hp
 refine ⟨v,?_,h2⟩
 rw [←hA] at h1
 simp only [execOp,ho,hx,Sem.run_bind,h1,Result.andThen_ok,Sem.run_pure]
theorem E6 (hT:er P T) {t off:Nat} {x:Operand} {y:DV} (hg:bR ρ ops o.guard=some gd) (ho:o.op=.load t x) (bK:(nth T t).ok=true)
  (hk:cd (nth T t).agg (iU y.cells) off (nth T t).size fun v=>aW n o gd nx k v []) (bB:bu ρ κ gd x (.dv (.at y off))):Good P C ops n o nx ρ κ k:=by
 obtain ⟨av,hk,hp⟩:=dJ hk
 refine bm (fun c=>by rw [ho]; simp) hg hk fun ρ' κ' ax g a w G ak aR=>?_
 have hv:=bB ρ' κ' (ax.op (by rw [ho]; simp [Op.operands])) g n a w G ak aR
 generalize hx:a.eval x=v at hv
 cases hv with | dv hv=>cases hv with
 | _ =>
  rename_i A cell fM hc hr
  obtain ⟨v,h1,h2⟩:=jS (P:=P) (av:=av) (w:=w) (G:=G) (l:=iU y.cells) (off:=off) hT bK A cell (fun j hj=>ak.fit.sub.cell (hc j (by simpa [mC] using hj))) (fun j d hd=>by
   obtain ⟨d',jx,rfl⟩:=Nq hd
   exact .dv (hr j d' jx)) hp
  refine ⟨v,?_,h2⟩
  simp only [execOp,ho,hx,Sem.run_bind,h1,Result.andThen_ok,Sem.run_pure]
theorem bG {gd:Bool}:∀{p:List PS} {d:DV} {k:DV→Prop},iD gd d p k→∃nd,k nd∧(gd=true→get d p=some nd)
 | [],d,k,h=>⟨d,h,fun _=>rfl⟩
 | s::p,d,k,h=>by
  cases d <;> cases s <;> simp only [iD] at h <;> (try exact h.elim)
  ·obtain ⟨x,hx,h⟩:=h
   split at h
   ·rename_i c hc
    obtain ⟨nd,h1,h2⟩:=bG h
    exact ⟨nd,h1,fun hg=>by simp only [get,step,hx hg,hc]; exact h2 hg⟩
   ·exact h.elim
  ·rename_i x i j
   cases hb:Nat.beq i 0 with
   | false=>rw [hb] at h; exact h.elim
   | true =>
    rw [hb] at h
    simp only [cond_true] at h
    split at h
    ·rename_i c hc
     obtain ⟨nd,h1,h2⟩:=bG h
     exact ⟨nd,h1,fun hg=>by simp only [get,step,hb,cond_true,hc]; exact h2 hg⟩
    ·exact h.elim
  ·obtain ⟨x,hx,h⟩:=h
   split at h
   ·rename_i c hc
    obtain ⟨nd,h1,h2⟩:=bG h
    exact ⟨nd,h1,fun hg=>by simp only [get,step,hx hg,hc]; exact h2 hg⟩
   ·exact h.elim
theorem eC:∀{p:List PS} {d nd:DV} {k:DV→Prop},sN d p nd k→k (bP d p nd)∧∃c,get d p=some c
 | [],d,nd,k,h=>⟨h,d,rfl⟩
 | s::p,d,nd,k,h=>by
  cases d <;> cases s <;> simp only [sN] at h <;> (try exact h.elim)
  ·rename_i sz l i j
   obtain ⟨x,hx,h⟩:=h
   split at h
   ·rename_i c hc
    obtain ⟨h1,c',h2⟩:=eC h
    exact ⟨by simp only [bP,step,hx,hc,put]; exact h1,c',by simp only [get,step,hx,hc]; exact h2⟩
   ·exact h.elim
  ·rename_i x i j
   cases hb:Nat.beq i 0 with
   | false=>rw [hb] at h; exact h.elim
   | true =>
    rw [hb] at h
    simp only [cond_true] at h
    split at h
    ·rename_i c hc
     obtain ⟨h1,c',h2⟩:=eC h
     exact ⟨by simp only [bP,step,hb,cond_true,hc,put]; exact h1,c',by simp only [get,step,hb,cond_true,hc]; exact h2⟩
    ·exact h.elim
  ·rename_i s m kk j
   obtain ⟨x,hx,h⟩:=h
   split at h
   ·rename_i c hc
    obtain ⟨h1,c',h2⟩:=eC h
    exact ⟨by simp only [bP,step,hx,hc,put]; exact h1,c',by simp only [get,step,hx,hc]; exact h2⟩
   ·exact h.elim
theorem dt {ver bg ep bN:Nat} {p:List PS} (h:(Nat.beq ver bg && (emp p || Nat.beq ep bN))=true):ver=bg∧(p=[] ∨ ep=bN):=by
 simp only [Bool.and_eq_true,Bool.or_eq_true] at h
 refine ⟨Nat.eq_of_beq_eq_true h.1,?_⟩
 rcases h.2 with h | h
 ·left; cases p with
  | nil=>rfl
  | cons=>simp [emp] at h
 ·right; exact Nat.eq_of_beq_eq_true h
theorem cU {H:Nat→Nat→Nat→List PS→Option Value} {i ver ep bN:Nat} {p:List PS} (h:p=[] ∨ ep=bN):aB H i ver ep p=aB H i ver bN p:=by
 rcases h with rfl | rfl <;> rfl
theorem Fit.node {κ:Nat→ar} {w:World} {G:Gh} (ak:Fit G w κ) {i ver ep:Nat} {d nd:DV} {p:List PS} (hk:κ i=.tree ver ep d) (hp:get d p=some nd) (ho:nd.ah=true) :
  ∃v,aB G.H i ver ep p=some v∧v.oneCell'=true∧ca G.M w v (fun s=>aB G.H i ver ep (p++[s])) nd:=by
 have hb:=ak.box i
 rw [hk] at hb
 exact hb.1.2 p nd hp ho
theorem xR {G:Gh} {i ver ep:Nat} {p:List PS} {s:PS} {d:DV} {u:Value} (hc:d.aq=true) (h:db G.M (aB G.H i ver ep (p++[s])) d u) (hu:d.ah=true→u.oneCell'=true):aH G (tW i ver ep p s d) u:=by
 rcases h with ⟨h1,h2⟩ | ⟨h1,h2⟩
 ·simp only [tW,h1,cond_true]; exact .own _ _ _ _ _ h2 (hu h1)
 ·simp only [tW,h1,cond_false]; exact .dv h2
theorem xS {i ver ep:Nat} {p:List PS} {idx:Nat}:∀{l:List DV} {s j:Nat} {v:AV},(jW i ver ep p idx s l)[j]?=some v→∃d,l[j]?=some d∧v=tW i ver ep p (.el idx (s+j)) d
 | [],s,j,v,h=>by simp [jW] at h
 | d::l,s,0,v,h=>by simp [jW] at h; exact ⟨d,rfl,h.symm⟩
 | d::l,s,j+1,v,h=>by
  simp only [jW,List.getElem?_cons_succ] at h
  obtain ⟨d',h1,h2⟩:=xS h
  exact ⟨d',by simpa using h1,by rw [h2]; congr 2; omega⟩
theorem mD {i ver ep:Nat} {p:List PS} {idx:Nat}:∀{l:List DV} {s:Nat},(jW i ver ep p idx s l).length=l.length
 | [],s=>rfl
 | d::l,s=>by simp [jW,mD]
theorem xT {i ver ep:Nat} {p:List PS} {kk:DV}:∀{l:List DV} {s j:Nat} {v:AV},(jX i ver ep p kk s l)[j]?=some v→∃d,l[j]?=some d∧v=tW i ver ep p (.key kk (s+j)) d
 | [],s,j,v,h=>by simp [jX] at h
 | d::l,s,0,v,h=>by simp [jX] at h; exact ⟨d,rfl,h.symm⟩
 | d::l,s,j+1,v,h=>by
  simp only [jX,List.getElem?_cons_succ] at h
  obtain ⟨d',h1,h2⟩:=xT h
  exact ⟨d',by simpa using h1,by rw [h2]; congr 2; omega⟩
theorem mE {i ver ep:Nat} {p:List PS} {kk:DV}:∀{l:List DV} {s:Nat},(jX i ver ep p kk s l).length=l.length
 | [],s=>rfl
 | d::l,s=>by simp [jX,mE]
theorem Fit.cells {κ:Nat→ar} {w:World} {G:Gh} (ak:Fit G w κ) {i ver ep:Nat} {d nd:DV} {p:List PS} (hk:κ i=.tree ver ep d) (hp:get d p=some nd) {sz idx:Nat} {K:List AV→Prop} {A:Addr}
  (hA:aB G.H i ver ep p=some (.pointer (some A)) ∨ ∃m c,aB G.H i ver ep p=some (.slice (some A) m c)) {l:List AV} (hl:(∃l0 x,nd=.aw sz l0∧l0[idx]?=some x∧l=jW i ver ep p idx 0 x.cells) ∨ (∃x,nd=.cB x∧idx=0∧l=jW i ver ep p 0 0 x.cells)) :
  ∃vs:Nat→Value,(∀j,j<l.length→w.cell? ((A.add (idx * sz)).add j)=some (vs j))∧∀(j:Nat) (d:AV),l[j]?=some d→aH G d (vs j):=by
 have fo:∀s c u,step nd s=some c→c.ah=true→aB G.H i ver ep (p++[s])=some u→u.oneCell'=true:=by
  intro s c u hs hc hu
  obtain ⟨v,h1,h2,_⟩:=ak.node hk (p:=p++[s]) (nd:=c) (by rw [get_append,hp]; simp [get,hs]) hc
  rw [h1] at hu; injection hu with hu; subst hu; exact h2
 rcases hl with ⟨l0,x,rfl,hx,rfl⟩ | ⟨x,rfl,rfl,rfl⟩
 ·obtain ⟨v,h1,h2,bf⟩:=ak.node hk hp rfl
  rcases bf with ⟨rfl,_⟩ | ⟨gb,ob,cap,c,t,rfl,eA,hw,aU,o7⟩
  ·simp at hx
  ·have Ye:A=⟨gb,ob,none⟩:=by
    rcases hA with hA | ⟨m,cc,hA⟩
    ·rw [h1] at hA; cases hA
    ·rw [h1] at hA; injection hA with hA; injection hA with hA; injection hA with hA; exact hA.symm
   subst Ye
   obtain ⟨a1,a2⟩:=o7 idx x hx
   refine ⟨fun j=>c.getD (ob+idx * sz+j) undef,fun j hj=>?_,fun j dd hd=>?_⟩
   ·rw [mD] at hj
    obtain ⟨_,u,b1,_⟩:=a2 j _ (List.getElem?_eq_getElem hj)
    rw [cF,cO]
    simp only [World.cell?,hw]
    rw [show ob+(idx * sz+j)=ob+idx * sz+j by omega,Array.getD_eq_getD_getElem?,b1]
    rfl
   ·obtain ⟨d0,e1,rfl⟩:=xS hd
    obtain ⟨b0,u,b1,b2⟩:=a2 j d0 e1
    show aH G _ (c.getD (ob+idx * sz+j) undef)
    rw [Array.getD_eq_getD_getElem?,b1,Nat.zero_add]
    refine xR b0 b2 fun ho=>?_
    rcases b2 with ⟨_,b2⟩ | ⟨b2,_⟩
    ·exact fo (.el idx j) d0 u (by simp only [step,hx]; exact e1) ho b2
    ·rw [ho] at b2; cases b2
 ·obtain ⟨v,h1,h2,bf⟩:=ak.node hk hp rfl
  obtain ⟨gb,c,t,rfl,hw,aU,o7⟩:=bf
  have Ye:A=⟨gb,0,none⟩:=by
   rcases hA with hA | ⟨m,cc,hA⟩
   ·rw [h1] at hA; injection hA with hA; injection hA with hA; injection hA with hA; exact hA.symm
   ·rw [h1] at hA; cases hA
  subst Ye
  refine ⟨fun j=>c.getD j undef,fun j hj=>?_,fun j dd hd=>?_⟩
  ·rw [mD] at hj
   obtain ⟨_,u,b1,_⟩:=o7 j _ (List.getElem?_eq_getElem hj)
   rw [cF,cO]
   simp only [World.cell?,hw]
   rw [show 0+(0 * sz+j)=j by omega,Array.getD_eq_getD_getElem?,b1]
   rfl
  ·obtain ⟨d0,e1,rfl⟩:=xS hd
   obtain ⟨b0,u,b1,b2⟩:=o7 j d0 e1
   show aH G _ (c.getD j undef)
   rw [Array.getD_eq_getD_getElem?,b1,Nat.zero_add]
   refine xR b0 b2 fun ho=>?_
   rcases b2 with ⟨_,b2⟩ | ⟨b2,_⟩
   ·exact fo (.el 0 j) d0 u (by simp [step]; exact e1) ho b2
   ·rw [ho] at b2; cases b2
theorem Cw (hT:er P T) {t i ver ep bN sz idx off:Nat} {p:List PS} {x:Operand} {d:DV} (hg:bR ρ ops o.guard=some gd) (ho:o.op=.load t x) (bK:(nth T t).ok=true)
  (hb:κ i=.tree ver bN d) (dx:p=[] ∨ ep=bN)
  (hk:iD gd d p fun nd=>jA i ver bN p gd sz idx nd fun l=>cd (nth T t).agg l off (nth T t).size fun v=>aW n o gd nx k v [i]) (bB:bu ρ κ gd x (.loc i ver ep p sz idx off)):Good P C ops n o nx ρ κ k:=by
 obtain ⟨nd,hk,c9⟩:=bG hk
 have pn:∃l,(cd (nth T t).agg l off (nth T t).size fun v=>aW n o gd nx k v [i])∧(gd=true→(∃l0 x,nd=.aw sz l0∧l0[idx]?=some x∧l=jW i ver bN p idx 0 x.cells) ∨ (∃x,nd=.cB x∧idx=0∧l=jW i ver bN p 0 0 x.cells)):=by
  unfold jA at hk
  split at hk
  ·rename_i pO l0
   cases hs:Nat.beq sz pO with
   | false=>rw [hs] at hk; exact hk.elim
   | true =>
    rw [hs] at hk
    have:=Nat.eq_of_beq_eq_true hs
    subst this
    obtain ⟨x,hx,hk⟩:=hk
    exact ⟨_,hk,fun aR=>.inl ⟨l0,x,rfl,hx aR,rfl⟩⟩
  ·rename_i x
   cases hs:Nat.beq idx 0 with
   | false=>rw [hs] at hk; exact hk.elim
   | true =>
    rw [hs] at hk
    exact ⟨_,hk,fun _=>.inr ⟨x,rfl,Nat.eq_of_beq_eq_true hs,rfl⟩⟩
  ·exact hk.elim
 obtain ⟨l,hk,hl⟩:=pn
 obtain ⟨av,hk,hp⟩:=dJ hk
 refine bm (fun c=>by rw [ho]; simp) hg hk fun ρ' κ' ax g a w G ak aR=>?_
 have hv:=bB ρ' κ' (ax.op (by rw [ho]; simp [Op.operands])) g n a w G ak aR
 have dV:κ' i=.tree ver bN d:=(ax.reads i (by simp)).trans hb
 have key:∀A,a.eval x=.pointer (some (A.add (idx * sz+off)))→(aB G.H i ver ep p=some (.pointer (some A)) ∨ ∃m c,aB G.H i ver ep p=some (.slice (some A) m c))→∃v,(execOp a.eval o).run P w=.ok (.value v) w∧aH G av v:=by
  intro A hx hA
  rw [cU dx] at hA
  obtain ⟨vs,h1,h2⟩:=ak.fit.cells (K:=fun _=>True) dV (c9 aR) hA (hl aR)
  obtain ⟨v,h3,h4⟩:=jS (P:=P) (av:=av) (w:=w) (G:=G) (l:=l) (off:=off) hT bK (A.add (idx * sz)) vs h1 h2 hp
  rw [cF] at h3
  exact ⟨v,by simp only [execOp,ho,hx,Sem.run_bind,h3,Result.andThen_ok,Sem.run_pure],h4⟩
 generalize hx:a.eval x=v at hv
 cases hv with
 | loc _ _ _ _ _ _ _ A m c h=>exact key A hx (.inr ⟨m,c,h⟩)
 | mU _ _ _ _ _ _ _ A h=>exact key A hx (.inl h)
end
end Go.TM
namespace Go.TM
open Go.RowKit
variable [cu]
theorem add_zero' (a:Addr):a.add 0=a:=by simp [Addr.add]
section
variable {P:Program} {C:dD→Prop} {T:List TI} {ops:List Oper} {n:Nat} {o:Oper} {nx:Nat} {ρ:Nat→AV} {κ:Nat→ar} {k:jH→Nat→Prop} {gd:Bool}
theorem Ct (hT:er P T) {t:Nat} {x i:Operand} {sz:Nat} {l:List DV} {y:DV} {kd:IntKind} {m:Int} (hg:bR ρ ops o.guard=some gd) (ho:o.op=.indexAddr t x i)
  (bK:(nth T t).ok=true) (gX:(nth T t).isSl=true) (fJ:(nth T (nth T t).elem).ok=true) (aU:sz=(nth T (nth T t).elem).size)
  (hy:gd=true→0≤m∧l[m.toNat]?=some y) (hk:aW n o gd nx k (.dv (.at y 0)) []) (bB:bu ρ κ gd x (.dv (.sl sz l))) (nt:bu ρ κ gd i (.dv (.int kd m))):Good P C ops n o nx ρ κ k:=by
 obtain ⟨ti,u,z,tf⟩:=hT.facts bK
 obtain ⟨te,ue,ze,iT⟩:=hT.facts fJ
 refine bm (fun c=>by rw [ho]; simp) hg hk fun ρ' κ' ax g a w G ak aR=>?_
 have hv:=bB ρ' κ' (ax.op (by rw [ho]; simp [Op.operands])) g n a w G ak aR
 have fe:=nt ρ' κ' (ax.op (by rw [ho]; simp [Op.operands])) g n a w G ak aR
 generalize hx:a.eval x=v at hv
 generalize hi:a.eval i=vi at fe
 obtain ⟨I2,S0⟩:=hy aR
 have aK:m.toNat<l.length:=(List.getElem?_eq_some_iff.1 S0).1
 cases fe with | dv fe=>cases fe with | int =>
 cases hv with | dv hv=>cases hv with
 | slnil=>simp at aK
 | sl _ _ A cap cell eA hlen hc hr =>
  have eQ:0≤m∧m<(l.length:Int):=⟨I2,by omega⟩
  refine ⟨.pointer (some (A.add (m.toNat * sz))),?_,?_⟩
  ·have oz:=iT.eZ w
   rw [←aU] at oz
   simp [execOp,ho,hx,hi,Instr.indexAt,run_underlying (tf.slice gX),asIntOf,eQ,oz]
  ·have:=bo.at (M:=G.M) y 0 (A.add (m.toNat * sz)) (fun j=>cell m.toNat j) (hlen y (List.mem_of_getElem? S0)).2
    (fun j hj=>by rw [cF]; exact hc _ _ aK (by rw [(hlen y (List.mem_of_getElem? S0)).1] at hj; exact hj))
    (fun j d hd=>hr _ y j d S0 hd)
   rw [add_zero'] at this
   exact .dv this
theorem lQ (hT:er P T) {t:Nat} {x i:Operand} {av Vu:AV} {kd:IntKind} {m:Int} (hg:bR ρ ops o.guard=some gd) (ho:o.op=.indexAddr t x i)
  (bK:(nth T t).ok=true) (Cu:(nth T t).kind=10) (fJ:(nth T (nth T t).elem).ok=true) (hm:gd=true→0≤m∧m<(nth T t).len)
  (hk:aW n o gd nx k Vu []) (bB:bu ρ κ gd x av) (nt:bu ρ κ gd i (.dv (.int kd m)))
  (hp:∀(G:Gh) (v:Value),aH G av v→∃a,v=.pointer (some a)∧aH G Vu (.pointer (some (a.add (m.toNat * (nth T (nth T t).elem).size))))):Good P C ops n o nx ρ κ k:=by
 obtain ⟨ti,u,z,tf⟩:=hT.facts bK
 obtain ⟨te,ue,ze,iT⟩:=hT.facts fJ
 refine bm (fun c=>by rw [ho]; simp) hg hk fun ρ' κ' ax g a w G ak aR=>?_
 have hv:=bB ρ' κ' (ax.op (by rw [ho]; simp [Op.operands])) g n a w G ak aR
 have fe:=nt ρ' κ' (ax.op (by rw [ho]; simp [Op.operands])) g n a w G ak aR
 generalize hi:a.eval i=vi at fe
 cases fe with | dv fe=>cases fe with | int =>
 obtain ⟨p,hp,PU⟩:=hp _ _ hv
 refine ⟨_,?_,PU⟩
 have hu:P.underlying t=some (.array (nth T t).len (nth T t).elem):=by
  have h1:=tf.kind
  rw [Cu] at h1
  have h2:=tf.len
  have h3:=tf.elem
  rw [tf.yQ]
  cases u <;> simp [kindOf] at h1
  simp [lenOf] at h2
  simp [Md] at h3
  rw [h2,h3]
 have eQ:=hm aR
 simp [execOp,ho,hp,hi,Instr.indexAt,run_underlying hu,asIntOf,Instr.sureAddr,eQ,iT.eZ w]
theorem An (hT:er P T) {t:Nat} {x i:Operand} {id ver ep bN sz:Nat} {p:List PS} {d:DV} {l:List DV} {kd:IntKind} {m:Int} (hg:bR ρ ops o.guard=some gd) (ho:o.op=.indexAddr t x i)
  (bK:(nth T t).ok=true) (gX:(nth T t).isSl=true) (fJ:(nth T (nth T t).elem).ok=true) (aU:sz=(nth T (nth T t).elem).size) (hb:κ id=.tree ver bN d) (dx:p=[] ∨ ep=bN) (c9:gd=true→get d p=some (.aw sz l))
  (hy:gd=true→0≤m∧m<l.length) (hk:aW n o gd nx k (.loc id ver ep p sz m.toNat 0) [id]) (bB:bu ρ κ gd x (.own id ver ep p)) (nt:bu ρ κ gd i (.dv (.int kd m))):Good P C ops n o nx ρ κ k:=by
 obtain ⟨ti,u,z,tf⟩:=hT.facts bK
 obtain ⟨te,ue,ze,iT⟩:=hT.facts fJ
 refine bm (fun c=>by rw [ho]; simp) hg hk fun ρ' κ' ax g a w G ak aR=>?_
 have hv:=bB ρ' κ' (ax.op (by rw [ho]; simp [Op.operands])) g n a w G ak aR
 have fe:=nt ρ' κ' (ax.op (by rw [ho]; simp [Op.operands])) g n a w G ak aR
 generalize hx:a.eval x=v at hv
 generalize hi:a.eval i=vi at fe
 obtain ⟨I2,S0⟩:=hy aR
 have dV:κ' id=.tree ver bN d:=(ax.reads id (by simp)).trans hb
 obtain ⟨u,h1,_,bf⟩:=ak.fit.node dV (c9 aR) rfl
 cases fe with | dv fe=>cases fe with | int =>
 cases hv with
 | own _ _ _ _ _ hh hc =>
  have yd:=hh
  rw [cU dx,h1] at hh
  injection hh with hh
  subst hh
  rcases bf with ⟨rfl,_⟩ | ⟨gb,ob,cap,cc,tt,rfl,eA,hw,Wy,EE⟩
  ·simp at S0; omega
  ·have eQ:0≤m∧m<(l.length:Int):=⟨I2,S0⟩
   refine ⟨.pointer (some ((⟨gb,ob,none⟩:Addr).add (m.toNat * sz))),?_,?_⟩
   ·have oz:=iT.eZ w
    rw [←aU] at oz
    simp [execOp,ho,hx,hi,Instr.indexAt,run_underlying (tf.slice gX),asIntOf,eQ,oz]
   ·have:=aH.loc (G:=G) id ver ep p sz m.toNat 0 _ _ _ yd
    rwa [Nat.add_zero] at this
theorem Ao (hT:er P T) {t:Nat} {x i:Operand} {id len:Nat} {kd:IntKind} {m:Int} (hg:bR ρ ops o.guard=some gd) (ho:o.op=.indexAddr t x i)
  (bK:(nth T t).ok=true) (gX:(nth T t).isSl=true) (fJ:(nth T (nth T t).elem).ok=true)
  (hy:gd=true→0≤m∧m<len) (hk:aW n o gd nx k (.ptr id (m.toNat * (nth T (nth T t).elem).size)) []) (bB:bu ρ κ gd x (.sle id len)) (nt:bu ρ κ gd i (.dv (.int kd m))):Good P C ops n o nx ρ κ k:=by
 obtain ⟨ti,u,z,tf⟩:=hT.facts bK
 obtain ⟨te,ue,ze,iT⟩:=hT.facts fJ
 refine bm (fun c=>by rw [ho]; simp) hg hk fun ρ' κ' ax g a w G ak aR=>?_
 have hv:=bB ρ' κ' (ax.op (by rw [ho]; simp [Op.operands])) g n a w G ak aR
 have fe:=nt ρ' κ' (ax.op (by rw [ho]; simp [Op.operands])) g n a w G ak aR
 generalize hx:a.eval x=v at hv
 generalize hi:a.eval i=vi at fe
 have eQ:=hy aR
 cases fe with | dv fe=>cases fe with | int =>
 cases hv with
 | sle _ _ b hb =>
  refine ⟨.pointer (some ((⟨b,0,none⟩:Addr).add (m.toNat * (nth T (nth T t).elem).size))),?_,?_⟩
  ·have oz:=iT.eZ w
   simp [execOp,ho,hx,hi,Instr.indexAt,run_underlying (tf.slice gX),asIntOf,eQ,oz]
  ·rw [cO,Nat.zero_add]; exact .ptr _ _ b hb
theorem Ap (hT:er P T) {t:Nat} {x i:Operand} {id ver ep sz lo len:Nat} {p:List PS} {kd:IntKind} {m:Int} (hg:bR ρ ops o.guard=some gd) (ho:o.op=.indexAddr t x i)
  (bK:(nth T t).ok=true) (gX:(nth T t).isSl=true) (fJ:(nth T (nth T t).elem).ok=true) (aU:sz=(nth T (nth T t).elem).size)
  (hy:gd=true→0≤m∧m<len) (hk:aW n o gd nx k (.loc id ver ep p sz (lo+m.toNat) 0) []) (bB:bu ρ κ gd x (.pre id ver ep p sz lo len)) (nt:bu ρ κ gd i (.dv (.int kd m))):Good P C ops n o nx ρ κ k:=by
 obtain ⟨ti,u,z,tf⟩:=hT.facts bK
 obtain ⟨te,ue,ze,iT⟩:=hT.facts fJ
 refine bm (fun c=>by rw [ho]; simp) hg hk fun ρ' κ' ax g a w G ak aR=>?_
 have hv:=bB ρ' κ' (ax.op (by rw [ho]; simp [Op.operands])) g n a w G ak aR
 have fe:=nt ρ' κ' (ax.op (by rw [ho]; simp [Op.operands])) g n a w G ak aR
 generalize hx:a.eval x=v at hv
 generalize hi:a.eval i=vi at fe
 have eQ:=hy aR
 cases fe with | dv fe=>cases fe with | int =>
 cases hv with
 | pre _ _ _ _ _ _ _ q c hh =>
  obtain ⟨A,N,c',hq,rfl⟩:=hh (by omega)
  refine ⟨.pointer (some ((A.add (lo * sz)).add (m.toNat * sz))),?_,?_⟩
  ·have oz:=iT.eZ w
   rw [←aU] at oz
   simp [execOp,ho,hx,hi,Instr.indexAt,run_underlying (tf.slice gX),asIntOf,eQ,oz]
  ·rw [cF,←Nat.add_mul]
   have:=aH.loc (G:=G) id ver ep p sz (lo+m.toNat) 0 _ _ _ hq
   rwa [Nat.add_zero] at this
theorem pN (hT:er P T) {t:Nat} {x:Operand} {c:Call} {av:AV} {m:Int} {rd:List Nat} (hg:bR ρ ops o.guard=some gd) (ho:o.op=.call c) (hc:c.callee=.builtin .len) (ha:c.args.toList=[x]) (jz:c.argTypes.toList=[t])
  (hk:aW n o gd nx k (.dv (.int .i64 m)) rd) (bB:bu ρ κ gd x av) (bK:(nth T t).ok=true)
  (hp:gd=true→∀κ',(∀i,i∈rd→κ' i=κ i)→∀(G:Gh) (w:World) (v:Value),Fit G w κ'→aH G av v →
   ((nth T t).isSl=true∧∃p l c,v=.slice p l c∧(l:Int)=m) ∨ ((nth T t).isStr=true∧∃s,v=.string s∧(s.size:Int)=m) ∨
   (Nat.beq (nth T t).kind 6=true∧∃b es clock,v=.map (some b)∧w.heap[b]?=some (.map es clock)∧(es.size:Int)=m)):Good P C ops n o nx ρ κ k:=by
 have bM:c.args=#[x]:=Array.ext' (by simpa using ha)
 have GW:c.argTypes=#[t]:=Array.ext' (by simpa using jz)
 refine bm (fun c=>by rw [ho]; simp) hg hk fun ρ' κ' ax g a w G ak aR=>?_
 have hv:=bB ρ' κ' (ax.op (by rw [ho]; simp [Op.operands,Call.operands,hc,bM])) g n a w G ak aR
 refine ⟨.int .i64 m,?_,.dv (.int _ _)⟩
 obtain ⟨ti,u,z,tf⟩:=hT.facts bK
 rcases hp aR κ' ax.reads G w _ ak.fit hv with ⟨gX,p,l,cc,H5,hm⟩ | ⟨gX,s,H5,hm⟩ | ⟨hmk,b,es,clock,H5,hw,hm⟩
 ·simp [execOp,ho,resolve,hc,bM,GW,invoke,builtin,Builtin.len_,run_underlying (tf.slice gX),H5,goInt,hm]
 ·simp [execOp,ho,resolve,hc,bM,GW,invoke,builtin,Builtin.len_,run_underlying (tf.string gX),H5,goInt,hm]
 ·have hu:∃kt et,P.underlying t=some (.map kt et):=by
   have h1:=tf.kind
   rw [Nat.eq_of_beq_eq_true hmk] at h1
   cases u <;> simp [kindOf] at h1
   exact ⟨_,_,tf.yQ⟩
  obtain ⟨kt,et,hu⟩:=hu
  simp [execOp,ho,resolve,hc,bM,GW,invoke,builtin,Builtin.len_,run_underlying hu,H5,goInt,hm,MapKept.run_getObj_map hw]
theorem fK {w:World} {t e:TypeId} (hu:P.underlying t=some (.slice e)) (a:Option Addr) (l c:Nat):(Op.equal t (.slice a l c) (.slice none 0 0)).run P w=.ok a.isNone w:=by
 have h:∀d,(Op.equalIn (d+1) t (.slice a l c) (.slice none 0 0)).run P w=.ok a.isNone w:=fun d=>by
  cases a <;> simp [Op.equalIn,run_underlying hu]
 simp only [Op.equal,Op.maxDepth,h 9999]
theorem S4 {b:Bool} {p:Prop} (h:bif b then p else False):b=true∧p:=by
 cases b with
 | false=>exact h.elim
 | true=>exact ⟨rfl,h⟩
theorem BZ {κ:Nat→ar} {gd:Bool} {a:AV} {k:Option Bool→List Nat→Prop} (h:xE κ gd a k):∃c rd,k c rd∧(gd=true→∀κ',(∀i,i∈rd→κ' i=κ i)→∀(G:Gh) (w:World) (v:Value),Fit G w κ'→aH G a v→∃p l cc,v=.slice p l cc∧∀b,c=some b→p.isNone=b):=by
 unfold xE at h
 split at h
 ·refine ⟨_,_,h,fun _ κ' _ G w v _ hv=>?_⟩
  cases hv with | dv hv=>cases hv with | aG=>exact ⟨_,_,_,rfl,fun b hb=>by injection hb⟩
 ·rcases h with h | ⟨hl,h⟩
  ·refine ⟨_,_,h,fun _ κ' _ G w v _ hv=>?_⟩
   cases hv with | dv hv=>cases hv with
   | slnil=>exact ⟨_,_,_,rfl,fun b hb=>by cases hb⟩
   | sl=>exact ⟨_,_,_,rfl,fun b hb=>by cases hb⟩
  ·refine ⟨_,_,h,fun _ κ' _ G w v _ hv=>?_⟩
   cases hv with | dv hv=>cases hv with
   | slnil=>exact absurd rfl hl
   | sl=>exact ⟨_,_,_,rfl,fun b hb=>by injection hb⟩
 ·rename_i i ver ep p
  split at h
  ·rename_i bg bN d hk
   have hh:=S4 h; clear h; obtain ⟨hb,h⟩:=hh
   obtain ⟨rfl,dx⟩:=dt hb
   obtain ⟨nd,h,c9⟩:=bG h
   split at h
   ·rename_i sz l
    have key:gd=true→∀κ',(∀j,j∈[i]→κ' j=κ j)→∀(G:Gh) (w:World) (v:Value),Fit G w κ'→aH G (.own i ver ep p) v→∃q m cc,v=.slice q m cc∧(l ≠ []→q.isNone=false):=by
     intro aR κ' ax G w v hf hv
     have eG:=(ax i (by simp)).trans hk
     obtain ⟨u,e1,e2,e3⟩:=hf.node eG (c9 aR) rfl
     cases hv with | own _ _ _ _ _ hh hc =>
     rw [cU dx] at hh
     rw [hh] at e1; injection e1 with e1; subst e1
     rcases e3 with ⟨lM,hx⟩ | ⟨gb,o,cap,c,tt,hx,_⟩
     ·exact ⟨_,_,_,hx,fun hl=>absurd lM hl⟩
     ·exact ⟨_,_,_,hx,fun _=>rfl⟩
    rcases h with h | ⟨hl,h⟩
    ·refine ⟨_,_,h,fun aR κ' ax G w v hf hv=>?_⟩
     obtain ⟨q,m,cc,e,_⟩:=key aR κ' ax G w v hf hv
     exact ⟨q,m,cc,e,fun b hb=>by cases hb⟩
    ·refine ⟨_,_,h,fun aR κ' ax G w v hf hv=>?_⟩
     obtain ⟨q,m,cc,e,e2⟩:=key aR κ' ax G w v hf hv
     exact ⟨q,m,cc,e,fun b hb=>by injection hb with hb; rw [e2 hl,hb]⟩
   ·exact h.elim
  ·exact h.elim
 ·refine ⟨_,_,h,fun _ κ' _ G w v _ hv=>?_⟩
  cases hv with | bX _ _ a m hh=>exact ⟨_,_,_,rfl,fun b hb=>by injection hb⟩
 ·exact h.elim
theorem Rs {α:Type} {b:Bool} {x:Option α} {y:α} (h:(bif b then x else none)=some y):b=true∧x=some y:=by cases b <;> simp_all
theorem Eo {G:Gh} {w:World} {x y:AV} {u v:Value} {e:Bool} {f:TypeId} {k D:Nat} (hp:qj (P.underlying f)=k) (h:BQ k x y=some e) (hx:aH G x u) (hy:aH G y v) :
  (Op.equalIn (D+1) f u v).run P w=.ok e w:=by
 unfold BQ at h
 split at h
 ·rename_i kk a k' b
  cases hk:kk == k' with
  | false=>rw [hk] at h; cases h
  | true =>
   rw [hk] at h
   have FI:kk=k':=by simpa using hk
   subst FI
   injection h with h; subst h
   cases hx with | dv hx=>cases hx with | int=>cases hy with | dv hy=>cases hy with | int =>
   obtain ⟨q,hq⟩:∃q,P.underlying f=some (.int q):=by
    unfold qj at hp
    split at hp <;> first | (cases hp; done) | exact ⟨_,by assumption⟩
   exact run_equalIn_int w D f kk q a b hq
 ·rename_i a b
  injection h with h; subst h
  cases hx with | dv hx=>cases hx with | bool=>cases hy with | dv hy=>cases hy with | bool =>
  have hq:P.underlying f=some .bool:=by
   unfold qj at hp
   split at hp <;> first | (cases hp; done) | assumption
  exact run_equalIn_bool w D f a b hq
 ·rename_i a b
  injection h with h; subst h
  cases hx with | dv hx=>cases hx with | str=>cases hy with | dv hy=>cases hy with | str =>
  have hq:P.underlying f=some .string:=by
   unfold qj at hp
   split at hp <;> first | (cases hp; done) | assumption
  exact run_equalIn_string w D f a b hq
 ·cases h
theorem rY {w:World} {e:TypeId} {k:Nat} (he:qj (P.underlying e)=k+1) {xs:Array Value} {off:Nat} {v:Value} (hx:xs[off]?=some v):(part e xs off).run P w=.ok v w:=by
 unfold qj at he
 split at he
 ·rename_i k hu; simp [part,isAgg,run_underlying hu,hx]
 ·rename_i hu; simp [part,isAgg,run_underlying hu,hx]
 ·rename_i hu; simp [part,isAgg,run_underlying hu,hx]
 ·cases he
theorem rZ {G:Gh} {w:World} {xs ys:Array Value} {D:Nat}:∀(fs:List Field) (i:Nat) (q:List Nat) (l r:List AV) (e:Bool),wV P i fs=some q→iq q l r=some e →
  (∀(j:Nat) (d:AV),l[j]?=some d→∃u,xs[i+j]?=some u∧aH G d u)→(∀(j:Nat) (d:AV),r[j]?=some d→∃u,ys[i+j]?=some u∧aH G d u) →
  (Op.eqFields (D+1) xs ys fs).run P w=.ok e w
 | [],i,q,l,r,e,hp,he,hx,hy=>by
  simp only [wV,Option.some.injEq] at hp
  subst hp
  cases l <;> cases r <;> simp [iq] at he
  subst he; simp [Op.eqFields]
 | f::fs,i,q,l,r,e,hp,he,hx,hy=>by
  simp only [wV] at hp
  have hh:=Rs hp; clear hp; obtain ⟨hb,hp⟩:=hh
  simp only [Bool.and_eq_true,bne_iff_ne] at hb
  obtain ⟨n1,o1⟩:=hb
  have o1:=Nat.eq_of_beq_eq_true o1
  split at hp
  ·rename_i k q' hk ER
   injection hp with hp; subst hp
   cases l with
   | nil=>cases r <;> simp [iq] at he
   | cons x l=>cases r with
    | nil=>simp [iq] at he
    | cons y r =>
     simp only [iq] at he
     split at he
     ·rename_i a b ha hb
      injection he with he; subst he
      obtain ⟨u,hu,Yf⟩:=hx 0 x rfl
      obtain ⟨v,hv,Tt⟩:=hy 0 y rfl
      have h1:=Eo (w:=w) (D:=D) hk ha Yf Tt
      simp only [Op.eqFields,n1,ne_eq,not_false_eq_true,if_true,Sem.run_bind,o1]
      rw [rY hk (by simpa using hu)]
      simp only [Result.andThen_ok]
      rw [rY hk (by simpa using hv)]
      simp only [Result.andThen_ok,h1]
      cases a with
      | false=>simp
      | true =>
       simp only [Bool.not_true,Bool.false_eq_true,if_false,Bool.true_and]
       exact rZ fs (i+1) q' l r b ER hb (fun j d hd=>by have:=hx (j+1) d (by simpa using hd); rwa [show i+(j+1)=i+1+j by omega] at this)
        (fun j d hd=>by have:=hy (j+1) d (by simpa using hd); rwa [show i+(j+1)=i+1+j by omega] at this)
     ·cases he
  ·cases hp
theorem Q9 (hT:er P T) {op:BinOp} {t ty:TypeId} {x y:Operand} (hg:bR ρ ops o.guard=some gd) (ho:o.op=.binOp op t x y ty) {va vb:AV} (Q7:bu ρ κ gd x va) (Q8:bu ρ κ gd y vb)
  (h:R4 (nth T t) op va vb fun v=>aW n o gd nx k v []):Good P C ops n o nx ρ κ k:=by
 have hh:=S4 h; clear h; obtain ⟨hb,h⟩:=hh
 simp only [Bool.and_eq_true] at hb
 obtain ⟨i,u,z,tf⟩:=hT.facts hb.1
 split at h
 ·rename_i x1 l r
  split at h
  ·rename_i e he
   have hk:=tf.kind
   rw [Nat.eq_of_beq_eq_true hb.2] at hk
   obtain ⟨fs,rfl⟩:∃fs,u=.struct fs:=by
    cases u <;> simp [kindOf] at hk
    exact ⟨_,rfl⟩
   have heq:=tf.RU
   simp only [Me] at heq
   split at heq
   ·rename_i q hq
    cases hc:Nat.beq fs.toList.length i.size && !P.stoodInHeld t && !P.eqGuardType P.depth t with
    | false=>rw [hc] at heq; simp only [cond_false] at heq; rw [heq] at he; simp [iq] at he
    | true =>
     rw [hc] at heq
     simp only [cond_true] at heq
     rw [heq] at he
     simp only [Bool.and_eq_true,Bool.not_eq_true'] at hc
     have hf:P.fieldsOf t=fs:=by simp [Program.fieldsOf,tf.yQ]
     have core:∀(G:Gh) (w:World) (u v:Value),aH G (.agg (x1::l)) u→aH G (.agg r) v→∃us vs,u=.agg us∧v=.agg vs∧(Op.equalIn 10000 t u v).run P w=.ok e w:=by
      intro G w u v hu hv
      cases hu with | agg _ us hlu Yf=>cases hv with | agg _ vs Wg Tt =>
      refine ⟨_,_,rfl,rfl,?_⟩
      rw [run_equalIn_struct w 9999 t _ _ (by rw [hf]; exact tf.yQ) hc.1.2,hf]
      refine rZ (G:=G) (D:=9998) fs.toList 0 q _ _ e hq he (fun j d hd=>?_) (fun j d hd=>?_)
      ·have hj:=(List.getElem?_eq_some_iff.1 hd).1
       exact ⟨us[j]'(by omega),by simp,Yf j d _ hd (List.getElem?_eq_getElem (by omega))⟩
      ·have hj:=(List.getElem?_eq_some_iff.1 hd).1
       exact ⟨vs[j]'(by omega),by simp,Tt j d _ hd (List.getElem?_eq_getElem (by omega))⟩
     have fin:∀c:Bool,aW n o gd nx k (.dv (.bool c)) []→(∀(w:World) (us vs:Array Value),(Op.equalIn 10000 t (.agg us) (.agg vs)).run P w=.ok e w→(binOp op t (.agg us) (.agg vs)).run P w=.ok (.bool c) w)→Good P C ops n o nx ρ κ k:=by
      intro c eG bj
      refine bm (fun c=>by rw [ho]; simp) hg eG fun ρ' κ' ax g a w G ak aR=>?_
      have h1:=Q7 ρ' κ' (ax.op (by rw [ho]; simp [Op.operands])) g n a w G ak aR
      have h2:=Q8 ρ' κ' (ax.op (by rw [ho]; simp [Op.operands])) g n a w G ak aR
      obtain ⟨us,vs,e1,e2,e3⟩:=core G w _ _ h1 h2
      refine ⟨.bool c,?_,.dv (.bool c)⟩
      rw [e1,e2] at e3
      simp only [execOp,ho,Sem.run_bind]
      rw [e1,e2,run_eqGuard_agg w op t x y us vs hc.2]
      simp only [Result.andThen_ok,bj w us vs e3,Sem.run_pure]
     split at h
     ·exact fin e h fun w us vs h3=>by rw [run_eql_struct,h3]; rfl
     ·exact fin (!e) h fun w us vs h3=>by rw [run_neq_struct,h3]; rfl
     ·exact h.elim
   ·rw [heq] at he; simp [iq] at he
  ·exact h.elim
 ·exact h.elim
theorem E7 (hT:er P T) {op:BinOp} {t ty:TypeId} {x y:Operand} (hg:bR ρ ops o.guard=some gd) (ho:o.op=.binOp op t x y ty) {av:AV} (bB:bu ρ κ gd x av) (Hl:bu ρ κ gd y (.dv .aG))
  (h:BP (nth T t) op κ gd av fun v rd=>aW n o gd nx k v rd):Good P C ops n o nx ρ κ k:=by
 unfold BP at h
 have hh:=S4 h; clear h; obtain ⟨hb,h⟩:=hh
 simp only [Bool.and_eq_true] at hb
 obtain ⟨i,u,z,tf⟩:=hT.facts hb.1
 have hu:=tf.slice hb.2
 have core:∀(neg:Bool),(∀(w:World) (p:Option Addr) (l cc:Nat),(binOp op t (.slice p l cc) (.slice none 0 0)).run P w=.ok (.bool (bif neg then !p.isNone else p.isNone)) w)→(xE κ gd av fun c rd=>aW n o gd nx k (SQ neg c) rd)→Good P C ops n o nx ρ κ k:=by
  intro neg bj h
  obtain ⟨c,rd,hk,hs⟩:=BZ h
  refine bm (fun c=>by rw [ho]; simp) hg hk fun ρ' κ' ax g a w G ak aR=>?_
  have h1:=bB ρ' κ' (ax.op (by rw [ho]; simp [Op.operands])) g n a w G ak aR
  have h2:=Hl ρ' κ' (ax.op (by rw [ho]; simp [Op.operands])) g n a w G ak aR
  obtain ⟨p,l,cc,hv,hp⟩:=hs aR κ' ax.reads G w _ ak.fit h1
  generalize hy:a.eval y=vy at h2
  cases h2 with | dv h2=>cases h2 with | aG =>
  refine ⟨.bool (bif neg then !p.isNone else p.isNone),?_,?_⟩
  ·simp only [execOp,ho,Sem.run_bind]
   rw [gK op t x y _ _ (by rw [hv]; simp) (by rw [hv]; simp),hv,hy]
   simp only [Result.andThen_ok,bj w p l cc,Sem.run_pure]
  ·cases c with
   | none=>exact .dv (.mT _)
   | some b=>rw [hp b rfl]; exact .dv (.bool _)
 split at h
 ·exact core false (fun w p l cc=>by simp only [binOp,Sem.run_bind,fK hu,Result.andThen_ok,Sem.run_pure,cond_false]) h
 ·exact core true (fun w p l cc=>by simp only [binOp,Sem.run_bind,fK hu,Result.andThen_ok,Sem.run_pure,cond_true]) h
 ·exact h.elim
theorem Fb (hT:er P T) {s t:TypeId} {x:Operand} {kx kd:IntKind} {m:Int} (hg:bR ρ ops o.guard=some gd) (ho:o.op=.convert s t x) (hs:(nth T s).ok=true) (ht:(nth T t).ok=true) (hi:(nth T t).EW=some kd) (hk:aW n o gd nx k (.dv (.int kd (kd.wrap m))) []) (bB:bu ρ κ gd x (.dv (.int kx m))):Good P C ops n o nx ρ κ k:=by
 obtain ⟨i1,u1,z1,TK⟩:=hT.facts hs
 obtain ⟨i2,u2,z2,VN⟩:=hT.facts ht
 refine bm (fun c=>by rw [ho]; simp) hg hk fun ρ' κ' ax g a w G ak aR=>?_
 have hv:=bB ρ' κ' (ax.op (by rw [ho]; simp [Op.operands])) g n a w G ak aR
 generalize hx:a.eval x=v at hv
 cases hv with | dv hv=>cases hv with | int =>
 have h2:=VN.EW
 rw [hi] at h2
 cases u2 <;> simp [Cl] at h2
 subst h2
 refine ⟨.int kd (kd.wrap m),?_,.dv (.int _ _)⟩
 simp [execOp,ho,hx,convert,run_underlying TK.yQ,run_underlying VN.yQ,Conv.intToInt]
theorem KO (hT:er P T) {t:TypeId} {x ix:Operand} {kx:IntKind} {m:Int} {s:ByteArray} {b:UInt8} (hg:bR ρ ops o.guard=some gd) (ho:o.op=.index t x ix) (ht:(nth T t).ok=true) (ak:(nth T t).isStr=true) (hb:gd=true→0≤m∧s[m.toNat]?=some b) (hk:aW n o gd nx k (.dv (.int .u8 b.toNat)) []) (bB:bu ρ κ gd x (.dv (.str s))) (nt:bu ρ κ gd ix (.dv (.int kx m))):Good P C ops n o nx ρ κ k:=by
 obtain ⟨i1,u1,z1,TK⟩:=hT.facts ht
 have hu:=TK.string ak
 refine bm (fun c=>by rw [ho]; simp) hg hk fun ρ' κ' ax g a w G ak aR=>?_
 have hv:=bB ρ' κ' (ax.op (by rw [ho]; simp [Op.operands])) g n a w G ak aR
 have hi:=nt ρ' κ' (ax.op (by rw [ho]; simp [Op.operands])) g n a w G ak aR
 generalize hx:a.eval x=v at hv
 generalize hy:a.eval ix=u at hi
 cases hv with | dv hv=>cases hv with | str =>
 cases hi with | dv hi=>cases hi with | int =>
 obtain ⟨h0,hb⟩:=hb aR
 refine ⟨.int .u8 b.toNat,?_,.dv (.int _ _)⟩
 simp [execOp,ho,hx,hy,Instr.index,asIntOf,run_underlying hu,h0,hb]
theorem Rd {x y:Operand} {c:Call} {p q:Int} (hg:bR ρ ops o.guard=some gd) (ho:o.op=.call c) (hc:c.callee=.builtin .min) (ha:c.args.toList=[x,y])
  (hk:aW n o gd nx k (.dv (.int .i64 (if q<p then q else p))) []) (bB:bu ρ κ gd x (.dv (.int .i64 p))) (nt:bu ρ κ gd y (.dv (.int .i64 q))):Good P C ops n o nx ρ κ k:=by
 have bM:c.args=#[x,y]:=Array.ext' (by simpa using ha)
 refine bm (fun c=>by rw [ho]; simp) hg hk fun ρ' κ' ax g a w G ak aR=>?_
 have hv:=bB ρ' κ' (ax.op (by rw [ho]; simp [Op.operands,Call.operands,hc,bM])) g n a w G ak aR
 have fe:=nt ρ' κ' (ax.op (by rw [ho]; simp [Op.operands,Call.operands,hc,bM])) g n a w G ak aR
 generalize hx:a.eval x=v at hv
 generalize hi:a.eval y=vi at fe
 cases fe with | dv fe=>cases fe with | int =>
 cases hv with | dv hv=>cases hv with | int =>
 refine ⟨_,?_,.dv (.int _ _)⟩
 simp [execOp,ho,resolve,hc,bM,invoke,builtin,Builtin.min_,Builtin.min2,hx,hi]
theorem Re {x y:Operand} {c:Call} {p q:Int} (hg:bR ρ ops o.guard=some gd) (ho:o.op=.call c) (hc:c.callee=.builtin .max) (ha:c.args.toList=[x,y])
  (hk:aW n o gd nx k (.dv (.int .i64 (if p<q then q else p))) []) (bB:bu ρ κ gd x (.dv (.int .i64 p))) (nt:bu ρ κ gd y (.dv (.int .i64 q))):Good P C ops n o nx ρ κ k:=by
 have bM:c.args=#[x,y]:=Array.ext' (by simpa using ha)
 refine bm (fun c=>by rw [ho]; simp) hg hk fun ρ' κ' ax g a w G ak aR=>?_
 have hv:=bB ρ' κ' (ax.op (by rw [ho]; simp [Op.operands,Call.operands,hc,bM])) g n a w G ak aR
 have fe:=nt ρ' κ' (ax.op (by rw [ho]; simp [Op.operands,Call.operands,hc,bM])) g n a w G ak aR
 generalize hx:a.eval x=v at hv
 generalize hi:a.eval y=vi at fe
 cases fe with | dv fe=>cases fe with | int =>
 cases hv with | dv hv=>cases hv with | int =>
 refine ⟨_,?_,.dv (.int _ _)⟩
 simp [execOp,ho,resolve,hc,bM,invoke,builtin,Builtin.max_,Builtin.max2,hx,hi]
def mF (ρ:Nat→AV) (κ:Nat→ar) (g:Bool):List (Nat × Operand)→List (Nat × AV)→Prop
 | [],[]=>True
 | (i,x)::r,(j,v)::l=>i=j∧bu ρ κ g x v∧mF ρ κ g r l
 | _,_=>False
theorem kI:∀{l:List (Nat × Operand)} {k:List (Nat × AV)→Prop},rC ρ κ gd l k→∃r,k r∧mF ρ κ gd l r
 | [],k,h=>⟨[],h,tv⟩
 | (i,x)::l,k,h=>by
  obtain ⟨v,h,hv⟩:=aI h
  obtain ⟨r,h,hr⟩:=kI h
  exact ⟨_,h,rfl,hv,hr⟩
theorem fb:∀{l:List AV},bV l=true→∀v,v∈l→v.aq=true
 | [],_,v,h=>by simp at h
 | x::l,h,v,hv=>by
  simp only [bV,Bool.and_eq_true] at h
  rcases List.mem_cons.1 hv with rfl | hv
  ·exact h.1
  ·exact fb h.2 v hv
section
variable {G:Gh}
theorem bU.cT {l:List AV} {vs:List Value} (h:bU G l vs) (hc:bV l=true):∀v,v∈vs→v.oneCell'=true:=by
 intro v hv
 obtain ⟨j,hj,rfl⟩:=List.getElem_of_mem hv
 have na:j<l.length:=by rw [h.1]; exact hj
 exact (h.2 j l[j] vs[j] (List.getElem?_eq_getElem na) (List.getElem?_eq_getElem hj)).cT (fb hc _ (List.getElem_mem na))
theorem lE {av:AV} {v:Value} (h:aH G av v) (hc:bV (cellsOf av)=true):bU G (cellsOf av) v.cells.toList:=by
 cases av with
 | agg l =>
  cases h with
  | agg _ vs hl hr=>exact ⟨by simpa [cellsOf,Value.cells] using hl,by simpa [cellsOf,Value.cells] using hr⟩
 | _ =>
  simp only [cellsOf,bV,Bool.and_true] at hc
  have h1:=h.cT hc
  have:v.cells=#[v]:=by cases v <;> first | rfl | (simp [Value.oneCell'] at h1)
  rw [this]
  refine ⟨rfl,fun j d u hd hu=>?_⟩
  cases j with
  | zero=>simp [cellsOf] at hd hu; subst hd; subst hu; exact h
  | succ j=>simp [cellsOf] at hd
theorem bU.gC {l:List AV} {vs:List Value} {l':List AV} {tz:List Value} (h:bU G l vs) (h':bU G l' tz) (off:Nat) (hle:off+l'.length≤l.length) :
  bU G (gC l off l') (vs.take off++tz++vs.drop (off+tz.length)):=by
 have e:=h.1
 have e':=h'.1
 constructor
 ·simp [TM.gC]; omega
 ·intro j d v hd hv
  simp only [TM.gC,List.append_assoc] at hd hv
  rw [List.getElem?_append] at hd hv
  simp only [List.length_take] at hd hv
  by_cases h1:j<off
  ·rw [if_pos (by omega)] at hd hv
   rw [List.getElem?_take,if_pos h1] at hd hv
   exact h.2 j d v hd hv
  ·rw [if_neg (by omega)] at hd hv
   rw [List.getElem?_append] at hd hv
   rw [show min off l.length=off by omega] at hd
   rw [show min off vs.length=off by omega] at hv
   by_cases h2:j - off<l'.length
   ·rw [if_pos h2] at hd
    rw [if_pos (by omega)] at hv
    exact h'.2 _ d v hd hv
   ·rw [if_neg h2] at hd
    rw [if_neg (by omega)] at hv
    rw [List.getElem?_drop] at hd hv
    rw [←e'] at hv
    exact h.2 _ d v hd hv
theorem Ep (off:Nat):∀(vs:List Value) (i:Nat) (cur:Array Value),off+i+vs.length≤cur.size →
  ((vs.zipIdx i).foldl (fun cs (p:Value × Nat)=>cs.setIfInBounds (off+p.2) p.1) cur).toList=cur.toList.take (off+i)++vs++cur.toList.drop (off+i+vs.length)
 | [],i,cur,_=>by simp
 | v::rest,i,cur,hl=>by
  simp only [List.zipIdx_cons,List.foldl_cons]
  rw [Ep off rest (i+1) (cur.setIfInBounds (off+i) v) (by simp at hl ⊢; omega)]
  have e:=list_seg_step cur.toList (off+i) v rest (by simp at hl ⊢; omega)
  simpa [Array.toList_setIfInBounds,Nat.add_assoc] using e
theorem qB (place:Nat→Option (Nat × Nat)):∀(parts:List (Nat × AV)) (GX:List (Nat × Value)) (l l':List AV) (cs:Array Value),
  (parts.length=GX.length∧∀(j:Nat) (p:Nat × AV) (q:Nat × Value),parts[j]?=some p→GX[j]?=some q→p.1=q.1∧aH G p.2 q.2)→bU G l cs.toList→pw place l parts=some l' →
  ∃PV,Instr.fill place cs GX=some PV∧bU G l' PV.toList
 | [],[],l,l',cs,_,hc,h=>by simp [pw] at h; subst h; exact ⟨cs,rfl,hc⟩
 | [],q::vr,l,l',cs,hp,_,_=>by simp at hp
 | p::r,[],l,l',cs,hp,_,_=>by simp at hp
 | (i,av)::r,(i',v)::vr,l,l',cs,hp,hc,h=>by
  have h0:=hp.2 0 (i,av) (i',v) rfl rfl
  simp only at h0
  obtain ⟨rfl,hv⟩:=h0
  simp only [pw] at h
  split at h
  ·cases h
  ·rename_i off sz Rv
   cases hb:(Nat.beq (cellsOf av).length sz && Nat.ble (off+sz) l.length && bV (cellsOf av)) with
   | false=>rw [hb] at h; cases h
   | true =>
    rw [hb] at h
    simp only [cond_true] at h
    simp only [Bool.and_eq_true] at hb
    obtain ⟨⟨ki,cy⟩,x5⟩:=hb
    have ki:=Nat.eq_of_beq_eq_true ki
    have cy:=Nat.le_of_ble_eq_true cy
    have pk:=lE hv x5
    have aU:v.cells.size=sz:=by rw [←ki,pk.1]; simp
    have hls:l.length=cs.size:=by rw [hc.1]; simp
    have jh:((v.cells.zipIdx.foldl (fun cs (p:Value × Nat)=>cs.setIfInBounds (off+p.2) p.1) cs).toList)=cs.toList.take off++v.cells.toList++cs.toList.drop (off+v.cells.toList.length):=by
     rw [←Array.foldl_toList,Array.toList_zipIdx]
     have:=Ep off v.cells.toList 0 cs (by simp; omega)
     simpa using this
    have fC:bU G (gC l off (cellsOf av)) (v.cells.zipIdx.foldl (fun cs (p:Value × Nat)=>cs.setIfInBounds (off+p.2) p.1) cs).toList:=by
     rw [jh]
     exact hc.gC pk off (by omega)
    obtain ⟨PV,h1,h2⟩:=qB place r vr _ l' _ ⟨by simpa using hp.1,fun j p q PU ER=>hp.2 (j+1) p q (by simpa using PU) (by simpa using ER)⟩ fC h
    refine ⟨PV,?_,h2⟩
    simp only [Instr.fill,Rv,aU]
    rw [if_neg (by simp; omega)]
    exact h1
end
theorem mF.rel {ρ':Nat→AV} {κ':Nat→ar} {g:dD} {a:Act} {w:World} {G:Gh} (ak:cf g n ρ' κ' a w G) (aR:gd=true) :
  ∀{l:List (Nat × Operand)} {r:List (Nat × AV)},mF ρ κ gd l r→(∀p,p∈l→Ag ρ ρ' κ κ' p.2) →
   (r.length=(l.map fun p=>(p.1,a.eval p.2)).length∧∀(j:Nat) (p:Nat × AV) (q:Nat × Value),r[j]?=some p→(l.map fun p=>(p.1,a.eval p.2))[j]?=some q→p.1=q.1∧aH G p.2 q.2)
 | [],[],_,_=>⟨rfl,by simp⟩
 | [],_::_,h,_=>h.elim
 | _::_,[],h,_=>h.elim
 | (i,x)::l,(j,v)::r,⟨He,hv,h⟩,ax=>by
  obtain ⟨h1,h2⟩:=mF.rel ak aR h (fun p hp=>ax p (by simp [hp]))
  have FW:=hv ρ' κ' (ax (i,x) (by simp)) g n a w G ak aR
  refine ⟨by simpa using h1,fun jj p q hp hq=>?_⟩
  cases jj with
  | zero=>simp at hp hq; subst hp; subst hq; exact ⟨He.symm,FW⟩
  | succ jj=>exact h2 jj p q (by simpa using hp) (by simpa using hq)
theorem Er {w:World} (fs:List Field) (h:∀f,f∈fs→∃j,P.info? f.type=some j):((fs.toArray.mapM fun f=>do pure (f.offset,←sizeOf f.type)):Sem (Array (Nat × Nat))).run P w=.ok (fs.map fun f=>(f.offset,match P.info? f.type with | some j=>j.size | none=>0)).toArray w:=by
 have key:∀(l:List Field),(∀f,f∈l→∃j,P.info? f.type=some j)→((l.mapM fun f=>do pure (f.offset,←sizeOf f.type)):Sem (List (Nat × Nat))).run P w=.ok (l.map fun f=>(f.offset,match P.info? f.type with | some j=>j.size | none=>0)) w:=by
  intro l
  induction l with
  | nil=>intro _; rfl
  | cons f r ih =>
   intro hl
   obtain ⟨j,hj⟩:=hl f (by simp)
   have:=ih (fun f hf=>hl f (by simp [hf]))
   simp only [List.mapM_cons,Sem.run_bind,iR hj,Result.andThen_ok,Sem.run_pure,this,List.map_cons,hj]
 rw [List.mapM_toArray]
 simp only [Sem.run_map,key fs h,Result.andThen_ok]
theorem KL (hT:er P T) {t:Nat} {parts:Array (Nat × Operand)} {l:List (Nat × AV)} {cs:List AV} (hg:bR ρ ops o.guard=some gd) (ho:o.op=.build t parts) (bK:(nth T t).ok=true)
  (hp:mF ρ κ gd parts.toList l) (N3:pw (fun i=>(nth T t).fields[i]?) (iU (nth T t).zero) l=some cs) (Yg:Nat.beq (nth T t).kind 9=true) (hk:aW n o gd nx k (.agg cs) []):Good P C ops n o nx ρ κ k:=by
 obtain ⟨ti,u,z,tf⟩:=hT.facts bK
 have hu:∃fs,u=.struct fs:=by
  have h1:=tf.kind
  rw [Nat.eq_of_beq_eq_true Yg] at h1
  cases u <;> simp [kindOf] at h1
  exact ⟨_,rfl⟩
 obtain ⟨fs,rfl⟩:=hu
 refine bm (fun c=>by rw [ho]; simp) hg hk fun ρ' κ' ax g a w G ak aR=>?_
 have FK:∀p,p∈parts.toList→Ag ρ ρ' κ κ' p.2:=fun p PU=>ax.op (by
  rw [ho]
  simp only [Op.operands,List.mem_toArray,List.mem_map]
  exact ⟨p,PU,rfl⟩)
 have h1:=hp.rel ak aR FK
 have hz:bU G (iU (nth T t).zero) z.cells.toList:=by
  exact hJ (ed (M:=G.M) tf.zc).1
 obtain ⟨PV,h3,h4⟩:=qB _ l _ _ cs z.cells h1 hz N3
 have Yh:aH G (.agg cs) (.agg PV):=by
  have:=aH.agg (G:=G) cs PV.toList h4.1 h4.2
  simpa using this
 refine ⟨.agg PV,?_,Yh⟩
 ·have Rv:((fs.mapM fun f=>do pure (f.offset,←sizeOf f.type)):Sem (Array (Nat × Nat))).run P w=.ok (nth T t).fields.toArray w:=by
   have:=Er (P:=P) (w:=w) fs.toList (fun f hf=>by
    have:=tf.fin
    simp only [wU,List.all_eq_true] at this
    exact Option.isSome_iff_exists.1 (this f hf))
   simp only [Array.toArray_toList] at this
   rw [this,tf.fields]
   rfl
  have II:Instr.fill (fun i=>(nth T t).fields.toArray[i]?) z.cells (parts.map fun p=>(p.1,a.eval p.2)).toList=some PV:=by
   simpa using h3
  simp only [execOp,ho,Instr.build,Sem.run_bind,tf.rX w,Result.andThen_ok,run_underlying tf.yQ,Rv]
  rw [II]
  rfl
end
end Go.TM
