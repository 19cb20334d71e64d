import Derived.Test.YtpbdohkbiklflaaGreatDoorWM4
import Derived.Laws.StructEq
set_option linter.unusedVariables false
set_option linter.unusedSimpArgs false
set_option linter.unusedSectionVars false
namespace Go.TM
open Go.RowKit
variable [ct]
section
variable {P:Program} {C:dx→Prop} {T:List TI} {ops:List Oper} {n:Nat} {o:Oper} {nx:Nat} {ρ:Nat→AV} {κ:Nat→ao} {k:jl→Nat→Prop} {gd:Bool}
theorem LM {x:Operand} (hg:bJ ρ ops o.guard=some gd) (ho:o.op=.move x) (h:ex ρ κ gd x fun v=>aR n o gd nx k v []):Good P C ops n o nx ρ κ k:=by
 by_cases hm:fj ρ κ o=H3 ρ o
 ·obtain ⟨av,hk,bp⟩:=aE h
  refine bf (fun c=>by rw [ho]; simp) hg hk fun ρ' κ' au g a w G aj aL=>?_
  have hv:=bp ρ' κ' (au.Wu (by rw [ho]; simp [Op.operands]) hm) g n a w G aj aL
  exact ⟨_,by simp [execOp,ho],hv⟩
 ·unfold fj at hm
  split at hm
  ·rename_i t ht
   rw [ho] at ht
   injection ht with ht
   subst ht
   cases hb:Vg κ (ρ t) with
   | false=>rw [hb] at hm; exact absurd rfl hm
   | true =>
    generalize hρ:ρ t=v at hb
    cases v with
    | own i ver ep p =>
     simp only [Vg] at hb
     cases hk:κ i with
     | tree V E d =>
      unfold ex at h
      simp only [ev,hρ,res,hk] at h
      cases hc:Nat.beq ver V && (emp p || Nat.beq ep E) with
      | true =>
       rw [hc] at h
       simp only [cond_true] at h
       rw [force_eq] at h
       refine bf (fun c=>by rw [ho]; simp) hg h fun ρ' κ' au g a w G aj aL=>?_
       have h1:=aj.env t
       rw [au.bs t (by unfold Oper.looksAt; rw [ho]; exact List.mem_append.2 (.inl (by simp [Op.operands]))),hρ] at h1
       exact ⟨_,by simp only [execOp,ho]; rfl,h1⟩
      | false =>
       rw [hc] at h
       simp only [cond_false] at h
       rw [force_eq] at h
       refine bf (fun c=>by rw [ho]; simp) hg h fun ρ' κ' au g a w G aj aL=>?_
       exact ⟨a.eval (.tmp t),by simp [execOp,ho],.any _⟩
     | _=>rw [hk] at hb; cases hb
    | _=>cases hb
  ·exact absurd rfl hm
theorem GJ {x:Operand} {av:AV} (hg:bJ ρ ops o.guard=some gd) (ho:o.op=.assign x) (hk:aR n o gd nx k av []) (bp:bk ρ κ gd x av):Good P C ops n o nx ρ κ k:=by
 refine bf (fun c=>by rw [ho]; simp) hg hk fun ρ' κ' au g a w G aj aL=>?_
 have hv:=bp ρ' κ' (au.op (by rw [ho]; simp [Op.operands])) g n a w G aj aL
 exact ⟨_,by simp [execOp,ho],hv⟩
theorem mJ {x:Operand} {av:AV} (hg:bJ ρ ops o.guard=some gd) (ho:o.op=.nilCheck x) (hk:aR n o gd nx k av []) (bp:bk ρ κ gd x av)
  (hp:∀(G:Gh) (v:Value),aD G av v→∃a,v=.pointer (some a)):Good P C ops n o nx ρ κ k:=by
 refine bf (fun c=>by rw [ho]; simp) hg hk fun ρ' κ' au g a w G aj aL=>?_
 have hv:=bp ρ' κ' (au.op (by rw [ho]; simp [Op.operands])) g n a w G aj aL
 obtain ⟨p,hp⟩:=hp _ _ hv
 refine ⟨_,?_,hv⟩
 simp [execOp,ho,hp]
theorem IA (hT:ec P T) {op:BinOp} {t ty:TypeId} {x y:Operand} (hg:bJ ρ ops o.guard=some gd) (ho:o.op=.binOp op t x y ty)
  {va vb:AV} (OF:bk ρ κ gd x va) (OG:bk ρ κ gd y vb) (h:qv (nth T t) op va vb gd fun v=>aR n o gd nx k v []):Good P C ops n o nx ρ κ k:=by
 obtain ⟨r,hk,hc,hr⟩:=E2 (P:=P) hT h
 refine bf (fun c=>by rw [ho]; simp) hg hk fun ρ' κ' au g a w G aj aL=>?_
 have h1:=OF ρ' κ' (au.op (by rw [ho]; simp [Op.operands])) g n a w G aj aL
 have h2:=OG ρ' κ' (au.op (by rw [ho]; simp [Op.operands])) g n a w G aj aL
 obtain ⟨v,h3,h4,h5,h6⟩:=hr G w _ _ aL h1 h2
 refine ⟨v,?_,.dv h4⟩
 simp only [execOp,ho,Sem.run_bind,gl op t x y _ _ h5 h6,Result.andThen_ok,h3,Sem.run_pure]
theorem OI {t:TypeId} {x:Operand} {b:Bool} (hg:bJ ρ ops o.guard=some gd) (ho:o.op=.unOp .not t x) (hk:aR n o gd nx k (.dv (.bool (!b))) []) (bp:bk ρ κ gd x (.dv (.bool b))):Good P C ops n o nx ρ κ k:=by
 refine bf (fun c=>by rw [ho]; simp) hg hk fun ρ' κ' au g a w G aj aL=>?_
 have hv:=bp ρ' κ' (au.op (by rw [ho]; simp [Op.operands])) g n a w G aj aL
 generalize hx:a.eval x=v at hv
 cases hv with | dv hv=>cases hv with | bool =>
 exact ⟨_,by simp [execOp,ho,hx,Op.unary],.dv (.bool _)⟩
theorem OJ {t:TypeId} {x:Operand} {kd:IntKind} {m:Int} (hg:bJ ρ ops o.guard=some gd) (ho:o.op=.unOp .neg t x) (hk:arith kd (0 - m) gd fun v=>aR n o gd nx k v []) (bp:bk ρ κ gd x (.dv (.int kd m))):Good P C ops n o nx ρ κ k:=by
 obtain ⟨r,hk,he⟩:=ir hk
 refine bf (fun c=>by rw [ho]; simp) hg hk fun ρ' κ' au g a w G aj aL=>?_
 have hv:=bp ρ' κ' (au.op (by rw [ho]; simp [Op.operands])) g n a w G aj aL
 generalize hx:a.eval x=v at hv
 cases hv with | dv hv=>cases hv with | int =>
 refine ⟨.int kd r,?_,.dv (.int kd r)⟩
 have:=he aL
 simp only [execOp,ho,hx,Op.unary,Op.intArith,this,Sem.run_bind,Sem.run_pure,Result.andThen_ok]
theorem Dv {x:Operand} {i:Nat} {l:List AV} {av:AV} (hg:bJ ρ ops o.guard=some gd) (ho:o.op=.extract x i) (hk:aR n o gd nx k av []) (hl:l[i]?=some av) (bp:bk ρ κ gd x (.eK l)):Good P C ops n o nx ρ κ k:=by
 refine bf (fun c=>by rw [ho]; simp) hg hk fun ρ' κ' au g a w G aj aL=>?_
 have hv:=bp ρ' κ' (au.op (by rw [ho]; simp [Op.operands])) g n a w G aj aL
 generalize hx:a.eval x=v at hv
 cases hv with
 | eK _ vs hlen hr =>
  have hi:i<l.length:=(List.getElem?_eq_some_iff.1 hl).1
  have Wv:vs[i]?=some (vs[i]'(by omega)):=List.getElem?_eq_getElem (by omega)
  refine ⟨_,?_,hr i av _ hl Wv⟩
  simp [execOp,ho,hx,Instr.extract,Wv]
theorem lh {c x y:Operand} {b p q:Bool} (hg:bJ ρ ops o.guard=some gd) (ho:o.op=.pick c x y) (hk:aR n o gd nx k (.dv (.bool (bif b then p else q))) [])
  (hc:bk ρ κ gd c (.dv (.bool b))) (hx:bk ρ κ (gd && b) x (.dv (.bool p))) (hy:bk ρ κ (gd && !b) y (.dv (.bool q))):Good P C ops n o nx ρ κ k:=by
 refine bf (fun c=>by rw [ho]; simp) hg hk fun ρ' κ' au g a w G aj aL=>?_
 have hv:=hc ρ' κ' (au.op (by rw [ho]; simp [Op.operands])) g n a w G aj aL
 generalize TB:a.eval c=v at hv
 cases hv with | dv hv=>cases hv with | bool =>
 subst aL
 cases b with
 | true =>
  have hv:=hx ρ' κ' (au.op (by rw [ho]; simp [Op.operands])) g n a w G aj rfl
  generalize oc:a.eval x=v at hv
  cases hv with | dv hv=>cases hv with | bool =>
  exact ⟨_,by simp [execOp,ho,TB,oc,asBool],.dv (.bool _)⟩
 | false =>
  have hv:=hy ρ' κ' (au.op (by rw [ho]; simp [Op.operands])) g n a w G aj rfl
  generalize oc:a.eval y=v at hv
  cases hv with | dv hv=>cases hv with | bool =>
  exact ⟨_,by simp [execOp,ho,TB,oc,asBool],.dv (.bool _)⟩
theorem lj (hT:ec P T) {t f off sz:Nat} {x:Operand} {av SF:AV} (hg:bJ ρ ops o.guard=some gd) (ho:o.op=.fieldAddr t x f) (bU:(nth T t).ok=true) (hf:(nth T t).fields[f]?=some (off,sz+1))
  (hk:aR n o gd nx k SF []) (bp:bk ρ κ gd x av)
  (hp:∀(G:Gh) (v:Value),aD G av v→∃a,v=.pointer (some a)∧aD G SF (.pointer (some (a.add off)))):Good P C ops n o nx ρ κ k:=by
 obtain ⟨i,u,z,tf⟩:=hT.facts bU
 obtain ⟨fs,fd,hu,SG,Lb,j,hj,Ww⟩:=tf.field hf (by omega)
 refine bf (fun c=>by rw [ho]; simp) hg hk fun ρ' κ' au g a w G aj aL=>?_
 have hv:=bp ρ' κ' (au.op (by rw [ho]; simp [Op.operands])) g n a w G aj aL
 obtain ⟨p,hp,Nt⟩:=hp _ _ hv
 refine ⟨_,?_,Nt⟩
 simp [execOp,ho,hp,Instr.fieldAt,run_underlying hu,SG,Instr.sureAddr,fieldPlace,iq hj,Ww,Lb]
theorem dD {agg:Bool} {l:List AV} {off sz:Nat} {ret:AV→Prop} (h:bX agg l off sz ret) :
  ∃v,ret v∧((agg=true∧off+sz≤l.length∧v=.agg ((l.drop off).take sz)) ∨ (agg=false∧l[off]?=some v)):=by
 unfold bX at h
 cases agg with
 | true =>
  simp only [cond_true] at h
  cases hb:Nat.ble (off+sz) l.length with
  | false=>rw [hb] at h; exact h.elim
  | true=>rw [hb] at h; exact ⟨_,h,.inl ⟨rfl,Nat.le_of_ble_eq_true hb,rfl⟩⟩
 | false =>
  simp only [cond_false] at h
  split at h
  ·rename_i v hv; rw [force_eq] at h; exact ⟨v,h,.inr ⟨rfl,hv⟩⟩
  ·exact h.elim
theorem jw (hT:ec P T) {t off:Nat} {l:List AV} {av:AV} {w:World} {G:Gh} (bU:(nth T t).ok=true) (A:Addr) (vs:Nat→Value)
  (hc:∀j,j<l.length→w.cell? (A.add j)=some (vs j)) (hr:∀(j:Nat) (d:AV),l[j]?=some d→aD G d (vs j))
  (hp:((nth T t).agg=true∧off+(nth T t).size≤l.length∧av=.agg ((l.drop off).take (nth T t).size)) ∨ ((nth T t).agg=false∧l[off]?=some av)) :
  ∃v,(Instr.loadAt t (.pointer (some (A.add off)))).run P w=.ok v w∧aD G av v:=by
 obtain ⟨i,u,z,tf⟩:=hT.facts bU
 rcases hp with ⟨ha,hle,rfl⟩ | ⟨ha,hl⟩
 ·refine ⟨.agg ((List.range (nth T t).size).map fun j=>vs (off+j)).toArray,?_,?_⟩
  ·have:=run_loadCells (P:=P) w (A.add off) (nth T t).size (fun j=>vs (off+j)) (fun j hj=>by rw [cy]; exact hc _ (by omega))
   simp only [Instr.loadAt,Instr.sureAddr,Sem.run_bind,Sem.run_pure,Result.andThen_ok,loadVar,tf.sn w,ha,if_true,tf.eM w,this]
  ·refine .agg _ _ (by simp; omega) fun j d v hd hv=>?_
   rw [List.getElem?_take] at hd
   split at hd
   ·rename_i hj
    rw [List.getElem?_drop] at hd
    simp [hj] at hv
    subst hv
    exact hr _ _ hd
   ·cases hd
 ·have aJ:off<l.length:=(List.getElem?_eq_some_iff.1 hl).1
  refine ⟨vs off,?_,hr _ _ hl⟩
  simp only [Instr.loadAt,Instr.sureAddr,Sem.run_bind,Sem.run_pure,Result.andThen_ok,loadVar,tf.sn w,ha,Bool.false_eq_true,if_false,run_load,hc off aJ]
theorem A8 (hT:ec P T) {t i off:Nat} {x:Operand} {l:List AV} (hg:bJ ρ ops o.guard=some gd) (ho:o.op=.load t x) (bU:(nth T t).ok=true) (hb:κ i=.cells l)
  (hk:bX (nth T t).agg l off (nth T t).size fun v=>aR n o gd nx k v [i]) (bp:bk ρ κ gd x (.ptr i off)):Good P C ops n o nx ρ κ k:=by
 obtain ⟨av,hk,hp⟩:=dD hk
 refine bf (fun c=>by rw [ho]; simp) hg hk fun ρ' κ' au g a w G aj aL=>?_
 have hv:=bp ρ' κ' (au.op (by rw [ho]; simp [Op.operands])) g n a w G aj aL
 have dL:κ' i=.cells l:=(au.reads i (by simp)).trans hb
 have rG:=aj.fit.box i
 rw [dL] at rG
 obtain ⟨b,c,tt,TC,hw,aT,j7,hr⟩:=rG
 generalize hx:a.eval x=v at hv
 cases hv with
 | ptr _ _ b' zr =>
 rw [TC] at zr; injection zr with zr; subst zr
 have hA:(⟨b,off,none⟩:Addr)=(⟨b,0,none⟩:Addr).add off:=by rw [cD]; simp
 obtain ⟨v,h1,h2⟩:=jw (P:=P) (av:=av) (w:=w) (G:=G) (l:=l) (off:=off) hT bU ⟨b,0,none⟩ (fun j=>c.getD j undef) (fun j hj=>by
   rw [cD]
   simp [World.cell?,hw,aT,hj]) (fun j d hd=>by
   have hj:j<l.length:=(List.getElem?_eq_some_iff.1 hd).1
   exact hr j d _ hd (by simp [aT,hj])) hp
 refine ⟨v,?_,h2⟩
 rw [←hA] at h1
 simp only [execOp,ho,hx,Sem.run_bind,h1,Result.andThen_ok,Sem.run_pure]
theorem Dt (hT:ec P T) {t off:Nat} {x:Operand} {y:DV} (hg:bJ ρ ops o.guard=some gd) (ho:o.op=.load t x) (bU:(nth T t).ok=true)
  (hk:bX (nth T t).agg (jP y.cells) off (nth T t).size fun v=>aR n o gd nx k v []) (bp:bk ρ κ gd x (.dv (.at y off))):Good P C ops n o nx ρ κ k:=by
 obtain ⟨av,hk,hp⟩:=dD hk
 refine bf (fun c=>by rw [ho]; simp) hg hk fun ρ' κ' au g a w G aj aL=>?_
 have hv:=bp ρ' κ' (au.op (by rw [ho]; simp [Op.operands])) g n a w G aj aL
 generalize hx:a.eval x=v at hv
 cases hv with | dv hv=>cases hv with
 | _ =>
  rename_i A cell j7 hc hr
  obtain ⟨v,h1,h2⟩:=jw (P:=P) (av:=av) (w:=w) (G:=G) (l:=jP y.cells) (off:=off) hT bU A cell (fun j hj=>aj.fit.sub.cell (hc j (by simpa [lU] using hj))) (fun j d hd=>by
   obtain ⟨d',ja,rfl⟩:=K5 hd
   exact .dv (hr j d' ja)) hp
  refine ⟨v,?_,h2⟩
  simp only [execOp,ho,hx,Sem.run_bind,h1,Result.andThen_ok,Sem.run_pure]
theorem bA {gd:Bool}:∀{p:List PS} {d:DV} {k:DV→Prop},g9 gd d p k→∃nd,k nd∧(gd=true→get d p=some nd)
 | [],d,k,h=>⟨d,h,fun _=>rfl⟩
 | s::p,d,k,h=>by
  cases d <;> cases s <;> simp only [g9] at h <;> (try exact h.elim)
  ·obtain ⟨x,hx,h⟩:=h
   split at h
   ·rename_i c hc
    obtain ⟨nd,h1,h2⟩:=bA h
    exact ⟨nd,h1,fun hg=>by simp only [get,step,hx hg,hc]; exact h2 hg⟩
   ·exact h.elim
  ·rename_i x i j
   cases hb:Nat.beq i 0 with
   | false=>rw [hb] at h; exact h.elim
   | true =>
    rw [hb] at h
    simp only [cond_true] at h
    split at h
    ·rename_i c hc
     obtain ⟨nd,h1,h2⟩:=bA h
     exact ⟨nd,h1,fun hg=>by simp only [get,step,hb,cond_true,hc]; exact h2 hg⟩
    ·exact h.elim
  ·obtain ⟨x,hx,h⟩:=h
   split at h
   ·rename_i c hc
    obtain ⟨nd,h1,h2⟩:=bA h
    exact ⟨nd,h1,fun hg=>by simp only [get,step,hx hg,hc]; exact h2 hg⟩
   ·exact h.elim
theorem ek:∀{p:List PS} {d nd:DV} {k:DV→Prop},rO d p nd k→k (bL d p nd)∧∃c,get d p=some c
 | [],d,nd,k,h=>⟨h,d,rfl⟩
 | s::p,d,nd,k,h=>by
  cases d <;> cases s <;> simp only [rO] at h <;> (try exact h.elim)
  ·rename_i sz l i j
   obtain ⟨x,hx,h⟩:=h
   split at h
   ·rename_i c hc
    obtain ⟨h1,c',h2⟩:=ek h
    exact ⟨by simp only [bL,step,hx,hc,put]; exact h1,c',by simp only [get,step,hx,hc]; exact h2⟩
   ·exact h.elim
  ·rename_i x i j
   cases hb:Nat.beq i 0 with
   | false=>rw [hb] at h; exact h.elim
   | true =>
    rw [hb] at h
    simp only [cond_true] at h
    split at h
    ·rename_i c hc
     obtain ⟨h1,c',h2⟩:=ek h
     exact ⟨by simp only [bL,step,hb,cond_true,hc,put]; exact h1,c',by simp only [get,step,hb,cond_true,hc]; exact h2⟩
    ·exact h.elim
  ·rename_i s m kk j
   obtain ⟨x,hx,h⟩:=h
   split at h
   ·rename_i c hc
    obtain ⟨h1,c',h2⟩:=ek h
    exact ⟨by simp only [bL,step,hx,hc,put]; exact h1,c',by simp only [get,step,hx,hc]; exact h2⟩
   ·exact h.elim
theorem dh {ver aY ep bE:Nat} {p:List PS} (h:(Nat.beq ver aY && (emp p || Nat.beq ep bE))=true):ver=aY∧(p=[] ∨ ep=bE):=by
 simp only [Bool.and_eq_true,Bool.or_eq_true] at h
 refine ⟨Nat.eq_of_beq_eq_true h.1,?_⟩
 rcases h.2 with h | h
 ·left; cases p with
  | nil=>rfl
  | cons=>simp [emp] at h
 ·right; exact Nat.eq_of_beq_eq_true h
theorem cJ {H:Nat→Nat→Nat→List PS→Option Value} {i ver ep bE:Nat} {p:List PS} (h:p=[] ∨ ep=bE):aA H i ver ep p=aA H i ver bE p:=by
 rcases h with rfl | rfl <;> rfl
theorem Fit.node {κ:Nat→ao} {w:World} {G:Gh} (aj:Fit G w κ) {i ver ep:Nat} {d nd:DV} {p:List PS} (hk:κ i=.tree ver ep d) (hp:get d p=some nd) (ho:nd.af=true) :
  ∃v,aA G.H i ver ep p=some v∧v.oneCell'=true∧bW G.M w v (fun s=>aA G.H i ver ep (p++[s])) nd:=by
 have hb:=aj.box i
 rw [hk] at hb
 exact hb.1.2 p nd hp ho
theorem wD {G:Gh} {i ver ep:Nat} {p:List PS} {s:PS} {d:DV} {u:Value} (hc:d.ak=true) (h:da G.M (aA G.H i ver ep (p++[s])) d u) (hu:d.af=true→u.oneCell'=true):aD G (s5 i ver ep p s d) u:=by
 rcases h with ⟨h1,h2⟩ | ⟨h1,h2⟩
 ·simp only [s5,h1,cond_true]; exact .own _ _ _ _ _ h2 (hu h1)
 ·simp only [s5,h1,cond_false]; exact .dv h2
theorem wE {i ver ep:Nat} {p:List PS} {idx:Nat}:∀{l:List DV} {s j:Nat} {v:AV},(jA i ver ep p idx s l)[j]?=some v→∃d,l[j]?=some d∧v=s5 i ver ep p (.el idx (s+j)) d
 | [],s,j,v,h=>by simp [jA] at h
 | d::l,s,0,v,h=>by simp [jA] at h; exact ⟨d,rfl,h.symm⟩
 | d::l,s,j+1,v,h=>by
  simp only [jA,List.getElem?_cons_succ] at h
  obtain ⟨d',h1,h2⟩:=wE h
  exact ⟨d',by simpa using h1,by rw [h2]; congr 2; omega⟩
theorem lV {i ver ep:Nat} {p:List PS} {idx:Nat}:∀{l:List DV} {s:Nat},(jA i ver ep p idx s l).length=l.length
 | [],s=>rfl
 | d::l,s=>by simp [jA,lV]
theorem wF {i ver ep:Nat} {p:List PS} {kk:DV}:∀{l:List DV} {s j:Nat} {v:AV},(jB i ver ep p kk s l)[j]?=some v→∃d,l[j]?=some d∧v=s5 i ver ep p (.key kk (s+j)) d
 | [],s,j,v,h=>by simp [jB] at h
 | d::l,s,0,v,h=>by simp [jB] at h; exact ⟨d,rfl,h.symm⟩
 | d::l,s,j+1,v,h=>by
  simp only [jB,List.getElem?_cons_succ] at h
  obtain ⟨d',h1,h2⟩:=wF h
  exact ⟨d',by simpa using h1,by rw [h2]; congr 2; omega⟩
theorem lW {i ver ep:Nat} {p:List PS} {kk:DV}:∀{l:List DV} {s:Nat},(jB i ver ep p kk s l).length=l.length
 | [],s=>rfl
 | d::l,s=>by simp [jB,lW]
theorem Fit.cells {κ:Nat→ao} {w:World} {G:Gh} (aj:Fit G w κ) {i ver ep:Nat} {d nd:DV} {p:List PS} (hk:κ i=.tree ver ep d) (hp:get d p=some nd) {sz idx:Nat} {K:List AV→Prop} {A:Addr}
  (hA:aA G.H i ver ep p=some (.pointer (some A)) ∨ ∃m c,aA G.H i ver ep p=some (.slice (some A) m c)) {l:List AV} (hl:(∃l0 x,nd=.ax sz l0∧l0[idx]?=some x∧l=jA i ver ep p idx 0 x.cells) ∨ (∃x,nd=.cQ x∧idx=0∧l=jA i ver ep p 0 0 x.cells)) :
  ∃vs:Nat→Value,(∀j,j<l.length→w.cell? ((A.add (idx * sz)).add j)=some (vs j))∧∀(j:Nat) (d:AV),l[j]?=some d→aD G d (vs j):=by
 have gB:∀s c u,step nd s=some c→c.af=true→aA G.H i ver ep (p++[s])=some u→u.oneCell'=true:=by
  intro s c u hs hc hu
  obtain ⟨v,h1,h2,_⟩:=aj.node hk (p:=p++[s]) (nd:=c) (by rw [get_append,hp]; simp [get,hs]) hc
  rw [h1] at hu; injection hu with hu; subst hu; exact h2
 rcases hl with ⟨l0,x,rfl,hx,rfl⟩ | ⟨x,rfl,rfl,rfl⟩
 ·obtain ⟨v,h1,h2,aX⟩:=aj.node hk hp rfl
  rcases aX with ⟨rfl,_⟩ | ⟨gb,ob,cap,c,t,rfl,eh,hw,aT,oc⟩
  ·simp at hx
  ·have Vj:A=⟨gb,ob,none⟩:=by
    rcases hA with hA | ⟨m,cc,hA⟩
    ·rw [h1] at hA; cases hA
    ·rw [h1] at hA; injection hA with hA; injection hA with hA; injection hA with hA; exact hA.symm
   subst Vj
   obtain ⟨a1,a2⟩:=oc idx x hx
   refine ⟨fun j=>c.getD (ob+idx * sz+j) undef,fun j hj=>?_,fun j dd hd=>?_⟩
   ·rw [lV] at hj
    obtain ⟨_,u,b1,_⟩:=a2 j _ (List.getElem?_eq_getElem hj)
    rw [cy,cD]
    simp only [World.cell?,hw]
    rw [show ob+(idx * sz+j)=ob+idx * sz+j by omega,Array.getD_eq_getD_getElem?,b1]
    rfl
   ·obtain ⟨d0,e1,rfl⟩:=wE hd
    obtain ⟨b0,u,b1,b2⟩:=a2 j d0 e1
    show aD G _ (c.getD (ob+idx * sz+j) undef)
    rw [Array.getD_eq_getD_getElem?,b1,Nat.zero_add]
    refine wD b0 b2 fun ho=>?_
    rcases b2 with ⟨_,b2⟩ | ⟨b2,_⟩
    ·exact gB (.el idx j) d0 u (by simp only [step,hx]; exact e1) ho b2
    ·rw [ho] at b2; cases b2
 ·obtain ⟨v,h1,h2,aX⟩:=aj.node hk hp rfl
  obtain ⟨gb,c,t,rfl,hw,aT,oc⟩:=aX
  have Vj:A=⟨gb,0,none⟩:=by
   rcases hA with hA | ⟨m,cc,hA⟩
   ·rw [h1] at hA; injection hA with hA; injection hA with hA; injection hA with hA; exact hA.symm
   ·rw [h1] at hA; cases hA
  subst Vj
  refine ⟨fun j=>c.getD j undef,fun j hj=>?_,fun j dd hd=>?_⟩
  ·rw [lV] at hj
   obtain ⟨_,u,b1,_⟩:=oc j _ (List.getElem?_eq_getElem hj)
   rw [cy,cD]
   simp only [World.cell?,hw]
   rw [show 0+(0 * sz+j)=j by omega,Array.getD_eq_getD_getElem?,b1]
   rfl
  ·obtain ⟨d0,e1,rfl⟩:=wE hd
   obtain ⟨b0,u,b1,b2⟩:=oc j d0 e1
   show aD G _ (c.getD j undef)
   rw [Array.getD_eq_getD_getElem?,b1,Nat.zero_add]
   refine wD b0 b2 fun ho=>?_
   rcases b2 with ⟨_,b2⟩ | ⟨b2,_⟩
   ·exact gB (.el 0 j) d0 u (by simp [step]; exact e1) ho b2
   ·rw [ho] at b2; cases b2
theorem A9 (hT:ec P T) {t i ver ep bE sz idx off:Nat} {p:List PS} {x:Operand} {d:DV} (hg:bJ ρ ops o.guard=some gd) (ho:o.op=.load t x) (bU:(nth T t).ok=true)
  (hb:κ i=.tree ver bE d) (dj:p=[] ∨ ep=bE)
  (hk:g9 gd d p fun nd=>jc i ver bE p gd sz idx nd fun l=>bX (nth T t).agg l off (nth T t).size fun v=>aR n o gd nx k v [i]) (bp:bk ρ κ gd x (.loc i ver ep p sz idx off)):Good P C ops n o nx ρ κ k:=by
 obtain ⟨nd,hk,c6⟩:=bA hk
 have ow:∃l,(bX (nth T t).agg l off (nth T t).size fun v=>aR n o gd nx k v [i])∧(gd=true→(∃l0 x,nd=.ax sz l0∧l0[idx]?=some x∧l=jA i ver bE p idx 0 x.cells) ∨ (∃x,nd=.cQ x∧idx=0∧l=jA i ver bE p 0 0 x.cells)):=by
  unfold jc at hk
  split at hk
  ·rename_i oR l0
   cases hs:Nat.beq sz oR with
   | false=>rw [hs] at hk; exact hk.elim
   | true =>
    rw [hs] at hk
    have:=Nat.eq_of_beq_eq_true hs
    subst this
    obtain ⟨x,hx,hk⟩:=hk
    exact ⟨_,hk,fun aL=>.inl ⟨l0,x,rfl,hx aL,rfl⟩⟩
  ·rename_i x
   cases hs:Nat.beq idx 0 with
   | false=>rw [hs] at hk; exact hk.elim
   | true =>
    rw [hs] at hk
    exact ⟨_,hk,fun _=>.inr ⟨x,rfl,Nat.eq_of_beq_eq_true hs,rfl⟩⟩
  ·exact hk.elim
 obtain ⟨l,hk,hl⟩:=ow
 obtain ⟨av,hk,hp⟩:=dD hk
 refine bf (fun c=>by rw [ho]; simp) hg hk fun ρ' κ' au g a w G aj aL=>?_
 have hv:=bp ρ' κ' (au.op (by rw [ho]; simp [Op.operands])) g n a w G aj aL
 have dL:κ' i=.tree ver bE d:=(au.reads i (by simp)).trans hb
 have key:∀A,a.eval x=.pointer (some (A.add (idx * sz+off)))→(aA G.H i ver ep p=some (.pointer (some A)) ∨ ∃m c,aA G.H i ver ep p=some (.slice (some A) m c))→∃v,(execOp a.eval o).run P w=.ok (.value v) w∧aD G av v:=by
  intro A hx hA
  rw [cJ dj] at hA
  obtain ⟨vs,h1,h2⟩:=aj.fit.cells (K:=fun _=>True) dL (c6 aL) hA (hl aL)
  obtain ⟨v,h3,h4⟩:=jw (P:=P) (av:=av) (w:=w) (G:=G) (l:=l) (off:=off) hT bU (A.add (idx * sz)) vs h1 h2 hp
  rw [cy] at h3
  exact ⟨v,by simp only [execOp,ho,hx,Sem.run_bind,h3,Result.andThen_ok,Sem.run_pure],h4⟩
 generalize hx:a.eval x=v at hv
 cases hv with
 | loc _ _ _ _ _ _ _ A m c h=>exact key A hx (.inr ⟨m,c,h⟩)
 | mn _ _ _ _ _ _ _ A h=>exact key A hx (.inl h)
end
end Go.TM
namespace Go.TM
open Go.RowKit
variable [ct]
theorem add_zero' (a:Addr):a.add 0=a:=by simp [Addr.add]
section
variable {P:Program} {C:dx→Prop} {T:List TI} {ops:List Oper} {n:Nat} {o:Oper} {nx:Nat} {ρ:Nat→AV} {κ:Nat→ao} {k:jl→Nat→Prop} {gd:Bool}
theorem A6 (hT:ec P T) {t:Nat} {x i:Operand} {sz:Nat} {l:List DV} {y:DV} {kd:IntKind} {m:Int} (hg:bJ ρ ops o.guard=some gd) (ho:o.op=.indexAddr t x i)
  (bU:(nth T t).ok=true) (gY:(nth T t).isSl=true) (jO:(nth T (nth T t).elem).ok=true) (aT:sz=(nth T (nth T t).elem).size)
  (hy:gd=true→0≤m∧l[m.toNat]?=some y) (hk:aR n o gd nx k (.dv (.at y 0)) []) (bp:bk ρ κ gd x (.dv (.sl sz l))) (mI:bk ρ κ gd i (.dv (.int kd m))):Good P C ops n o nx ρ κ k:=by
 obtain ⟨ti,u,z,tf⟩:=hT.facts bU
 obtain ⟨te,ue,ze,iu⟩:=hT.facts jO
 refine bf (fun c=>by rw [ho]; simp) hg hk fun ρ' κ' au g a w G aj aL=>?_
 have hv:=bp ρ' κ' (au.op (by rw [ho]; simp [Op.operands])) g n a w G aj aL
 have eQ:=mI ρ' κ' (au.op (by rw [ho]; simp [Op.operands])) g n a w G aj aL
 generalize hx:a.eval x=v at hv
 generalize hi:a.eval i=vi at eQ
 obtain ⟨GQ,Qi⟩:=hy aL
 have aJ:m.toNat<l.length:=(List.getElem?_eq_some_iff.1 Qi).1
 cases eQ with | dv eQ=>cases eQ with | int =>
 cases hv with | dv hv=>cases hv with
 | slnil=>simp at aJ
 | sl _ _ A cap cell eh hlen hc hr =>
  have eU:0≤m∧m<(l.length:Int):=⟨GQ,by omega⟩
  refine ⟨.pointer (some (A.add (m.toNat * sz))),?_,?_⟩
  ·have oN:=iu.eM w
   rw [←aT] at oN
   simp [execOp,ho,hx,hi,Instr.indexAt,run_underlying (tf.slice gY),asIntOf,eU,oN]
  ·have:=bj.at (M:=G.M) y 0 (A.add (m.toNat * sz)) (fun j=>cell m.toNat j) (hlen y (List.mem_of_getElem? Qi)).2
    (fun j hj=>by rw [cy]; exact hc _ _ aJ (by rw [(hlen y (List.mem_of_getElem? Qi)).1] at hj; exact hj))
    (fun j d hd=>hr _ y j d Qi hd)
   rw [add_zero'] at this
   exact .dv this
theorem lk (hT:ec P T) {t:Nat} {x i:Operand} {av SF:AV} {kd:IntKind} {m:Int} (hg:bJ ρ ops o.guard=some gd) (ho:o.op=.indexAddr t x i)
  (bU:(nth T t).ok=true) (A7:(nth T t).kind=10) (jO:(nth T (nth T t).elem).ok=true) (hm:gd=true→0≤m∧m<(nth T t).len)
  (hk:aR n o gd nx k SF []) (bp:bk ρ κ gd x av) (mI:bk ρ κ gd i (.dv (.int kd m)))
  (hp:∀(G:Gh) (v:Value),aD G av v→∃a,v=.pointer (some a)∧aD G SF (.pointer (some (a.add (m.toNat * (nth T (nth T t).elem).size))))):Good P C ops n o nx ρ κ k:=by
 obtain ⟨ti,u,z,tf⟩:=hT.facts bU
 obtain ⟨te,ue,ze,iu⟩:=hT.facts jO
 refine bf (fun c=>by rw [ho]; simp) hg hk fun ρ' κ' au g a w G aj aL=>?_
 have hv:=bp ρ' κ' (au.op (by rw [ho]; simp [Op.operands])) g n a w G aj aL
 have eQ:=mI ρ' κ' (au.op (by rw [ho]; simp [Op.operands])) g n a w G aj aL
 generalize hi:a.eval i=vi at eQ
 cases eQ with | dv eQ=>cases eQ with | int =>
 obtain ⟨p,hp,Nt⟩:=hp _ _ hv
 refine ⟨_,?_,Nt⟩
 have hu:P.underlying t=some (.array (nth T t).len (nth T t).elem):=by
  have h1:=tf.kind
  rw [A7] at h1
  have h2:=tf.len
  have h3:=tf.elem
  rw [tf.xE]
  cases u <;> simp [kindOf] at h1
  simp [lenOf] at h2
  simp [JX] at h3
  rw [h2,h3]
 have eU:=hm aL
 simp [execOp,ho,hp,hi,Instr.indexAt,run_underlying hu,asIntOf,Instr.sureAddr,eU,iu.eM w]
theorem y1 (hT:ec P T) {t:Nat} {x i:Operand} {id ver ep bE sz:Nat} {p:List PS} {d:DV} {l:List DV} {kd:IntKind} {m:Int} (hg:bJ ρ ops o.guard=some gd) (ho:o.op=.indexAddr t x i)
  (bU:(nth T t).ok=true) (gY:(nth T t).isSl=true) (jO:(nth T (nth T t).elem).ok=true) (aT:sz=(nth T (nth T t).elem).size) (hb:κ id=.tree ver bE d) (dj:p=[] ∨ ep=bE) (c6:gd=true→get d p=some (.ax sz l))
  (hy:gd=true→0≤m∧m<l.length) (hk:aR n o gd nx k (.loc id ver ep p sz m.toNat 0) [id]) (bp:bk ρ κ gd x (.own id ver ep p)) (mI:bk ρ κ gd i (.dv (.int kd m))):Good P C ops n o nx ρ κ k:=by
 obtain ⟨ti,u,z,tf⟩:=hT.facts bU
 obtain ⟨te,ue,ze,iu⟩:=hT.facts jO
 refine bf (fun c=>by rw [ho]; simp) hg hk fun ρ' κ' au g a w G aj aL=>?_
 have hv:=bp ρ' κ' (au.op (by rw [ho]; simp [Op.operands])) g n a w G aj aL
 have eQ:=mI ρ' κ' (au.op (by rw [ho]; simp [Op.operands])) g n a w G aj aL
 generalize hx:a.eval x=v at hv
 generalize hi:a.eval i=vi at eQ
 obtain ⟨GQ,Qi⟩:=hy aL
 have dL:κ' id=.tree ver bE d:=(au.reads id (by simp)).trans hb
 obtain ⟨u,h1,_,aX⟩:=aj.fit.node dL (c6 aL) rfl
 cases eQ with | dv eQ=>cases eQ with | int =>
 cases hv with
 | own _ _ _ _ _ hh hc =>
  have wZ:=hh
  rw [cJ dj,h1] at hh
  injection hh with hh
  subst hh
  rcases aX with ⟨rfl,_⟩ | ⟨gb,ob,cap,cc,tt,rfl,eh,hw,TQ,C3⟩
  ·simp at Qi; omega
  ·have eU:0≤m∧m<(l.length:Int):=⟨GQ,Qi⟩
   refine ⟨.pointer (some ((⟨gb,ob,none⟩:Addr).add (m.toNat * sz))),?_,?_⟩
   ·have oN:=iu.eM w
    rw [←aT] at oN
    simp [execOp,ho,hx,hi,Instr.indexAt,run_underlying (tf.slice gY),asIntOf,eU,oN]
   ·have:=aD.loc (G:=G) id ver ep p sz m.toNat 0 _ _ _ wZ
    rwa [Nat.add_zero] at this
theorem y2 (hT:ec P T) {t:Nat} {x i:Operand} {id len:Nat} {kd:IntKind} {m:Int} (hg:bJ ρ ops o.guard=some gd) (ho:o.op=.indexAddr t x i)
  (bU:(nth T t).ok=true) (gY:(nth T t).isSl=true) (jO:(nth T (nth T t).elem).ok=true)
  (hy:gd=true→0≤m∧m<len) (hk:aR n o gd nx k (.ptr id (m.toNat * (nth T (nth T t).elem).size)) []) (bp:bk ρ κ gd x (.sle id len)) (mI:bk ρ κ gd i (.dv (.int kd m))):Good P C ops n o nx ρ κ k:=by
 obtain ⟨ti,u,z,tf⟩:=hT.facts bU
 obtain ⟨te,ue,ze,iu⟩:=hT.facts jO
 refine bf (fun c=>by rw [ho]; simp) hg hk fun ρ' κ' au g a w G aj aL=>?_
 have hv:=bp ρ' κ' (au.op (by rw [ho]; simp [Op.operands])) g n a w G aj aL
 have eQ:=mI ρ' κ' (au.op (by rw [ho]; simp [Op.operands])) g n a w G aj aL
 generalize hx:a.eval x=v at hv
 generalize hi:a.eval i=vi at eQ
 have eU:=hy aL
 cases eQ with | dv eQ=>cases eQ with | int =>
 cases hv with
 | sle _ _ b hb =>
  refine ⟨.pointer (some ((⟨b,0,none⟩:Addr).add (m.toNat * (nth T (nth T t).elem).size))),?_,?_⟩
  ·have oN:=iu.eM w
   simp [execOp,ho,hx,hi,Instr.indexAt,run_underlying (tf.slice gY),asIntOf,eU,oN]
  ·rw [cD,Nat.zero_add]; exact .ptr _ _ b hb
theorem y3 (hT:ec P T) {t:Nat} {x i:Operand} {id ver ep sz lo len:Nat} {p:List PS} {kd:IntKind} {m:Int} (hg:bJ ρ ops o.guard=some gd) (ho:o.op=.indexAddr t x i)
  (bU:(nth T t).ok=true) (gY:(nth T t).isSl=true) (jO:(nth T (nth T t).elem).ok=true) (aT:sz=(nth T (nth T t).elem).size)
  (hy:gd=true→0≤m∧m<len) (hk:aR n o gd nx k (.loc id ver ep p sz (lo+m.toNat) 0) []) (bp:bk ρ κ gd x (.pre id ver ep p sz lo len)) (mI:bk ρ κ gd i (.dv (.int kd m))):Good P C ops n o nx ρ κ k:=by
 obtain ⟨ti,u,z,tf⟩:=hT.facts bU
 obtain ⟨te,ue,ze,iu⟩:=hT.facts jO
 refine bf (fun c=>by rw [ho]; simp) hg hk fun ρ' κ' au g a w G aj aL=>?_
 have hv:=bp ρ' κ' (au.op (by rw [ho]; simp [Op.operands])) g n a w G aj aL
 have eQ:=mI ρ' κ' (au.op (by rw [ho]; simp [Op.operands])) g n a w G aj aL
 generalize hx:a.eval x=v at hv
 generalize hi:a.eval i=vi at eQ
 have eU:=hy aL
 cases eQ with | dv eQ=>cases eQ with | int =>
 cases hv with
 | pre _ _ _ _ _ _ _ q c hh =>
  obtain ⟨A,N,c',hq,rfl⟩:=hh (by omega)
  refine ⟨.pointer (some ((A.add (lo * sz)).add (m.toNat * sz))),?_,?_⟩
  ·have oN:=iu.eM w
   rw [←aT] at oN
   simp [execOp,ho,hx,hi,Instr.indexAt,run_underlying (tf.slice gY),asIntOf,eU,oN]
  ·rw [cy,←Nat.add_mul]
   have:=aD.loc (G:=G) id ver ep p sz (lo+m.toNat) 0 _ _ _ hq
   rwa [Nat.add_zero] at this
theorem oQ (hT:ec P T) {t:Nat} {x:Operand} {c:Call} {av:AV} {m:Int} {rd:List Nat} (hg:bJ ρ ops o.guard=some gd) (ho:o.op=.call c) (hc:c.callee=.builtin .len) (ha:c.args.toList=[x]) (jb:c.argTypes.toList=[t])
  (hk:aR n o gd nx k (.dv (.int .i64 m)) rd) (bp:bk ρ κ gd x av) (bU:(nth T t).ok=true)
  (hp:gd=true→∀κ',(∀i,i∈rd→κ' i=κ i)→∀(G:Gh) (w:World) (v:Value),Fit G w κ'→aD G av v →
   ((nth T t).isSl=true∧∃p l c,v=.slice p l c∧(l:Int)=m) ∨ ((nth T t).isStr=true∧∃s,v=.string s∧(s.size:Int)=m) ∨
   (Nat.beq (nth T t).kind 6=true∧∃b es clock,v=.map (some b)∧w.heap[b]?=some (.map es clock)∧(es.size:Int)=m)):Good P C ops n o nx ρ κ k:=by
 have bK:c.args=#[x]:=Array.ext' (by simpa using ha)
 have E3:c.argTypes=#[t]:=Array.ext' (by simpa using jb)
 refine bf (fun c=>by rw [ho]; simp) hg hk fun ρ' κ' au g a w G aj aL=>?_
 have hv:=bp ρ' κ' (au.op (by rw [ho]; simp [Op.operands,Call.operands,hc,bK])) g n a w G aj aL
 refine ⟨.int .i64 m,?_,.dv (.int _ _)⟩
 obtain ⟨ti,u,z,tf⟩:=hT.facts bU
 rcases hp aL κ' au.reads G w _ aj.fit hv with ⟨gY,p,l,cc,F5,hm⟩ | ⟨gY,s,F5,hm⟩ | ⟨Yk,b,es,clock,F5,hw,hm⟩
 ·simp [execOp,ho,resolve,hc,bK,E3,invoke,builtin,Builtin.len_,run_underlying (tf.slice gY),F5,goInt,hm]
 ·simp [execOp,ho,resolve,hc,bK,E3,invoke,builtin,Builtin.len_,run_underlying (tf.string gY),F5,goInt,hm]
 ·have hu:∃kt et,P.underlying t=some (.map kt et):=by
   have h1:=tf.kind
   rw [Nat.eq_of_beq_eq_true Yk] at h1
   cases u <;> simp [kindOf] at h1
   exact ⟨_,_,tf.xE⟩
  obtain ⟨kt,et,hu⟩:=hu
  simp [execOp,ho,resolve,hc,bK,E3,invoke,builtin,Builtin.len_,run_underlying hu,F5,goInt,hm,MapKept.run_getObj_map hw]
theorem fo {w:World} {t e:TypeId} (hu:P.underlying t=some (.slice e)) (a:Option Addr) (l c:Nat):(Op.equal t (.slice a l c) (.slice none 0 0)).run P w=.ok a.isNone w:=by
 have h:∀d,(Op.equalIn (d+1) t (.slice a l c) (.slice none 0 0)).run P w=.ok a.isNone w:=fun d=>by
  cases a <;> simp [Op.equalIn,run_underlying hu]
 simp only [Op.equal,Op.maxDepth,h 9999]
theorem Qj {b:Bool} {p:Prop} (h:bif b then p else False):b=true∧p:=by
 cases b with
 | false=>exact h.elim
 | true=>exact ⟨rfl,h⟩
theorem Ax {κ:Nat→ao} {gd:Bool} {a:AV} {k:Option Bool→List Nat→Prop} (h:wv κ gd a k):∃c rd,k c rd∧(gd=true→∀κ',(∀i,i∈rd→κ' i=κ i)→∀(G:Gh) (w:World) (v:Value),Fit G w κ'→aD G a v→∃p l cc,v=.slice p l cc∧∀b,c=some b→p.isNone=b):=by
 unfold wv at h
 split at h
 ·refine ⟨_,_,h,fun _ κ' _ G w v _ hv=>?_⟩
  cases hv with | dv hv=>cases hv with | aG=>exact ⟨_,_,_,rfl,fun b hb=>by injection hb⟩
 ·rcases h with h | ⟨hl,h⟩
  ·refine ⟨_,_,h,fun _ κ' _ G w v _ hv=>?_⟩
   cases hv with | dv hv=>cases hv with
   | slnil=>exact ⟨_,_,_,rfl,fun b hb=>by cases hb⟩
   | sl=>exact ⟨_,_,_,rfl,fun b hb=>by cases hb⟩
  ·refine ⟨_,_,h,fun _ κ' _ G w v _ hv=>?_⟩
   cases hv with | dv hv=>cases hv with
   | slnil=>exact absurd rfl hl
   | sl=>exact ⟨_,_,_,rfl,fun b hb=>by injection hb⟩
 ·rename_i i ver ep p
  split at h
  ·rename_i aY bE d hk
   have hh:=Qj h; clear h; obtain ⟨hb,h⟩:=hh
   obtain ⟨rfl,dj⟩:=dh hb
   obtain ⟨nd,h,c6⟩:=bA h
   split at h
   ·rename_i sz l
    have key:gd=true→∀κ',(∀j,j∈[i]→κ' j=κ j)→∀(G:Gh) (w:World) (v:Value),Fit G w κ'→aD G (.own i ver ep p) v→∃q m cc,v=.slice q m cc∧(l ≠ []→q.isNone=false):=by
     intro aL κ' au G w v hf hv
     have er:=(au i (by simp)).trans hk
     obtain ⟨u,e1,e2,e3⟩:=hf.node er (c6 aL) rfl
     cases hv with | own _ _ _ _ _ hh hc =>
     rw [cJ dj] at hh
     rw [hh] at e1; injection e1 with e1; subst e1
     rcases e3 with ⟨mF,hx⟩ | ⟨gb,o,cap,c,tt,hx,_⟩
     ·exact ⟨_,_,_,hx,fun hl=>absurd mF hl⟩
     ·exact ⟨_,_,_,hx,fun _=>rfl⟩
    rcases h with h | ⟨hl,h⟩
    ·refine ⟨_,_,h,fun aL κ' au G w v hf hv=>?_⟩
     obtain ⟨q,m,cc,e,_⟩:=key aL κ' au G w v hf hv
     exact ⟨q,m,cc,e,fun b hb=>by cases hb⟩
    ·refine ⟨_,_,h,fun aL κ' au G w v hf hv=>?_⟩
     obtain ⟨q,m,cc,e,e2⟩:=key aL κ' au G w v hf hv
     exact ⟨q,m,cc,e,fun b hb=>by injection hb with hb; rw [e2 hl,hb]⟩
   ·exact h.elim
  ·exact h.elim
 ·refine ⟨_,_,h,fun _ κ' _ G w v _ hv=>?_⟩
  cases hv with | bS _ _ a m hh=>exact ⟨_,_,_,rfl,fun b hb=>by injection hb⟩
 ·exact h.elim
theorem OZ {α:Type} {b:Bool} {x:Option α} {y:α} (h:(bif b then x else none)=some y):b=true∧x=some y:=by cases b <;> simp_all
theorem CN {G:Gh} {w:World} {x y:AV} {u v:Value} {e:Bool} {f:TypeId} {k D:Nat} (hp:pe (P.underlying f)=k) (h:Av k x y=some e) (hx:aD G x u) (hy:aD G y v) :
  (Op.equalIn (D+1) f u v).run P w=.ok e w:=by
 unfold Av at h
 split at h
 ·rename_i kk a k' b
  cases hk:kk == k' with
  | false=>rw [hk] at h; cases h
  | true =>
   rw [hk] at h
   have G8:kk=k':=by simpa using hk
   subst G8
   injection h with h; subst h
   cases hx with | dv hx=>cases hx with | int=>cases hy with | dv hy=>cases hy with | int =>
   obtain ⟨q,hq⟩:∃q,P.underlying f=some (.int q):=by
    unfold pe at hp
    split at hp <;> first | (cases hp; done) | exact ⟨_,by assumption⟩
   exact run_equalIn_int w D f kk q a b hq
 ·rename_i a b
  injection h with h; subst h
  cases hx with | dv hx=>cases hx with | bool=>cases hy with | dv hy=>cases hy with | bool =>
  have hq:P.underlying f=some .bool:=by
   unfold pe at hp
   split at hp <;> first | (cases hp; done) | assumption
  exact run_equalIn_bool w D f a b hq
 ·rename_i a b
  injection h with h; subst h
  cases hx with | dv hx=>cases hx with | str=>cases hy with | dv hy=>cases hy with | str =>
  have hq:P.underlying f=some .string:=by
   unfold pe at hp
   split at hp <;> first | (cases hp; done) | assumption
  exact run_equalIn_string w D f a b hq
 ·cases h
theorem qR {w:World} {e:TypeId} {k:Nat} (he:pe (P.underlying e)=k+1) {xs:Array Value} {off:Nat} {v:Value} (hx:xs[off]?=some v):(part e xs off).run P w=.ok v w:=by
 unfold pe at he
 split at he
 ·rename_i k hu; simp [part,isAgg,run_underlying hu,hx]
 ·rename_i hu; simp [part,isAgg,run_underlying hu,hx]
 ·rename_i hu; simp [part,isAgg,run_underlying hu,hx]
 ·cases he
theorem qS {G:Gh} {w:World} {xs ys:Array Value} {D:Nat}:∀(fs:List Field) (i:Nat) (q:List Nat) (l r:List AV) (e:Bool),vO P i fs=some q→gS q l r=some e →
  (∀(j:Nat) (d:AV),l[j]?=some d→∃u,xs[i+j]?=some u∧aD G d u)→(∀(j:Nat) (d:AV),r[j]?=some d→∃u,ys[i+j]?=some u∧aD G d u) →
  (Op.eqFields (D+1) xs ys fs).run P w=.ok e w
 | [],i,q,l,r,e,hp,he,hx,hy=>by
  simp only [vO,Option.some.injEq] at hp
  subst hp
  cases l <;> cases r <;> simp [gS] at he
  subst he; simp [Op.eqFields]
 | f::fs,i,q,l,r,e,hp,he,hx,hy=>by
  simp only [vO] at hp
  have hh:=OZ hp; clear hp; obtain ⟨hb,hp⟩:=hh
  simp only [Bool.and_eq_true,bne_iff_ne] at hb
  obtain ⟨n1,o1⟩:=hb
  have o1:=Nat.eq_of_beq_eq_true o1
  split at hp
  ·rename_i k q' hk Dc
   injection hp with hp; subst hp
   cases l with
   | nil=>cases r <;> simp [gS] at he
   | cons x l=>cases r with
    | nil=>simp [gS] at he
    | cons y r =>
     simp only [gS] at he
     split at he
     ·rename_i a b ha hb
      injection he with he; subst he
      obtain ⟨u,hu,Vk⟩:=hx 0 x rfl
      obtain ⟨v,hv,QJ⟩:=hy 0 y rfl
      have h1:=CN (w:=w) (D:=D) hk ha Vk QJ
      simp only [Op.eqFields,n1,ne_eq,not_false_eq_true,if_true,Sem.run_bind,o1]
      rw [qR hk (by simpa using hu)]
      simp only [Result.andThen_ok]
      rw [qR hk (by simpa using hv)]
      simp only [Result.andThen_ok,h1]
      cases a with
      | false=>simp
      | true =>
       simp only [Bool.not_true,Bool.false_eq_true,if_false,Bool.true_and]
       exact qS fs (i+1) q' l r b Dc hb (fun j d hd=>by have:=hx (j+1) d (by simpa using hd); rwa [show i+(j+1)=i+1+j by omega] at this)
        (fun j d hd=>by have:=hy (j+1) d (by simpa using hd); rwa [show i+(j+1)=i+1+j by omega] at this)
     ·cases he
  ·cases hp
theorem OH (hT:ec P T) {op:BinOp} {t ty:TypeId} {x y:Operand} (hg:bJ ρ ops o.guard=some gd) (ho:o.op=.binOp op t x y ty) {va vb:AV} (OF:bk ρ κ gd x va) (OG:bk ρ κ gd y vb)
  (h:Pz (nth T t) op va vb fun v=>aR n o gd nx k v []):Good P C ops n o nx ρ κ k:=by
 have hh:=Qj h; clear h; obtain ⟨hb,h⟩:=hh
 simp only [Bool.and_eq_true] at hb
 obtain ⟨i,u,z,tf⟩:=hT.facts hb.1
 split at h
 ·rename_i x1 l r
  split at h
  ·rename_i e he
   have hk:=tf.kind
   rw [Nat.eq_of_beq_eq_true hb.2] at hk
   obtain ⟨fs,rfl⟩:∃fs,u=.struct fs:=by
    cases u <;> simp [kindOf] at hk
    exact ⟨_,rfl⟩
   have heq:=tf.Pq
   simp only [JY] at heq
   split at heq
   ·rename_i q hq
    cases hc:Nat.beq fs.toList.length i.size && !P.stoodInHeld t && !P.eqGuardType P.depth t with
    | false=>rw [hc] at heq; simp only [cond_false] at heq; rw [heq] at he; simp [gS] at he
    | true =>
     rw [hc] at heq
     simp only [cond_true] at heq
     rw [heq] at he
     simp only [Bool.and_eq_true,Bool.not_eq_true'] at hc
     have hf:P.fieldsOf t=fs:=by simp [Program.fieldsOf,tf.xE]
     have core:∀(G:Gh) (w:World) (u v:Value),aD G (.agg (x1::l)) u→aD G (.agg r) v→∃us vs,u=.agg us∧v=.agg vs∧(Op.equalIn 10000 t u v).run P w=.ok e w:=by
      intro G w u v hu hv
      cases hu with | agg _ us Y5 Vk=>cases hv with | agg _ vs Tw QJ =>
      refine ⟨_,_,rfl,rfl,?_⟩
      rw [run_equalIn_struct w 9999 t _ _ (by rw [hf]; exact tf.xE) hc.1.2,hf]
      refine qS (G:=G) (D:=9998) fs.toList 0 q _ _ e hq he (fun j d hd=>?_) (fun j d hd=>?_)
      ·have hj:=(List.getElem?_eq_some_iff.1 hd).1
       exact ⟨us[j]'(by omega),by simp,Vk j d _ hd (List.getElem?_eq_getElem (by omega))⟩
      ·have hj:=(List.getElem?_eq_some_iff.1 hd).1
       exact ⟨vs[j]'(by omega),by simp,QJ j d _ hd (List.getElem?_eq_getElem (by omega))⟩
     have fin:∀c:Bool,aR n o gd nx k (.dv (.bool c)) []→(∀(w:World) (us vs:Array Value),(Op.equalIn 10000 t (.agg us) (.agg vs)).run P w=.ok e w→(binOp op t (.agg us) (.agg vs)).run P w=.ok (.bool c) w)→Good P C ops n o nx ρ κ k:=by
      intro c er aZ
      refine bf (fun c=>by rw [ho]; simp) hg er fun ρ' κ' au g a w G aj aL=>?_
      have h1:=OF ρ' κ' (au.op (by rw [ho]; simp [Op.operands])) g n a w G aj aL
      have h2:=OG ρ' κ' (au.op (by rw [ho]; simp [Op.operands])) g n a w G aj aL
      obtain ⟨us,vs,e1,e2,e3⟩:=core G w _ _ h1 h2
      refine ⟨.bool c,?_,.dv (.bool c)⟩
      rw [e1,e2] at e3
      simp only [execOp,ho,Sem.run_bind]
      rw [e1,e2,run_eqGuard_agg w op t x y us vs hc.2]
      simp only [Result.andThen_ok,aZ w us vs e3,Sem.run_pure]
     split at h
     ·exact fin e h fun w us vs h3=>by rw [run_eql_struct,h3]; rfl
     ·exact fin (!e) h fun w us vs h3=>by rw [run_neq_struct,h3]; rfl
     ·exact h.elim
   ·rw [heq] at he; simp [gS] at he
  ·exact h.elim
 ·exact h.elim
theorem Du (hT:ec P T) {op:BinOp} {t ty:TypeId} {x y:Operand} (hg:bJ ρ ops o.guard=some gd) (ho:o.op=.binOp op t x y ty) {av:AV} (bp:bk ρ κ gd x av) (Fp:bk ρ κ gd y (.dv .aG))
  (h:Au (nth T t) op κ gd av fun v rd=>aR n o gd nx k v rd):Good P C ops n o nx ρ κ k:=by
 unfold Au at h
 have hh:=Qj h; clear h; obtain ⟨hb,h⟩:=hh
 simp only [Bool.and_eq_true] at hb
 obtain ⟨i,u,z,tf⟩:=hT.facts hb.1
 have hu:=tf.slice hb.2
 have core:∀(neg:Bool),(∀(w:World) (p:Option Addr) (l cc:Nat),(binOp op t (.slice p l cc) (.slice none 0 0)).run P w=.ok (.bool (bif neg then !p.isNone else p.isNone)) w)→(wv κ gd av fun c rd=>aR n o gd nx k (Qf neg c) rd)→Good P C ops n o nx ρ κ k:=by
  intro neg aZ h
  obtain ⟨c,rd,hk,hs⟩:=Ax h
  refine bf (fun c=>by rw [ho]; simp) hg hk fun ρ' κ' au g a w G aj aL=>?_
  have h1:=bp ρ' κ' (au.op (by rw [ho]; simp [Op.operands])) g n a w G aj aL
  have h2:=Fp ρ' κ' (au.op (by rw [ho]; simp [Op.operands])) g n a w G aj aL
  obtain ⟨p,l,cc,hv,hp⟩:=hs aL κ' au.reads G w _ aj.fit h1
  generalize hy:a.eval y=vy at h2
  cases h2 with | dv h2=>cases h2 with | aG =>
  refine ⟨.bool (bif neg then !p.isNone else p.isNone),?_,?_⟩
  ·simp only [execOp,ho,Sem.run_bind]
   rw [gl op t x y _ _ (by rw [hv]; simp) (by rw [hv]; simp),hv,hy]
   simp only [Result.andThen_ok,aZ w p l cc,Sem.run_pure]
  ·cases c with
   | none=>exact .dv (.mB _)
   | some b=>rw [hp b rfl]; exact .dv (.bool _)
 split at h
 ·exact core false (fun w p l cc=>by simp only [binOp,Sem.run_bind,fo hu,Result.andThen_ok,Sem.run_pure,cond_false]) h
 ·exact core true (fun w p l cc=>by simp only [binOp,Sem.run_bind,fo hu,Result.andThen_ok,Sem.run_pure,cond_true]) h
 ·exact h.elim
theorem Dy (hT:ec P T) {s t:TypeId} {x:Operand} {kx kd:IntKind} {m:Int} (hg:bJ ρ ops o.guard=some gd) (ho:o.op=.convert s t x) (hs:(nth T s).ok=true) (ht:(nth T t).ok=true) (hi:(nth T t).Di=some kd) (hk:aR n o gd nx k (.dv (.int kd (kd.wrap m))) []) (bp:bk ρ κ gd x (.dv (.int kx m))):Good P C ops n o nx ρ κ k:=by
 obtain ⟨i1,u1,z1,Q1⟩:=hT.facts hs
 obtain ⟨i2,u2,z2,S0⟩:=hT.facts ht
 refine bf (fun c=>by rw [ho]; simp) hg hk fun ρ' κ' au g a w G aj aL=>?_
 have hv:=bp ρ' κ' (au.op (by rw [ho]; simp [Op.operands])) g n a w G aj aL
 generalize hx:a.eval x=v at hv
 cases hv with | dv hv=>cases hv with | int =>
 have h2:=S0.Di
 rw [hi] at h2
 cases u2 <;> simp [AW] at h2
 subst h2
 refine ⟨.int kd (kd.wrap m),?_,.dv (.int _ _)⟩
 simp [execOp,ho,hx,convert,run_underlying Q1.xE,run_underlying S0.xE,Conv.intToInt]
theorem IF (hT:ec P T) {t:TypeId} {x ix:Operand} {kx:IntKind} {m:Int} {s:ByteArray} {b:UInt8} (hg:bJ ρ ops o.guard=some gd) (ho:o.op=.index t x ix) (ht:(nth T t).ok=true) (aj:(nth T t).isStr=true) (hb:gd=true→0≤m∧s[m.toNat]?=some b) (hk:aR n o gd nx k (.dv (.int .u8 b.toNat)) []) (bp:bk ρ κ gd x (.dv (.str s))) (mI:bk ρ κ gd ix (.dv (.int kx m))):Good P C ops n o nx ρ κ k:=by
 obtain ⟨i1,u1,z1,Q1⟩:=hT.facts ht
 have hu:=Q1.string aj
 refine bf (fun c=>by rw [ho]; simp) hg hk fun ρ' κ' au g a w G aj aL=>?_
 have hv:=bp ρ' κ' (au.op (by rw [ho]; simp [Op.operands])) g n a w G aj aL
 have hi:=mI ρ' κ' (au.op (by rw [ho]; simp [Op.operands])) g n a w G aj aL
 generalize hx:a.eval x=v at hv
 generalize hy:a.eval ix=u at hi
 cases hv with | dv hv=>cases hv with | str =>
 cases hi with | dv hi=>cases hi with | int =>
 obtain ⟨h0,hb⟩:=hb aL
 refine ⟨.int .u8 b.toNat,?_,.dv (.int _ _)⟩
 simp [execOp,ho,hx,hy,Instr.index,asIntOf,run_underlying hu,h0,hb]
theorem OL {x y:Operand} {c:Call} {p q:Int} (hg:bJ ρ ops o.guard=some gd) (ho:o.op=.call c) (hc:c.callee=.builtin .min) (ha:c.args.toList=[x,y])
  (hk:aR n o gd nx k (.dv (.int .i64 (if q<p then q else p))) []) (bp:bk ρ κ gd x (.dv (.int .i64 p))) (mI:bk ρ κ gd y (.dv (.int .i64 q))):Good P C ops n o nx ρ κ k:=by
 have bK:c.args=#[x,y]:=Array.ext' (by simpa using ha)
 refine bf (fun c=>by rw [ho]; simp) hg hk fun ρ' κ' au g a w G aj aL=>?_
 have hv:=bp ρ' κ' (au.op (by rw [ho]; simp [Op.operands,Call.operands,hc,bK])) g n a w G aj aL
 have eQ:=mI ρ' κ' (au.op (by rw [ho]; simp [Op.operands,Call.operands,hc,bK])) g n a w G aj aL
 generalize hx:a.eval x=v at hv
 generalize hi:a.eval y=vi at eQ
 cases eQ with | dv eQ=>cases eQ with | int =>
 cases hv with | dv hv=>cases hv with | int =>
 refine ⟨_,?_,.dv (.int _ _)⟩
 simp [execOp,ho,resolve,hc,bK,invoke,builtin,Builtin.min_,Builtin.min2,hx,hi]
theorem OM {x y:Operand} {c:Call} {p q:Int} (hg:bJ ρ ops o.guard=some gd) (ho:o.op=.call c) (hc:c.callee=.builtin .max) (ha:c.args.toList=[x,y])
  (hk:aR n o gd nx k (.dv (.int .i64 (if p<q then q else p))) []) (bp:bk ρ κ gd x (.dv (.int .i64 p))) (mI:bk ρ κ gd y (.dv (.int .i64 q))):Good P C ops n o nx ρ κ k:=by
 have bK:c.args=#[x,y]:=Array.ext' (by simpa using ha)
 refine bf (fun c=>by rw [ho]; simp) hg hk fun ρ' κ' au g a w G aj aL=>?_
 have hv:=bp ρ' κ' (au.op (by rw [ho]; simp [Op.operands,Call.operands,hc,bK])) g n a w G aj aL
 have eQ:=mI ρ' κ' (au.op (by rw [ho]; simp [Op.operands,Call.operands,hc,bK])) g n a w G aj aL
 generalize hx:a.eval x=v at hv
 generalize hi:a.eval y=vi at eQ
 cases eQ with | dv eQ=>cases eQ with | int =>
 cases hv with | dv hv=>cases hv with | int =>
 refine ⟨_,?_,.dv (.int _ _)⟩
 simp [execOp,ho,resolve,hc,bK,invoke,builtin,Builtin.max_,Builtin.max2,hx,hi]
def lX (ρ:Nat→AV) (κ:Nat→ao) (g:Bool):List (Nat × Operand)→List (Nat × AV)→Prop
 | [],[]=>True
 | (i,x)::r,(j,v)::l=>i=j∧bk ρ κ g x v∧lX ρ κ g r l
 | _,_=>False
theorem kg:∀{l:List (Nat × Operand)} {k:List (Nat × AV)→Prop},qu ρ κ gd l k→∃r,k r∧lX ρ κ gd l r
 | [],k,h=>⟨[],h,tv⟩
 | (i,x)::l,k,h=>by
  obtain ⟨v,h,hv⟩:=aE h
  obtain ⟨r,h,hr⟩:=kg h
  exact ⟨_,h,rfl,hv,hr⟩
theorem eO:∀{l:List AV},bN l=true→∀v,v∈l→v.ak=true
 | [],_,v,h=>by simp at h
 | x::l,h,v,hv=>by
  simp only [bN,Bool.and_eq_true] at h
  rcases List.mem_cons.1 hv with rfl | hv
  ·exact h.1
  ·exact eO h.2 v hv
section
variable {G:Gh}
theorem bP.cI {l:List AV} {vs:List Value} (h:bP G l vs) (hc:bN l=true):∀v,v∈vs→v.oneCell'=true:=by
 intro v hv
 obtain ⟨j,hj,rfl⟩:=List.getElem_of_mem hv
 have oq:j<l.length:=by rw [h.1]; exact hj
 exact (h.2 j l[j] vs[j] (List.getElem?_eq_getElem oq) (List.getElem?_eq_getElem hj)).cI (eO hc _ (List.getElem_mem oq))
theorem kT {av:AV} {v:Value} (h:aD G av v) (hc:bN (cellsOf av)=true):bP G (cellsOf av) v.cells.toList:=by
 cases av with
 | agg l =>
  cases h with
  | agg _ vs hl hr=>exact ⟨by simpa [cellsOf,Value.cells] using hl,by simpa [cellsOf,Value.cells] using hr⟩
 | _ =>
  simp only [cellsOf,bN,Bool.and_true] at hc
  have h1:=h.cI hc
  have:v.cells=#[v]:=by cases v <;> first | rfl | (simp [Value.oneCell'] at h1)
  rw [this]
  refine ⟨rfl,fun j d u hd hu=>?_⟩
  cases j with
  | zero=>simp [cellsOf] at hd hu; subst hd; subst hu; exact h
  | succ j=>simp [cellsOf] at hd
theorem bP.fY {l:List AV} {vs:List Value} {l':List AV} {sA:List Value} (h:bP G l vs) (h':bP G l' sA) (off:Nat) (hle:off+l'.length≤l.length) :
  bP G (fY l off l') (vs.take off++sA++vs.drop (off+sA.length)):=by
 have e:=h.1
 have e':=h'.1
 constructor
 ·simp [TM.fY]; omega
 ·intro j d v hd hv
  simp only [TM.fY,List.append_assoc] at hd hv
  rw [List.getElem?_append] at hd hv
  simp only [List.length_take] at hd hv
  by_cases h1:j<off
  ·rw [if_pos (by omega)] at hd hv
   rw [List.getElem?_take,if_pos h1] at hd hv
   exact h.2 j d v hd hv
  ·rw [if_neg (by omega)] at hd hv
   rw [List.getElem?_append] at hd hv
   rw [show min off l.length=off by omega] at hd
   rw [show min off vs.length=off by omega] at hv
   by_cases h2:j - off<l'.length
   ·rw [if_pos h2] at hd
    rw [if_pos (by omega)] at hv
    exact h'.2 _ d v hd hv
   ·rw [if_neg h2] at hd
    rw [if_neg (by omega)] at hv
    rw [List.getElem?_drop] at hd hv
    rw [←e'] at hv
    exact h.2 _ d v hd hv
theorem CO (off:Nat):∀(vs:List Value) (i:Nat) (cur:Array Value),off+i+vs.length≤cur.size →
  ((vs.zipIdx i).foldl (fun cs (p:Value × Nat)=>cs.setIfInBounds (off+p.2) p.1) cur).toList=cur.toList.take (off+i)++vs++cur.toList.drop (off+i+vs.length)
 | [],i,cur,_=>by simp
 | v::rest,i,cur,hl=>by
  simp only [List.zipIdx_cons,List.foldl_cons]
  rw [CO off rest (i+1) (cur.setIfInBounds (off+i) v) (by simp at hl ⊢; omega)]
  have e:=list_seg_step cur.toList (off+i) v rest (by simp at hl ⊢; omega)
  simpa [Array.toList_setIfInBounds,Nat.add_assoc] using e
theorem pD (place:Nat→Option (Nat × Nat)):∀(parts:List (Nat × AV)) (E4:List (Nat × Value)) (l l':List AV) (cs:Array Value),
  (parts.length=E4.length∧∀(j:Nat) (p:Nat × AV) (q:Nat × Value),parts[j]?=some p→E4[j]?=some q→p.1=q.1∧aD G p.2 q.2)→bP G l cs.toList→oC place l parts=some l' →
  ∃Nu,Instr.fill place cs E4=some Nu∧bP G l' Nu.toList
 | [],[],l,l',cs,_,hc,h=>by simp [oC] at h; subst h; exact ⟨cs,rfl,hc⟩
 | [],q::vr,l,l',cs,hp,_,_=>by simp at hp
 | p::r,[],l,l',cs,hp,_,_=>by simp at hp
 | (i,av)::r,(i',v)::vr,l,l',cs,hp,hc,h=>by
  have h0:=hp.2 0 (i,av) (i',v) rfl rfl
  simp only at h0
  obtain ⟨rfl,hv⟩:=h0
  simp only [oC] at h
  split at h
  ·cases h
  ·rename_i off sz O1
   cases hb:(Nat.beq (cellsOf av).length sz && Nat.ble (off+sz) l.length && bN (cellsOf av)) with
   | false=>rw [hb] at h; cases h
   | true =>
    rw [hb] at h
    simp only [cond_true] at h
    simp only [Bool.and_eq_true] at hb
    obtain ⟨⟨j9,cw⟩,wO⟩:=hb
    have j9:=Nat.eq_of_beq_eq_true j9
    have cw:=Nat.le_of_ble_eq_true cw
    have ov:=kT hv wO
    have aT:v.cells.size=sz:=by rw [←j9,ov.1]; simp
    have Y6:l.length=cs.size:=by rw [hc.1]; simp
    have iM:((v.cells.zipIdx.foldl (fun cs (p:Value × Nat)=>cs.setIfInBounds (off+p.2) p.1) cs).toList)=cs.toList.take off++v.cells.toList++cs.toList.drop (off+v.cells.toList.length):=by
     rw [←Array.foldl_toList,Array.toList_zipIdx]
     have:=CO off v.cells.toList 0 cs (by simp; omega)
     simpa using this
    have gC:bP G (fY l off (cellsOf av)) (v.cells.zipIdx.foldl (fun cs (p:Value × Nat)=>cs.setIfInBounds (off+p.2) p.1) cs).toList:=by
     rw [iM]
     exact hc.fY ov off (by omega)
    obtain ⟨Nu,h1,h2⟩:=pD place r vr _ l' _ ⟨by simpa using hp.1,fun j p q Nt Dc=>hp.2 (j+1) p q (by simpa using Nt) (by simpa using Dc)⟩ gC h
    refine ⟨Nu,?_,h2⟩
    simp only [Instr.fill,O1,aT]
    rw [if_neg (by simp; omega)]
    exact h1
end
theorem lX.rel {ρ':Nat→AV} {κ':Nat→ao} {g:dx} {a:Act} {w:World} {G:Gh} (aj:bY g n ρ' κ' a w G) (aL:gd=true) :
  ∀{l:List (Nat × Operand)} {r:List (Nat × AV)},lX ρ κ gd l r→(∀p,p∈l→yT ρ ρ' κ κ' p.2) →
   (r.length=(l.map fun p=>(p.1,a.eval p.2)).length∧∀(j:Nat) (p:Nat × AV) (q:Nat × Value),r[j]?=some p→(l.map fun p=>(p.1,a.eval p.2))[j]?=some q→p.1=q.1∧aD G p.2 q.2)
 | [],[],_,_=>⟨rfl,by simp⟩
 | [],_::_,h,_=>h.elim
 | _::_,[],h,_=>h.elim
 | (i,x)::l,(j,v)::r,⟨Fi,hv,h⟩,au=>by
  obtain ⟨h1,h2⟩:=lX.rel aj aL h (fun p hp=>au p (by simp [hp]))
  have Ef:=hv ρ' κ' (au (i,x) (by simp)) g n a w G aj aL
  refine ⟨by simpa using h1,fun jj p q hp hq=>?_⟩
  cases jj with
  | zero=>simp at hp hq; subst hp; subst hq; exact ⟨Fi.symm,Ef⟩
  | succ jj=>exact h2 jj p q (by simpa using hp) (by simpa using hq)
theorem CP {w:World} (fs:List Field) (h:∀f,f∈fs→∃j,P.info? f.type=some j):((fs.toArray.mapM fun f=>do pure (f.offset,←sizeOf f.type)):Sem (Array (Nat × Nat))).run P w=.ok (fs.map fun f=>(f.offset,match P.info? f.type with | some j=>j.size | none=>0)).toArray w:=by
 have key:∀(l:List Field),(∀f,f∈l→∃j,P.info? f.type=some j)→((l.mapM fun f=>do pure (f.offset,←sizeOf f.type)):Sem (List (Nat × Nat))).run P w=.ok (l.map fun f=>(f.offset,match P.info? f.type with | some j=>j.size | none=>0)) w:=by
  intro l
  induction l with
  | nil=>intro _; rfl
  | cons f r ih =>
   intro hl
   obtain ⟨j,hj⟩:=hl f (by simp)
   have:=ih (fun f hf=>hl f (by simp [hf]))
   simp only [List.mapM_cons,Sem.run_bind,iq hj,Result.andThen_ok,Sem.run_pure,this,List.map_cons,hj]
 rw [List.mapM_toArray]
 simp only [Sem.run_map,key fs h,Result.andThen_ok]
theorem IC (hT:ec P T) {t:Nat} {parts:Array (Nat × Operand)} {l:List (Nat × AV)} {cs:List AV} (hg:bJ ρ ops o.guard=some gd) (ho:o.op=.build t parts) (bU:(nth T t).ok=true)
  (hp:lX ρ κ gd parts.toList l) (LI:oC (fun i=>(nth T t).fields[i]?) (jP (nth T t).zero) l=some cs) (Vl:Nat.beq (nth T t).kind 9=true) (hk:aR n o gd nx k (.agg cs) []):Good P C ops n o nx ρ κ k:=by
 obtain ⟨ti,u,z,tf⟩:=hT.facts bU
 have hu:∃fs,u=.struct fs:=by
  have h1:=tf.kind
  rw [Nat.eq_of_beq_eq_true Vl] at h1
  cases u <;> simp [kindOf] at h1
  exact ⟨_,rfl⟩
 obtain ⟨fs,rfl⟩:=hu
 refine bf (fun c=>by rw [ho]; simp) hg hk fun ρ' κ' au g a w G aj aL=>?_
 have D5:∀p,p∈parts.toList→yT ρ ρ' κ κ' p.2:=fun p Nt=>au.op (by
  rw [ho]
  simp only [Op.operands,List.mem_toArray,List.mem_map]
  exact ⟨p,Nt,rfl⟩)
 have h1:=hp.rel aj aL D5
 have hz:bP G (jP (nth T t).zero) z.cells.toList:=by
  exact gJ (dU (M:=G.M) tf.zc).1
 obtain ⟨Nu,h3,h4⟩:=pD _ l _ _ cs z.cells h1 hz LI
 have Vm:aD G (.agg cs) (.agg Nu):=by
  have:=aD.agg (G:=G) cs Nu.toList h4.1 h4.2
  simpa using this
 refine ⟨.agg Nu,?_,Vm⟩
 ·have O1:((fs.mapM fun f=>do pure (f.offset,←sizeOf f.type)):Sem (Array (Nat × Nat))).run P w=.ok (nth T t).fields.toArray w:=by
   have:=CP (P:=P) (w:=w) fs.toList (fun f hf=>by
    have:=tf.fin
    simp only [vN,List.all_eq_true] at this
    exact Option.isSome_iff_exists.1 (this f hf))
   simp only [Array.toArray_toList] at this
   rw [this,tf.fields]
   rfl
  have Gy:Instr.fill (fun i=>(nth T t).fields.toArray[i]?) z.cells (parts.map fun p=>(p.1,a.eval p.2)).toList=some Nu:=by
   simpa using h3
  simp only [execOp,ho,Instr.build,Sem.run_bind,tf.qQ w,Result.andThen_ok,run_underlying tf.xE,O1]
  rw [Gy]
  rfl
end
end Go.TM
