import Derived.Test.YtknnpcfhekkjjaaGreatDoorFM4
import Derived.Laws.StructEq
set_option linter.all false
namespace Go.TM
section
open Go.RowKit
variable [cn]
section
variable {P:Program} {C:dP->Prop} {T:List TI} {ops:List Oper} {n:Nat} {o:Oper} {nx:Nat} {ρ:Nat->AV} {κ:Nat->aq} {k:kN->Nat->Prop} {gd:Bool}
theorem Rp{x:Operand}(hg:bZ ρ ops o.guard=some gd)(ho:o.op=.move x)(h:ex ρ κ gd x fun v=>aT n o gd nx k v []):Good P C ops n o nx ρ κ k:=by
 by_cases hm:gM ρ κ o=Mn ρ o
 ·obtain⟨av,hk,bJ⟩:=aD h
  refine bo (fun c=>by rw[ho];simp) hg hk fun ρ' κ' aw g a w G ai aN=>?_
  have hv:=bJ ρ' κ' (aw.opR (by rw[ho];simp[Op.operands]) hm) g n a w G ai aN
  exact⟨_,by simp[execOp,ho],hv⟩
 ·unfold gM at hm
  split at hm
  ·rename_i t ht
   rw[ho]at ht
   injection ht with ht
   subst ht
   cases hb:mvT κ (ρ t)with
   |false=>rw[hb]at hm;exact absurd rfl hm
   |true=>
    generalize hρ:ρ t=v at hb
    cases v with
    |own i ver ep p=>
     simp only[mvT]at hb
     cases hk:κ i with
     |tree V E d=>
      unfold ex at h
      simp only[ev,hρ,res,hk]at h
      cases hc:Nat.beq ver V&&(emp p||Nat.beq ep E)with
      |true=>
       rw[hc]at h
       simp only[cond_true]at h
       rw[force_eq]at h
       refine bo (fun c=>by rw[ho];simp) hg h fun ρ' κ' aw g a w G ai aN=>?_
       have h1:=ai.env t
       rw[aw.bQ t (by unfold Oper.looksAt;rw[ho];exact abQ.2 (.inl (by simp[Op.operands]))),hρ]at h1
       exact⟨_,by simp only[execOp,ho];rfl,h1⟩
      |false=>
       rw[hc]at h
       simp only[cond_false]at h
       rw[force_eq]at h
       refine bo (fun c=>by rw[ho];simp) hg h fun ρ' κ' aw g a w G ai aN=>?_
       exact⟨a.eval (.tmp t),by simp[execOp,ho],.any _⟩
     |_=>rw[hk]at hb;cases hb
    |_=>cases hb
  ·exact absurd rfl hm
theorem KI{x:Operand}{av:AV}(hg:bZ ρ ops o.guard=some gd)(ho:o.op=.assign x)(hk:aT n o gd nx k av [])(bJ:bz ρ κ gd x av):Good P C ops n o nx ρ κ k:=by
 refine bo (fun c=>by rw[ho];simp) hg hk fun ρ' κ' aw g a w G ai aN=>?_
 have hv:=bJ ρ' κ' (aw.op (by rw[ho];simp[Op.operands])) g n a w G ai aN
 exact⟨_,by simp[execOp,ho],hv⟩
theorem oR{x:Operand}{av:AV}(hg:bZ ρ ops o.guard=some gd)(ho:o.op=.nilCheck x)(hk:aT n o gd nx k av [])(bJ:bz ρ κ gd x av)
 (hp:∀(G:Gh) (v:Value),aG G av v->∃a,v=.pointer (some a)):Good P C ops n o nx ρ κ k:=by
 refine bo (fun c=>by rw[ho];simp) hg hk fun ρ' κ' aw g a w G ai aN=>?_
 have hv:=bJ ρ' κ' (aw.op (by rw[ho];simp[Op.operands])) g n a w G ai aN
 obtain⟨p,hp⟩:=hp _ _ hv
 refine⟨_,?_,hv⟩
 simp[execOp,ho,hp]
theorem M7(hT:fb P T){op:BinOp}{t ty:TypeId}{x y:Operand}(hg:bZ ρ ops o.guard=some gd)(ho:o.op=.binOp op t x y ty)
 {va vb:AV} (UL:bz ρ κ gd x va) (UM:bz ρ κ gd y vb) (h:sU (nth T t) op va vb gd fun v=>aT n o gd nx k v []):Good P C ops n o nx ρ κ k:=by
 obtain⟨r,hk,hc,hr⟩:=IK (P:=P) hT h
 refine bo (fun c=>by rw[ho];simp) hg hk fun ρ' κ' aw g a w G ai aN=>?_
 have h1:=UL ρ' κ' (aw.op (by rw[ho];simp[Op.operands])) g n a w G ai aN
 have h2:=UM ρ' κ' (aw.op (by rw[ho];simp[Op.operands])) g n a w G ai aN
 obtain⟨v,h3,h4,h5,h6⟩:=hr G w _ _ aN h1 h2
 refine⟨v,?_,.dv h4⟩
 simp only[execOp,ho,Sem.run_bind,iI op t x y _ _ h5 h6,Result.andThen_ok,h3,Sem.run_pure]
theorem UO{t:TypeId}{x:Operand}{b:Bool}(hg:bZ ρ ops o.guard=some gd)(ho:o.op=.unOp .not t x)(hk:aT n o gd nx k (.dv (.bool (!b))) [])(bJ:bz ρ κ gd x (.dv (.bool b))):Good P C ops n o nx ρ κ k:=by
 refine bo (fun c=>by rw[ho];simp) hg hk fun ρ' κ' aw g a w G ai aN=>?_
 have hv:=bJ ρ' κ' (aw.op (by rw[ho];simp[Op.operands])) g n a w G ai aN
 generalize hx:a.eval x=v at hv
 cases hv with|dv hv=>cases hv with|bool=>
 exact⟨_,by simp[execOp,ho,hx,Op.unary],.dv (.bool _)⟩
theorem UP{t:TypeId}{x:Operand}{kd:IntKind}{m:Int}(hg:bZ ρ ops o.guard=some gd)(ho:o.op=.unOp .neg t x)(hk:arith kd (0-m) gd fun v=>aT n o gd nx k v [])(bJ:bz ρ κ gd x (.dv (.int kd m))):Good P C ops n o nx ρ κ k:=by
 obtain⟨r,hk,he⟩:=jT hk
 refine bo (fun c=>by rw[ho];simp) hg hk fun ρ' κ' aw g a w G ai aN=>?_
 have hv:=bJ ρ' κ' (aw.op (by rw[ho];simp[Op.operands])) g n a w G ai aN
 generalize hx:a.eval x=v at hv
 cases hv with|dv hv=>cases hv with|int=>
 refine⟨.int kd r,?_,.dv (.int kd r)⟩
 have:=he aN
 simp only[execOp,ho,hx,Op.unary,Op.intArith,this,Sem.run_bind,Sem.run_pure,Result.andThen_ok]
theorem G8{x:Operand}{i:Nat}{l:List AV}{av:AV}(hg:bZ ρ ops o.guard=some gd)(ho:o.op=.extract x i)(hk:aT n o gd nx k av [])(hl:l[i]?=some av)(bJ:bz ρ κ gd x (.fL l)):Good P C ops n o nx ρ κ k:=by
 refine bo (fun c=>by rw[ho];simp) hg hk fun ρ' κ' aw g a w G ai aN=>?_
 have hv:=bJ ρ' κ' (aw.op (by rw[ho];simp[Op.operands])) g n a w G ai aN
 generalize hx:a.eval x=v at hv
 cases hv with
 |fL _ vs hlen hr=>
  have hi:i<l.length:=(abI.1 hl).1
  have hvi:vs[i]?=some (vs[i]'(by omega)):=aaj (by omega)
  refine⟨_,?_,hr i av _ hl hvi⟩
  simp[execOp,ho,hx,Instr.extract,hvi]
theorem ny{c x y:Operand}{b p q:Bool}(hg:bZ ρ ops o.guard=some gd)(ho:o.op=.pick c x y)(hk:aT n o gd nx k (.dv (.bool (bif b then p else q))) [])
 (hc:bz ρ κ gd c (.dv (.bool b))) (hx:bz ρ κ (gd&&b) x (.dv (.bool p))) (hy:bz ρ κ (gd&& !b) y (.dv (.bool q))):Good P C ops n o nx ρ κ k:=by
 refine bo (fun c=>by rw[ho];simp) hg hk fun ρ' κ' aw g a w G ai aN=>?_
 have hv:=hc ρ' κ' (aw.op (by rw[ho];simp[Op.operands])) g n a w G ai aN
 generalize hxc:a.eval c=v at hv
 cases hv with|dv hv=>cases hv with|bool=>
 subst aN
 cases b with
 |true=>
  have hv:=hx ρ' κ' (aw.op (by rw[ho];simp[Op.operands])) g n a w G ai rfl
  generalize qp:a.eval x=v at hv
  cases hv with|dv hv=>cases hv with|bool=>
  exact⟨_,by simp[execOp,ho,hxc,qp,asBool],.dv (.bool _)⟩
 |false=>
  have hv:=hy ρ' κ' (aw.op (by rw[ho];simp[Op.operands])) g n a w G ai rfl
  generalize qp:a.eval y=v at hv
  cases hv with|dv hv=>cases hv with|bool=>
  exact⟨_,by simp[execOp,ho,hxc,qp,asBool],.dv (.bool _)⟩
theorem nz(hT:fb P T){t f off sz:Nat}{x:Operand}{av ZX:AV}(hg:bZ ρ ops o.guard=some gd)(ho:o.op=.fieldAddr t x f)(cr:(nth T t).ok=true)(hf:(nth T t).fields[f]?=some (off,sz+1))
 (hk:aT n o gd nx k ZX []) (bJ:bz ρ κ gd x av)
 (hp:∀(G:Gh) (v:Value),aG G av v->∃a,v=.pointer (some a)/\aG G ZX (.pointer (some (a.add off)))):Good P C ops n o nx ρ κ k:=by
 obtain⟨i,u,z,tf⟩:=hT.facts cr
 obtain⟨fs,fd,hu,ZY,QL,j,hj,hjs⟩:=tf.field hf (by omega)
 refine bo (fun c=>by rw[ho];simp) hg hk fun ρ' κ' aw g a w G ai aN=>?_
 have hv:=bJ ρ' κ' (aw.op (by rw[ho];simp[Op.operands])) g n a w G ai aN
 obtain⟨p,hp,Tj⟩:=hp _ _ hv
 refine⟨_,?_,Tj⟩
 simp[execOp,ho,hp,Instr.fieldAt,run_underlying hu,ZY,Instr.sureAddr,fieldPlace,jS hj,hjs,QL]
theorem dY{agg:Bool}{l:List AV}{off sz:Nat}{ret:AV->Prop}(h:ct agg l off sz ret):
 ∃v,ret v/\((agg=true/\off+sz<=l.length/\v=.agg ((l.drop off).take sz))\/(agg=false/\l[off]?=some v)):=by
 unfold ct at h
 cases agg with
 |true=>
  simp only[cond_true]at h
  cases hb:Nat.ble (off+sz) l.length with
  |false=>rw[hb]at h;exact h.elim
  |true=>rw[hb]at h;exact⟨_,h,.inl ⟨rfl,Nat.le_of_ble_eq_true hb,rfl⟩⟩
 |false=>
  simp only[cond_false]at h
  split at h
  ·rename_i v hv;rw[force_eq]at h;exact⟨v,h,.inr ⟨rfl,hv⟩⟩
  ·exact h.elim
theorem kW(hT:fb P T){t off:Nat}{l:List AV}{av:AV}{w:World}{G:Gh}(cr:(nth T t).ok=true)(A:Addr)(vs:Nat->Value)
 (hc:∀j,j<l.length->w.cell? (A.add j)=some (vs j)) (hr:∀(j:Nat) (d:AV),l[j]?=some d->aG G d (vs j))
 (hp:((nth T t).agg=true/\off+(nth T t).size<=l.length/\av=.agg ((l.drop off).take (nth T t).size))\/((nth T t).agg=false/\l[off]?=some av)):
 ∃v,(Instr.loadAt t (.pointer (some (A.add off)))).run P w=.ok v w/\aG G av v:=by
 obtain⟨i,u,z,tf⟩:=hT.facts cr
 rcases hp with⟨ha,hle,rfl⟩|⟨ha,hl⟩
 ·refine⟨.agg ((List.range (nth T t).size).map fun j=>vs (off+j)).toArray,?_,?_⟩
  ·have:=run_loadCells (P:=P) w (A.add off) (nth T t).size (fun j=>vs (off+j)) (fun j hj=>by rw[cL];exact hc _ (by omega))
   simp only[Instr.loadAt,Instr.sureAddr,Sem.run_bind,Sem.run_pure,Result.andThen_ok,loadVar,tf.vc w,ha,if_true,tf.fP w,this]
  ·refine .agg _ _ (by simp;omega) fun j d v hd hv=>?_
   rw[List.getElem?_take]at hd
   split at hd
   ·rename_i hj
    rw[List.getElem?_drop]at hd
    simp[hj]at hv
    subst hv
    exact hr _ _ hd
   ·cases hd
 ·have au:off<l.length:=(abI.1 hl).1
  refine⟨vs off,?_,hr _ _ hl⟩
  simp only[Instr.loadAt,Instr.sureAddr,Sem.run_bind,Sem.run_pure,Result.andThen_ok,loadVar,tf.vc w,ha,Bool.false_eq_true,if_false,run_load,hc off au]
theorem Eg(hT:fb P T){t i off:Nat}{x:Operand}{l:List AV}(hg:bZ ρ ops o.guard=some gd)(ho:o.op=.load t x)(cr:(nth T t).ok=true)(hb:κ i=.cells l)
 (hk:ct (nth T t).agg l off (nth T t).size fun v=>aT n o gd nx k v [i]) (bJ:bz ρ κ gd x (.ptr i off)):Good P C ops n o nx ρ κ k:=by
 obtain⟨av,hk,hp⟩:=dY hk
 refine bo (fun c=>by rw[ho];simp) hg hk fun ρ' κ' aw g a w G ai aN=>?_
 have hv:=bJ ρ' κ' (aw.op (by rw[ho];simp[Op.operands])) g n a w G ai aN
 have eb:κ' i=.cells l:=(aw.reads i (by simp)).trans hb
 have ux:=ai.fit.box i
 rw[eb]at ux
 obtain⟨b,c,tt,hbe,hw,aV,mq,hr⟩:=ux
 generalize hx:a.eval x=v at hv
 cases hv with
 |ptr _ _ b' Cp=>
 rw[hbe]at Cp;injection Cp with Cp;subst Cp
 have hA:(⟨b,off,none⟩:Addr)=(⟨b,0,none⟩:Addr).add off:=by rw[eO];simp
 obtain⟨v,h1,h2⟩:=kW (P:=P) (av:=av) (w:=w) (G:=G) (l:=l) (off:=off) hT cr ⟨b,0,none⟩ (fun j=>c.getD j undef) (fun j hj=>by
  rw[eO]
  simp[World.cell?,hw,aV,hj]) (fun j d hd=>by
  have hj:j<l.length:=(abI.1 hd).1
  exact hr j d _ hd (by simp[aV,hj])) hp
 refine⟨v,?_,h2⟩
 rw[<-hA]at h1
 simp only[execOp,ho,hx,Sem.run_bind,h1,Result.andThen_ok,Sem.run_pure]
theorem G6(hT:fb P T){t off:Nat}{x:Operand}{y:DV}(hg:bZ ρ ops o.guard=some gd)(ho:o.op=.load t x)(cr:(nth T t).ok=true)
 (hk:ct (nth T t).agg (fc y.cells) off (nth T t).size fun v=>aT n o gd nx k v []) (bJ:bz ρ κ gd x (.dv (.at y off))):Good P C ops n o nx ρ κ k:=by
 obtain⟨av,hk,hp⟩:=dY hk
 refine bo (fun c=>by rw[ho];simp) hg hk fun ρ' κ' aw g a w G ai aN=>?_
 have hv:=bJ ρ' κ' (aw.op (by rw[ho];simp[Op.operands])) g n a w G ai aN
 generalize hx:a.eval x=v at hv
 cases hv with|dv hv=>cases hv with
 |_=>
  rename_i A cell mq hc hr
  obtain⟨v,h1,h2⟩:=kW (P:=P) (av:=av) (w:=w) (G:=G) (l:=fc y.cells) (off:=off) hT cr A cell (fun j hj=>ai.fit.sub.cell (hc j (by simpa[nZ]using hj))) (fun j d hd=>by
   obtain⟨d',kA,rfl⟩:=Qq hd
   exact .dv (hr j d' kA)) hp
  refine⟨v,?_,h2⟩
  simp only[execOp,ho,hx,Sem.run_bind,h1,Result.andThen_ok,Sem.run_pure]
theorem bU{gd:Bool}:∀{p:List PS} {d:DV} {k:DV->Prop},jC gd d p k->∃nd,k nd/\(gd=true->get d p=some nd)
 |[],d,k,h=>⟨d,h,fun _=>rfl⟩
 |s::p,d,k,h=>by
  cases d<;>cases s<;>simp only[jC]at h<;>(try exact h.elim)
  ·obtain⟨x,hx,h⟩:=h
   split at h
   ·rename_i c hc
    obtain⟨nd,h1,h2⟩:=bU h
    exact⟨nd,h1,fun hg=>by simp only[get,step,hx hg,hc];exact h2 hg⟩
   ·exact h.elim
  ·rename_i x i j
   cases hb:Nat.beq i 0 with
   |false=>rw[hb]at h;exact h.elim
   |true=>
    rw[hb]at h
    simp only[cond_true]at h
    split at h
    ·rename_i c hc
     obtain⟨nd,h1,h2⟩:=bU h
     exact⟨nd,h1,fun hg=>by simp only[get,step,hb,cond_true,hc];exact h2 hg⟩
    ·exact h.elim
  ·obtain⟨x,hx,h⟩:=h
   split at h
   ·rename_i c hc
    obtain⟨nd,h1,h2⟩:=bU h
    exact⟨nd,h1,fun hg=>by simp only[get,step,hx hg,hc];exact h2 hg⟩
   ·exact h.elim
theorem fh:∀{p:List PS} {d nd:DV} {k:DV->Prop},uL d p nd k->k (dN d p nd)/\∃c,get d p=some c
 |[],d,nd,k,h=>⟨h,d,rfl⟩
 |s::p,d,nd,k,h=>by
  cases d<;>cases s<;>simp only[uL]at h<;>(try exact h.elim)
  ·rename_i sz l i j
   obtain⟨x,hx,h⟩:=h
   split at h
   ·rename_i c hc
    obtain⟨h1,c',h2⟩:=fh h
    exact⟨by simp only[dN,step,hx,hc,put];exact h1,c',by simp only[get,step,hx,hc];exact h2⟩
   ·exact h.elim
  ·rename_i x i j
   cases hb:Nat.beq i 0 with
   |false=>rw[hb]at h;exact h.elim
   |true=>
    rw[hb]at h
    simp only[cond_true]at h
    split at h
    ·rename_i c hc
     obtain⟨h1,c',h2⟩:=fh h
     exact⟨by simp only[dN,step,hb,cond_true,hc,put];exact h1,c',by simp only[get,step,hb,cond_true,hc];exact h2⟩
    ·exact h.elim
  ·rename_i s m kk j
   obtain⟨x,hx,h⟩:=h
   split at h
   ·rename_i c hc
    obtain⟨h1,c',h2⟩:=fh h
    exact⟨by simp only[dN,step,hx,hc,put];exact h1,c',by simp only[get,step,hx,hc];exact h2⟩
   ·exact h.elim
theorem dC{ver aW ep bX:Nat}{p:List PS}(h:(Nat.beq ver aW&&(emp p||Nat.beq ep bX))=true):ver=aW/\(p=[]\/ep=bX):=by
 simp only[acj,Bool.or_eq_true]at h
 refine⟨abL h.1,?_⟩
 rcases h.2 with h|h
 ·left;cases p with
  |nil=>rfl
  |cons=>simp[emp]at h
 ·right;exact abL h
theorem cV{H:Nat->Nat->Nat->List PS->Option Value}{i ver ep bX:Nat}{p:List PS}(h:p=[]\/ep=bX):aH H i ver ep p=aH H i ver bX p:=by
 rcases h with rfl|rfl<;>rfl
theorem Fit.node{κ:Nat->aq}{w:World}{G:Gh}(ai:Fit G w κ){i ver ep:Nat}{d nd:DV}{p:List PS}(hk:κ i=.tree ver ep d)(hp:get d p=some nd)(ho:nd.ao=true):
 ∃v,aH G.H i ver ep p=some v/\v.oneCell'=true/\cD G.M w v (fun s=>aH G.H i ver ep (p++[s])) nd:=by
 have hb:=ai.box i
 rw[hk]at hb
 exact hb.1.2 p nd hp ho
theorem zx{G:Gh}{i ver ep:Nat}{p:List PS}{s:PS}{d:DV}{u:Value}(hc:d.aj=true)(h:dF G.M (aH G.H i ver ep (p++[s])) d u)(hu:d.ao=true->u.oneCell'=true):aG G (vT i ver ep p s d) u:=by
 rcases h with⟨h1,h2⟩|⟨h1,h2⟩
 ·simp only[vT,h1,cond_true];exact .own _ _ _ _ _ h2 (hu h1)
 ·simp only[vT,h1,cond_false];exact .dv h2
theorem zy{i ver ep:Nat}{p:List PS}{idx:Nat}:∀{l:List DV} {s j:Nat} {v:AV},(kZ i ver ep p idx s l)[j]?=some v->∃d,l[j]?=some d/\v=vT i ver ep p (.el idx (s+j)) d
 |[],s,j,v,h=>by simp[kZ]at h
 |d::l,s,0,v,h=>by simp[kZ]at h;exact⟨d,rfl,h.symm⟩
 |d::l,s,j+1,v,h=>by
  simp only[kZ,List.getElem?_cons_succ]at h
  obtain⟨d',h1,h2⟩:=zy h
  exact⟨d',by simpa using h1,by rw[h2];congr 2;omega⟩
theorem n4{i ver ep:Nat}{p:List PS}{idx:Nat}:∀{l:List DV} {s:Nat},(kZ i ver ep p idx s l).length=l.length
 |[],s=>rfl
 |d::l,s=>by simp[kZ,n4]
theorem zA{i ver ep:Nat}{p:List PS}{kk:DV}:∀{l:List DV} {s j:Nat} {v:AV},(k6 i ver ep p kk s l)[j]?=some v->∃d,l[j]?=some d/\v=vT i ver ep p (.key kk (s+j)) d
 |[],s,j,v,h=>by simp[k6]at h
 |d::l,s,0,v,h=>by simp[k6]at h;exact⟨d,rfl,h.symm⟩
 |d::l,s,j+1,v,h=>by
  simp only[k6,List.getElem?_cons_succ]at h
  obtain⟨d',h1,h2⟩:=zA h
  exact⟨d',by simpa using h1,by rw[h2];congr 2;omega⟩
theorem n5{i ver ep:Nat}{p:List PS}{kk:DV}:∀{l:List DV} {s:Nat},(k6 i ver ep p kk s l).length=l.length
 |[],s=>rfl
 |d::l,s=>by simp[k6,n5]
theorem Fit.cells{κ:Nat->aq}{w:World}{G:Gh}(ai:Fit G w κ){i ver ep:Nat}{d nd:DV}{p:List PS}(hk:κ i=.tree ver ep d)(hp:get d p=some nd){sz idx:Nat}{K:List AV->Prop}{A:Addr}
 (hA:aH G.H i ver ep p=some (.pointer (some A))\/∃m c,aH G.H i ver ep p=some (.slice (some A) m c)) {l:List AV} (hl:(∃l0 x,nd=.aB sz l0/\l0[idx]?=some x/\l=kZ i ver ep p idx 0 x.cells)\/(∃x,nd=.gl x/\idx=0/\l=kZ i ver ep p 0 0 x.cells)):
 ∃vs:Nat->Value,(∀j,j<l.length->w.cell? ((A.add (idx*sz)).add j)=some (vs j))/\∀(j:Nat) (d:AV),l[j]?=some d->aG G d (vs j):=by
 have gw:∀s c u,step nd s=some c->c.ao=true->aH G.H i ver ep (p++[s])=some u->u.oneCell'=true:=by
  intro s c u hs hc hu
  obtain⟨v,h1,h2,_⟩:=ai.node hk (p:=p++[s]) (nd:=c) (by rw[get_append,hp];simp[get,hs]) hc
  rw[h1]at hu;injection hu with hu;subst hu;exact h2
 rcases hl with⟨l0,x,rfl,hx,rfl⟩|⟨x,rfl,rfl,rfl⟩
 ·obtain⟨v,h1,h2,aZ⟩:=ai.node hk hp rfl
  rcases aZ with⟨rfl,_⟩|⟨gb,ob,cap,c,t,rfl,dI,hw,aV,qp⟩
  ·simp at hx
  ·have hAe:A=⟨gb,ob,none⟩:=by
    rcases hA with hA|⟨m,cc,hA⟩
    ·rw[h1]at hA;cases hA
    ·rw[h1]at hA;injection hA with hA;injection hA with hA;injection hA with hA;exact hA.symm
   subst hAe
   obtain⟨a1,a2⟩:=qp idx x hx
   refine⟨fun j=>c.getD (ob+idx*sz+j) undef,fun j hj=>?_,fun j dd hd=>?_⟩
   ·rw[n4]at hj
    obtain⟨_,u,b1,_⟩:=a2 j _ (aaj hj)
    rw[cL,eO]
    simp only[World.cell?,hw]
    rw[show ob+(idx*sz+j)=ob+idx*sz+j by omega,abS,b1]
    rfl
   ·obtain⟨d0,e1,rfl⟩:=zy hd
    obtain⟨b0,u,b1,b2⟩:=a2 j d0 e1
    show aG G _ (c.getD (ob+idx*sz+j) undef)
    rw[abS,b1,Nat.zero_add]
    refine zx b0 b2 fun ho=>?_
    rcases b2 with⟨_,b2⟩|⟨b2,_⟩
    ·exact gw (.el idx j) d0 u (by simp only[step,hx];exact e1) ho b2
    ·rw[ho]at b2;cases b2
 ·obtain⟨v,h1,h2,aZ⟩:=ai.node hk hp rfl
  obtain⟨gb,c,t,rfl,hw,aV,qp⟩:=aZ
  have hAe:A=⟨gb,0,none⟩:=by
   rcases hA with hA|⟨m,cc,hA⟩
   ·rw[h1]at hA;injection hA with hA;injection hA with hA;injection hA with hA;exact hA.symm
   ·rw[h1]at hA;cases hA
  subst hAe
  refine⟨fun j=>c.getD j undef,fun j hj=>?_,fun j dd hd=>?_⟩
  ·rw[n4]at hj
   obtain⟨_,u,b1,_⟩:=qp j _ (aaj hj)
   rw[cL,eO]
   simp only[World.cell?,hw]
   rw[show 0+(0*sz+j)=j by omega,abS,b1]
   rfl
  ·obtain⟨d0,e1,rfl⟩:=zy hd
   obtain⟨b0,u,b1,b2⟩:=qp j d0 e1
   show aG G _ (c.getD j undef)
   rw[abS,b1,Nat.zero_add]
   refine zx b0 b2 fun ho=>?_
   rcases b2 with⟨_,b2⟩|⟨b2,_⟩
   ·exact gw (.el 0 j) d0 u (by simp[step];exact e1) ho b2
   ·rw[ho]at b2;cases b2
theorem Eh(hT:fb P T){t i ver ep bX sz idx off:Nat}{p:List PS}{x:Operand}{d:DV}(hg:bZ ρ ops o.guard=some gd)(ho:o.op=.load t x)(cr:(nth T t).ok=true)
 (hb:κ i=.tree ver bX d) (dJ:p=[]\/ep=bX)
 (hk:jC gd d p fun nd=>kC i ver bX p gd sz idx nd fun l=>ct (nth T t).agg l off (nth T t).size fun v=>aT n o gd nx k v [i]) (bJ:bz ρ κ gd x (.loc i ver ep p sz idx off)):Good P C ops n o nx ρ κ k:=by
 obtain⟨nd,hk,dj⟩:=bU hk
 have oi:∃l,(ct (nth T t).agg l off (nth T t).size fun v=>aT n o gd nx k v [i])/\(gd=true->(∃l0 x,nd=.aB sz l0/\l0[idx]?=some x/\l=kZ i ver bX p idx 0 x.cells)\/(∃x,nd=.gl x/\idx=0/\l=kZ i ver bX p 0 0 x.cells)):=by
  unfold kC at hk
  split at hk
  ·rename_i iT l0
   cases hs:Nat.beq sz iT with
   |false=>rw[hs]at hk;exact hk.elim
   |true=>
    rw[hs]at hk
    have:=abL hs
    subst this
    obtain⟨x,hx,hk⟩:=hk
    exact⟨_,hk,fun aN=>.inl ⟨l0,x,rfl,hx aN,rfl⟩⟩
  ·rename_i x
   cases hs:Nat.beq idx 0 with
   |false=>rw[hs]at hk;exact hk.elim
   |true=>
    rw[hs]at hk
    exact⟨_,hk,fun _=>.inr ⟨x,rfl,abL hs,rfl⟩⟩
  ·exact hk.elim
 obtain⟨l,hk,hl⟩:=oi
 obtain⟨av,hk,hp⟩:=dY hk
 refine bo (fun c=>by rw[ho];simp) hg hk fun ρ' κ' aw g a w G ai aN=>?_
 have hv:=bJ ρ' κ' (aw.op (by rw[ho];simp[Op.operands])) g n a w G ai aN
 have eb:κ' i=.tree ver bX d:=(aw.reads i (by simp)).trans hb
 have key:∀A,a.eval x=.pointer (some (A.add (idx*sz+off)))->(aH G.H i ver ep p=some (.pointer (some A))\/∃m c,aH G.H i ver ep p=some (.slice (some A) m c))->∃v,(execOp a.eval o).run P w=.ok (.value v) w/\aG G av v:=by
  intro A hx hA
  rw[cV dJ]at hA
  obtain⟨vs,h1,h2⟩:=ai.fit.cells (K:=fun _=>True) eb (dj aN) hA (hl aN)
  obtain⟨v,h3,h4⟩:=kW (P:=P) (av:=av) (w:=w) (G:=G) (l:=l) (off:=off) hT cr (A.add (idx*sz)) vs h1 h2 hp
  rw[cL]at h3
  exact⟨v,by simp only[execOp,ho,hx,Sem.run_bind,h3,Result.andThen_ok,Sem.run_pure],h4⟩
 generalize hx:a.eval x=v at hv
 cases hv with
 |loc _ _ _ _ _ _ _ A m c h=>exact key A hx (.inr ⟨m,c,h⟩)
 |qo _ _ _ _ _ _ _ A h=>exact key A hx (.inl h)
end
end
section
open Go.RowKit
variable [cn]
theorem add_zero'(a:Addr):a.add 0=a:=by simp[Addr.add]
section
variable {P:Program} {C:dP->Prop} {T:List TI} {ops:List Oper} {n:Nat} {o:Oper} {nx:Nat} {ρ:Nat->AV} {κ:Nat->aq} {k:kN->Nat->Prop} {gd:Bool}
theorem Ee(hT:fb P T){t:Nat}{x i:Operand}{sz:Nat}{l:List DV}{y:DV}{kd:IntKind}{m:Int}(hg:bZ ρ ops o.guard=some gd)(ho:o.op=.indexAddr t x i)
 (cr:(nth T t).ok=true) (iw:(nth T t).isSl=true) (r8:(nth T (nth T t).elem).ok=true) (aV:sz=(nth T (nth T t).elem).size)
 (hy:gd=true->0<=m/\l[m.toNat]?=some y) (hk:aT n o gd nx k (.dv (.at y 0)) []) (bJ:bz ρ κ gd x (.dv (.sl sz l))) (oQ:bz ρ κ gd i (.dv (.int kd m))):Good P C ops n o nx ρ κ k:=by
 obtain⟨ti,u,z,tf⟩:=hT.facts cr
 obtain⟨te,ue,ze,jU⟩:=hT.facts r8
 refine bo (fun c=>by rw[ho];simp) hg hk fun ρ' κ' aw g a w G ai aN=>?_
 have hv:=bJ ρ' κ' (aw.op (by rw[ho];simp[Op.operands])) g n a w G ai aN
 have dK:=oQ ρ' κ' (aw.op (by rw[ho];simp[Op.operands])) g n a w G ai aN
 generalize hx:a.eval x=v at hv
 generalize hi:a.eval i=vi at dK
 obtain⟨DU,WI⟩:=hy aN
 have au:m.toNat<l.length:=(abI.1 WI).1
 cases dK with|dv dK=>cases dK with|int=>
 cases hv with|dv hv=>cases hv with
 |slnil=>simp at au
 |sl _ _ A cap cell dI hlen hc hr=>
  have dq:0<=m/\m<(l.length:Int):=⟨DU,by omega⟩
  refine⟨.pointer (some (A.add (m.toNat*sz))),?_,?_⟩
  ·have wA:=jU.fP w
   rw[<-aV]at wA
   simp[execOp,ho,hx,hi,Instr.indexAt,run_underlying (tf.slice iw),asIntOf,dq,wA]
  ·have:=bu.at (M:=G.M) y 0 (A.add (m.toNat*sz)) (fun j=>cell m.toNat j) (hlen y (abK WI)).2
    (fun j hj=>by rw[cL];exact hc _ _ au (by rw[(hlen y (abK WI)).1]at hj;exact hj))
    (fun j d hd=>hr _ y j d WI hd)
   rw[add_zero']at this
   exact .dv this
theorem nA(hT:fb P T){t:Nat}{x i:Operand}{av ZX:AV}{kd:IntKind}{m:Int}(hg:bZ ρ ops o.guard=some gd)(ho:o.op=.indexAddr t x i)
 (cr:(nth T t).ok=true) (Ef:(nth T t).kind=10) (r8:(nth T (nth T t).elem).ok=true) (hm:gd=true->0<=m/\m<(nth T t).len)
 (hk:aT n o gd nx k ZX []) (bJ:bz ρ κ gd x av) (oQ:bz ρ κ gd i (.dv (.int kd m)))
 (hp:∀(G:Gh) (v:Value),aG G av v->∃a,v=.pointer (some a)/\aG G ZX (.pointer (some (a.add (m.toNat*(nth T (nth T t).elem).size))))):Good P C ops n o nx ρ κ k:=by
 obtain⟨ti,u,z,tf⟩:=hT.facts cr
 obtain⟨te,ue,ze,jU⟩:=hT.facts r8
 refine bo (fun c=>by rw[ho];simp) hg hk fun ρ' κ' aw g a w G ai aN=>?_
 have hv:=bJ ρ' κ' (aw.op (by rw[ho];simp[Op.operands])) g n a w G ai aN
 have dK:=oQ ρ' κ' (aw.op (by rw[ho];simp[Op.operands])) g n a w G ai aN
 generalize hi:a.eval i=vi at dK
 cases dK with|dv dK=>cases dK with|int=>
 obtain⟨p,hp,Tj⟩:=hp _ _ hv
 refine⟨_,?_,Tj⟩
 have hu:P.underlying t=some (.array (nth T t).len (nth T t).elem):=by
  have h1:=tf.kind
  rw[Ef]at h1
  have h2:=tf.len
  have h3:=tf.elem
  rw[tf.AD]
  cases u<;>simp[kindOf]at h1
  simp[lenOf]at h2
  simp[OM]at h3
  rw[h2,h3]
 have dq:=hm aN
 simp[execOp,ho,hp,hi,Instr.indexAt,run_underlying hu,asIntOf,Instr.sureAddr,dq,jU.fP w]
theorem B5(hT:fb P T){t:Nat}{x i:Operand}{id ver ep bX sz:Nat}{p:List PS}{d:DV}{l:List DV}{kd:IntKind}{m:Int}(hg:bZ ρ ops o.guard=some gd)(ho:o.op=.indexAddr t x i)
 (cr:(nth T t).ok=true) (iw:(nth T t).isSl=true) (r8:(nth T (nth T t).elem).ok=true) (aV:sz=(nth T (nth T t).elem).size) (hb:κ id=.tree ver bX d) (dJ:p=[]\/ep=bX) (dj:gd=true->get d p=some (.aB sz l))
 (hy:gd=true->0<=m/\m<l.length) (hk:aT n o gd nx k (.loc id ver ep p sz m.toNat 0) [id]) (bJ:bz ρ κ gd x (.own id ver ep p)) (oQ:bz ρ κ gd i (.dv (.int kd m))):Good P C ops n o nx ρ κ k:=by
 obtain⟨ti,u,z,tf⟩:=hT.facts cr
 obtain⟨te,ue,ze,jU⟩:=hT.facts r8
 refine bo (fun c=>by rw[ho];simp) hg hk fun ρ' κ' aw g a w G ai aN=>?_
 have hv:=bJ ρ' κ' (aw.op (by rw[ho];simp[Op.operands])) g n a w G ai aN
 have dK:=oQ ρ' κ' (aw.op (by rw[ho];simp[Op.operands])) g n a w G ai aN
 generalize hx:a.eval x=v at hv
 generalize hi:a.eval i=vi at dK
 obtain⟨DU,WI⟩:=hy aN
 have eb:κ' id=.tree ver bX d:=(aw.reads id (by simp)).trans hb
 obtain⟨u,h1,_,aZ⟩:=ai.fit.node eb (dj aN) rfl
 cases dK with|dv dK=>cases dK with|int=>
 cases hv with
 |own _ _ _ _ _ hh hc=>
  have W5:=hh
  rw[cV dJ,h1]at hh
  injection hh with hh
  subst hh
  rcases aZ with⟨rfl,_⟩|⟨gb,ob,cap,cc,tt,rfl,dI,hw,aal,DR⟩
  ·simp at WI;omega
  ·have dq:0<=m/\m<(l.length:Int):=⟨DU,WI⟩
   refine⟨.pointer (some ((⟨gb,ob,none⟩:Addr).add (m.toNat*sz))),?_,?_⟩
   ·have wA:=jU.fP w
    rw[<-aV]at wA
    simp[execOp,ho,hx,hi,Instr.indexAt,run_underlying (tf.slice iw),asIntOf,dq,wA]
   ·have:=aG.loc (G:=G) id ver ep p sz m.toNat 0 _ _ _ W5
    rwa[Nat.add_zero]at this
theorem B6(hT:fb P T){t:Nat}{x i:Operand}{id len:Nat}{kd:IntKind}{m:Int}(hg:bZ ρ ops o.guard=some gd)(ho:o.op=.indexAddr t x i)
 (cr:(nth T t).ok=true) (iw:(nth T t).isSl=true) (r8:(nth T (nth T t).elem).ok=true)
 (hy:gd=true->0<=m/\m<len) (hk:aT n o gd nx k (.ptr id (m.toNat*(nth T (nth T t).elem).size)) []) (bJ:bz ρ κ gd x (.sle id len)) (oQ:bz ρ κ gd i (.dv (.int kd m))):Good P C ops n o nx ρ κ k:=by
 obtain⟨ti,u,z,tf⟩:=hT.facts cr
 obtain⟨te,ue,ze,jU⟩:=hT.facts r8
 refine bo (fun c=>by rw[ho];simp) hg hk fun ρ' κ' aw g a w G ai aN=>?_
 have hv:=bJ ρ' κ' (aw.op (by rw[ho];simp[Op.operands])) g n a w G ai aN
 have dK:=oQ ρ' κ' (aw.op (by rw[ho];simp[Op.operands])) g n a w G ai aN
 generalize hx:a.eval x=v at hv
 generalize hi:a.eval i=vi at dK
 have dq:=hy aN
 cases dK with|dv dK=>cases dK with|int=>
 cases hv with
 |sle _ _ b hb=>
  refine⟨.pointer (some ((⟨b,0,none⟩:Addr).add (m.toNat*(nth T (nth T t).elem).size))),?_,?_⟩
  ·have wA:=jU.fP w
   simp[execOp,ho,hx,hi,Instr.indexAt,run_underlying (tf.slice iw),asIntOf,dq,wA]
  ·rw[eO,Nat.zero_add];exact .ptr _ _ b hb
theorem B7(hT:fb P T){t:Nat}{x i:Operand}{id ver ep sz lo len:Nat}{p:List PS}{kd:IntKind}{m:Int}(hg:bZ ρ ops o.guard=some gd)(ho:o.op=.indexAddr t x i)
 (cr:(nth T t).ok=true) (iw:(nth T t).isSl=true) (r8:(nth T (nth T t).elem).ok=true) (aV:sz=(nth T (nth T t).elem).size)
 (hy:gd=true->0<=m/\m<len) (hk:aT n o gd nx k (.loc id ver ep p sz (lo+m.toNat) 0) []) (bJ:bz ρ κ gd x (.pre id ver ep p sz lo len)) (oQ:bz ρ κ gd i (.dv (.int kd m))):Good P C ops n o nx ρ κ k:=by
 obtain⟨ti,u,z,tf⟩:=hT.facts cr
 obtain⟨te,ue,ze,jU⟩:=hT.facts r8
 refine bo (fun c=>by rw[ho];simp) hg hk fun ρ' κ' aw g a w G ai aN=>?_
 have hv:=bJ ρ' κ' (aw.op (by rw[ho];simp[Op.operands])) g n a w G ai aN
 have dK:=oQ ρ' κ' (aw.op (by rw[ho];simp[Op.operands])) g n a w G ai aN
 generalize hx:a.eval x=v at hv
 generalize hi:a.eval i=vi at dK
 have dq:=hy aN
 cases dK with|dv dK=>cases dK with|int=>
 cases hv with
 |pre _ _ _ _ _ _ _ q c hh=>
  obtain⟨A,N,c',hq,rfl⟩:=hh (by omega)
  refine⟨.pointer (some ((A.add (lo*sz)).add (m.toNat*sz))),?_,?_⟩
  ·have wA:=jU.fP w
   rw[<-aV]at wA
   simp[execOp,ho,hx,hi,Instr.indexAt,run_underlying (tf.slice iw),asIntOf,dq,wA]
  ·rw[cL,<-Nat.add_mul]
   have:=aG.loc (G:=G) id ver ep p sz (lo+m.toNat) 0 _ _ _ hq
   rwa[Nat.add_zero]at this
theorem q9(hT:fb P T){t:Nat}{x:Operand}{c:Call}{av:AV}{m:Int}{rd:List Nat}(hg:bZ ρ ops o.guard=some gd)(ho:o.op=.call c)(hc:c.callee=.builtin .len)(ha:c.args.toList=[x])(dw:c.argTypes.toList=[t])
 (hk:aT n o gd nx k (.dv (.int .i64 m)) rd) (bJ:bz ρ κ gd x av) (cr:(nth T t).ok=true)
 (hp:gd=true->∀κ',(∀i,i∈rd->κ' i=κ i)->∀(G:Gh) (w:World) (v:Value),Fit G w κ'->aG G av v->
  ((nth T t).isSl=true/\∃p l c,v=.slice p l c/\(l:Int)=m)\/((nth T t).isStr=true/\∃s,v=.string s/\(s.size:Int)=m)\/
  (Nat.beq (nth T t).kind 6=true/\∃b es clock,v=.map (some b)/\w.heap[b]?=some (.map es clock)/\(es.size:Int)=m)):Good P C ops n o nx ρ κ k:=by
 have bN:c.args=#[x]:=Array.ext' (by simpa using ha)
 have B1:c.argTypes=#[t]:=Array.ext' (by simpa using dw)
 refine bo (fun c=>by rw[ho];simp) hg hk fun ρ' κ' aw g a w G ai aN=>?_
 have hv:=bJ ρ' κ' (aw.op (by rw[ho];simp[Op.operands,Call.operands,hc,bN])) g n a w G ai aN
 refine⟨.int .i64 m,?_,.dv (.int _ _)⟩
 obtain⟨ti,u,z,tf⟩:=hT.facts cr
 rcases hp aN κ' aw.reads G w _ ai.fit hv with⟨iw,p,l,cc,Ou,hm⟩|⟨iw,s,Ou,hm⟩|⟨hmk,b,es,clock,Ou,hw,hm⟩
 ·simp[execOp,ho,resolve,hc,bN,B1,invoke,builtin,Builtin.len_,run_underlying (tf.slice iw),Ou,goInt,hm]
 ·simp[execOp,ho,resolve,hc,bN,B1,invoke,builtin,Builtin.len_,run_underlying (tf.string iw),Ou,goInt,hm]
 ·have hu:∃kt et,P.underlying t=some (.map kt et):=by
   have h1:=tf.kind
   rw[abL hmk]at h1
   cases u<;>simp[kindOf]at h1
   exact⟨_,_,tf.AD⟩
  obtain⟨kt,et,hu⟩:=hu
  simp[execOp,ho,resolve,hc,bN,B1,invoke,builtin,Builtin.len_,run_underlying hu,Ou,goInt,hm,MapKept.run_getObj_map hw]
theorem gJ{w:World}{t e:TypeId}(hu:P.underlying t=some (.slice e))(a:Option Addr)(l c:Nat):(Op.equal t (.slice a l c) (.slice none 0 0)).run P w=.ok a.isNone w:=by
 have h:∀d,(Op.equalIn (d+1) t (.slice a l c) (.slice none 0 0)).run P w=.ok a.isNone w:=fun d=>by
  cases a<;>simp[Op.equalIn,run_underlying hu]
 simp only[Op.equal,Op.maxDepth,h 9999]
theorem WJ{b:Bool}{p:Prop}(h:bif b then p else False):b=true/\p:=by
 cases b with
 |false=>exact h.elim
 |true=>exact⟨rfl,h⟩
theorem DG{κ:Nat->aq}{gd:Bool}{a:AV}{k:Option Bool->List Nat->Prop}(h:y7 κ gd a k):∃c rd,k c rd/\(gd=true->∀κ',(∀i,i∈rd->κ' i=κ i)->∀(G:Gh) (w:World) (v:Value),Fit G w κ'->aG G a v->∃p l cc,v=.slice p l cc/\∀b,c=some b->p.isNone=b):=by
 unfold y7 at h
 split at h
 ·refine⟨_,_,h,fun _ κ' _ G w v _ hv=>?_⟩
  cases hv with|dv hv=>cases hv with|az=>exact⟨_,_,_,rfl,fun b hb=>by injection hb⟩
 ·rcases h with h|⟨hl,h⟩
  ·refine⟨_,_,h,fun _ κ' _ G w v _ hv=>?_⟩
   cases hv with|dv hv=>cases hv with
   |slnil=>exact⟨_,_,_,rfl,fun b hb=>by cases hb⟩
   |sl=>exact⟨_,_,_,rfl,fun b hb=>by cases hb⟩
  ·refine⟨_,_,h,fun _ κ' _ G w v _ hv=>?_⟩
   cases hv with|dv hv=>cases hv with
   |slnil=>exact absurd rfl hl
   |sl=>exact⟨_,_,_,rfl,fun b hb=>by injection hb⟩
 ·rename_i i ver ep p
  split at h
  ·rename_i aW bX d hk
   have hh:=WJ h;clear h;obtain⟨hb,h⟩:=hh
   obtain⟨rfl,dJ⟩:=dC hb
   obtain⟨nd,h,dj⟩:=bU h
   split at h
   ·rename_i sz l
    have key:gd=true->∀κ',(∀j,j∈[i]->κ' j=κ j)->∀(G:Gh) (w:World) (v:Value),Fit G w κ'->aG G (.own i ver ep p) v->∃q m cc,v=.slice q m cc/\(l≠[]->q.isNone=false):=by
     intro aN κ' aw G w v hf hv
     have fN:=(aw i (by simp)).trans hk
     obtain⟨u,e1,e2,e3⟩:=hf.node fN (dj aN) rfl
     cases hv with|own _ _ _ _ _ hh hc=>
     rw[cV dJ]at hh
     rw[hh]at e1;injection e1 with e1;subst e1
     rcases e3 with⟨qX,hx⟩|⟨gb,o,cap,c,tt,hx,_⟩
     ·exact⟨_,_,_,hx,fun hl=>absurd qX hl⟩
     ·exact⟨_,_,_,hx,fun _=>rfl⟩
    rcases h with h|⟨hl,h⟩
    ·refine⟨_,_,h,fun aN κ' aw G w v hf hv=>?_⟩
     obtain⟨q,m,cc,e,_⟩:=key aN κ' aw G w v hf hv
     exact⟨q,m,cc,e,fun b hb=>by cases hb⟩
    ·refine⟨_,_,h,fun aN κ' aw G w v hf hv=>?_⟩
     obtain⟨q,m,cc,e,e2⟩:=key aN κ' aw G w v hf hv
     exact⟨q,m,cc,e,fun b hb=>by injection hb with hb;rw[e2 hl,hb]⟩
   ·exact h.elim
  ·exact h.elim
 ·refine⟨_,_,h,fun _ κ' _ G w v _ hv=>?_⟩
  cases hv with|cq _ _ a m hh=>exact⟨_,_,_,rfl,fun b hb=>by injection hb⟩
 ·exact h.elim
theorem U8{α:Type}{b:Bool}{x:Option α}{y:α}(h:(bif b then x else none)=some y):b=true/\x=some y:=by cases b<;>simp_all
theorem Gr{G:Gh}{w:World}{x y:AV}{u v:Value}{e:Bool}{f:TypeId}{k D:Nat}(hp:rJ (P.underlying f)=k)(h:Da k x y=some e)(hx:aG G x u)(hy:aG G y v):
 (Op.equalIn (D+1) f u v).run P w=.ok e w:=by
 unfold Da at h
 split at h
 ·rename_i kk a k' b
  cases hk:kk==k' with
  |false=>rw[hk]at h;cases h
  |true=>
   rw[hk]at h
   have A1:kk=k':=by simpa using hk
   subst A1
   injection h with h;subst h
   cases hx with|dv hx=>cases hx with|int=>cases hy with|dv hy=>cases hy with|int=>
   obtain⟨q,hq⟩:∃q,P.underlying f=some (.int q):=by
    unfold rJ at hp
    split at hp<;>first|(cases hp;done)|exact⟨_,by assumption⟩
   exact run_equalIn_int w D f kk q a b hq
 ·rename_i a b
  injection h with h;subst h
  cases hx with|dv hx=>cases hx with|bool=>cases hy with|dv hy=>cases hy with|bool=>
  have hq:P.underlying f=some .bool:=by
   unfold rJ at hp
   split at hp<;>first|(cases hp;done)|assumption
  exact run_equalIn_bool w D f a b hq
 ·rename_i a b
  injection h with h;subst h
  cases hx with|dv hx=>cases hx with|str=>cases hy with|dv hy=>cases hy with|str=>
  have hq:P.underlying f=some .string:=by
   unfold rJ at hp
   split at hp<;>first|(cases hp;done)|assumption
  exact run_equalIn_string w D f a b hq
 ·cases h
theorem tJ{w:World}{e:TypeId}{k:Nat}(he:rJ (P.underlying e)=k+1){xs:Array Value}{off:Nat}{v:Value}(hx:xs[off]?=some v):(part e xs off).run P w=.ok v w:=by
 unfold rJ at he
 split at he
 ·rename_i k hu;simp[part,isAgg,run_underlying hu,hx]
 ·rename_i hu;simp[part,isAgg,run_underlying hu,hx]
 ·rename_i hu;simp[part,isAgg,run_underlying hu,hx]
 ·cases he
theorem tK{G:Gh}{w:World}{xs ys:Array Value}{D:Nat}:∀(fs:List Field) (i:Nat) (q:List Nat) (l r:List AV) (e:Bool),yD P i fs=some q->ju q l r=some e->
 (∀(j:Nat) (d:AV),l[j]?=some d->∃u,xs[i+j]?=some u/\aG G d u)->(∀(j:Nat) (d:AV),r[j]?=some d->∃u,ys[i+j]?=some u/\aG G d u)->
 (Op.eqFields (D+1) xs ys fs).run P w=.ok e w
 |[],i,q,l,r,e,hp,he,hx,hy=>by
  simp only[yD,Option.some.injEq]at hp
  subst hp
  cases l<;>cases r<;>simp[ju]at he
  subst he;simp[Op.eqFields]
 |f::fs,i,q,l,r,e,hp,he,hx,hy=>by
  simp only[yD]at hp
  have hh:=U8 hp;clear hp;obtain⟨hb,hp⟩:=hh
  simp only[acj,bne_iff_ne]at hb
  obtain⟨n1,o1⟩:=hb
  have o1:=abL o1
  split at hp
  ·rename_i k q' hk GO
   injection hp with hp;subst hp
   cases l with
   |nil=>cases r<;>simp[ju]at he
   |cons x l=>cases r with
    |nil=>simp[ju]at he
    |cons y r=>
     simp only[ju]at he
     split at he
     ·rename_i a b ha hb
      injection he with he;subst he
      obtain⟨u,hu,Sy⟩:=hx 0 x rfl
      obtain⟨v,hv,Xg⟩:=hy 0 y rfl
      have h1:=Gr (w:=w) (D:=D) hk ha Sy Xg
      simp only[Op.eqFields,n1,ne_eq,not_false_eq_true,if_true,Sem.run_bind,o1]
      rw[tJ hk (by simpa using hu)]
      simp only[Result.andThen_ok]
      rw[tJ hk (by simpa using hv)]
      simp only[Result.andThen_ok,h1]
      cases a with
      |false=>simp
      |true=>
       simp only[Bool.not_true,Bool.false_eq_true,if_false,Bool.true_and]
       exact tK fs (i+1) q' l r b GO hb (fun j d hd=>by have:=hx (j+1) d (by simpa using hd);rwa[show i+(j+1)=i+1+j by omega]at this)
        (fun j d hd=>by have:=hy (j+1) d (by simpa using hd);rwa[show i+(j+1)=i+1+j by omega]at this)
     ·cases he
  ·cases hp
theorem UN(hT:fb P T){op:BinOp}{t ty:TypeId}{x y:Operand}(hg:bZ ρ ops o.guard=some gd)(ho:o.op=.binOp op t x y ty){va vb:AV}(UL:bz ρ κ gd x va)(UM:bz ρ κ gd y vb)
 (h:VF (nth T t) op va vb fun v=>aT n o gd nx k v []):Good P C ops n o nx ρ κ k:=by
 have hh:=WJ h;clear h;obtain⟨hb,h⟩:=hh
 simp only[acj]at hb
 obtain⟨i,u,z,tf⟩:=hT.facts hb.1
 split at h
 ·rename_i x1 l r
  split at h
  ·rename_i e he
   have hk:=tf.kind
   rw[abL hb.2]at hk
   obtain⟨fs,rfl⟩:∃fs,u=.struct fs:=by
    cases u<;>simp[kindOf]at hk
    exact⟨_,rfl⟩
   have heq:=tf.Vx
   simp only[ON]at heq
   split at heq
   ·rename_i q hq
    cases hc:Nat.beq fs.toList.length i.size&& !P.stoodInHeld t&& !P.eqGuardType P.depth t with
    |false=>rw[hc]at heq;simp only[cond_false]at heq;rw[heq]at he;simp[ju]at he
    |true=>
     rw[hc]at heq
     simp only[cond_true]at heq
     rw[heq]at he
     simp only[acj,acm]at hc
     have hf:P.fieldsOf t=fs:=by simp[Program.fieldsOf,tf.AD]
     have core:∀(G:Gh) (w:World) (u v:Value),aG G (.agg (x1::l)) u->aG G (.agg r) v->∃us vs,u=.agg us/\v=.agg vs/\(Op.equalIn 10000 t u v).run P w=.ok e w:=by
      intro G w u v hu hv
      cases hu with|agg _ us hlu Sy=>cases hv with|agg _ vs hlv Xg=>
      refine⟨_,_,rfl,rfl,?_⟩
      rw[run_equalIn_struct w 9999 t _ _ (by rw[hf];exact tf.AD) hc.1.2,hf]
      refine tK (G:=G) (D:=9998) fs.toList 0 q _ _ e hq he (fun j d hd=>?_) (fun j d hd=>?_)
      ·have hj:=(abI.1 hd).1
       exact⟨us[j]'(by omega),by simp,Sy j d _ hd (aaj (by omega))⟩
      ·have hj:=(abI.1 hd).1
       exact⟨vs[j]'(by omega),by simp,Xg j d _ hd (aaj (by omega))⟩
     have fin:∀c:Bool,aT n o gd nx k (.dv (.bool c)) []->(∀(w:World) (us vs:Array Value),(Op.equalIn 10000 t (.agg us) (.agg vs)).run P w=.ok e w->(binOp op t (.agg us) (.agg vs)).run P w=.ok (.bool c) w)->Good P C ops n o nx ρ κ k:=by
      intro c fN aX
      refine bo (fun c=>by rw[ho];simp) hg fN fun ρ' κ' aw g a w G ai aN=>?_
      have h1:=UL ρ' κ' (aw.op (by rw[ho];simp[Op.operands])) g n a w G ai aN
      have h2:=UM ρ' κ' (aw.op (by rw[ho];simp[Op.operands])) g n a w G ai aN
      obtain⟨us,vs,e1,e2,e3⟩:=core G w _ _ h1 h2
      refine⟨.bool c,?_,.dv (.bool c)⟩
      rw[e1,e2]at e3
      simp only[execOp,ho,Sem.run_bind]
      rw[e1,e2,run_eqGuard_agg w op t x y us vs hc.2]
      simp only[Result.andThen_ok,aX w us vs e3,Sem.run_pure]
     split at h
     ·exact fin e h fun w us vs h3=>by rw[run_eql_struct,h3];rfl
     ·exact fin (!e) h fun w us vs h3=>by rw[run_neq_struct,h3];rfl
     ·exact h.elim
   ·rw[heq]at he;simp[ju]at he
  ·exact h.elim
 ·exact h.elim
theorem G7(hT:fb P T){op:BinOp}{t ty:TypeId}{x y:Operand}(hg:bZ ρ ops o.guard=some gd)(ho:o.op=.binOp op t x y ty){av:AV}(bJ:bz ρ κ gd x av)(Jg:bz ρ κ gd y (.dv .az))
 (h:C9 (nth T t) op κ gd av fun v rd=>aT n o gd nx k v rd):Good P C ops n o nx ρ κ k:=by
 unfold C9 at h
 have hh:=WJ h;clear h;obtain⟨hb,h⟩:=hh
 simp only[acj]at hb
 obtain⟨i,u,z,tf⟩:=hT.facts hb.1
 have hu:=tf.slice hb.2
 have core:∀(neg:Bool),(∀(w:World) (p:Option Addr) (l cc:Nat),(binOp op t (.slice p l cc) (.slice none 0 0)).run P w=.ok (.bool (bif neg then !p.isNone else p.isNone)) w)->(y7 κ gd av fun c rd=>aT n o gd nx k (V7 neg c) rd)->Good P C ops n o nx ρ κ k:=by
  intro neg aX h
  obtain⟨c,rd,hk,hs⟩:=DG h
  refine bo (fun c=>by rw[ho];simp) hg hk fun ρ' κ' aw g a w G ai aN=>?_
  have h1:=bJ ρ' κ' (aw.op (by rw[ho];simp[Op.operands])) g n a w G ai aN
  have h2:=Jg ρ' κ' (aw.op (by rw[ho];simp[Op.operands])) g n a w G ai aN
  obtain⟨p,l,cc,hv,hp⟩:=hs aN κ' aw.reads G w _ ai.fit h1
  generalize hy:a.eval y=vy at h2
  cases h2 with|dv h2=>cases h2 with|az=>
  refine⟨.bool (bif neg then !p.isNone else p.isNone),?_,?_⟩
  ·simp only[execOp,ho,Sem.run_bind]
   rw[iI op t x y _ _ (by rw[hv];simp) (by rw[hv];simp),hv,hy]
   simp only[Result.andThen_ok,aX w p l cc,Sem.run_pure]
  ·cases c with
   |none=>exact .dv (.oI _)
   |some b=>rw[hp b rfl];exact .dv (.bool _)
 split at h
 ·exact core false (fun w p l cc=>by simp only[binOp,Sem.run_bind,gJ hu,Result.andThen_ok,Sem.run_pure,cond_false]) h
 ·exact core true (fun w p l cc=>by simp only[binOp,Sem.run_bind,gJ hu,Result.andThen_ok,Sem.run_pure,cond_true]) h
 ·exact h.elim
theorem Hb(hT:fb P T){s t:TypeId}{x:Operand}{kx kd:IntKind}{m:Int}(hg:bZ ρ ops o.guard=some gd)(ho:o.op=.convert s t x)(hs:(nth T s).ok=true)(ht:(nth T t).ok=true)(hi:(nth T t).GR=some kd)(hk:aT n o gd nx k (.dv (.int kd (kd.wrap m))) [])(bJ:bz ρ κ gd x (.dv (.int kx m))):Good P C ops n o nx ρ κ k:=by
 obtain⟨i1,u1,z1,XG⟩:=hT.facts hs
 obtain⟨i2,u2,z2,tf2⟩:=hT.facts ht
 refine bo (fun c=>by rw[ho];simp) hg hk fun ρ' κ' aw g a w G ai aN=>?_
 have hv:=bJ ρ' κ' (aw.op (by rw[ho];simp[Op.operands])) g n a w G ai aN
 generalize hx:a.eval x=v at hv
 cases hv with|dv hv=>cases hv with|int=>
 have h2:=tf2.GR
 rw[hi]at h2
 cases u2<;>simp[D5]at h2
 subst h2
 refine⟨.int kd (kd.wrap m),?_,.dv (.int _ _)⟩
 simp[execOp,ho,hx,convert,run_underlying XG.AD,run_underlying tf2.AD,Conv.intToInt]
theorem Nc(hT:fb P T){t:TypeId}{x ix:Operand}{kx:IntKind}{m:Int}{s:ByteArray}{b:UInt8}(hg:bZ ρ ops o.guard=some gd)(ho:o.op=.index t x ix)(ht:(nth T t).ok=true)(ai:(nth T t).isStr=true)(hb:gd=true->0<=m/\s[m.toNat]?=some b)(hk:aT n o gd nx k (.dv (.int .u8 b.toNat)) [])(bJ:bz ρ κ gd x (.dv (.str s)))(oQ:bz ρ κ gd ix (.dv (.int kx m))):Good P C ops n o nx ρ κ k:=by
 obtain⟨i1,u1,z1,XG⟩:=hT.facts ht
 have hu:=XG.string ai
 refine bo (fun c=>by rw[ho];simp) hg hk fun ρ' κ' aw g a w G ai aN=>?_
 have hv:=bJ ρ' κ' (aw.op (by rw[ho];simp[Op.operands])) g n a w G ai aN
 have hi:=oQ ρ' κ' (aw.op (by rw[ho];simp[Op.operands])) g n a w G ai aN
 generalize hx:a.eval x=v at hv
 generalize hy:a.eval ix=u at hi
 cases hv with|dv hv=>cases hv with|str=>
 cases hi with|dv hi=>cases hi with|int=>
 obtain⟨h0,hb⟩:=hb aN
 refine⟨.int .u8 b.toNat,?_,.dv (.int _ _)⟩
 simp[execOp,ho,hx,hy,Instr.index,asIntOf,run_underlying hu,h0,hb]
theorem UR{x y:Operand}{c:Call}{p q:Int}(hg:bZ ρ ops o.guard=some gd)(ho:o.op=.call c)(hc:c.callee=.builtin .min)(ha:c.args.toList=[x,y])
 (hk:aT n o gd nx k (.dv (.int .i64 (if q<p then q else p))) []) (bJ:bz ρ κ gd x (.dv (.int .i64 p))) (oQ:bz ρ κ gd y (.dv (.int .i64 q))):Good P C ops n o nx ρ κ k:=by
 have bN:c.args=#[x,y]:=Array.ext' (by simpa using ha)
 refine bo (fun c=>by rw[ho];simp) hg hk fun ρ' κ' aw g a w G ai aN=>?_
 have hv:=bJ ρ' κ' (aw.op (by rw[ho];simp[Op.operands,Call.operands,hc,bN])) g n a w G ai aN
 have dK:=oQ ρ' κ' (aw.op (by rw[ho];simp[Op.operands,Call.operands,hc,bN])) g n a w G ai aN
 generalize hx:a.eval x=v at hv
 generalize hi:a.eval y=vi at dK
 cases dK with|dv dK=>cases dK with|int=>
 cases hv with|dv hv=>cases hv with|int=>
 refine⟨_,?_,.dv (.int _ _)⟩
 simp[execOp,ho,resolve,hc,bN,invoke,builtin,Builtin.min_,Builtin.min2,hx,hi]
theorem US{x y:Operand}{c:Call}{p q:Int}(hg:bZ ρ ops o.guard=some gd)(ho:o.op=.call c)(hc:c.callee=.builtin .max)(ha:c.args.toList=[x,y])
 (hk:aT n o gd nx k (.dv (.int .i64 (if p<q then q else p))) []) (bJ:bz ρ κ gd x (.dv (.int .i64 p))) (oQ:bz ρ κ gd y (.dv (.int .i64 q))):Good P C ops n o nx ρ κ k:=by
 have bN:c.args=#[x,y]:=Array.ext' (by simpa using ha)
 refine bo (fun c=>by rw[ho];simp) hg hk fun ρ' κ' aw g a w G ai aN=>?_
 have hv:=bJ ρ' κ' (aw.op (by rw[ho];simp[Op.operands,Call.operands,hc,bN])) g n a w G ai aN
 have dK:=oQ ρ' κ' (aw.op (by rw[ho];simp[Op.operands,Call.operands,hc,bN])) g n a w G ai aN
 generalize hx:a.eval x=v at hv
 generalize hi:a.eval y=vi at dK
 cases dK with|dv dK=>cases dK with|int=>
 cases hv with|dv hv=>cases hv with|int=>
 refine⟨_,?_,.dv (.int _ _)⟩
 simp[execOp,ho,resolve,hc,bN,invoke,builtin,Builtin.max_,Builtin.max2,hx,hi]
def n9(ρ:Nat->AV)(κ:Nat->aq)(g:Bool):List (Nat×Operand)->List (Nat×AV)->Prop
 |[],[]=>True
 |(i,x)::r,(j,v)::l=>i=j/\bz ρ κ g x v/\n9 ρ κ g r l
 |_,_=>False
theorem l6:∀{l:List (Nat×Operand)} {k:List (Nat×AV)->Prop},sT ρ κ gd l k->∃r,k r/\n9 ρ κ gd l r
 |[],k,h=>⟨[],h,tv⟩
 |(i,x)::l,k,h=>by
  obtain⟨v,h,hv⟩:=aD h
  obtain⟨r,h,hr⟩:=l6 h
  exact⟨_,h,rfl,hv,hr⟩
theorem fS:∀{l:List AV},b8 l=true->∀v,v∈l->v.aj=true
 |[],_,v,h=>by simp at h
 |x::l,h,v,hv=>by
  simp only[b8,acj]at h
  rcases abO.1 hv with rfl|hv
  ·exact h.1
  ·exact fS h.2 v hv
section
variable {G:Gh}
theorem cj.cT{l:List AV}{vs:List Value}(h:cj G l vs)(hc:b8 l=true):∀v,v∈vs->v.oneCell'=true:=by
 intro v hv
 obtain⟨j,hj,rfl⟩:=List.getElem_of_mem hv
 have pV:j<l.length:=by rw[h.1];exact hj
 exact(h.2 j l[j] vs[j] (aaj pV) (aaj hj)).cT (fS hc _ (acf pV))
theorem mW{av:AV}{v:Value}(h:aG G av v)(hc:b8 (cellsOf av)=true):cj G (cellsOf av) v.cells.toList:=by
 cases av with
 |agg l=>
  cases h with
  |agg _ vs hl hr=>exact⟨by simpa[cellsOf,Value.cells]using hl,by simpa[cellsOf,Value.cells]using hr⟩
 |_=>
  simp only[cellsOf,b8,Bool.and_true]at hc
  have h1:=h.cT hc
  have:v.cells=#[v]:=by cases v<;>first|rfl|(simp[Value.oneCell']at h1)
  rw[this]
  refine⟨rfl,fun j d u hd hu=>?_⟩
  cases j with
  |zero=>simp[cellsOf]at hd hu;subst hd;subst hu;exact h
  |succ j=>simp[cellsOf]at hd
theorem cj.iD{l:List AV}{vs:List Value}{l':List AV}{MB:List Value}(h:cj G l vs)(h':cj G l' MB)(off:Nat)(hle:off+l'.length<=l.length):
 cj G (iD l off l') (vs.take off++MB++vs.drop (off+MB.length)):=by
 have e:=h.1
 have e':=h'.1
 constructor
 ·simp[TM.iD];omega
 ·intro j d v hd hv
  simp only[TM.iD,ab8]at hd hv
  rw[List.getElem?_append]at hd hv
  simp only[ab2]at hd hv
  by_cases h1:j<off
  ·rw[if_pos (by omega)]at hd hv
   rw[List.getElem?_take,if_pos h1]at hd hv
   exact h.2 j d v hd hv
  ·rw[if_neg (by omega)]at hd hv
   rw[List.getElem?_append]at hd hv
   rw[show min off l.length=off by omega]at hd
   rw[show min off vs.length=off by omega]at hv
   by_cases h2:j-off<l'.length
   ·rw[if_pos h2]at hd
    rw[if_pos (by omega)]at hv
    exact h'.2 _ d v hd hv
   ·rw[if_neg h2]at hd
    rw[if_neg (by omega)]at hv
    rw[List.getElem?_drop]at hd hv
    rw[<-e']at hv
    exact h.2 _ d v hd hv
theorem Gs(off:Nat):∀(vs:List Value) (i:Nat) (cur:Array Value),off+i+vs.length<=cur.size->
 ((vs.zipIdx i).foldl (fun cs (p:Value×Nat)=>cs.setIfInBounds (off+p.2) p.1) cur).toList=cur.toList.take (off+i)++vs++cur.toList.drop (off+i+vs.length)
 |[],i,cur,_=>by simp
 |v::rest,i,cur,hl=>by
  simp only[List.zipIdx_cons,List.foldl_cons]
  rw[Gs off rest (i+1) (cur.setIfInBounds (off+i) v) (by simp at hl⊢;omega)]
  have e:=list_seg_step cur.toList (off+i) v rest (by simp at hl⊢;omega)
  simpa[Array.toList_setIfInBounds,Nat.add_assoc]using e
theorem r4(place:Nat->Option (Nat×Nat)):∀(parts:List (Nat×AV)) (IU:List (Nat×Value)) (l l':List AV) (cs:Array Value),
 (parts.length=IU.length/\∀(j:Nat) (p:Nat×AV) (q:Nat×Value),parts[j]?=some p->IU[j]?=some q->p.1=q.1/\aG G p.2 q.2)->cj G l cs.toList->qK place l parts=some l'->
 ∃Tk,Instr.fill place cs IU=some Tk/\cj G l' Tk.toList
 |[],[],l,l',cs,_,hc,h=>by simp[qK]at h;subst h;exact⟨cs,rfl,hc⟩
 |[],q::vr,l,l',cs,hp,_,_=>by simp at hp
 |p::r,[],l,l',cs,hp,_,_=>by simp at hp
 |(i,av)::r,(i',v)::vr,l,l',cs,hp,hc,h=>by
  have h0:=hp.2 0 (i,av) (i',v) rfl rfl
  simp only at h0
  obtain⟨rfl,hv⟩:=h0
  simp only[qK,Be]at h
  split at h
  ·cases h
  ·rename_i off sz KP
   cases hb:(Nat.beq (cellsOf av).length sz&&Nat.ble (off+sz) l.length&&b8 (cellsOf av))with
   |false=>rw[hb]at h;cases h
   |true=>
    rw[hb]at h
    simp only[cond_true]at h
    simp only[acj]at hb
    obtain⟨⟨iZ,ca⟩,vz⟩:=hb
    have iZ:=abL iZ
    have ca:=Nat.le_of_ble_eq_true ca
    have jB:=mW hv vz
    have aV:v.cells.size=sz:=by rw[<-iZ,jB.1];simp
    have hls:l.length=cs.size:=by rw[hc.1];simp
    have ki:((v.cells.zipIdx.foldl (fun cs (p:Value×Nat)=>cs.setIfInBounds (off+p.2) p.1) cs).toList)=cs.toList.take off++v.cells.toList++cs.toList.drop (off+v.cells.toList.length):=by
     rw[<-Array.foldl_toList,Array.toList_zipIdx]
     have:=Gs off v.cells.toList 0 cs (by simp;omega)
     simpa using this
    have A3:cj G (iD l off (cellsOf av)) (v.cells.zipIdx.foldl (fun cs (p:Value×Nat)=>cs.setIfInBounds (off+p.2) p.1) cs).toList:=by
     rw[ki]
     exact hc.iD jB off (by omega)
    obtain⟨Tk,h1,h2⟩:=r4 place r vr _ l' _ ⟨by simpa using hp.1,fun j p q Tj GO=>hp.2 (j+1) p q (by simpa using Tj) (by simpa using GO)⟩ A3 h
    refine⟨Tk,?_,h2⟩
    simp only[Instr.fill,KP,aV]
    rw[if_neg (by simp;omega)]
    exact h1
end
theorem n9.rel{ρ':Nat->AV}{κ':Nat->aq}{g:dP}{a:Act}{w:World}{G:Gh}(ai:cy g n ρ' κ' a w G)(aN:gd=true):
 ∀{l:List (Nat×Operand)} {r:List (Nat×AV)},n9 ρ κ gd l r->(∀p,p∈l->BY ρ ρ' κ κ' p.2)->
  (r.length=(l.map fun p=>(p.1,a.eval p.2)).length/\∀(j:Nat) (p:Nat×AV) (q:Nat×Value),r[j]?=some p->(l.map fun p=>(p.1,a.eval p.2))[j]?=some q->p.1=q.1/\aG G p.2 q.2)
 |[],[],_,_=>⟨rfl,by simp⟩
 |[],_::_,h,_=>h.elim
 |_::_,[],h,_=>h.elim
 |(i,x)::l,(j,v)::r,⟨DQ,hv,h⟩,aw=>by
  obtain⟨h1,h2⟩:=n9.rel ai aN h (fun p hp=>aw p (by simp[hp]))
  have Gi:=hv ρ' κ' (aw (i,x) (by simp)) g n a w G ai aN
  refine⟨by simpa using h1,fun jj p q hp hq=>?_⟩
  cases jj with
  |zero=>simp at hp hq;subst hp;subst hq;exact⟨DQ.symm,Gi⟩
  |succ jj=>exact h2 jj p q (by simpa using hp) (by simpa using hq)
theorem Gt{w:World}(fs:List Field)(h:∀f,f∈fs->∃j,P.info? f.type=some j):((fs.toArray.mapM fun f=>do pure (f.offset,<-sizeOf f.type)):Sem (Array (Nat×Nat))).run P w=.ok (fs.map fun f=>(f.offset,match P.info? f.type with|some j=>j.size|none=>0)).toArray w:=by
 have key:∀(l:List Field),(∀f,f∈l->∃j,P.info? f.type=some j)->((l.mapM fun f=>do pure (f.offset,<-sizeOf f.type)):Sem (List (Nat×Nat))).run P w=.ok (l.map fun f=>(f.offset,match P.info? f.type with|some j=>j.size|none=>0)) w:=by
  intro l
  induction l with
  |nil=>intro _;rfl
  |cons f r ih=>
   intro hl
   obtain⟨j,hj⟩:=hl f (by simp)
   have:=ih (fun f hf=>hl f (by simp[hf]))
   simp only[List.mapM_cons,Sem.run_bind,jS hj,Result.andThen_ok,Sem.run_pure,this,List.map_cons,hj]
 rw[List.mapM_toArray]
 simp only[Sem.run_map,key fs h,Result.andThen_ok]
theorem M9(hT:fb P T){t:Nat}{parts:Array (Nat×Operand)}{l:List (Nat×AV)}{cs:List AV}(hg:bZ ρ ops o.guard=some gd)(ho:o.op=.build t parts)(cr:(nth T t).ok=true)
 (hp:n9 ρ κ gd parts.toList l) (oH:qK (fun i=>(nth T t).fields[i]?) (fc (nth T t).zero) l=some cs) (aa4:Nat.beq (nth T t).kind 9=true) (hk:aT n o gd nx k (.agg cs) []):Good P C ops n o nx ρ κ k:=by
 obtain⟨ti,u,z,tf⟩:=hT.facts cr
 have hu:∃fs,u=.struct fs:=by
  have h1:=tf.kind
  rw[abL aa4]at h1
  cases u<;>simp[kindOf]at h1
  exact⟨_,rfl⟩
 obtain⟨fs,rfl⟩:=hu
 refine bo (fun c=>by rw[ho];simp) hg hk fun ρ' κ' aw g a w G ai aN=>?_
 have HM:∀p,p∈parts.toList->BY ρ ρ' κ κ' p.2:=fun p Tj=>aw.op (by
  rw[ho]
  simp only[Op.operands,List.mem_toArray,ab9]
  exact⟨p,Tj,rfl⟩)
 have h1:=hp.rel ai aN HM
 have hz:cj G (fc (nth T t).zero) z.cells.toList:=by
  exact jd (eZ (M:=G.M) tf.zc).1
 obtain⟨Tk,h3,h4⟩:=r4 _ l _ _ cs z.cells h1 hz oH
 have aa5:aG G (.agg cs) (.agg Tk):=by
  have:=aG.agg (G:=G) cs Tk.toList h4.1 h4.2
  simpa using this
 refine⟨.agg Tk,?_,aa5⟩
 ·have KP:((fs.mapM fun f=>do pure (f.offset,<-sizeOf f.type)):Sem (Array (Nat×Nat))).run P w=.ok (nth T t).fields.toArray w:=by
   have:=Gt (P:=P) (w:=w) fs.toList (fun f hf=>by
    have:=tf.fin
    simp only[yC,ab6]at this
    exact Option.isSome_iff_exists.1 (this f hf))
   simp only[Array.toArray_toList]at this
   rw[this,tf.fields]
   rfl
  have Kw:Instr.fill (fun i=>(nth T t).fields.toArray[i]?) z.cells (parts.map fun p=>(p.1,a.eval p.2)).toList=some Tk:=by
   simpa using h3
  simp only[execOp,ho,Instr.build,Sem.run_bind,tf.tI w,Result.andThen_ok,run_underlying tf.AD,KP]
  rw[Kw]
  rfl
end
end
end Go.TM
