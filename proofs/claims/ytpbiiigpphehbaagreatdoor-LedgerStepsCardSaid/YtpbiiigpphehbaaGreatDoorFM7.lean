import Derived.Test.YtpbiiigpphehbaaGreatDoorFM6
set_option linter.all false
namespace Go.TM
open Go.RowKit
variable [cj]
section
variable {P:Program} {C:dO->Prop} {T:List TI} {ops:List Oper} {n:Nat} {o:Oper} {nx:Nat} {ρ:Nat->AV} {κ:Nat->ar} {k:lj->Nat->Prop} {gd:Bool}
theorem Rr{x:Operand}(hg:b5 ρ ops o.guard=some gd)(ho:o.op=.move x)(h:ex ρ κ gd x fun v=>aT n o gd nx k v []):Good P C ops n o nx ρ κ k:=by
 by_cases hm:gJ ρ κ o=ME ρ o
 ·obtain⟨av,hk,bO⟩:=aI h
  refine bq (fun c=>by rw[ho];simp) hg hk fun ρ' κ' ax g a w G aj aP=>?_
  have hv:=bO ρ' κ' (ax.opR (by rw[ho];simp[Op.operands]) hm) g n a w G aj aP
  exact⟨_,by simp[execOp,ho],hv⟩
 ·unfold gJ at hm
  split at hm
  ·rename_i t ht
   rw[ho]at ht
   injection ht with ht
   subst ht
   cases hb:mvT κ (ρ t)with
   |false=>rw[hb]at hm;exact absurd rfl hm
   |true=>
    generalize hρ:ρ t=v at hb
    cases v with
    |own i ver ep p=>
     simp only[mvT]at hb
     cases hk:κ i with
     |tree V E d=>
      unfold ex at h
      simp only[ev,hρ,res,hk]at h
      cases hc:Nat.beq ver V&&(emp p||Nat.beq ep E)with
      |true=>
       rw[hc]at h
       simp only[cond_true]at h
       rw[force_eq]at h
       refine bq (fun c=>by rw[ho];simp) hg h fun ρ' κ' ax g a w G aj aP=>?_
       have h1:=aj.env t
       rw[ax.bR t (by unfold Oper.looksAt;rw[ho];exact abI.2 (.inl (by simp[Op.operands]))),hρ]at h1
       exact⟨_,by simp only[execOp,ho];rfl,h1⟩
      |false=>
       rw[hc]at h
       simp only[cond_false]at h
       rw[force_eq]at h
       refine bq (fun c=>by rw[ho];simp) hg h fun ρ' κ' ax g a w G aj aP=>?_
       exact⟨a.eval (.tmp t),by simp[execOp,ho],.any _⟩
     |_=>rw[hk]at hb;cases hb
    |_=>cases hb
  ·exact absurd rfl hm
theorem K8{x:Operand}{av:AV}(hg:b5 ρ ops o.guard=some gd)(ho:o.op=.assign x)(hk:aT n o gd nx k av [])(bO:bC ρ κ gd x av):Good P C ops n o nx ρ κ k:=by
 refine bq (fun c=>by rw[ho];simp) hg hk fun ρ' κ' ax g a w G aj aP=>?_
 have hv:=bO ρ' κ' (ax.op (by rw[ho];simp[Op.operands])) g n a w G aj aP
 exact⟨_,by simp[execOp,ho],hv⟩
theorem oW{x:Operand}{av:AV}(hg:b5 ρ ops o.guard=some gd)(ho:o.op=.nilCheck x)(hk:aT n o gd nx k av [])(bO:bC ρ κ gd x av)
 (hp:∀(G:Gh) (v:Value),aH G av v->∃a,v=.pointer (some a)):Good P C ops n o nx ρ κ k:=by
 refine bq (fun c=>by rw[ho];simp) hg hk fun ρ' κ' ax g a w G aj aP=>?_
 have hv:=bO ρ' κ' (ax.op (by rw[ho];simp[Op.operands])) g n a w G aj aP
 obtain⟨p,hp⟩:=hp _ _ hv
 refine⟨_,?_,hv⟩
 simp[execOp,ho,hp]
theorem Nv(hT:eV P T){op:BinOp}{t ty:TypeId}{x y:Operand}(hg:b5 ρ ops o.guard=some gd)(ho:o.op=.binOp op t x y ty)
 {va vb:AV} (UI:bC ρ κ gd x va) (UJ:bC ρ κ gd y vb) (h:sS (nth T t) op va vb gd fun v=>aT n o gd nx k v []):Good P C ops n o nx ρ κ k:=by
 obtain⟨r,hk,hc,hr⟩:=I9 (P:=P) hT h
 refine bq (fun c=>by rw[ho];simp) hg hk fun ρ' κ' ax g a w G aj aP=>?_
 have h1:=UI ρ' κ' (ax.op (by rw[ho];simp[Op.operands])) g n a w G aj aP
 have h2:=UJ ρ' κ' (ax.op (by rw[ho];simp[Op.operands])) g n a w G aj aP
 obtain⟨v,h3,h4,h5,h6⟩:=hr G w _ _ aP h1 h2
 refine⟨v,?_,.dv h4⟩
 simp only[execOp,ho,Sem.run_bind,iK op t x y _ _ h5 h6,Result.andThen_ok,h3,Sem.run_pure]
theorem UM{t:TypeId}{x:Operand}{b:Bool}(hg:b5 ρ ops o.guard=some gd)(ho:o.op=.unOp .not t x)(hk:aT n o gd nx k (.dv (.bool (!b))) [])(bO:bC ρ κ gd x (.dv (.bool b))):Good P C ops n o nx ρ κ k:=by
 refine bq (fun c=>by rw[ho];simp) hg hk fun ρ' κ' ax g a w G aj aP=>?_
 have hv:=bO ρ' κ' (ax.op (by rw[ho];simp[Op.operands])) g n a w G aj aP
 generalize hx:a.eval x=v at hv
 cases hv with|dv hv=>cases hv with|bool=>
 exact⟨_,by simp[execOp,ho,hx,Op.unary],.dv (.bool _)⟩
theorem UN{t:TypeId}{x:Operand}{kd:IntKind}{m:Int}(hg:b5 ρ ops o.guard=some gd)(ho:o.op=.unOp .neg t x)(hk:arith kd (0-m) gd fun v=>aT n o gd nx k v [])(bO:bC ρ κ gd x (.dv (.int kd m))):Good P C ops n o nx ρ κ k:=by
 obtain⟨r,hk,he⟩:=jM hk
 refine bq (fun c=>by rw[ho];simp) hg hk fun ρ' κ' ax g a w G aj aP=>?_
 have hv:=bO ρ' κ' (ax.op (by rw[ho];simp[Op.operands])) g n a w G aj aP
 generalize hx:a.eval x=v at hv
 cases hv with|dv hv=>cases hv with|int=>
 refine⟨.int kd r,?_,.dv (.int kd r)⟩
 have:=he aP
 simp only[execOp,ho,hx,Op.unary,Op.intArith,this,Sem.run_bind,Sem.run_pure,Result.andThen_ok]
theorem Hp{x:Operand}{i:Nat}{l:List AV}{av:AV}(hg:b5 ρ ops o.guard=some gd)(ho:o.op=.extract x i)(hk:aT n o gd nx k av [])(hl:l[i]?=some av)(bO:bC ρ κ gd x (.fO l)):Good P C ops n o nx ρ κ k:=by
 refine bq (fun c=>by rw[ho];simp) hg hk fun ρ' κ' ax g a w G aj aP=>?_
 have hv:=bO ρ' κ' (ax.op (by rw[ho];simp[Op.operands])) g n a w G aj aP
 generalize hx:a.eval x=v at hv
 cases hv with
 |fO _ vs hlen hr=>
  have hi:i<l.length:=(abA.1 hl).1
  have hvi:vs[i]?=some (vs[i]'(by omega)):=aaa (by omega)
  refine⟨_,?_,hr i av _ hl hvi⟩
  simp[execOp,ho,hx,Instr.extract,hvi]
theorem nE{c x y:Operand}{b p q:Bool}(hg:b5 ρ ops o.guard=some gd)(ho:o.op=.pick c x y)(hk:aT n o gd nx k (.dv (.bool (bif b then p else q))) [])
 (hc:bC ρ κ gd c (.dv (.bool b))) (hx:bC ρ κ (gd&&b) x (.dv (.bool p))) (hy:bC ρ κ (gd&& !b) y (.dv (.bool q))):Good P C ops n o nx ρ κ k:=by
 refine bq (fun c=>by rw[ho];simp) hg hk fun ρ' κ' ax g a w G aj aP=>?_
 have hv:=hc ρ' κ' (ax.op (by rw[ho];simp[Op.operands])) g n a w G aj aP
 generalize hxc:a.eval c=v at hv
 cases hv with|dv hv=>cases hv with|bool=>
 subst aP
 cases b with
 |true=>
  have hv:=hx ρ' κ' (ax.op (by rw[ho];simp[Op.operands])) g n a w G aj rfl
  generalize ql:a.eval x=v at hv
  cases hv with|dv hv=>cases hv with|bool=>
  exact⟨_,by simp[execOp,ho,hxc,ql,asBool],.dv (.bool _)⟩
 |false=>
  have hv:=hy ρ' κ' (ax.op (by rw[ho];simp[Op.operands])) g n a w G aj rfl
  generalize ql:a.eval y=v at hv
  cases hv with|dv hv=>cases hv with|bool=>
  exact⟨_,by simp[execOp,ho,hxc,ql,asBool],.dv (.bool _)⟩
theorem nF(hT:eV P T){t f off sz:Nat}{x:Operand}{av Z7:AV}(hg:b5 ρ ops o.guard=some gd)(ho:o.op=.fieldAddr t x f)(cB:(nth T t).ok=true)(hf:(nth T t).fields[f]?=some (off,sz+1))
 (hk:aT n o gd nx k Z7 []) (bO:bC ρ κ gd x av)
 (hp:∀(G:Gh) (v:Value),aH G av v->∃a,v=.pointer (some a)/\aH G Z7 (.pointer (some (a.add off)))):Good P C ops n o nx ρ κ k:=by
 obtain⟨i,u,z,tf⟩:=hT.facts cB
 obtain⟨fs,fd,hu,Xx,MZ,j,hj,hjs⟩:=tf.field hf (by omega)
 refine bq (fun c=>by rw[ho];simp) hg hk fun ρ' κ' ax g a w G aj aP=>?_
 have hv:=bO ρ' κ' (ax.op (by rw[ho];simp[Op.operands])) g n a w G aj aP
 obtain⟨p,hp,Ri⟩:=hp _ _ hv
 refine⟨_,?_,Ri⟩
 simp[execOp,ho,hp,Instr.fieldAt,run_underlying hu,Xx,Instr.sureAddr,fieldPlace,jv hj,hjs,MZ]
theorem dY{agg:Bool}{l:List AV}{off sz:Nat}{ret:AV->Prop}(h:cn agg l off sz ret):
 ∃v,ret v/\((agg=true/\off+sz<=l.length/\v=.agg ((l.drop off).take sz))\/(agg=false/\l[off]?=some v)):=by
 unfold cn at h
 cases agg with
 |true=>
  simp only[cond_true]at h
  cases hb:Nat.ble (off+sz) l.length with
  |false=>rw[hb]at h;exact h.elim
  |true=>rw[hb]at h;exact⟨_,h,.inl ⟨rfl,Nat.le_of_ble_eq_true hb,rfl⟩⟩
 |false=>
  simp only[cond_false]at h
  split at h
  ·rename_i v hv;rw[force_eq]at h;exact⟨v,h,.inr ⟨rfl,hv⟩⟩
  ·exact h.elim
theorem kO(hT:eV P T){t off:Nat}{l:List AV}{av:AV}{w:World}{G:Gh}(cB:(nth T t).ok=true)(A:Addr)(vs:Nat->Value)
 (hc:∀j,j<l.length->w.cell? (A.add j)=some (vs j)) (hr:∀(j:Nat) (d:AV),l[j]?=some d->aH G d (vs j))
 (hp:((nth T t).agg=true/\off+(nth T t).size<=l.length/\av=.agg ((l.drop off).take (nth T t).size))\/((nth T t).agg=false/\l[off]?=some av)):
 ∃v,(Instr.loadAt t (.pointer (some (A.add off)))).run P w=.ok v w/\aH G av v:=by
 obtain⟨i,u,z,tf⟩:=hT.facts cB
 rcases hp with⟨ha,hle,rfl⟩|⟨ha,hl⟩
 ·refine⟨.agg ((List.range (nth T t).size).map fun j=>vs (off+j)).toArray,?_,?_⟩
  ·have:=run_loadCells (P:=P) w (A.add off) (nth T t).size (fun j=>vs (off+j)) (fun j hj=>by rw[cG];exact hc _ (by omega))
   simp only[Instr.loadAt,Instr.sureAddr,Sem.run_bind,Sem.run_pure,Result.andThen_ok,loadVar,tf.tY w,ha,if_true,tf.fL w,this]
  ·refine .agg _ _ (by simp;omega) fun j d v hd hv=>?_
   rw[List.getElem?_take]at hd
   split at hd
   ·rename_i hj
    rw[List.getElem?_drop]at hd
    simp[hj]at hv
    subst hv
    exact hr _ _ hd
   ·cases hd
 ·have au:off<l.length:=(abA.1 hl).1
  refine⟨vs off,?_,hr _ _ hl⟩
  simp only[Instr.loadAt,Instr.sureAddr,Sem.run_bind,Sem.run_pure,Result.andThen_ok,loadVar,tf.tY w,ha,Bool.false_eq_true,if_false,run_load,hc off au]
theorem EC(hT:eV P T){t i off:Nat}{x:Operand}{l:List AV}(hg:b5 ρ ops o.guard=some gd)(ho:o.op=.load t x)(cB:(nth T t).ok=true)(hb:κ i=.cells l)
 (hk:cn (nth T t).agg l off (nth T t).size fun v=>aT n o gd nx k v [i]) (bO:bC ρ κ gd x (.ptr i off)):Good P C ops n o nx ρ κ k:=by
 obtain⟨av,hk,hp⟩:=dY hk
 refine bq (fun c=>by rw[ho];simp) hg hk fun ρ' κ' ax g a w G aj aP=>?_
 have hv:=bO ρ' κ' (ax.op (by rw[ho];simp[Op.operands])) g n a w G aj aP
 have eu:κ' i=.cells l:=(ax.reads i (by simp)).trans hb
 have tO:=aj.fit.box i
 rw[eu]at tO
 obtain⟨b,c,tt,hbe,hw,aW,mX,hr⟩:=tO
 generalize hx:a.eval x=v at hv
 cases hv with
 |ptr _ _ b' BZ=>
 rw[hbe]at BZ;injection BZ with BZ;subst BZ
 have hA:(⟨b,off,none⟩:Addr)=(⟨b,0,none⟩:Addr).add off:=by rw[eL];simp
 obtain⟨v,h1,h2⟩:=kO (P:=P) (av:=av) (w:=w) (G:=G) (l:=l) (off:=off) hT cB ⟨b,0,none⟩ (fun j=>c.getD j undef) (fun j hj=>by
  rw[eL]
  simp[World.cell?,hw,aW,hj]) (fun j d hd=>by
  have hj:j<l.length:=(abA.1 hd).1
  exact hr j d _ hd (by simp[aW,hj])) hp
 refine⟨v,?_,h2⟩
 rw[<-hA]at h1
 simp only[execOp,ho,hx,Sem.run_bind,h1,Result.andThen_ok,Sem.run_pure]
theorem Hn(hT:eV P T){t off:Nat}{x:Operand}{y:DV}(hg:b5 ρ ops o.guard=some gd)(ho:o.op=.load t x)(cB:(nth T t).ok=true)
 (hk:cn (nth T t).agg (eB y.cells) off (nth T t).size fun v=>aT n o gd nx k v []) (bO:bC ρ κ gd x (.dv (.at y off))):Good P C ops n o nx ρ κ k:=by
 obtain⟨av,hk,hp⟩:=dY hk
 refine bq (fun c=>by rw[ho];simp) hg hk fun ρ' κ' ax g a w G aj aP=>?_
 have hv:=bO ρ' κ' (ax.op (by rw[ho];simp[Op.operands])) g n a w G aj aP
 generalize hx:a.eval x=v at hv
 cases hv with|dv hv=>cases hv with
 |_=>
  rename_i A cell mX hc hr
  obtain⟨v,h1,h2⟩:=kO (P:=P) (av:=av) (w:=w) (G:=G) (l:=eB y.cells) (off:=off) hT cB A cell (fun j hj=>aj.fit.sub.cell (hc j (by simpa[nv]using hj))) (fun j d hd=>by
   obtain⟨d',kj,rfl⟩:=QM hd
   exact .dv (hr j d' kj)) hp
  refine⟨v,?_,h2⟩
  simp only[execOp,ho,hx,Sem.run_bind,h1,Result.andThen_ok,Sem.run_pure]
theorem bU{gd:Bool}:∀{p:List PS} {d:DV} {k:DV->Prop},jw gd d p k->∃nd,k nd/\(gd=true->get d p=some nd)
 |[],d,k,h=>⟨d,h,fun _=>rfl⟩
 |s::p,d,k,h=>by
  cases d<;>cases s<;>simp only[jw]at h<;>(try exact h.elim)
  ·obtain⟨x,hx,h⟩:=h
   split at h
   ·rename_i c hc
    obtain⟨nd,h1,h2⟩:=bU h
    exact⟨nd,h1,fun hg=>by simp only[get,step,hx hg,hc];exact h2 hg⟩
   ·exact h.elim
  ·rename_i x i j
   cases hb:Nat.beq i 0 with
   |false=>rw[hb]at h;exact h.elim
   |true=>
    rw[hb]at h
    simp only[cond_true]at h
    split at h
    ·rename_i c hc
     obtain⟨nd,h1,h2⟩:=bU h
     exact⟨nd,h1,fun hg=>by simp only[get,step,hb,cond_true,hc];exact h2 hg⟩
    ·exact h.elim
  ·obtain⟨x,hx,h⟩:=h
   split at h
   ·rename_i c hc
    obtain⟨nd,h1,h2⟩:=bU h
    exact⟨nd,h1,fun hg=>by simp only[get,step,hx hg,hc];exact h2 hg⟩
   ·exact h.elim
theorem fb:∀{p:List PS} {d nd:DV} {k:DV->Prop},uH d p nd k->k (dM d p nd)/\∃c,get d p=some c
 |[],d,nd,k,h=>⟨h,d,rfl⟩
 |s::p,d,nd,k,h=>by
  cases d<;>cases s<;>simp only[uH]at h<;>(try exact h.elim)
  ·rename_i sz l i j
   obtain⟨x,hx,h⟩:=h
   split at h
   ·rename_i c hc
    obtain⟨h1,c',h2⟩:=fb h
    exact⟨by simp only[dM,step,hx,hc,put];exact h1,c',by simp only[get,step,hx,hc];exact h2⟩
   ·exact h.elim
  ·rename_i x i j
   cases hb:Nat.beq i 0 with
   |false=>rw[hb]at h;exact h.elim
   |true=>
    rw[hb]at h
    simp only[cond_true]at h
    split at h
    ·rename_i c hc
     obtain⟨h1,c',h2⟩:=fb h
     exact⟨by simp only[dM,step,hb,cond_true,hc,put];exact h1,c',by simp only[get,step,hb,cond_true,hc];exact h2⟩
    ·exact h.elim
  ·rename_i s m kk j
   obtain⟨x,hx,h⟩:=h
   split at h
   ·rename_i c hc
    obtain⟨h1,c',h2⟩:=fb h
    exact⟨by simp only[dM,step,hx,hc,put];exact h1,c',by simp only[get,step,hx,hc];exact h2⟩
   ·exact h.elim
theorem dA{ver aY ep bY:Nat}{p:List PS}(h:(Nat.beq ver aY&&(emp p||Nat.beq ep bY))=true):ver=aY/\(p=[]\/ep=bY):=by
 simp only[aca,Bool.or_eq_true]at h
 refine⟨abD h.1,?_⟩
 rcases h.2 with h|h
 ·left;cases p with
  |nil=>rfl
  |cons=>simp[emp]at h
 ·right;exact abD h
theorem cR{H:Nat->Nat->Nat->List PS->Option Value}{i ver ep bY:Nat}{p:List PS}(h:p=[]\/ep=bY):aJ H i ver ep p=aJ H i ver bY p:=by
 rcases h with rfl|rfl<;>rfl
theorem Fit.node{κ:Nat->ar}{w:World}{G:Gh}(aj:Fit G w κ){i ver ep:Nat}{d nd:DV}{p:List PS}(hk:κ i=.tree ver ep d)(hp:get d p=some nd)(ho:nd.ao=true):
 ∃v,aJ G.H i ver ep p=some v/\v.oneCell'=true/\cD G.M w v (fun s=>aJ G.H i ver ep (p++[s])) nd:=by
 have hb:=aj.box i
 rw[hk]at hb
 exact hb.1.2 p nd hp ho
theorem xH{G:Gh}{i ver ep:Nat}{p:List PS}{s:PS}{d:DV}{u:Value}(hc:d.ai=true)(h:dC G.M (aJ G.H i ver ep (p++[s])) d u)(hu:d.ao=true->u.oneCell'=true):aH G (vn i ver ep p s d) u:=by
 rcases h with⟨h1,h2⟩|⟨h1,h2⟩
 ·simp only[vn,h1,cond_true];exact .own _ _ _ _ _ h2 (hu h1)
 ·simp only[vn,h1,cond_false];exact .dv h2
theorem zK{i ver ep:Nat}{p:List PS}{idx:Nat}:∀{l:List DV} {s j:Nat} {v:AV},(kR i ver ep p idx s l)[j]?=some v->∃d,l[j]?=some d/\v=vn i ver ep p (.el idx (s+j)) d
 |[],s,j,v,h=>by simp[kR]at h
 |d::l,s,0,v,h=>by simp[kR]at h;exact⟨d,rfl,h.symm⟩
 |d::l,s,j+1,v,h=>by
  simp only[kR,List.getElem?_cons_succ]at h
  obtain⟨d',h1,h2⟩:=zK h
  exact⟨d',by simpa using h1,by rw[h2];congr 2;omega⟩
theorem n9{i ver ep:Nat}{p:List PS}{idx:Nat}:∀{l:List DV} {s:Nat},(kR i ver ep p idx s l).length=l.length
 |[],s=>rfl
 |d::l,s=>by simp[kR,n9]
theorem xG{i ver ep:Nat}{p:List PS}{kk:DV}:∀{l:List DV} {s j:Nat} {v:AV},(kF i ver ep p kk s l)[j]?=some v->∃d,l[j]?=some d/\v=vn i ver ep p (.key kk (s+j)) d
 |[],s,j,v,h=>by simp[kF]at h
 |d::l,s,0,v,h=>by simp[kF]at h;exact⟨d,rfl,h.symm⟩
 |d::l,s,j+1,v,h=>by
  simp only[kF,List.getElem?_cons_succ]at h
  obtain⟨d',h1,h2⟩:=xG h
  exact⟨d',by simpa using h1,by rw[h2];congr 2;omega⟩
theorem ny{i ver ep:Nat}{p:List PS}{kk:DV}:∀{l:List DV} {s:Nat},(kF i ver ep p kk s l).length=l.length
 |[],s=>rfl
 |d::l,s=>by simp[kF,ny]
theorem Fit.cells{κ:Nat->ar}{w:World}{G:Gh}(aj:Fit G w κ){i ver ep:Nat}{d nd:DV}{p:List PS}(hk:κ i=.tree ver ep d)(hp:get d p=some nd){sz idx:Nat}{K:List AV->Prop}{A:Addr}
 (hA:aJ G.H i ver ep p=some (.pointer (some A))\/∃m c,aJ G.H i ver ep p=some (.slice (some A) m c)) {l:List AV} (hl:(∃l0 x,nd=.aB sz l0/\l0[idx]?=some x/\l=kR i ver ep p idx 0 x.cells)\/(∃x,nd=.gm x/\idx=0/\l=kR i ver ep p 0 0 x.cells)):
 ∃vs:Nat->Value,(∀j,j<l.length->w.cell? ((A.add (idx*sz)).add j)=some (vs j))/\∀(j:Nat) (d:AV),l[j]?=some d->aH G d (vs j):=by
 have gn:∀s c u,step nd s=some c->c.ao=true->aJ G.H i ver ep (p++[s])=some u->u.oneCell'=true:=by
  intro s c u hs hc hu
  obtain⟨v,h1,h2,_⟩:=aj.node hk (p:=p++[s]) (nd:=c) (by rw[get_append,hp];simp[get,hs]) hc
  rw[h1]at hu;injection hu with hu;subst hu;exact h2
 rcases hl with⟨l0,x,rfl,hx,rfl⟩|⟨x,rfl,rfl,rfl⟩
 ·obtain⟨v,h1,h2,bn⟩:=aj.node hk hp rfl
  rcases bn with⟨rfl,_⟩|⟨gb,ob,cap,c,t,rfl,dW,hw,aW,ql⟩
  ·simp at hx
  ·have hAe:A=⟨gb,ob,none⟩:=by
    rcases hA with hA|⟨m,cc,hA⟩
    ·rw[h1]at hA;cases hA
    ·rw[h1]at hA;injection hA with hA;injection hA with hA;injection hA with hA;exact hA.symm
   subst hAe
   obtain⟨a1,a2⟩:=ql idx x hx
   refine⟨fun j=>c.getD (ob+idx*sz+j) undef,fun j hj=>?_,fun j dd hd=>?_⟩
   ·rw[n9]at hj
    obtain⟨_,u,b1,_⟩:=a2 j _ (aaa hj)
    rw[cG,eL]
    simp only[World.cell?,hw]
    rw[show ob+(idx*sz+j)=ob+idx*sz+j by omega,abK,b1]
    rfl
   ·obtain⟨d0,e1,rfl⟩:=zK hd
    obtain⟨b0,u,b1,b2⟩:=a2 j d0 e1
    show aH G _ (c.getD (ob+idx*sz+j) undef)
    rw[abK,b1,Nat.zero_add]
    refine xH b0 b2 fun ho=>?_
    rcases b2 with⟨_,b2⟩|⟨b2,_⟩
    ·exact gn (.el idx j) d0 u (by simp only[step,hx];exact e1) ho b2
    ·rw[ho]at b2;cases b2
 ·obtain⟨v,h1,h2,bn⟩:=aj.node hk hp rfl
  obtain⟨gb,c,t,rfl,hw,aW,ql⟩:=bn
  have hAe:A=⟨gb,0,none⟩:=by
   rcases hA with hA|⟨m,cc,hA⟩
   ·rw[h1]at hA;injection hA with hA;injection hA with hA;injection hA with hA;exact hA.symm
   ·rw[h1]at hA;cases hA
  subst hAe
  refine⟨fun j=>c.getD j undef,fun j hj=>?_,fun j dd hd=>?_⟩
  ·rw[n9]at hj
   obtain⟨_,u,b1,_⟩:=ql j _ (aaa hj)
   rw[cG,eL]
   simp only[World.cell?,hw]
   rw[show 0+(0*sz+j)=j by omega,abK,b1]
   rfl
  ·obtain⟨d0,e1,rfl⟩:=zK hd
   obtain⟨b0,u,b1,b2⟩:=ql j d0 e1
   show aH G _ (c.getD j undef)
   rw[abK,b1,Nat.zero_add]
   refine xH b0 b2 fun ho=>?_
   rcases b2 with⟨_,b2⟩|⟨b2,_⟩
   ·exact gn (.el 0 j) d0 u (by simp[step];exact e1) ho b2
   ·rw[ho]at b2;cases b2
theorem ED(hT:eV P T){t i ver ep bY sz idx off:Nat}{p:List PS}{x:Operand}{d:DV}(hg:b5 ρ ops o.guard=some gd)(ho:o.op=.load t x)(cB:(nth T t).ok=true)
 (hb:κ i=.tree ver bY d) (dG:p=[]\/ep=bY)
 (hk:jw gd d p fun nd=>ko i ver bY p gd sz idx nd fun l=>cn (nth T t).agg l off (nth T t).size fun v=>aT n o gd nx k v [i]) (bO:bC ρ κ gd x (.loc i ver ep p sz idx off)):Good P C ops n o nx ρ κ k:=by
 obtain⟨nd,hk,dh⟩:=bU hk
 have qA:∃l,(cn (nth T t).agg l off (nth T t).size fun v=>aT n o gd nx k v [i])/\(gd=true->(∃l0 x,nd=.aB sz l0/\l0[idx]?=some x/\l=kR i ver bY p idx 0 x.cells)\/(∃x,nd=.gm x/\idx=0/\l=kR i ver bY p 0 0 x.cells)):=by
  unfold ko at hk
  split at hk
  ·rename_i qP l0
   cases hs:Nat.beq sz qP with
   |false=>rw[hs]at hk;exact hk.elim
   |true=>
    rw[hs]at hk
    have:=abD hs
    subst this
    obtain⟨x,hx,hk⟩:=hk
    exact⟨_,hk,fun aP=>.inl ⟨l0,x,rfl,hx aP,rfl⟩⟩
  ·rename_i x
   cases hs:Nat.beq idx 0 with
   |false=>rw[hs]at hk;exact hk.elim
   |true=>
    rw[hs]at hk
    exact⟨_,hk,fun _=>.inr ⟨x,rfl,abD hs,rfl⟩⟩
  ·exact hk.elim
 obtain⟨l,hk,hl⟩:=qA
 obtain⟨av,hk,hp⟩:=dY hk
 refine bq (fun c=>by rw[ho];simp) hg hk fun ρ' κ' ax g a w G aj aP=>?_
 have hv:=bO ρ' κ' (ax.op (by rw[ho];simp[Op.operands])) g n a w G aj aP
 have eu:κ' i=.tree ver bY d:=(ax.reads i (by simp)).trans hb
 have key:∀A,a.eval x=.pointer (some (A.add (idx*sz+off)))->(aJ G.H i ver ep p=some (.pointer (some A))\/∃m c,aJ G.H i ver ep p=some (.slice (some A) m c))->∃v,(execOp a.eval o).run P w=.ok (.value v) w/\aH G av v:=by
  intro A hx hA
  rw[cR dG]at hA
  obtain⟨vs,h1,h2⟩:=aj.fit.cells (K:=fun _=>True) eu (dh aP) hA (hl aP)
  obtain⟨v,h3,h4⟩:=kO (P:=P) (av:=av) (w:=w) (G:=G) (l:=l) (off:=off) hT cB (A.add (idx*sz)) vs h1 h2 hp
  rw[cG]at h3
  exact⟨v,by simp only[execOp,ho,hx,Sem.run_bind,h3,Result.andThen_ok,Sem.run_pure],h4⟩
 generalize hx:a.eval x=v at hv
 cases hv with
 |loc _ _ _ _ _ _ _ A m c h=>exact key A hx (.inr ⟨m,c,h⟩)
 |qm _ _ _ _ _ _ _ A h=>exact key A hx (.inl h)
end
end Go.TM
