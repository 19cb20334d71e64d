import Derived.Test.YtmojfblpbcficaaGreatDoorCM4
import Derived.Laws.StructEq
set_option linter.all false
namespace Go.TM
set_option maxHeartbeats 1000000
section
open Go.RowKit
variable [cn]
theorem add_zero'(a:Addr):a.add 0=a:=by rfl
section
variable {P:Program} {C:dW->Prop} {T:List TI} {ops:List Oper} {n:Nat} {o:Oper} {nx:Nat} {ρ:Nat->AV} {κ:Nat->au} {k:lN->Nat->Prop} {gd:Bool}
theorem Ei(hT:fh P T){t:Nat}{x i:Operand}{sz:Nat}{l:List DV}{y:DV}{kd:IntKind}{m:Int}(hg:b8 ρ ops o.guard=some gd)(ho:o.op=.indexAddr t x i)
 (cw:(nth T t).ok=true) (gB:(nth T t).isSl=true) (vK:(nth T (nth T t).elem).ok=true) (bz:sz=(nth T (nth T t).elem).size)
 (hy:gd=true->0<=m/\l[m.toNat]?=some y) (hk:aY n o gd nx k (.dv (.at y 0)) []) (bR:bJ ρ κ gd x (.dv (.sl sz l))) (oY:bJ ρ κ gd i (.dv (.int kd m))):Good P C ops n o nx ρ κ k:=by
 obtain⟨ti,u,z,tf⟩:=hT.facts cw
 obtain⟨te,ue,ze,iY⟩:=hT.facts vK
 refine bC (fun c=>by grind) hg hk fun ρ' κ' ax g a w G ak aV=>?_
 have hv:=bR ρ' κ' (ax.op (by grind [Op.operands])) g n a w G ak aV
 have dU:=oY ρ' κ' (ax.op (by grind [Op.operands])) g n a w G ak aV
 generalize hx:a.eval x=v at hv
 generalize hi:a.eval i=vi at dU
 obtain⟨DZ,hmy⟩:=hy aV
 have aw:=(aci.1 hmy).1
 cases dU with|dv dU=>cases dU with|int=>
 cases hv with|dv hv=>cases hv with
 |slnil=>grind
 |sl _ _ A cap cell dY hlen hc hr=>
  have dc:0<=m/\m<(l.length):=⟨DZ,by omega⟩
  refine⟨.pointer (some (A.add (m.toNat*sz))),?_,?_⟩
  ·have yi:=iY.fW w
   rw[<-bz]at yi
   simp[execOp,ho,hx,hi,Instr.indexAt,run_underlying (tf.slice gB),asIntOf,dc,yi]
  ·have:=bq.at y 0 (A.add (m.toNat*sz)) (fun j=>cell m.toNat j) (hlen y (ack hmy)).2
    (fun j hj=>by grind [cJ,List.mem_of_getElem?])
    (fun j d hd=>hr _ y j d hmy hd)
   rw[add_zero']at this
   exact .dv this
theorem nJ(hT:fh P T){t:Nat}{x i:Operand}{av av':AV}{kd:IntKind}{m:Int}(hg:b8 ρ ops o.guard=some gd)(ho:o.op=.indexAddr t x i)
 (cw:(nth T t).ok=true) (Ej:(nth T t).kind=10) (vK:(nth T (nth T t).elem).ok=true) (hm:gd=true->0<=m/\m<(nth T t).len)
 (hk:aY n o gd nx k av' []) (bR:bJ ρ κ gd x av) (oY:bJ ρ κ gd i (.dv (.int kd m)))
 (hp:∀(G:Gh) (v:Value),aG G av v->∃a,v=.pointer (some a)/\aG G av' (.pointer (some (a.add (m.toNat*(nth T (nth T t).elem).size))))):Good P C ops n o nx ρ κ k:=by
 obtain⟨ti,u,z,tf⟩:=hT.facts cw
 obtain⟨te,ue,ze,iY⟩:=hT.facts vK
 refine bC (fun c=>by grind) hg hk fun ρ' κ' ax g a w G ak aV=>?_
 have dU:=oY ρ' κ' (ax.op (by grind [Op.operands])) g n a w G ak aV
 generalize hi:a.eval i=vi at dU
 cases dU with|dv dU=>cases dU with|int=>
 obtain⟨p,hp,Xc⟩:=hp _ _ (bR ρ' κ' (ax.op (by grind [Op.operands])) g n a w G ak aV)
 refine⟨_,?_,Xc⟩
 have hu:P.underlying t=some (.array (nth T t).len (nth T t).elem):=by
  have h1:=tf.kind
  rw[Ej]at h1
  have h2:=tf.len
  have h3:=tf.elem
  rw[tf.Cq]
  cases u<;>simp[kindOf]at h1
  grind [lenOf,Pt]
 simp[execOp,ho,hp,hi,Instr.indexAt,run_underlying hu,asIntOf,Instr.sureAddr,(hm aV),iY.fW w]
theorem BY(hT:fh P T){t:Nat}{x i:Operand}{id ver ep cb sz:Nat}{p:List PS}{d:DV}{l:List DV}{kd:IntKind}{m:Int}(hg:b8 ρ ops o.guard=some gd)(ho:o.op=.indexAddr t x i)
 (cw:(nth T t).ok=true) (gB:(nth T t).isSl=true) (vK:(nth T (nth T t).elem).ok=true) (bz:sz=(nth T (nth T t).elem).size) (hb:κ id=.tree ver cb d) (eW:p=[]\/ep=cb) (dS:gd=true->get d p=some (.aC sz l))
 (hy:gd=true->0<=m/\m<l.length) (hk:aY n o gd nx k (.loc id ver ep p sz m.toNat 0) [id]) (bR:bJ ρ κ gd x (.own id ver ep p)) (oY:bJ ρ κ gd i (.dv (.int kd m))):Good P C ops n o nx ρ κ k:=by
 obtain⟨ti,u,z,tf⟩:=hT.facts cw
 obtain⟨te,ue,ze,iY⟩:=hT.facts vK
 refine bC (fun c=>by grind) hg hk fun ρ' κ' ax g a w G ak aV=>?_
 have hv:=bR ρ' κ' (ax.op (by grind [Op.operands])) g n a w G ak aV
 have dU:=oY ρ' κ' (ax.op (by grind [Op.operands])) g n a w G ak aV
 generalize hx:a.eval x=v at hv
 generalize hi:a.eval i=vi at dU
 obtain⟨DZ,hmy⟩:=hy aV
 obtain⟨u,h1,_,bn⟩:=ak.fit.node ((ax.reads id (by simp)).trans hb) (dS aV) rfl
 cases dU with|dv dU=>cases dU with|int=>
 cases hv with
 |own _ _ _ _ _ hh hc=>
  have XW:=hh
  rw[cW eW,h1]at hh
  injection hh with hh
  subst hh
  rcases bn with⟨rfl,_⟩|⟨gb,ob,cap,cc,tt,rfl,dY,hw,abB,D0⟩
  ·grind
  ·have dc:0<=m/\m<(l.length):=⟨DZ,hmy⟩
   refine⟨.pointer (some ((⟨gb,ob,none⟩:Addr).add (m.toNat*sz))),?_,?_⟩
   ·have yi:=iY.fW w
    rw[<-bz]at yi
    simp[execOp,ho,hx,hi,Instr.indexAt,run_underlying (tf.slice gB),asIntOf,dc,yi]
   ·have:=aG.loc id ver ep p sz m.toNat 0 _ _ _ XW
    grind
theorem BZ(hT:fh P T){t:Nat}{x i:Operand}{id len:Nat}{kd:IntKind}{m:Int}(hg:b8 ρ ops o.guard=some gd)(ho:o.op=.indexAddr t x i)
 (cw:(nth T t).ok=true) (gB:(nth T t).isSl=true) (vK:(nth T (nth T t).elem).ok=true)
 (hy:gd=true->0<=m/\m<len) (hk:aY n o gd nx k (.ptr id (m.toNat*(nth T (nth T t).elem).size)) []) (bR:bJ ρ κ gd x (.sle id len)) (oY:bJ ρ κ gd i (.dv (.int kd m))):Good P C ops n o nx ρ κ k:=by
 obtain⟨ti,u,z,tf⟩:=hT.facts cw
 obtain⟨te,ue,ze,iY⟩:=hT.facts vK
 refine bC (fun c=>by grind) hg hk fun ρ' κ' ax g a w G ak aV=>?_
 have hv:=bR ρ' κ' (ax.op (by grind [Op.operands])) g n a w G ak aV
 have dU:=oY ρ' κ' (ax.op (by grind [Op.operands])) g n a w G ak aV
 generalize hx:a.eval x=v at hv
 generalize hi:a.eval i=vi at dU
 cases dU with|dv dU=>cases dU with|int=>
 cases hv with
 |sle _ _ b hb=>
  refine⟨.pointer (some ((⟨b,0,none⟩:Addr).add (m.toNat*(nth T (nth T t).elem).size))),?_,?_⟩
  ·simp[execOp,ho,hx,hi,Instr.indexAt,run_underlying (tf.slice gB),asIntOf,(hy aV),(iY.fW w)]
  ·rw[eN,Nat.zero_add];exact .ptr _ _ b hb
theorem B0(hT:fh P T){t:Nat}{x i:Operand}{id ver ep sz lo len:Nat}{p:List PS}{kd:IntKind}{m:Int}(hg:b8 ρ ops o.guard=some gd)(ho:o.op=.indexAddr t x i)
 (cw:(nth T t).ok=true) (gB:(nth T t).isSl=true) (vK:(nth T (nth T t).elem).ok=true) (bz:sz=(nth T (nth T t).elem).size)
 (hy:gd=true->0<=m/\m<len) (hk:aY n o gd nx k (.loc id ver ep p sz (lo+m.toNat) 0) []) (bR:bJ ρ κ gd x (.pre id ver ep p sz lo len)) (oY:bJ ρ κ gd i (.dv (.int kd m))):Good P C ops n o nx ρ κ k:=by
 obtain⟨ti,u,z,tf⟩:=hT.facts cw
 obtain⟨te,ue,ze,iY⟩:=hT.facts vK
 refine bC (fun c=>by grind) hg hk fun ρ' κ' ax g a w G ak aV=>?_
 have hv:=bR ρ' κ' (ax.op (by grind [Op.operands])) g n a w G ak aV
 have dU:=oY ρ' κ' (ax.op (by grind [Op.operands])) g n a w G ak aV
 generalize hx:a.eval x=v at hv
 generalize hi:a.eval i=vi at dU
 have dc:=hy aV
 cases dU with|dv dU=>cases dU with|int=>
 cases hv with
 |pre _ _ _ _ _ _ _ q c hh=>
  obtain⟨A,N,c',hq,rfl⟩:=hh (by omega)
  refine⟨.pointer (some ((A.add (lo*sz)).add (m.toNat*sz))),?_,?_⟩
  ·have yi:=iY.fW w
   rw[<-bz]at yi
   simp[execOp,ho,hx,hi,Instr.indexAt,run_underlying (tf.slice gB),asIntOf,dc,yi]
  ·rw[cJ,<-Nat.add_mul]
   have:=aG.loc id ver ep p sz (lo+m.toNat) 0 _ _ _ hq
   grind
theorem rk(hT:fh P T){t:Nat}{x:Operand}{c:Call}{av:AV}{m:Int}{rd:List Nat}(hg:b8 ρ ops o.guard=some gd)(ho:o.op=.call c)(hc:c.callee=.builtin .len)(ha:c.args.toList=[x])(lK:c.argTypes.toList=[t])
 (hk:aY n o gd nx k (.dv (.int .i64 m)) rd) (bR:bJ ρ κ gd x av) (cw:(nth T t).ok=true)
 (hp:gd=true->∀κ',(∀i,i∈rd->κ' i=κ i)->∀(G:Gh) (w:World) (v:Value),Fit G w κ'->aG G av v->
  ((nth T t).isSl=true/\∃p l c,v=.slice p l c/\(l:Int)=m)\/((nth T t).isStr=true/\∃s,v=.string s/\(s.size:Int)=m)\/
  (Nat.beq (nth T t).kind 6=true/\∃b es clock,v=.map (some b)/\w.heap[b]?=some (.map es clock)/\(es.size:Int)=m)):Good P C ops n o nx ρ κ k:=by
 have cI:c.args=#[x]:=Array.ext' (by grind)
 have MT:c.argTypes=#[t]:=Array.ext' (by grind)
 refine bC (fun c=>by grind) hg hk fun ρ' κ' ax g a w G ak aV=>?_
 refine⟨.int .i64 m,?_,.dv (.int _ _)⟩
 obtain⟨ti,u,z,tf⟩:=hT.facts cw
 rcases hp aV κ' ax.reads G w _ ak.fit (bR ρ' κ' (ax.op (by grind [Op.operands,Call.operands])) g n a w G ak aV)with⟨gB,p,l,cc,OT,hm⟩|⟨gB,s,OT,hm⟩|⟨hmk,b,es,clock,OT,hw,hm⟩
 ·simp[execOp,ho,resolve,hc,cI,MT,invoke,builtin,Builtin.len_,run_underlying (tf.slice gB),OT,goInt,hm]
 ·simp[execOp,ho,resolve,hc,cI,MT,invoke,builtin,Builtin.len_,run_underlying (tf.string gB),OT,goInt,hm]
 ·have hu:∃kt et,P.underlying t=some (.map kt et):=by
   have h1:=tf.kind
   rw[acm hmk]at h1
   cases u<;>simp[kindOf]at h1
   exact⟨_,_,tf.Cq⟩
  obtain⟨kt,et,hu⟩:=hu
  simp[execOp,ho,resolve,hc,cI,MT,invoke,builtin,Builtin.len_,run_underlying hu,OT,goInt,hm,MapKept.run_getObj_map hw]
theorem gN{w:World}{t e:TypeId}(hu:P.underlying t=some (.slice e))(a:Option Addr)(l c:Nat):(Op.equal t (.slice a l c) (.slice none 0 0)).run P w=.ok a.isNone w:=by
 have h:∀d,(Op.equalIn (d+1) t (.slice a l c) (.slice none 0 0)).run P w=.ok a.isNone w:=fun d=>by
  cases a<;>simp[Op.equalIn,run_underlying hu]
 grind [Op.equal,Op.maxDepth]
theorem Xx{b:Bool}{p:Prop}(h:bif b then p else False):b=true/\p:=by
 grind
theorem DK{κ:Nat->au}{gd:Bool}{a:AV}{k:Option Bool->List Nat->Prop}(h:y5 κ gd a k):∃c rd,k c rd/\(gd=true->∀κ',(∀i,i∈rd->κ' i=κ i)->∀(G:Gh) (w:World) (v:Value),Fit G w κ'->aG G a v->∃p l cc,v=.slice p l cc/\∀b,c=some b->p.isNone=b):=by
 unfold y5 at h
 split at h
 ·refine⟨_,_,h,fun _ κ' _ G w v _ hv=>?_⟩
  cases hv with|dv hv=>cases hv with|ay=>grind
 ·rcases h with h|⟨hl,h⟩
  ·refine⟨_,_,h,fun _ κ' _ G w v _ hv=>?_⟩
   cases hv with|dv hv=>cases hv with
   |slnil=>grind
   |sl=>grind
  ·refine⟨_,_,h,fun _ κ' _ G w v _ hv=>?_⟩
   cases hv with|dv hv=>cases hv with
   |slnil=>grind
   |sl=>grind
 ·rename_i i ver ep p
  split at h
  ·rename_i bo cb d hk
   have hh:=Xx h;clear h;obtain⟨hb,h⟩:=hh
   obtain⟨rfl,eW⟩:=dB hb
   obtain⟨nd,h,dS⟩:=bX h
   split at h
   ·rename_i sz l
    have key:gd=true->∀κ',(∀j,j∈[i]->κ' j=κ j)->∀(G:Gh) (w:World) (v:Value),Fit G w κ'->aG G (.own i ver ep p) v->∃q m cc,v=.slice q m cc/\(l≠[]->q.isNone=false):=by
     intro aV κ' ax G w v hf hv
     obtain⟨u,e1,e2,e3⟩:=hf.node ((ax i (by simp)).trans hk) (dS aV) rfl
     cases hv with|own _ _ _ _ _ hh hc=>
     rw[cW eW]at hh
     rw[hh]at e1;injection e1 with e1;subst e1
     rcases e3 with⟨uz,hx⟩|⟨gb,o,cap,c,tt,hx,_⟩
     ·grind
     grind
    grind
   grind
  grind
 ·refine⟨_,_,h,fun _ κ' _ G w v _ hv=>?_⟩
  cases hv with|ct _ _ a m hh=>grind
 grind
theorem VD{α:Type}{b:Bool}{x:Option α}{y:α}(h:(bif b then x else none)=some y):b=true/\x=some y:=by grind
theorem GF{G:Gh}{w:World}{x y:AV}{u v:Value}{e:Bool}{f:TypeId}{k D:Nat}(hp:rR (P.underlying f)=k)(h:Db k x y=some e)(hx:aG G x u)(hy:aG G y v):
 (Op.equalIn (D+1) f u v).run P w=.ok e w:=by
 unfold Db at h
 split at h
 ·rename_i kk a k' b
  cases hk:kk==k' with
  |false=>grind
  |true=>
   rw[hk]at h
   have D1:=by simpa using hk
   subst D1
   injection h with h;subst h
   cases hx with|dv hx=>cases hx with|int=>cases hy with|dv hy=>cases hy with|int=>
   obtain⟨q,hq⟩:∃q,P.underlying f=some (.int q):=by
    unfold rR at hp
    grind
   grind [run_equalIn_int]
 ·injection h with h;subst h
  cases hx with|dv hx=>cases hx with|bool=>cases hy with|dv hy=>cases hy with|bool=>
  have hq:P.underlying f=some .bool:=by
   unfold rR at hp
   grind
  grind [run_equalIn_bool]
 ·injection h with h;subst h
  cases hx with|dv hx=>cases hx with|str=>cases hy with|dv hy=>cases hy with|str=>
  have hq:P.underlying f=some .string:=by
   unfold rR at hp
   grind
  grind [run_equalIn_string]
 grind
theorem tE{w:World}{e:TypeId}{k:Nat}(he:rR (P.underlying e)=k+1){xs:Array Value}{off:Nat}{v:Value}(hx:xs[off]?=some v):(part e xs off).run P w=.ok v w:=by
 unfold rR at he
 split at he
 ·simp_all [part,isAgg,run_underlying]
 ·simp_all [part,isAgg,run_underlying]
 ·simp_all [part,isAgg,run_underlying]
 grind
theorem tF{G:Gh}{w:World}{xs ys:Array Value}{D:Nat}:∀(fs:List Field) (i:Nat) (q:List Nat) (l r:List AV) (e:Bool),yO P i fs=some q->jx q l r=some e->
 (∀(j:Nat) (d:AV),l[j]?=some d->∃u,xs[i+j]?=some u/\aG G d u)->(∀(j:Nat) (d:AV),r[j]?=some d->∃u,ys[i+j]?=some u/\aG G d u)->
 (Op.eqFields (D+1) xs ys fs).run P w=.ok e w
 |[],i,q,l,r,e,hp,he,hx,hy=>by
  simp[yO,Option.some.injEq]at hp
  subst hp
  cases l<;>cases r<;>simp[jx]at he
  simp_all [Op.eqFields]
 |f::fs,i,q,l,r,e,hp,he,hx,hy=>by
  simp[yO]at hp
  obtain⟨hb,hp⟩:=VD hp
  simp only[acU,bne_iff_ne]at hb
  obtain⟨n1,o1⟩:=hb
  split at hp
  ·rename_i k q' hk Jh
   injection hp with hp;subst hp
   cases l with
   |nil=>grind [jx]
   |cons x l=>cases r with
    |nil=>simp[jx]at he
    |cons y r=>
     simp[jx]at he
     split at he
     ·rename_i a b ha hb
      injection he with he;subst he
      obtain⟨u,hu,Tb⟩:=hx 0 x rfl
      obtain⟨v,hv,Sv⟩:=hy 0 y rfl
      simp[Op.eqFields,n1,ne_eq,not_false_eq_true,if_true,Sem.run_bind,(acm o1)]
      rw[tE hk (by omega)]
      simp[Result.andThen_ok]
      rw[tE hk (by omega)]
      simp[Result.andThen_ok,(GF (w:=w) (D:=D) hk ha Tb Sv)]
      cases a with
      |false=>simp
      |true=>
       simp[Bool.true_and]
       exact tF fs _ q' l r b Jh hb (fun j d hd=>by have:=hx (j+1) d (by grind);rwa[show i+(j+1)=i+1+j by omega]at this)
        (fun j d hd=>by have:=hy (j+1) d (by grind);grind)
     grind
  grind
theorem Vp(hT:fh P T){op:BinOp}{t ty:TypeId}{x y:Operand}(hg:b8 ρ ops o.guard=some gd)(ho:o.op=.binOp op t x y ty){va vb:AV}(Vn:bJ ρ κ gd x va)(Vo:bJ ρ κ gd y vb)
 (h:Wd (nth T t) op va vb fun v=>aY n o gd nx k v []):Good P C ops n o nx ρ κ k:=by
 have hh:=Xx h;clear h;obtain⟨hb,h⟩:=hh
 simp only[acU]at hb
 obtain⟨i,u,z,tf⟩:=hT.facts hb.1
 split at h
 ·rename_i x1 l r
  split at h
  ·rename_i e he
   have hk:=tf.kind
   rw[acm hb.2]at hk
   obtain⟨fs,rfl⟩:∃fs,u=.struct fs:=by
    cases u<;>simp[kindOf]at hk
    grind
   have heq:=tf.V3
   simp only[Pu]at heq
   split at heq
   ·rename_i q hq
    cases hc:Nat.beq fs.toList.length i.size&& !P.stoodInHeld t&& !P.eqGuardType P.depth t with
    |false=>rw[hc]at heq;simp_all [jx]
    |true=>
     rw[hc]at heq
     simp[cond_true]at heq
     rw[heq]at he
     simp[acU,acW]at hc
     have hf:P.fieldsOf t=fs:=by simp[Program.fieldsOf,tf.Cq]
     have core:∀(G:Gh) (w:World) (u v:Value),aG G (.agg (x1::l)) u->aG G (.agg r) v->∃us vs,u=.agg us/\v=.agg vs/\(Op.equalIn 10000 t u v).run P w=.ok e w:=by
      intro G w u v hu hv
      cases hu with|agg _ us hlu Tb=>cases hv with|agg _ vs hlv Sv=>
      refine⟨_,_,rfl,rfl,?_⟩
      rw[run_equalIn_struct w 9999 t _ _ (by rw[hf];exact tf.Cq) hc.1.2,hf]
      refine tF (G:=G) fs.toList 0 q _ _ e hq he (fun j d hd=>?_) (fun j d hd=>?_)
      ·have hj:=(aci.1 hd).1
       exact⟨us[j]'(by omega),by simp,Tb j d _ hd (aaS (by omega))⟩
      ·have hj:=(aci.1 hd).1
       exact⟨vs[j]'(by omega),by simp,Sv j d _ hd (aaS (by omega))⟩
     have fin:∀c:Bool,aY n o gd nx k (.dv (.bool c)) []->(∀(w:World) (us vs:Array Value),(Op.equalIn 10000 t (.agg us) (.agg vs)).run P w=.ok e w->(binOp op t (.agg us) (.agg vs)).run P w=.ok (.bool c) w)->Good P C ops n o nx ρ κ k:=by
      intro c iw bE
      refine bC (fun c=>by grind) hg iw fun ρ' κ' ax g a w G ak aV=>?_
      obtain⟨us,vs,e1,e2,e3⟩:=core G w _ _ (Vn ρ' κ' (ax.op (by grind [Op.operands])) g n a w G ak aV) (Vo ρ' κ' (ax.op (by grind [Op.operands])) g n a w G ak aV)
      refine⟨.bool c,?_,.dv (.bool c)⟩
      grind [execOp,Sem.run_bind,run_eqGuard_agg,Result.andThen_ok,Sem.run_pure]
     split at h
     ·exact fin e h fun w us vs h3=>by rw[run_eql_struct,h3];rfl
     ·exact fin (!e) h fun w us vs h3=>by rw[run_neq_struct,h3];rfl
     grind
   grind [jx]
  grind
 grind
theorem Hl(hT:fh P T){op:BinOp}{t ty:TypeId}{x y:Operand}(hg:b8 ρ ops o.guard=some gd)(ho:o.op=.binOp op t x y ty){av:AV}(bR:bJ ρ κ gd x av)(Jx:bJ ρ κ gd y (.dv .ay))
 (h:KF (nth T t) op κ gd av fun v rd=>aY n o gd nx k v rd):Good P C ops n o nx ρ κ k:=by
 obtain⟨hb,h⟩:=Xx h
 simp[acU]at hb
 obtain⟨i,u,z,tf⟩:=hT.facts hb.1
 have hu:=tf.slice hb.2
 have core:∀(neg:Bool),(∀(w:World) (p:Option Addr) (l cc:Nat),(binOp op t (.slice p l cc) (.slice none 0 0)).run P w=.ok (.bool (bif neg then !p.isNone else p.isNone)) w)->(y5 κ gd av fun c rd=>aY n o gd nx k (WR neg c) rd)->Good P C ops n o nx ρ κ k:=by
  intro neg bE h
  obtain⟨c,rd,hk,hs⟩:=DK h
  refine bC (fun c=>by grind) hg hk fun ρ' κ' ax g a w G ak aV=>?_
  have h2:=Jx ρ' κ' (ax.op (by grind [Op.operands])) g n a w G ak aV
  obtain⟨p,l,cc,hv,hp⟩:=hs aV κ' ax.reads G w _ ak.fit (bR ρ' κ' (ax.op (by grind [Op.operands])) g n a w G ak aV)
  generalize hy:a.eval y=vy at h2
  cases h2 with|dv h2=>cases h2 with|ay=>
  refine⟨.bool (bif neg then !p.isNone else p.isNone),?_,?_⟩
  ·simp_all [execOp,iK,Sem.run_pure]
  ·cases c with
   |none=>exact .dv (.oS _)
   |some b=>rw[hp b rfl];exact .dv (.bool _)
 split at h
 ·simp_all [binOp,gN,cond_false]
 ·simp_all [binOp,gN,cond_true]
 grind
theorem Hp(hT:fh P T){s t:TypeId}{x:Operand}{kx kd:IntKind}{m:Int}(hg:b8 ρ ops o.guard=some gd)(ho:o.op=.convert s t x)(hs:(nth T s).ok=true)(ht:(nth T t).ok=true)(hi:(nth T t).M8=some kd)(hk:aY n o gd nx k (.dv (.int kd (kd.wrap m))) [])(bR:bJ ρ κ gd x (.dv (.int kx m))):Good P C ops n o nx ρ κ k:=by
 obtain⟨i1,u1,z1,tf1⟩:=hT.facts hs
 obtain⟨i2,u2,z2,tf2⟩:=hT.facts ht
 refine bC (fun c=>by grind) hg hk fun ρ' κ' ax g a w G ak aV=>?_
 have hv:=bR ρ' κ' (ax.op (by grind [Op.operands])) g n a w G ak aV
 generalize hx:a.eval x=v at hv
 cases hv with|dv hv=>cases hv with|int=>
 have h2:=tf2.M8
 rw[hi]at h2
 cases u2<;>simp[JP]at h2
 subst h2
 refine⟨.int kd _,?_,.dv (.int _ _)⟩
 simp[execOp,ho,hx,convert,run_underlying tf1.Cq,run_underlying tf2.Cq,Conv.intToInt]
theorem ND(hT:fh P T){t:TypeId}{x ix:Operand}{kx:IntKind}{m:Int}{s:ByteArray}{b:UInt8}(hg:b8 ρ ops o.guard=some gd)(ho:o.op=.index t x ix)(ht:(nth T t).ok=true)(ak:(nth T t).isStr=true)(hb:gd=true->0<=m/\s[m.toNat]?=some b)(hk:aY n o gd nx k (.dv (.int .u8 b.toNat)) [])(bR:bJ ρ κ gd x (.dv (.str s)))(oY:bJ ρ κ gd ix (.dv (.int kx m))):Good P C ops n o nx ρ κ k:=by
 obtain⟨i1,u1,z1,tf1⟩:=hT.facts ht
 have hu:=tf1.string ak
 refine bC (fun c=>by grind) hg hk fun ρ' κ' ax g a w G ak aV=>?_
 have hv:=bR ρ' κ' (ax.op (by grind [Op.operands])) g n a w G ak aV
 have hi:=oY ρ' κ' (ax.op (by grind [Op.operands])) g n a w G ak aV
 generalize hx:a.eval x=v at hv
 generalize hy:a.eval ix=u at hi
 cases hv with|dv hv=>cases hv with|str=>
 cases hi with|dv hi=>cases hi with|int=>
 obtain⟨h0,hb⟩:=hb aV
 refine⟨.int .u8 b.toNat,?_,.dv (.int _ _)⟩
 simp_all [execOp,Instr.index,asIntOf,run_underlying]
theorem Vt{x y:Operand}{c:Call}{p q:Int}(hg:b8 ρ ops o.guard=some gd)(ho:o.op=.call c)(hc:c.callee=.builtin .min)(ha:c.args.toList=[x,y])
 (hk:aY n o gd nx k (.dv (.int .i64 (if q<p then q else p))) []) (bR:bJ ρ κ gd x (.dv (.int .i64 p))) (oY:bJ ρ κ gd y (.dv (.int .i64 q))):Good P C ops n o nx ρ κ k:=by
 have cI:c.args=#[x,y]:=Array.ext' (by grind)
 refine bC (fun c=>by grind) hg hk fun ρ' κ' ax g a w G ak aV=>?_
 have hv:=bR ρ' κ' (ax.op (by grind [Op.operands,Call.operands])) g n a w G ak aV
 have dU:=oY ρ' κ' (ax.op (by grind [Op.operands,Call.operands])) g n a w G ak aV
 generalize hx:a.eval x=v at hv
 generalize hi:a.eval y=vi at dU
 cases dU with|dv dU=>cases dU with|int=>
 cases hv with|dv hv=>cases hv with|int=>
 refine⟨_,?_,.dv (.int _ _)⟩
 simp_all [execOp,resolve,invoke,builtin,Builtin.min_,Builtin.min2]
theorem Vu{x y:Operand}{c:Call}{p q:Int}(hg:b8 ρ ops o.guard=some gd)(ho:o.op=.call c)(hc:c.callee=.builtin .max)(ha:c.args.toList=[x,y])
 (hk:aY n o gd nx k (.dv (.int .i64 (if p<q then q else p))) []) (bR:bJ ρ κ gd x (.dv (.int .i64 p))) (oY:bJ ρ κ gd y (.dv (.int .i64 q))):Good P C ops n o nx ρ κ k:=by
 have cI:c.args=#[x,y]:=Array.ext' (by grind)
 refine bC (fun c=>by grind) hg hk fun ρ' κ' ax g a w G ak aV=>?_
 have hv:=bR ρ' κ' (ax.op (by grind [Op.operands,Call.operands])) g n a w G ak aV
 have dU:=oY ρ' κ' (ax.op (by grind [Op.operands,Call.operands])) g n a w G ak aV
 generalize hx:a.eval x=v at hv
 generalize hi:a.eval y=vi at dU
 cases dU with|dv dU=>cases dU with|int=>
 cases hv with|dv hv=>cases hv with|int=>
 refine⟨_,?_,.dv (.int _ _)⟩
 simp_all [execOp,resolve,invoke,builtin,Builtin.max_,Builtin.max2]
def og(ρ:Nat->AV)(κ:Nat->au)(g:Bool):List (Nat×Operand)->List (Nat×AV)->Prop
 |[],[]=>True
 |(i,x)::r,(j,v)::l=>i=j/\bJ ρ κ g x v/\og ρ κ g r l
 |_,_=>False
theorem mg:∀{l:List (Nat×Operand)} {k:List (Nat×AV)->Prop},sR ρ κ gd l k->∃r,k r/\og ρ κ gd l r
 |[],k,h=>⟨[],h,tv⟩
 |(i,x)::l,k,h=>by
  obtain⟨v,h,hv⟩:=aH h
  obtain⟨r,h,hr⟩:=mg h
  exact⟨_,h,rfl,hv,hr⟩
theorem fO:∀{l:List AV},b9 l=true->∀v,v∈l->v.aj=true
 |[],_,v,h=>by grind
 |x::l,h,v,hv=>by
  simp[b9,acU]at h
  rcases acp.1 hv with rfl|hv
  ·grind
  ·exact fO h.2 v hv
section
variable {G:Gh}
theorem cd.cV{l:List AV}{vs:List Value}(h:cd G l vs)(hc:b9 l=true):∀v,v∈vs->v.oneCell'=true:=by
 intro v hv
 obtain⟨j,hj,rfl⟩:=List.getElem_of_mem hv
 have zL:j<l.length:=by rwa[h.1]
 exact(h.2 j l[j] vs[j] (aaS zL) (aaS hj)).cV (fO hc _ (acQ zL))
theorem ng{av:AV}{v:Value}(h:aG G av v)(hc:b9 (cellsOf av)=true):cd G (cellsOf av) v.cells.toList:=by
 cases av with
 |agg l=>
  cases h with
  |agg _ vs hl hr=>exact⟨by assumption,by assumption⟩
 |_=>
  simp[cellsOf,b9,Bool.and_true]at hc
  have h1:=h.cV hc
  have:v.cells=#[v]:=by cases v<;>first|rfl|grind [Value.oneCell']
  rw[this]
  refine⟨rfl,fun j d u hd hu=>?_⟩
  cases j with
  |zero=>grind [cellsOf]
  |succ j=>simp[cellsOf]at hd
theorem cd.iE{l:List AV}{vs:List Value}{l':List AV}{M4:List Value}(h:cd G l vs)(h':cd G l' M4)(off:Nat)(hle:off+l'.length<=l.length):
 cd G (iE l off l') (vs.take off++M4++vs.drop (off+M4.length)):=by
 have e:=h.1
 have e':=h'.1
 constructor
 ·grind [TM.iE]
 ·intro j d v hd hv
  simp[TM.iE,acK]at hd hv
  rw[List.getElem?_append]at hd hv
  simp[acE]at hd hv
  by_cases h1:j<off
  ·rw[if_pos (by omega)]at hd hv
   rw[List.getElem?_take,if_pos h1]at hd hv
   exact h.2 j d v hd hv
  ·rw[if_neg (by omega)]at hd hv
   rw[List.getElem?_append]at hd hv
   rw[show min off l.length=off by omega]at hd
   rw[show min off vs.length=off by omega]at hv
   by_cases h2:j-off<l'.length
   ·rw[if_pos h2]at hd
    rw[if_pos (by omega)]at hv
    exact h'.2 _ d v hd hv
   ·rw[if_neg h2]at hd
    rw[if_neg (by omega)]at hv
    rw[List.getElem?_drop]at hd hv
    rw[<-e']at hv
    exact h.2 _ d v hd hv
theorem GG(off:Nat):∀(vs:List Value) (i:Nat) (cur:Array Value),off+i+vs.length<=cur.size->
 ((vs.zipIdx i).foldl (fun cs (p:Value×Nat)=>cs.setIfInBounds (off+p.2) p.1) cur).toList=cur.toList.take (off+i)++vs++cur.toList.drop (off+i+vs.length)
 |[],i,cur,_=>by simp
 |v::rest,i,cur,hl=>by
  simp[List.zipIdx_cons,List.foldl_cons]
  rw[GG off rest _ _ (by grind)]
  simpa[Nat.add_assoc]using (list_seg_step cur.toList (off+i) v rest (by grind))
theorem r8(place:Nat->Option (Nat×Nat)):∀(parts:List (Nat×AV)) (Ji:List (Nat×Value)) (l l':List AV) (cs:Array Value),
 (parts.length=Ji.length/\∀(j:Nat) (p:Nat×AV) (q:Nat×Value),parts[j]?=some p->Ji[j]?=some q->p.1=q.1/\aG G p.2 q.2)->cd G l cs.toList->qV place l parts=some l'->
 ∃Xy,Instr.fill place cs Ji=some Xy/\cd G l' Xy.toList
 |[],[],l,l',cs,_,hc,h=>by simp[qV]at h;subst h;exact⟨cs,rfl,hc⟩
 |[],q::vr,l,l',cs,hp,_,_=>by grind
 |p::r,[],l,l',cs,hp,_,_=>by grind
 |(i,av)::r,(i',v)::vr,l,l',cs,hp,hc,h=>by
  have h0:=hp.2 0 (i,av) (i',v) rfl rfl
  simp at h0
  obtain⟨rfl,hv⟩:=h0
  simp[qV,Bj]at h
  split at h
  ·grind
  ·rename_i off sz Lh
   cases hb:(Nat.beq (cellsOf av).length sz&&Nat.ble (off+sz) l.length&&b9 (cellsOf av))with
   |false=>grind
   |true=>
    rw[hb]at h
    simp[cond_true]at h
    simp only[acU]at hb
    obtain⟨⟨jw,ck⟩,wH⟩:=hb
    have jw:=acm jw
    have ck:=Nat.le_of_ble_eq_true ck
    have jF:=ng hv wH
    have bz:v.cells.size=sz:=by rw[<-jw,jF.1];simp
    have hls:l.length=cs.size:=by rw[hc.1];simp
    have kl:((v.cells.zipIdx.foldl (fun cs (p)=>cs.setIfInBounds (off+p.2) p.1) cs).toList)=cs.toList.take off++v.cells.toList++cs.toList.drop (off+v.cells.toList.length):=by
     rw[<-Array.foldl_toList,Array.toList_zipIdx]
     simp_all [GG]
    have ya:cd G (iE l off (cellsOf av)) (v.cells.zipIdx.foldl (fun cs (p)=>cs.setIfInBounds (off+p.2) p.1) cs).toList:=by
     rw[kl]
     exact hc.iE jF off (by omega)
    obtain⟨Xy,h1,h2⟩:=r8 place r vr _ l' _ ⟨by grind,fun j p q Xc Jh=>hp.2 (j+1) p q (by grind) (by simpa using Jh)⟩ ya h
    refine⟨Xy,?_,h2⟩
    simp[Instr.fill,Lh,bz]
    grind
end
theorem og.rel{ρ':Nat->AV}{κ':Nat->au}{g:dW}{a:Act}{w:World}{G:Gh}(ak:cx g n ρ' κ' a w G)(aV:gd=true):
 ∀{l:List (Nat×Operand)} {r:List (Nat×AV)},og ρ κ gd l r->(∀p,p∈l->I3 ρ ρ' κ κ' p.2)->
  (r.length=(l.map fun p=>(p.1,a.eval p.2)).length/\∀(j:Nat) (p:Nat×AV) (q:Nat×Value),r[j]?=some p->(l.map fun p=>(p.1,a.eval p.2))[j]?=some q->p.1=q.1/\aG G p.2 q.2)
 |[],[],_,_=>⟨rfl,by simp⟩
 |[],_::_,h,_=>h.elim
 |_::_,[],h,_=>h.elim
 |(i,x)::l,(j,v)::r,⟨BT,hv,h⟩,ax=>by
  obtain⟨h1,h2⟩:=og.rel ak aV h (fun p hp=>ax p (by grind))
  refine⟨by grind,fun jj p q hp hq=>?_⟩
  cases jj with
  |zero=>simp at hp hq;subst hp;subst hq;exact⟨BT.symm,(hv ρ' κ' (ax (i,x) (by simp)) g n a w G ak aV)⟩
  |succ jj=>grind
theorem GH{w:World}(fs:List Field)(h:∀f,f∈fs->∃j,P.info? f.type=some j):((fs.toArray.mapM fun f=>do pure (f.offset,<-sizeOf f.type)):Sem (Array (Nat×Nat))).run P w=.ok (fs.map fun f=>(f.offset,match P.info? f.type with|some j=>j.size|none=>0)).toArray w:=by
 have key:∀(l:List Field),(∀f,f∈l->∃j,P.info? f.type=some j)->((l.mapM fun f=>do pure (f.offset,<-sizeOf f.type)):Sem _).run P w=.ok (l.map fun f=>(f.offset,match P.info? f.type with|some j=>j.size|none=>0)) w:=by
  intro l
  induction l with
  |nil=>simp_all
  |cons f r ih=>
   simp_all [jV,List.map_cons]
 simp_all
theorem Nz(hT:fh P T){t:Nat}{parts:Array (Nat×Operand)}{l:List (Nat×AV)}{cs:List AV}(hg:b8 ρ ops o.guard=some gd)(ho:o.op=.build t parts)(cw:(nth T t).ok=true)
 (hp:og ρ κ gd parts.toList l) (lT:qV (fun i=>(nth T t).fields[i]?) (eV (nth T t).zero) l=some cs) (abC:Nat.beq (nth T t).kind 9=true) (hk:aY n o gd nx k (.agg cs) []):Good P C ops n o nx ρ κ k:=by
 obtain⟨ti,u,z,tf⟩:=hT.facts cw
 have hu:∃fs,u=.struct fs:=by
  have h1:=tf.kind
  rw[acm abC]at h1
  cases u<;>simp[kindOf]at h1
  grind
 obtain⟨fs,rfl⟩:=hu
 refine bC (fun c=>by grind) hg hk fun ρ' κ' ax g a w G ak aV=>?_
 have H4:=fun p Xc=>ax.op (by
  rw[ho]
  simp only[Op.operands,List.mem_toArray,acL]
  exact⟨p,Xc,rfl⟩)
 have hz:=by
  exact jg (ec (M:=G.M) tf.zc).1
 obtain⟨Xy,h3,h4⟩:=r8 _ l _ _ cs z.cells (hp.rel ak aV H4) hz lT
 have abD:=by
  have:=aG.agg cs Xy.toList h4.1 h4.2
  omega
 refine⟨.agg Xy,?_,abD⟩
 ·have Lh:((fs.mapM fun f=>do pure (f.offset,<-sizeOf f.type)):Sem _).run P w=.ok (nth T t).fields.toArray w:=by
   have:=GH (w:=w) fs.toList (fun f hf=>by
    have:=tf.fin
    simp only[yN,acI]at this
    exact Option.isSome_iff_exists.1 (this f hf))
   rw[this,tf.fields]
   rfl
  simp[execOp,ho,Instr.build,Sem.run_bind,tf.tB w,run_underlying tf.Cq,Lh]
  simp_all
end
end
section
open Go.RowKit
variable [cn]
theorem qC{i j sz:Nat}(hj:j<sz):(i*sz+j)/sz=i/\(i*sz+j)%sz=j:=by
 have dc:0<sz:=by omega
 constructor
 ·rw[Nat.mul_comm,Nat.mul_add_div dc,Nat.div_eq_of_lt hj];omega
 ·rw[Nat.mul_comm,Nat.mul_add_mod,Nat.mod_eq_of_lt hj]
theorem pY{i j n sz:Nat}(hi:i<n)(hj:j<sz):i*sz+j<n*sz:=by
 have:(i+1)*sz<=n*sz:=acO _ hi
 rw[Nat.add_mul]at this
 omega
def uY(w:World)(v:Value)(sz:Nat)(l:List DV)(R:Nat->Nat->DV->Value->Prop):Prop:=
 (l=[]/\v=.slice none 0 0)\/
 ∃g o cap c t,v=.slice (some ⟨g,o,none⟩) l.length cap/\l.length<=cap/\w.heap[g]?=some (.cells c t (0,0))/\o+cap*sz<=c.size/\
  ∀(i:Nat) (x:DV),l[i]?=some x->x.cells.length=sz/\∀(j:Nat) (d:DV),x.cells[j]?=some d->d.aj=true/\∃u,c[o+i*sz+j]?=some u/\R i j d u
theorem fU{M:Mem}{w:World}{v:Value}{hc:PS->Option Value}{sz:Nat}{l:List DV}:cG M w v hc (.aC sz l)↔uY w v sz l fun i j d u=>dD M (hc (.el i j)) d u:=Iff.rfl
def pZ(w:World)(v:Value)(sz:Nat)(l:List DV)(S:Nat->Nat->DV->Value->Prop):Prop:=
 (∃c,v=.slice none 0 c/\l=[])\/
 ∃(A:Addr) (cap:Nat) (cell:Nat->Nat->Value),v=.slice (some A) l.length cap/\∀(i:Nat) (x:DV),l[i]?=some x->x.cells.length=sz/\
  ∀(j:Nat) (d:DV),x.cells[j]?=some d->d.aj=true/\w.cell? (A.add (i*sz+j))=some (cell i j)/\(cell i j).oneCell'=true/\S i j d (cell i j)
section
variable {w:World}
theorem pZ.aaH{M:Mem}{sz:Nat}{l:List DV}{v:Value}(dh:M.In w)(h:bq M (.sl sz l) v):pZ w v sz l fun _ _ d u=>bq M d u:=by
 cases h with
 |slnil=>exact .inl ⟨0,rfl,rfl⟩
 |sl _ _ A cap cell dY hlen hc hr=>
  refine .inr ⟨A,cap,cell,rfl,fun i x hx=>?_⟩
  have hm:=hlen x (ack hx)
  refine⟨hm.1,fun j d hd=>⟨hm.2 d (ack hd),dh.cell (hc i j (aci.1 hx).1 ?_),(hr i x j d hx hd).cV (hm.2 d (ack hd)),hr i x j d hx hd⟩⟩
  rw[<-hm.1];exact(aci.1 hd).1
theorem pZ.Ra{sz:Nat}{l:List DV}{v:Value}{R:Nat->Nat->DV->Value->Prop}(h:uY w v sz l R)(h1:∀i j d u,R i j d u->d.aj=true->u.oneCell'=true):pZ w v sz l R:=by
 rcases h with⟨rfl,rfl⟩|⟨g,o,cap,c,t,rfl,dY,hw,bz,D0⟩
 ·exact .inl ⟨0,rfl,rfl⟩
 ·refine .inr ⟨⟨g,o,none⟩,cap,fun i j=>c.getD (o+i*sz+j) undef,rfl,fun i x hx=>?_⟩
  obtain⟨a1,a2⟩:=D0 i x hx
  refine⟨a1,fun j d hd=>?_⟩
  obtain⟨b1,u,hu,hr⟩:=a2 j d hd
  have e:c.getD (o+i*sz+j) undef=u:=by rw[acu,hu];rfl
  refine⟨b1,?_,?_,?_⟩
  ·rw[eN]
   simp only[World.cell?,hw]
   rw[show o+(i*sz+j)=o+i*sz+j by omega,e]
   simpa using hu
  ·show(c.getD (o+i*sz+j) undef).oneCell'=true
   rw[e];exact h1 i j d u hr b1
  ·show R i j d (c.getD (o+i*sz+j) undef)
   rw[e];exact hr
theorem pZ.mono{sz:Nat}{l l':List DV}{v:Value}{S S':Nat->Nat->DV->Value->Prop}(h:pZ w v sz l S)(hl:l.length=l'.length)
 (hx:∀(i:Nat) (x y:DV),l[i]?=some x->l'[i]?=some y->x.cells.length=y.cells.length/\∀(j:Nat) (d e:DV) (u:Value),x.cells[j]?=some d->y.cells[j]?=some e->d.aj=true->S i j d u->e.aj=true/\S' i j e u):pZ w v sz l' S':=by
 rcases h with⟨c,rfl,rfl⟩|⟨A,cap,cell,rfl,hh⟩
 ·exact .inl ⟨c,rfl,by simpa using hl.symm⟩
 ·refine .inr ⟨A,cap,cell,by rw[hl],fun i y hy=>?_⟩
  have hi:i<l.length:=by rw[hl];exact(aci.1 hy).1
  obtain⟨a1,a2⟩:=hh i _ (aaS hi)
  obtain⟨b1,b2⟩:=hx i _ y (aaS hi) hy
  refine⟨by omega,fun j e he=>?_⟩
  have hj:j<l[i].cells.length:=by have:=(aci.1 he).1;omega
  obtain⟨c1,c2,c3,c4⟩:=a2 j _ (aaS hj)
  obtain⟨d1,d2⟩:=b2 j _ e _ (aaS hj) he c1 c4
  exact⟨d1,c2,c3,d2⟩
def eU(sz n:Nat)(cell:Nat->Nat->Value):List Value:=(List.range (n*sz)).map fun q=>cell (q/sz) (q%sz)
theorem jB(sz n:Nat)(cell:Nat->Nat->Value):(eU sz n cell).length=n*sz:=by simp[eU]
theorem nh{sz n i j:Nat}(cell:Nat->Nat->Value)(hi:i<n)(hj:j<sz):(eU sz n cell)[i*sz+j]?=some (cell i j):=by
 have h:=pY hi hj
 obtain⟨h1,h2⟩:=qC (i:=i) hj
 simp[eU,h,h1,h2]
theorem uZ{P:Program}(t ty e:TypeId)(i:TypeInfo)(ht:P.underlying t=some (.slice e))(hi:P.info? e=some i)
 (g o Jj Xz:Nat) (cur:Array Value) (tt:TypeId) (hg:w.heap[g]?=some (.cells cur tt (0,0)))
 (a:Addr) (m c:Nat) (news:List Value) (hl:news.length=m*i.size) (BL:∀j u,news[j]?=some u->w.cell? (a.add j)=some u) (h1:∀u∈news,u.oneCell'=true)
 (GI:Jj+m<=Xz) (cP:o+Jj*i.size+news.length<=cur.size):
 (Builtin.append_ #[t,t] ty #[.slice (some ⟨g,o,none⟩) Jj Xz,.slice (some a) m c]).run P w=
  .ok (.slice (some ⟨g,o,none⟩) (Jj+m) Xz) (w.setRow g (cur.toList.take (o+Jj*i.size)++news++cur.toList.drop (o+Jj*i.size+news.length)).toArray):=by
 have hf:=run_firstCells_some (P:=P) w i.size m a m c news hl BL
 have ak:=run_storeCells_at P g (o+Jj*i.size) tt news 0 cur w hg (by simpa using cP) h1
 simp only[Nat.add_zero]at ak
 simp[Builtin.append_,run_underlying ht,sizeOf,typeInfo,hi,Builtin.lenOf,GI,hf,eN,ak]
def tG(n:Nat)(R S:Nat->Nat->DV->Value->Prop):Nat->Nat->DV->Value->Prop:=fun i j d u=>if i<n then R i j d u else S (i-n) j d u
def KZ(w:World)(v v':Value)(w':World)(zs:List DV):Prop:=∀a n,v=.slice (some a) n n->zs≠[]->(∀b,b<w.heap.size->w'.heap[b]?=w.heap[b]?)/\∀b,cS v'=some b->w.heap.size<=b
theorem zx{P:Program}{t ty e:TypeId}{ti:TypeInfo}{z:Value}(ht:P.underlying t=some (.slice e))(hi:P.info? e=some ti)(hz:ti.zero=some z)(Yq:z.cells.size=ti.size)(dc:0<ti.size)
 {v sv:Value} {xs zs:List DV} {R S:Nat->Nat->DV->Value->Prop} (As:uY w v ti.size xs R) (lu:pZ w sv ti.size zs S)
 (D8:xs.length+zs.length<=9223372036854775807) (zR:(xs.length+zs.length)*ti.bytes<=140737488355328):
 ∃v' w',(Builtin.append_ #[t,t] ty #[v,sv]).run P w=.ok v' w'/\uY w' v' ti.size (xs++zs) (tG xs.length R S)/\w.grownBy w' (cS v)/\(∀b,cS v'=some b->w.heap.size<=b\/cS v=some b)/\v'.oneCell'=true/\KZ w v v' w' zs:=by
 have wZ:v.oneCell'=true:=by rcases As with⟨_,rfl⟩|⟨_,_,_,_,_,rfl,_⟩<;>rfl
 have Rb:∀{c:Array Value} {o:Nat},(∀(i:Nat) (x:DV),xs[i]?=some x->x.cells.length=ti.size/\∀(j:Nat) (d:DV),x.cells[j]?=some d->d.aj=true/\∃u,c[o+i*ti.size+j]?=some u/\R i j d u)->
  ∀(i:Nat) (x:DV),xs[i]?=some x->x.cells.length=ti.size/\∀(j:Nat) (d:DV),x.cells[j]?=some d->d.aj=true/\∃u,c[o+i*ti.size+j]?=some u/\tG xs.length R S i j d u:=by
  intro c o hh i x hx
  obtain⟨a1,a2⟩:=hh i x hx
  refine⟨a1,fun j d hd=>?_⟩
  obtain⟨b1,u,b2,b3⟩:=a2 j d hd
  refine⟨b1,u,b2,?_⟩
  unfold tG
  rw[if_pos (aci.1 hx).1];exact b3
 have oI:zs=[]->(Builtin.append_ #[t,t] ty #[v,sv]).run P w=.ok v w->∃v' w',(Builtin.append_ #[t,t] ty #[v,sv]).run P w=.ok v' w'/\uY w' v' ti.size (xs++zs) (tG xs.length R S)/\w.grownBy w' (cS v)/\(∀b,cS v'=some b->w.heap.size<=b\/cS v=some b)/\v'.oneCell'=true/\KZ w v v' w' zs:=by
  rintro rfl hr
  refine⟨v,w,hr,?_,World.grownBy.refl w _,fun b hb=>.inr hb,wZ,fun _ _ _ h=>absurd rfl h⟩
  rw[List.append_nil]
  rcases As with h|⟨g,o,cap,cc,tt,hv,dY,hw,bz,D0⟩
  ·exact .inl h
  ·exact .inr ⟨g,o,cap,cc,tt,hv,dY,hw,bz,Rb D0⟩
 rcases lu with⟨c,rfl,uz⟩|⟨A,Rc,cell,rfl,cH⟩
 ·refine oI uz ?_
  rcases As with⟨_,rfl⟩|⟨g,o,cap,cc,tt,rfl,dY,hw,bz,D0⟩
  ·simp[Builtin.append_,run_underlying ht,sizeOf,typeInfo,hi,Builtin.lenOf,Builtin.firstCells]
  ·simp[Builtin.append_,run_underlying ht,sizeOf,typeInfo,hi,Builtin.lenOf,Builtin.firstCells,dY,storeCells]
 ·obtain⟨m,my⟩:∃m,m=zs.length:=⟨_,rfl⟩
  rw[<-my]at D8 zR oI⊢
  have hlen:(eU ti.size m cell).length=m*ti.size:=jB _ _ _
  have hq:∀q,q<m*ti.size->q/ti.size<m/\q%ti.size<ti.size/\q=q/ti.size*ti.size+q%ti.size:=fun q hq=>
   ⟨(Nat.div_lt_iff_lt_mul dc).2 hq,Nat.mod_lt _ dc,by have:=Nat.div_add_mod q ti.size;rw[Nat.mul_comm]at this;exact this.symm⟩
  have BL:∀j u,(eU ti.size m cell)[j]?=some u->w.cell? (A.add j)=some u:=by
   intro q u hu
   have aw:q<m*ti.size:=by rw[<-hlen];exact(aci.1 hu).1
   obtain⟨h1,h2,h3⟩:=hq q aw
   obtain⟨VT,hl3⟩:=cH (q/ti.size) (zs[q/ti.size]'(by omega)) (aaS (by omega))
   have:=(hl3 (q%ti.size) _ (aaS (by rw[VT];exact h2))).2.1
   rw[h3]at hu⊢
   rw[nh cell h1 h2]at hu
   rw[this];exact hu
  have wu:∀u,u∈eU ti.size m cell->u.oneCell'=true:=by
   intro u hu
   obtain⟨q,Jh,rfl⟩:=List.getElem_of_mem hu
   have aw:q<m*ti.size:=by rw[<-hlen];exact Jh
   obtain⟨h1,h2,h3⟩:=hq q aw
   obtain⟨VT,hl3⟩:=cH (q/ti.size) (zs[q/ti.size]'(by omega)) (aaS (by omega))
   have hj:q%ti.size<(zs[q/ti.size]'(by omega)).cells.length:=by rw[VT];exact h2
   have:=(hl3 (q%ti.size) _ (aaS hj)).2.2.1
   have he:(eU ti.size m cell)[q]=cell (q/ti.size) (q%ti.size):=by simp[eU]
   rw[he];exact this
  have reads:∀(c':Array Value) (o':Nat),
   (∀(i:Nat) (x:DV),xs[i]?=some x->x.cells.length=ti.size/\∀(j:Nat) (d:DV),x.cells[j]?=some d->d.aj=true/\∃u,c'[o'+i*ti.size+j]?=some u/\R i j d u)->
   (∀q,q<m*ti.size->c'[o'+xs.length*ti.size+q]?=(eU ti.size m cell)[q]?)->
   ∀(i:Nat) (x:DV),(xs++zs)[i]?=some x->x.cells.length=ti.size/\∀(j:Nat) (d:DV),x.cells[j]?=some d->d.aj=true/\∃u,c'[o'+i*ti.size+j]?=some u/\tG xs.length R S i j d u:=by
   intro c' o' hold kl i x hx
   rw[List.getElem?_append]at hx
   split at hx
   ·exact Rb hold i x hx
   ·rename_i gE
    obtain⟨h1,h3⟩:=cH _ x hx
    have aw:i-xs.length<m:=by rw[my];exact(aci.1 hx).1
    refine⟨h1,fun j d hd=>?_⟩
    have hj:j<ti.size:=by rw[<-h1];exact(aci.1 hd).1
    obtain⟨k1,k2,k3,k4⟩:=h3 j d hd
    refine⟨k1,cell (i-xs.length) j,?_,by unfold tG;rw[if_neg gE];exact k4⟩
    have:=kl ((i-xs.length)*ti.size+j) (pY aw hj)
    rw[nh cell aw hj]at this
    rw[<-this]
    congr 1
    have:i*ti.size=xs.length*ti.size+(i-xs.length)*ti.size:=by rw[<-Nat.add_mul];congr 1;omega
    omega
  by_cases DZ:m=0
  ·have abE:zs=[]:=List.eq_nil_of_length_eq_zero (by omega)
   subst DZ
   clear reads wu BL hq hlen cH
   refine oI abE ?_
   clear oI Rb
   rcases As with⟨_,rfl⟩|⟨g,o,cap,cc,tt,rfl,dY,hw,bz,D0⟩
   ·simp[Builtin.append_,run_underlying ht,sizeOf,typeInfo,hi,Builtin.lenOf,Builtin.firstCells,loadCells,loadCellsFrom]
   ·simp[Builtin.append_,run_underlying ht,sizeOf,typeInfo,hi,Builtin.lenOf,Builtin.firstCells,dY,storeCells,loadCells,loadCellsFrom]
  ·have Re:∀(T3:List Value) (cp:Nat),T3.length=xs.length*ti.size->xs.length+m<=cp->(∀(i:Nat) (x:DV),xs[i]?=some x->x.cells.length=ti.size/\∀(j:Nat) (d:DV),x.cells[j]?=some d->d.aj=true/\∃u,T3[i*ti.size+j]?=some u/\R i j d u)->
       uY (w.drew.alloc (.cells (T3.toArray++(eU ti.size m cell).toArray++Builtin.zeroCells z.cells (cp-(xs.length+m))) e)) (.slice (some ⟨w.heap.size,0,none⟩) (xs.length+m) cp) ti.size (xs++zs) (tG xs.length R S):=by
    intro T3 cp Ww hcp hold
    refine .inr ⟨w.heap.size,0,cp,_,e,by simp[my],by simpa[my]using hcp,cD w.drew _,?_,reads _ 0 ?_ ?_⟩
    ·simp only[Array.size_append,List.size_toArray,size_zeroCells,Yq,Ww,hlen,<-Nat.add_mul,Nat.zero_add]
     refine acO _ ?_
     omega
    ·intro i x hx
     obtain⟨h1,h3⟩:=hold i x hx
     refine⟨h1,fun j d hd=>?_⟩
     obtain⟨k1,u,hu,hr⟩:=h3 j d hd
     refine⟨k1,u,?_,hr⟩
     have aw:=(aci.1 hu).1
     rw[Nat.zero_add,Array.getElem?_append,if_pos (by simp;omega),Array.getElem?_append,if_pos (by simpa using aw)]
     simpa using hu
    ·intro q Jh
     rw[Nat.zero_add,Array.getElem?_append,if_pos (by simp[hlen,Ww];omega),Array.getElem?_append,if_neg (by simp[Ww])]
     simp[Ww]
   rcases As with⟨rfl,rfl⟩|⟨g,o,cap,cc,tt,rfl,dY,hw,bz,D0⟩
   ·have hr:=run_append_nil (P:=P) w t ty e ti z ht hi hz A m Rc (eU ti.size m cell) hlen BL (by omega) (by simp at D8;omega) (by simp at zR;omega)
    have hg:=Re [] (grownCap w m 0 e) (by simp) (by simpa using grownCap_ge w m 0 e) (by simp)
    simp only[List.length_nil,Nat.zero_add,Array.empty_append]at hg
    refine⟨_,_,hr,by simpa using hg,⟨rfl,rfl,rfl,by simp,fun q hq _=>bu w.drew _ hq⟩,fun b hb=>?_,rfl,fun _ _ e=>by cases e⟩
    simp[cS]at hb;exact .inl (by omega)
   ·by_cases GI:xs.length+m<=cap
    ·have cP:o+xs.length*ti.size+(eU ti.size m cell).length<=cc.size:=by
      rw[hlen]
      have:(xs.length+m)*ti.size<=cap*ti.size:=acO _ GI
      rw[Nat.add_mul]at this
      omega
     have hr:=uZ (P:=P) t ty e ti ht hi g o xs.length cap cc tt hw A m Rc (eU ti.size m cell) hlen BL wu GI cP
     refine⟨_,_,hr,.inr ⟨g,o,cap,_,tt,by simp[my],by simpa[my]using GI,setRow_heap w g cc _ tt _ hw,?_,reads _ o ?_ ?_⟩,⟨rfl,rfl,rfl,by simp,fun q _ hq=>setRow_other w g q _ (fun x=>hq (by simp[cS,x]))⟩,fun b hb=>.inr hb,rfl,fun a n e hz=>?_⟩
     ·simp only[List.size_toArray,acw,acE,List.length_drop,Array.length_toList]
      omega
     ·intro i x hx
      obtain⟨h1,h3⟩:=D0 i x hx
      refine⟨h1,fun j d hd=>?_⟩
      obtain⟨k1,u,hu,hr⟩:=h3 j d hd
      refine⟨k1,u,?_,hr⟩
      have hj:j<ti.size:=by rw[<-h1];exact(aci.1 hd).1
      have Fs:=pY (aci.1 hx).1 hj
      have FP:o+i*ti.size+j<cc.size:=(acx.1 hu).1
      simp only[List.getElem?_toArray,acK]
      rw[List.getElem?_append_left (by simp;omega),List.getElem?_take,if_pos (by omega)]
      simpa using hu
     ·intro q Jh
      simp only[List.getElem?_toArray,acK]
      rw[List.getElem?_append_right (by simp;omega),List.getElem?_append_left (by simp;omega)]
      congr 1
      simp;omega
     ·exfalso
      simp only[Value.slice.injEq]at e
      have:zs.length≠0:=fun h=>hz (List.eq_nil_of_length_eq_zero h)
      omega
    ·have holds:∀j u,((List.range (xs.length*ti.size)).map fun q=>cc.getD (o+q) undef)[j]?=some u->w.cell? ((⟨g,o,none⟩:Addr).add j)=some u:=by
      intro j u hj
      simp only[acj]at hj
      by_cases aw:j<xs.length*ti.size
      ·simp only[List.getElem?_range aw,Option.map_some]at hj
       injection hj with hj
       have kU:o+j<cc.size:=by
        have:xs.length*ti.size<=cap*ti.size:=acO _ dY
        omega
       rw[eN]
       simp only[World.cell?,hw]
       rw[<-hj]
       simp[kU]
      ·simp[aw]at hj
     have hr:=run_append_grow (P:=P) w t ty e ti z ht hi hz ⟨g,o,none⟩ xs.length cap ((List.range (xs.length*ti.size)).map fun q=>cc.getD (o+q) undef) (by simp) holds A m Rc (eU ti.size m cell) hlen BL (by omega) (by omega) (growslice_fits (by omega) zR)
     have hg:=Re ((List.range (xs.length*ti.size)).map fun q=>cc.getD (o+q) undef) (grownCap w (xs.length+m) cap e) (by simp) (grownCap_ge w (xs.length+m) cap e) (by
      intro i x hx
      obtain⟨h1,h3⟩:=D0 i x hx
      refine⟨h1,fun j d hd=>?_⟩
      obtain⟨k1,u,hu,hr⟩:=h3 j d hd
      have hj:j<ti.size:=by rw[<-h1];exact(aci.1 hd).1
      have Fs:=pY (aci.1 hx).1 hj
      refine⟨k1,u,?_,hr⟩
      simp only[acj,List.getElem?_range Fs,Option.map_some]
      rw[show o+(i*ti.size+j)=o+i*ti.size+j by omega,acu,hu]
      rfl)
     refine⟨_,_,hr,hg,⟨rfl,rfl,rfl,by simp,fun q hq _=>bu w.drew _ hq⟩,fun b hb=>?_,rfl,fun _ _ _ _=>⟨fun b hb=>bu w.drew _ hb,fun b hb=>?_⟩⟩
     ·simp[cS]at hb;exact .inl (by omega)
     ·simp[cS]at hb;omega
end
end
end Go.TM
