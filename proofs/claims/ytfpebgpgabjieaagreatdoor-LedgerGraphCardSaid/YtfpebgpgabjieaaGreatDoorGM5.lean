import Derived.Test.YtfpebgpgabjieaaGreatDoorGM4
import Derived.Laws.StructEq
set_option linter.all false
namespace Go.TM
set_option maxHeartbeats 1000000
section
open Go.RowKit
variable [cq]
theorem add_zero'(a:Addr):a.add 0=a:=by rfl
section
variable {P:Program} {C:dY->Prop} {T:List TI} {ops:List Oper} {n:Nat} {o:Oper} {nx:Nat} {ρ:Nat->AV} {κ:Nat->az} {k:lQ->Nat->Prop} {gd:Bool}
theorem Ht(hT:fD P T){t:Nat}{x i:Operand}{sz:Nat}{l:List DV}{y:DV}{kd:IntKind}{m:Int}(hg:b9 ρ ops o.guard=some gd)(ho:o.op=.indexAddr t x i)
 (b8:(nth T t).ok=true) (gl:(nth T t).isSl=true) (vX:(nth T (nth T t).elem).ok=true) (cb:sz=(nth T (nth T t).elem).size)
 (hy:gd=true->0<=m/\l[m.toNat]?=some y) (hk:bl n o gd nx k (.dv (.at y 0)) []) (bP:bJ ρ κ gd x (.dv (.sl sz l))) (qc:bJ ρ κ gd i (.dv (.int kd m))):Good P C ops n o nx ρ κ k:=by
 obtain⟨ti,u,z,tf⟩:=hT.facts b8
 obtain⟨te,ue,ze,jh⟩:=hT.facts vX
 refine bB (fun c=>by grind) hg hk fun ρ' κ' aA g a w G ak aY=>?_
 have hv:=bP ρ' κ' (aA.op (by grind [Op.operands])) g n a w G ak aY
 have eB:=qc ρ' κ' (aA.op (by grind [Op.operands])) g n a w G ak aY
 generalize hx:a.eval x=v at hv
 generalize hi:a.eval i=vi at eB
 obtain⟨Et,hmy⟩:=hy aY
 have ay:=(adP.1 hmy).1
 cases eB with|dv eB=>cases eB with|int=>
 cases hv with|dv hv=>cases hv with
 |slnil=>grind
 |sl _ _ A cap cell eU hlen hc hr=>
  have du:0<=m/\m<(l.length):=⟨Et,by omega⟩
  refine⟨.pointer (some (A.add (m.toNat*sz))),?_,?_⟩
  ·have w8:=jh.gi w
   rw[<-cb]at w8
   simp[execOp,ho,hx,hi,Instr.indexAt,run_underlying (tf.slice gl),asIntOf,du,w8]
  ·have:=bu.at y 0 (A.add (m.toNat*sz)) (fun j=>cell m.toNat j) (hlen y (adR hmy)).2
    (fun j hj=>by grind [cQ,List.mem_of_getElem?])
    (fun j d hd=>hr _ y j d hmy hd)
   rw[add_zero']at this
   exact .dv this
theorem oh(hT:fD P T){t:Nat}{x i:Operand}{av av':AV}{kd:IntKind}{m:Int}(hg:b9 ρ ops o.guard=some gd)(ho:o.op=.indexAddr t x i)
 (b8:(nth T t).ok=true) (EX:(nth T t).kind=10) (vX:(nth T (nth T t).elem).ok=true) (hm:gd=true->0<=m/\m<(nth T t).len)
 (hk:bl n o gd nx k av' []) (bP:bJ ρ κ gd x av) (qc:bJ ρ κ gd i (.dv (.int kd m)))
 (hp:∀(G:Gh) (v:Value),aI G av v->∃a,v=.pointer (some a)/\aI G av' (.pointer (some (a.add (m.toNat*(nth T (nth T t).elem).size))))):Good P C ops n o nx ρ κ k:=by
 obtain⟨ti,u,z,tf⟩:=hT.facts b8
 obtain⟨te,ue,ze,jh⟩:=hT.facts vX
 refine bB (fun c=>by grind) hg hk fun ρ' κ' aA g a w G ak aY=>?_
 have eB:=qc ρ' κ' (aA.op (by grind [Op.operands])) g n a w G ak aY
 generalize hi:a.eval i=vi at eB
 cases eB with|dv eB=>cases eB with|int=>
 obtain⟨p,hp,YH⟩:=hp _ _ (bP ρ' κ' (aA.op (by grind [Op.operands])) g n a w G ak aY)
 refine⟨_,?_,YH⟩
 have hu:P.underlying t=some (.array (nth T t).len (nth T t).elem):=by
  have h1:=tf.kind
  rw[EX]at h1
  have h2:=tf.len
  have h3:=tf.elem
  rw[tf.Cv]
  cases u<;>simp[kindOf]at h1
  grind [lenOf,P5]
 simp[execOp,ho,hp,hi,Instr.indexAt,run_underlying hu,asIntOf,Instr.sureAddr,(hm aY),jh.gi w]
theorem D7(hT:fD P T){t:Nat}{x i:Operand}{id ver ep cj sz:Nat}{p:List PS}{d:DV}{l:List DV}{kd:IntKind}{m:Int}(hg:b9 ρ ops o.guard=some gd)(ho:o.op=.indexAddr t x i)
 (b8:(nth T t).ok=true) (gl:(nth T t).isSl=true) (vX:(nth T (nth T t).elem).ok=true) (cb:sz=(nth T (nth T t).elem).size) (hb:κ id=.tree ver cj d) (fm:p=[]\/ep=cj) (dC:gd=true->get d p=some (.aD sz l))
 (hy:gd=true->0<=m/\m<l.length) (hk:bl n o gd nx k (.loc id ver ep p sz m.toNat 0) [id]) (bP:bJ ρ κ gd x (.own id ver ep p)) (qc:bJ ρ κ gd i (.dv (.int kd m))):Good P C ops n o nx ρ κ k:=by
 obtain⟨ti,u,z,tf⟩:=hT.facts b8
 obtain⟨te,ue,ze,jh⟩:=hT.facts vX
 refine bB (fun c=>by grind) hg hk fun ρ' κ' aA g a w G ak aY=>?_
 have hv:=bP ρ' κ' (aA.op (by grind [Op.operands])) g n a w G ak aY
 have eB:=qc ρ' κ' (aA.op (by grind [Op.operands])) g n a w G ak aY
 generalize hx:a.eval x=v at hv
 generalize hi:a.eval i=vi at eB
 obtain⟨Et,hmy⟩:=hy aY
 obtain⟨u,h1,_,bq⟩:=ak.fit.node ((aA.reads id (by simp)).trans hb) (dC aY) rfl
 cases eB with|dv eB=>cases eB with|int=>
 cases hv with
 |own _ _ _ _ _ hh hc=>
  have Z4:=hh
  rw[cV fm,h1]at hh
  injection hh with hh
  subst hh
  rcases bq with⟨rfl,_⟩|⟨gb,ob,cap,cc,tt,rfl,eU,hw,ac4,Ev⟩
  ·grind
  ·have du:0<=m/\m<(l.length):=⟨Et,hmy⟩
   refine⟨.pointer (some ((⟨gb,ob,none⟩:Addr).add (m.toNat*sz))),?_,?_⟩
   ·have w8:=jh.gi w
    rw[<-cb]at w8
    simp[execOp,ho,hx,hi,Instr.indexAt,run_underlying (tf.slice gl),asIntOf,du,w8]
   ·have:=aI.loc id ver ep p sz m.toNat 0 _ _ _ Z4
    grind
theorem D8(hT:fD P T){t:Nat}{x i:Operand}{id len:Nat}{kd:IntKind}{m:Int}(hg:b9 ρ ops o.guard=some gd)(ho:o.op=.indexAddr t x i)
 (b8:(nth T t).ok=true) (gl:(nth T t).isSl=true) (vX:(nth T (nth T t).elem).ok=true)
 (hy:gd=true->0<=m/\m<len) (hk:bl n o gd nx k (.ptr id (m.toNat*(nth T (nth T t).elem).size)) []) (bP:bJ ρ κ gd x (.sle id len)) (qc:bJ ρ κ gd i (.dv (.int kd m))):Good P C ops n o nx ρ κ k:=by
 obtain⟨ti,u,z,tf⟩:=hT.facts b8
 obtain⟨te,ue,ze,jh⟩:=hT.facts vX
 refine bB (fun c=>by grind) hg hk fun ρ' κ' aA g a w G ak aY=>?_
 have hv:=bP ρ' κ' (aA.op (by grind [Op.operands])) g n a w G ak aY
 have eB:=qc ρ' κ' (aA.op (by grind [Op.operands])) g n a w G ak aY
 generalize hx:a.eval x=v at hv
 generalize hi:a.eval i=vi at eB
 cases eB with|dv eB=>cases eB with|int=>
 cases hv with
 |sle _ _ b hb=>
  refine⟨.pointer (some ((⟨b,0,none⟩:Addr).add (m.toNat*(nth T (nth T t).elem).size))),?_,?_⟩
  ·simp[execOp,ho,hx,hi,Instr.indexAt,run_underlying (tf.slice gl),asIntOf,(hy aY),(jh.gi w)]
  ·rw[fe,Nat.zero_add];exact .ptr _ _ b hb
theorem D9(hT:fD P T){t:Nat}{x i:Operand}{id ver ep sz lo len:Nat}{p:List PS}{kd:IntKind}{m:Int}(hg:b9 ρ ops o.guard=some gd)(ho:o.op=.indexAddr t x i)
 (b8:(nth T t).ok=true) (gl:(nth T t).isSl=true) (vX:(nth T (nth T t).elem).ok=true) (cb:sz=(nth T (nth T t).elem).size)
 (hy:gd=true->0<=m/\m<len) (hk:bl n o gd nx k (.loc id ver ep p sz (lo+m.toNat) 0) []) (bP:bJ ρ κ gd x (.pre id ver ep p sz lo len)) (qc:bJ ρ κ gd i (.dv (.int kd m))):Good P C ops n o nx ρ κ k:=by
 obtain⟨ti,u,z,tf⟩:=hT.facts b8
 obtain⟨te,ue,ze,jh⟩:=hT.facts vX
 refine bB (fun c=>by grind) hg hk fun ρ' κ' aA g a w G ak aY=>?_
 have hv:=bP ρ' κ' (aA.op (by grind [Op.operands])) g n a w G ak aY
 have eB:=qc ρ' κ' (aA.op (by grind [Op.operands])) g n a w G ak aY
 generalize hx:a.eval x=v at hv
 generalize hi:a.eval i=vi at eB
 have du:=hy aY
 cases eB with|dv eB=>cases eB with|int=>
 cases hv with
 |pre _ _ _ _ _ _ _ q c hh=>
  obtain⟨A,N,c',hq,rfl⟩:=hh (by omega)
  refine⟨.pointer (some ((A.add (lo*sz)).add (m.toNat*sz))),?_,?_⟩
  ·have w8:=jh.gi w
   rw[<-cb]at w8
   simp[execOp,ho,hx,hi,Instr.indexAt,run_underlying (tf.slice gl),asIntOf,du,w8]
  ·rw[cQ,<-Nat.add_mul]
   have:=aI.loc id ver ep p sz (lo+m.toNat) 0 _ _ _ hq
   grind
theorem sr(hT:fD P T){t:Nat}{x:Operand}{c:Call}{av:AV}{m:Int}{rd:List Nat}(hg:b9 ρ ops o.guard=some gd)(ho:o.op=.call c)(hc:c.callee=.builtin .len)(ha:c.args.toList=[x])(lM:c.argTypes.toList=[t])
 (hk:bl n o gd nx k (.dv (.int .i64 m)) rd) (bP:bJ ρ κ gd x av) (b8:(nth T t).ok=true)
 (hp:gd=true->∀κ',(∀i,i∈rd->κ' i=κ i)->∀(G:Gh) (w:World) (v:Value),Fit G w κ'->aI G av v->
  ((nth T t).isSl=true/\∃p l c,v=.slice p l c/\(l:Int)=m)\/((nth T t).isStr=true/\∃s,v=.string s/\(s.size:Int)=m)\/
  (Nat.beq (nth T t).kind 6=true/\∃b es clock,v=.map (some b)/\w.heap[b]?=some (.map es clock)/\(es.size:Int)=m)):Good P C ops n o nx ρ κ k:=by
 have cZ:c.args=#[x]:=Array.ext' (by grind)
 have NH:c.argTypes=#[t]:=Array.ext' (by grind)
 refine bB (fun c=>by grind) hg hk fun ρ' κ' aA g a w G ak aY=>?_
 refine⟨.int .i64 m,?_,.dv (.int _ _)⟩
 obtain⟨ti,u,z,tf⟩:=hT.facts b8
 rcases hp aY κ' aA.reads G w _ ak.fit (bP ρ' κ' (aA.op (by grind [Op.operands,Call.operands])) g n a w G ak aY)with⟨gl,p,l,cc,ZI,hm⟩|⟨gl,s,ZI,hm⟩|⟨hmk,b,es,clock,ZI,hw,hm⟩
 ·simp[execOp,ho,resolve,hc,cZ,NH,invoke,builtin,Builtin.len_,run_underlying (tf.slice gl),ZI,goInt,hm]
 ·simp[execOp,ho,resolve,hc,cZ,NH,invoke,builtin,Builtin.len_,run_underlying (tf.string gl),ZI,goInt,hm]
 ·have hu:∃kt et,P.underlying t=some (.map kt et):=by
   have h1:=tf.kind
   rw[adS hmk]at h1
   cases u<;>simp[kindOf]at h1
   exact⟨_,_,tf.Cv⟩
  obtain⟨kt,et,hu⟩:=hu
  simp[execOp,ho,resolve,hc,cZ,NH,invoke,builtin,Builtin.len_,run_underlying hu,ZI,goInt,hm,MapKept.run_getObj_map hw]
theorem gV{w:World}{t e:TypeId}(hu:P.underlying t=some (.slice e))(a:Option Addr)(l c:Nat):(Op.equal t (.slice a l c) (.slice none 0 0)).run P w=.ok a.isNone w:=by
 have h:∀d,(Op.equalIn (d+1) t (.slice a l c) (.slice none 0 0)).run P w=.ok a.isNone w:=fun d=>by
  cases a<;>simp[Op.equalIn,run_underlying hu]
 grind [Op.equal,Op.maxDepth]
theorem Y7{b:Bool}{p:Prop}(h:bif b then p else False):b=true/\p:=by
 grind
theorem Ea{κ:Nat->az}{gd:Bool}{a:AV}{k:Option Bool->List Nat->Prop}(h:zk κ gd a k):∃c rd,k c rd/\(gd=true->∀κ',(∀i,i∈rd->κ' i=κ i)->∀(G:Gh) (w:World) (v:Value),Fit G w κ'->aI G a v->∃p l cc,v=.slice p l cc/\∀b,c=some b->p.isNone=b):=by
 unfold zk at h
 split at h
 ·refine⟨_,_,h,fun _ κ' _ G w v _ hv=>?_⟩
  cases hv with|dv hv=>cases hv with|aw=>grind
 ·rcases h with h|⟨hl,h⟩
  ·refine⟨_,_,h,fun _ κ' _ G w v _ hv=>?_⟩
   cases hv with|dv hv=>cases hv with
   |slnil=>grind
   |sl=>grind
  ·refine⟨_,_,h,fun _ κ' _ G w v _ hv=>?_⟩
   cases hv with|dv hv=>cases hv with
   |slnil=>grind
   |sl=>grind
 ·rename_i i ver ep p
  split at h
  ·rename_i bD cj d hk
   have hh:=Y7 h;clear h;obtain⟨hb,h⟩:=hh
   obtain⟨rfl,fm⟩:=dz hb
   obtain⟨nd,h,dC⟩:=bW h
   split at h
   ·rename_i sz l
    have key:gd=true->∀κ',(∀j,j∈[i]->κ' j=κ j)->∀(G:Gh) (w:World) (v:Value),Fit G w κ'->aI G (.own i ver ep p) v->∃q m cc,v=.slice q m cc/\(l≠[]->q.isNone=false):=by
     intro aY κ' aA G w v hf hv
     obtain⟨u,e1,e2,e3⟩:=hf.node ((aA i (by simp)).trans hk) (dC aY) rfl
     cases hv with|own _ _ _ _ _ hh hc=>
     rw[cV fm]at hh
     rw[hh]at e1;injection e1 with e1;subst e1
     rcases e3 with⟨yj,hx⟩|⟨gb,o,cap,c,tt,hx,_⟩
     ·grind
     grind
    grind
   grind
  grind
 ·refine⟨_,_,h,fun _ κ' _ G w v _ hv=>?_⟩
  cases hv with|cz _ _ a m hh=>grind
 grind
theorem WZ{α:Type}{b:Bool}{x:Option α}{y:α}(h:(bif b then x else none)=some y):b=true/\x=some y:=by grind
theorem Hu{G:Gh}{w:World}{x y:AV}{u v:Value}{e:Bool}{f:TypeId}{k D:Nat}(hp:r5 (P.underlying f)=k)(h:Dt k x y=some e)(hx:aI G x u)(hy:aI G y v):
 (Op.equalIn (D+1) f u v).run P w=.ok e w:=by
 unfold Dt at h
 split at h
 ·rename_i kk a k' b
  cases hk:kk==k' with
  |false=>grind
  |true=>
   rw[hk]at h
   have FL:=by simpa using hk
   subst FL
   injection h with h;subst h
   cases hx with|dv hx=>cases hx with|int=>cases hy with|dv hy=>cases hy with|int=>
   obtain⟨q,hq⟩:∃q,P.underlying f=some (.int q):=by
    unfold r5 at hp
    grind
   grind [run_equalIn_int]
 ·injection h with h;subst h
  cases hx with|dv hx=>cases hx with|bool=>cases hy with|dv hy=>cases hy with|bool=>
  have hq:P.underlying f=some .bool:=by
   unfold r5 at hp
   grind
  grind [run_equalIn_bool]
 ·injection h with h;subst h
  cases hx with|dv hx=>cases hx with|str=>cases hy with|dv hy=>cases hy with|str=>
  have hq:P.underlying f=some .string:=by
   unfold r5 at hp
   grind
  grind [run_equalIn_string]
 grind
theorem tU{w:World}{e:TypeId}{k:Nat}(he:r5 (P.underlying e)=k+1){xs:Array Value}{off:Nat}{v:Value}(hx:xs[off]?=some v):(part e xs off).run P w=.ok v w:=by
 unfold r5 at he
 split at he
 ·simp_all [part,isAgg,run_underlying]
 ·simp_all [part,isAgg,run_underlying]
 ·simp_all [part,isAgg,run_underlying]
 grind
theorem tV{G:Gh}{w:World}{xs ys:Array Value}{D:Nat}:∀(fs:List Field) (i:Nat) (q:List Nat) (l r:List AV) (e:Bool),yV P i fs=some q->jF q l r=some e->
 (∀(j:Nat) (d:AV),l[j]?=some d->∃u,xs[i+j]?=some u/\aI G d u)->(∀(j:Nat) (d:AV),r[j]?=some d->∃u,ys[i+j]?=some u/\aI G d u)->
 (Op.eqFields (D+1) xs ys fs).run P w=.ok e w
 |[],i,q,l,r,e,hp,he,hx,hy=>by
  simp[yV,Option.some.injEq]at hp
  subst hp
  cases l<;>cases r<;>simp[jF]at he
  simp_all [Op.eqFields]
 |f::fs,i,q,l,r,e,hp,he,hx,hy=>by
  simp[yV]at hp
  obtain⟨hb,hp⟩:=WZ hp
  simp only[aep,bne_iff_ne]at hb
  obtain⟨n1,o1⟩:=hb
  split at hp
  ·rename_i k q' hk Ta
   injection hp with hp;subst hp
   cases l with
   |nil=>grind [jF]
   |cons x l=>cases r with
    |nil=>simp[jF]at he
    |cons y r=>
     simp[jF]at he
     split at he
     ·rename_i a b ha hb
      injection he with he;subst he
      obtain⟨u,hu,Ut⟩:=hx 0 x rfl
      obtain⟨v,hv,V9⟩:=hy 0 y rfl
      simp[Op.eqFields,n1,ne_eq,not_false_eq_true,if_true,Sem.run_bind,(adS o1)]
      rw[tU hk (by omega)]
      simp[Result.andThen_ok]
      rw[tU hk (by omega)]
      simp[Result.andThen_ok,(Hu (w:=w) (D:=D) hk ha Ut V9)]
      cases a with
      |false=>simp
      |true=>
       simp[Bool.true_and]
       exact tV fs _ q' l r b Ta hb (fun j d hd=>by have:=hx (j+1) d (by grind);rwa[show i+(j+1)=i+1+j by omega]at this)
        (fun j d hd=>by have:=hy (j+1) d (by grind);grind)
     grind
  grind
theorem Y8(hT:fD P T){op:BinOp}{t ty:TypeId}{x y:Operand}(hg:b9 ρ ops o.guard=some gd)(ho:o.op=.binOp op t x y ty){va vb:AV}(YC:bJ ρ κ gd x va)(YD:bJ ρ κ gd y vb)
 (h:Xu (nth T t) op va vb fun v=>bl n o gd nx k v []):Good P C ops n o nx ρ κ k:=by
 have hh:=Y7 h;clear h;obtain⟨hb,h⟩:=hh
 simp only[aep]at hb
 obtain⟨i,u,z,tf⟩:=hT.facts hb.1
 split at h
 ·rename_i x1 l r
  split at h
  ·rename_i e he
   have hk:=tf.kind
   rw[adS hb.2]at hk
   obtain⟨fs,rfl⟩:∃fs,u=.struct fs:=by
    cases u<;>simp[kindOf]at hk
    grind
   have heq:=tf.Xl
   simp only[P6]at heq
   split at heq
   ·rename_i q hq
    cases hc:Nat.beq fs.toList.length i.size&& !P.stoodInHeld t&& !P.eqGuardType P.depth t with
    |false=>rw[hc]at heq;simp_all [jF]
    |true=>
     rw[hc]at heq
     simp[cond_true]at heq
     rw[heq]at he
     simp[aep,aer]at hc
     have hf:P.fieldsOf t=fs:=by simp[Program.fieldsOf,tf.Cv]
     have core:∀(G:Gh) (w:World) (u v:Value),aI G (.agg (x1::l)) u->aI G (.agg r) v->∃us vs,u=.agg us/\v=.agg vs/\(Op.equalIn 10000 t u v).run P w=.ok e w:=by
      intro G w u v hu hv
      cases hu with|agg _ us hlu Ut=>cases hv with|agg _ vs hlv V9=>
      refine⟨_,_,rfl,rfl,?_⟩
      rw[run_equalIn_struct w 9999 t _ _ (by rw[hf];exact tf.Cv) hc.1.2,hf]
      refine tV (G:=G) fs.toList 0 q _ _ e hq he (fun j d hd=>?_) (fun j d hd=>?_)
      ·have hj:=(adP.1 hd).1
       exact⟨us[j]'(by omega),by simp,Ut j d _ hd (ace (by omega))⟩
      ·have hj:=(adP.1 hd).1
       exact⟨vs[j]'(by omega),by simp,V9 j d _ hd (ace (by omega))⟩
     have fin:∀c:Bool,bl n o gd nx k (.dv (.bool c)) []->(∀(w:World) (us vs:Array Value),(Op.equalIn 10000 t (.agg us) (.agg vs)).run P w=.ok e w->(binOp op t (.agg us) (.agg vs)).run P w=.ok (.bool c) w)->Good P C ops n o nx ρ κ k:=by
      intro c iM bH
      refine bB (fun c=>by grind) hg iM fun ρ' κ' aA g a w G ak aY=>?_
      obtain⟨us,vs,e1,e2,e3⟩:=core G w _ _ (YC ρ' κ' (aA.op (by grind [Op.operands])) g n a w G ak aY) (YD ρ' κ' (aA.op (by grind [Op.operands])) g n a w G ak aY)
      refine⟨.bool c,?_,.dv (.bool c)⟩
      grind [execOp,Sem.run_bind,run_eqGuard_agg,Result.andThen_ok,Sem.run_pure]
     split at h
     ·exact fin e h fun w us vs h3=>by rw[run_eql_struct,h3];rfl
     ·exact fin (!e) h fun w us vs h3=>by rw[run_neq_struct,h3];rfl
     grind
   grind [jF]
  grind
 grind
theorem JU(hT:fD P T){op:BinOp}{t ty:TypeId}{x y:Operand}(hg:b9 ρ ops o.guard=some gd)(ho:o.op=.binOp op t x y ty){av:AV}(bP:bJ ρ κ gd x av)(KR:bJ ρ κ gd y (.dv .aw))
 (h:Ln (nth T t) op κ gd av fun v rd=>bl n o gd nx k v rd):Good P C ops n o nx ρ κ k:=by
 obtain⟨hb,h⟩:=Y7 h
 simp[aep]at hb
 obtain⟨i,u,z,tf⟩:=hT.facts hb.1
 have hu:=tf.slice hb.2
 have core:∀(neg:Bool),(∀(w:World) (p:Option Addr) (l cc:Nat),(binOp op t (.slice p l cc) (.slice none 0 0)).run P w=.ok (.bool (bif neg then !p.isNone else p.isNone)) w)->(zk κ gd av fun c rd=>bl n o gd nx k (Yj neg c) rd)->Good P C ops n o nx ρ κ k:=by
  intro neg bH h
  obtain⟨c,rd,hk,hs⟩:=Ea h
  refine bB (fun c=>by grind) hg hk fun ρ' κ' aA g a w G ak aY=>?_
  have h2:=KR ρ' κ' (aA.op (by grind [Op.operands])) g n a w G ak aY
  obtain⟨p,l,cc,hv,hp⟩:=hs aY κ' aA.reads G w _ ak.fit (bP ρ' κ' (aA.op (by grind [Op.operands])) g n a w G ak aY)
  generalize hy:a.eval y=vy at h2
  cases h2 with|dv h2=>cases h2 with|aw=>
  refine⟨.bool (bif neg then !p.isNone else p.isNone),?_,?_⟩
  ·simp_all [execOp,iU,Sem.run_pure]
  ·cases c with
   |none=>exact .dv (.o5 _)
   |some b=>rw[hp b rfl];exact .dv (.bool _)
 split at h
 ·simp_all [binOp,gV,cond_false]
 ·simp_all [binOp,gV,cond_true]
 grind
theorem JV(hT:fD P T){s t:TypeId}{x:Operand}{kx kd:IntKind}{m:Int}(hg:b9 ρ ops o.guard=some gd)(ho:o.op=.convert s t x)(hs:(nth T s).ok=true)(ht:(nth T t).ok=true)(hi:(nth T t).N0=some kd)(hk:bl n o gd nx k (.dv (.int kd (kd.wrap m))) [])(bP:bJ ρ κ gd x (.dv (.int kx m))):Good P C ops n o nx ρ κ k:=by
 obtain⟨i1,u1,z1,tf1⟩:=hT.facts hs
 obtain⟨i2,u2,z2,tf2⟩:=hT.facts ht
 refine bB (fun c=>by grind) hg hk fun ρ' κ' aA g a w G ak aY=>?_
 have hv:=bP ρ' κ' (aA.op (by grind [Op.operands])) g n a w G ak aY
 generalize hx:a.eval x=v at hv
 cases hv with|dv hv=>cases hv with|int=>
 have h2:=tf2.N0
 rw[hi]at h2
 cases u2<;>simp[Kt]at h2
 subst h2
 refine⟨.int kd _,?_,.dv (.int _ _)⟩
 simp[execOp,ho,hx,convert,run_underlying tf1.Cv,run_underlying tf2.Cv,Conv.intToInt]
theorem Se(hT:fD P T){t:TypeId}{x ix:Operand}{kx:IntKind}{m:Int}{s:ByteArray}{b:UInt8}(hg:b9 ρ ops o.guard=some gd)(ho:o.op=.index t x ix)(ht:(nth T t).ok=true)(ak:(nth T t).isStr=true)(hb:gd=true->0<=m/\s[m.toNat]?=some b)(hk:bl n o gd nx k (.dv (.int .u8 b.toNat)) [])(bP:bJ ρ κ gd x (.dv (.str s)))(qc:bJ ρ κ gd ix (.dv (.int kx m))):Good P C ops n o nx ρ κ k:=by
 obtain⟨i1,u1,z1,tf1⟩:=hT.facts ht
 have hu:=tf1.string ak
 refine bB (fun c=>by grind) hg hk fun ρ' κ' aA g a w G ak aY=>?_
 have hv:=bP ρ' κ' (aA.op (by grind [Op.operands])) g n a w G ak aY
 have hi:=qc ρ' κ' (aA.op (by grind [Op.operands])) g n a w G ak aY
 generalize hx:a.eval x=v at hv
 generalize hy:a.eval ix=u at hi
 cases hv with|dv hv=>cases hv with|str=>
 cases hi with|dv hi=>cases hi with|int=>
 obtain⟨h0,hb⟩:=hb aY
 refine⟨.int .u8 b.toNat,?_,.dv (.int _ _)⟩
 simp_all [execOp,Instr.index,asIntOf,run_underlying]
theorem Y9{x y:Operand}{c:Call}{p q:Int}(hg:b9 ρ ops o.guard=some gd)(ho:o.op=.call c)(hc:c.callee=.builtin .min)(ha:c.args.toList=[x,y])
 (hk:bl n o gd nx k (.dv (.int .i64 (if q<p then q else p))) []) (bP:bJ ρ κ gd x (.dv (.int .i64 p))) (qc:bJ ρ κ gd y (.dv (.int .i64 q))):Good P C ops n o nx ρ κ k:=by
 have cZ:c.args=#[x,y]:=Array.ext' (by grind)
 refine bB (fun c=>by grind) hg hk fun ρ' κ' aA g a w G ak aY=>?_
 have hv:=bP ρ' κ' (aA.op (by grind [Op.operands,Call.operands])) g n a w G ak aY
 have eB:=qc ρ' κ' (aA.op (by grind [Op.operands,Call.operands])) g n a w G ak aY
 generalize hx:a.eval x=v at hv
 generalize hi:a.eval y=vi at eB
 cases eB with|dv eB=>cases eB with|int=>
 cases hv with|dv hv=>cases hv with|int=>
 refine⟨_,?_,.dv (.int _ _)⟩
 simp_all [execOp,resolve,invoke,builtin,Builtin.min_,Builtin.min2]
theorem Za{x y:Operand}{c:Call}{p q:Int}(hg:b9 ρ ops o.guard=some gd)(ho:o.op=.call c)(hc:c.callee=.builtin .max)(ha:c.args.toList=[x,y])
 (hk:bl n o gd nx k (.dv (.int .i64 (if p<q then q else p))) []) (bP:bJ ρ κ gd x (.dv (.int .i64 p))) (qc:bJ ρ κ gd y (.dv (.int .i64 q))):Good P C ops n o nx ρ κ k:=by
 have cZ:c.args=#[x,y]:=Array.ext' (by grind)
 refine bB (fun c=>by grind) hg hk fun ρ' κ' aA g a w G ak aY=>?_
 have hv:=bP ρ' κ' (aA.op (by grind [Op.operands,Call.operands])) g n a w G ak aY
 have eB:=qc ρ' κ' (aA.op (by grind [Op.operands,Call.operands])) g n a w G ak aY
 generalize hx:a.eval x=v at hv
 generalize hi:a.eval y=vi at eB
 cases eB with|dv eB=>cases eB with|int=>
 cases hv with|dv hv=>cases hv with|int=>
 refine⟨_,?_,.dv (.int _ _)⟩
 simp_all [execOp,resolve,invoke,builtin,Builtin.max_,Builtin.max2]
def oi(ρ:Nat->AV)(κ:Nat->az)(g:Bool):List (Nat×Operand)->List (Nat×AV)->Prop
 |[],[]=>True
 |(i,x)::r,(j,v)::l=>i=j/\bJ ρ κ g x v/\oi ρ κ g r l
 |_,_=>False
theorem mJ:∀{l:List (Nat×Operand)} {k:List (Nat×AV)->Prop},s5 ρ κ gd l k->∃r,k r/\oi ρ κ gd l r
 |[],k,h=>⟨[],h,tv⟩
 |(i,x)::l,k,h=>by
  obtain⟨v,h,hv⟩:=aK h
  obtain⟨r,h,hr⟩:=mJ h
  exact⟨_,h,rfl,hv,hr⟩
theorem fX:∀{l:List AV},ca l=true->∀v,v∈l->v.ao=true
 |[],_,v,h=>by grind
 |x::l,h,v,hv=>by
  simp[ca,aep]at h
  rcases adV.1 hv with rfl|hv
  ·grind
  ·exact fX h.2 v hv
section
variable {G:Gh}
theorem cC.cU{l:List AV}{vs:List Value}(h:cC G l vs)(hc:ca l=true):∀v,v∈vs->v.oneCell'=true:=by
 intro v hv
 obtain⟨j,hj,rfl⟩:=List.getElem_of_mem hv
 have z7:j<l.length:=by rwa[h.1]
 exact(h.2 j l[j] vs[j] (ace z7) (ace hj)).cU (fX hc _ (ael z7))
theorem nr{av:AV}{v:Value}(h:aI G av v)(hc:ca (cellsOf av)=true):cC G (cellsOf av) v.cells.toList:=by
 cases av with
 |agg l=>
  cases h with
  |agg _ vs hl hr=>exact⟨by assumption,by assumption⟩
 |_=>
  simp[cellsOf,ca,Bool.and_true]at hc
  have h1:=h.cU hc
  have:v.cells=#[v]:=by cases v<;>first|rfl|grind [Value.oneCell']
  rw[this]
  refine⟨rfl,fun j d u hd hu=>?_⟩
  cases j with
  |zero=>grind [cellsOf]
  |succ j=>simp[cellsOf]at hd
theorem cC.iQ{l:List AV}{vs:List Value}{l':List AV}{S4:List Value}(h:cC G l vs)(h':cC G l' S4)(off:Nat)(hle:off+l'.length<=l.length):
 cC G (iQ l off l') (vs.take off++S4++vs.drop (off+S4.length)):=by
 have e:=h.1
 have e':=h'.1
 constructor
 ·grind [TM.iQ]
 ·intro j d v hd hv
  simp[TM.iQ,aef]at hd hv
  rw[List.getElem?_append]at hd hv
  simp[ad9]at hd hv
  by_cases h1:j<off
  ·rw[if_pos (by omega)]at hd hv
   rw[List.getElem?_take,if_pos h1]at hd hv
   exact h.2 j d v hd hv
  ·rw[if_neg (by omega)]at hd hv
   rw[List.getElem?_append]at hd hv
   rw[show min off l.length=off by omega]at hd
   rw[show min off vs.length=off by omega]at hv
   by_cases h2:j-off<l'.length
   ·rw[if_pos h2]at hd
    rw[if_pos (by omega)]at hv
    exact h'.2 _ d v hd hv
   ·rw[if_neg h2]at hd
    rw[if_neg (by omega)]at hv
    rw[List.getElem?_drop]at hd hv
    rw[<-e']at hv
    exact h.2 _ d v hd hv
theorem Hv(off:Nat):∀(vs:List Value) (i:Nat) (cur:Array Value),off+i+vs.length<=cur.size->
 ((vs.zipIdx i).foldl (fun cs (p:Value×Nat)=>cs.setIfInBounds (off+p.2) p.1) cur).toList=cur.toList.take (off+i)++vs++cur.toList.drop (off+i+vs.length)
 |[],i,cur,_=>by simp
 |v::rest,i,cur,hl=>by
  simp[List.zipIdx_cons,List.foldl_cons]
  rw[Hv off rest _ _ (by grind)]
  simpa[Nat.add_assoc]using (list_seg_step cur.toList (off+i) v rest (by grind))
theorem ss(place:Nat->Option (Nat×Nat)):∀(parts:List (Nat×AV)) (JW:List (Nat×Value)) (l l':List AV) (cs:Array Value),
 (parts.length=JW.length/\∀(j:Nat) (p:Nat×AV) (q:Nat×Value),parts[j]?=some p->JW[j]?=some q->p.1=q.1/\aI G p.2 q.2)->cC G l cs.toList->rh place l parts=some l'->
 ∃Zb,Instr.fill place cs JW=some Zb/\cC G l' Zb.toList
 |[],[],l,l',cs,_,hc,h=>by simp[rh]at h;subst h;exact⟨cs,rfl,hc⟩
 |[],q::vr,l,l',cs,hp,_,_=>by grind
 |p::r,[],l,l',cs,hp,_,_=>by grind
 |(i,av)::r,(i',v)::vr,l,l',cs,hp,hc,h=>by
  have h0:=hp.2 0 (i,av) (i',v) rfl rfl
  simp at h0
  obtain⟨rfl,hv⟩:=h0
  simp[rh,BF]at h
  split at h
  ·grind
  ·rename_i off sz A2
   cases hb:(Nat.beq (cellsOf av).length sz&&Nat.ble (off+sz) l.length&&ca (cellsOf av))with
   |false=>grind
   |true=>
    rw[hb]at h
    simp[cond_true]at h
    simp only[aep]at hb
    obtain⟨⟨jE,ct⟩,HW⟩:=hb
    have jE:=adS jE
    have ct:=Nat.le_of_ble_eq_true ct
    have jT:=nr hv HW
    have cb:v.cells.size=sz:=by rw[<-jE,jT.1];simp
    have hls:l.length=cs.size:=by rw[hc.1];simp
    have kq:((v.cells.zipIdx.foldl (fun cs (p)=>cs.setIfInBounds (off+p.2) p.1) cs).toList)=cs.toList.take off++v.cells.toList++cs.toList.drop (off+v.cells.toList.length):=by
     rw[<-Array.foldl_toList,Array.toList_zipIdx]
     simp_all [Hv]
    have wI:cC G (iQ l off (cellsOf av)) (v.cells.zipIdx.foldl (fun cs (p)=>cs.setIfInBounds (off+p.2) p.1) cs).toList:=by
     rw[kq]
     exact hc.iQ jT off (by omega)
    obtain⟨Zb,h1,h2⟩:=ss place r vr _ l' _ ⟨by grind,fun j p q YH Ta=>hp.2 (j+1) p q (by grind) (by simpa using Ta)⟩ wI h
    refine⟨Zb,?_,h2⟩
    simp[Instr.fill,A2,cb]
    grind
end
theorem oi.rel{ρ':Nat->AV}{κ':Nat->az}{g:dY}{a:Act}{w:World}{G:Gh}(ak:cA g n ρ' κ' a w G)(aY:gd=true):
 ∀{l:List (Nat×Operand)} {r:List (Nat×AV)},oi ρ κ gd l r->(∀p,p∈l->Jz ρ ρ' κ κ' p.2)->
  (r.length=(l.map fun p=>(p.1,a.eval p.2)).length/\∀(j:Nat) (p:Nat×AV) (q:Nat×Value),r[j]?=some p->(l.map fun p=>(p.1,a.eval p.2))[j]?=some q->p.1=q.1/\aI G p.2 q.2)
 |[],[],_,_=>⟨rfl,by simp⟩
 |[],_::_,h,_=>h.elim
 |_::_,[],h,_=>h.elim
 |(i,x)::l,(j,v)::r,⟨wX,hv,h⟩,aA=>by
  obtain⟨h1,h2⟩:=oi.rel ak aY h (fun p hp=>aA p (by grind))
  refine⟨by grind,fun jj p q hp hq=>?_⟩
  cases jj with
  |zero=>simp at hp hq;subst hp;subst hq;exact⟨wX.symm,(hv ρ' κ' (aA (i,x) (by simp)) g n a w G ak aY)⟩
  |succ jj=>grind
theorem Hw{w:World}(fs:List Field)(h:∀f,f∈fs->∃j,P.info? f.type=some j):((fs.toArray.mapM fun f=>do pure (f.offset,<-sizeOf f.type)):Sem (Array (Nat×Nat))).run P w=.ok (fs.map fun f=>(f.offset,match P.info? f.type with|some j=>j.size|none=>0)).toArray w:=by
 have key:∀(l:List Field),(∀f,f∈l->∃j,P.info? f.type=some j)->((l.mapM fun f=>do pure (f.offset,<-sizeOf f.type)):Sem _).run P w=.ok (l.map fun f=>(f.offset,match P.info? f.type with|some j=>j.size|none=>0)) w:=by
  intro l
  induction l with
  |nil=>simp_all
  |cons f r ih=>
   simp_all [jZ,List.map_cons]
 simp_all
theorem Sf(hT:fD P T){t:Nat}{parts:Array (Nat×Operand)}{l:List (Nat×AV)}{cs:List AV}(hg:b9 ρ ops o.guard=some gd)(ho:o.op=.build t parts)(b8:(nth T t).ok=true)
 (hp:oi ρ κ gd parts.toList l) (km:rh (fun i=>(nth T t).fields[i]?) (eP (nth T t).zero) l=some cs) (ac5:Nat.beq (nth T t).kind 9=true) (hk:bl n o gd nx k (.agg cs) []):Good P C ops n o nx ρ κ k:=by
 obtain⟨ti,u,z,tf⟩:=hT.facts b8
 have hu:∃fs,u=.struct fs:=by
  have h1:=tf.kind
  rw[adS ac5]at h1
  cases u<;>simp[kindOf]at h1
  grind
 obtain⟨fs,rfl⟩:=hu
 refine bB (fun c=>by grind) hg hk fun ρ' κ' aA g a w G ak aY=>?_
 have IG:=fun p YH=>aA.op (by
  rw[ho]
  simp only[Op.operands,List.mem_toArray,aeg]
  exact⟨p,YH,rfl⟩)
 have hz:=by
  exact jw (ey (M:=G.M) tf.zc).1
 obtain⟨Zb,h3,h4⟩:=ss _ l _ _ cs z.cells (hp.rel ak aY IG) hz km
 have ac6:=by
  have:=aI.agg cs Zb.toList h4.1 h4.2
  omega
 refine⟨.agg Zb,?_,ac6⟩
 ·have A2:((fs.mapM fun f=>do pure (f.offset,<-sizeOf f.type)):Sem _).run P w=.ok (nth T t).fields.toArray w:=by
   have:=Hw (w:=w) fs.toList (fun f hf=>by
    have:=tf.fin
    simp only[yU,aed]at this
    exact Option.isSome_iff_exists.1 (this f hf))
   rw[this,tf.fields]
   rfl
  simp[execOp,ho,Instr.build,Sem.run_bind,tf.tO w,run_underlying tf.Cv,A2]
  simp_all
end
end
section
open Go.RowKit
variable [cq]
theorem qM{i j sz:Nat}(hj:j<sz):(i*sz+j)/sz=i/\(i*sz+j)%sz=j:=by
 grind [Nat.mul_comm,Nat.mul_add_div,Nat.div_eq_of_lt,Nat.mul_add_mod,Nat.mod_eq_of_lt]
theorem qd{i j n sz:Nat}(hi:i<n)(hj:j<sz):i*sz+j<n*sz:=by
 have:(i+1)*sz<=n*sz:=aej _ hi
 grind
def vm(w:World)(v:Value)(sz:Nat)(l:List DV)(R:Nat->Nat->DV->Value->Prop):Prop:=
 (l=[]/\v=.slice none 0 0)\/
 ∃g o cap c t,v=.slice (some ⟨g,o,none⟩) l.length cap/\l.length<=cap/\w.heap[g]?=some (.cells c t (0,0))/\o+cap*sz<=c.size/\
  ∀(i:Nat) (x:DV),l[i]?=some x->x.cells.length=sz/\∀(j:Nat) (d:DV),x.cells[j]?=some d->d.ao=true/\∃u,c[o+i*sz+j]?=some u/\R i j d u
theorem gS{M:Mem}{w:World}{v:Value}{hc:PS->Option Value}{sz:Nat}{l:List DV}:cI M w v hc (.aD sz l)↔vm w v sz l fun i j d u=>dB M (hc (.el i j)) d u:=Iff.rfl
def qe(w:World)(v:Value)(sz:Nat)(l:List DV)(S:Nat->Nat->DV->Value->Prop):Prop:=
 (∃c,v=.slice none 0 c/\l=[])\/
 ∃(A:Addr) (cap:Nat) (cell:Nat->Nat->Value),v=.slice (some A) l.length cap/\∀(i:Nat) (x:DV),l[i]?=some x->x.cells.length=sz/\
  ∀(j:Nat) (d:DV),x.cells[j]?=some d->d.ao=true/\w.cell? (A.add (i*sz+j))=some (cell i j)/\(cell i j).oneCell'=true/\S i j d (cell i j)
section
variable {w:World}
theorem qe.ab1{M:Mem}{sz:Nat}{l:List DV}{v:Value}(dr:M.In w)(h:bu M (.sl sz l) v):qe w v sz l fun _ _ d u=>bu M d u:=by
 cases h with
 |slnil=>exact .inl ⟨0,rfl,rfl⟩
 |sl _ _ A cap cell eU hlen hc hr=>
  refine .inr ⟨A,cap,cell,rfl,fun i x hx=>?_⟩
  have hm:=hlen x (adR hx)
  refine⟨hm.1,fun j d hd=>⟨hm.2 d (adR hd),dr.cell (hc i j (adP.1 hx).1 ?_),(hr i x j d hx hd).cU (hm.2 d (adR hd)),hr i x j d hx hd⟩⟩
  grind
theorem qe.Sg{sz:Nat}{l:List DV}{v:Value}{R:Nat->Nat->DV->Value->Prop}(h:vm w v sz l R)(h1:∀i j d u,R i j d u->d.ao=true->u.oneCell'=true):qe w v sz l R:=by
 rcases h with⟨rfl,rfl⟩|⟨g,o,cap,c,t,rfl,eU,hw,cb,Ev⟩
 ·exact .inl ⟨0,rfl,rfl⟩
 ·refine .inr ⟨⟨g,o,none⟩,cap,fun i j=>c.getD (o+i*sz+j) undef,rfl,fun i x hx=>?_⟩
  obtain⟨a1,a2⟩:=Ev i x hx
  refine⟨a1,fun j d hd=>?_⟩
  obtain⟨b1,u,hu,hr⟩:=a2 j d hd
  have e:c.getD (o+i*sz+j) undef=u:=by simp_all
  grind [fe,World.cell?,undef]
theorem qe.mono{sz:Nat}{l l':List DV}{v:Value}{S S':Nat->Nat->DV->Value->Prop}(h:qe w v sz l S)(hl:l.length=l'.length)
 (hx:∀(i:Nat) (x y:DV),l[i]?=some x->l'[i]?=some y->x.cells.length=y.cells.length/\∀(j:Nat) (d e:DV) (u:Value),x.cells[j]?=some d->y.cells[j]?=some e->d.ao=true->S i j d u->e.ao=true/\S' i j e u):qe w v sz l' S':=by
 rcases h with⟨c,rfl,rfl⟩|⟨A,cap,cell,rfl,hh⟩
 ·exact .inl ⟨c,rfl,by simpa using hl.symm⟩
 ·refine .inr ⟨A,cap,cell,by grind,fun i y hy=>?_⟩
  have hi:i<l.length:=by grind
  obtain⟨a1,a2⟩:=hh i _ (ace hi)
  obtain⟨b1,b2⟩:=hx i _ y (ace hi) hy
  refine⟨by omega,fun j e he=>?_⟩
  have hj:j<l[i].cells.length:=by grind
  obtain⟨c1,c2,c3,c4⟩:=a2 j _ (ace hj)
  obtain⟨d1,d2⟩:=b2 j _ e _ (ace hj) he c1 c4
  exact⟨d1,c2,c3,d2⟩
def fk(sz n:Nat)(cell:Nat->Nat->Value):List Value:=(List.range (n*sz)).map fun q=>cell (q/sz) (q%sz)
theorem jI(sz n:Nat)(cell:Nat->Nat->Value):(fk sz n cell).length=n*sz:=by simp[fk]
theorem ns{sz n i j:Nat}(cell:Nat->Nat->Value)(hi:i<n)(hj:j<sz):(fk sz n cell)[i*sz+j]?=some (cell i j):=by
 grind [qM,fk,qd]
theorem vn{P:Program}(t ty e:TypeId)(i:TypeInfo)(ht:P.underlying t=some (.slice e))(hi:P.info? e=some i)
 (g o JX Zc:Nat) (cur:Array Value) (tt:TypeId) (hg:w.heap[g]?=some (.cells cur tt (0,0)))
 (a:Addr) (m c:Nat) (news:List Value) (hl:news.length=m*i.size) (B0:∀j u,news[j]?=some u->w.cell? (a.add j)=some u) (h1:∀u∈news,u.oneCell'=true)
 (Hx:JX+m<=Zc) (cY:o+JX*i.size+news.length<=cur.size):
 (Builtin.append_ #[t,t] ty #[.slice (some ⟨g,o,none⟩) JX Zc,.slice (some a) m c]).run P w=
  .ok (.slice (some ⟨g,o,none⟩) (JX+m) Zc) (w.setRow g (cur.toList.take (o+JX*i.size)++news++cur.toList.drop (o+JX*i.size+news.length)).toArray):=by
 have ak:=run_storeCells_at P g (o+JX*i.size) tt news 0 cur w hg (by grind) h1
 simp[Nat.add_zero]at ak
 simp[Builtin.append_,run_underlying ht,sizeOf,typeInfo,hi,Builtin.lenOf,Hx,(run_firstCells_some (P:=P) w i.size m a m c news hl B0),fe,ak]
def tW(n:Nat)(R S:Nat->Nat->DV->Value->Prop):Nat->Nat->DV->Value->Prop:=fun i j d u=>if i<n then R i j d u else S (i-n) j d u
def LL(w:World)(v v':Value)(w':World)(zs:List DV):Prop:=∀a n,v=.slice (some a) n n->zs≠[]->(∀b,b<w.heap.size->w'.heap[b]?=w.heap[b]?)/\∀b,cR v'=some b->w.heap.size<=b
theorem zM{P:Program}{t ty e:TypeId}{ti:TypeInfo}{z:Value}(ht:P.underlying t=some (.slice e))(hi:P.info? e=some ti)(hz:ti.zero=some z)(Z5:z.cells.size=ti.size)(du:0<ti.size)
 {v sv:Value} {xs zs:List DV} {R S:Nat->Nat->DV->Value->Prop} (tS:vm w v ti.size xs R) (lA:qe w sv ti.size zs S)
 (EC:xs.length+zs.length<=9223372036854775807) (Az:(xs.length+zs.length)*ti.bytes<=140737488355328):
 ∃v' w',(Builtin.append_ #[t,t] ty #[v,sv]).run P w=.ok v' w'/\vm w' v' ti.size (xs++zs) (tW xs.length R S)/\w.grownBy w' (cR v)/\(∀b,cR v'=some b->w.heap.size<=b\/cR v=some b)/\v'.oneCell'=true/\LL w v v' w' zs:=by
 have Sh:∀{c:Array Value} {o:Nat},(∀(i:Nat) (x:DV),xs[i]?=some x->x.cells.length=ti.size/\∀(j:Nat) (d:DV),x.cells[j]?=some d->d.ao=true/\∃u,c[o+i*ti.size+j]?=some u/\R i j d u)->
  ∀(i:Nat) (x:DV),xs[i]?=some x->x.cells.length=ti.size/\∀(j:Nat) (d:DV),x.cells[j]?=some d->d.ao=true/\∃u,c[o+i*ti.size+j]?=some u/\tW xs.length R S i j d u:=by
  intro c o hh i x hx
  obtain⟨a1,a2⟩:=hh i x hx
  refine⟨a1,fun j d hd=>?_⟩
  obtain⟨b1,u,b2,b3⟩:=a2 j d hd
  refine⟨b1,u,b2,?_⟩
  unfold tW
  rwa[if_pos (adP.1 hx).1]
 have oO:zs=[]->(Builtin.append_ #[t,t] ty #[v,sv]).run P w=.ok v w->∃v' w',(Builtin.append_ #[t,t] ty #[v,sv]).run P w=.ok v' w'/\vm w' v' ti.size (xs++zs) (tW xs.length R S)/\w.grownBy w' (cR v)/\(∀b,cR v'=some b->w.heap.size<=b\/cR v=some b)/\v'.oneCell'=true/\LL w v v' w' zs:=by
  rintro rfl hr
  refine⟨v,w,hr,?_,World.grownBy.refl w _,fun b hb=>.inr hb,(by rcases tS with⟨_,rfl⟩|⟨_,_,_,_,_,rfl,_⟩<;>rfl),nofun⟩
  rw[List.append_nil]
  rcases tS with h|⟨g,o,cap,cc,tt,hv,eU,hw,cb,Ev⟩
  ·exact .inl h
  ·exact .inr ⟨g,o,cap,cc,tt,hv,eU,hw,cb,Sh Ev⟩
 rcases lA with⟨c,rfl,yj⟩|⟨A,Si,cell,rfl,cK⟩
 ·refine oO yj ?_
  rcases tS with⟨_,rfl⟩|⟨g,o,cap,cc,tt,rfl,eU,hw,cb,Ev⟩
  ·simp[Builtin.append_,run_underlying ht,sizeOf,typeInfo,hi,Builtin.lenOf,Builtin.firstCells]
  ·simp[Builtin.append_,run_underlying ht,sizeOf,typeInfo,hi,Builtin.lenOf,Builtin.firstCells,eU,storeCells]
 ·obtain⟨m,lW⟩:∃m,m=zs.length:=⟨_,rfl⟩
  rw[<-lW]at EC Az oO⊢
  have hlen:(fk ti.size m cell).length=m*ti.size:=jI _ _ _
  have hq:∀q,q<m*ti.size->q/ti.size<m/\q%ti.size<ti.size/\q=q/ti.size*ti.size+q%ti.size:=fun q hq=>
   ⟨(Nat.div_lt_iff_lt_mul du).2 hq,Nat.mod_lt _ du,by have:=Nat.div_add_mod q ti.size;rw[Nat.mul_comm]at this;exact this.symm⟩
  have B0:∀j u,(fk ti.size m cell)[j]?=some u->w.cell? (A.add j)=some u:=by
   intro q u hu
   obtain⟨h1,h2,h3⟩:=hq q (by rw[<-hlen];exact(adP.1 hu).1)
   obtain⟨hl1,hl3⟩:=cK (q/ti.size) (zs[q/ti.size]'(by omega)) (ace (by omega))
   have:=(hl3 (q%ti.size) _ (ace (by rwa[hl1]))).2.1
   rw[h3]at hu⊢
   rw[ns cell h1 h2]at hu
   rwa[this]
  have Aw:∀u,u∈fk ti.size m cell->u.oneCell'=true:=by
   intro u hu
   obtain⟨q,Ta,rfl⟩:=List.getElem_of_mem hu
   obtain⟨h1,h2,h3⟩:=hq q (by rwa[<-hlen])
   obtain⟨hl1,hl3⟩:=cK (q/ti.size) (zs[q/ti.size]'(by omega)) (ace (by omega))
   have:=(hl3 (q%ti.size) _ (ace (by rwa[hl1]))).2.2.1
   have he:(fk ti.size m cell)[q]=cell (q/ti.size) (q%ti.size):=by simp[fk]
   rwa[he]
  have reads:∀(c':Array Value) (o':Nat),
   (∀(i:Nat) (x:DV),xs[i]?=some x->x.cells.length=ti.size/\∀(j:Nat) (d:DV),x.cells[j]?=some d->d.ao=true/\∃u,c'[o'+i*ti.size+j]?=some u/\R i j d u)->
   (∀q,q<m*ti.size->c'[o'+xs.length*ti.size+q]?=(fk ti.size m cell)[q]?)->
   ∀(i:Nat) (x:DV),(xs++zs)[i]?=some x->x.cells.length=ti.size/\∀(j:Nat) (d:DV),x.cells[j]?=some d->d.ao=true/\∃u,c'[o'+i*ti.size+j]?=some u/\tW xs.length R S i j d u:=by
   intro c' o' hold kq i x hx
   rw[List.getElem?_append]at hx
   split at hx
   ·exact Sh hold i x hx
   ·rename_i jd
    obtain⟨h1,h3⟩:=cK _ x hx
    have ay:i-xs.length<m:=by rw[lW];exact(adP.1 hx).1
    refine⟨h1,fun j d hd=>?_⟩
    have hj:j<ti.size:=by rw[<-h1];exact(adP.1 hd).1
    obtain⟨k1,k2,k3,k4⟩:=h3 j d hd
    refine⟨k1,cell (i-xs.length) j,?_,by unfold tW;rwa[if_neg jd]⟩
    have:=kq ((i-xs.length)*ti.size+j) (qd ay hj)
    rw[ns cell ay hj]at this
    rw[<-this]
    congr 1
    have:i*ti.size=xs.length*ti.size+(i-xs.length)*ti.size:=by rw[<-Nat.add_mul];congr 1;omega
    omega
  by_cases Et:m=0
  ·subst Et
   clear reads Aw B0 hq hlen cK
   refine oO (List.eq_nil_of_length_eq_zero (by omega)) ?_
   clear oO Sh
   rcases tS with⟨_,rfl⟩|⟨g,o,cap,cc,tt,rfl,eU,hw,cb,Ev⟩
   ·simp[Builtin.append_,run_underlying ht,sizeOf,typeInfo,hi,Builtin.lenOf,Builtin.firstCells,loadCells,loadCellsFrom]
   ·simp[Builtin.append_,run_underlying ht,sizeOf,typeInfo,hi,Builtin.lenOf,Builtin.firstCells,eU,storeCells,loadCells,loadCellsFrom]
  ·have Sj:∀(Vp:List Value) (cp:Nat),Vp.length=xs.length*ti.size->xs.length+m<=cp->(∀(i:Nat) (x:DV),xs[i]?=some x->x.cells.length=ti.size/\∀(j:Nat) (d:DV),x.cells[j]?=some d->d.ao=true/\∃u,Vp[i*ti.size+j]?=some u/\R i j d u)->
       vm (w.drew.alloc (.cells (Vp.toArray++(fk ti.size m cell).toArray++Builtin.zeroCells z.cells (cp-(xs.length+m))) e)) (.slice (some ⟨w.heap.size,0,none⟩) (xs.length+m) cp) ti.size (xs++zs) (tW xs.length R S):=by
    intro Vp cp SZ hcp hold
    refine .inr ⟨w.heap.size,0,cp,_,e,by simp[lW],by simpa[lW]using hcp,cE w.drew _,?_,reads _ 0 ?_ ?_⟩
    ·simp only[Array.size_append,List.size_toArray,size_zeroCells,Z5,SZ,hlen,<-Nat.add_mul,Nat.zero_add]
     exact aej _ (by omega)
    ·intro i x hx
     obtain⟨h1,h3⟩:=hold i x hx
     refine⟨h1,fun j d hd=>?_⟩
     obtain⟨k1,u,hu,hr⟩:=h3 j d hd
     refine⟨k1,u,?_,hr⟩
     have ay:=(adP.1 hu).1
     rw[Nat.zero_add,Array.getElem?_append,if_pos (by simp;omega),Array.getElem?_append,if_pos (by simpa using ay)]
     simpa using hu
    ·intro q Ta
     rw[Nat.zero_add,Array.getElem?_append,if_pos (by simp[hlen,SZ];omega),Array.getElem?_append,if_neg (by simp[SZ])]
     simp[SZ]
   rcases tS with⟨rfl,rfl⟩|⟨g,o,cap,cc,tt,rfl,eU,hw,cb,Ev⟩
   ·have hg:=Sj [] (grownCap w m 0 e) (by simp) (by simpa using grownCap_ge w m 0 e) (by simp)
    simp only[List.length_nil,Nat.zero_add,Array.empty_append]at hg
    refine⟨_,_,(run_append_nil w t ty e ti z ht hi hz A m Si (fk ti.size m cell) hlen B0 (by omega) (by simp at EC;omega) (by simp at Az;omega)),by simpa using hg,⟨rfl,rfl,rfl,by simp,fun q hq _=>bE w.drew _ hq⟩,fun b hb=>?_,rfl,nofun⟩
    simp[cR]at hb;exact .inl (by omega)
   ·by_cases Hx:xs.length+m<=cap
    ·have cY:o+xs.length*ti.size+(fk ti.size m cell).length<=cc.size:=by
      rw[hlen]
      have:(xs.length+m)*ti.size<=cap*ti.size:=aej _ Hx
      rw[Nat.add_mul]at this
      omega
     have hr:=vn t ty e ti ht hi g o xs.length cap cc tt hw A m Si (fk ti.size m cell) hlen B0 Aw Hx cY
     refine⟨_,_,hr,.inr ⟨g,o,cap,_,tt,by simp[lW],by simpa[lW]using Hx,setRow_heap w g cc _ tt _ hw,?_,reads _ o ?_ ?_⟩,⟨rfl,rfl,rfl,by simp,fun q _ hq=>setRow_other w g q _ (fun x=>hq (by simp[cR,x]))⟩,fun b hb=>.inr hb,rfl,fun a n e hz=>?_⟩
     ·simp only[List.size_toArray,ad1,ad9,List.length_drop,Array.length_toList]
      omega
     ·intro i x hx
      obtain⟨h1,h3⟩:=Ev i x hx
      refine⟨h1,fun j d hd=>?_⟩
      obtain⟨k1,u,hu,hr⟩:=h3 j d hd
      refine⟨k1,u,?_,hr⟩
      have hj:j<ti.size:=by rw[<-h1];exact(adP.1 hd).1
      have uZ:=qd (adP.1 hx).1 hj
      have Gd:=(ad2.1 hu).1
      simp only[List.getElem?_toArray,aef]
      rw[List.getElem?_append_left (by simp;omega),List.getElem?_take,if_pos (by omega)]
      simpa using hu
     ·intro q Ta
      simp only[List.getElem?_toArray,aef]
      rw[List.getElem?_append_right (by simp;omega),List.getElem?_append_left (by simp;omega)]
      congr 1
      simp;omega
     ·exfalso
      simp only[Value.slice.injEq]at e
      have:=fun h=>hz (List.eq_nil_of_length_eq_zero h)
      omega
    ·have holds:∀j u,((List.range (xs.length*ti.size)).map fun q=>cc.getD (o+q) undef)[j]?=some u->w.cell? ((⟨g,o,none⟩:Addr).add j)=some u:=by
      intro j u hj
      simp only[adQ]at hj
      by_cases ay:j<xs.length*ti.size
      ·simp only[List.getElem?_range ay,Option.map_some]at hj
       injection hj with hj
       have rG:o+j<cc.size:=by
        have:xs.length*ti.size<=cap*ti.size:=aej _ eU
        omega
       rw[fe]
       simp only[World.cell?,hw]
       rw[<-hj]
       simp[rG]
      ·simp[ay]at hj
     have hr:=run_append_grow w t ty e ti z ht hi hz ⟨g,o,none⟩ xs.length cap ((List.range (xs.length*ti.size)).map fun q=>cc.getD (o+q) undef) (by simp) holds A m Si (fk ti.size m cell) hlen B0 (by omega) (by omega) (growslice_fits (by omega) Az)
     have hg:=Sj ((List.range (xs.length*ti.size)).map fun q=>cc.getD (o+q) undef) (grownCap w (xs.length+m) cap e) (by simp) (grownCap_ge w (xs.length+m) cap e) (by
      intro i x hx
      obtain⟨h1,h3⟩:=Ev i x hx
      refine⟨h1,fun j d hd=>?_⟩
      obtain⟨k1,u,hu,hr⟩:=h3 j d hd
      have hj:j<ti.size:=by rw[<-h1];exact(adP.1 hd).1
      have uZ:=qd (adP.1 hx).1 hj
      refine⟨k1,u,?_,hr⟩
      simp only[adQ,List.getElem?_range uZ,Option.map_some]
      rw[show o+(i*ti.size+j)=o+i*ti.size+j by omega,adZ,hu]
      rfl)
     refine⟨_,_,hr,hg,⟨rfl,rfl,rfl,by simp,fun q hq _=>bE w.drew _ hq⟩,fun b hb=>?_,rfl,fun _ _ _ _=>⟨fun b hb=>bE w.drew _ hb,fun b hb=>?_⟩⟩
     ·simp[cR]at hb;exact .inl (by omega)
     ·simp[cR]at hb;omega
end
end
section
open Go.RowKit
variable [cq]
section
variable {w w':World}
theorem bA.sub{M:Mem}{h:List PS->Option Value}{d c:DV}{p:List PS}(ht:bA M w h d)(hp:get d p=some c)(hc:c.au=true):bA M w (fun r=>h (p++r)) c:=by
 refine⟨hc,fun q m hq hm=>?_⟩
 obtain⟨v,h1,h2,h3⟩:=ht.2 _ m (by rwa[get_append,hp]) hm
 simp_all
theorem je.sub{h:List PS->Option Value}{d c:DV}{p:List PS}(hi:je h d)(hp:get d p=some c):je (fun r=>h (p++r)) c:=by
 intro q q' n m u v b e1 e2 e3 e4 f1 f2 f3 f4
 have:=hi _ _ n m u v b (by rwa[get_append,hp]) e2 e3 e4 (by rwa[get_append,hp]) f2 f3 f4
 simp_all
theorem bO.sub{h:List PS->Option Value}{d c:DV}{p:List PS}{b:Nat}(hp:get d p=some c)(ho:bO (fun r=>h (p++r)) c b):bO h d b:=by
 obtain⟨q,m,v,h1,h2,h3,h4⟩:=ho
 exact⟨p++q,m,v,by rwa[get_append,hp],h2,h3,h4⟩
theorem je.j5{h h':List PS->Option Value}{d:DV}(hi:je h d)(hh:∀p n v,get d p=some n->n.au=true->h' p=some v->h p=some v):je h' d:=
 fun p q n m u v b e1 e2 e3 e4 f1 f2 f3 f4=>hi p q n m u v b e1 e2 (hh p n u e1 e2 e3) e4 f1 f2 (hh q m v f1 f2 f3) f4
def Sk:List PS->Option Value
 |[]=>some (.slice none 0 0)
 |_=>none
theorem Eb{sz:Nat}{p:List PS}{m:DV}(h:get (.aD sz []) p=some m):p=[]/\m=.aD sz []:=by
 cases p with
 |nil=>simp[get]at h;grind
 |cons s p=>cases s<;>simp[get,step]at h
theorem zO(M:Mem)(w:World)(sz:Nat):bA M w Sk (.aD sz []):=by
 refine⟨rfl,fun p m hp _=>?_⟩
 obtain⟨rfl,rfl⟩:=Eb hp
 exact⟨_,rfl,rfl,.inl ⟨rfl,rfl⟩⟩
theorem Ec(sz:Nat):je Sk (.aD sz []):=by
 intro p q n m u v b e1 _ _ _ f1 _ _ _
 grind [Eb]
theorem kI{sz b:Nat}(h:bO Sk (.aD sz []) b):False:=by
 obtain⟨p,m,v,h1,_,h3,h4⟩:=h
 obtain⟨rfl,rfl⟩:=Eb h1
 grind [Sk,cR]
def wT(n:Nat)(v:Value)(h hs:List PS->Option Value):List PS->Option Value
 |[]=>some v
 |.el i j::r=>if i<n then h (.el i j::r)else hs (.el (i-n) j::r)
 |s::r=>h (s::r)
inductive Src(M:Mem)(w:World)(x:Value)(sz:Nat)(ys:List DV)(hs:List PS->Option Value):Prop
 |closed (h:qe w x sz ys fun _ _ d u=>d.au=false/\bu M d u) (hn:hs=fun _=>none)
 |tree (ht:bA M w hs (.aD sz ys)) (hi:je hs (.aD sz ys)) (hx:hs []=some x)
theorem dB.cU{M:Mem}{h:Option Value}{d:DV}{u:Value}(r:dB M h d u)(hc:d.ao=true)(ho:d.au=true->∀v,h=some v->v.oneCell'=true):u.oneCell'=true:=by
 rcases r with⟨a,b⟩|⟨a,b⟩
 ·grind
 ·exact b.cU hc
theorem bA.Sl{M:Mem}{h:List PS->Option Value}{d c:DV}{s:PS}(ht:bA M w h d)(hs:step d s=some c)(hc:c.au=true){v:Value}(hv:h [s]=some v):v.oneCell'=true:=by
 obtain⟨u,h1,h2,_⟩:=ht.2 [s] c (by simp[get,hs]) hc
 grind
theorem Src.Zd{M:Mem}{x:Value}{sz:Nat}{ys:List DV}{hs:List PS->Option Value}(h:Src M w x sz ys hs):qe w x sz ys fun i j d u=>d.ao=true/\dB M (hs [.el i j]) d u:=by
 cases h with
 |closed h hn=>
  refine h.mono rfl fun i x' y hx hy=>?_
  rw[hx]at hy;injection hy with hy;subst hy
  refine⟨rfl,fun j d e u hd he Gu hS=>?_⟩
  rw[hd]at he;injection he with he;subst he
  exact⟨Gu,Gu,.inr hS⟩
 |tree ht hi hx=>
  obtain⟨v,h1,h2,h3⟩:=ht.2 [] _ rfl rfl
  rw[hx]at h1;injection h1 with h1;subst h1
  have h4:vm w x sz ys fun i j d u=>d.ao=true/\step (.aD sz ys) (.el i j)=some d/\dB M (hs [.el i j]) d u:=by
   rcases gS.1 h3 with h3|⟨g,o,cap,c,t,a1,a2,a3,a4,a5⟩
   ·exact .inl h3
   ·refine .inr ⟨g,o,cap,c,t,a1,a2,a3,a4,fun i y hy=>⟨(a5 i y hy).1,fun j d hd=>?_⟩⟩
    grind [step]
  refine(qe.Sg h4 fun i j d u hr _=>?_).mono rfl fun i x' y hx hy=>?_
  ·exact hr.2.2.cU hr.1 fun ho v hv=>ht.Sl hr.2.1 ho hv
  grind
theorem mC.length:∀{l r:List DV},mC l r->l.length=r.length
 |[],[],_=>rfl
 |_::_,_::_,h=>by simp[mC.length h.2]
 |[],_::_,h=>h.elim
 |_::_,[],h=>h.elim
theorem mC.at:∀{l r:List DV},mC l r->∀(j:Nat) (d e:DV),l[j]?=some d->r[j]?=some e->(d.au=true/\d=e)\/(d.au=false/\d.Le e)
 |[],[],_,j,d,e,h,_=>by grind
 |a::l,b::r,h,0,d,e,e1,e2=>by
  simp at e1 e2;subst e1;subst e2
  have:=h.1
  grind
 |a::l,b::r,h,j+1,d,e,e1,e2=>by exact mC.at h.2 j d e e1 e2
 |[],_::_,h,_,_,_,_,_=>h.elim
 |_::_,[],h,_,_,_,_,_=>h.elim
theorem bV.length:∀{l r:List DV},bV l r->l.length=r.length
 |[],[],_=>rfl
 |_::_,_::_,h=>by simp[bV.length h.2]
 |[],_::_,h=>h.elim
 |_::_,[],h=>h.elim
theorem bV.at:∀{l r:List DV},bV l r->∀(i:Nat) (x y:DV),l[i]?=some x->r[i]?=some y->mC x.cells y.cells
 |[],[],_,j,d,e,h,_=>by grind
 |a::l,b::r,h,0,d,e,e1,e2=>by simp at e1 e2;subst e1;subst e2;exact h.1
 |a::l,b::r,h,j+1,d,e,e1,e2=>by exact bV.at h.2 j d e e1 e2
 |[],_::_,h,_,_,_,_,_=>h.elim
 |_::_,[],h,_,_,_,_,_=>h.elim
theorem bu.ao{M:Mem}{d:DV}{v:Value}(h:bu M d v)(hv:v.oneCell'=true):d.ao=true:=by
 cases h with
 |agg=>assumption
 |_=>rfl
theorem dB.le{M:Mem}{h:Option Value}{d e:DV}{u:Value}(r:dB M h d u)(hle:(d.au=true/\d=e)\/(d.au=false/\d.Le e))(hc:d.ao=true):e.ao=true/\dB M h e u/\(e.au=true->d=e):=by
 rcases hle with⟨h1,rfl⟩|⟨h1,h2⟩
 ·grind
 ·rcases r with⟨a,b⟩|⟨a,b⟩
  ·grind
  ·have h3:=h2 M u b
   exact⟨h3.ao (b.cU hc),.inr ⟨h3.fo,h3⟩,fun ho=>by rw[h3.fo]at ho;grind⟩
theorem Hy{P:Program}{T:List TI}(hT:fD P T){t ty:TypeId}(b8:(nth T t).ok=true)(gl:(nth T t).isSl=true)(vX:(nth T (nth T t).elem).ok=true)(du:0<(nth T (nth T t).elem).size)
 {M:Mem} {h hs:List PS->Option Value} {l ys zs:List DV} {v x:Value} (ht:bA M w h (.aD (nth T (nth T t).elem).size l)) (hi:je h (.aD (nth T (nth T t).elem).size l)) (hv:h []=some v)
 (lA:Src M w x (nth T (nth T t).elem).size ys hs) (Ze:∀b,bO h (.aD (nth T (nth T t).elem).size l) b->¬bO hs (.aD (nth T (nth T t).elem).size ys) b) (ay:∀b,bO hs (.aD (nth T (nth T t).elem).size ys) b->b<w.heap.size) (hle:bV ys zs)
 (EC:l.length+zs.length<=9223372036854775807) (Az:(l.length+zs.length)*(nth T (nth T t).elem).bytes<=140737488355328):
 ∃v' w',(Builtin.append_ #[t,t] ty #[v,x]).run P w=.ok v' w'/\w.grownBy w' (cR v)/\v'.oneCell'=true/\bA M w' (wT l.length v' h hs) (.aD (nth T (nth T t).elem).size (l++zs))/\je (wT l.length v' h hs) (.aD (nth T (nth T t).elem).size (l++zs))/\
  ∀b,bO (wT l.length v' h hs) (.aD (nth T (nth T t).elem).size (l++zs)) b->bO h (.aD (nth T (nth T t).elem).size l) b\/bO hs (.aD (nth T (nth T t).elem).size ys) b\/w.heap.size<=b:=by
 obtain⟨i,u,z,tf⟩:=hT.facts b8
 obtain⟨te,ue,ze,jh⟩:=hT.facts vX
 generalize cb:(nth T (nth T t).elem).size=sz at*
 have nt:te.size=sz:=by rw[<-cb,jh.size]
 obtain⟨v0,HY,Ae,bq⟩:=ht.2 [] _ rfl rfl
 rw[hv]at HY;injection HY with HY;subst HY
 have hsg:=lA.Zd
 have WK:qe w x sz zs fun i j d u=>d.ao=true/\dB M (hs [.el i j]) d u:=by
  refine hsg.mono hle.length fun i x y hx hy=>?_
  have h1:=hle.at i x y hx hy
  refine⟨h1.length,fun j d e u hd he Gu hS=>?_⟩
  obtain⟨k1,k2,_⟩:=hS.2.le (h1.at j d e hd he) Gu
  grind
 have zP:∀i j e,step (.aD sz zs) (.el i j)=some e->e.au=true->step (.aD sz ys) (.el i j)=some e:=by
  intro i j e he ho
  simp only[step]at he⊢
  split at he
  ·rename_i y hy
   have SO:i<ys.length:=by rw[hle.length];grind
   have hx:=ace SO
   rw[hx]
   have h1:=hle.at i _ y hx hy
   have hd:=ace (by rw[h1.length];exact(adP.1 he).1)
   simp only
   rcases h1.at j _ e hd he with⟨a,b⟩|⟨a,b⟩
   ·grind
   ·-- a closed cell ac7 ac8 an au one:there is a value of it
    rcases hsg with⟨c,_,yj⟩|⟨A,cap,cell,_,cK⟩
    ·grind
    ·obtain⟨_,h3⟩:=cK i _ hx
     obtain⟨_,_,_,h4⟩:=h3 j _ hd
     rcases h4.2 with⟨c1,_⟩|⟨_,c2⟩
     ·grind
     ·rw[(b M _ c2).fo]at ho;grind
  grind
 have Zf:ze.cells.size=te.size:=by
  have:=(ey (M:=M) jh.zc).1.1
  simp at this
  rw[<-this,jh.zl]
 obtain⟨v',w',bH,Hz,jc,hblk,Ed,_⟩:=zM (tf.slice gl) jh.info jh.zero Zf (by grind) (by rw[nt];assumption) (by rwa[nt]) EC (by rwa[<-jh.bytes])
 rw[nt]at Hz
 refine⟨v',w',bH,jc,Ed,?_⟩
 have Sm:∀b,b<w.heap.size->cR v≠some b->w'.heap[b]?=w.heap[b]?:=fun b hb c6=>jc.block b hb (fun e=>c6 e.symm)
 have Zg:cI M w' v' (fun s=>wT l.length v' h hs ([]++[s])) (.aD sz (l++zs)):=by
  refine gS.2 ?_
  rcases Hz with h1|⟨g,o,cap,c,tt,a1,a2,a3,a4,a5⟩
  ·exact .inl h1
  ·refine .inr ⟨g,o,cap,c,tt,a1,a2,a3,a4,fun i x hx=>⟨(a5 i x hx).1,fun j d hd=>?_⟩⟩
   obtain⟨b1,u,b2,b3⟩:=(a5 i x hx).2 j d hd
   refine⟨b1,u,b2,?_⟩
   unfold tW at b3
   simp only[List.nil_append,wT]
   grind
 have ac9:∀i j c,i<l.length->(step (.aD sz (l++zs)) (.el i j)=some c↔step (.aD sz l) (.el i j)=some c):=by
  intro i j c rG
  simp only[step]
  rw[List.getElem?_append_left rG]
 have JY:∀i j c,¬i<l.length->step (.aD sz (l++zs)) (.el i j)=some c->step (.aD sz zs) (.el (i-l.length) j)=some c:=by
  intro i j c jd hc
  simp only[step]at hc⊢
  rwa[List.getElem?_append_right (by omega)]at hc
 have el:∀s c,step (.aD sz (l++zs)) s=some c->∃i j,s=.el i j:=by
  intro s c gB
  cases s with
  |el i j=>exact⟨i,j,rfl⟩
  |key=>simp[step]at gB
 have sub:∀i j c,¬i<l.length->step (.aD sz (l++zs)) (.el i j)=some c->c.au=true->bA M w' (fun r=>hs (.el (i-l.length) j::r)) c/\je (fun r=>hs (.el (i-l.length) j::r)) c/\∀b,bO (fun r=>hs (.el (i-l.length) j::r)) c b->bO hs (.aD sz ys) b:=by
  intro i j c jd hc ho
  have h1:=zP _ _ _ (JY i j c jd hc) ho
  have hg:get (.aD sz ys) [.el (i-l.length) j]=some c:=by simp[get,h1]
  cases lA with
  |closed oq hn=>
   exfalso
   rcases oq with⟨_,_,yj⟩|⟨A,cap,cell,_,cK⟩
   ·subst yj;simp[step]at h1
   ·simp only[step]at h1
    split at h1
    ·rename_i x hx
     obtain⟨_,h3⟩:=cK _ x hx
     have:=(h3 j c h1).2.2.2.1
     rw[ho]at this;cases this
    ·cases h1
  |tree ak hsi hsx=>
   have t1:=ak.sub hg ho
   have t2:∀b,bO (fun r=>hs ([.el (i-l.length) j]++r)) c b->bO hs (.aD sz ys) b:=fun b hb=>hb.sub hg
   exact⟨t1.j5 (Mem.Le.refl _) (fun b hb=>Sm b (ay b (t2 b hb)) fun e=>Ze b ⟨[],_,v,rfl,rfl,hv,e⟩ (t2 b hb)) (fun _ _ _ _ _ q=>q),hsi.sub hg,t2⟩
 have main:=bA.r4 (fun s=>∃i j,s=.el i j/\¬i<l.length) ht hi rfl rfl hv rfl rfl Ed (.inl rfl) Zg
  (fun q hq=>absurd (List.nil_prefix) hq)
  (fun s c gB ho hN=>by
   obtain⟨i,j,rfl⟩:=el s c gB
   by_cases rG:i<l.length
   ·simp_all [List.nil_append,wT,if_pos]
   ·exact absurd ⟨i,j,rfl,rG⟩ hN)
  (fun s c gB ho hN=>by
   obtain⟨i,j,rfl,jd⟩:=hN
   obtain⟨t1,t2,t3⟩:=sub i j c jd gB ho
   have e:(fun r=>wT l.length v' h hs ([]++.el i j::r))=fun r=>hs (.el (i-l.length) j::r):=by funext r;simp only[List.nil_append,wT,if_neg jd]
   rw[e]
   refine⟨t1,t2,fun b hb=>⟨fun ny=>Ze b ny (t3 b hb),fun fp=>?_⟩⟩
   rcases hblk b fp with h5|h5
   ·have:=ay b (t3 b hb);omega
   ·exact Ze b ⟨[],_,v,rfl,rfl,hv,h5⟩ (t3 b hb))
  (fun s s' c c' b j7 Nz Zh lZ NZ hN2 jE ct=>by
   obtain⟨i,j,rfl,jd⟩:=Zh
   obtain⟨i',j',rfl,ab2⟩:=hN2
   have e:∀i j,¬i<l.length->(fun r=>wT l.length v' h hs ([]++.el i j::r))=fun r=>hs (.el (i-l.length) j::r):=fun i j jd=>by funext r;simp only[List.nil_append,wT,if_neg jd]
   rw[e i j jd]at jE
   rw[e i' j' ab2]at ct
   cases lA with
   |closed oq hn=>rw[hn]at jE;obtain⟨_,_,_,_,_,q,_⟩:=jE;cases q
   |tree ak hsi hsx=>
    obtain⟨q,m,u,a1,a2,a3,a4⟩:=jE
    obtain⟨q',m',u',b1,b2,b3,b4⟩:=ct
    have:=hsi (.el (i-l.length) j::q) (.el (i'-l.length) j'::q') m m' u u' b (by simp only[get,(zP _ _ _ (JY i j c jd j7) Nz)];exact a1) a2 a3 a4 (by simp only[get,(zP _ _ _ (JY i' j' c' ab2 lZ) NZ)];exact b1) b2 b3 b4
    injection this with e1 e2
    injection e1 with e1 e3
    have:i=i':=by omega
    rw[this,e3])
  (fun b hb=>by
   rcases hblk b hb with h5|h5
   ·right;intro ho
    obtain⟨p,m,u,a1,a2,a3,a4⟩:=ho
    obtain⟨u',c1,_,c3⟩:=ht.2 p m a1 a2
    rw[a3]at c1;injection c1 with c1;subst c1
    have:=xy c3 a4;omega
   ·exact .inl h5)
  (fun b ho c6=>by
   obtain⟨p,m,u,a1,a2,a3,a4⟩:=ho
   obtain⟨u',c1,_,c3⟩:=ht.2 p m a1 a2
   rw[a3]at c1;injection c1 with c1;subst c1
   exact Sm b (xy c3 a4) c6)
 obtain⟨m1,m2,m3⟩:=main
 refine⟨m1,m2,fun b hb=>?_⟩
 rcases m3 b hb with h1|h1|⟨s,c,s1,s2,⟨i,j,rfl,jd⟩,s4⟩
 ·exact .inl h1
 ·rcases hblk b h1 with h5|h5
  ·exact .inr (.inr h5)
  ·exact .inl ⟨[],_,v,rfl,rfl,hv,h5⟩
 ·have e:(fun r=>wT l.length v' h hs ([]++.el i j::r))=fun r=>hs (.el (i-l.length) j::r):=by funext r;simp only[List.nil_append,wT,if_neg jd]
  rw[e]at s4
  exact .inr (.inl ((sub i j c jd s1 s2).2.2 b s4))
end
end
end Go.TM
