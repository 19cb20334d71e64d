import Derived.Test.YtpbiiigpphehbaaGreatDoorFM7
import Derived.Laws.StructEq
set_option linter.all false
namespace Go.TM
open Go.RowKit
variable [cj]
theorem add_zero'(a:Addr):a.add 0=a:=by simp[Addr.add]
section
variable {P:Program} {C:dO->Prop} {T:List TI} {ops:List Oper} {n:Nat} {o:Oper} {nx:Nat} {ρ:Nat->AV} {κ:Nat->ar} {k:lj->Nat->Prop} {gd:Bool}
theorem EB(hT:eV P T){t:Nat}{x i:Operand}{sz:Nat}{l:List DV}{y:DV}{kd:IntKind}{m:Int}(hg:b5 ρ ops o.guard=some gd)(ho:o.op=.indexAddr t x i)
 (cB:(nth T t).ok=true) (iQ:(nth T t).isSl=true) (tK:(nth T (nth T t).elem).ok=true) (aW:sz=(nth T (nth T t).elem).size)
 (hy:gd=true->0<=m/\l[m.toNat]?=some y) (hk:aT n o gd nx k (.dv (.at y 0)) []) (bO:bC ρ κ gd x (.dv (.sl sz l))) (oV:bC ρ κ gd i (.dv (.int kd m))):Good P C ops n o nx ρ κ k:=by
 obtain⟨ti,u,z,tf⟩:=hT.facts cB
 obtain⟨te,ue,ze,jO⟩:=hT.facts tK
 refine bq (fun c=>by rw[ho];simp) hg hk fun ρ' κ' ax g a w G aj aP=>?_
 have hv:=bO ρ' κ' (ax.op (by rw[ho];simp[Op.operands])) g n a w G aj aP
 have dF:=oV ρ' κ' (ax.op (by rw[ho];simp[Op.operands])) g n a w G aj aP
 generalize hx:a.eval x=v at hv
 generalize hi:a.eval i=vi at dF
 obtain⟨AU,WI⟩:=hy aP
 have au:m.toNat<l.length:=(abA.1 WI).1
 cases dF with|dv dF=>cases dF with|int=>
 cases hv with|dv hv=>cases hv with
 |slnil=>simp at au
 |sl _ _ A cap cell dW hlen hc hr=>
  have dr:0<=m/\m<(l.length:Int):=⟨AU,by omega⟩
  refine⟨.pointer (some (A.add (m.toNat*sz))),?_,?_⟩
  ·have wm:=jO.fL w
   rw[<-aW]at wm
   simp[execOp,ho,hx,hi,Instr.indexAt,run_underlying (tf.slice iQ),asIntOf,dr,wm]
  ·have:=bz.at (M:=G.M) y 0 (A.add (m.toNat*sz)) (fun j=>cell m.toNat j) (hlen y (abC WI)).2
    (fun j hj=>by rw[cG];exact hc _ _ au (by rw[(hlen y (abC WI)).1]at hj;exact hj))
    (fun j d hd=>hr _ y j d WI hd)
   rw[add_zero']at this
   exact .dv this
theorem nG(hT:eV P T){t:Nat}{x i:Operand}{av Z7:AV}{kd:IntKind}{m:Int}(hg:b5 ρ ops o.guard=some gd)(ho:o.op=.indexAddr t x i)
 (cB:(nth T t).ok=true) (Em:(nth T t).kind=10) (tK:(nth T (nth T t).elem).ok=true) (hm:gd=true->0<=m/\m<(nth T t).len)
 (hk:aT n o gd nx k Z7 []) (bO:bC ρ κ gd x av) (oV:bC ρ κ gd i (.dv (.int kd m)))
 (hp:∀(G:Gh) (v:Value),aH G av v->∃a,v=.pointer (some a)/\aH G Z7 (.pointer (some (a.add (m.toNat*(nth T (nth T t).elem).size))))):Good P C ops n o nx ρ κ k:=by
 obtain⟨ti,u,z,tf⟩:=hT.facts cB
 obtain⟨te,ue,ze,jO⟩:=hT.facts tK
 refine bq (fun c=>by rw[ho];simp) hg hk fun ρ' κ' ax g a w G aj aP=>?_
 have hv:=bO ρ' κ' (ax.op (by rw[ho];simp[Op.operands])) g n a w G aj aP
 have dF:=oV ρ' κ' (ax.op (by rw[ho];simp[Op.operands])) g n a w G aj aP
 generalize hi:a.eval i=vi at dF
 cases dF with|dv dF=>cases dF with|int=>
 obtain⟨p,hp,Ri⟩:=hp _ _ hv
 refine⟨_,?_,Ri⟩
 have hu:P.underlying t=some (.array (nth T t).len (nth T t).elem):=by
  have h1:=tf.kind
  rw[Em]at h1
  have h2:=tf.len
  have h3:=tf.elem
  rw[tf.AJ]
  cases u<;>simp[kindOf]at h1
  simp[lenOf]at h2
  simp[Nf]at h3
  rw[h2,h3]
 have dr:=hm aP
 simp[execOp,ho,hp,hi,Instr.indexAt,run_underlying hu,asIntOf,Instr.sureAddr,dr,jO.fL w]
theorem Co(hT:eV P T){t:Nat}{x i:Operand}{id ver ep bY sz:Nat}{p:List PS}{d:DV}{l:List DV}{kd:IntKind}{m:Int}(hg:b5 ρ ops o.guard=some gd)(ho:o.op=.indexAddr t x i)
 (cB:(nth T t).ok=true) (iQ:(nth T t).isSl=true) (tK:(nth T (nth T t).elem).ok=true) (aW:sz=(nth T (nth T t).elem).size) (hb:κ id=.tree ver bY d) (dG:p=[]\/ep=bY) (dh:gd=true->get d p=some (.aB sz l))
 (hy:gd=true->0<=m/\m<l.length) (hk:aT n o gd nx k (.loc id ver ep p sz m.toNat 0) [id]) (bO:bC ρ κ gd x (.own id ver ep p)) (oV:bC ρ κ gd i (.dv (.int kd m))):Good P C ops n o nx ρ κ k:=by
 obtain⟨ti,u,z,tf⟩:=hT.facts cB
 obtain⟨te,ue,ze,jO⟩:=hT.facts tK
 refine bq (fun c=>by rw[ho];simp) hg hk fun ρ' κ' ax g a w G aj aP=>?_
 have hv:=bO ρ' κ' (ax.op (by rw[ho];simp[Op.operands])) g n a w G aj aP
 have dF:=oV ρ' κ' (ax.op (by rw[ho];simp[Op.operands])) g n a w G aj aP
 generalize hx:a.eval x=v at hv
 generalize hi:a.eval i=vi at dF
 obtain⟨AU,WI⟩:=hy aP
 have eu:κ' id=.tree ver bY d:=(ax.reads id (by simp)).trans hb
 obtain⟨u,h1,_,bn⟩:=aj.fit.node eu (dh aP) rfl
 cases dF with|dv dF=>cases dF with|int=>
 cases hv with
 |own _ _ _ _ _ hh hc=>
  have WV:=hh
  rw[cR dG,h1]at hh
  injection hh with hh
  subst hh
  rcases bn with⟨rfl,_⟩|⟨gb,ob,cap,cc,tt,rfl,dW,hw,aan,DU⟩
  ·simp at WI;omega
  ·have dr:0<=m/\m<(l.length:Int):=⟨AU,WI⟩
   refine⟨.pointer (some ((⟨gb,ob,none⟩:Addr).add (m.toNat*sz))),?_,?_⟩
   ·have wm:=jO.fL w
    rw[<-aW]at wm
    simp[execOp,ho,hx,hi,Instr.indexAt,run_underlying (tf.slice iQ),asIntOf,dr,wm]
   ·have:=aH.loc (G:=G) id ver ep p sz m.toNat 0 _ _ _ WV
    rwa[Nat.add_zero]at this
theorem Cp(hT:eV P T){t:Nat}{x i:Operand}{id len:Nat}{kd:IntKind}{m:Int}(hg:b5 ρ ops o.guard=some gd)(ho:o.op=.indexAddr t x i)
 (cB:(nth T t).ok=true) (iQ:(nth T t).isSl=true) (tK:(nth T (nth T t).elem).ok=true)
 (hy:gd=true->0<=m/\m<len) (hk:aT n o gd nx k (.ptr id (m.toNat*(nth T (nth T t).elem).size)) []) (bO:bC ρ κ gd x (.sle id len)) (oV:bC ρ κ gd i (.dv (.int kd m))):Good P C ops n o nx ρ κ k:=by
 obtain⟨ti,u,z,tf⟩:=hT.facts cB
 obtain⟨te,ue,ze,jO⟩:=hT.facts tK
 refine bq (fun c=>by rw[ho];simp) hg hk fun ρ' κ' ax g a w G aj aP=>?_
 have hv:=bO ρ' κ' (ax.op (by rw[ho];simp[Op.operands])) g n a w G aj aP
 have dF:=oV ρ' κ' (ax.op (by rw[ho];simp[Op.operands])) g n a w G aj aP
 generalize hx:a.eval x=v at hv
 generalize hi:a.eval i=vi at dF
 have dr:=hy aP
 cases dF with|dv dF=>cases dF with|int=>
 cases hv with
 |sle _ _ b hb=>
  refine⟨.pointer (some ((⟨b,0,none⟩:Addr).add (m.toNat*(nth T (nth T t).elem).size))),?_,?_⟩
  ·have wm:=jO.fL w
   simp[execOp,ho,hx,hi,Instr.indexAt,run_underlying (tf.slice iQ),asIntOf,dr,wm]
  ·rw[eL,Nat.zero_add];exact .ptr _ _ b hb
theorem Cq(hT:eV P T){t:Nat}{x i:Operand}{id ver ep sz lo len:Nat}{p:List PS}{kd:IntKind}{m:Int}(hg:b5 ρ ops o.guard=some gd)(ho:o.op=.indexAddr t x i)
 (cB:(nth T t).ok=true) (iQ:(nth T t).isSl=true) (tK:(nth T (nth T t).elem).ok=true) (aW:sz=(nth T (nth T t).elem).size)
 (hy:gd=true->0<=m/\m<len) (hk:aT n o gd nx k (.loc id ver ep p sz (lo+m.toNat) 0) []) (bO:bC ρ κ gd x (.pre id ver ep p sz lo len)) (oV:bC ρ κ gd i (.dv (.int kd m))):Good P C ops n o nx ρ κ k:=by
 obtain⟨ti,u,z,tf⟩:=hT.facts cB
 obtain⟨te,ue,ze,jO⟩:=hT.facts tK
 refine bq (fun c=>by rw[ho];simp) hg hk fun ρ' κ' ax g a w G aj aP=>?_
 have hv:=bO ρ' κ' (ax.op (by rw[ho];simp[Op.operands])) g n a w G aj aP
 have dF:=oV ρ' κ' (ax.op (by rw[ho];simp[Op.operands])) g n a w G aj aP
 generalize hx:a.eval x=v at hv
 generalize hi:a.eval i=vi at dF
 have dr:=hy aP
 cases dF with|dv dF=>cases dF with|int=>
 cases hv with
 |pre _ _ _ _ _ _ _ q c hh=>
  obtain⟨A,N,c',hq,rfl⟩:=hh (by omega)
  refine⟨.pointer (some ((A.add (lo*sz)).add (m.toNat*sz))),?_,?_⟩
  ·have wm:=jO.fL w
   rw[<-aW]at wm
   simp[execOp,ho,hx,hi,Instr.indexAt,run_underlying (tf.slice iQ),asIntOf,dr,wm]
  ·rw[cG,<-Nat.add_mul]
   have:=aH.loc (G:=G) id ver ep p sz (lo+m.toNat) 0 _ _ _ hq
   rwa[Nat.add_zero]at this
theorem ri(hT:eV P T){t:Nat}{x:Operand}{c:Call}{av:AV}{m:Int}{rd:List Nat}(hg:b5 ρ ops o.guard=some gd)(ho:o.op=.call c)(hc:c.callee=.builtin .len)(ha:c.args.toList=[x])(jN:c.argTypes.toList=[t])
 (hk:aT n o gd nx k (.dv (.int .i64 m)) rd) (bO:bC ρ κ gd x av) (cB:(nth T t).ok=true)
 (hp:gd=true->∀κ',(∀i,i∈rd->κ' i=κ i)->∀(G:Gh) (w:World) (v:Value),Fit G w κ'->aH G av v->
  ((nth T t).isSl=true/\∃p l c,v=.slice p l c/\(l:Int)=m)\/((nth T t).isStr=true/\∃s,v=.string s/\(s.size:Int)=m)\/
  (Nat.beq (nth T t).kind 6=true/\∃b es clock,v=.map (some b)/\w.heap[b]?=some (.map es clock)/\(es.size:Int)=m)):Good P C ops n o nx ρ κ k:=by
 have bW:c.args=#[x]:=Array.ext' (by simpa using ha)
 have GO:c.argTypes=#[t]:=Array.ext' (by simpa using jN)
 refine bq (fun c=>by rw[ho];simp) hg hk fun ρ' κ' ax g a w G aj aP=>?_
 have hv:=bO ρ' κ' (ax.op (by rw[ho];simp[Op.operands,Call.operands,hc,bW])) g n a w G aj aP
 refine⟨.int .i64 m,?_,.dv (.int _ _)⟩
 obtain⟨ti,u,z,tf⟩:=hT.facts cB
 rcases hp aP κ' ax.reads G w _ aj.fit hv with⟨iQ,p,l,cc,OP,hm⟩|⟨iQ,s,OP,hm⟩|⟨hmk,b,es,clock,OP,hw,hm⟩
 ·simp[execOp,ho,resolve,hc,bW,GO,invoke,builtin,Builtin.len_,run_underlying (tf.slice iQ),OP,goInt,hm]
 ·simp[execOp,ho,resolve,hc,bW,GO,invoke,builtin,Builtin.len_,run_underlying (tf.string iQ),OP,goInt,hm]
 ·have hu:∃kt et,P.underlying t=some (.map kt et):=by
   have h1:=tf.kind
   rw[abD hmk]at h1
   cases u<;>simp[kindOf]at h1
   exact⟨_,_,tf.AJ⟩
  obtain⟨kt,et,hu⟩:=hu
  simp[execOp,ho,resolve,hc,bW,GO,invoke,builtin,Builtin.len_,run_underlying hu,OP,goInt,hm,MapKept.run_getObj_map hw]
theorem gI{w:World}{t e:TypeId}(hu:P.underlying t=some (.slice e))(a:Option Addr)(l c:Nat):(Op.equal t (.slice a l c) (.slice none 0 0)).run P w=.ok a.isNone w:=by
 have h:∀d,(Op.equalIn (d+1) t (.slice a l c) (.slice none 0 0)).run P w=.ok a.isNone w:=fun d=>by
  cases a<;>simp[Op.equalIn,run_underlying hu]
 simp only[Op.equal,Op.maxDepth,h 9999]
theorem WJ{b:Bool}{p:Prop}(h:bif b then p else False):b=true/\p:=by
 cases b with
 |false=>exact h.elim
 |true=>exact⟨rfl,h⟩
theorem DP{κ:Nat->ar}{gd:Bool}{a:AV}{k:Option Bool->List Nat->Prop}(h:zH κ gd a k):∃c rd,k c rd/\(gd=true->∀κ',(∀i,i∈rd->κ' i=κ i)->∀(G:Gh) (w:World) (v:Value),Fit G w κ'->aH G a v->∃p l cc,v=.slice p l cc/\∀b,c=some b->p.isNone=b):=by
 unfold zH at h
 split at h
 ·refine⟨_,_,h,fun _ κ' _ G w v _ hv=>?_⟩
  cases hv with|dv hv=>cases hv with|az=>exact⟨_,_,_,rfl,fun b hb=>by injection hb⟩
 ·rcases h with h|⟨hl,h⟩
  ·refine⟨_,_,h,fun _ κ' _ G w v _ hv=>?_⟩
   cases hv with|dv hv=>cases hv with
   |slnil=>exact⟨_,_,_,rfl,fun b hb=>by cases hb⟩
   |sl=>exact⟨_,_,_,rfl,fun b hb=>by cases hb⟩
  ·refine⟨_,_,h,fun _ κ' _ G w v _ hv=>?_⟩
   cases hv with|dv hv=>cases hv with
   |slnil=>exact absurd rfl hl
   |sl=>exact⟨_,_,_,rfl,fun b hb=>by injection hb⟩
 ·rename_i i ver ep p
  split at h
  ·rename_i aY bY d hk
   have hh:=WJ h;clear h;obtain⟨hb,h⟩:=hh
   obtain⟨rfl,dG⟩:=dA hb
   obtain⟨nd,h,dh⟩:=bU h
   split at h
   ·rename_i sz l
    have key:gd=true->∀κ',(∀j,j∈[i]->κ' j=κ j)->∀(G:Gh) (w:World) (v:Value),Fit G w κ'->aH G (.own i ver ep p) v->∃q m cc,v=.slice q m cc/\(l≠[]->q.isNone=false):=by
     intro aP κ' ax G w v hf hv
     have fP:=(ax i (by simp)).trans hk
     obtain⟨u,e1,e2,e3⟩:=hf.node fP (dh aP) rfl
     cases hv with|own _ _ _ _ _ hh hc=>
     rw[cR dG]at hh
     rw[hh]at e1;injection e1 with e1;subst e1
     rcases e3 with⟨ra,hx⟩|⟨gb,o,cap,c,tt,hx,_⟩
     ·exact⟨_,_,_,hx,fun hl=>absurd ra hl⟩
     ·exact⟨_,_,_,hx,fun _=>rfl⟩
    rcases h with h|⟨hl,h⟩
    ·refine⟨_,_,h,fun aP κ' ax G w v hf hv=>?_⟩
     obtain⟨q,m,cc,e,_⟩:=key aP κ' ax G w v hf hv
     exact⟨q,m,cc,e,fun b hb=>by cases hb⟩
    ·refine⟨_,_,h,fun aP κ' ax G w v hf hv=>?_⟩
     obtain⟨q,m,cc,e,e2⟩:=key aP κ' ax G w v hf hv
     exact⟨q,m,cc,e,fun b hb=>by injection hb with hb;rw[e2 hl,hb]⟩
   ·exact h.elim
  ·exact h.elim
 ·refine⟨_,_,h,fun _ κ' _ G w v _ hv=>?_⟩
  cases hv with|cq _ _ a m hh=>exact⟨_,_,_,rfl,fun b hb=>by injection hb⟩
 ·exact h.elim
theorem U5{α:Type}{b:Bool}{x:Option α}{y:α}(h:(bif b then x else none)=some y):b=true/\x=some y:=by cases b<;>simp_all
theorem GD{G:Gh}{w:World}{x y:AV}{u v:Value}{e:Bool}{f:TypeId}{k D:Nat}(hp:rM (P.underlying f)=k)(h:DN k x y=some e)(hx:aH G x u)(hy:aH G y v):
 (Op.equalIn (D+1) f u v).run P w=.ok e w:=by
 unfold DN at h
 split at h
 ·rename_i kk a k' b
  cases hk:kk==k' with
  |false=>rw[hk]at h;cases h
  |true=>
   rw[hk]at h
   have AL:kk=k':=by simpa using hk
   subst AL
   injection h with h;subst h
   cases hx with|dv hx=>cases hx with|int=>cases hy with|dv hy=>cases hy with|int=>
   obtain⟨q,hq⟩:∃q,P.underlying f=some (.int q):=by
    unfold rM at hp
    split at hp<;>first|(cases hp;done)|exact⟨_,by assumption⟩
   exact run_equalIn_int w D f kk q a b hq
 ·rename_i a b
  injection h with h;subst h
  cases hx with|dv hx=>cases hx with|bool=>cases hy with|dv hy=>cases hy with|bool=>
  have hq:P.underlying f=some .bool:=by
   unfold rM at hp
   split at hp<;>first|(cases hp;done)|assumption
  exact run_equalIn_bool w D f a b hq
 ·rename_i a b
  injection h with h;subst h
  cases hx with|dv hx=>cases hx with|str=>cases hy with|dv hy=>cases hy with|str=>
  have hq:P.underlying f=some .string:=by
   unfold rM at hp
   split at hp<;>first|(cases hp;done)|assumption
  exact run_equalIn_string w D f a b hq
 ·cases h
theorem tG{w:World}{e:TypeId}{k:Nat}(he:rM (P.underlying e)=k+1){xs:Array Value}{off:Nat}{v:Value}(hx:xs[off]?=some v):(part e xs off).run P w=.ok v w:=by
 unfold rM at he
 split at he
 ·rename_i k hu;simp[part,isAgg,run_underlying hu,hx]
 ·rename_i hu;simp[part,isAgg,run_underlying hu,hx]
 ·rename_i hu;simp[part,isAgg,run_underlying hu,hx]
 ·cases he
theorem tH{G:Gh}{w:World}{xs ys:Array Value}{D:Nat}:∀(fs:List Field) (i:Nat) (q:List Nat) (l r:List AV) (e:Bool),y3 P i fs=some q->jl q l r=some e->
 (∀(j:Nat) (d:AV),l[j]?=some d->∃u,xs[i+j]?=some u/\aH G d u)->(∀(j:Nat) (d:AV),r[j]?=some d->∃u,ys[i+j]?=some u/\aH G d u)->
 (Op.eqFields (D+1) xs ys fs).run P w=.ok e w
 |[],i,q,l,r,e,hp,he,hx,hy=>by
  simp only[y3,Option.some.injEq]at hp
  subst hp
  cases l<;>cases r<;>simp[jl]at he
  subst he;simp[Op.eqFields]
 |f::fs,i,q,l,r,e,hp,he,hx,hy=>by
  simp only[y3]at hp
  have hh:=U5 hp;clear hp;obtain⟨hb,hp⟩:=hh
  simp only[aca,bne_iff_ne]at hb
  obtain⟨n1,o1⟩:=hb
  have o1:=abD o1
  split at hp
  ·rename_i k q' hk GJ
   injection hp with hp;subst hp
   cases l with
   |nil=>cases r<;>simp[jl]at he
   |cons x l=>cases r with
    |nil=>simp[jl]at he
    |cons y r=>
     simp only[jl]at he
     split at he
     ·rename_i a b ha hb
      injection he with he;subst he
      obtain⟨u,hu,SA⟩:=hx 0 x rfl
      obtain⟨v,hv,Xa⟩:=hy 0 y rfl
      have h1:=GD (w:=w) (D:=D) hk ha SA Xa
      simp only[Op.eqFields,n1,ne_eq,not_false_eq_true,if_true,Sem.run_bind,o1]
      rw[tG hk (by simpa using hu)]
      simp only[Result.andThen_ok]
      rw[tG hk (by simpa using hv)]
      simp only[Result.andThen_ok,h1]
      cases a with
      |false=>simp
      |true=>
       simp only[Bool.not_true,Bool.false_eq_true,if_false,Bool.true_and]
       exact tH fs (i+1) q' l r b GJ hb (fun j d hd=>by have:=hx (j+1) d (by simpa using hd);rwa[show i+(j+1)=i+1+j by omega]at this)
        (fun j d hd=>by have:=hy (j+1) d (by simpa using hd);rwa[show i+(j+1)=i+1+j by omega]at this)
     ·cases he
  ·cases hp
theorem UL(hT:eV P T){op:BinOp}{t ty:TypeId}{x y:Operand}(hg:b5 ρ ops o.guard=some gd)(ho:o.op=.binOp op t x y ty){va vb:AV}(UI:bC ρ κ gd x va)(UJ:bC ρ κ gd y vb)
 (h:VD (nth T t) op va vb fun v=>aT n o gd nx k v []):Good P C ops n o nx ρ κ k:=by
 have hh:=WJ h;clear h;obtain⟨hb,h⟩:=hh
 simp only[aca]at hb
 obtain⟨i,u,z,tf⟩:=hT.facts hb.1
 split at h
 ·rename_i x1 l r
  split at h
  ·rename_i e he
   have hk:=tf.kind
   rw[abD hb.2]at hk
   obtain⟨fs,rfl⟩:∃fs,u=.struct fs:=by
    cases u<;>simp[kindOf]at hk
    exact⟨_,rfl⟩
   have heq:=tf.Vw
   simp only[Pr]at heq
   split at heq
   ·rename_i q hq
    cases hc:Nat.beq fs.toList.length i.size&& !P.stoodInHeld t&& !P.eqGuardType P.depth t with
    |false=>rw[hc]at heq;simp only[cond_false]at heq;rw[heq]at he;simp[jl]at he
    |true=>
     rw[hc]at heq
     simp only[cond_true]at heq
     rw[heq]at he
     simp only[aca,acd]at hc
     have hf:P.fieldsOf t=fs:=by simp[Program.fieldsOf,tf.AJ]
     have core:∀(G:Gh) (w:World) (u v:Value),aH G (.agg (x1::l)) u->aH G (.agg r) v->∃us vs,u=.agg us/\v=.agg vs/\(Op.equalIn 10000 t u v).run P w=.ok e w:=by
      intro G w u v hu hv
      cases hu with|agg _ us hlu SA=>cases hv with|agg _ vs hlv Xa=>
      refine⟨_,_,rfl,rfl,?_⟩
      rw[run_equalIn_struct w 9999 t _ _ (by rw[hf];exact tf.AJ) hc.1.2,hf]
      refine tH (G:=G) (D:=9998) fs.toList 0 q _ _ e hq he (fun j d hd=>?_) (fun j d hd=>?_)
      ·have hj:=(abA.1 hd).1
       exact⟨us[j]'(by omega),by simp,SA j d _ hd (aaa (by omega))⟩
      ·have hj:=(abA.1 hd).1
       exact⟨vs[j]'(by omega),by simp,Xa j d _ hd (aaa (by omega))⟩
     have fin:∀c:Bool,aT n o gd nx k (.dv (.bool c)) []->(∀(w:World) (us vs:Array Value),(Op.equalIn 10000 t (.agg us) (.agg vs)).run P w=.ok e w->(binOp op t (.agg us) (.agg vs)).run P w=.ok (.bool c) w)->Good P C ops n o nx ρ κ k:=by
      intro c fP aZ
      refine bq (fun c=>by rw[ho];simp) hg fP fun ρ' κ' ax g a w G aj aP=>?_
      have h1:=UI ρ' κ' (ax.op (by rw[ho];simp[Op.operands])) g n a w G aj aP
      have h2:=UJ ρ' κ' (ax.op (by rw[ho];simp[Op.operands])) g n a w G aj aP
      obtain⟨us,vs,e1,e2,e3⟩:=core G w _ _ h1 h2
      refine⟨.bool c,?_,.dv (.bool c)⟩
      rw[e1,e2]at e3
      simp only[execOp,ho,Sem.run_bind]
      rw[e1,e2,run_eqGuard_agg w op t x y us vs hc.2]
      simp only[Result.andThen_ok,aZ w us vs e3,Sem.run_pure]
     split at h
     ·exact fin e h fun w us vs h3=>by rw[run_eql_struct,h3];rfl
     ·exact fin (!e) h fun w us vs h3=>by rw[run_neq_struct,h3];rfl
     ·exact h.elim
   ·rw[heq]at he;simp[jl]at he
  ·exact h.elim
 ·exact h.elim
theorem Ho(hT:eV P T){op:BinOp}{t ty:TypeId}{x y:Operand}(hg:b5 ρ ops o.guard=some gd)(ho:o.op=.binOp op t x y ty){av:AV}(bO:bC ρ κ gd x av)(Jg:bC ρ κ gd y (.dv .az))
 (h:DM (nth T t) op κ gd av fun v rd=>aT n o gd nx k v rd):Good P C ops n o nx ρ κ k:=by
 unfold DM at h
 have hh:=WJ h;clear h;obtain⟨hb,h⟩:=hh
 simp only[aca]at hb
 obtain⟨i,u,z,tf⟩:=hT.facts hb.1
 have hu:=tf.slice hb.2
 have core:∀(neg:Bool),(∀(w:World) (p:Option Addr) (l cc:Nat),(binOp op t (.slice p l cc) (.slice none 0 0)).run P w=.ok (.bool (bif neg then !p.isNone else p.isNone)) w)->(zH κ gd av fun c rd=>aT n o gd nx k (WG neg c) rd)->Good P C ops n o nx ρ κ k:=by
  intro neg aZ h
  obtain⟨c,rd,hk,hs⟩:=DP h
  refine bq (fun c=>by rw[ho];simp) hg hk fun ρ' κ' ax g a w G aj aP=>?_
  have h1:=bO ρ' κ' (ax.op (by rw[ho];simp[Op.operands])) g n a w G aj aP
  have h2:=Jg ρ' κ' (ax.op (by rw[ho];simp[Op.operands])) g n a w G aj aP
  obtain⟨p,l,cc,hv,hp⟩:=hs aP κ' ax.reads G w _ aj.fit h1
  generalize hy:a.eval y=vy at h2
  cases h2 with|dv h2=>cases h2 with|az=>
  refine⟨.bool (bif neg then !p.isNone else p.isNone),?_,?_⟩
  ·simp only[execOp,ho,Sem.run_bind]
   rw[iK op t x y _ _ (by rw[hv];simp) (by rw[hv];simp),hv,hy]
   simp only[Result.andThen_ok,aZ w p l cc,Sem.run_pure]
  ·cases c with
   |none=>exact .dv (.oD _)
   |some b=>rw[hp b rfl];exact .dv (.bool _)
 split at h
 ·exact core false (fun w p l cc=>by simp only[binOp,Sem.run_bind,gI hu,Result.andThen_ok,Sem.run_pure,cond_false]) h
 ·exact core true (fun w p l cc=>by simp only[binOp,Sem.run_bind,gI hu,Result.andThen_ok,Sem.run_pure,cond_true]) h
 ·exact h.elim
theorem Hq(hT:eV P T){s t:TypeId}{x:Operand}{kx kd:IntKind}{m:Int}(hg:b5 ρ ops o.guard=some gd)(ho:o.op=.convert s t x)(hs:(nth T s).ok=true)(ht:(nth T t).ok=true)(hi:(nth T t).He=some kd)(hk:aT n o gd nx k (.dv (.int kd (kd.wrap m))) [])(bO:bC ρ κ gd x (.dv (.int kx m))):Good P C ops n o nx ρ κ k:=by
 obtain⟨i1,u1,z1,XO⟩:=hT.facts hs
 obtain⟨i2,u2,z2,tf2⟩:=hT.facts ht
 refine bq (fun c=>by rw[ho];simp) hg hk fun ρ' κ' ax g a w G aj aP=>?_
 have hv:=bO ρ' κ' (ax.op (by rw[ho];simp[Op.operands])) g n a w G aj aP
 generalize hx:a.eval x=v at hv
 cases hv with|dv hv=>cases hv with|int=>
 have h2:=tf2.He
 rw[hi]at h2
 cases u2<;>simp[Ev]at h2
 subst h2
 refine⟨.int kd (kd.wrap m),?_,.dv (.int _ _)⟩
 simp[execOp,ho,hx,convert,run_underlying XO.AJ,run_underlying tf2.AJ,Conv.intToInt]
theorem Nx(hT:eV P T){t:TypeId}{x ix:Operand}{kx:IntKind}{m:Int}{s:ByteArray}{b:UInt8}(hg:b5 ρ ops o.guard=some gd)(ho:o.op=.index t x ix)(ht:(nth T t).ok=true)(aj:(nth T t).isStr=true)(hb:gd=true->0<=m/\s[m.toNat]?=some b)(hk:aT n o gd nx k (.dv (.int .u8 b.toNat)) [])(bO:bC ρ κ gd x (.dv (.str s)))(oV:bC ρ κ gd ix (.dv (.int kx m))):Good P C ops n o nx ρ κ k:=by
 obtain⟨i1,u1,z1,XO⟩:=hT.facts ht
 have hu:=XO.string aj
 refine bq (fun c=>by rw[ho];simp) hg hk fun ρ' κ' ax g a w G aj aP=>?_
 have hv:=bO ρ' κ' (ax.op (by rw[ho];simp[Op.operands])) g n a w G aj aP
 have hi:=oV ρ' κ' (ax.op (by rw[ho];simp[Op.operands])) g n a w G aj aP
 generalize hx:a.eval x=v at hv
 generalize hy:a.eval ix=u at hi
 cases hv with|dv hv=>cases hv with|str=>
 cases hi with|dv hi=>cases hi with|int=>
 obtain⟨h0,hb⟩:=hb aP
 refine⟨.int .u8 b.toNat,?_,.dv (.int _ _)⟩
 simp[execOp,ho,hx,hy,Instr.index,asIntOf,run_underlying hu,h0,hb]
theorem UO{x y:Operand}{c:Call}{p q:Int}(hg:b5 ρ ops o.guard=some gd)(ho:o.op=.call c)(hc:c.callee=.builtin .min)(ha:c.args.toList=[x,y])
 (hk:aT n o gd nx k (.dv (.int .i64 (if q<p then q else p))) []) (bO:bC ρ κ gd x (.dv (.int .i64 p))) (oV:bC ρ κ gd y (.dv (.int .i64 q))):Good P C ops n o nx ρ κ k:=by
 have bW:c.args=#[x,y]:=Array.ext' (by simpa using ha)
 refine bq (fun c=>by rw[ho];simp) hg hk fun ρ' κ' ax g a w G aj aP=>?_
 have hv:=bO ρ' κ' (ax.op (by rw[ho];simp[Op.operands,Call.operands,hc,bW])) g n a w G aj aP
 have dF:=oV ρ' κ' (ax.op (by rw[ho];simp[Op.operands,Call.operands,hc,bW])) g n a w G aj aP
 generalize hx:a.eval x=v at hv
 generalize hi:a.eval y=vi at dF
 cases dF with|dv dF=>cases dF with|int=>
 cases hv with|dv hv=>cases hv with|int=>
 refine⟨_,?_,.dv (.int _ _)⟩
 simp[execOp,ho,resolve,hc,bW,invoke,builtin,Builtin.min_,Builtin.min2,hx,hi]
theorem UP{x y:Operand}{c:Call}{p q:Int}(hg:b5 ρ ops o.guard=some gd)(ho:o.op=.call c)(hc:c.callee=.builtin .max)(ha:c.args.toList=[x,y])
 (hk:aT n o gd nx k (.dv (.int .i64 (if p<q then q else p))) []) (bO:bC ρ κ gd x (.dv (.int .i64 p))) (oV:bC ρ κ gd y (.dv (.int .i64 q))):Good P C ops n o nx ρ κ k:=by
 have bW:c.args=#[x,y]:=Array.ext' (by simpa using ha)
 refine bq (fun c=>by rw[ho];simp) hg hk fun ρ' κ' ax g a w G aj aP=>?_
 have hv:=bO ρ' κ' (ax.op (by rw[ho];simp[Op.operands,Call.operands,hc,bW])) g n a w G aj aP
 have dF:=oV ρ' κ' (ax.op (by rw[ho];simp[Op.operands,Call.operands,hc,bW])) g n a w G aj aP
 generalize hx:a.eval x=v at hv
 generalize hi:a.eval y=vi at dF
 cases dF with|dv dF=>cases dF with|int=>
 cases hv with|dv hv=>cases hv with|int=>
 refine⟨_,?_,.dv (.int _ _)⟩
 simp[execOp,ho,resolve,hc,bW,invoke,builtin,Builtin.max_,Builtin.max2,hx,hi]
def nu(ρ:Nat->AV)(κ:Nat->ar)(g:Bool):List (Nat×Operand)->List (Nat×AV)->Prop
 |[],[]=>True
 |(i,x)::r,(j,v)::l=>i=j/\bC ρ κ g x v/\nu ρ κ g r l
 |_,_=>False
theorem l7:∀{l:List (Nat×Operand)} {k:List (Nat×AV)->Prop},sR ρ κ gd l k->∃r,k r/\nu ρ κ gd l r
 |[],k,h=>⟨[],h,tv⟩
 |(i,x)::l,k,h=>by
  obtain⟨v,h,hv⟩:=aI h
  obtain⟨r,h,hr⟩:=l7 h
  exact⟨_,h,rfl,hv,hr⟩
theorem fK:∀{l:List AV},b9 l=true->∀v,v∈l->v.ai=true
 |[],_,v,h=>by simp at h
 |x::l,h,v,hv=>by
  simp only[b9,aca]at h
  rcases abG.1 hv with rfl|hv
  ·exact h.1
  ·exact fK h.2 v hv
section
variable {G:Gh}
theorem cb.cQ{l:List AV}{vs:List Value}(h:cb G l vs)(hc:b9 l=true):∀v,v∈vs->v.oneCell'=true:=by
 intro v hv
 obtain⟨j,hj,rfl⟩:=List.getElem_of_mem hv
 have pZ:j<l.length:=by rw[h.1];exact hj
 exact(h.2 j l[j] vs[j] (aaa pZ) (aaa hj)).cQ (fK hc _ (ab6 pZ))
theorem mq{av:AV}{v:Value}(h:aH G av v)(hc:b9 (cellsOf av)=true):cb G (cellsOf av) v.cells.toList:=by
 cases av with
 |agg l=>
  cases h with
  |agg _ vs hl hr=>exact⟨by simpa[cellsOf,Value.cells]using hl,by simpa[cellsOf,Value.cells]using hr⟩
 |_=>
  simp only[cellsOf,b9,Bool.and_true]at hc
  have h1:=h.cQ hc
  have:v.cells=#[v]:=by cases v<;>first|rfl|(simp[Value.oneCell']at h1)
  rw[this]
  refine⟨rfl,fun j d u hd hu=>?_⟩
  cases j with
  |zero=>simp[cellsOf]at hd hu;subst hd;subst hu;exact h
  |succ j=>simp[cellsOf]at hd
theorem cb.iB{l:List AV}{vs:List Value}{l':List AV}{MH:List Value}(h:cb G l vs)(h':cb G l' MH)(off:Nat)(hle:off+l'.length<=l.length):
 cb G (iB l off l') (vs.take off++MH++vs.drop (off+MH.length)):=by
 have e:=h.1
 have e':=h'.1
 constructor
 ·simp[TM.iB];omega
 ·intro j d v hd hv
  simp only[TM.iB,ab0]at hd hv
  rw[List.getElem?_append]at hd hv
  simp only[abU]at hd hv
  by_cases h1:j<off
  ·rw[if_pos (by omega)]at hd hv
   rw[List.getElem?_take,if_pos h1]at hd hv
   exact h.2 j d v hd hv
  ·rw[if_neg (by omega)]at hd hv
   rw[List.getElem?_append]at hd hv
   rw[show min off l.length=off by omega]at hd
   rw[show min off vs.length=off by omega]at hv
   by_cases h2:j-off<l'.length
   ·rw[if_pos h2]at hd
    rw[if_pos (by omega)]at hv
    exact h'.2 _ d v hd hv
   ·rw[if_neg h2]at hd
    rw[if_neg (by omega)]at hv
    rw[List.getElem?_drop]at hd hv
    rw[<-e']at hv
    exact h.2 _ d v hd hv
theorem GF(off:Nat):∀(vs:List Value) (i:Nat) (cur:Array Value),off+i+vs.length<=cur.size->
 ((vs.zipIdx i).foldl (fun cs (p:Value×Nat)=>cs.setIfInBounds (off+p.2) p.1) cur).toList=cur.toList.take (off+i)++vs++cur.toList.drop (off+i+vs.length)
 |[],i,cur,_=>by simp
 |v::rest,i,cur,hl=>by
  simp only[List.zipIdx_cons,List.foldl_cons]
  rw[GF off rest (i+1) (cur.setIfInBounds (off+i) v) (by simp at hl⊢;omega)]
  have e:=list_seg_step cur.toList (off+i) v rest (by simp at hl⊢;omega)
  simpa[Array.toList_setIfInBounds,Nat.add_assoc]using e
theorem qX(place:Nat->Option (Nat×Nat)):∀(parts:List (Nat×AV)) (Ja:List (Nat×Value)) (l l':List AV) (cs:Array Value),
 (parts.length=Ja.length/\∀(j:Nat) (p:Nat×AV) (q:Nat×Value),parts[j]?=some p->Ja[j]?=some q->p.1=q.1/\aH G p.2 q.2)->cb G l cs.toList->qw place l parts=some l'->
 ∃Tk,Instr.fill place cs Ja=some Tk/\cb G l' Tk.toList
 |[],[],l,l',cs,_,hc,h=>by simp[qw]at h;subst h;exact⟨cs,rfl,hc⟩
 |[],q::vr,l,l',cs,hp,_,_=>by simp at hp
 |p::r,[],l,l',cs,hp,_,_=>by simp at hp
 |(i,av)::r,(i',v)::vr,l,l',cs,hp,hc,h=>by
  have h0:=hp.2 0 (i,av) (i',v) rfl rfl
  simp only at h0
  obtain⟨rfl,hv⟩:=h0
  simp only[qw,Bu]at h
  split at h
  ·cases h
  ·rename_i off sz Hx
   cases hb:(Nat.beq (cellsOf av).length sz&&Nat.ble (off+sz) l.length&&b9 (cellsOf av))with
   |false=>rw[hb]at h;cases h
   |true=>
    rw[hb]at h
    simp only[cond_true]at h
    simp only[aca]at hb
    obtain⟨⟨jP,cd⟩,wO⟩:=hb
    have jP:=abD jP
    have cd:=Nat.le_of_ble_eq_true cd
    have jr:=mq hv wO
    have aW:v.cells.size=sz:=by rw[<-jP,jr.1];simp
    have hls:l.length=cs.size:=by rw[hc.1];simp
    have j7:((v.cells.zipIdx.foldl (fun cs (p:Value×Nat)=>cs.setIfInBounds (off+p.2) p.1) cs).toList)=cs.toList.take off++v.cells.toList++cs.toList.drop (off+v.cells.toList.length):=by
     rw[<-Array.foldl_toList,Array.toList_zipIdx]
     have:=GF off v.cells.toList 0 cs (by simp;omega)
     simpa using this
    have yx:cb G (iB l off (cellsOf av)) (v.cells.zipIdx.foldl (fun cs (p:Value×Nat)=>cs.setIfInBounds (off+p.2) p.1) cs).toList:=by
     rw[j7]
     exact hc.iB jr off (by omega)
    obtain⟨Tk,h1,h2⟩:=qX place r vr _ l' _ ⟨by simpa using hp.1,fun j p q Ri GJ=>hp.2 (j+1) p q (by simpa using Ri) (by simpa using GJ)⟩ yx h
    refine⟨Tk,?_,h2⟩
    simp only[Instr.fill,Hx,aW]
    rw[if_neg (by simp;omega)]
    exact h1
end
theorem nu.rel{ρ':Nat->AV}{κ':Nat->ar}{g:dO}{a:Act}{w:World}{G:Gh}(aj:cu g n ρ' κ' a w G)(aP:gd=true):
 ∀{l:List (Nat×Operand)} {r:List (Nat×AV)},nu ρ κ gd l r->(∀p,p∈l->B7 ρ ρ' κ κ' p.2)->
  (r.length=(l.map fun p=>(p.1,a.eval p.2)).length/\∀(j:Nat) (p:Nat×AV) (q:Nat×Value),r[j]?=some p->(l.map fun p=>(p.1,a.eval p.2))[j]?=some q->p.1=q.1/\aH G p.2 q.2)
 |[],[],_,_=>⟨rfl,by simp⟩
 |[],_::_,h,_=>h.elim
 |_::_,[],h,_=>h.elim
 |(i,x)::l,(j,v)::r,⟨DW,hv,h⟩,ax=>by
  obtain⟨h1,h2⟩:=nu.rel aj aP h (fun p hp=>ax p (by simp[hp]))
  have Ej:=hv ρ' κ' (ax (i,x) (by simp)) g n a w G aj aP
  refine⟨by simpa using h1,fun jj p q hp hq=>?_⟩
  cases jj with
  |zero=>simp at hp hq;subst hp;subst hq;exact⟨DW.symm,Ej⟩
  |succ jj=>exact h2 jj p q (by simpa using hp) (by simpa using hq)
theorem GG{w:World}(fs:List Field)(h:∀f,f∈fs->∃j,P.info? f.type=some j):((fs.toArray.mapM fun f=>do pure (f.offset,<-sizeOf f.type)):Sem (Array (Nat×Nat))).run P w=.ok (fs.map fun f=>(f.offset,match P.info? f.type with|some j=>j.size|none=>0)).toArray w:=by
 have key:∀(l:List Field),(∀f,f∈l->∃j,P.info? f.type=some j)->((l.mapM fun f=>do pure (f.offset,<-sizeOf f.type)):Sem (List (Nat×Nat))).run P w=.ok (l.map fun f=>(f.offset,match P.info? f.type with|some j=>j.size|none=>0)) w:=by
  intro l
  induction l with
  |nil=>intro _;rfl
  |cons f r ih=>
   intro hl
   obtain⟨j,hj⟩:=hl f (by simp)
   have:=ih (fun f hf=>hl f (by simp[hf]))
   simp only[List.mapM_cons,Sem.run_bind,jv hj,Result.andThen_ok,Sem.run_pure,this,List.map_cons,hj]
 rw[List.mapM_toArray]
 simp only[Sem.run_map,key fs h,Result.andThen_ok]
theorem Nw(hT:eV P T){t:Nat}{parts:Array (Nat×Operand)}{l:List (Nat×AV)}{cs:List AV}(hg:b5 ρ ops o.guard=some gd)(ho:o.op=.build t parts)(cB:(nth T t).ok=true)
 (hp:nu ρ κ gd parts.toList l) (oe:qw (fun i=>(nth T t).fields[i]?) (eB (nth T t).zero) l=some cs) (aa6:Nat.beq (nth T t).kind 9=true) (hk:aT n o gd nx k (.agg cs) []):Good P C ops n o nx ρ κ k:=by
 obtain⟨ti,u,z,tf⟩:=hT.facts cB
 have hu:∃fs,u=.struct fs:=by
  have h1:=tf.kind
  rw[abD aa6]at h1
  cases u<;>simp[kindOf]at h1
  exact⟨_,rfl⟩
 obtain⟨fs,rfl⟩:=hu
 refine bq (fun c=>by rw[ho];simp) hg hk fun ρ' κ' ax g a w G aj aP=>?_
 have G5:∀p,p∈parts.toList->B7 ρ ρ' κ κ' p.2:=fun p Ri=>ax.op (by
  rw[ho]
  simp only[Op.operands,List.mem_toArray,ab1]
  exact⟨p,Ri,rfl⟩)
 have h1:=hp.rel aj aP G5
 have hz:cb G (eB (nth T t).zero) z.cells.toList:=by
  exact iX (eJ (M:=G.M) tf.zc).1
 obtain⟨Tk,h3,h4⟩:=qX _ l _ _ cs z.cells h1 hz oe
 have aa7:aH G (.agg cs) (.agg Tk):=by
  have:=aH.agg (G:=G) cs Tk.toList h4.1 h4.2
  simpa using this
 refine⟨.agg Tk,?_,aa7⟩
 ·have Hx:((fs.mapM fun f=>do pure (f.offset,<-sizeOf f.type)):Sem (Array (Nat×Nat))).run P w=.ok (nth T t).fields.toArray w:=by
   have:=GG (P:=P) (w:=w) fs.toList (fun f hf=>by
    have:=tf.fin
    simp only[y2,abY]at this
    exact Option.isSome_iff_exists.1 (this f hf))
   simp only[Array.toArray_toList]at this
   rw[this,tf.fields]
   rfl
  have Jj:Instr.fill (fun i=>(nth T t).fields.toArray[i]?) z.cells (parts.map fun p=>(p.1,a.eval p.2)).toList=some Tk:=by
   simpa using h3
  simp only[execOp,ho,Instr.build,Sem.run_bind,tf.r8 w,Result.andThen_ok,run_underlying tf.AJ,Hx]
  rw[Jj]
  rfl
end
end Go.TM
