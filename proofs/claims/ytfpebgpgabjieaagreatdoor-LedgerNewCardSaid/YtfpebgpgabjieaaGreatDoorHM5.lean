import Derived.Test.YtfpebgpgabjieaaGreatDoorHM4
import Derived.Laws.StructEq
set_option linter.all false
namespace Go.TM
set_option maxHeartbeats 1000000
section
open Go.RowKit
variable [cy]
theorem add_zero'(a:Addr):a.add 0=a:=by rfl
section
variable {P:Program} {C:eb->Prop} {T:List TI} {ops:List Oper} {n:Nat} {o:Oper} {nx:Nat} {ρ:Nat->AV} {κ:Nat->ax} {k:lK->Nat->Prop} {gd:Bool}
theorem Gu(hT:fB P T){t:Nat}{x i:Operand}{sz:Nat}{l:List DV}{y:DV}{kd:IntKind}{m:Int}(hg:cn ρ ops o.guard=some gd)(ho:o.op=.indexAddr t x i)
 (cI:(nth T t).ok=true) (gP:(nth T t).isSl=true) (vH:(nth T (nth T t).elem).ok=true) (ck:sz=(nth T (nth T t).elem).size)
 (hy:gd=true->0<=m/\l[m.toNat]?=some y) (hk:bj n o gd nx k (.dv (.at y 0)) []) (bP:bH ρ κ gd x (.dv (.sl sz l))) (pY:bH ρ κ gd i (.dv (.int kd m))):Good P C ops n o nx ρ κ k:=by
 obtain⟨ti,u,z,tf⟩:=hT.facts cI
 obtain⟨te,ue,ze,jo⟩:=hT.facts vH
 refine bu (fun c=>by grind) hg hk fun ρ' κ' aA g a w G aq aU=>?_
 have hv:=bP ρ' κ' (aA.op (by grind [Op.operands])) g n a w G aq aU
 have eB:=pY ρ' κ' (aA.op (by grind [Op.operands])) g n a w G aq aU
 generalize hx:a.eval x=v at hv
 generalize hi:a.eval i=vi at eB
 obtain⟨D3,hmy⟩:=hy aU
 have aB:=(adj.1 hmy).1
 cases eB with|dv eB=>cases eB with|int=>
 cases hv with|dv hv=>cases hv with
 |slnil=>grind
 |sl _ _ A cap cell eP hlen hc hr=>
  have dK:0<=m/\m<(l.length):=⟨D3,by omega⟩
  refine⟨.pointer (some (A.add (m.toNat*sz))),?_,?_⟩
  ·have zI:=jo.gl w
   rw[<-ck]at zI
   simp[execOp,ho,hx,hi,Instr.indexAt,run_underlying (tf.slice gP),asIntOf,dK,zI]
  ·have:=bq.at y 0 (A.add (m.toNat*sz)) (fun j=>cell m.toNat j) (hlen y (adl hmy)).2
    (fun j hj=>by grind [cZ,List.mem_of_getElem?])
    (fun j d hd=>hr _ y j d hmy hd)
   rw[add_zero']at this
   exact .dv this
theorem n9(hT:fB P T){t:Nat}{x i:Operand}{av av':AV}{kd:IntKind}{m:Int}(hg:cn ρ ops o.guard=some gd)(ho:o.op=.indexAddr t x i)
 (cI:(nth T t).ok=true) (Er:(nth T t).kind=10) (vH:(nth T (nth T t).elem).ok=true) (hm:gd=true->0<=m/\m<(nth T t).len)
 (hk:bj n o gd nx k av' []) (bP:bH ρ κ gd x av) (pY:bH ρ κ gd i (.dv (.int kd m)))
 (hp:∀(G:Gh) (v:Value),aK G av v->∃a,v=.pointer (some a)/\aK G av' (.pointer (some (a.add (m.toNat*(nth T (nth T t).elem).size))))):Good P C ops n o nx ρ κ k:=by
 obtain⟨ti,u,z,tf⟩:=hT.facts cI
 obtain⟨te,ue,ze,jo⟩:=hT.facts vH
 refine bu (fun c=>by grind) hg hk fun ρ' κ' aA g a w G aq aU=>?_
 have eB:=pY ρ' κ' (aA.op (by grind [Op.operands])) g n a w G aq aU
 generalize hi:a.eval i=vi at eB
 cases eB with|dv eB=>cases eB with|int=>
 obtain⟨p,hp,YD⟩:=hp _ _ (bP ρ' κ' (aA.op (by grind [Op.operands])) g n a w G aq aU)
 refine⟨_,?_,YD⟩
 have hu:P.underlying t=some (.array (nth T t).len (nth T t).elem):=by
  have h1:=tf.kind
  rw[Er]at h1
  have h2:=tf.len
  have h3:=tf.elem
  rw[tf.B6]
  cases u<;>simp[kindOf]at h1
  grind [lenOf,PJ]
 simp[execOp,ho,hp,hi,Instr.indexAt,run_underlying hu,asIntOf,Instr.sureAddr,(hm aU),jo.gl w]
theorem DG(hT:fB P T){t:Nat}{x i:Operand}{id ver ep cu sz:Nat}{p:List PS}{d:DV}{l:List DV}{kd:IntKind}{m:Int}(hg:cn ρ ops o.guard=some gd)(ho:o.op=.indexAddr t x i)
 (cI:(nth T t).ok=true) (gP:(nth T t).isSl=true) (vH:(nth T (nth T t).elem).ok=true) (ck:sz=(nth T (nth T t).elem).size) (hb:κ id=.tree ver cu d) (fh:p=[]\/ep=cu) (ec:gd=true->get d p=some (.aI sz l))
 (hy:gd=true->0<=m/\m<l.length) (hk:bj n o gd nx k (.loc id ver ep p sz m.toNat 0) [id]) (bP:bH ρ κ gd x (.own id ver ep p)) (pY:bH ρ κ gd i (.dv (.int kd m))):Good P C ops n o nx ρ κ k:=by
 obtain⟨ti,u,z,tf⟩:=hT.facts cI
 obtain⟨te,ue,ze,jo⟩:=hT.facts vH
 refine bu (fun c=>by grind) hg hk fun ρ' κ' aA g a w G aq aU=>?_
 have hv:=bP ρ' κ' (aA.op (by grind [Op.operands])) g n a w G aq aU
 have eB:=pY ρ' κ' (aA.op (by grind [Op.operands])) g n a w G aq aU
 generalize hx:a.eval x=v at hv
 generalize hi:a.eval i=vi at eB
 obtain⟨D3,hmy⟩:=hy aU
 obtain⟨u,h1,_,bo⟩:=aq.fit.node ((aA.reads id (by simp)).trans hb) (ec aU) rfl
 cases eB with|dv eB=>cases eB with|int=>
 cases hv with
 |own _ _ _ _ _ hh hc=>
  have Zq:=hh
  rw[de fh,h1]at hh
  injection hh with hh
  subst hh
  rcases bo with⟨rfl,_⟩|⟨gb,ob,cap,cc,tt,rfl,eP,hw,acA,D4⟩
  ·grind
  ·have dK:0<=m/\m<(l.length):=⟨D3,hmy⟩
   refine⟨.pointer (some ((⟨gb,ob,none⟩:Addr).add (m.toNat*sz))),?_,?_⟩
   ·have zI:=jo.gl w
    rw[<-ck]at zI
    simp[execOp,ho,hx,hi,Instr.indexAt,run_underlying (tf.slice gP),asIntOf,dK,zI]
   ·have:=aK.loc id ver ep p sz m.toNat 0 _ _ _ Zq
    grind
theorem DH(hT:fB P T){t:Nat}{x i:Operand}{id len:Nat}{kd:IntKind}{m:Int}(hg:cn ρ ops o.guard=some gd)(ho:o.op=.indexAddr t x i)
 (cI:(nth T t).ok=true) (gP:(nth T t).isSl=true) (vH:(nth T (nth T t).elem).ok=true)
 (hy:gd=true->0<=m/\m<len) (hk:bj n o gd nx k (.ptr id (m.toNat*(nth T (nth T t).elem).size)) []) (bP:bH ρ κ gd x (.sle id len)) (pY:bH ρ κ gd i (.dv (.int kd m))):Good P C ops n o nx ρ κ k:=by
 obtain⟨ti,u,z,tf⟩:=hT.facts cI
 obtain⟨te,ue,ze,jo⟩:=hT.facts vH
 refine bu (fun c=>by grind) hg hk fun ρ' κ' aA g a w G aq aU=>?_
 have hv:=bP ρ' κ' (aA.op (by grind [Op.operands])) g n a w G aq aU
 have eB:=pY ρ' κ' (aA.op (by grind [Op.operands])) g n a w G aq aU
 generalize hx:a.eval x=v at hv
 generalize hi:a.eval i=vi at eB
 cases eB with|dv eB=>cases eB with|int=>
 cases hv with
 |sle _ _ b hb=>
  refine⟨.pointer (some ((⟨b,0,none⟩:Addr).add (m.toNat*(nth T (nth T t).elem).size))),?_,?_⟩
  ·simp[execOp,ho,hx,hi,Instr.indexAt,run_underlying (tf.slice gP),asIntOf,(hy aU),(jo.gl w)]
  ·rw[eW,Nat.zero_add];exact .ptr _ _ b hb
theorem DI(hT:fB P T){t:Nat}{x i:Operand}{id ver ep sz lo len:Nat}{p:List PS}{kd:IntKind}{m:Int}(hg:cn ρ ops o.guard=some gd)(ho:o.op=.indexAddr t x i)
 (cI:(nth T t).ok=true) (gP:(nth T t).isSl=true) (vH:(nth T (nth T t).elem).ok=true) (ck:sz=(nth T (nth T t).elem).size)
 (hy:gd=true->0<=m/\m<len) (hk:bj n o gd nx k (.loc id ver ep p sz (lo+m.toNat) 0) []) (bP:bH ρ κ gd x (.pre id ver ep p sz lo len)) (pY:bH ρ κ gd i (.dv (.int kd m))):Good P C ops n o nx ρ κ k:=by
 obtain⟨ti,u,z,tf⟩:=hT.facts cI
 obtain⟨te,ue,ze,jo⟩:=hT.facts vH
 refine bu (fun c=>by grind) hg hk fun ρ' κ' aA g a w G aq aU=>?_
 have hv:=bP ρ' κ' (aA.op (by grind [Op.operands])) g n a w G aq aU
 have eB:=pY ρ' κ' (aA.op (by grind [Op.operands])) g n a w G aq aU
 generalize hx:a.eval x=v at hv
 generalize hi:a.eval i=vi at eB
 have dK:=hy aU
 cases eB with|dv eB=>cases eB with|int=>
 cases hv with
 |pre _ _ _ _ _ _ _ q c hh=>
  obtain⟨A,N,c',hq,rfl⟩:=hh (by omega)
  refine⟨.pointer (some ((A.add (lo*sz)).add (m.toNat*sz))),?_,?_⟩
  ·have zI:=jo.gl w
   rw[<-ck]at zI
   simp[execOp,ho,hx,hi,Instr.indexAt,run_underlying (tf.slice gP),asIntOf,dK,zI]
  ·rw[cZ,<-Nat.add_mul]
   have:=aK.loc id ver ep p sz (lo+m.toNat) 0 _ _ _ hq
   grind
theorem sa(hT:fB P T){t:Nat}{x:Operand}{c:Call}{av:AV}{m:Int}{rd:List Nat}(hg:cn ρ ops o.guard=some gd)(ho:o.op=.call c)(hc:c.callee=.builtin .len)(ha:c.args.toList=[x])(lI:c.argTypes.toList=[t])
 (hk:bj n o gd nx k (.dv (.int .i64 m)) rd) (bP:bH ρ κ gd x av) (cI:(nth T t).ok=true)
 (hp:gd=true->∀κ',(∀i,i∈rd->κ' i=κ i)->∀(G:Gh) (w:World) (v:Value),Fit G w κ'->aK G av v->
  ((nth T t).isSl=true/\∃p l c,v=.slice p l c/\(l:Int)=m)\/((nth T t).isStr=true/\∃s,v=.string s/\(s.size:Int)=m)\/
  (Nat.beq (nth T t).kind 6=true/\∃b es clock,v=.map (some b)/\w.heap[b]?=some (.map es clock)/\(es.size:Int)=m)):Good P C ops n o nx ρ κ k:=by
 have dp:c.args=#[x]:=Array.ext' (by grind)
 have M1:c.argTypes=#[t]:=Array.ext' (by grind)
 refine bu (fun c=>by grind) hg hk fun ρ' κ' aA g a w G aq aU=>?_
 refine⟨.int .i64 m,?_,.dv (.int _ _)⟩
 obtain⟨ti,u,z,tf⟩:=hT.facts cI
 rcases hp aU κ' aA.reads G w _ aq.fit (bP ρ' κ' (aA.op (by grind [Op.operands,Call.operands])) g n a w G aq aU)with⟨gP,p,l,cc,Ze,hm⟩|⟨gP,s,Ze,hm⟩|⟨hmk,b,es,clock,Ze,hw,hm⟩
 ·simp[execOp,ho,resolve,hc,dp,M1,invoke,builtin,Builtin.len_,run_underlying (tf.slice gP),Ze,goInt,hm]
 ·simp[execOp,ho,resolve,hc,dp,M1,invoke,builtin,Builtin.len_,run_underlying (tf.string gP),Ze,goInt,hm]
 ·have hu:∃kt et,P.underlying t=some (.map kt et):=by
   have h1:=tf.kind
   rw[adm hmk]at h1
   cases u<;>simp[kindOf]at h1
   exact⟨_,_,tf.B6⟩
  obtain⟨kt,et,hu⟩:=hu
  simp[execOp,ho,resolve,hc,dp,M1,invoke,builtin,Builtin.len_,run_underlying hu,Ze,goInt,hm,MapKept.run_getObj_map hw]
theorem hJ{w:World}{t e:TypeId}(hu:P.underlying t=some (.slice e))(a:Option Addr)(l c:Nat):(Op.equal t (.slice a l c) (.slice none 0 0)).run P w=.ok a.isNone w:=by
 have h:∀d,(Op.equalIn (d+1) t (.slice a l c) (.slice none 0 0)).run P w=.ok a.isNone w:=fun d=>by
  cases a<;>simp[Op.equalIn,run_underlying hu]
 grind [Op.equal,Op.maxDepth]
theorem YE{b:Bool}{p:Prop}(h:bif b then p else False):b=true/\p:=by
 grind
theorem DJ{κ:Nat->ax}{gd:Bool}{a:AV}{k:Option Bool->List Nat->Prop}(h:y3 κ gd a k):∃c rd,k c rd/\(gd=true->∀κ',(∀i,i∈rd->κ' i=κ i)->∀(G:Gh) (w:World) (v:Value),Fit G w κ'->aK G a v->∃p l cc,v=.slice p l cc/\∀b,c=some b->p.isNone=b):=by
 unfold y3 at h
 split at h
 ·refine⟨_,_,h,fun _ κ' _ G w v _ hv=>?_⟩
  cases hv with|dv hv=>cases hv with|aH=>grind
 ·rcases h with h|⟨hl,h⟩
  ·refine⟨_,_,h,fun _ κ' _ G w v _ hv=>?_⟩
   cases hv with|dv hv=>cases hv with
   |slnil=>grind
   |sl=>grind
  ·refine⟨_,_,h,fun _ κ' _ G w v _ hv=>?_⟩
   cases hv with|dv hv=>cases hv with
   |slnil=>grind
   |sl=>grind
 ·rename_i i ver ep p
  split at h
  ·rename_i bA cu d hk
   have hh:=YE h;clear h;obtain⟨hb,h⟩:=hh
   obtain⟨rfl,fh⟩:=dJ hb
   obtain⟨nd,h,ec⟩:=b7 h
   split at h
   ·rename_i sz l
    have key:gd=true->∀κ',(∀j,j∈[i]->κ' j=κ j)->∀(G:Gh) (w:World) (v:Value),Fit G w κ'->aK G (.own i ver ep p) v->∃q m cc,v=.slice q m cc/\(l≠[]->q.isNone=false):=by
     intro aU κ' aA G w v hf hv
     obtain⟨u,e1,e2,e3⟩:=hf.node ((aA i (by simp)).trans hk) (ec aU) rfl
     cases hv with|own _ _ _ _ _ hh hc=>
     rw[de fh]at hh
     rw[hh]at e1;injection e1 with e1;subst e1
     rcases e3 with⟨x4,hx⟩|⟨gb,o,cap,c,tt,hx,_⟩
     ·grind
     grind
    grind
   grind
  grind
 ·refine⟨_,_,h,fun _ κ' _ G w v _ hv=>?_⟩
  cases hv with|cD _ _ a m hh=>grind
 grind
theorem WN{α:Type}{b:Bool}{x:Option α}{y:α}(h:(bif b then x else none)=some y):b=true/\x=some y:=by grind
theorem Gv{G:Gh}{w:World}{x y:AV}{u v:Value}{e:Bool}{f:TypeId}{k D:Nat}(hp:rS (P.underlying f)=k)(h:Dc k x y=some e)(hx:aK G x u)(hy:aK G y v):
 (Op.equalIn (D+1) f u v).run P w=.ok e w:=by
 unfold Dc at h
 split at h
 ·rename_i kk a k' b
  cases hk:kk==k' with
  |false=>grind
  |true=>
   rw[hk]at h
   have Fj:=by simpa using hk
   subst Fj
   injection h with h;subst h
   cases hx with|dv hx=>cases hx with|int=>cases hy with|dv hy=>cases hy with|int=>
   obtain⟨q,hq⟩:∃q,P.underlying f=some (.int q):=by
    unfold rS at hp
    grind
   grind [run_equalIn_int]
 ·injection h with h;subst h
  cases hx with|dv hx=>cases hx with|bool=>cases hy with|dv hy=>cases hy with|bool=>
  have hq:P.underlying f=some .bool:=by
   unfold rS at hp
   grind
  grind [run_equalIn_bool]
 ·injection h with h;subst h
  cases hx with|dv hx=>cases hx with|str=>cases hy with|dv hy=>cases hy with|str=>
  have hq:P.underlying f=some .string:=by
   unfold rS at hp
   grind
  grind [run_equalIn_string]
 grind
theorem tO{w:World}{e:TypeId}{k:Nat}(he:rS (P.underlying e)=k+1){xs:Array Value}{off:Nat}{v:Value}(hx:xs[off]?=some v):(part e xs off).run P w=.ok v w:=by
 unfold rS at he
 split at he
 ·simp_all [part,isAgg,run_underlying]
 ·simp_all [part,isAgg,run_underlying]
 ·simp_all [part,isAgg,run_underlying]
 grind
theorem tP{G:Gh}{w:World}{xs ys:Array Value}{D:Nat}:∀(fs:List Field) (i:Nat) (q:List Nat) (l r:List AV) (e:Bool),yF P i fs=some q->jH q l r=some e->
 (∀(j:Nat) (d:AV),l[j]?=some d->∃u,xs[i+j]?=some u/\aK G d u)->(∀(j:Nat) (d:AV),r[j]?=some d->∃u,ys[i+j]?=some u/\aK G d u)->
 (Op.eqFields (D+1) xs ys fs).run P w=.ok e w
 |[],i,q,l,r,e,hp,he,hx,hy=>by
  simp[yF,Option.some.injEq]at hp
  subst hp
  cases l<;>cases r<;>simp[jH]at he
  simp_all [Op.eqFields]
 |f::fs,i,q,l,r,e,hp,he,hx,hy=>by
  simp[yF]at hp
  obtain⟨hb,hp⟩:=WN hp
  simp only[adT,bne_iff_ne]at hb
  obtain⟨n1,o1⟩:=hb
  split at hp
  ·rename_i k q' hk S0
   injection hp with hp;subst hp
   cases l with
   |nil=>grind [jH]
   |cons x l=>cases r with
    |nil=>simp[jH]at he
    |cons y r=>
     simp[jH]at he
     split at he
     ·rename_i a b ha hb
      injection he with he;subst he
      obtain⟨u,hu,Ux⟩:=hx 0 x rfl
      obtain⟨v,hv,V1⟩:=hy 0 y rfl
      simp[Op.eqFields,n1,ne_eq,not_false_eq_true,if_true,Sem.run_bind,(adm o1)]
      rw[tO hk (by omega)]
      simp[Result.andThen_ok]
      rw[tO hk (by omega)]
      simp[Result.andThen_ok,(Gv (w:=w) (D:=D) hk ha Ux V1)]
      cases a with
      |false=>simp
      |true=>
       simp[Bool.true_and]
       exact tP fs _ q' l r b S0 hb (fun j d hd=>by have:=hx (j+1) d (by grind);rwa[show i+(j+1)=i+1+j by omega]at this)
        (fun j d hd=>by have:=hy (j+1) d (by grind);grind)
     grind
  grind
theorem YF(hT:fB P T){op:BinOp}{t ty:TypeId}{x y:Operand}(hg:cn ρ ops o.guard=some gd)(ho:o.op=.binOp op t x y ty){va vb:AV}(Yy:bH ρ κ gd x va)(Yz:bH ρ κ gd y vb)
 (h:Xg (nth T t) op va vb fun v=>bj n o gd nx k v []):Good P C ops n o nx ρ κ k:=by
 have hh:=YE h;clear h;obtain⟨hb,h⟩:=hh
 simp only[adT]at hb
 obtain⟨i,u,z,tf⟩:=hT.facts hb.1
 split at h
 ·rename_i x1 l r
  split at h
  ·rename_i e he
   have hk:=tf.kind
   rw[adm hb.2]at hk
   obtain⟨fs,rfl⟩:∃fs,u=.struct fs:=by
    cases u<;>simp[kindOf]at hk
    grind
   have heq:=tf.W8
   simp only[PK]at heq
   split at heq
   ·rename_i q hq
    cases hc:Nat.beq fs.toList.length i.size&& !P.stoodInHeld t&& !P.eqGuardType P.depth t with
    |false=>rw[hc]at heq;simp_all [jH]
    |true=>
     rw[hc]at heq
     simp[cond_true]at heq
     rw[heq]at he
     simp[adT,adV]at hc
     have hf:P.fieldsOf t=fs:=by simp[Program.fieldsOf,tf.B6]
     have core:∀(G:Gh) (w:World) (u v:Value),aK G (.agg (x1::l)) u->aK G (.agg r) v->∃us vs,u=.agg us/\v=.agg vs/\(Op.equalIn 10000 t u v).run P w=.ok e w:=by
      intro G w u v hu hv
      cases hu with|agg _ us hlu Ux=>cases hv with|agg _ vs hlv V1=>
      refine⟨_,_,rfl,rfl,?_⟩
      rw[run_equalIn_struct w 9999 t _ _ (by rw[hf];exact tf.B6) hc.1.2,hf]
      refine tP (G:=G) fs.toList 0 q _ _ e hq he (fun j d hd=>?_) (fun j d hd=>?_)
      ·have hj:=(adj.1 hd).1
       exact⟨us[j]'(by omega),by simp,Ux j d _ hd (abK (by omega))⟩
      ·have hj:=(adj.1 hd).1
       exact⟨vs[j]'(by omega),by simp,V1 j d _ hd (abK (by omega))⟩
     have fin:∀c:Bool,bj n o gd nx k (.dv (.bool c)) []->(∀(w:World) (us vs:Array Value),(Op.equalIn 10000 t (.agg us) (.agg vs)).run P w=.ok e w->(binOp op t (.agg us) (.agg vs)).run P w=.ok (.bool c) w)->Good P C ops n o nx ρ κ k:=by
      intro c iL bG
      refine bu (fun c=>by grind) hg iL fun ρ' κ' aA g a w G aq aU=>?_
      obtain⟨us,vs,e1,e2,e3⟩:=core G w _ _ (Yy ρ' κ' (aA.op (by grind [Op.operands])) g n a w G aq aU) (Yz ρ' κ' (aA.op (by grind [Op.operands])) g n a w G aq aU)
      refine⟨.bool c,?_,.dv (.bool c)⟩
      grind [execOp,Sem.run_bind,run_eqGuard_agg,Result.andThen_ok,Sem.run_pure]
     split at h
     ·exact fin e h fun w us vs h3=>by rw[run_eql_struct,h3];rfl
     ·exact fin (!e) h fun w us vs h3=>by rw[run_neq_struct,h3];rfl
     grind
   grind [jH]
  grind
 grind
theorem I8(hT:fB P T){op:BinOp}{t ty:TypeId}{x y:Operand}(hg:cn ρ ops o.guard=some gd)(ho:o.op=.binOp op t x y ty){av:AV}(bP:bH ρ κ gd x av)(J3:bH ρ κ gd y (.dv .aH))
 (h:Kw (nth T t) op κ gd av fun v rd=>bj n o gd nx k v rd):Good P C ops n o nx ρ κ k:=by
 obtain⟨hb,h⟩:=YE h
 simp[adT]at hb
 obtain⟨i,u,z,tf⟩:=hT.facts hb.1
 have hu:=tf.slice hb.2
 have core:∀(neg:Bool),(∀(w:World) (p:Option Addr) (l cc:Nat),(binOp op t (.slice p l cc) (.slice none 0 0)).run P w=.ok (.bool (bif neg then !p.isNone else p.isNone)) w)->(y3 κ gd av fun c rd=>bj n o gd nx k (Yb neg c) rd)->Good P C ops n o nx ρ κ k:=by
  intro neg bG h
  obtain⟨c,rd,hk,hs⟩:=DJ h
  refine bu (fun c=>by grind) hg hk fun ρ' κ' aA g a w G aq aU=>?_
  have h2:=J3 ρ' κ' (aA.op (by grind [Op.operands])) g n a w G aq aU
  obtain⟨p,l,cc,hv,hp⟩:=hs aU κ' aA.reads G w _ aq.fit (bP ρ' κ' (aA.op (by grind [Op.operands])) g n a w G aq aU)
  generalize hy:a.eval y=vy at h2
  cases h2 with|dv h2=>cases h2 with|aH=>
  refine⟨.bool (bif neg then !p.isNone else p.isNone),?_,?_⟩
  ·simp_all [execOp,iU,Sem.run_pure]
  ·cases c with
   |none=>exact .dv (.oU _)
   |some b=>rw[hp b rfl];exact .dv (.bool _)
 split at h
 ·simp_all [binOp,hJ,cond_false]
 ·simp_all [binOp,hJ,cond_true]
 grind
theorem I9(hT:fB P T){s t:TypeId}{x:Operand}{kx kd:IntKind}{m:Int}(hg:cn ρ ops o.guard=some gd)(ho:o.op=.convert s t x)(hs:(nth T s).ok=true)(ht:(nth T t).ok=true)(hi:(nth T t).Nx=some kd)(hk:bj n o gd nx k (.dv (.int kd (kd.wrap m))) [])(bP:bH ρ κ gd x (.dv (.int kx m))):Good P C ops n o nx ρ κ k:=by
 obtain⟨i1,u1,z1,tf1⟩:=hT.facts hs
 obtain⟨i2,u2,z2,tf2⟩:=hT.facts ht
 refine bu (fun c=>by grind) hg hk fun ρ' κ' aA g a w G aq aU=>?_
 have hv:=bP ρ' κ' (aA.op (by grind [Op.operands])) g n a w G aq aU
 generalize hx:a.eval x=v at hv
 cases hv with|dv hv=>cases hv with|int=>
 have h2:=tf2.Nx
 rw[hi]at h2
 cases u2<;>simp[JF]at h2
 subst h2
 refine⟨.int kd _,?_,.dv (.int _ _)⟩
 simp[execOp,ho,hx,convert,run_underlying tf1.B6,run_underlying tf2.B6,Conv.intToInt]
theorem RS(hT:fB P T){t:TypeId}{x ix:Operand}{kx:IntKind}{m:Int}{s:ByteArray}{b:UInt8}(hg:cn ρ ops o.guard=some gd)(ho:o.op=.index t x ix)(ht:(nth T t).ok=true)(aq:(nth T t).isStr=true)(hb:gd=true->0<=m/\s[m.toNat]?=some b)(hk:bj n o gd nx k (.dv (.int .u8 b.toNat)) [])(bP:bH ρ κ gd x (.dv (.str s)))(pY:bH ρ κ gd ix (.dv (.int kx m))):Good P C ops n o nx ρ κ k:=by
 obtain⟨i1,u1,z1,tf1⟩:=hT.facts ht
 have hu:=tf1.string aq
 refine bu (fun c=>by grind) hg hk fun ρ' κ' aA g a w G aq aU=>?_
 have hv:=bP ρ' κ' (aA.op (by grind [Op.operands])) g n a w G aq aU
 have hi:=pY ρ' κ' (aA.op (by grind [Op.operands])) g n a w G aq aU
 generalize hx:a.eval x=v at hv
 generalize hy:a.eval ix=u at hi
 cases hv with|dv hv=>cases hv with|str=>
 cases hi with|dv hi=>cases hi with|int=>
 obtain⟨h0,hb⟩:=hb aU
 refine⟨.int .u8 b.toNat,?_,.dv (.int _ _)⟩
 simp_all [execOp,Instr.index,asIntOf,run_underlying]
theorem YG{x y:Operand}{c:Call}{p q:Int}(hg:cn ρ ops o.guard=some gd)(ho:o.op=.call c)(hc:c.callee=.builtin .min)(ha:c.args.toList=[x,y])
 (hk:bj n o gd nx k (.dv (.int .i64 (if q<p then q else p))) []) (bP:bH ρ κ gd x (.dv (.int .i64 p))) (pY:bH ρ κ gd y (.dv (.int .i64 q))):Good P C ops n o nx ρ κ k:=by
 have dp:c.args=#[x,y]:=Array.ext' (by grind)
 refine bu (fun c=>by grind) hg hk fun ρ' κ' aA g a w G aq aU=>?_
 have hv:=bP ρ' κ' (aA.op (by grind [Op.operands,Call.operands])) g n a w G aq aU
 have eB:=pY ρ' κ' (aA.op (by grind [Op.operands,Call.operands])) g n a w G aq aU
 generalize hx:a.eval x=v at hv
 generalize hi:a.eval y=vi at eB
 cases eB with|dv eB=>cases eB with|int=>
 cases hv with|dv hv=>cases hv with|int=>
 refine⟨_,?_,.dv (.int _ _)⟩
 simp_all [execOp,resolve,invoke,builtin,Builtin.min_,Builtin.min2]
theorem YH{x y:Operand}{c:Call}{p q:Int}(hg:cn ρ ops o.guard=some gd)(ho:o.op=.call c)(hc:c.callee=.builtin .max)(ha:c.args.toList=[x,y])
 (hk:bj n o gd nx k (.dv (.int .i64 (if p<q then q else p))) []) (bP:bH ρ κ gd x (.dv (.int .i64 p))) (pY:bH ρ κ gd y (.dv (.int .i64 q))):Good P C ops n o nx ρ κ k:=by
 have dp:c.args=#[x,y]:=Array.ext' (by grind)
 refine bu (fun c=>by grind) hg hk fun ρ' κ' aA g a w G aq aU=>?_
 have hv:=bP ρ' κ' (aA.op (by grind [Op.operands,Call.operands])) g n a w G aq aU
 have eB:=pY ρ' κ' (aA.op (by grind [Op.operands,Call.operands])) g n a w G aq aU
 generalize hx:a.eval x=v at hv
 generalize hi:a.eval y=vi at eB
 cases eB with|dv eB=>cases eB with|int=>
 cases hv with|dv hv=>cases hv with|int=>
 refine⟨_,?_,.dv (.int _ _)⟩
 simp_all [execOp,resolve,invoke,builtin,Builtin.max_,Builtin.max2]
def oa(ρ:Nat->AV)(κ:Nat->ax)(g:Bool):List (Nat×Operand)->List (Nat×AV)->Prop
 |[],[]=>True
 |(i,x)::r,(j,v)::l=>i=j/\bH ρ κ g x v/\oa ρ κ g r l
 |_,_=>False
theorem mq:∀{l:List (Nat×Operand)} {k:List (Nat×AV)->Prop},sT ρ κ gd l k->∃r,k r/\oa ρ κ gd l r
 |[],k,h=>⟨[],h,tv⟩
 |(i,x)::l,k,h=>by
  obtain⟨v,h,hv⟩:=aL h
  obtain⟨r,h,hr⟩:=mq h
  exact⟨_,h,rfl,hv,hr⟩
theorem fZ:∀{l:List AV},cq l=true->∀v,v∈l->v.ao=true
 |[],_,v,h=>by grind
 |x::l,h,v,hv=>by
  simp[cq,adT]at h
  rcases adp.1 hv with rfl|hv
  ·grind
  ·exact fZ h.2 v hv
section
variable {G:Gh}
theorem cG.dc{l:List AV}{vs:List Value}(h:cG G l vs)(hc:cq l=true):∀v,v∈vs->v.oneCell'=true:=by
 intro v hv
 obtain⟨j,hj,rfl⟩:=List.getElem_of_mem hv
 have zD:j<l.length:=by rwa[h.1]
 exact(h.2 j l[j] vs[j] (abK zD) (abK hj)).dc (fZ hc _ (adP zD))
theorem na{av:AV}{v:Value}(h:aK G av v)(hc:cq (cellsOf av)=true):cG G (cellsOf av) v.cells.toList:=by
 cases av with
 |agg l=>
  cases h with
  |agg _ vs hl hr=>exact⟨by assumption,by assumption⟩
 |_=>
  simp[cellsOf,cq,Bool.and_true]at hc
  have h1:=h.dc hc
  have:v.cells=#[v]:=by cases v<;>first|rfl|grind [Value.oneCell']
  rw[this]
  refine⟨rfl,fun j d u hd hu=>?_⟩
  cases j with
  |zero=>grind [cellsOf]
  |succ j=>simp[cellsOf]at hd
theorem cG.iQ{l:List AV}{vs:List Value}{l':List AV}{SU:List Value}(h:cG G l vs)(h':cG G l' SU)(off:Nat)(hle:off+l'.length<=l.length):
 cG G (iQ l off l') (vs.take off++SU++vs.drop (off+SU.length)):=by
 have e:=h.1
 have e':=h'.1
 constructor
 ·grind [TM.iQ]
 ·intro j d v hd hv
  simp[TM.iQ,adJ]at hd hv
  rw[List.getElem?_append]at hd hv
  simp[adD]at hd hv
  by_cases h1:j<off
  ·rw[if_pos (by omega)]at hd hv
   rw[List.getElem?_take,if_pos h1]at hd hv
   exact h.2 j d v hd hv
  ·rw[if_neg (by omega)]at hd hv
   rw[List.getElem?_append]at hd hv
   rw[show min off l.length=off by omega]at hd
   rw[show min off vs.length=off by omega]at hv
   by_cases h2:j-off<l'.length
   ·rw[if_pos h2]at hd
    rw[if_pos (by omega)]at hv
    exact h'.2 _ d v hd hv
   ·rw[if_neg h2]at hd
    rw[if_neg (by omega)]at hv
    rw[List.getElem?_drop]at hd hv
    rw[<-e']at hv
    exact h.2 _ d v hd hv
theorem Gw(off:Nat):∀(vs:List Value) (i:Nat) (cur:Array Value),off+i+vs.length<=cur.size->
 ((vs.zipIdx i).foldl (fun cs (p:Value×Nat)=>cs.setIfInBounds (off+p.2) p.1) cur).toList=cur.toList.take (off+i)++vs++cur.toList.drop (off+i+vs.length)
 |[],i,cur,_=>by simp
 |v::rest,i,cur,hl=>by
  simp[List.zipIdx_cons,List.foldl_cons]
  rw[Gw off rest _ _ (by grind)]
  simpa[Nat.add_assoc]using (list_seg_step cur.toList (off+i) v rest (by grind))
theorem sb(place:Nat->Option (Nat×Nat)):∀(parts:List (Nat×AV)) (Ja:List (Nat×Value)) (l l':List AV) (cs:Array Value),
 (parts.length=Ja.length/\∀(j:Nat) (p:Nat×AV) (q:Nat×Value),parts[j]?=some p->Ja[j]?=some q->p.1=q.1/\aK G p.2 q.2)->cG G l cs.toList->qV place l parts=some l'->
 ∃YI,Instr.fill place cs Ja=some YI/\cG G l' YI.toList
 |[],[],l,l',cs,_,hc,h=>by simp[qV]at h;subst h;exact⟨cs,rfl,hc⟩
 |[],q::vr,l,l',cs,hp,_,_=>by grind
 |p::r,[],l,l',cs,hp,_,_=>by grind
 |(i,av)::r,(i',v)::vr,l,l',cs,hp,hc,h=>by
  have h0:=hp.2 0 (i,av) (i',v) rfl rfl
  simp at h0
  obtain⟨rfl,hv⟩:=h0
  simp[qV,Be]at h
  split at h
  ·grind
  ·rename_i off sz K8
   cases hb:(Nat.beq (cellsOf av).length sz&&Nat.ble (off+sz) l.length&&cq (cellsOf av))with
   |false=>grind
   |true=>
    rw[hb]at h
    simp[cond_true]at h
    simp only[adT]at hb
    obtain⟨⟨ji,ct⟩,GW⟩:=hb
    have ji:=adm ji
    have ct:=Nat.le_of_ble_eq_true ct
    have jV:=na hv GW
    have ck:v.cells.size=sz:=by rw[<-ji,jV.1];simp
    have hls:l.length=cs.size:=by rw[hc.1];simp
    have kr:((v.cells.zipIdx.foldl (fun cs (p)=>cs.setIfInBounds (off+p.2) p.1) cs).toList)=cs.toList.take off++v.cells.toList++cs.toList.drop (off+v.cells.toList.length):=by
     rw[<-Array.foldl_toList,Array.toList_zipIdx]
     simp_all [Gw]
    have AO:cG G (iQ l off (cellsOf av)) (v.cells.zipIdx.foldl (fun cs (p)=>cs.setIfInBounds (off+p.2) p.1) cs).toList:=by
     rw[kr]
     exact hc.iQ jV off (by omega)
    obtain⟨YI,h1,h2⟩:=sb place r vr _ l' _ ⟨by grind,fun j p q YD S0=>hp.2 (j+1) p q (by grind) (by simpa using S0)⟩ AO h
    refine⟨YI,?_,h2⟩
    simp[Instr.fill,K8,ck]
    grind
end
theorem oa.rel{ρ':Nat->AV}{κ':Nat->ax}{g:eb}{a:Act}{w:World}{G:Gh}(aq:cE g n ρ' κ' a w G)(aU:gd=true):
 ∀{l:List (Nat×Operand)} {r:List (Nat×AV)},oa ρ κ gd l r->(∀p,p∈l->I3 ρ ρ' κ κ' p.2)->
  (r.length=(l.map fun p=>(p.1,a.eval p.2)).length/\∀(j:Nat) (p:Nat×AV) (q:Nat×Value),r[j]?=some p->(l.map fun p=>(p.1,a.eval p.2))[j]?=some q->p.1=q.1/\aK G p.2 q.2)
 |[],[],_,_=>⟨rfl,by simp⟩
 |[],_::_,h,_=>h.elim
 |_::_,[],h,_=>h.elim
 |(i,x)::l,(j,v)::r,⟨K4,hv,h⟩,aA=>by
  obtain⟨h1,h2⟩:=oa.rel aq aU h (fun p hp=>aA p (by grind))
  refine⟨by grind,fun jj p q hp hq=>?_⟩
  cases jj with
  |zero=>simp at hp hq;subst hp;subst hq;exact⟨K4.symm,(hv ρ' κ' (aA (i,x) (by simp)) g n a w G aq aU)⟩
  |succ jj=>grind
theorem Gx{w:World}(fs:List Field)(h:∀f,f∈fs->∃j,P.info? f.type=some j):((fs.toArray.mapM fun f=>do pure (f.offset,<-sizeOf f.type)):Sem (Array (Nat×Nat))).run P w=.ok (fs.map fun f=>(f.offset,match P.info? f.type with|some j=>j.size|none=>0)).toArray w:=by
 have key:∀(l:List Field),(∀f,f∈l->∃j,P.info? f.type=some j)->((l.mapM fun f=>do pure (f.offset,<-sizeOf f.type)):Sem _).run P w=.ok (l.map fun f=>(f.offset,match P.info? f.type with|some j=>j.size|none=>0)) w:=by
  intro l
  induction l with
  |nil=>simp_all
  |cons f r ih=>
   simp_all [j8,List.map_cons]
 simp_all
theorem RT(hT:fB P T){t:Nat}{parts:Array (Nat×Operand)}{l:List (Nat×AV)}{cs:List AV}(hg:cn ρ ops o.guard=some gd)(ho:o.op=.build t parts)(cI:(nth T t).ok=true)
 (hp:oa ρ κ gd parts.toList l) (ou:qV (fun i=>(nth T t).fields[i]?) (fp (nth T t).zero) l=some cs) (acB:Nat.beq (nth T t).kind 9=true) (hk:bj n o gd nx k (.agg cs) []):Good P C ops n o nx ρ κ k:=by
 obtain⟨ti,u,z,tf⟩:=hT.facts cI
 have hu:∃fs,u=.struct fs:=by
  have h1:=tf.kind
  rw[adm acB]at h1
  cases u<;>simp[kindOf]at h1
  grind
 obtain⟨fs,rfl⟩:=hu
 refine bu (fun c=>by grind) hg hk fun ρ' κ' aA g a w G aq aU=>?_
 have HK:=fun p YD=>aA.op (by
  rw[ho]
  simp only[Op.operands,List.mem_toArray,adK]
  exact⟨p,YD,rfl⟩)
 have hz:=by
  exact jC (ez (M:=G.M) tf.zc).1
 obtain⟨YI,h3,h4⟩:=sb _ l _ _ cs z.cells (hp.rel aq aU HK) hz ou
 have acC:=by
  have:=aK.agg cs YI.toList h4.1 h4.2
  omega
 refine⟨.agg YI,?_,acC⟩
 ·have K8:((fs.mapM fun f=>do pure (f.offset,<-sizeOf f.type)):Sem _).run P w=.ok (nth T t).fields.toArray w:=by
   have:=Gx (w:=w) fs.toList (fun f hf=>by
    have:=tf.fin
    simp only[yE,adH]at this
    exact Option.isSome_iff_exists.1 (this f hf))
   rw[this,tf.fields]
   rfl
  simp[execOp,ho,Instr.build,Sem.run_bind,tf.tN w,run_underlying tf.B6,K8]
  simp_all
end
end
section
open Go.RowKit
variable [cy]
theorem qD{i j sz:Nat}(hj:j<sz):(i*sz+j)/sz=i/\(i*sz+j)%sz=j:=by
 grind [Nat.mul_comm,Nat.mul_add_div,Nat.div_eq_of_lt,Nat.mul_add_mod,Nat.mod_eq_of_lt]
theorem pZ{i j n sz:Nat}(hi:i<n)(hj:j<sz):i*sz+j<n*sz:=by
 have:(i+1)*sz<=n*sz:=adN _ hi
 grind
def uY(w:World)(v:Value)(sz:Nat)(l:List DV)(R:Nat->Nat->DV->Value->Prop):Prop:=
 (l=[]/\v=.slice none 0 0)\/
 ∃g o cap c t,v=.slice (some ⟨g,o,none⟩) l.length cap/\l.length<=cap/\w.heap[g]?=some (.cells c t (0,0))/\o+cap*sz<=c.size/\
  ∀(i:Nat) (x:DV),l[i]?=some x->x.cells.length=sz/\∀(j:Nat) (d:DV),x.cells[j]?=some d->d.ao=true/\∃u,c[o+i*sz+j]?=some u/\R i j d u
theorem gX{M:Mem}{w:World}{v:Value}{hc:PS->Option Value}{sz:Nat}{l:List DV}:cR M w v hc (.aI sz l)↔uY w v sz l fun i j d u=>dM M (hc (.el i j)) d u:=Iff.rfl
def p5(w:World)(v:Value)(sz:Nat)(l:List DV)(S:Nat->Nat->DV->Value->Prop):Prop:=
 (∃c,v=.slice none 0 c/\l=[])\/
 ∃(A:Addr) (cap:Nat) (cell:Nat->Nat->Value),v=.slice (some A) l.length cap/\∀(i:Nat) (x:DV),l[i]?=some x->x.cells.length=sz/\
  ∀(j:Nat) (d:DV),x.cells[j]?=some d->d.ao=true/\w.cell? (A.add (i*sz+j))=some (cell i j)/\(cell i j).oneCell'=true/\S i j d (cell i j)
section
variable {w:World}
theorem p5.aby{M:Mem}{sz:Nat}{l:List DV}{v:Value}(dz:M.In w)(h:bq M (.sl sz l) v):p5 w v sz l fun _ _ d u=>bq M d u:=by
 cases h with
 |slnil=>exact .inl ⟨0,rfl,rfl⟩
 |sl _ _ A cap cell eP hlen hc hr=>
  refine .inr ⟨A,cap,cell,rfl,fun i x hx=>?_⟩
  have hm:=hlen x (adl hx)
  refine⟨hm.1,fun j d hd=>⟨hm.2 d (adl hd),dz.cell (hc i j (adj.1 hx).1 ?_),(hr i x j d hx hd).dc (hm.2 d (adl hd)),hr i x j d hx hd⟩⟩
  grind
theorem p5.RU{sz:Nat}{l:List DV}{v:Value}{R:Nat->Nat->DV->Value->Prop}(h:uY w v sz l R)(h1:∀i j d u,R i j d u->d.ao=true->u.oneCell'=true):p5 w v sz l R:=by
 rcases h with⟨rfl,rfl⟩|⟨g,o,cap,c,t,rfl,eP,hw,ck,D4⟩
 ·exact .inl ⟨0,rfl,rfl⟩
 ·refine .inr ⟨⟨g,o,none⟩,cap,fun i j=>c.getD (o+i*sz+j) undef,rfl,fun i x hx=>?_⟩
  obtain⟨a1,a2⟩:=D4 i x hx
  refine⟨a1,fun j d hd=>?_⟩
  obtain⟨b1,u,hu,hr⟩:=a2 j d hd
  have e:c.getD (o+i*sz+j) undef=u:=by simp_all
  grind [eW,World.cell?,undef]
theorem p5.mono{sz:Nat}{l l':List DV}{v:Value}{S S':Nat->Nat->DV->Value->Prop}(h:p5 w v sz l S)(hl:l.length=l'.length)
 (hx:∀(i:Nat) (x y:DV),l[i]?=some x->l'[i]?=some y->x.cells.length=y.cells.length/\∀(j:Nat) (d e:DV) (u:Value),x.cells[j]?=some d->y.cells[j]?=some e->d.ao=true->S i j d u->e.ao=true/\S' i j e u):p5 w v sz l' S':=by
 rcases h with⟨c,rfl,rfl⟩|⟨A,cap,cell,rfl,hh⟩
 ·exact .inl ⟨c,rfl,by simpa using hl.symm⟩
 ·refine .inr ⟨A,cap,cell,by grind,fun i y hy=>?_⟩
  have hi:i<l.length:=by grind
  obtain⟨a1,a2⟩:=hh i _ (abK hi)
  obtain⟨b1,b2⟩:=hx i _ y (abK hi) hy
  refine⟨by omega,fun j e he=>?_⟩
  have hj:j<l[i].cells.length:=by grind
  obtain⟨c1,c2,c3,c4⟩:=a2 j _ (abK hj)
  obtain⟨d1,d2⟩:=b2 j _ e _ (abK hj) he c1 c4
  exact⟨d1,c2,c3,d2⟩
def fg(sz n:Nat)(cell:Nat->Nat->Value):List Value:=(List.range (n*sz)).map fun q=>cell (q/sz) (q%sz)
theorem jK(sz n:Nat)(cell:Nat->Nat->Value):(fg sz n cell).length=n*sz:=by simp[fg]
theorem nb{sz n i j:Nat}(cell:Nat->Nat->Value)(hi:i<n)(hj:j<sz):(fg sz n cell)[i*sz+j]?=some (cell i j):=by
 grind [qD,fg,pZ]
theorem uZ{P:Program}(t ty e:TypeId)(i:TypeInfo)(ht:P.underlying t=some (.slice e))(hi:P.info? e=some i)
 (g o Jb YJ:Nat) (cur:Array Value) (tt:TypeId) (hg:w.heap[g]?=some (.cells cur tt (0,0)))
 (a:Addr) (m c:Nat) (news:List Value) (hl:news.length=m*i.size) (BB:∀j u,news[j]?=some u->w.cell? (a.add j)=some u) (h1:∀u∈news,u.oneCell'=true)
 (Gy:Jb+m<=YJ) (di:o+Jb*i.size+news.length<=cur.size):
 (Builtin.append_ #[t,t] ty #[.slice (some ⟨g,o,none⟩) Jb YJ,.slice (some a) m c]).run P w=
  .ok (.slice (some ⟨g,o,none⟩) (Jb+m) YJ) (w.setRow g (cur.toList.take (o+Jb*i.size)++news++cur.toList.drop (o+Jb*i.size+news.length)).toArray):=by
 have aq:=run_storeCells_at P g (o+Jb*i.size) tt news 0 cur w hg (by grind) h1
 simp[Nat.add_zero]at aq
 simp[Builtin.append_,run_underlying ht,sizeOf,typeInfo,hi,Builtin.lenOf,Gy,(run_firstCells_some (P:=P) w i.size m a m c news hl BB),eW,aq]
def tQ(n:Nat)(R S:Nat->Nat->DV->Value->Prop):Nat->Nat->DV->Value->Prop:=fun i j d u=>if i<n then R i j d u else S (i-n) j d u
def KV(w:World)(v v':Value)(w':World)(zs:List DV):Prop:=∀a n,v=.slice (some a) n n->zs≠[]->(∀b,b<w.heap.size->w'.heap[b]?=w.heap[b]?)/\∀b,c5 v'=some b->w.heap.size<=b
theorem zp{P:Program}{t ty e:TypeId}{ti:TypeInfo}{z:Value}(ht:P.underlying t=some (.slice e))(hi:P.info? e=some ti)(hz:ti.zero=some z)(Zr:z.cells.size=ti.size)(dK:0<ti.size)
 {v sv:Value} {xs zs:List DV} {R S:Nat->Nat->DV->Value->Prop} (pS:uY w v ti.size xs R) (lx:p5 w sv ti.size zs S)
 (D9:xs.length+zs.length<=9223372036854775807) (Ad:(xs.length+zs.length)*ti.bytes<=140737488355328):
 ∃v' w',(Builtin.append_ #[t,t] ty #[v,sv]).run P w=.ok v' w'/\uY w' v' ti.size (xs++zs) (tQ xs.length R S)/\w.grownBy w' (c5 v)/\(∀b,c5 v'=some b->w.heap.size<=b\/c5 v=some b)/\v'.oneCell'=true/\KV w v v' w' zs:=by
 have RV:∀{c:Array Value} {o:Nat},(∀(i:Nat) (x:DV),xs[i]?=some x->x.cells.length=ti.size/\∀(j:Nat) (d:DV),x.cells[j]?=some d->d.ao=true/\∃u,c[o+i*ti.size+j]?=some u/\R i j d u)->
  ∀(i:Nat) (x:DV),xs[i]?=some x->x.cells.length=ti.size/\∀(j:Nat) (d:DV),x.cells[j]?=some d->d.ao=true/\∃u,c[o+i*ti.size+j]?=some u/\tQ xs.length R S i j d u:=by
  intro c o hh i x hx
  obtain⟨a1,a2⟩:=hh i x hx
  refine⟨a1,fun j d hd=>?_⟩
  obtain⟨b1,u,b2,b3⟩:=a2 j d hd
  refine⟨b1,u,b2,?_⟩
  unfold tQ
  rwa[if_pos (adj.1 hx).1]
 have oI:zs=[]->(Builtin.append_ #[t,t] ty #[v,sv]).run P w=.ok v w->∃v' w',(Builtin.append_ #[t,t] ty #[v,sv]).run P w=.ok v' w'/\uY w' v' ti.size (xs++zs) (tQ xs.length R S)/\w.grownBy w' (c5 v)/\(∀b,c5 v'=some b->w.heap.size<=b\/c5 v=some b)/\v'.oneCell'=true/\KV w v v' w' zs:=by
  rintro rfl hr
  refine⟨v,w,hr,?_,World.grownBy.refl w _,fun b hb=>.inr hb,(by rcases pS with⟨_,rfl⟩|⟨_,_,_,_,_,rfl,_⟩<;>rfl),nofun⟩
  rw[List.append_nil]
  rcases pS with h|⟨g,o,cap,cc,tt,hv,eP,hw,ck,D4⟩
  ·exact .inl h
  ·exact .inr ⟨g,o,cap,cc,tt,hv,eP,hw,ck,RV D4⟩
 rcases lx with⟨c,rfl,x4⟩|⟨A,RW,cell,rfl,cV⟩
 ·refine oI x4 ?_
  rcases pS with⟨_,rfl⟩|⟨g,o,cap,cc,tt,rfl,eP,hw,ck,D4⟩
  ·simp[Builtin.append_,run_underlying ht,sizeOf,typeInfo,hi,Builtin.lenOf,Builtin.firstCells]
  ·simp[Builtin.append_,run_underlying ht,sizeOf,typeInfo,hi,Builtin.lenOf,Builtin.firstCells,eP,storeCells]
 ·obtain⟨m,nT⟩:∃m,m=zs.length:=⟨_,rfl⟩
  rw[<-nT]at D9 Ad oI⊢
  have hlen:(fg ti.size m cell).length=m*ti.size:=jK _ _ _
  have hq:∀q,q<m*ti.size->q/ti.size<m/\q%ti.size<ti.size/\q=q/ti.size*ti.size+q%ti.size:=fun q hq=>
   ⟨(Nat.div_lt_iff_lt_mul dK).2 hq,Nat.mod_lt _ dK,by have:=Nat.div_add_mod q ti.size;rw[Nat.mul_comm]at this;exact this.symm⟩
  have BB:∀j u,(fg ti.size m cell)[j]?=some u->w.cell? (A.add j)=some u:=by
   intro q u hu
   obtain⟨h1,h2,h3⟩:=hq q (by rw[<-hlen];exact(adj.1 hu).1)
   obtain⟨hl1,hl3⟩:=cV (q/ti.size) (zs[q/ti.size]'(by omega)) (abK (by omega))
   have:=(hl3 (q%ti.size) _ (abK (by rwa[hl1]))).2.1
   rw[h3]at hu⊢
   rw[nb cell h1 h2]at hu
   rwa[this]
  have Aa:∀u,u∈fg ti.size m cell->u.oneCell'=true:=by
   intro u hu
   obtain⟨q,S0,rfl⟩:=List.getElem_of_mem hu
   obtain⟨h1,h2,h3⟩:=hq q (by rwa[<-hlen])
   obtain⟨hl1,hl3⟩:=cV (q/ti.size) (zs[q/ti.size]'(by omega)) (abK (by omega))
   have:=(hl3 (q%ti.size) _ (abK (by rwa[hl1]))).2.2.1
   have he:(fg ti.size m cell)[q]=cell (q/ti.size) (q%ti.size):=by simp[fg]
   rwa[he]
  have reads:∀(c':Array Value) (o':Nat),
   (∀(i:Nat) (x:DV),xs[i]?=some x->x.cells.length=ti.size/\∀(j:Nat) (d:DV),x.cells[j]?=some d->d.ao=true/\∃u,c'[o'+i*ti.size+j]?=some u/\R i j d u)->
   (∀q,q<m*ti.size->c'[o'+xs.length*ti.size+q]?=(fg ti.size m cell)[q]?)->
   ∀(i:Nat) (x:DV),(xs++zs)[i]?=some x->x.cells.length=ti.size/\∀(j:Nat) (d:DV),x.cells[j]?=some d->d.ao=true/\∃u,c'[o'+i*ti.size+j]?=some u/\tQ xs.length R S i j d u:=by
   intro c' o' hold kr i x hx
   rw[List.getElem?_append]at hx
   split at hx
   ·exact RV hold i x hx
   ·rename_i jw
    obtain⟨h1,h3⟩:=cV _ x hx
    have aB:i-xs.length<m:=by rw[nT];exact(adj.1 hx).1
    refine⟨h1,fun j d hd=>?_⟩
    have hj:j<ti.size:=by rw[<-h1];exact(adj.1 hd).1
    obtain⟨k1,k2,k3,k4⟩:=h3 j d hd
    refine⟨k1,cell (i-xs.length) j,?_,by unfold tQ;rwa[if_neg jw]⟩
    have:=kr ((i-xs.length)*ti.size+j) (pZ aB hj)
    rw[nb cell aB hj]at this
    rw[<-this]
    congr 1
    have:i*ti.size=xs.length*ti.size+(i-xs.length)*ti.size:=by rw[<-Nat.add_mul];congr 1;omega
    omega
  by_cases D3:m=0
  ·subst D3
   clear reads Aa BB hq hlen cV
   refine oI (List.eq_nil_of_length_eq_zero (by omega)) ?_
   clear oI RV
   rcases pS with⟨_,rfl⟩|⟨g,o,cap,cc,tt,rfl,eP,hw,ck,D4⟩
   ·simp[Builtin.append_,run_underlying ht,sizeOf,typeInfo,hi,Builtin.lenOf,Builtin.firstCells,loadCells,loadCellsFrom]
   ·simp[Builtin.append_,run_underlying ht,sizeOf,typeInfo,hi,Builtin.lenOf,Builtin.firstCells,eP,storeCells,loadCells,loadCellsFrom]
  ·have RX:∀(Vf:List Value) (cp:Nat),Vf.length=xs.length*ti.size->xs.length+m<=cp->(∀(i:Nat) (x:DV),xs[i]?=some x->x.cells.length=ti.size/\∀(j:Nat) (d:DV),x.cells[j]?=some d->d.ao=true/\∃u,Vf[i*ti.size+j]?=some u/\R i j d u)->
       uY (w.drew.alloc (.cells (Vf.toArray++(fg ti.size m cell).toArray++Builtin.zeroCells z.cells (cp-(xs.length+m))) e)) (.slice (some ⟨w.heap.size,0,none⟩) (xs.length+m) cp) ti.size (xs++zs) (tQ xs.length R S):=by
    intro Vf cp Xx hcp hold
    refine .inr ⟨w.heap.size,0,cp,_,e,by simp[nT],by simpa[nT]using hcp,cK w.drew _,?_,reads _ 0 ?_ ?_⟩
    ·simp only[Array.size_append,List.size_toArray,size_zeroCells,Zr,Xx,hlen,<-Nat.add_mul,Nat.zero_add]
     exact adN _ (by omega)
    ·intro i x hx
     obtain⟨h1,h3⟩:=hold i x hx
     refine⟨h1,fun j d hd=>?_⟩
     obtain⟨k1,u,hu,hr⟩:=h3 j d hd
     refine⟨k1,u,?_,hr⟩
     have aB:=(adj.1 hu).1
     rw[Nat.zero_add,Array.getElem?_append,if_pos (by simp;omega),Array.getElem?_append,if_pos (by simpa using aB)]
     simpa using hu
    ·intro q S0
     rw[Nat.zero_add,Array.getElem?_append,if_pos (by simp[hlen,Xx];omega),Array.getElem?_append,if_neg (by simp[Xx])]
     simp[Xx]
   rcases pS with⟨rfl,rfl⟩|⟨g,o,cap,cc,tt,rfl,eP,hw,ck,D4⟩
   ·have hg:=RX [] (grownCap w m 0 e) (by simp) (by simpa using grownCap_ge w m 0 e) (by simp)
    simp only[List.length_nil,Nat.zero_add,Array.empty_append]at hg
    refine⟨_,_,(run_append_nil w t ty e ti z ht hi hz A m RW (fg ti.size m cell) hlen BB (by omega) (by simp at D9;omega) (by simp at Ad;omega)),by simpa using hg,⟨rfl,rfl,rfl,by simp,fun q hq _=>bC w.drew _ hq⟩,fun b hb=>?_,rfl,nofun⟩
    simp[c5]at hb;exact .inl (by omega)
   ·by_cases Gy:xs.length+m<=cap
    ·have di:o+xs.length*ti.size+(fg ti.size m cell).length<=cc.size:=by
      rw[hlen]
      have:(xs.length+m)*ti.size<=cap*ti.size:=adN _ Gy
      rw[Nat.add_mul]at this
      omega
     have hr:=uZ t ty e ti ht hi g o xs.length cap cc tt hw A m RW (fg ti.size m cell) hlen BB Aa Gy di
     refine⟨_,_,hr,.inr ⟨g,o,cap,_,tt,by simp[nT],by simpa[nT]using Gy,setRow_heap w g cc _ tt _ hw,?_,reads _ o ?_ ?_⟩,⟨rfl,rfl,rfl,by simp,fun q _ hq=>setRow_other w g q _ (fun x=>hq (by simp[c5,x]))⟩,fun b hb=>.inr hb,rfl,fun a n e hz=>?_⟩
     ·simp only[List.size_toArray,adv,adD,List.length_drop,Array.length_toList]
      omega
     ·intro i x hx
      obtain⟨h1,h3⟩:=D4 i x hx
      refine⟨h1,fun j d hd=>?_⟩
      obtain⟨k1,u,hu,hr⟩:=h3 j d hd
      refine⟨k1,u,?_,hr⟩
      have hj:j<ti.size:=by rw[<-h1];exact(adj.1 hd).1
      have Fi:=pZ (adj.1 hx).1 hj
      have Fz:=(adw.1 hu).1
      simp only[List.getElem?_toArray,adJ]
      rw[List.getElem?_append_left (by simp;omega),List.getElem?_take,if_pos (by omega)]
      simpa using hu
     ·intro q S0
      simp only[List.getElem?_toArray,adJ]
      rw[List.getElem?_append_right (by simp;omega),List.getElem?_append_left (by simp;omega)]
      congr 1
      simp;omega
     ·exfalso
      simp only[Value.slice.injEq]at e
      have:=fun h=>hz (List.eq_nil_of_length_eq_zero h)
      omega
    ·have holds:∀j u,((List.range (xs.length*ti.size)).map fun q=>cc.getD (o+q) undef)[j]?=some u->w.cell? ((⟨g,o,none⟩:Addr).add j)=some u:=by
      intro j u hj
      simp only[adk]at hj
      by_cases aB:j<xs.length*ti.size
      ·simp only[List.getElem?_range aB,Option.map_some]at hj
       injection hj with hj
       have ru:o+j<cc.size:=by
        have:xs.length*ti.size<=cap*ti.size:=adN _ eP
        omega
       rw[eW]
       simp only[World.cell?,hw]
       rw[<-hj]
       simp[ru]
      ·simp[aB]at hj
     have hr:=run_append_grow w t ty e ti z ht hi hz ⟨g,o,none⟩ xs.length cap ((List.range (xs.length*ti.size)).map fun q=>cc.getD (o+q) undef) (by simp) holds A m RW (fg ti.size m cell) hlen BB (by omega) (by omega) (growslice_fits (by omega) Ad)
     have hg:=RX ((List.range (xs.length*ti.size)).map fun q=>cc.getD (o+q) undef) (grownCap w (xs.length+m) cap e) (by simp) (grownCap_ge w (xs.length+m) cap e) (by
      intro i x hx
      obtain⟨h1,h3⟩:=D4 i x hx
      refine⟨h1,fun j d hd=>?_⟩
      obtain⟨k1,u,hu,hr⟩:=h3 j d hd
      have hj:j<ti.size:=by rw[<-h1];exact(adj.1 hd).1
      have Fi:=pZ (adj.1 hx).1 hj
      refine⟨k1,u,?_,hr⟩
      simp only[adk,List.getElem?_range Fi,Option.map_some]
      rw[show o+(i*ti.size+j)=o+i*ti.size+j by omega,adt,hu]
      rfl)
     refine⟨_,_,hr,hg,⟨rfl,rfl,rfl,by simp,fun q hq _=>bC w.drew _ hq⟩,fun b hb=>?_,rfl,fun _ _ _ _=>⟨fun b hb=>bC w.drew _ hb,fun b hb=>?_⟩⟩
     ·simp[c5]at hb;exact .inl (by omega)
     ·simp[c5]at hb;omega
end
end
section
open Go.RowKit
variable [cy]
section
variable {w w':World}
theorem br.sub{M:Mem}{h:List PS->Option Value}{d c:DV}{p:List PS}(ht:br M w h d)(hp:get d p=some c)(hc:c.au=true):br M w (fun r=>h (p++r)) c:=by
 refine⟨hc,fun q m hq hm=>?_⟩
 obtain⟨v,h1,h2,h3⟩:=ht.2 _ m (by rwa[get_append,hp]) hm
 simp_all
theorem jl.sub{h:List PS->Option Value}{d c:DV}{p:List PS}(hi:jl h d)(hp:get d p=some c):jl (fun r=>h (p++r)) c:=by
 intro q q' n m u v b e1 e2 e3 e4 f1 f2 f3 f4
 have:=hi _ _ n m u v b (by rwa[get_append,hp]) e2 e3 e4 (by rwa[get_append,hp]) f2 f3 f4
 simp_all
theorem bN.sub{h:List PS->Option Value}{d c:DV}{p:List PS}{b:Nat}(hp:get d p=some c)(ho:bN (fun r=>h (p++r)) c b):bN h d b:=by
 obtain⟨q,m,v,h1,h2,h3,h4⟩:=ho
 exact⟨p++q,m,v,by rwa[get_append,hp],h2,h3,h4⟩
theorem jl.ka{h h':List PS->Option Value}{d:DV}(hi:jl h d)(hh:∀p n v,get d p=some n->n.au=true->h' p=some v->h p=some v):jl h' d:=
 fun p q n m u v b e1 e2 e3 e4 f1 f2 f3 f4=>hi p q n m u v b e1 e2 (hh p n u e1 e2 e3) e4 f1 f2 (hh q m v f1 f2 f3) f4
def RY:List PS->Option Value
 |[]=>some (.slice none 0 0)
 |_=>none
theorem DK{sz:Nat}{p:List PS}{m:DV}(h:get (.aI sz []) p=some m):p=[]/\m=.aI sz []:=by
 cases p with
 |nil=>simp[get]at h;grind
 |cons s p=>cases s<;>simp[get,step]at h
theorem zq(M:Mem)(w:World)(sz:Nat):br M w RY (.aI sz []):=by
 refine⟨rfl,fun p m hp _=>?_⟩
 obtain⟨rfl,rfl⟩:=DK hp
 exact⟨_,rfl,rfl,.inl ⟨rfl,rfl⟩⟩
theorem DL(sz:Nat):jl RY (.aI sz []):=by
 intro p q n m u v b e1 _ _ _ f1 _ _ _
 grind [DK]
theorem kK{sz b:Nat}(h:bN RY (.aI sz []) b):False:=by
 obtain⟨p,m,v,h1,_,h3,h4⟩:=h
 obtain⟨rfl,rfl⟩:=DK h1
 grind [RY,c5]
def wC(n:Nat)(v:Value)(h hs:List PS->Option Value):List PS->Option Value
 |[]=>some v
 |.el i j::r=>if i<n then h (.el i j::r)else hs (.el (i-n) j::r)
 |s::r=>h (s::r)
inductive Src(M:Mem)(w:World)(x:Value)(sz:Nat)(ys:List DV)(hs:List PS->Option Value):Prop
 |closed (h:p5 w x sz ys fun _ _ d u=>d.au=false/\bq M d u) (hn:hs=fun _=>none)
 |tree (ht:br M w hs (.aI sz ys)) (hi:jl hs (.aI sz ys)) (hx:hs []=some x)
theorem dM.dc{M:Mem}{h:Option Value}{d:DV}{u:Value}(r:dM M h d u)(hc:d.ao=true)(ho:d.au=true->∀v,h=some v->v.oneCell'=true):u.oneCell'=true:=by
 rcases r with⟨a,b⟩|⟨a,b⟩
 ·grind
 ·exact b.dc hc
theorem br.RZ{M:Mem}{h:List PS->Option Value}{d c:DV}{s:PS}(ht:br M w h d)(hs:step d s=some c)(hc:c.au=true){v:Value}(hv:h [s]=some v):v.oneCell'=true:=by
 obtain⟨u,h1,h2,_⟩:=ht.2 [s] c (by simp[get,hs]) hc
 grind
theorem Src.YK{M:Mem}{x:Value}{sz:Nat}{ys:List DV}{hs:List PS->Option Value}(h:Src M w x sz ys hs):p5 w x sz ys fun i j d u=>d.ao=true/\dM M (hs [.el i j]) d u:=by
 cases h with
 |closed h hn=>
  refine h.mono rfl fun i x' y hx hy=>?_
  rw[hx]at hy;injection hy with hy;subst hy
  refine⟨rfl,fun j d e u hd he FO hS=>?_⟩
  rw[hd]at he;injection he with he;subst he
  exact⟨FO,FO,.inr hS⟩
 |tree ht hi hx=>
  obtain⟨v,h1,h2,h3⟩:=ht.2 [] _ rfl rfl
  rw[hx]at h1;injection h1 with h1;subst h1
  have h4:uY w x sz ys fun i j d u=>d.ao=true/\step (.aI sz ys) (.el i j)=some d/\dM M (hs [.el i j]) d u:=by
   rcases gX.1 h3 with h3|⟨g,o,cap,c,t,a1,a2,a3,a4,a5⟩
   ·exact .inl h3
   ·refine .inr ⟨g,o,cap,c,t,a1,a2,a3,a4,fun i y hy=>⟨(a5 i y hy).1,fun j d hd=>?_⟩⟩
    grind [step]
  refine(p5.RU h4 fun i j d u hr _=>?_).mono rfl fun i x' y hx hy=>?_
  ·exact hr.2.2.dc hr.1 fun ho v hv=>ht.RZ hr.2.1 ho hv
  grind
theorem mg.length:∀{l r:List DV},mg l r->l.length=r.length
 |[],[],_=>rfl
 |_::_,_::_,h=>by simp[mg.length h.2]
 |[],_::_,h=>h.elim
 |_::_,[],h=>h.elim
theorem mg.at:∀{l r:List DV},mg l r->∀(j:Nat) (d e:DV),l[j]?=some d->r[j]?=some e->(d.au=true/\d=e)\/(d.au=false/\d.Le e)
 |[],[],_,j,d,e,h,_=>by grind
 |a::l,b::r,h,0,d,e,e1,e2=>by
  simp at e1 e2;subst e1;subst e2
  have:=h.1
  grind
 |a::l,b::r,h,j+1,d,e,e1,e2=>by exact mg.at h.2 j d e e1 e2
 |[],_::_,h,_,_,_,_,_=>h.elim
 |_::_,[],h,_,_,_,_,_=>h.elim
theorem bW.length:∀{l r:List DV},bW l r->l.length=r.length
 |[],[],_=>rfl
 |_::_,_::_,h=>by simp[bW.length h.2]
 |[],_::_,h=>h.elim
 |_::_,[],h=>h.elim
theorem bW.at:∀{l r:List DV},bW l r->∀(i:Nat) (x y:DV),l[i]?=some x->r[i]?=some y->mg x.cells y.cells
 |[],[],_,j,d,e,h,_=>by grind
 |a::l,b::r,h,0,d,e,e1,e2=>by simp at e1 e2;subst e1;subst e2;exact h.1
 |a::l,b::r,h,j+1,d,e,e1,e2=>by exact bW.at h.2 j d e e1 e2
 |[],_::_,h,_,_,_,_,_=>h.elim
 |_::_,[],h,_,_,_,_,_=>h.elim
theorem bq.ao{M:Mem}{d:DV}{v:Value}(h:bq M d v)(hv:v.oneCell'=true):d.ao=true:=by
 cases h with
 |agg=>assumption
 |_=>rfl
theorem dM.le{M:Mem}{h:Option Value}{d e:DV}{u:Value}(r:dM M h d u)(hle:(d.au=true/\d=e)\/(d.au=false/\d.Le e))(hc:d.ao=true):e.ao=true/\dM M h e u/\(e.au=true->d=e):=by
 rcases hle with⟨h1,rfl⟩|⟨h1,h2⟩
 ·grind
 ·rcases r with⟨a,b⟩|⟨a,b⟩
  ·grind
  ·have h3:=h2 M u b
   exact⟨h3.ao (b.dc hc),.inr ⟨h3.fk,h3⟩,fun ho=>by rw[h3.fk]at ho;grind⟩
theorem Gz{P:Program}{T:List TI}(hT:fB P T){t ty:TypeId}(cI:(nth T t).ok=true)(gP:(nth T t).isSl=true)(vH:(nth T (nth T t).elem).ok=true)(dK:0<(nth T (nth T t).elem).size)
 {M:Mem} {h hs:List PS->Option Value} {l ys zs:List DV} {v x:Value} (ht:br M w h (.aI (nth T (nth T t).elem).size l)) (hi:jl h (.aI (nth T (nth T t).elem).size l)) (hv:h []=some v)
 (lx:Src M w x (nth T (nth T t).elem).size ys hs) (YL:∀b,bN h (.aI (nth T (nth T t).elem).size l) b->¬bN hs (.aI (nth T (nth T t).elem).size ys) b) (aB:∀b,bN hs (.aI (nth T (nth T t).elem).size ys) b->b<w.heap.size) (hle:bW ys zs)
 (D9:l.length+zs.length<=9223372036854775807) (Ad:(l.length+zs.length)*(nth T (nth T t).elem).bytes<=140737488355328):
 ∃v' w',(Builtin.append_ #[t,t] ty #[v,x]).run P w=.ok v' w'/\w.grownBy w' (c5 v)/\v'.oneCell'=true/\br M w' (wC l.length v' h hs) (.aI (nth T (nth T t).elem).size (l++zs))/\jl (wC l.length v' h hs) (.aI (nth T (nth T t).elem).size (l++zs))/\
  ∀b,bN (wC l.length v' h hs) (.aI (nth T (nth T t).elem).size (l++zs)) b->bN h (.aI (nth T (nth T t).elem).size l) b\/bN hs (.aI (nth T (nth T t).elem).size ys) b\/w.heap.size<=b:=by
 obtain⟨i,u,z,tf⟩:=hT.facts cI
 obtain⟨te,ue,ze,jo⟩:=hT.facts vH
 generalize ck:(nth T (nth T t).elem).size=sz at*
 have nc:te.size=sz:=by rw[<-ck,jo.size]
 obtain⟨v0,GZ,zO,bo⟩:=ht.2 [] _ rfl rfl
 rw[hv]at GZ;injection GZ with GZ;subst GZ
 have hsg:=lx.YK
 have Wy:p5 w x sz zs fun i j d u=>d.ao=true/\dM M (hs [.el i j]) d u:=by
  refine hsg.mono hle.length fun i x y hx hy=>?_
  have h1:=hle.at i x y hx hy
  refine⟨h1.length,fun j d e u hd he FO hS=>?_⟩
  obtain⟨k1,k2,_⟩:=hS.2.le (h1.at j d e hd he) FO
  grind
 have zr:∀i j e,step (.aI sz zs) (.el i j)=some e->e.au=true->step (.aI sz ys) (.el i j)=some e:=by
  intro i j e he ho
  simp only[step]at he⊢
  split at he
  ·rename_i y hy
   have SK:i<ys.length:=by rw[hle.length];grind
   have hx:=abK SK
   rw[hx]
   have h1:=hle.at i _ y hx hy
   have hd:=abK (by rw[h1.length];exact(adj.1 he).1)
   simp only
   rcases h1.at j _ e hd he with⟨a,b⟩|⟨a,b⟩
   ·grind
   ·-- a closed cell acD acE an au one:there is a value of it
    rcases hsg with⟨c,_,x4⟩|⟨A,cap,cell,_,cV⟩
    ·grind
    ·obtain⟨_,h3⟩:=cV i _ hx
     obtain⟨_,_,_,h4⟩:=h3 j _ hd
     rcases h4.2 with⟨c1,_⟩|⟨_,c2⟩
     ·grind
     ·rw[(b M _ c2).fk]at ho;grind
  grind
 have YM:ze.cells.size=te.size:=by
  have:=(ez (M:=M) jo.zc).1.1
  simp at this
  rw[<-this,jo.zl]
 obtain⟨v',w',bG,GA,jh,hblk,DM,_⟩:=zp (tf.slice gP) jo.info jo.zero YM (by grind) (by rw[nc];assumption) (by rwa[nc]) D9 (by rwa[<-jo.bytes])
 rw[nc]at GA
 refine⟨v',w',bG,jh,DM,?_⟩
 have R3:∀b,b<w.heap.size->c5 v≠some b->w'.heap[b]?=w.heap[b]?:=fun b hb dw=>jh.block b hb (fun e=>dw e.symm)
 have YN:cR M w' v' (fun s=>wC l.length v' h hs ([]++[s])) (.aI sz (l++zs)):=by
  refine gX.2 ?_
  rcases GA with h1|⟨g,o,cap,c,tt,a1,a2,a3,a4,a5⟩
  ·exact .inl h1
  ·refine .inr ⟨g,o,cap,c,tt,a1,a2,a3,a4,fun i x hx=>⟨(a5 i x hx).1,fun j d hd=>?_⟩⟩
   obtain⟨b1,u,b2,b3⟩:=(a5 i x hx).2 j d hd
   refine⟨b1,u,b2,?_⟩
   unfold tQ at b3
   simp only[List.nil_append,wC]
   grind
 have acF:∀i j c,i<l.length->(step (.aI sz (l++zs)) (.el i j)=some c↔step (.aI sz l) (.el i j)=some c):=by
  intro i j c ru
  simp only[step]
  rw[List.getElem?_append_left ru]
 have Jc:∀i j c,¬i<l.length->step (.aI sz (l++zs)) (.el i j)=some c->step (.aI sz zs) (.el (i-l.length) j)=some c:=by
  intro i j c jw hc
  simp only[step]at hc⊢
  rwa[List.getElem?_append_right (by omega)]at hc
 have el:∀s c,step (.aI sz (l++zs)) s=some c->∃i j,s=.el i j:=by
  intro s c gH
  cases s with
  |el i j=>exact⟨i,j,rfl⟩
  |key=>simp[step]at gH
 have sub:∀i j c,¬i<l.length->step (.aI sz (l++zs)) (.el i j)=some c->c.au=true->br M w' (fun r=>hs (.el (i-l.length) j::r)) c/\jl (fun r=>hs (.el (i-l.length) j::r)) c/\∀b,bN (fun r=>hs (.el (i-l.length) j::r)) c b->bN hs (.aI sz ys) b:=by
  intro i j c jw hc ho
  have h1:=zr _ _ _ (Jc i j c jw hc) ho
  have hg:get (.aI sz ys) [.el (i-l.length) j]=some c:=by simp[get,h1]
  cases lx with
  |closed og hn=>
   exfalso
   rcases og with⟨_,_,x4⟩|⟨A,cap,cell,_,cV⟩
   ·subst x4;simp[step]at h1
   ·simp only[step]at h1
    split at h1
    ·rename_i x hx
     obtain⟨_,h3⟩:=cV _ x hx
     have:=(h3 j c h1).2.2.2.1
     rw[ho]at this;cases this
    ·cases h1
  |tree aq hsi hsx=>
   have t1:=aq.sub hg ho
   have t2:∀b,bN (fun r=>hs ([.el (i-l.length) j]++r)) c b->bN hs (.aI sz ys) b:=fun b hb=>hb.sub hg
   exact⟨t1.ka (Mem.Le.refl _) (fun b hb=>R3 b (aB b (t2 b hb)) fun e=>YL b ⟨[],_,v,rfl,rfl,hv,e⟩ (t2 b hb)) (fun _ _ _ _ _ q=>q),hsi.sub hg,t2⟩
 have main:=br.rR (fun s=>∃i j,s=.el i j/\¬i<l.length) ht hi rfl rfl hv rfl rfl DM (.inl rfl) YN
  (fun q hq=>absurd (List.nil_prefix) hq)
  (fun s c gH ho hN=>by
   obtain⟨i,j,rfl⟩:=el s c gH
   by_cases ru:i<l.length
   ·simp_all [List.nil_append,wC,if_pos]
   ·exact absurd ⟨i,j,rfl,ru⟩ hN)
  (fun s c gH ho hN=>by
   obtain⟨i,j,rfl,jw⟩:=hN
   obtain⟨t1,t2,t3⟩:=sub i j c jw gH ho
   have e:(fun r=>wC l.length v' h hs ([]++.el i j::r))=fun r=>hs (.el (i-l.length) j::r):=by funext r;simp only[List.nil_append,wC,if_neg jw]
   rw[e]
   refine⟨t1,t2,fun b hb=>⟨fun nj=>YL b nj (t3 b hb),fun fD=>?_⟩⟩
   rcases hblk b fD with h5|h5
   ·have:=aB b (t3 b hb);omega
   ·exact YL b ⟨[],_,v,rfl,rfl,hv,h5⟩ (t3 b hb))
  (fun s s' c c' b ku R4 YO lH Nw hN2 ji ct=>by
   obtain⟨i,j,rfl,jw⟩:=YO
   obtain⟨i',j',rfl,abz⟩:=hN2
   have e:∀i j,¬i<l.length->(fun r=>wC l.length v' h hs ([]++.el i j::r))=fun r=>hs (.el (i-l.length) j::r):=fun i j jw=>by funext r;simp only[List.nil_append,wC,if_neg jw]
   rw[e i j jw]at ji
   rw[e i' j' abz]at ct
   cases lx with
   |closed og hn=>rw[hn]at ji;obtain⟨_,_,_,_,_,q,_⟩:=ji;cases q
   |tree aq hsi hsx=>
    obtain⟨q,m,u,a1,a2,a3,a4⟩:=ji
    obtain⟨q',m',u',b1,b2,b3,b4⟩:=ct
    have:=hsi (.el (i-l.length) j::q) (.el (i'-l.length) j'::q') m m' u u' b (by simp only[get,(zr _ _ _ (Jc i j c jw ku) R4)];exact a1) a2 a3 a4 (by simp only[get,(zr _ _ _ (Jc i' j' c' abz lH) Nw)];exact b1) b2 b3 b4
    injection this with e1 e2
    injection e1 with e1 e3
    have:i=i':=by omega
    rw[this,e3])
  (fun b hb=>by
   rcases hblk b hb with h5|h5
   ·right;intro ho
    obtain⟨p,m,u,a1,a2,a3,a4⟩:=ho
    obtain⟨u',c1,_,c3⟩:=ht.2 p m a1 a2
    rw[a3]at c1;injection c1 with c1;subst c1
    have:=xf c3 a4;omega
   ·exact .inl h5)
  (fun b ho dw=>by
   obtain⟨p,m,u,a1,a2,a3,a4⟩:=ho
   obtain⟨u',c1,_,c3⟩:=ht.2 p m a1 a2
   rw[a3]at c1;injection c1 with c1;subst c1
   exact R3 b (xf c3 a4) dw)
 obtain⟨m1,m2,m3⟩:=main
 refine⟨m1,m2,fun b hb=>?_⟩
 rcases m3 b hb with h1|h1|⟨s,c,s1,s2,⟨i,j,rfl,jw⟩,s4⟩
 ·exact .inl h1
 ·rcases hblk b h1 with h5|h5
  ·exact .inr (.inr h5)
  ·exact .inl ⟨[],_,v,rfl,rfl,hv,h5⟩
 ·have e:(fun r=>wC l.length v' h hs ([]++.el i j::r))=fun r=>hs (.el (i-l.length) j::r):=by funext r;simp only[List.nil_append,wC,if_neg jw]
  rw[e]at s4
  exact .inr (.inl ((sub i j c jw s1 s2).2.2 b s4))
end
end
end Go.TM
