import Derived.Test.YtmojfblpbcficaaGreatDoorUM4
import Derived.Laws.StructEq
set_option linter.all false
namespace Go.TM
set_option maxHeartbeats 1000000
section
open Go.RowKit
variable [cj]
theorem add_zero'(a:Addr):a.add 0=a:=by rfl
section
variable {P:Program} {C:dV->Prop} {T:List TI} {ops:List Oper} {n:Nat} {o:Oper} {nx:Nat} {ρ:Nat->AV} {κ:Nat->aw} {k:l9->Nat->Prop} {gd:Bool}
theorem EX(hT:fD P T){t:Nat}{x i:Operand}{sz:Nat}{l:List DV}{y:DV}{kd:IntKind}{m:Int}(hg:cb ρ ops o.guard=some gd)(ho:o.op=.indexAddr t x i)
 (cC:(nth T t).ok=true) (gM:(nth T t).isSl=true) (wo:(nth T (nth T t).elem).ok=true) (bP:sz=(nth T (nth T t).elem).size)
 (hy:gd=true->0<=m/\l[m.toNat]?=some y) (hk:bj n o gd nx k (.dv (.at y 0)) []) (bU:bN ρ κ gd x (.dv (.sl sz l))) (pA:bN ρ κ gd i (.dv (.int kd m))):Good P C ops n o nx ρ κ k:=by
 obtain⟨ti,u,z,tf⟩:=hT.facts cC
 obtain⟨te,ue,ze,jk⟩:=hT.facts wo
 refine bE (fun c=>by grind) hg hk fun ρ' κ' ay g a w G ak aY=>?_
 have hv:=bU ρ' κ' (ay.op (by grind [Op.operands])) g n a w G ak aY
 have ec:=pA ρ' κ' (ay.op (by grind [Op.operands])) g n a w G ak aY
 generalize hx:a.eval x=v at hv
 generalize hi:a.eval i=vi at ec
 obtain⟨EC,hmy⟩:=hy aY
 have au:=(W8.1 hmy).1
 cases ec with|dv ec=>cases ec with|int=>
 cases hv with|dv hv=>cases hv with
 |slnil=>grind
 |sl _ _ A cap cell eJ hlen hc hr=>
  have dD:0<=m/\m<(l.length):=⟨EC,by omega⟩
  refine⟨.pointer (some (A.add (m.toNat*sz))),?_,?_⟩
  ·have yM:=jk.gm w
   rw[<-bP]at yM
   simp[execOp,ho,hx,hi,Instr.indexAt,run_underlying (tf.slice gM),asIntOf,dD,yM]
  ·have:=bz.at y 0 (A.add (m.toNat*sz)) (fun j=>cell m.toNat j) (hlen y (ab6 hmy)).2
    (fun j hj=>by grind [cM,List.mem_of_getElem?])
    (fun j d hd=>hr _ y j d hmy hd)
   rw[add_zero']at this
   exact .dv this
theorem n0(hT:fD P T){t:Nat}{x i:Operand}{av av':AV}{kd:IntKind}{m:Int}(hg:cb ρ ops o.guard=some gd)(ho:o.op=.indexAddr t x i)
 (cC:(nth T t).ok=true) (EY:(nth T t).kind=10) (wo:(nth T (nth T t).elem).ok=true) (hm:gd=true->0<=m/\m<(nth T t).len)
 (hk:bj n o gd nx k av' []) (bU:bN ρ κ gd x av) (pA:bN ρ κ gd i (.dv (.int kd m)))
 (hp:∀(G:Gh) (v:Value),aK G av v->∃a,v=.pointer (some a)/\aK G av' (.pointer (some (a.add (m.toNat*(nth T (nth T t).elem).size))))):Good P C ops n o nx ρ κ k:=by
 obtain⟨ti,u,z,tf⟩:=hT.facts cC
 obtain⟨te,ue,ze,jk⟩:=hT.facts wo
 refine bE (fun c=>by grind) hg hk fun ρ' κ' ay g a w G ak aY=>?_
 have ec:=pA ρ' κ' (ay.op (by grind [Op.operands])) g n a w G ak aY
 generalize hi:a.eval i=vi at ec
 cases ec with|dv ec=>cases ec with|int=>
 obtain⟨p,hp,Yw⟩:=hp _ _ (bU ρ' κ' (ay.op (by grind [Op.operands])) g n a w G ak aY)
 refine⟨_,?_,Yw⟩
 have hu:P.underlying t=some (.array (nth T t).len (nth T t).elem):=by
  have h1:=tf.kind
  rw[EY]at h1
  have h2:=tf.len
  have h3:=tf.elem
  rw[tf.CZ]
  cases u<;>simp[kindOf]at h1
  grind [lenOf,Qr]
 simp[execOp,ho,hp,hi,Instr.indexAt,run_underlying hu,asIntOf,Instr.sureAddr,(hm aY),jk.gm w]
theorem Cx(hT:fD P T){t:Nat}{x i:Operand}{id ver ep cn sz:Nat}{p:List PS}{d:DV}{l:List DV}{kd:IntKind}{m:Int}(hg:cb ρ ops o.guard=some gd)(ho:o.op=.indexAddr t x i)
 (cC:(nth T t).ok=true) (gM:(nth T t).isSl=true) (wo:(nth T (nth T t).elem).ok=true) (bP:sz=(nth T (nth T t).elem).size) (hb:κ id=.tree ver cn d) (fo:p=[]\/ep=cn) (dW:gd=true->get d p=some (.aD sz l))
 (hy:gd=true->0<=m/\m<l.length) (hk:bj n o gd nx k (.loc id ver ep p sz m.toNat 0) [id]) (bU:bN ρ κ gd x (.own id ver ep p)) (pA:bN ρ κ gd i (.dv (.int kd m))):Good P C ops n o nx ρ κ k:=by
 obtain⟨ti,u,z,tf⟩:=hT.facts cC
 obtain⟨te,ue,ze,jk⟩:=hT.facts wo
 refine bE (fun c=>by grind) hg hk fun ρ' κ' ay g a w G ak aY=>?_
 have hv:=bU ρ' κ' (ay.op (by grind [Op.operands])) g n a w G ak aY
 have ec:=pA ρ' κ' (ay.op (by grind [Op.operands])) g n a w G ak aY
 generalize hx:a.eval x=v at hv
 generalize hi:a.eval i=vi at ec
 obtain⟨EC,hmy⟩:=hy aY
 obtain⟨u,h1,_,bq⟩:=ak.fit.node ((ay.reads id (by simp)).trans hb) (dW aY) rfl
 cases ec with|dv ec=>cases ec with|int=>
 cases hv with
 |own _ _ _ _ _ hh hc=>
  have Ze:=hh
  rw[cZ fo,h1]at hh
  injection hh with hh
  subst hh
  rcases bq with⟨rfl,_⟩|⟨gb,ob,cap,cc,tt,rfl,eJ,hw,acJ,ED⟩
  ·grind
  ·have dD:0<=m/\m<(l.length):=⟨EC,hmy⟩
   refine⟨.pointer (some ((⟨gb,ob,none⟩:Addr).add (m.toNat*sz))),?_,?_⟩
   ·have yM:=jk.gm w
    rw[<-bP]at yM
    simp[execOp,ho,hx,hi,Instr.indexAt,run_underlying (tf.slice gM),asIntOf,dD,yM]
   ·have:=aK.loc id ver ep p sz m.toNat 0 _ _ _ Ze
    grind
theorem Cy(hT:fD P T){t:Nat}{x i:Operand}{id len:Nat}{kd:IntKind}{m:Int}(hg:cb ρ ops o.guard=some gd)(ho:o.op=.indexAddr t x i)
 (cC:(nth T t).ok=true) (gM:(nth T t).isSl=true) (wo:(nth T (nth T t).elem).ok=true)
 (hy:gd=true->0<=m/\m<len) (hk:bj n o gd nx k (.ptr id (m.toNat*(nth T (nth T t).elem).size)) []) (bU:bN ρ κ gd x (.sle id len)) (pA:bN ρ κ gd i (.dv (.int kd m))):Good P C ops n o nx ρ κ k:=by
 obtain⟨ti,u,z,tf⟩:=hT.facts cC
 obtain⟨te,ue,ze,jk⟩:=hT.facts wo
 refine bE (fun c=>by grind) hg hk fun ρ' κ' ay g a w G ak aY=>?_
 have hv:=bU ρ' κ' (ay.op (by grind [Op.operands])) g n a w G ak aY
 have ec:=pA ρ' κ' (ay.op (by grind [Op.operands])) g n a w G ak aY
 generalize hx:a.eval x=v at hv
 generalize hi:a.eval i=vi at ec
 cases ec with|dv ec=>cases ec with|int=>
 cases hv with
 |sle _ _ b hb=>
  refine⟨.pointer (some ((⟨b,0,none⟩:Addr).add (m.toNat*(nth T (nth T t).elem).size))),?_,?_⟩
  ·simp[execOp,ho,hx,hi,Instr.indexAt,run_underlying (tf.slice gM),asIntOf,(hy aY),(jk.gm w)]
  ·rw[fa,Nat.zero_add];exact .ptr _ _ b hb
theorem Cz(hT:fD P T){t:Nat}{x i:Operand}{id ver ep sz lo len:Nat}{p:List PS}{kd:IntKind}{m:Int}(hg:cb ρ ops o.guard=some gd)(ho:o.op=.indexAddr t x i)
 (cC:(nth T t).ok=true) (gM:(nth T t).isSl=true) (wo:(nth T (nth T t).elem).ok=true) (bP:sz=(nth T (nth T t).elem).size)
 (hy:gd=true->0<=m/\m<len) (hk:bj n o gd nx k (.loc id ver ep p sz (lo+m.toNat) 0) []) (bU:bN ρ κ gd x (.pre id ver ep p sz lo len)) (pA:bN ρ κ gd i (.dv (.int kd m))):Good P C ops n o nx ρ κ k:=by
 obtain⟨ti,u,z,tf⟩:=hT.facts cC
 obtain⟨te,ue,ze,jk⟩:=hT.facts wo
 refine bE (fun c=>by grind) hg hk fun ρ' κ' ay g a w G ak aY=>?_
 have hv:=bU ρ' κ' (ay.op (by grind [Op.operands])) g n a w G ak aY
 have ec:=pA ρ' κ' (ay.op (by grind [Op.operands])) g n a w G ak aY
 generalize hx:a.eval x=v at hv
 generalize hi:a.eval i=vi at ec
 have dD:=hy aY
 cases ec with|dv ec=>cases ec with|int=>
 cases hv with
 |pre _ _ _ _ _ _ _ q c hh=>
  obtain⟨A,N,c',hq,rfl⟩:=hh (by omega)
  refine⟨.pointer (some ((A.add (lo*sz)).add (m.toNat*sz))),?_,?_⟩
  ·have yM:=jk.gm w
   rw[<-bP]at yM
   simp[execOp,ho,hx,hi,Instr.indexAt,run_underlying (tf.slice gM),asIntOf,dD,yM]
  ·rw[cM,<-Nat.add_mul]
   have:=aK.loc id ver ep p sz (lo+m.toNat) 0 _ _ _ hq
   grind
theorem rN(hT:fD P T){t:Nat}{x:Operand}{c:Call}{av:AV}{m:Int}{rd:List Nat}(hg:cb ρ ops o.guard=some gd)(ho:o.op=.call c)(hc:c.callee=.builtin .len)(ha:c.args.toList=[x])(lY:c.argTypes.toList=[t])
 (hk:bj n o gd nx k (.dv (.int .i64 m)) rd) (bU:bN ρ κ gd x av) (cC:(nth T t).ok=true)
 (hp:gd=true->∀κ',(∀i,i∈rd->κ' i=κ i)->∀(G:Gh) (w:World) (v:Value),Fit G w κ'->aK G av v->
  ((nth T t).isSl=true/\∃p l c,v=.slice p l c/\(l:Int)=m)\/((nth T t).isStr=true/\∃s,v=.string s/\(s.size:Int)=m)\/
  (Nat.beq (nth T t).kind 6=true/\∃b es clock,v=.map (some b)/\w.heap[b]?=some (.map es clock)/\(es.size:Int)=m)):Good P C ops n o nx ρ κ k:=by
 have cK:c.args=#[x]:=Array.ext' (by grind)
 have NU:c.argTypes=#[t]:=Array.ext' (by grind)
 refine bE (fun c=>by grind) hg hk fun ρ' κ' ay g a w G ak aY=>?_
 refine⟨.int .i64 m,?_,.dv (.int _ _)⟩
 obtain⟨ti,u,z,tf⟩:=hT.facts cC
 rcases hp aY κ' ay.reads G w _ ak.fit (bU ρ' κ' (ay.op (by grind [Op.operands,Call.operands])) g n a w G ak aY)with⟨gM,p,l,cc,XJ,hm⟩|⟨gM,s,XJ,hm⟩|⟨hmk,b,es,clock,XJ,hw,hm⟩
 ·simp[execOp,ho,resolve,hc,cK,NU,invoke,builtin,Builtin.len_,run_underlying (tf.slice gM),XJ,goInt,hm]
 ·simp[execOp,ho,resolve,hc,cK,NU,invoke,builtin,Builtin.len_,run_underlying (tf.string gM),XJ,goInt,hm]
 ·have hu:∃kt et,P.underlying t=some (.map kt et):=by
   have h1:=tf.kind
   rw[ab9 hmk]at h1
   cases u<;>simp[kindOf]at h1
   exact⟨_,_,tf.CZ⟩
  obtain⟨kt,et,hu⟩:=hu
  simp[execOp,ho,resolve,hc,cK,NU,invoke,builtin,Builtin.len_,run_underlying hu,XJ,goInt,hm,MapKept.run_getObj_map hw]
theorem gX{w:World}{t e:TypeId}(hu:P.underlying t=some (.slice e))(a:Option Addr)(l c:Nat):(Op.equal t (.slice a l c) (.slice none 0 0)).run P w=.ok a.isNone w:=by
 have h:∀d,(Op.equalIn (d+1) t (.slice a l c) (.slice none 0 0)).run P w=.ok a.isNone w:=fun d=>by
  cases a<;>simp[Op.equalIn,run_underlying hu]
 grind [Op.equal,Op.maxDepth]
theorem YU{b:Bool}{p:Prop}(h:bif b then p else False):b=true/\p:=by
 grind
theorem Ep{κ:Nat->aw}{gd:Bool}{a:AV}{k:Option Bool->List Nat->Prop}(h:zB κ gd a k):∃c rd,k c rd/\(gd=true->∀κ',(∀i,i∈rd->κ' i=κ i)->∀(G:Gh) (w:World) (v:Value),Fit G w κ'->aK G a v->∃p l cc,v=.slice p l cc/\∀b,c=some b->p.isNone=b):=by
 unfold zB at h
 split at h
 ·refine⟨_,_,h,fun _ κ' _ G w v _ hv=>?_⟩
  cases hv with|dv hv=>cases hv with|ax=>grind
 ·rcases h with h|⟨hl,h⟩
  ·refine⟨_,_,h,fun _ κ' _ G w v _ hv=>?_⟩
   cases hv with|dv hv=>cases hv with
   |slnil=>grind
   |sl=>grind
  ·refine⟨_,_,h,fun _ κ' _ G w v _ hv=>?_⟩
   cases hv with|dv hv=>cases hv with
   |slnil=>grind
   |sl=>grind
 ·rename_i i ver ep p
  split at h
  ·rename_i bJ cn d hk
   have hh:=YU h;clear h;obtain⟨hb,h⟩:=hh
   obtain⟨rfl,fo⟩:=dE hb
   obtain⟨nd,h,dW⟩:=bY h
   split at h
   ·rename_i sz l
    have key:gd=true->∀κ',(∀j,j∈[i]->κ' j=κ j)->∀(G:Gh) (w:World) (v:Value),Fit G w κ'->aK G (.own i ver ep p) v->∃q m cc,v=.slice q m cc/\(l≠[]->q.isNone=false):=by
     intro aY κ' ay G w v hf hv
     obtain⟨u,e1,e2,e3⟩:=hf.node ((ay i (by simp)).trans hk) (dW aY) rfl
     cases hv with|own _ _ _ _ _ hh hc=>
     rw[cZ fo]at hh
     rw[hh]at e1;injection e1 with e1;subst e1
     rcases e3 with⟨uZ,hx⟩|⟨gb,o,cap,c,tt,hx,_⟩
     ·grind
     grind
    grind
   grind
  grind
 ·refine⟨_,_,h,fun _ κ' _ G w v _ hv=>?_⟩
  cases hv with|cz _ _ a m hh=>grind
 grind
theorem WM{α:Type}{b:Bool}{x:Option α}{y:α}(h:(bif b then x else none)=some y):b=true/\x=some y:=by grind
theorem Hu{G:Gh}{w:World}{x y:AV}{u v:Value}{e:Bool}{f:TypeId}{k D:Nat}(hp:si (P.underlying f)=k)(h:DL k x y=some e)(hx:aK G x u)(hy:aK G y v):
 (Op.equalIn (D+1) f u v).run P w=.ok e w:=by
 unfold DL at h
 split at h
 ·rename_i kk a k' b
  cases hk:kk==k' with
  |false=>grind
  |true=>
   rw[hk]at h
   have Ga:=by simpa using hk
   subst Ga
   injection h with h;subst h
   cases hx with|dv hx=>cases hx with|int=>cases hy with|dv hy=>cases hy with|int=>
   obtain⟨q,hq⟩:∃q,P.underlying f=some (.int q):=by
    unfold si at hp
    grind
   grind [run_equalIn_int]
 ·injection h with h;subst h
  cases hx with|dv hx=>cases hx with|bool=>cases hy with|dv hy=>cases hy with|bool=>
  have hq:P.underlying f=some .bool:=by
   unfold si at hp
   grind
  grind [run_equalIn_bool]
 ·injection h with h;subst h
  cases hx with|dv hx=>cases hx with|str=>cases hy with|dv hy=>cases hy with|str=>
  have hq:P.underlying f=some .string:=by
   unfold si at hp
   grind
  grind [run_equalIn_string]
 grind
theorem uc{w:World}{e:TypeId}{k:Nat}(he:si (P.underlying e)=k+1){xs:Array Value}{off:Nat}{v:Value}(hx:xs[off]?=some v):(part e xs off).run P w=.ok v w:=by
 unfold si at he
 split at he
 ·simp_all [part,isAgg,run_underlying]
 ·simp_all [part,isAgg,run_underlying]
 ·simp_all [part,isAgg,run_underlying]
 grind
theorem uf{G:Gh}{w:World}{xs ys:Array Value}{D:Nat}:∀(fs:List Field) (i:Nat) (q:List Nat) (l r:List AV) (e:Bool),zh P i fs=some q->jJ q l r=some e->
 (∀(j:Nat) (d:AV),l[j]?=some d->∃u,xs[i+j]?=some u/\aK G d u)->(∀(j:Nat) (d:AV),r[j]?=some d->∃u,ys[i+j]?=some u/\aK G d u)->
 (Op.eqFields (D+1) xs ys fs).run P w=.ok e w
 |[],i,q,l,r,e,hp,he,hx,hy=>by
  simp[zh,Option.some.injEq]at hp
  subst hp
  cases l<;>cases r<;>simp[jJ]at he
  simp_all [Op.eqFields]
 |f::fs,i,q,l,r,e,hp,he,hx,hy=>by
  simp[zh]at hp
  obtain⟨hb,hp⟩:=WM hp
  simp only[adT,bne_iff_ne]at hb
  obtain⟨n1,o1⟩:=hb
  split at hp
  ·rename_i k q' hk SV
   injection hp with hp;subst hp
   cases l with
   |nil=>grind [jJ]
   |cons x l=>cases r with
    |nil=>simp[jJ]at he
    |cons y r=>
     simp[jJ]at he
     split at he
     ·rename_i a b ha hb
      injection he with he;subst he
      obtain⟨u,hu,Ue⟩:=hx 0 x rfl
      obtain⟨v,hv,Tz⟩:=hy 0 y rfl
      simp[Op.eqFields,n1,ne_eq,not_false_eq_true,if_true,Sem.run_bind,(ab9 o1)]
      rw[uc hk (by omega)]
      simp[Result.andThen_ok]
      rw[uc hk (by omega)]
      simp[Result.andThen_ok,(Hu (w:=w) (D:=D) hk ha Ue Tz)]
      cases a with
      |false=>simp
      |true=>
       simp[Bool.true_and]
       exact uf fs _ q' l r b SV hb (fun j d hd=>by have:=hx (j+1) d (by grind);rwa[show i+(j+1)=i+1+j by omega]at this)
        (fun j d hd=>by have:=hy (j+1) d (by grind);grind)
     grind
  grind
theorem Wx(hT:fD P T){op:BinOp}{t ty:TypeId}{x y:Operand}(hg:cb ρ ops o.guard=some gd)(ho:o.op=.binOp op t x y ty){va vb:AV}(Wv:bN ρ κ gd x va)(Ww:bN ρ κ gd y vb)
 (h:Xp (nth T t) op va vb fun v=>bj n o gd nx k v []):Good P C ops n o nx ρ κ k:=by
 have hh:=YU h;clear h;obtain⟨hb,h⟩:=hh
 simp only[adT]at hb
 obtain⟨i,u,z,tf⟩:=hT.facts hb.1
 split at h
 ·rename_i x1 l r
  split at h
  ·rename_i e he
   have hk:=tf.kind
   rw[ab9 hb.2]at hk
   obtain⟨fs,rfl⟩:∃fs,u=.struct fs:=by
    cases u<;>simp[kindOf]at hk
    grind
   have heq:=tf.Xh
   simp only[Qs]at heq
   split at heq
   ·rename_i q hq
    cases hc:Nat.beq fs.toList.length i.size&& !P.stoodInHeld t&& !P.eqGuardType P.depth t with
    |false=>rw[hc]at heq;simp_all [jJ]
    |true=>
     rw[hc]at heq
     simp[cond_true]at heq
     rw[heq]at he
     simp[adT,adV]at hc
     have hf:P.fieldsOf t=fs:=by simp[Program.fieldsOf,tf.CZ]
     have core:∀(G:Gh) (w:World) (u v:Value),aK G (.agg (x1::l)) u->aK G (.agg r) v->∃us vs,u=.agg us/\v=.agg vs/\(Op.equalIn 10000 t u v).run P w=.ok e w:=by
      intro G w u v hu hv
      cases hu with|agg _ us hlu Ue=>cases hv with|agg _ vs hlv Tz=>
      refine⟨_,_,rfl,rfl,?_⟩
      rw[run_equalIn_struct w 9999 t _ _ (by rw[hf];exact tf.CZ) hc.1.2,hf]
      refine uf (G:=G) fs.toList 0 q _ _ e hq he (fun j d hd=>?_) (fun j d hd=>?_)
      ·have hj:=(W8.1 hd).1
       exact⟨us[j]'(by omega),by simp,Ue j d _ hd (IF (by omega))⟩
      ·have hj:=(W8.1 hd).1
       exact⟨vs[j]'(by omega),by simp,Tz j d _ hd (IF (by omega))⟩
     have fin:∀c:Bool,bj n o gd nx k (.dv (.bool c)) []->(∀(w:World) (us vs:Array Value),(Op.equalIn 10000 t (.agg us) (.agg vs)).run P w=.ok e w->(binOp op t (.agg us) (.agg vs)).run P w=.ok (.bool c) w)->Good P C ops n o nx ρ κ k:=by
      intro c iL bG
      refine bE (fun c=>by grind) hg iL fun ρ' κ' ay g a w G ak aY=>?_
      obtain⟨us,vs,e1,e2,e3⟩:=core G w _ _ (Wv ρ' κ' (ay.op (by grind [Op.operands])) g n a w G ak aY) (Ww ρ' κ' (ay.op (by grind [Op.operands])) g n a w G ak aY)
      refine⟨.bool c,?_,.dv (.bool c)⟩
      grind [execOp,Sem.run_bind,run_eqGuard_agg,Result.andThen_ok,Sem.run_pure]
     split at h
     ·exact fin e h fun w us vs h3=>by rw[run_eql_struct,h3];rfl
     ·exact fin (!e) h fun w us vs h3=>by rw[run_neq_struct,h3];rfl
     grind
   grind [jJ]
  grind
 grind
theorem Ia(hT:fD P T){op:BinOp}{t ty:TypeId}{x y:Operand}(hg:cb ρ ops o.guard=some gd)(ho:o.op=.binOp op t x y ty){av:AV}(bU:bN ρ κ gd x av)(Ku:bN ρ κ gd y (.dv .ax))
 (h:LI (nth T t) op κ gd av fun v rd=>bj n o gd nx k v rd):Good P C ops n o nx ρ κ k:=by
 obtain⟨hb,h⟩:=YU h
 simp[adT]at hb
 obtain⟨i,u,z,tf⟩:=hT.facts hb.1
 have hu:=tf.slice hb.2
 have core:∀(neg:Bool),(∀(w:World) (p:Option Addr) (l cc:Nat),(binOp op t (.slice p l cc) (.slice none 0 0)).run P w=.ok (.bool (bif neg then !p.isNone else p.isNone)) w)->(zB κ gd av fun c rd=>bj n o gd nx k (Ya neg c) rd)->Good P C ops n o nx ρ κ k:=by
  intro neg bG h
  obtain⟨c,rd,hk,hs⟩:=Ep h
  refine bE (fun c=>by grind) hg hk fun ρ' κ' ay g a w G ak aY=>?_
  have h2:=Ku ρ' κ' (ay.op (by grind [Op.operands])) g n a w G ak aY
  obtain⟨p,l,cc,hv,hp⟩:=hs aY κ' ay.reads G w _ ak.fit (bU ρ' κ' (ay.op (by grind [Op.operands])) g n a w G ak aY)
  generalize hy:a.eval y=vy at h2
  cases h2 with|dv h2=>cases h2 with|ax=>
  refine⟨.bool (bif neg then !p.isNone else p.isNone),?_,?_⟩
  ·simp_all [execOp,iZ,Sem.run_pure]
  ·cases c with
   |none=>exact .dv (.pn _)
   |some b=>rw[hp b rfl];exact .dv (.bool _)
 split at h
 ·simp_all [binOp,gX,cond_false]
 ·simp_all [binOp,gX,cond_true]
 grind
theorem Ig(hT:fD P T){s t:TypeId}{x:Operand}{kx kd:IntKind}{m:Int}(hg:cb ρ ops o.guard=some gd)(ho:o.op=.convert s t x)(hs:(nth T s).ok=true)(ht:(nth T t).ok=true)(hi:(nth T t).N7=some kd)(hk:bj n o gd nx k (.dv (.int kd (kd.wrap m))) [])(bU:bN ρ κ gd x (.dv (.int kx m))):Good P C ops n o nx ρ κ k:=by
 obtain⟨i1,u1,z1,tf1⟩:=hT.facts hs
 obtain⟨i2,u2,z2,tf2⟩:=hT.facts ht
 refine bE (fun c=>by grind) hg hk fun ρ' κ' ay g a w G ak aY=>?_
 have hv:=bU ρ' κ' (ay.op (by grind [Op.operands])) g n a w G ak aY
 generalize hx:a.eval x=v at hv
 cases hv with|dv hv=>cases hv with|int=>
 have h2:=tf2.N7
 rw[hi]at h2
 cases u2<;>simp[KP]at h2
 subst h2
 refine⟨.int kd _,?_,.dv (.int _ _)⟩
 simp[execOp,ho,hx,convert,run_underlying tf1.CZ,run_underlying tf2.CZ,Conv.intToInt]
theorem OG(hT:fD P T){t:TypeId}{x ix:Operand}{kx:IntKind}{m:Int}{s:ByteArray}{b:UInt8}(hg:cb ρ ops o.guard=some gd)(ho:o.op=.index t x ix)(ht:(nth T t).ok=true)(ak:(nth T t).isStr=true)(hb:gd=true->0<=m/\s[m.toNat]?=some b)(hk:bj n o gd nx k (.dv (.int .u8 b.toNat)) [])(bU:bN ρ κ gd x (.dv (.str s)))(pA:bN ρ κ gd ix (.dv (.int kx m))):Good P C ops n o nx ρ κ k:=by
 obtain⟨i1,u1,z1,tf1⟩:=hT.facts ht
 have hu:=tf1.string ak
 refine bE (fun c=>by grind) hg hk fun ρ' κ' ay g a w G ak aY=>?_
 have hv:=bU ρ' κ' (ay.op (by grind [Op.operands])) g n a w G ak aY
 have hi:=pA ρ' κ' (ay.op (by grind [Op.operands])) g n a w G ak aY
 generalize hx:a.eval x=v at hv
 generalize hy:a.eval ix=u at hi
 cases hv with|dv hv=>cases hv with|str=>
 cases hi with|dv hi=>cases hi with|int=>
 obtain⟨h0,hb⟩:=hb aY
 refine⟨.int .u8 b.toNat,?_,.dv (.int _ _)⟩
 simp_all [execOp,Instr.index,asIntOf,run_underlying]
theorem WB{x y:Operand}{c:Call}{p q:Int}(hg:cb ρ ops o.guard=some gd)(ho:o.op=.call c)(hc:c.callee=.builtin .min)(ha:c.args.toList=[x,y])
 (hk:bj n o gd nx k (.dv (.int .i64 (if q<p then q else p))) []) (bU:bN ρ κ gd x (.dv (.int .i64 p))) (pA:bN ρ κ gd y (.dv (.int .i64 q))):Good P C ops n o nx ρ κ k:=by
 have cK:c.args=#[x,y]:=Array.ext' (by grind)
 refine bE (fun c=>by grind) hg hk fun ρ' κ' ay g a w G ak aY=>?_
 have hv:=bU ρ' κ' (ay.op (by grind [Op.operands,Call.operands])) g n a w G ak aY
 have ec:=pA ρ' κ' (ay.op (by grind [Op.operands,Call.operands])) g n a w G ak aY
 generalize hx:a.eval x=v at hv
 generalize hi:a.eval y=vi at ec
 cases ec with|dv ec=>cases ec with|int=>
 cases hv with|dv hv=>cases hv with|int=>
 refine⟨_,?_,.dv (.int _ _)⟩
 simp_all [execOp,resolve,invoke,builtin,Builtin.min_,Builtin.min2]
theorem WC{x y:Operand}{c:Call}{p q:Int}(hg:cb ρ ops o.guard=some gd)(ho:o.op=.call c)(hc:c.callee=.builtin .max)(ha:c.args.toList=[x,y])
 (hk:bj n o gd nx k (.dv (.int .i64 (if p<q then q else p))) []) (bU:bN ρ κ gd x (.dv (.int .i64 p))) (pA:bN ρ κ gd y (.dv (.int .i64 q))):Good P C ops n o nx ρ κ k:=by
 have cK:c.args=#[x,y]:=Array.ext' (by grind)
 refine bE (fun c=>by grind) hg hk fun ρ' κ' ay g a w G ak aY=>?_
 have hv:=bU ρ' κ' (ay.op (by grind [Op.operands,Call.operands])) g n a w G ak aY
 have ec:=pA ρ' κ' (ay.op (by grind [Op.operands,Call.operands])) g n a w G ak aY
 generalize hx:a.eval x=v at hv
 generalize hi:a.eval y=vi at ec
 cases ec with|dv ec=>cases ec with|int=>
 cases hv with|dv hv=>cases hv with|int=>
 refine⟨_,?_,.dv (.int _ _)⟩
 simp_all [execOp,resolve,invoke,builtin,Builtin.max_,Builtin.max2]
def oO(ρ:Nat->AV)(κ:Nat->aw)(g:Bool):List (Nat×Operand)->List (Nat×AV)->Prop
 |[],[]=>True
 |(i,x)::r,(j,v)::l=>i=j/\bN ρ κ g x v/\oO ρ κ g r l
 |_,_=>False
theorem mN:∀{l:List (Nat×Operand)} {k:List (Nat×AV)->Prop},tc ρ κ gd l k->∃r,k r/\oO ρ κ gd l r
 |[],k,h=>⟨[],h,tv⟩
 |(i,x)::l,k,h=>by
  obtain⟨v,h,hv⟩:=aL h
  obtain⟨r,h,hr⟩:=mN h
  exact⟨_,h,rfl,hv,hr⟩
theorem fZ:∀{l:List AV},cd l=true->∀v,v∈l->v.aq=true
 |[],_,v,h=>by grind
 |x::l,h,v,hv=>by
  simp[cd,adT]at h
  rcases adp.1 hv with rfl|hv
  ·grind
  ·exact fZ h.2 v hv
section
variable {G:Gh}
theorem ck.cY{l:List AV}{vs:List Value}(h:ck G l vs)(hc:cd l=true):∀v,v∈vs->v.oneCell'=true:=by
 intro v hv
 obtain⟨j,hj,rfl⟩:=List.getElem_of_mem hv
 have Am:j<l.length:=by rwa[h.1]
 exact(h.2 j l[j] vs[j] (IF Am) (IF hj)).cY (fZ hc _ (adP Am))
theorem nI{av:AV}{v:Value}(h:aK G av v)(hc:cd (cellsOf av)=true):ck G (cellsOf av) v.cells.toList:=by
 cases av with
 |agg l=>
  cases h with
  |agg _ vs hl hr=>exact⟨by assumption,by assumption⟩
 |_=>
  simp[cellsOf,cd,Bool.and_true]at hc
  have h1:=h.cY hc
  have:v.cells=#[v]:=by cases v<;>first|rfl|grind [Value.oneCell']
  rw[this]
  refine⟨rfl,fun j d u hd hu=>?_⟩
  cases j with
  |zero=>grind [cellsOf]
  |succ j=>simp[cellsOf]at hd
theorem ck.iS{l:List AV}{vs:List Value}{l':List AV}{Ot:List Value}(h:ck G l vs)(h':ck G l' Ot)(off:Nat)(hle:off+l'.length<=l.length):
 ck G (iS l off l') (vs.take off++Ot++vs.drop (off+Ot.length)):=by
 have e:=h.1
 have e':=h'.1
 constructor
 ·grind [TM.iS]
 ·intro j d v hd hv
  simp[TM.iS,adJ]at hd hv
  rw[List.getElem?_append]at hd hv
  simp[adD]at hd hv
  by_cases h1:j<off
  ·rw[if_pos (by omega)]at hd hv
   rw[List.getElem?_take,if_pos h1]at hd hv
   exact h.2 j d v hd hv
  ·rw[if_neg (by omega)]at hd hv
   rw[List.getElem?_append]at hd hv
   rw[show min off l.length=off by omega]at hd
   rw[show min off vs.length=off by omega]at hv
   by_cases h2:j-off<l'.length
   ·rw[if_pos h2]at hd
    rw[if_pos (by omega)]at hv
    exact h'.2 _ d v hd hv
   ·rw[if_neg h2]at hd
    rw[if_neg (by omega)]at hv
    rw[List.getElem?_drop]at hd hv
    rw[<-e']at hv
    exact h.2 _ d v hd hv
theorem Hv(off:Nat):∀(vs:List Value) (i:Nat) (cur:Array Value),off+i+vs.length<=cur.size->
 ((vs.zipIdx i).foldl (fun cs (p:Value×Nat)=>cs.setIfInBounds (off+p.2) p.1) cur).toList=cur.toList.take (off+i)++vs++cur.toList.drop (off+i+vs.length)
 |[],i,cur,_=>by simp
 |v::rest,i,cur,hl=>by
  simp[List.zipIdx_cons,List.foldl_cons]
  rw[Hv off rest _ _ (by grind)]
  simpa[Nat.add_assoc]using (list_seg_step cur.toList (off+i) v rest (by grind))
theorem sB(place:Nat->Option (Nat×Nat)):∀(parts:List (Nat×AV)) (Kd:List (Nat×Value)) (l l':List AV) (cs:Array Value),
 (parts.length=Kd.length/\∀(j:Nat) (p:Nat×AV) (q:Nat×Value),parts[j]?=some p->Kd[j]?=some q->p.1=q.1/\aK G p.2 q.2)->ck G l cs.toList->rA place l parts=some l'->
 ∃YV,Instr.fill place cs Kd=some YV/\ck G l' YV.toList
 |[],[],l,l',cs,_,hc,h=>by simp[rA]at h;subst h;exact⟨cs,rfl,hc⟩
 |[],q::vr,l,l',cs,hp,_,_=>by grind
 |p::r,[],l,l',cs,hp,_,_=>by grind
 |(i,av)::r,(i',v)::vr,l,l',cs,hp,hc,h=>by
  have h0:=hp.2 0 (i,av) (i',v) rfl rfl
  simp at h0
  obtain⟨rfl,hv⟩:=h0
  simp[rA,BM]at h
  split at h
  ·grind
  ·rename_i off sz Io
   cases hb:(Nat.beq (cellsOf av).length sz&&Nat.ble (off+sz) l.length&&cd (cellsOf av))with
   |false=>grind
   |true=>
    rw[hb]at h
    simp[cond_true]at h
    simp only[adT]at hb
    obtain⟨⟨jI,cx⟩,A5⟩:=hb
    have jI:=ab9 jI
    have cx:=Nat.le_of_ble_eq_true cx
    have jQ:=nI hv A5
    have bP:v.cells.size=sz:=by rw[<-jI,jQ.1];simp
    have hls:l.length=cs.size:=by rw[hc.1];simp
    have kD:((v.cells.zipIdx.foldl (fun cs (p)=>cs.setIfInBounds (off+p.2) p.1) cs).toList)=cs.toList.take off++v.cells.toList++cs.toList.drop (off+v.cells.toList.length):=by
     rw[<-Array.foldl_toList,Array.toList_zipIdx]
     simp_all [Hv]
    have yE:ck G (iS l off (cellsOf av)) (v.cells.zipIdx.foldl (fun cs (p)=>cs.setIfInBounds (off+p.2) p.1) cs).toList:=by
     rw[kD]
     exact hc.iS jQ off (by omega)
    obtain⟨YV,h1,h2⟩:=sB place r vr _ l' _ ⟨by grind,fun j p q Yw SV=>hp.2 (j+1) p q (by grind) (by simpa using SV)⟩ yE h
    refine⟨YV,?_,h2⟩
    simp[Instr.fill,Io,bP]
    grind
end
theorem oO.rel{ρ':Nat->AV}{κ':Nat->aw}{g:dV}{a:Act}{w:World}{G:Gh}(ak:cB g n ρ' κ' a w G)(aY:gd=true):
 ∀{l:List (Nat×Operand)} {r:List (Nat×AV)},oO ρ κ gd l r->(∀p,p∈l->JV ρ ρ' κ κ' p.2)->
  (r.length=(l.map fun p=>(p.1,a.eval p.2)).length/\∀(j:Nat) (p:Nat×AV) (q:Nat×Value),r[j]?=some p->(l.map fun p=>(p.1,a.eval p.2))[j]?=some q->p.1=q.1/\aK G p.2 q.2)
 |[],[],_,_=>⟨rfl,by simp⟩
 |[],_::_,h,_=>h.elim
 |_::_,[],h,_=>h.elim
 |(i,x)::l,(j,v)::r,⟨A1,hv,h⟩,ay=>by
  obtain⟨h1,h2⟩:=oO.rel ak aY h (fun p hp=>ay p (by grind))
  refine⟨by grind,fun jj p q hp hq=>?_⟩
  cases jj with
  |zero=>simp at hp hq;subst hp;subst hq;exact⟨A1.symm,(hv ρ' κ' (ay (i,x) (by simp)) g n a w G ak aY)⟩
  |succ jj=>grind
theorem Hw{w:World}(fs:List Field)(h:∀f,f∈fs->∃j,P.info? f.type=some j):((fs.toArray.mapM fun f=>do pure (f.offset,<-sizeOf f.type)):Sem (Array (Nat×Nat))).run P w=.ok (fs.map fun f=>(f.offset,match P.info? f.type with|some j=>j.size|none=>0)).toArray w:=by
 have key:∀(l:List Field),(∀f,f∈l->∃j,P.info? f.type=some j)->((l.mapM fun f=>do pure (f.offset,<-sizeOf f.type)):Sem _).run P w=.ok (l.map fun f=>(f.offset,match P.info? f.type with|some j=>j.size|none=>0)) w:=by
  intro l
  induction l with
  |nil=>simp_all
  |cons f r ih=>
   simp_all [ka,List.map_cons]
 simp_all
theorem OC(hT:fD P T){t:Nat}{parts:Array (Nat×Operand)}{l:List (Nat×AV)}{cs:List AV}(hg:cb ρ ops o.guard=some gd)(ho:o.op=.build t parts)(cC:(nth T t).ok=true)
 (hp:oO ρ κ gd parts.toList l) (kP:rA (fun i=>(nth T t).fields[i]?) (ed (nth T t).zero) l=some cs) (acK:Nat.beq (nth T t).kind 9=true) (hk:bj n o gd nx k (.agg cs) []):Good P C ops n o nx ρ κ k:=by
 obtain⟨ti,u,z,tf⟩:=hT.facts cC
 have hu:∃fs,u=.struct fs:=by
  have h1:=tf.kind
  rw[ab9 acK]at h1
  cases u<;>simp[kindOf]at h1
  grind
 obtain⟨fs,rfl⟩:=hu
 refine bE (fun c=>by grind) hg hk fun ρ' κ' ay g a w G ak aY=>?_
 have IW:=fun p Yw=>ay.op (by
  rw[ho]
  simp only[Op.operands,List.mem_toArray,adK]
  exact⟨p,Yw,rfl⟩)
 have hz:=by
  exact ju (eu (M:=G.M) tf.zc).1
 obtain⟨YV,h3,h4⟩:=sB _ l _ _ cs z.cells (hp.rel ak aY IW) hz kP
 have acL:=by
  have:=aK.agg cs YV.toList h4.1 h4.2
  omega
 refine⟨.agg YV,?_,acL⟩
 ·have Io:((fs.mapM fun f=>do pure (f.offset,<-sizeOf f.type)):Sem _).run P w=.ok (nth T t).fields.toArray w:=by
   have:=Hw (w:=w) fs.toList (fun f hf=>by
    have:=tf.fin
    simp only[zg,adH]at this
    exact Option.isSome_iff_exists.1 (this f hf))
   rw[this,tf.fields]
   rfl
  simp[execOp,ho,Instr.build,Sem.run_bind,tf.tW w,run_underlying tf.CZ,Io]
  simp_all
end
end
section
open Go.RowKit
variable [cj]
theorem ra{i j sz:Nat}(hj:j<sz):(i*sz+j)/sz=i/\(i*sz+j)%sz=j:=by
 grind [Nat.mul_comm,Nat.mul_add_div,Nat.div_eq_of_lt,Nat.mul_add_mod,Nat.mod_eq_of_lt]
theorem qu{i j n sz:Nat}(hi:i<n)(hj:j<sz):i*sz+j<n*sz:=by
 have:(i+1)*sz<=n*sz:=adN _ hi
 grind
def ub(w:World)(v:Value)(sz:Nat)(l:List DV)(R:Nat->Nat->DV->Value->Prop):Prop:=
 (l=[]/\v=.slice none 0 0)\/
 ∃g o cap c t,v=.slice (some ⟨g,o,none⟩) l.length cap/\l.length<=cap/\w.heap[g]?=some (.cells c t (0,0))/\o+cap*sz<=c.size/\
  ∀(i:Nat) (x:DV),l[i]?=some x->x.cells.length=sz/\∀(j:Nat) (d:DV),x.cells[j]?=some d->d.aq=true/\∃u,c[o+i*sz+j]?=some u/\R i j d u
theorem gl{M:Mem}{w:World}{v:Value}{hc:PS->Option Value}{sz:Nat}{l:List DV}:cI M w v hc (.aD sz l)↔ub w v sz l fun i j d u=>dG M (hc (.el i j)) d u:=Iff.rfl
def qv(w:World)(v:Value)(sz:Nat)(l:List DV)(S:Nat->Nat->DV->Value->Prop):Prop:=
 (∃c,v=.slice none 0 c/\l=[])\/
 ∃(A:Addr) (cap:Nat) (cell:Nat->Nat->Value),v=.slice (some A) l.length cap/\∀(i:Nat) (x:DV),l[i]?=some x->x.cells.length=sz/\
  ∀(j:Nat) (d:DV),x.cells[j]?=some d->d.aq=true/\w.cell? (A.add (i*sz+j))=some (cell i j)/\(cell i j).oneCell'=true/\S i j d (cell i j)
section
variable {w:World}
theorem qv.abM{M:Mem}{sz:Nat}{l:List DV}{v:Value}(dw:M.In w)(h:bz M (.sl sz l) v):qv w v sz l fun _ _ d u=>bz M d u:=by
 cases h with
 |slnil=>exact .inl ⟨0,rfl,rfl⟩
 |sl _ _ A cap cell eJ hlen hc hr=>
  refine .inr ⟨A,cap,cell,rfl,fun i x hx=>?_⟩
  have hm:=hlen x (ab6 hx)
  refine⟨hm.1,fun j d hd=>⟨hm.2 d (ab6 hd),dw.cell (hc i j (W8.1 hx).1 ?_),(hr i x j d hx hd).cY (hm.2 d (ab6 hd)),hr i x j d hx hd⟩⟩
  grind
theorem qv.Sg{sz:Nat}{l:List DV}{v:Value}{R:Nat->Nat->DV->Value->Prop}(h:ub w v sz l R)(h1:∀i j d u,R i j d u->d.aq=true->u.oneCell'=true):qv w v sz l R:=by
 rcases h with⟨rfl,rfl⟩|⟨g,o,cap,c,t,rfl,eJ,hw,bP,ED⟩
 ·exact .inl ⟨0,rfl,rfl⟩
 ·refine .inr ⟨⟨g,o,none⟩,cap,fun i j=>c.getD (o+i*sz+j) undef,rfl,fun i x hx=>?_⟩
  obtain⟨a1,a2⟩:=ED i x hx
  refine⟨a1,fun j d hd=>?_⟩
  obtain⟨b1,u,hu,hr⟩:=a2 j d hd
  have e:c.getD (o+i*sz+j) undef=u:=by simp_all
  grind [fa,World.cell?,undef]
theorem qv.mono{sz:Nat}{l l':List DV}{v:Value}{S S':Nat->Nat->DV->Value->Prop}(h:qv w v sz l S)(hl:l.length=l'.length)
 (hx:∀(i:Nat) (x y:DV),l[i]?=some x->l'[i]?=some y->x.cells.length=y.cells.length/\∀(j:Nat) (d e:DV) (u:Value),x.cells[j]?=some d->y.cells[j]?=some e->d.aq=true->S i j d u->e.aq=true/\S' i j e u):qv w v sz l' S':=by
 rcases h with⟨c,rfl,rfl⟩|⟨A,cap,cell,rfl,hh⟩
 ·exact .inl ⟨c,rfl,by simpa using hl.symm⟩
 ·refine .inr ⟨A,cap,cell,by grind,fun i y hy=>?_⟩
  have hi:i<l.length:=by grind
  obtain⟨a1,a2⟩:=hh i _ (IF hi)
  obtain⟨b1,b2⟩:=hx i _ y (IF hi) hy
  refine⟨by omega,fun j e he=>?_⟩
  have hj:j<l[i].cells.length:=by grind
  obtain⟨c1,c2,c3,c4⟩:=a2 j _ (IF hj)
  obtain⟨d1,d2⟩:=b2 j _ e _ (IF hj) he c1 c4
  exact⟨d1,c2,c3,d2⟩
def fk(sz n:Nat)(cell:Nat->Nat->Value):List Value:=(List.range (n*sz)).map fun q=>cell (q/sz) (q%sz)
theorem jM(sz n:Nat)(cell:Nat->Nat->Value):(fk sz n cell).length=n*sz:=by simp[fk]
theorem nJ{sz n i j:Nat}(cell:Nat->Nat->Value)(hi:i<n)(hj:j<sz):(fk sz n cell)[i*sz+j]?=some (cell i j):=by
 grind [ra,fk,qu]
theorem vF{P:Program}(t ty e:TypeId)(i:TypeInfo)(ht:P.underlying t=some (.slice e))(hi:P.info? e=some i)
 (g o Ke YW:Nat) (cur:Array Value) (tt:TypeId) (hg:w.heap[g]?=some (.cells cur tt (0,0)))
 (a:Addr) (m c:Nat) (news:List Value) (hl:news.length=m*i.size) (Cl:∀j u,news[j]?=some u->w.cell? (a.add j)=some u) (h1:∀u∈news,u.oneCell'=true)
 (Hx:Ke+m<=YW) (cP:o+Ke*i.size+news.length<=cur.size):
 (Builtin.append_ #[t,t] ty #[.slice (some ⟨g,o,none⟩) Ke YW,.slice (some a) m c]).run P w=
  .ok (.slice (some ⟨g,o,none⟩) (Ke+m) YW) (w.setRow g (cur.toList.take (o+Ke*i.size)++news++cur.toList.drop (o+Ke*i.size+news.length)).toArray):=by
 have ak:=run_storeCells_at P g (o+Ke*i.size) tt news 0 cur w hg (by grind) h1
 simp[Nat.add_zero]at ak
 simp[Builtin.append_,run_underlying ht,sizeOf,typeInfo,hi,Builtin.lenOf,Hx,(run_firstCells_some (P:=P) w i.size m a m c news hl Cl),fa,ak]
def ug(n:Nat)(R S:Nat->Nat->DV->Value->Prop):Nat->Nat->DV->Value->Prop:=fun i j d u=>if i<n then R i j d u else S (i-n) j d u
def L9(w:World)(v v':Value)(w':World)(zs:List DV):Prop:=∀a n,v=.slice (some a) n n->zs≠[]->(∀b,b<w.heap.size->w'.heap[b]?=w.heap[b]?)/\∀b,cT v'=some b->w.heap.size<=b
theorem z8{P:Program}{t ty e:TypeId}{ti:TypeInfo}{z:Value}(ht:P.underlying t=some (.slice e))(hi:P.info? e=some ti)(hz:ti.zero=some z)(YT:z.cells.size=ti.size)(dD:0<ti.size)
 {v sv:Value} {xs zs:List DV} {R S:Nat->Nat->DV->Value->Prop} (xa:ub w v ti.size xs R) (lK:qv w sv ti.size zs S)
 (EK:xs.length+zs.length<=9223372036854775807) (As:(xs.length+zs.length)*ti.bytes<=140737488355328):
 ∃v' w',(Builtin.append_ #[t,t] ty #[v,sv]).run P w=.ok v' w'/\ub w' v' ti.size (xs++zs) (ug xs.length R S)/\w.grownBy w' (cT v)/\(∀b,cT v'=some b->w.heap.size<=b\/cT v=some b)/\v'.oneCell'=true/\L9 w v v' w' zs:=by
 have Sh:∀{c:Array Value} {o:Nat},(∀(i:Nat) (x:DV),xs[i]?=some x->x.cells.length=ti.size/\∀(j:Nat) (d:DV),x.cells[j]?=some d->d.aq=true/\∃u,c[o+i*ti.size+j]?=some u/\R i j d u)->
  ∀(i:Nat) (x:DV),xs[i]?=some x->x.cells.length=ti.size/\∀(j:Nat) (d:DV),x.cells[j]?=some d->d.aq=true/\∃u,c[o+i*ti.size+j]?=some u/\ug xs.length R S i j d u:=by
  intro c o hh i x hx
  obtain⟨a1,a2⟩:=hh i x hx
  refine⟨a1,fun j d hd=>?_⟩
  obtain⟨b1,u,b2,b3⟩:=a2 j d hd
  refine⟨b1,u,b2,?_⟩
  unfold ug
  rwa[if_pos (W8.1 hx).1]
 have nL:zs=[]->(Builtin.append_ #[t,t] ty #[v,sv]).run P w=.ok v w->∃v' w',(Builtin.append_ #[t,t] ty #[v,sv]).run P w=.ok v' w'/\ub w' v' ti.size (xs++zs) (ug xs.length R S)/\w.grownBy w' (cT v)/\(∀b,cT v'=some b->w.heap.size<=b\/cT v=some b)/\v'.oneCell'=true/\L9 w v v' w' zs:=by
  rintro rfl hr
  refine⟨v,w,hr,?_,World.grownBy.refl w _,fun b hb=>.inr hb,(by rcases xa with⟨_,rfl⟩|⟨_,_,_,_,_,rfl,_⟩<;>rfl),nofun⟩
  rw[List.append_nil]
  rcases xa with h|⟨g,o,cap,cc,tt,hv,eJ,hw,bP,ED⟩
  ·exact .inl h
  ·exact .inr ⟨g,o,cap,cc,tt,hv,eJ,hw,bP,Sh ED⟩
 rcases lK with⟨c,rfl,uZ⟩|⟨A,Si,cell,rfl,cL⟩
 ·refine nL uZ ?_
  rcases xa with⟨_,rfl⟩|⟨g,o,cap,cc,tt,rfl,eJ,hw,bP,ED⟩
  ·simp[Builtin.append_,run_underlying ht,sizeOf,typeInfo,hi,Builtin.lenOf,Builtin.firstCells]
  ·simp[Builtin.append_,run_underlying ht,sizeOf,typeInfo,hi,Builtin.lenOf,Builtin.firstCells,eJ,storeCells]
 ·obtain⟨m,kB⟩:∃m,m=zs.length:=⟨_,rfl⟩
  rw[<-kB]at EK As nL⊢
  have hlen:(fk ti.size m cell).length=m*ti.size:=jM _ _ _
  have hq:∀q,q<m*ti.size->q/ti.size<m/\q%ti.size<ti.size/\q=q/ti.size*ti.size+q%ti.size:=fun q hq=>
   ⟨(Nat.div_lt_iff_lt_mul dD).2 hq,Nat.mod_lt _ dD,by have:=Nat.div_add_mod q ti.size;rw[Nat.mul_comm]at this;exact this.symm⟩
  have Cl:∀j u,(fk ti.size m cell)[j]?=some u->w.cell? (A.add j)=some u:=by
   intro q u hu
   obtain⟨h1,h2,h3⟩:=hq q (by rw[<-hlen];exact(W8.1 hu).1)
   obtain⟨W7,hl3⟩:=cL (q/ti.size) (zs[q/ti.size]'(by omega)) (IF (by omega))
   have:=(hl3 (q%ti.size) _ (IF (by rwa[W7]))).2.1
   rw[h3]at hu⊢
   rw[nJ cell h1 h2]at hu
   rwa[this]
  have wX:∀u,u∈fk ti.size m cell->u.oneCell'=true:=by
   intro u hu
   obtain⟨q,SV,rfl⟩:=List.getElem_of_mem hu
   obtain⟨h1,h2,h3⟩:=hq q (by rwa[<-hlen])
   obtain⟨W7,hl3⟩:=cL (q/ti.size) (zs[q/ti.size]'(by omega)) (IF (by omega))
   have:=(hl3 (q%ti.size) _ (IF (by rwa[W7]))).2.2.1
   have he:(fk ti.size m cell)[q]=cell (q/ti.size) (q%ti.size):=by simp[fk]
   rwa[he]
  have reads:∀(c':Array Value) (o':Nat),
   (∀(i:Nat) (x:DV),xs[i]?=some x->x.cells.length=ti.size/\∀(j:Nat) (d:DV),x.cells[j]?=some d->d.aq=true/\∃u,c'[o'+i*ti.size+j]?=some u/\R i j d u)->
   (∀q,q<m*ti.size->c'[o'+xs.length*ti.size+q]?=(fk ti.size m cell)[q]?)->
   ∀(i:Nat) (x:DV),(xs++zs)[i]?=some x->x.cells.length=ti.size/\∀(j:Nat) (d:DV),x.cells[j]?=some d->d.aq=true/\∃u,c'[o'+i*ti.size+j]?=some u/\ug xs.length R S i j d u:=by
   intro c' o' hold kD i x hx
   rw[List.getElem?_append]at hx
   split at hx
   ·exact Sh hold i x hx
   ·rename_i gV
    obtain⟨h1,h3⟩:=cL _ x hx
    have au:i-xs.length<m:=by rw[kB];exact(W8.1 hx).1
    refine⟨h1,fun j d hd=>?_⟩
    have hj:j<ti.size:=by rw[<-h1];exact(W8.1 hd).1
    obtain⟨k1,k2,k3,k4⟩:=h3 j d hd
    refine⟨k1,cell (i-xs.length) j,?_,by unfold ug;rwa[if_neg gV]⟩
    have:=kD ((i-xs.length)*ti.size+j) (qu au hj)
    rw[nJ cell au hj]at this
    rw[<-this]
    congr 1
    have:i*ti.size=xs.length*ti.size+(i-xs.length)*ti.size:=by rw[<-Nat.add_mul];congr 1;omega
    omega
  by_cases EC:m=0
  ·subst EC
   clear reads wX Cl hq hlen cL
   refine nL (List.eq_nil_of_length_eq_zero (by omega)) ?_
   clear nL Sh
   rcases xa with⟨_,rfl⟩|⟨g,o,cap,cc,tt,rfl,eJ,hw,bP,ED⟩
   ·simp[Builtin.append_,run_underlying ht,sizeOf,typeInfo,hi,Builtin.lenOf,Builtin.firstCells,loadCells,loadCellsFrom]
   ·simp[Builtin.append_,run_underlying ht,sizeOf,typeInfo,hi,Builtin.lenOf,Builtin.firstCells,eJ,storeCells,loadCells,loadCellsFrom]
  ·have Sj:∀(U1:List Value) (cp:Nat),U1.length=xs.length*ti.size->xs.length+m<=cp->(∀(i:Nat) (x:DV),xs[i]?=some x->x.cells.length=ti.size/\∀(j:Nat) (d:DV),x.cells[j]?=some d->d.aq=true/\∃u,U1[i*ti.size+j]?=some u/\R i j d u)->
       ub (w.drew.alloc (.cells (U1.toArray++(fk ti.size m cell).toArray++Builtin.zeroCells z.cells (cp-(xs.length+m))) e)) (.slice (some ⟨w.heap.size,0,none⟩) (xs.length+m) cp) ti.size (xs++zs) (ug xs.length R S):=by
    intro U1 cp XI Wh hold
    refine .inr ⟨w.heap.size,0,cp,_,e,by simp[kB],by simpa[kB]using Wh,cg w.drew _,?_,reads _ 0 ?_ ?_⟩
    ·simp only[Array.size_append,List.size_toArray,size_zeroCells,YT,XI,hlen,<-Nat.add_mul,Nat.zero_add]
     exact adN _ (by omega)
    ·intro i x hx
     obtain⟨h1,h3⟩:=hold i x hx
     refine⟨h1,fun j d hd=>?_⟩
     obtain⟨k1,u,hu,hr⟩:=h3 j d hd
     refine⟨k1,u,?_,hr⟩
     have au:=(W8.1 hu).1
     rw[Nat.zero_add,Array.getElem?_append,if_pos (by simp;omega),Array.getElem?_append,if_pos (by simpa using au)]
     simpa using hu
    ·intro q SV
     rw[Nat.zero_add,Array.getElem?_append,if_pos (by simp[hlen,XI];omega),Array.getElem?_append,if_neg (by simp[XI])]
     simp[XI]
   rcases xa with⟨rfl,rfl⟩|⟨g,o,cap,cc,tt,rfl,eJ,hw,bP,ED⟩
   ·have hg:=Sj [] (grownCap w m 0 e) (by simp) (by simpa using grownCap_ge w m 0 e) (by simp)
    simp only[List.length_nil,Nat.zero_add,Array.empty_append]at hg
    refine⟨_,_,(run_append_nil w t ty e ti z ht hi hz A m Si (fk ti.size m cell) hlen Cl (by omega) (by simp at EK;omega) (by simp at As;omega)),by simpa using hg,⟨rfl,rfl,rfl,by simp,fun q hq _=>bu w.drew _ hq⟩,fun b hb=>?_,rfl,nofun⟩
    simp[cT]at hb;exact .inl (by omega)
   ·by_cases Hx:xs.length+m<=cap
    ·have cP:o+xs.length*ti.size+(fk ti.size m cell).length<=cc.size:=by
      rw[hlen]
      have:(xs.length+m)*ti.size<=cap*ti.size:=adN _ Hx
      rw[Nat.add_mul]at this
      omega
     have hr:=vF t ty e ti ht hi g o xs.length cap cc tt hw A m Si (fk ti.size m cell) hlen Cl wX Hx cP
     refine⟨_,_,hr,.inr ⟨g,o,cap,_,tt,by simp[kB],by simpa[kB]using Hx,setRow_heap w g cc _ tt _ hw,?_,reads _ o ?_ ?_⟩,⟨rfl,rfl,rfl,by simp,fun q _ hq=>setRow_other w g q _ (fun x=>hq (by simp[cT,x]))⟩,fun b hb=>.inr hb,rfl,fun a n e hz=>?_⟩
     ·simp only[List.size_toArray,adv,adD,List.length_drop,Array.length_toList]
      omega
     ·intro i x hx
      obtain⟨h1,h3⟩:=ED i x hx
      refine⟨h1,fun j d hd=>?_⟩
      obtain⟨k1,u,hu,hr⟩:=h3 j d hd
      refine⟨k1,u,?_,hr⟩
      have hj:j<ti.size:=by rw[<-h1];exact(W8.1 hd).1
      have BL:=qu (W8.1 hx).1 hj
      have Gu:=(adw.1 hu).1
      simp only[List.getElem?_toArray,adJ]
      rw[List.getElem?_append_left (by simp;omega),List.getElem?_take,if_pos (by omega)]
      simpa using hu
     ·intro q SV
      simp only[List.getElem?_toArray,adJ]
      rw[List.getElem?_append_right (by simp;omega),List.getElem?_append_left (by simp;omega)]
      congr 1
      simp;omega
     ·exfalso
      simp only[Value.slice.injEq]at e
      have:=fun h=>hz (List.eq_nil_of_length_eq_zero h)
      omega
    ·have holds:∀j u,((List.range (xs.length*ti.size)).map fun q=>cc.getD (o+q) undef)[j]?=some u->w.cell? ((⟨g,o,none⟩:Addr).add j)=some u:=by
      intro j u hj
      simp only[abW]at hj
      by_cases au:j<xs.length*ti.size
      ·simp only[List.getElem?_range au,Option.map_some]at hj
       injection hj with hj
       have lu:o+j<cc.size:=by
        have:xs.length*ti.size<=cap*ti.size:=adN _ eJ
        omega
       rw[fa]
       simp only[World.cell?,hw]
       rw[<-hj]
       simp[lu]
      ·simp[au]at hj
     have hr:=run_append_grow w t ty e ti z ht hi hz ⟨g,o,none⟩ xs.length cap ((List.range (xs.length*ti.size)).map fun q=>cc.getD (o+q) undef) (by simp) holds A m Si (fk ti.size m cell) hlen Cl (by omega) (by omega) (growslice_fits (by omega) As)
     have hg:=Sj ((List.range (xs.length*ti.size)).map fun q=>cc.getD (o+q) undef) (grownCap w (xs.length+m) cap e) (by simp) (grownCap_ge w (xs.length+m) cap e) (by
      intro i x hx
      obtain⟨h1,h3⟩:=ED i x hx
      refine⟨h1,fun j d hd=>?_⟩
      obtain⟨k1,u,hu,hr⟩:=h3 j d hd
      have hj:j<ti.size:=by rw[<-h1];exact(W8.1 hd).1
      have BL:=qu (W8.1 hx).1 hj
      refine⟨k1,u,?_,hr⟩
      simp only[abW,List.getElem?_range BL,Option.map_some]
      rw[show o+(i*ti.size+j)=o+i*ti.size+j by omega,adt,hu]
      rfl)
     refine⟨_,_,hr,hg,⟨rfl,rfl,rfl,by simp,fun q hq _=>bu w.drew _ hq⟩,fun b hb=>?_,rfl,fun _ _ _ _=>⟨fun b hb=>bu w.drew _ hb,fun b hb=>?_⟩⟩
     ·simp[cT]at hb;exact .inl (by omega)
     ·simp[cT]at hb;omega
end
end
section
open Go.RowKit
variable [cj]
section
variable {w w':World}
theorem bD.sub{M:Mem}{h:List PS->Option Value}{d c:DV}{p:List PS}(ht:bD M w h d)(hp:get d p=some c)(hc:c.ar=true):bD M w (fun r=>h (p++r)) c:=by
 refine⟨hc,fun q m hq hm=>?_⟩
 obtain⟨v,h1,h2,h3⟩:=ht.2 _ m (by rwa[get_append,hp]) hm
 simp_all
theorem ji.sub{h:List PS->Option Value}{d c:DV}{p:List PS}(hi:ji h d)(hp:get d p=some c):ji (fun r=>h (p++r)) c:=by
 intro q q' n m u v b e1 e2 e3 e4 f1 f2 f3 f4
 have:=hi _ _ n m u v b (by rwa[get_append,hp]) e2 e3 e4 (by rwa[get_append,hp]) f2 f3 f4
 simp_all
theorem bR.sub{h:List PS->Option Value}{d c:DV}{p:List PS}{b:Nat}(hp:get d p=some c)(ho:bR (fun r=>h (p++r)) c b):bR h d b:=by
 obtain⟨q,m,v,h1,h2,h3,h4⟩:=ho
 exact⟨p++q,m,v,by rwa[get_append,hp],h2,h3,h4⟩
theorem ji.kg{h h':List PS->Option Value}{d:DV}(hi:ji h d)(hh:∀p n v,get d p=some n->n.ar=true->h' p=some v->h p=some v):ji h' d:=
 fun p q n m u v b e1 e2 e3 e4 f1 f2 f3 f4=>hi p q n m u v b e1 e2 (hh p n u e1 e2 e3) e4 f1 f2 (hh q m v f1 f2 f3) f4
def Sk:List PS->Option Value
 |[]=>some (.slice none 0 0)
 |_=>none
theorem xK{sz:Nat}{p:List PS}{m:DV}(h:get (.aD sz []) p=some m):p=[]/\m=.aD sz []:=by
 cases p with
 |nil=>simp[get]at h;grind
 |cons s p=>cases s<;>simp[get,step]at h
theorem Aa(M:Mem)(w:World)(sz:Nat):bD M w Sk (.aD sz []):=by
 refine⟨rfl,fun p m hp _=>?_⟩
 obtain⟨rfl,rfl⟩:=xK hp
 exact⟨_,rfl,rfl,.inl ⟨rfl,rfl⟩⟩
theorem Es(sz:Nat):ji Sk (.aD sz []):=by
 intro p q n m u v b e1 _ _ _ f1 _ _ _
 grind [xK]
theorem kN{sz b:Nat}(h:bR Sk (.aD sz []) b):False:=by
 obtain⟨p,m,v,h1,_,h3,h4⟩:=h
 obtain⟨rfl,rfl⟩:=xK h1
 grind [Sk,cT]
def vG(n:Nat)(v:Value)(h hs:List PS->Option Value):List PS->Option Value
 |[]=>some v
 |.el i j::r=>if i<n then h (.el i j::r)else hs (.el (i-n) j::r)
 |s::r=>h (s::r)
inductive Src(M:Mem)(w:World)(x:Value)(sz:Nat)(ys:List DV)(hs:List PS->Option Value):Prop
 |closed (h:qv w x sz ys fun _ _ d u=>d.ar=false/\bz M d u) (hn:hs=fun _=>none)
 |tree (ht:bD M w hs (.aD sz ys)) (hi:ji hs (.aD sz ys)) (hx:hs []=some x)
theorem dG.cY{M:Mem}{h:Option Value}{d:DV}{u:Value}(r:dG M h d u)(hc:d.aq=true)(ho:d.ar=true->∀v,h=some v->v.oneCell'=true):u.oneCell'=true:=by
 rcases r with⟨a,b⟩|⟨a,b⟩
 ·grind
 ·exact b.cY hc
theorem bD.Sl{M:Mem}{h:List PS->Option Value}{d c:DV}{s:PS}(ht:bD M w h d)(hs:step d s=some c)(hc:c.ar=true){v:Value}(hv:h [s]=some v):v.oneCell'=true:=by
 obtain⟨u,h1,h2,_⟩:=ht.2 [s] c (by simp[get,hs]) hc
 grind
theorem Src.YY{M:Mem}{x:Value}{sz:Nat}{ys:List DV}{hs:List PS->Option Value}(h:Src M w x sz ys hs):qv w x sz ys fun i j d u=>d.aq=true/\dG M (hs [.el i j]) d u:=by
 cases h with
 |closed h hn=>
  refine h.mono rfl fun i x' y hx hy=>?_
  rw[hx]at hy;injection hy with hy;subst hy
  refine⟨rfl,fun j d e u hd he DQ hS=>?_⟩
  rw[hd]at he;injection he with he;subst he
  exact⟨DQ,DQ,.inr hS⟩
 |tree ht hi hx=>
  obtain⟨v,h1,h2,h3⟩:=ht.2 [] _ rfl rfl
  rw[hx]at h1;injection h1 with h1;subst h1
  have h4:ub w x sz ys fun i j d u=>d.aq=true/\step (.aD sz ys) (.el i j)=some d/\dG M (hs [.el i j]) d u:=by
   rcases gl.1 h3 with h3|⟨g,o,cap,c,t,a1,a2,a3,a4,a5⟩
   ·exact .inl h3
   ·refine .inr ⟨g,o,cap,c,t,a1,a2,a3,a4,fun i y hy=>⟨(a5 i y hy).1,fun j d hd=>?_⟩⟩
    grind [step]
  refine(qv.Sg h4 fun i j d u hr _=>?_).mono rfl fun i x' y hx hy=>?_
  ·exact hr.2.2.cY hr.1 fun ho v hv=>ht.Sl hr.2.1 ho hv
  grind
theorem mS.length:∀{l r:List DV},mS l r->l.length=r.length
 |[],[],_=>rfl
 |_::_,_::_,h=>by simp[mS.length h.2]
 |[],_::_,h=>h.elim
 |_::_,[],h=>h.elim
theorem mS.at:∀{l r:List DV},mS l r->∀(j:Nat) (d e:DV),l[j]?=some d->r[j]?=some e->(d.ar=true/\d=e)\/(d.ar=false/\d.Le e)
 |[],[],_,j,d,e,h,_=>by grind
 |a::l,b::r,h,0,d,e,e1,e2=>by
  simp at e1 e2;subst e1;subst e2
  have:=h.1
  grind
 |a::l,b::r,h,j+1,d,e,e1,e2=>by exact mS.at h.2 j d e e1 e2
 |[],_::_,h,_,_,_,_,_=>h.elim
 |_::_,[],h,_,_,_,_,_=>h.elim
theorem b7.length:∀{l r:List DV},b7 l r->l.length=r.length
 |[],[],_=>rfl
 |_::_,_::_,h=>by simp[b7.length h.2]
 |[],_::_,h=>h.elim
 |_::_,[],h=>h.elim
theorem b7.at:∀{l r:List DV},b7 l r->∀(i:Nat) (x y:DV),l[i]?=some x->r[i]?=some y->mS x.cells y.cells
 |[],[],_,j,d,e,h,_=>by grind
 |a::l,b::r,h,0,d,e,e1,e2=>by simp at e1 e2;subst e1;subst e2;exact h.1
 |a::l,b::r,h,j+1,d,e,e1,e2=>by exact b7.at h.2 j d e e1 e2
 |[],_::_,h,_,_,_,_,_=>h.elim
 |_::_,[],h,_,_,_,_,_=>h.elim
theorem bz.aq{M:Mem}{d:DV}{v:Value}(h:bz M d v)(hv:v.oneCell'=true):d.aq=true:=by
 cases h with
 |agg=>assumption
 |_=>rfl
theorem dG.le{M:Mem}{h:Option Value}{d e:DV}{u:Value}(r:dG M h d u)(hle:(d.ar=true/\d=e)\/(d.ar=false/\d.Le e))(hc:d.aq=true):e.aq=true/\dG M h e u/\(e.ar=true->d=e):=by
 rcases hle with⟨h1,rfl⟩|⟨h1,h2⟩
 ·grind
 ·rcases r with⟨a,b⟩|⟨a,b⟩
  ·grind
  ·have h3:=h2 M u b
   exact⟨h3.aq (b.cY hc),.inr ⟨h3.fw,h3⟩,fun ho=>by rw[h3.fw]at ho;grind⟩
theorem Hy{P:Program}{T:List TI}(hT:fD P T){t ty:TypeId}(cC:(nth T t).ok=true)(gM:(nth T t).isSl=true)(wo:(nth T (nth T t).elem).ok=true)(dD:0<(nth T (nth T t).elem).size)
 {M:Mem} {h hs:List PS->Option Value} {l ys zs:List DV} {v x:Value} (ht:bD M w h (.aD (nth T (nth T t).elem).size l)) (hi:ji h (.aD (nth T (nth T t).elem).size l)) (hv:h []=some v)
 (lK:Src M w x (nth T (nth T t).elem).size ys hs) (YZ:∀b,bR h (.aD (nth T (nth T t).elem).size l) b->¬bR hs (.aD (nth T (nth T t).elem).size ys) b) (au:∀b,bR hs (.aD (nth T (nth T t).elem).size ys) b->b<w.heap.size) (hle:b7 ys zs)
 (EK:l.length+zs.length<=9223372036854775807) (As:(l.length+zs.length)*(nth T (nth T t).elem).bytes<=140737488355328):
 ∃v' w',(Builtin.append_ #[t,t] ty #[v,x]).run P w=.ok v' w'/\w.grownBy w' (cT v)/\v'.oneCell'=true/\bD M w' (vG l.length v' h hs) (.aD (nth T (nth T t).elem).size (l++zs))/\ji (vG l.length v' h hs) (.aD (nth T (nth T t).elem).size (l++zs))/\
  ∀b,bR (vG l.length v' h hs) (.aD (nth T (nth T t).elem).size (l++zs)) b->bR h (.aD (nth T (nth T t).elem).size l) b\/bR hs (.aD (nth T (nth T t).elem).size ys) b\/w.heap.size<=b:=by
 obtain⟨i,u,z,tf⟩:=hT.facts cC
 obtain⟨te,ue,ze,jk⟩:=hT.facts wo
 generalize bP:(nth T (nth T t).elem).size=sz at*
 have mG:te.size=sz:=by rw[<-bP,jk.size]
 obtain⟨v0,HW,w4,bq⟩:=ht.2 [] _ rfl rfl
 rw[hv]at HW;injection HW with HW;subst HW
 have hsg:=lK.YY
 have Sm:qv w x sz zs fun i j d u=>d.aq=true/\dG M (hs [.el i j]) d u:=by
  refine hsg.mono hle.length fun i x y hx hy=>?_
  have h1:=hle.at i x y hx hy
  refine⟨h1.length,fun j d e u hd he DQ hS=>?_⟩
  obtain⟨k1,k2,_⟩:=hS.2.le (h1.at j d e hd he) DQ
  grind
 have Ab:∀i j e,step (.aD sz zs) (.el i j)=some e->e.ar=true->step (.aD sz ys) (.el i j)=some e:=by
  intro i j e he ho
  simp only[step]at he⊢
  split at he
  ·rename_i y hy
   have H0:i<ys.length:=by rw[hle.length];grind
   have hx:=IF H0
   rw[hx]
   have h1:=hle.at i _ y hx hy
   have hd:=IF (by rw[h1.length];exact(W8.1 he).1)
   simp only
   rcases h1.at j _ e hd he with⟨a,b⟩|⟨a,b⟩
   ·grind
   ·-- a closed cell acM acN an ar one:there is a value of it
    rcases hsg with⟨c,_,uZ⟩|⟨A,cap,cell,_,cL⟩
    ·grind
    ·obtain⟨_,h3⟩:=cL i _ hx
     obtain⟨_,_,_,h4⟩:=h3 j _ hd
     rcases h4.2 with⟨c1,_⟩|⟨_,c2⟩
     ·grind
     ·rw[(b M _ c2).fw]at ho;grind
  grind
 have Y0:ze.cells.size=te.size:=by
  have:=(eu (M:=M) jk.zc).1.1
  simp at this
  rw[<-this,jk.zl]
 obtain⟨v',w',bG,Hz,jh,hblk,Et,_⟩:=z8 (tf.slice gM) jk.info jk.zero Y0 (by grind) (by rw[mG];assumption) (by rwa[mG]) EK (by rwa[<-jk.bytes])
 rw[mG]at Hz
 refine⟨v',w',bG,jh,Et,?_⟩
 have Sn:∀b,b<w.heap.size->cT v≠some b->w'.heap[b]?=w.heap[b]?:=fun b hb cF=>jh.block b hb (fun e=>cF e.symm)
 have Y1:cI M w' v' (fun s=>vG l.length v' h hs ([]++[s])) (.aD sz (l++zs)):=by
  refine gl.2 ?_
  rcases Hz with h1|⟨g,o,cap,c,tt,a1,a2,a3,a4,a5⟩
  ·exact .inl h1
  ·refine .inr ⟨g,o,cap,c,tt,a1,a2,a3,a4,fun i x hx=>⟨(a5 i x hx).1,fun j d hd=>?_⟩⟩
   obtain⟨b1,u,b2,b3⟩:=(a5 i x hx).2 j d hd
   refine⟨b1,u,b2,?_⟩
   unfold ug at b3
   simp only[List.nil_append,vG]
   grind
 have Y2:∀i j c,i<l.length->(step (.aD sz (l++zs)) (.el i j)=some c↔step (.aD sz l) (.el i j)=some c):=by
  intro i j c lu
  simp only[step]
  rw[List.getElem?_append_left lu]
 have Kg:∀i j c,¬i<l.length->step (.aD sz (l++zs)) (.el i j)=some c->step (.aD sz zs) (.el (i-l.length) j)=some c:=by
  intro i j c gV hc
  simp only[step]at hc⊢
  rwa[List.getElem?_append_right (by omega)]at hc
 have el:∀s c,step (.aD sz (l++zs)) s=some c->∃i j,s=.el i j:=by
  intro s c fY
  cases s with
  |el i j=>exact⟨i,j,rfl⟩
  |key=>simp[step]at fY
 have sub:∀i j c,¬i<l.length->step (.aD sz (l++zs)) (.el i j)=some c->c.ar=true->bD M w' (fun r=>hs (.el (i-l.length) j::r)) c/\ji (fun r=>hs (.el (i-l.length) j::r)) c/\∀b,bR (fun r=>hs (.el (i-l.length) j::r)) c b->bR hs (.aD sz ys) b:=by
  intro i j c gV hc ho
  have h1:=Ab _ _ _ (Kg i j c gV hc) ho
  have hg:get (.aD sz ys) [.el (i-l.length) j]=some c:=by simp[get,h1]
  cases lK with
  |closed l7 hn=>
   exfalso
   rcases l7 with⟨_,_,uZ⟩|⟨A,cap,cell,_,cL⟩
   ·subst uZ;simp[step]at h1
   ·simp only[step]at h1
    split at h1
    ·rename_i x hx
     obtain⟨_,h3⟩:=cL _ x hx
     have:=(h3 j c h1).2.2.2.1
     rw[ho]at this;cases this
    ·cases h1
  |tree ak hsi hsx=>
   have t1:=ak.sub hg ho
   have t2:∀b,bR (fun r=>hs ([.el (i-l.length) j]++r)) c b->bR hs (.aD sz ys) b:=fun b hb=>hb.sub hg
   exact⟨t1.kg (Mem.Le.refl _) (fun b hb=>Sn b (au b (t2 b hb)) fun e=>YZ b ⟨[],_,v,rfl,rfl,hv,e⟩ (t2 b hb)) (fun _ _ _ _ _ q=>q),hsi.sub hg,t2⟩
 have main:=bD.sf (fun s=>∃i j,s=.el i j/\¬i<l.length) ht hi rfl rfl hv rfl rfl Et (.inl rfl) Y1
  (fun q hq=>absurd (List.nil_prefix) hq)
  (fun s c fY ho hN=>by
   obtain⟨i,j,rfl⟩:=el s c fY
   by_cases lu:i<l.length
   ·simp_all [List.nil_append,vG,if_pos]
   ·exact absurd ⟨i,j,rfl,lu⟩ hN)
  (fun s c fY ho hN=>by
   obtain⟨i,j,rfl,gV⟩:=hN
   obtain⟨t1,t2,t3⟩:=sub i j c gV fY ho
   have e:(fun r=>vG l.length v' h hs ([]++.el i j::r))=fun r=>hs (.el (i-l.length) j::r):=by funext r;simp only[List.nil_append,vG,if_neg gV]
   rw[e]
   refine⟨t1,t2,fun b hb=>⟨fun mj=>YZ b mj (t3 b hb),fun eT=>?_⟩⟩
   rcases hblk b eT with h5|h5
   ·have:=au b (t3 b hb);omega
   ·exact YZ b ⟨[],_,v,rfl,rfl,hv,h5⟩ (t3 b hb))
  (fun s s' c c' b jR Sp Y3 lZ N6 hN2 jI cx=>by
   obtain⟨i,j,rfl,gV⟩:=Y3
   obtain⟨i',j',rfl,abN⟩:=hN2
   have e:∀i j,¬i<l.length->(fun r=>vG l.length v' h hs ([]++.el i j::r))=fun r=>hs (.el (i-l.length) j::r):=fun i j gV=>by funext r;simp only[List.nil_append,vG,if_neg gV]
   rw[e i j gV]at jI
   rw[e i' j' abN]at cx
   cases lK with
   |closed l7 hn=>rw[hn]at jI;obtain⟨_,_,_,_,_,q,_⟩:=jI;cases q
   |tree ak hsi hsx=>
    obtain⟨q,m,u,a1,a2,a3,a4⟩:=jI
    obtain⟨q',m',u',b1,b2,b3,b4⟩:=cx
    have:=hsi (.el (i-l.length) j::q) (.el (i'-l.length) j'::q') m m' u u' b (by simp only[get,(Ab _ _ _ (Kg i j c gV jR) Sp)];exact a1) a2 a3 a4 (by simp only[get,(Ab _ _ _ (Kg i' j' c' abN lZ) N6)];exact b1) b2 b3 b4
    injection this with e1 e2
    injection e1 with e1 e3
    have:i=i':=by omega
    rw[this,e3])
  (fun b hb=>by
   rcases hblk b hb with h5|h5
   ·right;intro ho
    obtain⟨p,m,u,a1,a2,a3,a4⟩:=ho
    obtain⟨u',c1,_,c3⟩:=ht.2 p m a1 a2
    rw[a3]at c1;injection c1 with c1;subst c1
    have:=xO c3 a4;omega
   ·exact .inl h5)
  (fun b ho cF=>by
   obtain⟨p,m,u,a1,a2,a3,a4⟩:=ho
   obtain⟨u',c1,_,c3⟩:=ht.2 p m a1 a2
   rw[a3]at c1;injection c1 with c1;subst c1
   exact Sn b (xO c3 a4) cF)
 obtain⟨m1,m2,m3⟩:=main
 refine⟨m1,m2,fun b hb=>?_⟩
 rcases m3 b hb with h1|h1|⟨s,c,s1,s2,⟨i,j,rfl,gV⟩,s4⟩
 ·exact .inl h1
 ·rcases hblk b h1 with h5|h5
  ·exact .inr (.inr h5)
  ·exact .inl ⟨[],_,v,rfl,rfl,hv,h5⟩
 ·have e:(fun r=>vG l.length v' h hs ([]++.el i j::r))=fun r=>hs (.el (i-l.length) j::r):=by funext r;simp only[List.nil_append,vG,if_neg gV]
  rw[e]at s4
  exact .inr (.inl ((sub i j c gV s1 s2).2.2 b s4))
end
end
end Go.TM
