import Derived.Test.YtpjpdomkcabfcaaGreatDoorBM4
import Derived.Laws.StructEq
set_option linter.unusedVariables false
set_option linter.unusedSimpArgs false
set_option linter.unusedSectionVars false
namespace Go.TM
open Go.RowKit
variable [Glob]
theorem add_zero' (a:Addr):a.add 0=a:=by simp [Addr.add]
section
variable {P:Program} {C:Org→Prop} {T:List TI} {ops:List Oper} {n:Nat} {o:Oper} {nx:Nat} {ρ:Nat→AV} {κ:Nat→Box} {k:Eff→Nat→Prop} {gd:Bool}
theorem op_index_sl (hT:TOk P T) {t:Nat} {x i:Operand} {sz:Nat} {l:List DV} {y:DV} {kd:IntKind} {m:Int} (hg:gval ρ ops o.guard=some gd) (ho:o.op=.indexAddr t x i)
  (hok:(nth T t).ok=true) (hsl:(nth T t).isSl=true) (hel:(nth T (nth T t).elem).ok=true) (hsz:sz=(nth T (nth T t).elem).size)
  (hy:gd=true→0≤m∧l[m.toNat]?=some y) (hk:retv n o gd nx k (.dv (.at y 0)) []) (hev:EvOk ρ κ gd x (.dv (.sl sz l))) (hei:EvOk ρ κ gd i (.dv (.int kd m))):Good P C ops n o nx ρ κ k:=by
 obtain ⟨ti,u,z,tf⟩:=hT.facts hok
 obtain ⟨te,ue,ze,tfe⟩:=hT.facts hel
 refine snd_val (fun c=>by rw [ho]; simp) hg hk fun ρ' κ' hag g a w G hst hgd=>?_
 have hv:=hev ρ' κ' (hag.op (by rw [ho]; simp [Op.operands])) g n a w G hst hgd
 have hv2:=hei ρ' κ' (hag.op (by rw [ho]; simp [Op.operands])) g n a w G hst hgd
 generalize hx:a.eval x=v at hv
 generalize hi:a.eval i=vi at hv2
 obtain ⟨hm0,hmy⟩:=hy hgd
 have hlt:m.toNat<l.length:=(List.getElem?_eq_some_iff.1 hmy).1
 cases hv2 with | dv hv2=>cases hv2 with | int =>
 cases hv with | dv hv=>cases hv with
 | slnil=>simp at hlt
 | sl _ _ A cap cell hcap hlen hc hr =>
  have hpos:0≤m∧m<(l.length:Int):=⟨hm0,by omega⟩
  refine ⟨.pointer (some (A.add (m.toNat * sz))),?_,?_⟩
  ·have hrs:=tfe.run_size w
   rw [←hsz] at hrs
   simp [execOp,ho,hx,hi,Instr.indexAt,run_underlying (tf.slice hsl),asIntOf,hpos,hrs]
  ·have:=DRel.at (M:=G.M) y 0 (A.add (m.toNat * sz)) (fun j=>cell m.toNat j) (hlen y (List.mem_of_getElem? hmy)).2
    (fun j hj=>by rw [add_of_add]; exact hc _ _ hlt (by rw [(hlen y (List.mem_of_getElem? hmy)).1] at hj; exact hj))
    (fun j d hd=>hr _ y j d hmy hd)
   rw [add_zero'] at this
   exact .dv this
theorem op_index_arr (hT:TOk P T) {t:Nat} {x i:Operand} {av av':AV} {kd:IntKind} {m:Int} (hg:gval ρ ops o.guard=some gd) (ho:o.op=.indexAddr t x i)
  (hok:(nth T t).ok=true) (hkd:(nth T t).kind=10) (hel:(nth T (nth T t).elem).ok=true) (hm:gd=true→0≤m∧m<(nth T t).len)
  (hk:retv n o gd nx k av' []) (hev:EvOk ρ κ gd x av) (hei:EvOk ρ κ gd i (.dv (.int kd m)))
  (hp:∀(G:Gh) (v:Value),VRel G av v→∃a,v=.pointer (some a)∧VRel G av' (.pointer (some (a.add (m.toNat * (nth T (nth T t).elem).size))))):Good P C ops n o nx ρ κ k:=by
 obtain ⟨ti,u,z,tf⟩:=hT.facts hok
 obtain ⟨te,ue,ze,tfe⟩:=hT.facts hel
 refine snd_val (fun c=>by rw [ho]; simp) hg hk fun ρ' κ' hag g a w G hst hgd=>?_
 have hv:=hev ρ' κ' (hag.op (by rw [ho]; simp [Op.operands])) g n a w G hst hgd
 have hv2:=hei ρ' κ' (hag.op (by rw [ho]; simp [Op.operands])) g n a w G hst hgd
 generalize hi:a.eval i=vi at hv2
 cases hv2 with | dv hv2=>cases hv2 with | int =>
 obtain ⟨p,hp,hp'⟩:=hp _ _ hv
 refine ⟨_,?_,hp'⟩
 have hu:P.underlying t=some (.array (nth T t).len (nth T t).elem):=by
  have h1:=tf.kind
  rw [hkd] at h1
  have h2:=tf.len
  have h3:=tf.elem
  rw [tf.und]
  cases u <;> simp [kindOf] at h1
  simp [lenOf] at h2
  simp [elOf] at h3
  rw [h2,h3]
 have hpos:=hm hgd
 simp [execOp,ho,hp,hi,Instr.indexAt,run_underlying hu,asIntOf,Instr.sureAddr,hpos,tfe.run_size w]
theorem op_index_own (hT:TOk P T) {t:Nat} {x i:Operand} {id ver ep ep' sz:Nat} {p:List PS} {d:DV} {l:List DV} {kd:IntKind} {m:Int} (hg:gval ρ ops o.guard=some gd) (ho:o.op=.indexAddr t x i)
  (hok:(nth T t).ok=true) (hsl:(nth T t).isSl=true) (hel:(nth T (nth T t).elem).ok=true) (hsz:sz=(nth T (nth T t).elem).size) (hb:κ id=.tree ver ep' d) (hcur:p=[] ∨ ep=ep') (hnd:gd=true→get d p=some (.osl sz l))
  (hy:gd=true→0≤m∧m<l.length) (hk:retv n o gd nx k (.loc id ver ep p sz m.toNat 0) [id]) (hev:EvOk ρ κ gd x (.own id ver ep p)) (hei:EvOk ρ κ gd i (.dv (.int kd m))):Good P C ops n o nx ρ κ k:=by
 obtain ⟨ti,u,z,tf⟩:=hT.facts hok
 obtain ⟨te,ue,ze,tfe⟩:=hT.facts hel
 refine snd_val (fun c=>by rw [ho]; simp) hg hk fun ρ' κ' hag g a w G hst hgd=>?_
 have hv:=hev ρ' κ' (hag.op (by rw [ho]; simp [Op.operands])) g n a w G hst hgd
 have hv2:=hei ρ' κ' (hag.op (by rw [ho]; simp [Op.operands])) g n a w G hst hgd
 generalize hx:a.eval x=v at hv
 generalize hi:a.eval i=vi at hv2
 obtain ⟨hm0,hmy⟩:=hy hgd
 have hki:κ' id=.tree ver ep' d:=(hag.reads id (by simp)).trans hb
 obtain ⟨u,h1,_,hnode⟩:=hst.fit.node hki (hnd hgd) rfl
 cases hv2 with | dv hv2=>cases hv2 with | int =>
 cases hv with
 | own _ _ _ _ _ hh hc =>
  have hh0:=hh
  rw [hdr_cur hcur,h1] at hh
  injection hh with hh
  subst hh
  rcases hnode with ⟨rfl,_⟩ | ⟨gb,ob,cap,cc,tt,rfl,hcap,hw,hcsz,hxs⟩
  ·simp at hmy; omega
  ·have hpos:0≤m∧m<(l.length:Int):=⟨hm0,hmy⟩
   refine ⟨.pointer (some ((⟨gb,ob,none⟩:Addr).add (m.toNat * sz))),?_,?_⟩
   ·have hrs:=tfe.run_size w
    rw [←hsz] at hrs
    simp [execOp,ho,hx,hi,Instr.indexAt,run_underlying (tf.slice hsl),asIntOf,hpos,hrs]
   ·have:=VRel.loc (G:=G) id ver ep p sz m.toNat 0 _ _ _ hh0
    rwa [Nat.add_zero] at this
theorem op_index_sle (hT:TOk P T) {t:Nat} {x i:Operand} {id len:Nat} {kd:IntKind} {m:Int} (hg:gval ρ ops o.guard=some gd) (ho:o.op=.indexAddr t x i)
  (hok:(nth T t).ok=true) (hsl:(nth T t).isSl=true) (hel:(nth T (nth T t).elem).ok=true)
  (hy:gd=true→0≤m∧m<len) (hk:retv n o gd nx k (.ptr id (m.toNat * (nth T (nth T t).elem).size)) []) (hev:EvOk ρ κ gd x (.sle id len)) (hei:EvOk ρ κ gd i (.dv (.int kd m))):Good P C ops n o nx ρ κ k:=by
 obtain ⟨ti,u,z,tf⟩:=hT.facts hok
 obtain ⟨te,ue,ze,tfe⟩:=hT.facts hel
 refine snd_val (fun c=>by rw [ho]; simp) hg hk fun ρ' κ' hag g a w G hst hgd=>?_
 have hv:=hev ρ' κ' (hag.op (by rw [ho]; simp [Op.operands])) g n a w G hst hgd
 have hv2:=hei ρ' κ' (hag.op (by rw [ho]; simp [Op.operands])) g n a w G hst hgd
 generalize hx:a.eval x=v at hv
 generalize hi:a.eval i=vi at hv2
 have hpos:=hy hgd
 cases hv2 with | dv hv2=>cases hv2 with | int =>
 cases hv with
 | sle _ _ b hb =>
  refine ⟨.pointer (some ((⟨b,0,none⟩:Addr).add (m.toNat * (nth T (nth T t).elem).size))),?_,?_⟩
  ·have hrs:=tfe.run_size w
   simp [execOp,ho,hx,hi,Instr.indexAt,run_underlying (tf.slice hsl),asIntOf,hpos,hrs]
  ·rw [add_at,Nat.zero_add]; exact .ptr _ _ b hb
theorem op_len (hT:TOk P T) {t:Nat} {x:Operand} {c:Call} {av:AV} {m:Int} {rd:List Nat} (hg:gval ρ ops o.guard=some gd) (ho:o.op=.call c) (hc:c.callee=.builtin .len) (ha:c.args.toList=[x]) (hat:c.argTypes.toList=[t])
  (hk:retv n o gd nx k (.dv (.int .i64 m)) rd) (hev:EvOk ρ κ gd x av) (hok:(nth T t).ok=true)
  (hp:gd=true→∀κ',(∀i,i∈rd→κ' i=κ i)→∀(G:Gh) (w:World) (v:Value),Fit G w κ'→VRel G av v →
   ((nth T t).isSl=true∧∃p l c,v=.slice p l c∧(l:Int)=m) ∨ ((nth T t).isStr=true∧∃s,v=.string s∧(s.size:Int)=m) ∨
   (Nat.beq (nth T t).kind 6=true∧∃b es clock,v=.map (some b)∧w.heap[b]?=some (.map es clock)∧(es.size:Int)=m)):Good P C ops n o nx ρ κ k:=by
 have hargs:c.args=#[x]:=Array.ext' (by simpa using ha)
 have hats:c.argTypes=#[t]:=Array.ext' (by simpa using hat)
 refine snd_val (fun c=>by rw [ho]; simp) hg hk fun ρ' κ' hag g a w G hst hgd=>?_
 have hv:=hev ρ' κ' (hag.op (by rw [ho]; simp [Op.operands,Call.operands,hc,hargs])) g n a w G hst hgd
 refine ⟨.int .i64 m,?_,.dv (.int _ _)⟩
 obtain ⟨ti,u,z,tf⟩:=hT.facts hok
 rcases hp hgd κ' hag.reads G w _ hst.fit hv with ⟨hsl,p,l,cc,hvv,hm⟩ | ⟨hsl,s,hvv,hm⟩ | ⟨hmk,b,es,clock,hvv,hw,hm⟩
 ·simp [execOp,ho,resolve,hc,hargs,hats,invoke,builtin,Builtin.len_,run_underlying (tf.slice hsl),hvv,goInt,hm]
 ·simp [execOp,ho,resolve,hc,hargs,hats,invoke,builtin,Builtin.len_,run_underlying (tf.string hsl),hvv,goInt,hm]
 ·have hu:∃kt et,P.underlying t=some (.map kt et):=by
   have h1:=tf.kind
   rw [Nat.eq_of_beq_eq_true hmk] at h1
   cases u <;> simp [kindOf] at h1
   exact ⟨_,_,tf.und⟩
  obtain ⟨kt,et,hu⟩:=hu
  simp [execOp,ho,resolve,hc,hargs,hats,invoke,builtin,Builtin.len_,run_underlying hu,hvv,goInt,hm,MapKept.run_getObj_map hw]
theorem equal_slice_nil {w:World} {t e:TypeId} (hu:P.underlying t=some (.slice e)) (a:Option Addr) (l c:Nat):(Op.equal t (.slice a l c) (.slice none 0 0)).run P w=.ok a.isNone w:=by
 have h:∀d,(Op.equalIn (d+1) t (.slice a l c) (.slice none 0 0)).run P w=.ok a.isNone w:=fun d=>by
  cases a <;> simp [Op.equalIn,run_underlying hu]
 simp only [Op.equal,Op.maxDepth,h 9999]
theorem bifT {b:Bool} {p:Prop} (h:bif b then p else False):b=true∧p:=by
 cases b with
 | false=>exact h.elim
 | true=>exact ⟨rfl,h⟩
theorem aisNil_sound {κ:Nat→Box} {gd:Bool} {a:AV} {k:Option Bool→List Nat→Prop} (h:aisNil κ gd a k):∃c rd,k c rd∧(gd=true→∀κ',(∀i,i∈rd→κ' i=κ i)→∀(G:Gh) (w:World) (v:Value),Fit G w κ'→VRel G a v→∃p l cc,v=.slice p l cc∧∀b,c=some b→p.isNone=b):=by
 unfold aisNil at h
 split at h
 ·refine ⟨_,_,h,fun _ κ' _ G w v _ hv=>?_⟩
  cases hv with | dv hv=>cases hv with | nils=>exact ⟨_,_,_,rfl,fun b hb=>by injection hb⟩
 ·rcases h with h | ⟨hl,h⟩
  ·refine ⟨_,_,h,fun _ κ' _ G w v _ hv=>?_⟩
   cases hv with | dv hv=>cases hv with
   | slnil=>exact ⟨_,_,_,rfl,fun b hb=>by cases hb⟩
   | sl=>exact ⟨_,_,_,rfl,fun b hb=>by cases hb⟩
  ·refine ⟨_,_,h,fun _ κ' _ G w v _ hv=>?_⟩
   cases hv with | dv hv=>cases hv with
   | slnil=>exact absurd rfl hl
   | sl=>exact ⟨_,_,_,rfl,fun b hb=>by injection hb⟩
 ·rename_i i ver ep p
  split at h
  ·rename_i ver' ep' d hk
   have hh:=bifT h; clear h; obtain ⟨hb,h⟩:=hh
   obtain ⟨rfl,hcur⟩:=vis_cur hb
   obtain ⟨nd,h,hnd⟩:=getN_sound h
   split at h
   ·rename_i sz l
    have key:gd=true→∀κ',(∀j,j∈[i]→κ' j=κ j)→∀(G:Gh) (w:World) (v:Value),Fit G w κ'→VRel G (.own i ver ep p) v→∃q m cc,v=.slice q m cc∧(l ≠ []→q.isNone=false):=by
     intro hgd κ' hag G w v hf hv
     have hk':=(hag i (by simp)).trans hk
     obtain ⟨u,e1,e2,e3⟩:=hf.node hk' (hnd hgd) rfl
     cases hv with | own _ _ _ _ _ hh hc =>
     rw [hdr_cur hcur] at hh
     rw [hh] at e1; injection e1 with e1; subst e1
     rcases e3 with ⟨hnil,hx⟩ | ⟨gb,o,cap,c,tt,hx,_⟩
     ·exact ⟨_,_,_,hx,fun hl=>absurd hnil hl⟩
     ·exact ⟨_,_,_,hx,fun _=>rfl⟩
    rcases h with h | ⟨hl,h⟩
    ·refine ⟨_,_,h,fun hgd κ' hag G w v hf hv=>?_⟩
     obtain ⟨q,m,cc,e,_⟩:=key hgd κ' hag G w v hf hv
     exact ⟨q,m,cc,e,fun b hb=>by cases hb⟩
    ·refine ⟨_,_,h,fun hgd κ' hag G w v hf hv=>?_⟩
     obtain ⟨q,m,cc,e,e2⟩:=key hgd κ' hag G w v hf hv
     exact ⟨q,m,cc,e,fun b hb=>by injection hb with hb; rw [e2 hl,hb]⟩
   ·exact h.elim
  ·exact h.elim
 ·refine ⟨_,_,h,fun _ κ' _ G w v _ hv=>?_⟩
  cases hv with | ownf _ _ a m hh=>exact ⟨_,_,_,rfl,fun b hb=>by injection hb⟩
 ·exact h.elim
theorem bifO {α:Type} {b:Bool} {x:Option α} {y:α} (h:(bif b then x else none)=some y):b=true∧x=some y:=by cases b <;> simp_all
theorem eqCell1_run {G:Gh} {w:World} {x y:AV} {u v:Value} {e:Bool} {f:TypeId} {k D:Nat} (hp:plainK (P.underlying f)=k) (h:eqCell1 k x y=some e) (hx:VRel G x u) (hy:VRel G y v) :
  (Op.equalIn (D+1) f u v).run P w=.ok e w:=by
 unfold eqCell1 at h
 split at h
 ·rename_i kk a k' b
  cases hk:kk == k' with
  | false=>rw [hk] at h; cases h
  | true =>
   rw [hk] at h
   have hkk:kk=k':=by simpa using hk
   subst hkk
   injection h with h; subst h
   cases hx with | dv hx=>cases hx with | int=>cases hy with | dv hy=>cases hy with | int =>
   obtain ⟨q,hq⟩:∃q,P.underlying f=some (.int q):=by
    unfold plainK at hp
    split at hp <;> first | (cases hp; done) | exact ⟨_,by assumption⟩
   exact run_equalIn_int w D f kk q a b hq
 ·rename_i a b
  injection h with h; subst h
  cases hx with | dv hx=>cases hx with | bool=>cases hy with | dv hy=>cases hy with | bool =>
  have hq:P.underlying f=some .bool:=by
   unfold plainK at hp
   split at hp <;> first | (cases hp; done) | assumption
  exact run_equalIn_bool w D f a b hq
 ·rename_i a b
  injection h with h; subst h
  cases hx with | dv hx=>cases hx with | str=>cases hy with | dv hy=>cases hy with | str =>
  have hq:P.underlying f=some .string:=by
   unfold plainK at hp
   split at hp <;> first | (cases hp; done) | assumption
  exact run_equalIn_string w D f a b hq
 ·cases h
theorem run_part_one {w:World} {e:TypeId} {k:Nat} (he:plainK (P.underlying e)=k+1) {xs:Array Value} {off:Nat} {v:Value} (hx:xs[off]?=some v):(part e xs off).run P w=.ok v w:=by
 unfold plainK at he
 split at he
 ·rename_i k hu; simp [part,isAgg,run_underlying hu,hx]
 ·rename_i hu; simp [part,isAgg,run_underlying hu,hx]
 ·rename_i hu; simp [part,isAgg,run_underlying hu,hx]
 ·cases he
theorem eqFields_run {G:Gh} {w:World} {xs ys:Array Value} {D:Nat}:∀(fs:List Field) (i:Nat) (q:List Nat) (l r:List AV) (e:Bool),plainF P i fs=some q→eqCells q l r=some e →
  (∀(j:Nat) (d:AV),l[j]?=some d→∃u,xs[i+j]?=some u∧VRel G d u)→(∀(j:Nat) (d:AV),r[j]?=some d→∃u,ys[i+j]?=some u∧VRel G d u) →
  (Op.eqFields (D+1) xs ys fs).run P w=.ok e w
 | [],i,q,l,r,e,hp,he,hx,hy=>by
  simp only [plainF,Option.some.injEq] at hp
  subst hp
  cases l <;> cases r <;> simp [eqCells] at he
  subst he; simp [Op.eqFields]
 | f::fs,i,q,l,r,e,hp,he,hx,hy=>by
  simp only [plainF] at hp
  have hh:=bifO hp; clear hp; obtain ⟨hb,hp⟩:=hh
  simp only [Bool.and_eq_true,bne_iff_ne] at hb
  obtain ⟨n1,o1⟩:=hb
  have o1:=Nat.eq_of_beq_eq_true o1
  split at hp
  ·rename_i k q' hk hq'
   injection hp with hp; subst hp
   cases l with
   | nil=>cases r <;> simp [eqCells] at he
   | cons x l=>cases r with
    | nil=>simp [eqCells] at he
    | cons y r =>
     simp only [eqCells] at he
     split at he
     ·rename_i a b ha hb
      injection he with he; subst he
      obtain ⟨u,hu,hru⟩:=hx 0 x rfl
      obtain ⟨v,hv,hrv⟩:=hy 0 y rfl
      have h1:=eqCell1_run (w:=w) (D:=D) hk ha hru hrv
      simp only [Op.eqFields,n1,ne_eq,not_false_eq_true,if_true,Sem.run_bind,o1]
      rw [run_part_one hk (by simpa using hu)]
      simp only [Result.andThen_ok]
      rw [run_part_one hk (by simpa using hv)]
      simp only [Result.andThen_ok,h1]
      cases a with
      | false=>simp
      | true =>
       simp only [Bool.not_true,Bool.false_eq_true,if_false,Bool.true_and]
       exact eqFields_run fs (i+1) q' l r b hq' hb (fun j d hd=>by have:=hx (j+1) d (by simpa using hd); rwa [show i+(j+1)=i+1+j by omega] at this)
        (fun j d hd=>by have:=hy (j+1) d (by simpa using hd); rwa [show i+(j+1)=i+1+j by omega] at this)
     ·cases he
  ·cases hp
theorem op_eqA (hT:TOk P T) {op:BinOp} {t ty:TypeId} {x y:Operand} (hg:gval ρ ops o.guard=some gd) (ho:o.op=.binOp op t x y ty) {va vb:AV} (hea:EvOk ρ κ gd x va) (heb:EvOk ρ κ gd y vb)
  (h:aeqA (nth T t) op va vb fun v=>retv n o gd nx k v []):Good P C ops n o nx ρ κ k:=by
 have hh:=bifT h; clear h; obtain ⟨hb,h⟩:=hh
 simp only [Bool.and_eq_true] at hb
 obtain ⟨i,u,z,tf⟩:=hT.facts hb.1
 split at h
 ·rename_i x1 l r
  split at h
  ·rename_i e he
   have hk:=tf.kind
   rw [Nat.eq_of_beq_eq_true hb.2] at hk
   obtain ⟨fs,rfl⟩:∃fs,u=.struct fs:=by
    cases u <;> simp [kindOf] at hk
    exact ⟨_,rfl⟩
   have heq:=tf.eqk
   simp only [eqkOf] at heq
   split at heq
   ·rename_i q hq
    cases hc:Nat.beq fs.toList.length i.size && !P.stoodInHeld t && !P.eqGuardType P.depth t with
    | false=>rw [hc] at heq; simp only [cond_false] at heq; rw [heq] at he; simp [eqCells] at he
    | true =>
     rw [hc] at heq
     simp only [cond_true] at heq
     rw [heq] at he
     simp only [Bool.and_eq_true,Bool.not_eq_true'] at hc
     have hf:P.fieldsOf t=fs:=by simp [Program.fieldsOf,tf.und]
     have core:∀(G:Gh) (w:World) (u v:Value),VRel G (.agg (x1::l)) u→VRel G (.agg r) v→∃us vs,u=.agg us∧v=.agg vs∧(Op.equalIn 10000 t u v).run P w=.ok e w:=by
      intro G w u v hu hv
      cases hu with | agg _ us hlu hru=>cases hv with | agg _ vs hlv hrv =>
      refine ⟨_,_,rfl,rfl,?_⟩
      rw [run_equalIn_struct w 9999 t _ _ (by rw [hf]; exact tf.und) hc.1.2,hf]
      refine eqFields_run (G:=G) (D:=9998) fs.toList 0 q _ _ e hq he (fun j d hd=>?_) (fun j d hd=>?_)
      ·have hj:=(List.getElem?_eq_some_iff.1 hd).1
       exact ⟨us[j]'(by omega),by simp,hru j d _ hd (List.getElem?_eq_getElem (by omega))⟩
      ·have hj:=(List.getElem?_eq_some_iff.1 hd).1
       exact ⟨vs[j]'(by omega),by simp,hrv j d _ hd (List.getElem?_eq_getElem (by omega))⟩
     have fin:∀c:Bool,retv n o gd nx k (.dv (.bool c)) []→(∀(w:World) (us vs:Array Value),(Op.equalIn 10000 t (.agg us) (.agg vs)).run P w=.ok e w→(binOp op t (.agg us) (.agg vs)).run P w=.ok (.bool c) w)→Good P C ops n o nx ρ κ k:=by
      intro c hk' hrun
      refine snd_val (fun c=>by rw [ho]; simp) hg hk' fun ρ' κ' hag g a w G hst hgd=>?_
      have h1:=hea ρ' κ' (hag.op (by rw [ho]; simp [Op.operands])) g n a w G hst hgd
      have h2:=heb ρ' κ' (hag.op (by rw [ho]; simp [Op.operands])) g n a w G hst hgd
      obtain ⟨us,vs,e1,e2,e3⟩:=core G w _ _ h1 h2
      refine ⟨.bool c,?_,.dv (.bool c)⟩
      rw [e1,e2] at e3
      simp only [execOp,ho,Sem.run_bind]
      rw [e1,e2,run_eqGuard_agg w op t x y us vs hc.2]
      simp only [Result.andThen_ok,hrun w us vs e3,Sem.run_pure]
     split at h
     ·exact fin e h fun w us vs h3=>by rw [run_eql_struct,h3]; rfl
     ·exact fin (!e) h fun w us vs h3=>by rw [run_neq_struct,h3]; rfl
     ·exact h.elim
   ·rw [heq] at he; simp [eqCells] at he
  ·exact h.elim
 ·exact h.elim
theorem op_cmpNilA (hT:TOk P T) {op:BinOp} {t ty:TypeId} {x y:Operand} (hg:gval ρ ops o.guard=some gd) (ho:o.op=.binOp op t x y ty) {av:AV} (hev:EvOk ρ κ gd x av) (hey:EvOk ρ κ gd y (.dv .nils))
  (h:acmpNil (nth T t) op κ gd av fun v rd=>retv n o gd nx k v rd):Good P C ops n o nx ρ κ k:=by
 unfold acmpNil at h
 have hh:=bifT h; clear h; obtain ⟨hb,h⟩:=hh
 simp only [Bool.and_eq_true] at hb
 obtain ⟨i,u,z,tf⟩:=hT.facts hb.1
 have hu:=tf.slice hb.2
 have core:∀(neg:Bool),(∀(w:World) (p:Option Addr) (l cc:Nat),(binOp op t (.slice p l cc) (.slice none 0 0)).run P w=.ok (.bool (bif neg then !p.isNone else p.isNone)) w)→(aisNil κ gd av fun c rd=>retv n o gd nx k (nilR neg c) rd)→Good P C ops n o nx ρ κ k:=by
  intro neg hrun h
  obtain ⟨c,rd,hk,hs⟩:=aisNil_sound h
  refine snd_val (fun c=>by rw [ho]; simp) hg hk fun ρ' κ' hag g a w G hst hgd=>?_
  have h1:=hev ρ' κ' (hag.op (by rw [ho]; simp [Op.operands])) g n a w G hst hgd
  have h2:=hey ρ' κ' (hag.op (by rw [ho]; simp [Op.operands])) g n a w G hst hgd
  obtain ⟨p,l,cc,hv,hp⟩:=hs hgd κ' hag.reads G w _ hst.fit h1
  generalize hy:a.eval y=vy at h2
  cases h2 with | dv h2=>cases h2 with | nils =>
  refine ⟨.bool (bif neg then !p.isNone else p.isNone),?_,?_⟩
  ·simp only [execOp,ho,Sem.run_bind]
   rw [run_eqGuard_plain op t x y _ _ (by rw [hv]; simp) (by rw [hv]; simp),hv,hy]
   simp only [Result.andThen_ok,hrun w p l cc,Sem.run_pure]
  ·cases c with
   | none=>exact .dv (.anyb _)
   | some b=>rw [hp b rfl]; exact .dv (.bool _)
 split at h
 ·exact core false (fun w p l cc=>by simp only [binOp,Sem.run_bind,equal_slice_nil hu,Result.andThen_ok,Sem.run_pure,cond_false]) h
 ·exact core true (fun w p l cc=>by simp only [binOp,Sem.run_bind,equal_slice_nil hu,Result.andThen_ok,Sem.run_pure,cond_true]) h
 ·exact h.elim
theorem op_convert (hT:TOk P T) {s t:TypeId} {x:Operand} {kx kd:IntKind} {m:Int} (hg:gval ρ ops o.guard=some gd) (ho:o.op=.convert s t x) (hs:(nth T s).ok=true) (ht:(nth T t).ok=true) (hi:(nth T t).ikd=some kd) (hk:retv n o gd nx k (.dv (.int kd (kd.wrap m))) []) (hev:EvOk ρ κ gd x (.dv (.int kx m))):Good P C ops n o nx ρ κ k:=by
 obtain ⟨i1,u1,z1,tf1⟩:=hT.facts hs
 obtain ⟨i2,u2,z2,tf2⟩:=hT.facts ht
 refine snd_val (fun c=>by rw [ho]; simp) hg hk fun ρ' κ' hag g a w G hst hgd=>?_
 have hv:=hev ρ' κ' (hag.op (by rw [ho]; simp [Op.operands])) g n a w G hst hgd
 generalize hx:a.eval x=v at hv
 cases hv with | dv hv=>cases hv with | int =>
 have h2:=tf2.ikd
 rw [hi] at h2
 cases u2 <;> simp [ikdOf] at h2
 subst h2
 refine ⟨.int kd (kd.wrap m),?_,.dv (.int _ _)⟩
 simp [execOp,ho,hx,convert,run_underlying tf1.und,run_underlying tf2.und,Conv.intToInt]
theorem op_index (hT:TOk P T) {t:TypeId} {x ix:Operand} {kx:IntKind} {m:Int} {s:ByteArray} {b:UInt8} (hg:gval ρ ops o.guard=some gd) (ho:o.op=.index t x ix) (ht:(nth T t).ok=true) (hst:(nth T t).isStr=true) (hb:gd=true→0≤m∧s[m.toNat]?=some b) (hk:retv n o gd nx k (.dv (.int .u8 b.toNat)) []) (hev:EvOk ρ κ gd x (.dv (.str s))) (hei:EvOk ρ κ gd ix (.dv (.int kx m))):Good P C ops n o nx ρ κ k:=by
 obtain ⟨i1,u1,z1,tf1⟩:=hT.facts ht
 have hu:=tf1.string hst
 refine snd_val (fun c=>by rw [ho]; simp) hg hk fun ρ' κ' hag g a w G hst hgd=>?_
 have hv:=hev ρ' κ' (hag.op (by rw [ho]; simp [Op.operands])) g n a w G hst hgd
 have hi:=hei ρ' κ' (hag.op (by rw [ho]; simp [Op.operands])) g n a w G hst hgd
 generalize hx:a.eval x=v at hv
 generalize hy:a.eval ix=u at hi
 cases hv with | dv hv=>cases hv with | str =>
 cases hi with | dv hi=>cases hi with | int =>
 obtain ⟨h0,hb⟩:=hb hgd
 refine ⟨.int .u8 b.toNat,?_,.dv (.int _ _)⟩
 simp [execOp,ho,hx,hy,Instr.index,asIntOf,run_underlying hu,h0,hb]
theorem op_min {x y:Operand} {c:Call} {p q:Int} (hg:gval ρ ops o.guard=some gd) (ho:o.op=.call c) (hc:c.callee=.builtin .min) (ha:c.args.toList=[x,y])
  (hk:retv n o gd nx k (.dv (.int .i64 (if q<p then q else p))) []) (hev:EvOk ρ κ gd x (.dv (.int .i64 p))) (hei:EvOk ρ κ gd y (.dv (.int .i64 q))):Good P C ops n o nx ρ κ k:=by
 have hargs:c.args=#[x,y]:=Array.ext' (by simpa using ha)
 refine snd_val (fun c=>by rw [ho]; simp) hg hk fun ρ' κ' hag g a w G hst hgd=>?_
 have hv:=hev ρ' κ' (hag.op (by rw [ho]; simp [Op.operands,Call.operands,hc,hargs])) g n a w G hst hgd
 have hv2:=hei ρ' κ' (hag.op (by rw [ho]; simp [Op.operands,Call.operands,hc,hargs])) g n a w G hst hgd
 generalize hx:a.eval x=v at hv
 generalize hi:a.eval y=vi at hv2
 cases hv2 with | dv hv2=>cases hv2 with | int =>
 cases hv with | dv hv=>cases hv with | int =>
 refine ⟨_,?_,.dv (.int _ _)⟩
 simp [execOp,ho,resolve,hc,hargs,invoke,builtin,Builtin.min_,Builtin.min2,hx,hi]
theorem op_max {x y:Operand} {c:Call} {p q:Int} (hg:gval ρ ops o.guard=some gd) (ho:o.op=.call c) (hc:c.callee=.builtin .max) (ha:c.args.toList=[x,y])
  (hk:retv n o gd nx k (.dv (.int .i64 (if p<q then q else p))) []) (hev:EvOk ρ κ gd x (.dv (.int .i64 p))) (hei:EvOk ρ κ gd y (.dv (.int .i64 q))):Good P C ops n o nx ρ κ k:=by
 have hargs:c.args=#[x,y]:=Array.ext' (by simpa using ha)
 refine snd_val (fun c=>by rw [ho]; simp) hg hk fun ρ' κ' hag g a w G hst hgd=>?_
 have hv:=hev ρ' κ' (hag.op (by rw [ho]; simp [Op.operands,Call.operands,hc,hargs])) g n a w G hst hgd
 have hv2:=hei ρ' κ' (hag.op (by rw [ho]; simp [Op.operands,Call.operands,hc,hargs])) g n a w G hst hgd
 generalize hx:a.eval x=v at hv
 generalize hi:a.eval y=vi at hv2
 cases hv2 with | dv hv2=>cases hv2 with | int =>
 cases hv with | dv hv=>cases hv with | int =>
 refine ⟨_,?_,.dv (.int _ _)⟩
 simp [execOp,ho,resolve,hc,hargs,invoke,builtin,Builtin.max_,Builtin.max2,hx,hi]
def PartsOk (ρ:Nat→AV) (κ:Nat→Box) (g:Bool):List (Nat × Operand)→List (Nat × AV)→Prop
 | [],[]=>True
 | (i,x)::r,(j,v)::l=>i=j∧EvOk ρ κ g x v∧PartsOk ρ κ g r l
 | _,_=>False
theorem exParts_sound:∀{l:List (Nat × Operand)} {k:List (Nat × AV)→Prop},exParts ρ κ gd l k→∃r,k r∧PartsOk ρ κ gd l r
 | [],k,h=>⟨[],h,tv⟩
 | (i,x)::l,k,h=>by
  obtain ⟨v,h,hv⟩:=ex_sound h
  obtain ⟨r,h,hr⟩:=exParts_sound h
  exact ⟨_,h,rfl,hv,hr⟩
theorem allCell_mem:∀{l:List AV},allCell l=true→∀v,v∈l→v.isCell=true
 | [],_,v,h=>by simp at h
 | x::l,h,v,hv=>by
  simp only [allCell,Bool.and_eq_true] at h
  rcases List.mem_cons.1 hv with rfl | hv
  ·exact h.1
  ·exact allCell_mem h.2 v hv
section
variable {G:Gh}
theorem CRel.oneCell {l:List AV} {vs:List Value} (h:CRel G l vs) (hc:allCell l=true):∀v,v∈vs→v.oneCell'=true:=by
 intro v hv
 obtain ⟨j,hj,rfl⟩:=List.getElem_of_mem hv
 have hj':j<l.length:=by rw [h.1]; exact hj
 exact (h.2 j l[j] vs[j] (List.getElem?_eq_getElem hj') (List.getElem?_eq_getElem hj)).oneCell (allCell_mem hc _ (List.getElem_mem hj'))
theorem cells_rel {av:AV} {v:Value} (h:VRel G av v) (hc:allCell (cellsOf av)=true):CRel G (cellsOf av) v.cells.toList:=by
 cases av with
 | agg l =>
  cases h with
  | agg _ vs hl hr=>exact ⟨by simpa [cellsOf,Value.cells] using hl,by simpa [cellsOf,Value.cells] using hr⟩
 | _ =>
  simp only [cellsOf,allCell,Bool.and_true] at hc
  have h1:=h.oneCell hc
  have:v.cells=#[v]:=by cases v <;> first | rfl | (simp [Value.oneCell'] at h1)
  rw [this]
  refine ⟨rfl,fun j d u hd hu=>?_⟩
  cases j with
  | zero=>simp [cellsOf] at hd hu; subst hd; subst hu; exact h
  | succ j=>simp [cellsOf] at hd
theorem CRel.splice {l:List AV} {vs:List Value} {l':List AV} {vs':List Value} (h:CRel G l vs) (h':CRel G l' vs') (off:Nat) (hle:off+l'.length≤l.length) :
  CRel G (splice l off l') (vs.take off++vs'++vs.drop (off+vs'.length)):=by
 have e:=h.1
 have e':=h'.1
 constructor
 ·simp [TM.splice]; omega
 ·intro j d v hd hv
  simp only [TM.splice,List.append_assoc] at hd hv
  rw [List.getElem?_append] at hd hv
  simp only [List.length_take] at hd hv
  by_cases h1:j<off
  ·rw [if_pos (by omega)] at hd hv
   rw [List.getElem?_take,if_pos h1] at hd hv
   exact h.2 j d v hd hv
  ·rw [if_neg (by omega)] at hd hv
   rw [List.getElem?_append] at hd hv
   rw [show min off l.length=off by omega] at hd
   rw [show min off vs.length=off by omega] at hv
   by_cases h2:j - off<l'.length
   ·rw [if_pos h2] at hd
    rw [if_pos (by omega)] at hv
    exact h'.2 _ d v hd hv
   ·rw [if_neg h2] at hd
    rw [if_neg (by omega)] at hv
    rw [List.getElem?_drop] at hd hv
    rw [←e'] at hv
    exact h.2 _ d v hd hv
theorem fold_set (off:Nat):∀(vs:List Value) (i:Nat) (cur:Array Value),off+i+vs.length≤cur.size →
  ((vs.zipIdx i).foldl (fun cs (p:Value × Nat)=>cs.setIfInBounds (off+p.2) p.1) cur).toList=cur.toList.take (off+i)++vs++cur.toList.drop (off+i+vs.length)
 | [],i,cur,_=>by simp
 | v::rest,i,cur,hl=>by
  simp only [List.zipIdx_cons,List.foldl_cons]
  rw [fold_set off rest (i+1) (cur.setIfInBounds (off+i) v) (by simp at hl ⊢; omega)]
  have e:=list_seg_step cur.toList (off+i) v rest (by simp at hl ⊢; omega)
  simpa [Array.toList_setIfInBounds,Nat.add_assoc] using e
theorem fill_sound (place:Nat→Option (Nat × Nat)):∀(parts:List (Nat × AV)) (vparts:List (Nat × Value)) (l l':List AV) (cs:Array Value),
  (parts.length=vparts.length∧∀(j:Nat) (p:Nat × AV) (q:Nat × Value),parts[j]?=some p→vparts[j]?=some q→p.1=q.1∧VRel G p.2 q.2)→CRel G l cs.toList→fillA place l parts=some l' →
  ∃cs',Instr.fill place cs vparts=some cs'∧CRel G l' cs'.toList
 | [],[],l,l',cs,_,hc,h=>by simp [fillA] at h; subst h; exact ⟨cs,rfl,hc⟩
 | [],q::vr,l,l',cs,hp,_,_=>by simp at hp
 | p::r,[],l,l',cs,hp,_,_=>by simp at hp
 | (i,av)::r,(i',v)::vr,l,l',cs,hp,hc,h=>by
  have h0:=hp.2 0 (i,av) (i',v) rfl rfl
  simp only at h0
  obtain ⟨rfl,hv⟩:=h0
  simp only [fillA] at h
  split at h
  ·cases h
  ·rename_i off sz hpl
   cases hb:(Nat.beq (cellsOf av).length sz && Nat.ble (off+sz) l.length && allCell (cellsOf av)) with
   | false=>rw [hb] at h; cases h
   | true =>
    rw [hb] at h
    simp only [cond_true] at h
    simp only [Bool.and_eq_true] at hb
    obtain ⟨⟨hb1,hb2⟩,hb3⟩:=hb
    have hb1:=Nat.eq_of_beq_eq_true hb1
    have hb2:=Nat.le_of_ble_eq_true hb2
    have hcr:=cells_rel hv hb3
    have hsz:v.cells.size=sz:=by rw [←hb1,hcr.1]; simp
    have hls:l.length=cs.size:=by rw [hc.1]; simp
    have hnew:((v.cells.zipIdx.foldl (fun cs (p:Value × Nat)=>cs.setIfInBounds (off+p.2) p.1) cs).toList)=cs.toList.take off++v.cells.toList++cs.toList.drop (off+v.cells.toList.length):=by
     rw [←Array.foldl_toList,Array.toList_zipIdx]
     have:=fold_set off v.cells.toList 0 cs (by simp; omega)
     simpa using this
    have hc2:CRel G (splice l off (cellsOf av)) (v.cells.zipIdx.foldl (fun cs (p:Value × Nat)=>cs.setIfInBounds (off+p.2) p.1) cs).toList:=by
     rw [hnew]
     exact hc.splice hcr off (by omega)
    obtain ⟨cs',h1,h2⟩:=fill_sound place r vr _ l' _ ⟨by simpa using hp.1,fun j p q hp' hq'=>hp.2 (j+1) p q (by simpa using hp') (by simpa using hq')⟩ hc2 h
    refine ⟨cs',?_,h2⟩
    simp only [Instr.fill,hpl,hsz]
    rw [if_neg (by simp; omega)]
    exact h1
end
theorem PartsOk.rel {ρ':Nat→AV} {κ':Nat→Box} {g:Org} {a:Act} {w:World} {G:Gh} (hst:StM g n ρ' κ' a w G) (hgd:gd=true) :
  ∀{l:List (Nat × Operand)} {r:List (Nat × AV)},PartsOk ρ κ gd l r→(∀p,p∈l→Agr1 ρ ρ' κ κ' p.2) →
   (r.length=(l.map fun p=>(p.1,a.eval p.2)).length∧∀(j:Nat) (p:Nat × AV) (q:Nat × Value),r[j]?=some p→(l.map fun p=>(p.1,a.eval p.2))[j]?=some q→p.1=q.1∧VRel G p.2 q.2)
 | [],[],_,_=>⟨rfl,by simp⟩
 | [],_::_,h,_=>h.elim
 | _::_,[],h,_=>h.elim
 | (i,x)::l,(j,v)::r,⟨hij,hv,h⟩,hag=>by
  obtain ⟨h1,h2⟩:=PartsOk.rel hst hgd h (fun p hp=>hag p (by simp [hp]))
  have hv1:=hv ρ' κ' (hag (i,x) (by simp)) g n a w G hst hgd
  refine ⟨by simpa using h1,fun jj p q hp hq=>?_⟩
  cases jj with
  | zero=>simp at hp hq; subst hp; subst hq; exact ⟨hij.symm,hv1⟩
  | succ jj=>exact h2 jj p q (by simpa using hp) (by simpa using hq)
theorem mapM_places {w:World} (fs:List Field) (h:∀f,f∈fs→∃j,P.info? f.type=some j):((fs.toArray.mapM fun f=>do pure (f.offset,←sizeOf f.type)):Sem (Array (Nat × Nat))).run P w=.ok (fs.map fun f=>(f.offset,match P.info? f.type with | some j=>j.size | none=>0)).toArray w:=by
 have key:∀(l:List Field),(∀f,f∈l→∃j,P.info? f.type=some j)→((l.mapM fun f=>do pure (f.offset,←sizeOf f.type)):Sem (List (Nat × Nat))).run P w=.ok (l.map fun f=>(f.offset,match P.info? f.type with | some j=>j.size | none=>0)) w:=by
  intro l
  induction l with
  | nil=>intro _; rfl
  | cons f r ih =>
   intro hl
   obtain ⟨j,hj⟩:=hl f (by simp)
   have:=ih (fun f hf=>hl f (by simp [hf]))
   simp only [List.mapM_cons,Sem.run_bind,run_sizeOf' hj,Result.andThen_ok,Sem.run_pure,this,List.map_cons,hj]
 rw [List.mapM_toArray]
 simp only [Sem.run_map,key fs h,Result.andThen_ok]
theorem op_build (hT:TOk P T) {t:Nat} {parts:Array (Nat × Operand)} {l:List (Nat × AV)} {cs:List AV} (hg:gval ρ ops o.guard=some gd) (ho:o.op=.build t parts) (hok:(nth T t).ok=true)
  (hp:PartsOk ρ κ gd parts.toList l) (hfl:fillA (fun i=>(nth T t).fields[i]?) (dvs (nth T t).zero) l=some cs) (hst9:Nat.beq (nth T t).kind 9=true) (hk:retv n o gd nx k (.agg cs) []):Good P C ops n o nx ρ κ k:=by
 obtain ⟨ti,u,z,tf⟩:=hT.facts hok
 have hu:∃fs,u=.struct fs:=by
  have h1:=tf.kind
  rw [Nat.eq_of_beq_eq_true hst9] at h1
  cases u <;> simp [kindOf] at h1
  exact ⟨_,rfl⟩
 obtain ⟨fs,rfl⟩:=hu
 refine snd_val (fun c=>by rw [ho]; simp) hg hk fun ρ' κ' hag g a w G hst hgd=>?_
 have hag':∀p,p∈parts.toList→Agr1 ρ ρ' κ κ' p.2:=fun p hp'=>hag.op (by
  rw [ho]
  simp only [Op.operands,List.mem_toArray,List.mem_map]
  exact ⟨p,hp',rfl⟩)
 have h1:=hp.rel hst hgd hag'
 have hz:CRel G (dvs (nth T t).zero) z.cells.toList:=by
  exact vrels_dvs (zcells_ok (M:=G.M) tf.zc).1
 obtain ⟨cs',h3,h4⟩:=fill_sound _ l _ _ cs z.cells h1 hz hfl
 have hagg:VRel G (.agg cs) (.agg cs'):=by
  have:=VRel.agg (G:=G) cs cs'.toList h4.1 h4.2
  simpa using this
 refine ⟨.agg cs',?_,hagg⟩
 ·have hpl:((fs.mapM fun f=>do pure (f.offset,←sizeOf f.type)):Sem (Array (Nat × Nat))).run P w=.ok (nth T t).fields.toArray w:=by
   have:=mapM_places (P:=P) (w:=w) fs.toList (fun f hf=>by
    have:=tf.fin
    simp only [fieldsIn,List.all_eq_true] at this
    exact Option.isSome_iff_exists.1 (this f hf))
   simp only [Array.toArray_toList] at this
   rw [this,tf.fields]
   rfl
  have hfill:Instr.fill (fun i=>(nth T t).fields.toArray[i]?) z.cells (parts.map fun p=>(p.1,a.eval p.2)).toList=some cs':=by
   simpa using h3
  simp only [execOp,ho,Instr.build,Sem.run_bind,tf.run_zero w,Result.andThen_ok,run_underlying tf.und,hpl]
  rw [hfill]
  rfl
end
end Go.TM
namespace Go.TM
open Go.RowKit
variable [Glob]
theorem div_idx {i j sz:Nat} (hj:j<sz):(i * sz+j) / sz=i∧(i * sz+j) % sz=j:=by
 have hpos:0<sz:=by omega
 constructor
 ·rw [Nat.mul_comm,Nat.mul_add_div hpos,Nat.div_eq_of_lt hj]; omega
 ·rw [Nat.mul_comm,Nat.mul_add_mod,Nat.mod_eq_of_lt hj]
theorem lt_idx {i j n sz:Nat} (hi:i<n) (hj:j<sz):i * sz+j<n * sz:=by
 have:(i+1) * sz≤n * sz:=Nat.mul_le_mul_right _ hi
 rw [Nat.add_mul] at this
 omega
def RowG (w:World) (v:Value) (sz:Nat) (l:List DV) (R:Nat→Nat→DV→Value→Prop):Prop :=
 (l=[]∧v=.slice none 0 0) ∨
 ∃g o cap c t,v=.slice (some ⟨g,o,none⟩) l.length cap∧l.length≤cap∧w.heap[g]?=some (.cells c t (0,0))∧o+cap * sz≤c.size ∧
  ∀(i:Nat) (x:DV),l[i]?=some x→x.cells.length=sz∧∀(j:Nat) (d:DV),x.cells[j]?=some d→d.isCell=true∧∃u,c[o+i * sz+j]?=some u∧R i j d u
theorem rowG_iff {M:Mem} {w:World} {v:Value} {hc:PS→Option Value} {sz:Nat} {l:List DV}:NodeAt M w v hc (.osl sz l) ↔ RowG w v sz l fun i j d u=>CellR M (hc (.el i j)) d u:=Iff.rfl
def SrcG (w:World) (v:Value) (sz:Nat) (l:List DV) (S:Nat→Nat→DV→Value→Prop):Prop :=
 (∃c,v=.slice none 0 c∧l=[]) ∨
 ∃(A:Addr) (cap:Nat) (cell:Nat→Nat→Value),v=.slice (some A) l.length cap∧∀(i:Nat) (x:DV),l[i]?=some x→x.cells.length=sz ∧
  ∀(j:Nat) (d:DV),x.cells[j]?=some d→d.isCell=true∧w.cell? (A.add (i * sz+j))=some (cell i j)∧(cell i j).oneCell'=true∧S i j d (cell i j)
section
variable {w:World}
theorem SrcG.of_dv {M:Mem} {sz:Nat} {l:List DV} {v:Value} (hin:M.In w) (h:DRel M (.sl sz l) v):SrcG w v sz l fun _ _ d u=>DRel M d u:=by
 cases h with
 | slnil=>exact .inl ⟨0,rfl,rfl⟩
 | sl _ _ A cap cell hcap hlen hc hr =>
  refine .inr ⟨A,cap,cell,rfl,fun i x hx=>?_⟩
  have hm:=hlen x (List.mem_of_getElem? hx)
  refine ⟨hm.1,fun j d hd=>⟨hm.2 d (List.mem_of_getElem? hd),hin.cell (hc i j (List.getElem?_eq_some_iff.1 hx).1 ?_),(hr i x j d hx hd).oneCell (hm.2 d (List.mem_of_getElem? hd)),hr i x j d hx hd⟩⟩
  rw [←hm.1]; exact (List.getElem?_eq_some_iff.1 hd).1
theorem SrcG.of_row {sz:Nat} {l:List DV} {v:Value} {R:Nat→Nat→DV→Value→Prop} (h:RowG w v sz l R) (h1:∀i j d u,R i j d u→d.isCell=true→u.oneCell'=true):SrcG w v sz l R:=by
 rcases h with ⟨rfl,rfl⟩ | ⟨g,o,cap,c,t,rfl,hcap,hw,hsz,hxs⟩
 ·exact .inl ⟨0,rfl,rfl⟩
 ·refine .inr ⟨⟨g,o,none⟩,cap,fun i j=>c.getD (o+i * sz+j) undef,rfl,fun i x hx=>?_⟩
  obtain ⟨a1,a2⟩:=hxs i x hx
  refine ⟨a1,fun j d hd=>?_⟩
  obtain ⟨b1,u,hu,hr⟩:=a2 j d hd
  have e:c.getD (o+i * sz+j) undef=u:=by rw [Array.getD_eq_getD_getElem?,hu]; rfl
  refine ⟨b1,?_,?_,?_⟩
  ·rw [add_at]
   simp only [World.cell?,hw]
   rw [show o+(i * sz+j)=o+i * sz+j by omega,e]
   simpa using hu
  ·show (c.getD (o+i * sz+j) undef).oneCell'=true
   rw [e]; exact h1 i j d u hr b1
  ·show R i j d (c.getD (o+i * sz+j) undef)
   rw [e]; exact hr
theorem SrcG.mono {sz:Nat} {l l':List DV} {v:Value} {S S':Nat→Nat→DV→Value→Prop} (h:SrcG w v sz l S) (hl:l.length=l'.length)
  (hx:∀(i:Nat) (x y:DV),l[i]?=some x→l'[i]?=some y→x.cells.length=y.cells.length∧∀(j:Nat) (d e:DV) (u:Value),x.cells[j]?=some d→y.cells[j]?=some e→d.isCell=true→S i j d u→e.isCell=true∧S' i j e u):SrcG w v sz l' S':=by
 rcases h with ⟨c,rfl,rfl⟩ | ⟨A,cap,cell,rfl,hh⟩
 ·exact .inl ⟨c,rfl,by simpa using hl.symm⟩
 ·refine .inr ⟨A,cap,cell,by rw [hl],fun i y hy=>?_⟩
  have hi:i<l.length:=by rw [hl]; exact (List.getElem?_eq_some_iff.1 hy).1
  obtain ⟨a1,a2⟩:=hh i _ (List.getElem?_eq_getElem hi)
  obtain ⟨b1,b2⟩:=hx i _ y (List.getElem?_eq_getElem hi) hy
  refine ⟨by omega,fun j e he=>?_⟩
  have hj:j<l[i].cells.length:=by have:=(List.getElem?_eq_some_iff.1 he).1; omega
  obtain ⟨c1,c2,c3,c4⟩:=a2 j _ (List.getElem?_eq_getElem hj)
  obtain ⟨d1,d2⟩:=b2 j _ e _ (List.getElem?_eq_getElem hj) he c1 c4
  exact ⟨d1,c2,c3,d2⟩
def newsOf (sz n:Nat) (cell:Nat→Nat→Value):List Value:=(List.range (n * sz)).map fun q=>cell (q / sz) (q % sz)
theorem newsOf_length (sz n:Nat) (cell:Nat→Nat→Value):(newsOf sz n cell).length=n * sz:=by simp [newsOf]
theorem newsOf_at {sz n i j:Nat} (cell:Nat→Nat→Value) (hi:i<n) (hj:j<sz):(newsOf sz n cell)[i * sz+j]?=some (cell i j):=by
 have h:=lt_idx hi hj
 obtain ⟨h1,h2⟩:=div_idx (i:=i) hj
 simp [newsOf,h,h1,h2]
theorem run_append_room' {P:Program} (t ty e:TypeId) (i:TypeInfo) (ht:P.underlying t=some (.slice e)) (hi:P.info? e=some i)
  (g o sLen sCap:Nat) (cur:Array Value) (tt:TypeId) (hg:w.heap[g]?=some (.cells cur tt (0,0)))
  (a:Addr) (m c:Nat) (news:List Value) (hl:news.length=m * i.size) (hnews:∀j u,news[j]?=some u→w.cell? (a.add j)=some u) (h1:∀u∈news,u.oneCell'=true)
  (hroom:sLen+m≤sCap) (hfit:o+sLen * i.size+news.length≤cur.size) :
  (Builtin.append_ #[t,t] ty #[.slice (some ⟨g,o,none⟩) sLen sCap,.slice (some a) m c]).run P w =
   .ok (.slice (some ⟨g,o,none⟩) (sLen+m) sCap) (w.setRow g (cur.toList.take (o+sLen * i.size)++news++cur.toList.drop (o+sLen * i.size+news.length)).toArray):=by
 have hf:=run_firstCells_some (P:=P) w i.size m a m c news hl hnews
 have hst:=run_storeCells_at P g (o+sLen * i.size) tt news 0 cur w hg (by simpa using hfit) h1
 simp only [Nat.add_zero] at hst
 simp [Builtin.append_,run_underlying ht,sizeOf,typeInfo,hi,Builtin.lenOf,hroom,hf,add_at,hst]
def joinR (n:Nat) (R S:Nat→Nat→DV→Value→Prop):Nat→Nat→DV→Value→Prop:=fun i j d u=>if i<n then R i j d u else S (i - n) j d u
def FullNew (w:World) (v v':Value) (w':World) (zs:List DV):Prop:=∀a n,v=.slice (some a) n n→zs ≠ []→(∀b,b<w.heap.size→w'.heap[b]?=w.heap[b]?)∧∀b,blk v'=some b→w.heap.size≤b
set_option maxHeartbeats 1000000 in
theorem append_row {P:Program} {t ty e:TypeId} {ti:TypeInfo} {z:Value} (ht:P.underlying t=some (.slice e)) (hi:P.info? e=some ti) (hz:ti.zero=some z) (hzs:z.cells.size=ti.size) (hpos:0<ti.size)
  {v sv:Value} {xs zs:List DV} {R S:Nat→Nat→DV→Value→Prop} (hrow:RowG w v ti.size xs R) (hsrc:SrcG w sv ti.size zs S)
  (h63:xs.length+zs.length≤9223372036854775807) (hby:(xs.length+zs.length) * ti.bytes≤140737488355328) :
  ∃v' w',(Builtin.append_ #[t,t] ty #[v,sv]).run P w=.ok v' w'∧RowG w' v' ti.size (xs++zs) (joinR xs.length R S)∧w.grownBy w' (blk v)∧(∀b,blk v'=some b→w.heap.size≤b ∨ blk v=some b)∧v'.oneCell'=true∧FullNew w v v' w' zs:=by
 have hvc:v.oneCell'=true:=by rcases hrow with ⟨_,rfl⟩ | ⟨_,_,_,_,_,rfl,_⟩ <;> rfl
 have hleft:∀{c:Array Value} {o:Nat},(∀(i:Nat) (x:DV),xs[i]?=some x→x.cells.length=ti.size∧∀(j:Nat) (d:DV),x.cells[j]?=some d→d.isCell=true∧∃u,c[o+i * ti.size+j]?=some u∧R i j d u) →
   ∀(i:Nat) (x:DV),xs[i]?=some x→x.cells.length=ti.size∧∀(j:Nat) (d:DV),x.cells[j]?=some d→d.isCell=true∧∃u,c[o+i * ti.size+j]?=some u∧joinR xs.length R S i j d u:=by
  intro c o hh i x hx
  obtain ⟨a1,a2⟩:=hh i x hx
  refine ⟨a1,fun j d hd=>?_⟩
  obtain ⟨b1,u,b2,b3⟩:=a2 j d hd
  refine ⟨b1,u,b2,?_⟩
  unfold joinR
  rw [if_pos (List.getElem?_eq_some_iff.1 hx).1]; exact b3
 have hsame:zs=[]→(Builtin.append_ #[t,t] ty #[v,sv]).run P w=.ok v w→∃v' w',(Builtin.append_ #[t,t] ty #[v,sv]).run P w=.ok v' w'∧RowG w' v' ti.size (xs++zs) (joinR xs.length R S)∧w.grownBy w' (blk v)∧(∀b,blk v'=some b→w.heap.size≤b ∨ blk v=some b)∧v'.oneCell'=true∧FullNew w v v' w' zs:=by
  rintro rfl hr
  refine ⟨v,w,hr,?_,World.grownBy.refl w _,fun b hb=>.inr hb,hvc,fun _ _ _ h=>absurd rfl h⟩
  rw [List.append_nil]
  rcases hrow with h | ⟨g,o,cap,cc,tt,hv,hcap,hw,hsz,hxs⟩
  ·exact .inl h
  ·exact .inr ⟨g,o,cap,cc,tt,hv,hcap,hw,hsz,hleft hxs⟩
 rcases hsrc with ⟨c,rfl,hnil⟩ | ⟨A,cap2,cell,rfl,hcell⟩
 ·refine hsame hnil ?_
  rcases hrow with ⟨_,rfl⟩ | ⟨g,o,cap,cc,tt,rfl,hcap,hw,hsz,hxs⟩
  ·simp [Builtin.append_,run_underlying ht,sizeOf,typeInfo,hi,Builtin.lenOf,Builtin.firstCells]
  ·simp [Builtin.append_,run_underlying ht,sizeOf,typeInfo,hi,Builtin.lenOf,Builtin.firstCells,hcap,storeCells]
 ·obtain ⟨m,hmm⟩:∃m,m=zs.length:=⟨_,rfl⟩
  rw [←hmm] at h63 hby hsame ⊢
  have hlen:(newsOf ti.size m cell).length=m * ti.size:=newsOf_length _ _ _
  have hq:∀q,q<m * ti.size→q / ti.size<m∧q % ti.size<ti.size∧q=q / ti.size * ti.size+q % ti.size:=fun q hq =>
   ⟨(Nat.div_lt_iff_lt_mul hpos).2 hq,Nat.mod_lt _ hpos,by have:=Nat.div_add_mod q ti.size; rw [Nat.mul_comm] at this; exact this.symm⟩
  have hnews:∀j u,(newsOf ti.size m cell)[j]?=some u→w.cell? (A.add j)=some u:=by
   intro q u hu
   have hlt:q<m * ti.size:=by rw [←hlen]; exact (List.getElem?_eq_some_iff.1 hu).1
   obtain ⟨h1,h2,h3⟩:=hq q hlt
   obtain ⟨hl1,hl3⟩:=hcell (q / ti.size) (zs[q / ti.size]'(by omega)) (List.getElem?_eq_getElem (by omega))
   have:=(hl3 (q % ti.size) _ (List.getElem?_eq_getElem (by rw [hl1]; exact h2))).2.1
   rw [h3] at hu ⊢
   rw [newsOf_at cell h1 h2] at hu
   rw [this]; exact hu
  have hone:∀u,u∈newsOf ti.size m cell→u.oneCell'=true:=by
   intro u hu
   obtain ⟨q,hq',rfl⟩:=List.getElem_of_mem hu
   have hlt:q<m * ti.size:=by rw [←hlen]; exact hq'
   obtain ⟨h1,h2,h3⟩:=hq q hlt
   obtain ⟨hl1,hl3⟩:=hcell (q / ti.size) (zs[q / ti.size]'(by omega)) (List.getElem?_eq_getElem (by omega))
   have hj:q % ti.size<(zs[q / ti.size]'(by omega)).cells.length:=by rw [hl1]; exact h2
   have:=(hl3 (q % ti.size) _ (List.getElem?_eq_getElem hj)).2.2.1
   have he:(newsOf ti.size m cell)[q]=cell (q / ti.size) (q % ti.size):=by simp [newsOf]
   rw [he]; exact this
  have reads:∀(c':Array Value) (o':Nat),
    (∀(i:Nat) (x:DV),xs[i]?=some x→x.cells.length=ti.size∧∀(j:Nat) (d:DV),x.cells[j]?=some d→d.isCell=true∧∃u,c'[o'+i * ti.size+j]?=some u∧R i j d u) →
    (∀q,q<m * ti.size→c'[o'+xs.length * ti.size+q]?=(newsOf ti.size m cell)[q]?) →
    ∀(i:Nat) (x:DV),(xs++zs)[i]?=some x→x.cells.length=ti.size∧∀(j:Nat) (d:DV),x.cells[j]?=some d→d.isCell=true∧∃u,c'[o'+i * ti.size+j]?=some u∧joinR xs.length R S i j d u:=by
   intro c' o' hold hnew i x hx
   rw [List.getElem?_append] at hx
   split at hx
   ·exact hleft hold i x hx
   ·rename_i hge
    obtain ⟨h1,h3⟩:=hcell _ x hx
    have hlt:i - xs.length<m:=by rw [hmm]; exact (List.getElem?_eq_some_iff.1 hx).1
    refine ⟨h1,fun j d hd=>?_⟩
    have hj:j<ti.size:=by rw [←h1]; exact (List.getElem?_eq_some_iff.1 hd).1
    obtain ⟨k1,k2,k3,k4⟩:=h3 j d hd
    refine ⟨k1,cell (i - xs.length) j,?_,by unfold joinR; rw [if_neg hge]; exact k4⟩
    have:=hnew ((i - xs.length) * ti.size+j) (lt_idx hlt hj)
    rw [newsOf_at cell hlt hj] at this
    rw [←this]
    congr 1
    have:i * ti.size=xs.length * ti.size+(i - xs.length) * ti.size:=by rw [←Nat.add_mul]; congr 1; omega
    omega
  by_cases hm0:m=0
  ·have hzs0:zs=[]:=List.eq_nil_of_length_eq_zero (by omega)
   subst hm0
   clear reads hone hnews hq hlen hcell
   refine hsame hzs0 ?_
   clear hsame hleft
   rcases hrow with ⟨_,rfl⟩ | ⟨g,o,cap,cc,tt,rfl,hcap,hw,hsz,hxs⟩
   ·simp [Builtin.append_,run_underlying ht,sizeOf,typeInfo,hi,Builtin.lenOf,Builtin.firstCells,loadCells,loadCellsFrom]
   ·simp [Builtin.append_,run_underlying ht,sizeOf,typeInfo,hi,Builtin.lenOf,Builtin.firstCells,hcap,storeCells,loadCells,loadCellsFrom]
  ·have hgrown:∀(olds:List Value) (cp:Nat),olds.length=xs.length * ti.size→xs.length+m≤cp→(∀(i:Nat) (x:DV),xs[i]?=some x→x.cells.length=ti.size∧∀(j:Nat) (d:DV),x.cells[j]?=some d→d.isCell=true∧∃u,olds[i * ti.size+j]?=some u∧R i j d u) →
       RowG (w.drew.alloc (.cells (olds.toArray++(newsOf ti.size m cell).toArray++Builtin.zeroCells z.cells (cp - (xs.length+m))) e)) (.slice (some ⟨w.heap.size,0,none⟩) (xs.length+m) cp) ti.size (xs++zs) (joinR xs.length R S):=by
    intro olds cp hol hcp hold
    refine .inr ⟨w.heap.size,0,cp,_,e,by simp [hmm],by simpa [hmm] using hcp,heap_alloc_at w.drew _,?_,reads _ 0 ?_ ?_⟩
    ·simp only [Array.size_append,List.size_toArray,size_zeroCells,hzs,hol,hlen,←Nat.add_mul,Nat.zero_add]
     refine Nat.mul_le_mul_right _ ?_
     omega
    ·intro i x hx
     obtain ⟨h1,h3⟩:=hold i x hx
     refine ⟨h1,fun j d hd=>?_⟩
     obtain ⟨k1,u,hu,hr⟩:=h3 j d hd
     refine ⟨k1,u,?_,hr⟩
     have hlt:=(List.getElem?_eq_some_iff.1 hu).1
     rw [Nat.zero_add,Array.getElem?_append,if_pos (by simp; omega),Array.getElem?_append,if_pos (by simpa using hlt)]
     simpa using hu
    ·intro q hq'
     rw [Nat.zero_add,Array.getElem?_append,if_pos (by simp [hlen,hol]; omega),Array.getElem?_append,if_neg (by simp [hol])]
     simp [hol]
   rcases hrow with ⟨rfl,rfl⟩ | ⟨g,o,cap,cc,tt,rfl,hcap,hw,hsz,hxs⟩
   ·have hr:=run_append_nil (P:=P) w t ty e ti z ht hi hz A m cap2 (newsOf ti.size m cell) hlen hnews (by omega) (by simp at h63; omega) (by simp at hby; omega)
    have hg:=hgrown [] (grownCap w m 0 e) (by simp) (by simpa using grownCap_ge w m 0 e) (by simp)
    simp only [List.length_nil,Nat.zero_add,Array.empty_append] at hg
    refine ⟨_,_,hr,by simpa using hg,⟨rfl,rfl,rfl,by simp,fun q hq _=>heap_alloc_lt w.drew _ hq⟩,fun b hb=>?_,rfl,fun _ _ e=>by cases e⟩
    simp [blk] at hb; exact .inl (by omega)
   ·by_cases hroom:xs.length+m≤cap
    ·have hfit:o+xs.length * ti.size+(newsOf ti.size m cell).length≤cc.size:=by
      rw [hlen]
      have:(xs.length+m) * ti.size≤cap * ti.size:=Nat.mul_le_mul_right _ hroom
      rw [Nat.add_mul] at this
      omega
     have hr:=run_append_room' (P:=P) t ty e ti ht hi g o xs.length cap cc tt hw A m cap2 (newsOf ti.size m cell) hlen hnews hone hroom hfit
     refine ⟨_,_,hr,.inr ⟨g,o,cap,_,tt,by simp [hmm],by simpa [hmm] using hroom,setRow_heap w g cc _ tt _ hw,?_,reads _ o ?_ ?_⟩,⟨rfl,rfl,rfl,by simp,fun q _ hq=>setRow_other w g q _ (fun x=>hq (by simp [blk,x]))⟩,fun b hb=>.inr hb,rfl,fun a n e hz=>?_⟩
     ·simp only [List.size_toArray,List.length_append,List.length_take,List.length_drop,Array.length_toList]
      omega
     ·intro i x hx
      obtain ⟨h1,h3⟩:=hxs i x hx
      refine ⟨h1,fun j d hd=>?_⟩
      obtain ⟨k1,u,hu,hr⟩:=h3 j d hd
      refine ⟨k1,u,?_,hr⟩
      have hj:j<ti.size:=by rw [←h1]; exact (List.getElem?_eq_some_iff.1 hd).1
      have hil:=lt_idx (List.getElem?_eq_some_iff.1 hx).1 hj
      have hcs:o+i * ti.size+j<cc.size:=(Array.getElem?_eq_some_iff.1 hu).1
      simp only [List.getElem?_toArray,List.append_assoc]
      rw [List.getElem?_append_left (by simp; omega),List.getElem?_take,if_pos (by omega)]
      simpa using hu
     ·intro q hq'
      simp only [List.getElem?_toArray,List.append_assoc]
      rw [List.getElem?_append_right (by simp; omega),List.getElem?_append_left (by simp; omega)]
      congr 1
      simp; omega
     ·exfalso
      simp only [Value.slice.injEq] at e
      have:zs.length ≠ 0:=fun h=>hz (List.eq_nil_of_length_eq_zero h)
      omega
    ·have holds:∀j u,((List.range (xs.length * ti.size)).map fun q=>cc.getD (o+q) undef)[j]?=some u→w.cell? ((⟨g,o,none⟩:Addr).add j)=some u:=by
      intro j u hj
      simp only [List.getElem?_map] at hj
      by_cases hlt:j<xs.length * ti.size
      ·simp only [List.getElem?_range hlt,Option.map_some] at hj
       injection hj with hj
       have hlt':o+j<cc.size:=by
        have:xs.length * ti.size≤cap * ti.size:=Nat.mul_le_mul_right _ hcap
        omega
       rw [add_at]
       simp only [World.cell?,hw]
       rw [←hj]
       simp [hlt']
      ·simp [hlt] at hj
     have hr:=run_append_grow (P:=P) w t ty e ti z ht hi hz ⟨g,o,none⟩ xs.length cap ((List.range (xs.length * ti.size)).map fun q=>cc.getD (o+q) undef) (by simp) holds A m cap2 (newsOf ti.size m cell) hlen hnews (by omega) (by omega) (growslice_fits (by omega) hby)
     have hg:=hgrown ((List.range (xs.length * ti.size)).map fun q=>cc.getD (o+q) undef) (grownCap w (xs.length+m) cap e) (by simp) (grownCap_ge w (xs.length+m) cap e) (by
      intro i x hx
      obtain ⟨h1,h3⟩:=hxs i x hx
      refine ⟨h1,fun j d hd=>?_⟩
      obtain ⟨k1,u,hu,hr⟩:=h3 j d hd
      have hj:j<ti.size:=by rw [←h1]; exact (List.getElem?_eq_some_iff.1 hd).1
      have hil:=lt_idx (List.getElem?_eq_some_iff.1 hx).1 hj
      refine ⟨k1,u,?_,hr⟩
      simp only [List.getElem?_map,List.getElem?_range hil,Option.map_some]
      rw [show o+(i * ti.size+j)=o+i * ti.size+j by omega,Array.getD_eq_getD_getElem?,hu]
      rfl)
     refine ⟨_,_,hr,hg,⟨rfl,rfl,rfl,by simp,fun q hq _=>heap_alloc_lt w.drew _ hq⟩,fun b hb=>?_,rfl,fun _ _ _ _=>⟨fun b hb=>heap_alloc_lt w.drew _ hb,fun b hb=>?_⟩⟩
     ·simp [blk] at hb; exact .inl (by omega)
     ·simp [blk] at hb; omega
end
end Go.TM
