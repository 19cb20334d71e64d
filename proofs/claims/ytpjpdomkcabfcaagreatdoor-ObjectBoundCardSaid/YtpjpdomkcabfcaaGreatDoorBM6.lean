import Derived.Test.YtpjpdomkcabfcaaGreatDoorBM5
set_option linter.unusedVariables false
set_option linter.unusedSimpArgs false
set_option linter.unusedSectionVars false
namespace Go.TM
open Go.RowKit
variable [Glob]
section
variable {w w':World}
theorem TreeAt.sub {M:Mem} {h:List PS→Option Value} {d c:DV} {p:List PS} (ht:TreeAt M w h d) (hp:get d p=some c) (hc:c.owning=true):TreeAt M w (fun r=>h (p++r)) c:=by
 refine ⟨hc,fun q m hq hm=>?_⟩
 obtain ⟨v,h1,h2,h3⟩:=ht.2 (p++q) m (by rw [get_append,hp]; exact hq) hm
 exact ⟨v,h1,h2,by simpa only [List.append_assoc] using h3⟩
theorem TInj.sub {h:List PS→Option Value} {d c:DV} {p:List PS} (hi:TInj h d) (hp:get d p=some c):TInj (fun r=>h (p++r)) c:=by
 intro q q' n m u v b e1 e2 e3 e4 f1 f2 f3 f4
 have:=hi (p++q) (p++q') n m u v b (by rw [get_append,hp]; exact e1) e2 e3 e4 (by rw [get_append,hp]; exact f1) f2 f3 f4
 exact List.append_cancel_left this
theorem TOwn.sub {h:List PS→Option Value} {d c:DV} {p:List PS} {b:Nat} (hp:get d p=some c) (ho:TOwn (fun r=>h (p++r)) c b):TOwn h d b:=by
 obtain ⟨q,m,v,h1,h2,h3,h4⟩:=ho
 exact ⟨p++q,m,v,by rw [get_append,hp]; exact h1,h2,h3,h4⟩
theorem TInj.keep {h h':List PS→Option Value} {d:DV} (hi:TInj h d) (hh:∀p n v,get d p=some n→n.owning=true→h' p=some v→h p=some v):TInj h' d :=
 fun p q n m u v b e1 e2 e3 e4 f1 f2 f3 f4=>hi p q n m u v b e1 e2 (hh p n u e1 e2 e3) e4 f1 f2 (hh q m v f1 f2 f3) f4
def nilH:List PS→Option Value
 | []=>some (.slice none 0 0)
 | _=>none
theorem nil_get {sz:Nat} {p:List PS} {m:DV} (h:get (.osl sz []) p=some m):p=[]∧m=.osl sz []:=by
 cases p with
 | nil=>simp [get] at h; exact ⟨rfl,h.symm⟩
 | cons s p=>cases s <;> simp [get,step] at h
theorem nil_tree (M:Mem) (w:World) (sz:Nat):TreeAt M w nilH (.osl sz []):=by
 refine ⟨rfl,fun p m hp _=>?_⟩
 obtain ⟨rfl,rfl⟩:=nil_get hp
 exact ⟨_,rfl,rfl,.inl ⟨rfl,rfl⟩⟩
theorem nil_inj (sz:Nat):TInj nilH (.osl sz []):=by
 intro p q n m u v b e1 _ _ _ f1 _ _ _
 rw [(nil_get e1).1,(nil_get f1).1]
theorem nil_own {sz b:Nat} (h:TOwn nilH (.osl sz []) b):False:=by
 obtain ⟨p,m,v,h1,_,h3,h4⟩:=h
 obtain ⟨rfl,rfl⟩:=nil_get h1
 simp [nilH] at h3
 subst h3
 simp [blk] at h4
def catH (n:Nat) (v:Value) (h hs:List PS→Option Value):List PS→Option Value
 | []=>some v
 | .el i j::r=>if i<n then h (.el i j::r) else hs (.el (i - n) j::r)
 | s::r=>h (s::r)
inductive Src (M:Mem) (w:World) (x:Value) (sz:Nat) (ys:List DV) (hs:List PS→Option Value):Prop
 | closed (h:SrcG w x sz ys fun _ _ d u=>d.owning=false∧DRel M d u) (hn:hs=fun _=>none)
 | tree (ht:TreeAt M w hs (.osl sz ys)) (hi:TInj hs (.osl sz ys)) (hx:hs []=some x)
theorem CellR.oneCell {M:Mem} {h:Option Value} {d:DV} {u:Value} (r:CellR M h d u) (hc:d.isCell=true) (ho:d.owning=true→∀v,h=some v→v.oneCell'=true):u.oneCell'=true:=by
 rcases r with ⟨a,b⟩ | ⟨a,b⟩
 ·exact ho a u b
 ·exact b.oneCell hc
theorem TreeAt.kid_cell {M:Mem} {h:List PS→Option Value} {d c:DV} {s:PS} (ht:TreeAt M w h d) (hs:step d s=some c) (hc:c.owning=true) {v:Value} (hv:h [s]=some v):v.oneCell'=true:=by
 obtain ⟨u,h1,h2,_⟩:=ht.2 [s] c (by simp [get,hs]) hc
 rw [h1] at hv; injection hv with hv; subst hv; exact h2
theorem Src.srcG {M:Mem} {x:Value} {sz:Nat} {ys:List DV} {hs:List PS→Option Value} (h:Src M w x sz ys hs):SrcG w x sz ys fun i j d u=>d.isCell=true∧CellR M (hs [.el i j]) d u:=by
 cases h with
 | closed h hn =>
  refine h.mono rfl fun i x' y hx hy=>?_
  rw [hx] at hy; injection hy with hy; subst hy
  refine ⟨rfl,fun j d e u hd he hcd hS=>?_⟩
  rw [hd] at he; injection he with he; subst he
  exact ⟨hcd,hcd,.inr hS⟩
 | tree ht hi hx =>
  obtain ⟨v,h1,h2,h3⟩:=ht.2 [] _ rfl rfl
  rw [hx] at h1; injection h1 with h1; subst h1
  have h4:RowG w x sz ys fun i j d u=>d.isCell=true∧step (.osl sz ys) (.el i j)=some d∧CellR M (hs [.el i j]) d u:=by
   rcases rowG_iff.1 h3 with h3 | ⟨g,o,cap,c,t,a1,a2,a3,a4,a5⟩
   ·exact .inl h3
   ·refine .inr ⟨g,o,cap,c,t,a1,a2,a3,a4,fun i y hy=>⟨(a5 i y hy).1,fun j d hd=>?_⟩⟩
    obtain ⟨b1,u,b2,b3⟩:=(a5 i y hy).2 j d hd
    exact ⟨b1,u,b2,b1,by simp only [step,hy]; exact hd,b3⟩
  refine (SrcG.of_row h4 fun i j d u hr _=>?_).mono rfl fun i x' y hx hy=>?_
  ·exact hr.2.2.oneCell hr.1 fun ho v hv=>ht.kid_cell hr.2.1 ho hv
  ·rw [hx] at hy; injection hy with hy; subst hy
   refine ⟨rfl,fun j d e u hd he hcd hS=>?_⟩
   rw [hd] at he; injection he with he; subst he
   exact ⟨hcd,hS.1,hS.2.2⟩
theorem TLes.length:∀{l r:List DV},TLes l r→l.length=r.length
 | [],[],_=>rfl
 | _::_,_::_,h=>by simp [TLes.length h.2]
 | [],_::_,h=>h.elim
 | _::_,[],h=>h.elim
theorem TLes.at:∀{l r:List DV},TLes l r→∀(j:Nat) (d e:DV),l[j]?=some d→r[j]?=some e→(d.owning=true∧d=e) ∨ (d.owning=false∧d.Le e)
 | [],[],_,j,d,e,h,_=>by simp at h
 | a::l,b::r,h,0,d,e,e1,e2=>by
  simp at e1 e2; subst e1; subst e2
  have:=h.1
  cases ho:a.owning with
  | true=>rw [ho] at this; exact .inl ⟨rfl,this⟩
  | false=>rw [ho] at this; exact .inr ⟨rfl,this⟩
 | a::l,b::r,h,j+1,d,e,e1,e2=>by simp at e1 e2; exact TLes.at h.2 j d e e1 e2
 | [],_::_,h,_,_,_,_,_=>h.elim
 | _::_,[],h,_,_,_,_,_=>h.elim
theorem ELes.length:∀{l r:List DV},ELes l r→l.length=r.length
 | [],[],_=>rfl
 | _::_,_::_,h=>by simp [ELes.length h.2]
 | [],_::_,h=>h.elim
 | _::_,[],h=>h.elim
theorem ELes.at:∀{l r:List DV},ELes l r→∀(i:Nat) (x y:DV),l[i]?=some x→r[i]?=some y→TLes x.cells y.cells
 | [],[],_,j,d,e,h,_=>by simp at h
 | a::l,b::r,h,0,d,e,e1,e2=>by simp at e1 e2; subst e1; subst e2; exact h.1
 | a::l,b::r,h,j+1,d,e,e1,e2=>by simp at e1 e2; exact ELes.at h.2 j d e e1 e2
 | [],_::_,h,_,_,_,_,_=>h.elim
 | _::_,[],h,_,_,_,_,_=>h.elim
theorem DRel.isCell {M:Mem} {d:DV} {v:Value} (h:DRel M d v) (hv:v.oneCell'=true):d.isCell=true:=by
 cases h with
 | agg=>simp [Value.oneCell'] at hv
 | _=>rfl
theorem CellR.le {M:Mem} {h:Option Value} {d e:DV} {u:Value} (r:CellR M h d u) (hle:(d.owning=true∧d=e) ∨ (d.owning=false∧d.Le e)) (hc:d.isCell=true):e.isCell=true∧CellR M h e u∧(e.owning=true→d=e):=by
 rcases hle with ⟨h1,rfl⟩ | ⟨h1,h2⟩
 ·exact ⟨hc,r,fun _=>rfl⟩
 ·rcases r with ⟨a,b⟩ | ⟨a,b⟩
  ·rw [h1] at a; cases a
  ·have h3:=h2 M u b
   exact ⟨h3.isCell (b.oneCell hc),.inr ⟨h3.not_owning,h3⟩,fun ho=>by rw [h3.not_owning] at ho; cases ho⟩
theorem append_tree {P:Program} {T:List TI} (hT:TOk P T) {t ty:TypeId} (hok:(nth T t).ok=true) (hsl:(nth T t).isSl=true) (hel:(nth T (nth T t).elem).ok=true) (hpos:0<(nth T (nth T t).elem).size)
  {M:Mem} {h hs:List PS→Option Value} {l ys zs:List DV} {v x:Value} (ht:TreeAt M w h (.osl (nth T (nth T t).elem).size l)) (hi:TInj h (.osl (nth T (nth T t).elem).size l)) (hv:h []=some v)
  (hsrc:Src M w x (nth T (nth T t).elem).size ys hs) (hdis:∀b,TOwn h (.osl (nth T (nth T t).elem).size l) b→¬ TOwn hs (.osl (nth T (nth T t).elem).size ys) b) (hlt:∀b,TOwn hs (.osl (nth T (nth T t).elem).size ys) b→b<w.heap.size) (hle:ELes ys zs)
  (h63:l.length+zs.length≤9223372036854775807) (hby:(l.length+zs.length) * (nth T (nth T t).elem).bytes≤140737488355328) :
  ∃v' w',(Builtin.append_ #[t,t] ty #[v,x]).run P w=.ok v' w'∧w.grownBy w' (blk v)∧v'.oneCell'=true∧TreeAt M w' (catH l.length v' h hs) (.osl (nth T (nth T t).elem).size (l++zs))∧TInj (catH l.length v' h hs) (.osl (nth T (nth T t).elem).size (l++zs)) ∧
   ∀b,TOwn (catH l.length v' h hs) (.osl (nth T (nth T t).elem).size (l++zs)) b→TOwn h (.osl (nth T (nth T t).elem).size l) b ∨ TOwn hs (.osl (nth T (nth T t).elem).size ys) b ∨ w.heap.size≤b:=by
 obtain ⟨i,u,z,tf⟩:=hT.facts hok
 obtain ⟨te,ue,ze,tfe⟩:=hT.facts hel
 generalize hsz:(nth T (nth T t).elem).size=sz at *
 have hsize:te.size=sz:=by rw [←hsz,tfe.size]
 obtain ⟨v0,hv0,hvc,hnode⟩:=ht.2 [] _ rfl rfl
 rw [hv] at hv0; injection hv0 with hv0; subst hv0
 have hrow:=rowG_iff.1 hnode
 have hsg:=hsrc.srcG
 have hzsrc:SrcG w x sz zs fun i j d u=>d.isCell=true∧CellR M (hs [.el i j]) d u:=by
  refine hsg.mono hle.length fun i x y hx hy=>?_
  have h1:=hle.at i x y hx hy
  refine ⟨h1.length,fun j d e u hd he hcd hS=>?_⟩
  obtain ⟨k1,k2,_⟩:=hS.2.le (h1.at j d e hd he) hcd
  exact ⟨k1,k1,k2⟩
 have hown_src:∀i j e,step (.osl sz zs) (.el i j)=some e→e.owning=true→step (.osl sz ys) (.el i j)=some e:=by
  intro i j e he ho
  simp only [step] at he ⊢
  split at he
  ·rename_i y hy
   have hi':i<ys.length:=by rw [hle.length]; exact (List.getElem?_eq_some_iff.1 hy).1
   have hx:ys[i]?=some ys[i]:=List.getElem?_eq_getElem hi'
   rw [hx]
   have h1:=hle.at i _ y hx hy
   have hj:j<ys[i].cells.length:=by rw [h1.length]; exact (List.getElem?_eq_some_iff.1 he).1
   have hd:ys[i].cells[j]?=some ys[i].cells[j]:=List.getElem?_eq_getElem hj
   simp only
   rcases h1.at j _ e hd he with ⟨a,b⟩ | ⟨a,b⟩
   ·rw [hd,b]
   ·-- a closed cell cannot become an owning one: there is a value of it
    rcases hsg with ⟨c,_,hnil⟩ | ⟨A,cap,cell,_,hcell⟩
    ·rw [hnil] at hi'; simp at hi'
    ·obtain ⟨_,h3⟩:=hcell i _ hx
     obtain ⟨_,_,_,h4⟩:=h3 j _ hd
     rcases h4.2 with ⟨c1,_⟩ | ⟨_,c2⟩
     ·rw [a] at c1; cases c1
     ·rw [(b M _ c2).not_owning] at ho; cases ho
  ·cases he
 have hzc:ze.cells.size=te.size:=by
  have:=(zcells_ok (M:=M) tfe.zc).1.1
  simp at this
  rw [←this,tfe.zl]
 obtain ⟨v',w',hrun,hrow',hgrow,hblk,hvc',_⟩:=append_row (P:=P) (t:=t) (ty:=ty) (tf.slice hsl) tfe.info tfe.zero hzc (by rw [hsize]; exact hpos) (by rw [hsize]; exact hrow) (by rw [hsize]; exact hzsrc) h63 (by rw [←tfe.bytes]; exact hby)
 rw [hsize] at hrow'
 refine ⟨v',w',hrun,hgrow,hvc',?_⟩
 have hkeepw:∀b,b<w.heap.size→blk v ≠ some b→w'.heap[b]?=w.heap[b]?:=fun b hb hne=>hgrow.block b hb (fun e=>hne e.symm)
 have hnode':NodeAt M w' v' (fun s=>catH l.length v' h hs ([]++[s])) (.osl sz (l++zs)):=by
  refine rowG_iff.2 ?_
  rcases hrow' with h1 | ⟨g,o,cap,c,tt,a1,a2,a3,a4,a5⟩
  ·exact .inl h1
  ·refine .inr ⟨g,o,cap,c,tt,a1,a2,a3,a4,fun i x hx=>⟨(a5 i x hx).1,fun j d hd=>?_⟩⟩
   obtain ⟨b1,u,b2,b3⟩:=(a5 i x hx).2 j d hd
   refine ⟨b1,u,b2,?_⟩
   unfold joinR at b3
   simp only [List.nil_append,catH]
   split at b3
   ·rename_i hlt'; rw [if_pos hlt']; exact b3
   ·rename_i hlt'; rw [if_neg hlt']; exact b3.2
 have kidold:∀i j c,i<l.length→(step (.osl sz (l++zs)) (.el i j)=some c ↔ step (.osl sz l) (.el i j)=some c):=by
  intro i j c hlt'
  simp only [step]
  rw [List.getElem?_append_left hlt']
 have kidnew:∀i j c,¬ i<l.length→step (.osl sz (l++zs)) (.el i j)=some c→step (.osl sz zs) (.el (i - l.length) j)=some c:=by
  intro i j c hge hc
  simp only [step] at hc ⊢
  rw [List.getElem?_append_right (by omega)] at hc
  exact hc
 have el:∀s c,step (.osl sz (l++zs)) s=some c→∃i j,s=.el i j:=by
  intro s c hs'
  cases s with
  | el i j=>exact ⟨i,j,rfl⟩
  | key=>simp [step] at hs'
 have sub:∀i j c,¬ i<l.length→step (.osl sz (l++zs)) (.el i j)=some c→c.owning=true→TreeAt M w' (fun r=>hs (.el (i - l.length) j::r)) c∧TInj (fun r=>hs (.el (i - l.length) j::r)) c∧∀b,TOwn (fun r=>hs (.el (i - l.length) j::r)) c b→TOwn hs (.osl sz ys) b:=by
  intro i j c hge hc ho
  have h1:=hown_src _ _ _ (kidnew i j c hge hc) ho
  have hg:get (.osl sz ys) [.el (i - l.length) j]=some c:=by simp [get,h1]
  cases hsrc with
  | closed hcl hn =>
   exfalso
   rcases hcl with ⟨_,_,hnil⟩ | ⟨A,cap,cell,_,hcell⟩
   ·subst hnil; simp [step] at h1
   ·simp only [step] at h1
    split at h1
    ·rename_i x hx
     obtain ⟨_,h3⟩:=hcell _ x hx
     have:=(h3 j c h1).2.2.2.1
     rw [ho] at this; cases this
    ·cases h1
  | tree hst hsi hsx =>
   have t1:=hst.sub hg ho
   have t2:∀b,TOwn (fun r=>hs ([.el (i - l.length) j]++r)) c b→TOwn hs (.osl sz ys) b:=fun b hb=>hb.sub hg
   refine ⟨t1.keep (Mem.Le.refl _) (fun b hb=>hkeepw b (hlt b (t2 b hb)) fun e=>?_) (fun _ _ _ _ _ q=>q),hsi.sub hg,t2⟩
   exact hdis b ⟨[],_,v,rfl,rfl,hv,e⟩ (t2 b hb)
 have main:=TreeAt.reNode (w:=w) (w':=w') (h':=catH l.length v' h hs) (p:=[]) (n:=.osl sz l) (n':=.osl sz (l++zs)) (v:=v) (v':=v') (fun s=>∃i j,s=.el i j∧¬ i<l.length) ht hi rfl rfl hv rfl rfl hvc' (.inl rfl) hnode'
  (fun q hq=>absurd (List.nil_prefix) hq)
  (fun s c hs' ho hN=>by
   obtain ⟨i,j,rfl⟩:=el s c hs'
   by_cases hlt':i<l.length
   ·exact ⟨(kidold i j c hlt').1 hs',fun r=>by simp only [List.nil_append,catH,if_pos hlt']⟩
   ·exact absurd ⟨i,j,rfl,hlt'⟩ hN)
  (fun s c hs' ho hN=>by
   obtain ⟨i,j,rfl,hge⟩:=hN
   obtain ⟨t1,t2,t3⟩:=sub i j c hge hs' ho
   have e:(fun r=>catH l.length v' h hs ([]++.el i j::r))=fun r=>hs (.el (i - l.length) j::r):=by funext r; simp only [List.nil_append,catH,if_neg hge]
   rw [e]
   refine ⟨t1,t2,fun b hb=>⟨fun ho'=>hdis b ho' (t3 b hb),fun hb'=>?_⟩⟩
   rcases hblk b hb' with h5 | h5
   ·have:=hlt b (t3 b hb); omega
   ·exact hdis b ⟨[],_,v,rfl,rfl,hv,h5⟩ (t3 b hb))
  (fun s s' c c' b hs1 ho1 hN1 hs2 ho2 hN2 hb1 hb2=>by
   obtain ⟨i,j,rfl,hge⟩:=hN1
   obtain ⟨i',j',rfl,hge'⟩:=hN2
   have e:∀i j,¬ i<l.length→(fun r=>catH l.length v' h hs ([]++.el i j::r))=fun r=>hs (.el (i - l.length) j::r):=fun i j hge=>by funext r; simp only [List.nil_append,catH,if_neg hge]
   rw [e i j hge] at hb1
   rw [e i' j' hge'] at hb2
   have g1:=hown_src _ _ _ (kidnew i j c hge hs1) ho1
   have g2:=hown_src _ _ _ (kidnew i' j' c' hge' hs2) ho2
   cases hsrc with
   | closed hcl hn=>rw [hn] at hb1; obtain ⟨_,_,_,_,_,q,_⟩:=hb1; cases q
   | tree hst hsi hsx =>
    obtain ⟨q,m,u,a1,a2,a3,a4⟩:=hb1
    obtain ⟨q',m',u',b1,b2,b3,b4⟩:=hb2
    have:=hsi (.el (i - l.length) j::q) (.el (i' - l.length) j'::q') m m' u u' b (by simp only [get,g1]; exact a1) a2 a3 a4 (by simp only [get,g2]; exact b1) b2 b3 b4
    injection this with e1 e2
    injection e1 with e1 e3
    have:i=i':=by omega
    rw [this,e3])
  (fun b hb=>by
   rcases hblk b hb with h5 | h5
   ·right; intro ho
    obtain ⟨p,m,u,a1,a2,a3,a4⟩:=ho
    obtain ⟨u',c1,_,c3⟩:=ht.2 p m a1 a2
    rw [a3] at c1; injection c1 with c1; subst c1
    have:=blk_lt c3 a4; omega
   ·exact .inl h5)
  (fun b ho hne=>by
   obtain ⟨p,m,u,a1,a2,a3,a4⟩:=ho
   obtain ⟨u',c1,_,c3⟩:=ht.2 p m a1 a2
   rw [a3] at c1; injection c1 with c1; subst c1
   exact hkeepw b (blk_lt c3 a4) hne)
 obtain ⟨m1,m2,m3⟩:=main
 refine ⟨m1,m2,fun b hb=>?_⟩
 rcases m3 b hb with h1 | h1 | ⟨s,c,s1,s2,⟨i,j,rfl,hge⟩,s4⟩
 ·exact .inl h1
 ·rcases hblk b h1 with h5 | h5
  ·exact .inr (.inr h5)
  ·exact .inl ⟨[],_,v,rfl,rfl,hv,h5⟩
 ·have e:(fun r=>catH l.length v' h hs ([]++.el i j::r))=fun r=>hs (.el (i - l.length) j::r):=by funext r; simp only [List.nil_append,catH,if_neg hge]
  rw [e] at s4
  exact .inr (.inl ((sub i j c hge s1 s2).2.2 b s4))
end
end Go.TM
namespace Go.TM
open Go.RowKit
variable [Glob]
theorem setP_snoc {d nq n:DV} {q:List PS} {s:PS} {c:DV} (hq:get d q=some nq) (hs:step nq s=some c):setP d (q++[s]) n=setP d q (put nq s n):=by
 induction q generalizing d with
 | nil=>simp [get] at hq; subst hq; simp [setP,hs]
 | cons s' q ih =>
  simp only [get] at hq
  simp only [List.cons_append,setP]
  cases h1:step d s' with
  | none=>simp [h1] at hq
  | some c1=>rw [h1] at hq; simp only [ih hq]
theorem TreeAt.lt {M:Mem} {w:World} {h:List PS→Option Value} {d:DV} (ht:TreeAt M w h d) {b:Nat} (ho:TOwn h d b):b<w.heap.size:=by
 obtain ⟨p,m,u,a1,a2,a3,a4⟩:=ho
 obtain ⟨u',c1,_,c3⟩:=ht.2 p m a1 a2
 rw [a3] at c1; injection c1 with c1; subst c1
 exact blk_lt c3 a4
theorem TreeAt.forget {M:Mem} {w:World} {h:List PS→Option Value} {d c:DV} {p:List PS} (ht:TreeAt M w h d) (hi:TInj h d) (hp:get d p=some c) (hc:c.owning=true) (hne:p ≠ []) :
  TreeAt M w h (setP d p .any)∧TInj h (setP d p .any)∧∀b,TOwn h (setP d p .any) b→TOwn h d b∧¬ TOwn (fun r=>h (p++r)) c b:=by
 have hcells:∀(q:List PS) (x:DV),get d q=some x→q ≠ []→x.isCell=true:=fun q x hx _=>ht.cells q x hx
 have hfin:∀b,TOwn h (setP d p .any) b→TOwn h d b→¬ TOwn (fun r=>h (p++r)) c b:=by
  rintro b ⟨q,m,u,a1,a2,a3,a4⟩ _ ⟨r,m',u',b1,b2,b3,b4⟩
  by_cases hpq:p <+: q
  ·obtain ⟨r',rfl⟩:=prefix_split hpq
   rw [get_setP_ext hp rfl hcells] at a1
   cases r' with
   | nil=>simp [get] at a1; subst a1; cases a2
   | cons s r'=>simp [get,step] at a1
  ·rw [get_setP_off rfl hcells hpq] at a1
   cases hx:get d q with
   | none=>rw [hx] at a1; cases a1
   | some x =>
    rw [hx] at a1
    simp only [Option.some.injEq] at a1
    have hxo:x.owning=true:=by
     by_cases hq:q <+: p
     ·rw [if_pos hq] at a1
      obtain ⟨r',rfl⟩:=prefix_split hq
      cases r' with
      | nil=>exact absurd (by simp) hpq
      | cons s r'=>simp only [List.drop_left] at a1; rw [←a1,setP_owning] at a2; exact a2
     ·rw [if_neg hq] at a1; rw [a1]; exact a2
    have:=hi q (p++r) x m' u u' b hx hxo a3 a4 (by rw [get_append,hp]; exact b1) b2 b3 b4
    exact hpq ⟨r,this.symm⟩
 rcases List.eq_nil_or_concat p with rfl | ⟨q,s,rfl⟩
 ·exact absurd rfl hne
 ·rw [List.concat_eq_append] at hp hfin ⊢
  rw [get_append] at hp
  cases hq:get d q with
  | none=>rw [hq] at hp; cases hp
  | some nq =>
   rw [hq] at hp
   simp only [get] at hp
   cases hs:step nq s with
   | none=>rw [hs] at hp; cases hp
   | some c0 =>
    rw [hs] at hp
    simp at hp
    subst hp
    have hnq:=step_owning hs
    obtain ⟨v,hv,hvc,hnode⟩:=ht.2 q nq hq hnq
    rw [setP_snoc hq hs] at hfin ⊢
    have hput:NodeAt M w v (fun s=>h (q++[s])) (put nq s .any):=by
     refine hnode.put_rel hs rfl fun u hr=>.inr ⟨rfl,.any u ?_⟩
     rcases hr with ⟨_,b⟩ | ⟨a,_⟩
     ·obtain ⟨u',c1,c2,_⟩:=ht.2 (q++[s]) c0 (by rw [get_append,hq]; simp [get,hs]) hc
      have b':h (q++[s])=some u:=b
      rw [c1] at b'; injection b' with b'; subst b'; exact c2
     ·rw [hc] at a; cases a
    obtain ⟨m1,m2,m3⟩:=TreeAt.reNode (w:=w) (w':=w) (h':=h) (n':=put nq s .any) (fun _=>False) ht hi hq hnq hv (by rw [put_owning]; exact hnq) hv hvc (.inr rfl) hput (fun _ _=>rfl)
     (fun s' c' hs' ho _=>by
      by_cases e:s=s'
      ·subst e; rw [step_put_same hs rfl] at hs'; injection hs' with hs'; subst hs'; cases ho
      ·rw [step_put_other rfl e] at hs'; exact ⟨hs',fun _=>rfl⟩)
     (fun _ _ _ _ hN=>hN.elim) (fun _ _ _ _ _ _ _ hN=>hN.elim) (fun b hb=>.inl hb) (fun _ _ _=>rfl)
    refine ⟨m1,m2,fun b hb=>?_⟩
    have h1:TOwn h d b:=by
     rcases m3 b hb with h1 | h1 | ⟨_,_,_,_,hN,_⟩
     ·exact h1
     ·exact ⟨q,nq,v,hq,hnq,hv,h1⟩
     ·exact hN.elim
    exact ⟨h1,hfin b hb h1⟩
section
variable {g:Org} {n:Nat} {ρ:Nat→AV} {κ κ':Nat→Box} {a:Act} {w w':World} {G:Gh}
theorem StM.split (h:StM g n ρ κ a w G) {i nx ver ep:Nat} {d c:DV} {p:List PS} (hi:κ i=.tree ver ep d) (hx:κ nx=.none) (hp:get d p=some c) (hc:c.owning=true) (hne:p ≠ []) (h1:κ' i=.tree ver (ep+1) (setP d p .any)) (h2:κ' nx=.tree 0 0 c) (h3:∀j,j ≠ i→j ≠ nx→κ' j=κ j) :
  ∃G',Gh.Le G G'∧G'.M=G.M∧G'.β=G.β∧(∀r,hdr G'.H nx 0 0 r=hdr G.H i ver ep (p++r))∧StM g n ρ κ' a w G':=by
 have hne':i ≠ nx:=fun e=>by rw [e,hx] at hi; cases hi
 have hbi:=h.fit.box i
 have hbx:=h.fit.box nx
 rw [hi] at hbi
 rw [hx] at hbx
 obtain ⟨ht,hinj,hv1,hv2⟩:=hbi
 obtain ⟨f1,f2,f3⟩:=ht.forget hinj hp hc hne
 have hpe:∀r,p++r ≠ []:=fun r e=>hne (List.append_eq_nil_iff.1 e).1
 let fi:Nat→Nat→List PS→Option Value:=fun v e q=>if v=ver∧e=ep+1∧q ≠ [] then hdr G.H i ver ep q else G.H i v e q
 let fx:Nat→Nat→List PS→Option Value:=fun v e q=>if v=0∧e=0 then hdr G.H i ver ep (p++q) else none
 let G':Gh:={ G with H:=updH (updH G.H i fi) nx fx }
 have hHi:G'.H i=fi:=by show updH (updH G.H i fi) nx fx i=fi; rw [updH_other _ _ hne',updH_same]
 have hHx:G'.H nx=fx:=updH_same _ _ _
 have hHo:∀j,j ≠ i→j ≠ nx→G'.H j=G.H j:=fun j e1 e2=>by show updH (updH G.H i fi) nx fx j=_; rw [updH_other _ _ e2,updH_other _ _ e1]
 have hhi:hdr G'.H i ver (ep+1)=hdr G.H i ver ep:=by
  funext q
  cases q with
  | nil=>simp only [hdr,hHi]; show (if _ then _ else _)=_; rw [if_neg (by simp)]
  | cons s q=>simp only [hdr,hHi]; show (if _ then _ else _)=_; rw [if_pos ⟨rfl,rfl,by simp⟩]; rfl
 have hhx:hdr G'.H nx 0 0=fun r=>hdr G.H i ver ep (p++r):=by
  funext q
  cases q with
  | nil=>show G'.H nx 0 0 []=_; rw [hHx]; show (if 0=0∧0=0 then hdr G.H i ver ep (p++[]) else none)=_; rw [if_pos ⟨rfl,rfl⟩]
  | cons s q=>show G'.H nx 0 0 (s::q)=_; rw [hHx]; show (if 0=0∧0=0 then hdr G.H i ver ep (p++s::q) else none)=_; rw [if_pos ⟨rfl,rfl⟩]
 have hle:Gh.Le G G':=⟨Mem.Le.refl _,fun _ _ q=>q,fun j v e q x hq=>by
  by_cases e1:j=i
  ·subst e1
   rw [hHi]
   show (if v=ver∧e=ep+1∧q ≠ [] then _ else _)=_
   split
   ·rename_i hcc; obtain ⟨rfl,rfl,_⟩:=hcc; rw [hv2 (ep+1) (by omega)] at hq; cases hq
   ·exact hq
  ·by_cases e2:j=nx
   ·subst e2; rw [hbx.2] at hq; cases hq
   ·rw [hHo j e1 e2]; exact hq⟩
 have ho_i:∀b,Own G' i (κ' i) b→TOwn (hdr G.H i ver ep) d b∧¬ TOwn (fun r=>hdr G.H i ver ep (p++r)) c b:=fun b hb=>by
  rw [h1] at hb; simp only [Own] at hb; rw [hhi] at hb; exact f3 b hb
 have ho_x:∀b,Own G' nx (κ' nx) b→TOwn (fun r=>hdr G.H i ver ep (p++r)) c b:=fun b hb=>by
  rw [h2] at hb; simp only [Own] at hb; rw [hhx] at hb; exact hb
 refine ⟨G',hle,rfl,rfl,fun r=>congrFun hhx r,h.turn (C:=fun j=>j=i ∨ j=nx) ⟨hle,fun _ _=>rfl,fun j hj=>h3 j (fun e=>hj (.inl e)) (fun e=>hj (.inr e)),fun j hj=>⟨fun _ q=>q,fun v e q x hq=>?_⟩,fun _ _ _=>⟨rfl,rfl⟩,h.fit.sub,?_,?_,?_,Nat.le_refl _,rfl,rfl,rfl⟩ (fun _ _=>rfl)⟩
 ·rw [hHo j (fun e=>hj (.inl e)) (fun e=>hj (.inr e))] at hq; exact hq
 ·rintro j (rfl | rfl)
  ·rw [h1]
   refine ⟨by rw [hhi]; exact f1,by rw [hhi]; exact f2,fun v hv e q=>?_,fun e he q=>?_⟩
   ·rw [hHi]; show (if v=ver∧_ then _ else _)=_; rw [if_neg (by omega)]; exact hv1 v hv e q
   ·rw [hHi]; show (if ver=ver∧e=ep+1∧q ≠ [] then _ else _)=_; rw [if_neg (by omega)]; exact hv2 e (by omega) q
  ·rw [h2]
   refine ⟨by rw [hhx]; exact ht.sub hp hc,by rw [hhx]; exact hinj.sub hp,fun v hv e q=>?_,fun e he q=>?_⟩
   ·rw [hHx]; show (if v=0∧e=0 then _ else _)=_; rw [if_neg (by omega)]
   ·rw [hHx]; show (if 0=0∧e=0 then _ else _)=_; rw [if_neg (by omega)]
 ·rintro j b (rfl | rfl) hb
  ·have hb':=(ho_i b hb).1
   have:Own G j (κ j) b:=by rw [hi]; exact hb'
   exact ⟨.inr ⟨j,.inl rfl,this⟩,h.fit.own j b this⟩
  ·have hb':=(ho_x b hb).sub hp
   have:Own G i (κ i) b:=by rw [hi]; exact hb'
   exact ⟨.inr ⟨i,.inl rfl,this⟩,h.fit.own i b this⟩
 ·rintro j j' b (rfl | rfl) (rfl | rfl) hb hb'
  ·rfl
  ·exact absurd (ho_x b hb') (ho_i b hb).2
  ·exact absurd (ho_x b hb) (ho_i b hb').2
  ·rfl
end
end Go.TM
namespace Go.TM
open Go.RowKit
variable [Glob]
section
variable {g:Org} {n:Nat} {ρ:Nat→AV} {κ κ':Nat→Box} {a:Act} {w w':World} {G:Gh}
theorem StM.turnCells (h:StM g n ρ κ a w G) {i b:Nat} {l l':List AV} {vs:Array Value} {t:TypeId} (hi:κ i=.cells l) (hb:G.β i=some b) (hset:κ' i=.cells l') (hoth:∀j,j ≠ i→κ' j=κ j)
  (hw:w'.heap[b]?=some (.cells vs t (0,0))) (hl:CRel G l' vs.toList) (hc:∀v,v∈l'→v.isCell=true) (hsz:w.heap.size≤w'.heap.size) (hkeep:∀k,k<w.heap.size→k ≠ b→w'.heap[k]?=w.heap[k]?)
  (hos:w'.os=w.os) (htp:w'.tape=w.tape) (hout:w'.output=w.output):StM g n ρ κ' a w' G:=by
 have hown:Own G i (κ i) b:=by rw [hi]; exact hb
 refine h.turn (C:=fun j=>j=i) ⟨Gh.Le.refl G,fun _ _=>rfl,hoth,fun j _=>⟨fun _ q=>q,fun _ _ _ _ q=>q⟩,fun k hk hno=>⟨hkeep k hk fun e=>hno i rfl (by rw [e]; exact hown),rfl⟩,fun k o hk=>?_,?_,?_,fun j j' k e1 e2 _ _=>by rw [e1,e2],hsz,hos,htp,hout⟩ (fun _ _=>rfl)
 ·have h1:=h.fit.sub k o hk
  rw [hkeep k (Array.getElem?_eq_some_iff.1 h1).1 fun e=>?_]
  ·exact h1
  ·rw [e] at hk; rw [h.fit.own i b hown] at hk; cases hk
 ·rintro j rfl
  rw [hset]
  exact ⟨b,vs,t,hb,hw,by have:=hl.1; simp at this; omega,hc,fun j d v hd hv=>hl.2 j d v hd (by simpa using hv)⟩
 ·rintro j k rfl ho
  rw [hset] at ho
  have:Own G j (κ j) k:=by rw [hi]; exact ho
  exact ⟨.inr ⟨j,rfl,this⟩,h.fit.own j k this⟩
theorem StM.newTree (h:StM g n ρ κ a w G) {i:Nat} {d:DV} (D:Nat→Prop) (h':List PS→Option Value) (hDi:¬ D i) (hi:κ i=.none) (hend:∀j,D j→κ' j=.dead) (hset:κ' i=.tree 0 0 d) (hoth:∀j,j ≠ i→¬ D j→κ' j=κ j)
  (ht:TreeAt G.M w' h' d) (hinj:TInj h' d) (hown:∀b,TOwn h' d b→w.heap.size≤b ∨ ∃j,D j∧Own G j (κ j) b) (hkeep:∀b,b<w.heap.size→(∀j,D j→¬ Own G j (κ j) b)→w'.heap[b]?=w.heap[b]?)
  (hsz:w.heap.size≤w'.heap.size) (hos:w'.os=w.os) (htp:w'.tape=w.tape) (hout:w'.output=w.output) :
  ∃G',Gh.Le G G'∧G'.M=G.M∧(∀p,hdr G'.H i 0 0 p=h' p)∧StM g n ρ κ' a w' G':=by
 have hb:=h.fit.box i
 rw [hi] at hb
 obtain ⟨G',h1,h2,_,h4,_,_,h7⟩:=h.setTree (κ':=κ') (i:=i) (ver:=0) (ep:=0) (d:=d) D h' hDi (.inl hi) hend hset hoth (fun p x hx=>by cases p <;> simp [hdr,hb.2] at hx) ht hinj
  (fun b hb'=>(hown b hb').imp id fun h=>.inr h) (fun b hb' _ hD=>hkeep b hb' hD) (fun b hb'=>by
   rcases hb' with h1 | ⟨j,_,h1⟩
   ·rw [hi] at h1; exact h1.elim
   ·exact h.fit.own j b h1) hsz hos htp hout
 exact ⟨G',h1,h2,h4,h7⟩
end
section
variable {P:Program} {C:Org→Prop} {T:List TI} {ops:List Oper} {n:Nat} {o:Oper} {nx:Nat} {ρ:Nat→AV} {κ:Nat→Box} {k:Eff→Nat→Prop} {gd:Bool}
theorem run_newRow' {w:World} (e:TypeId) (c:Array Value):(newRow e c).run P w=.ok ⟨w.heap.size,0,none⟩ (w.alloc (.cells c e)):=by
 simp [newRow,run_newObj]
theorem zero_rel (G:Gh) {t:Nat} {ti:TI} {i:TypeInfo} {u:TypeDesc} {z:Value} (tf:TFacts P t ti i u z):CRel G (dvs ti.zero) z.cells.toList∧∀v,v∈dvs ti.zero→v.isCell=true:=by
 obtain ⟨h3,h4⟩:=zcells_ok (M:=G.M) tf.zc
 refine ⟨vrels_dvs h3,fun v hv=>?_⟩
 rw [dvs_eq] at hv
 obtain ⟨d,hd,rfl⟩:=List.mem_map.1 hv
 exact (h4 d hd).1
theorem op_alloc (hT:TOk P T) {t:Nat} (hg:gval ρ ops o.guard=some gd) (ho:o.op=.alloc t) (hok:(nth T t).ok=true) (hfree:κ nx=.none)
  (hk:retb n o (nx+1) k (.ptr nx 0) [(nx,.cells (dvs (nth T t).zero))] [nx]):Good P C ops n o nx ρ κ k:=by
 obtain ⟨i,u,z,tf⟩:=hT.facts hok
 refine snd_run (fun c=>by rw [ho]; simp) hg hk (by omega) (by simp) fun ρ' κ' hag g a w G hgm hst hgd=>?_
 have hfr:κ' nx=.none:=(hag.reads nx (by simp)).trans hfree
 obtain ⟨hz,hc⟩:=zero_rel G tf
 obtain ⟨G',h1,h2,h3⟩:=hst.newCells hfr hgm t hz hc
 refine ⟨.pointer (some ⟨w.heap.size,0,none⟩),w.alloc (.cells z.cells t),G',.inl ?_,h2,.ptr nx 0 _ h3⟩
 simp [execOp,ho,Instr.alloc,tf.run_zero w,newVar,run_newRow']
theorem op_box {t:Nat} {x:Operand} {av:AV} (hg:gval ρ ops o.guard=some gd) (ho:o.op=.box t x) (hfree:κ nx=.none) (hc:allCell (cellsOf av)=true)
  (hk:retb n o (nx+1) k (.ptr nx 0) [(nx,.cells (cellsOf av))] [nx]) (hev:EvOk ρ κ gd x av):Good P C ops n o nx ρ κ k:=by
 refine snd_run (fun c=>by rw [ho]; simp) hg hk (by omega) (by simp) fun ρ' κ' hag g a w G hgm hst hgd=>?_
 have hfr:κ' nx=.none:=(hag.reads nx (by simp)).trans hfree
 have hv:=hev ρ' κ' (hag.op (by rw [ho]; simp [Op.operands])) g n a w G hst hgd
 obtain ⟨G',h1,h2,h3⟩:=hst.newCells (vs:=(a.eval x).cells) hfr hgm t (cells_rel hv hc) (allCell_mem hc)
 refine ⟨.pointer (some ⟨w.heap.size,0,none⟩),w.alloc (.cells (a.eval x).cells t),G',.inl ?_,h2,.ptr nx 0 _ h3⟩
 simp [execOp,ho,Instr.box,newVar,run_newRow']
theorem op_store_ptr (hT:TOk P T) {t i off:Nat} {x y:Operand} {av:AV} {l:List AV} (hg:gval ρ ops o.guard=some gd) (ho:o.op=.store t x y) (hok:(nth T t).ok=true) (hb:κ i=.cells l)
  (hsz:(cellsOf av).length=(nth T t).size) (hc:allCell (cellsOf av)=true) (hle:off+(nth T t).size≤l.length)
  (hk:retb n o nx k .any [(i,.cells (splice l off (cellsOf av)))] [i]) (hin:i<nx) (hev:EvOk ρ κ gd x (.ptr i off)) (hey:EvOk ρ κ gd y av):Good P C ops n o nx ρ κ k:=by
 obtain ⟨ti,u,z,tf⟩:=hT.facts hok
 refine snd_run (fun c=>by rw [ho]; simp) hg hk (Nat.le_refl _) (by simpa using hin) fun ρ' κ' hag g a w G hgm hst hgd=>?_
 have hki:κ' i=.cells l:=(hag.reads i (by simp)).trans hb
 have hv:=hev ρ' κ' (hag.op (by rw [ho]; simp [Op.operands])) g n a w G hst hgd
 have hv2:=hey ρ' κ' (hag.op (by rw [ho]; simp [Op.operands])) g n a w G hst hgd
 have hcr:=cells_rel hv2 hc
 have hbox:=hst.fit.box i
 rw [hki] at hbox
 obtain ⟨b,c,tt,hbe,hw,hcs,hcl,hr⟩:=hbox
 generalize hx:a.eval x=v at hv
 cases hv with
 | ptr _ _ b' hbb =>
 rw [hbe] at hbb; injection hbb with hbb; subst hbb
 have hlen:(a.eval y).cells.toList.length=(nth T t).size:=by rw [←hcr.1,hsz]
 have hst':=run_storeCells_at P b off tt (a.eval y).cells.toList 0 c w hw (by rw [hlen]; omega) (hcr.oneCell hc)
 simp only [Nat.add_zero] at hst'
 have hold:CRel G l c.toList:=⟨by simp [hcs],fun j d v hd hv=>hr j d v hd (by simpa using hv)⟩
 refine ⟨undef,w.setRow b (c.toList.take off++(a.eval y).cells.toList++c.toList.drop (off+(a.eval y).cells.toList.length)).toArray,G,.inr ⟨?_,rfl⟩,
  hst.turnCells (l':=splice l off (cellsOf av)) (t:=tt) hki hbe (by simp [updl]) (fun j hj=>by simp [updl,upd_other _ _ hj]) (setRow_heap w b c _ tt _ hw) ?_ ?_ (by simp) (fun k _ hne=>setRow_other w b k _ hne) rfl rfl rfl,.any _⟩
 ·have hs1:(a.eval y).cells.size=(nth T t).size:=by simpa using hlen
  simp only [execOp,ho,hx,Instr.storeAt,Instr.sureAddr,Sem.run_bind,Sem.run_pure,Result.andThen_ok,storeVar,tf.run_size w,hs1,ne_eq,not_true_eq_false,if_false]
  rw [hst']
  rfl
 ·simpa using hold.splice hcr off (by rw [hsz]; exact hle)
 ·intro v hv
  unfold splice at hv
  rcases List.mem_append.1 hv with hv | hv
  ·rcases List.mem_append.1 hv with hv | hv
   ·exact hcl v (List.mem_of_mem_take hv)
   ·exact allCell_mem hc v hv
  ·exact hcl v (List.mem_of_mem_drop hv)
theorem memN_true {i:Nat}:∀{l:List Nat},memN i l=true→i∈l
 | [],h=>by simp [memN] at h
 | j::r,h=>by
  simp only [memN,Bool.or_eq_true] at h
  rcases h with h | h
  ·rw [Nat.eq_of_beq_eq_true h]; simp
  ·exact List.mem_cons_of_mem _ (memN_true h)
theorem memN_false {i:Nat}:∀{l:List Nat},memN i l=false→i ∉ l
 | [],_=>by simp
 | j::r,h=>by
  simp only [memN,Bool.or_eq_false_iff] at h
  have h2:=memN_false h.2
  intro hm
  rcases List.mem_cons.1 hm with rfl | hm
  ·have:=h.1
   simp [Nat.beq_refl] at this
  ·exact h2 hm
theorem updl_dead {γ:Nat→Box}:∀{ids:List Nat} (j:Nat),updl γ (deadL ids) j=if j∈ids then .dead else γ j
 | [],j=>by simp [deadL,updl]
 | i::r,j=>by
  simp only [deadL,updl]
  by_cases e:j=i
  ·subst e; simp
  ·rw [upd_other _ _ e,updl_dead j]; simp [e]
theorem asList_sound {v:AV} {q:(sz:Nat)→List DV→List Nat→List Nat→Prop} {nl:Prop} (h:asList κ v q nl) :
  (v=.dv .nils∧nl) ∨ ∃(sz:Nat) (ys:List DV) (rd kill:List Nat),q sz ys rd kill∧(∀j,j∈rd→∃v e d,κ j=.tree v e d)∧(∀j,j∈kill→j∈rd) ∧
   ∀κ' G w x,(∀i,i∈rd→κ' i=κ i)→Fit G w κ'→VRel G v x→∃hs,Src G.M w x sz ys hs∧∀b,TOwn hs (.osl sz ys) b→∃j,j∈kill∧Own G j (κ' j) b:=by
 unfold asList at h
 split at h
 ·rename_i sz l
  refine .inr ⟨sz,l,[],[],h,by simp,by simp,fun κ' G w x _ hf hv=>⟨fun _=>none,?_,?_⟩⟩
  ·cases hv with | dv hv =>
   refine .closed ((SrcG.of_dv hf.sub hv).mono rfl fun i x y hx hy=>?_) rfl
   rw [hx] at hy; injection hy with hy; subst hy
   refine ⟨rfl,fun j d e u hd he hcd hS=>?_⟩
   rw [hd] at he; injection he with he; subst he
   exact ⟨hcd,hS.not_owning,hS⟩
  ·rintro b ⟨_,_,_,_,_,q,_⟩; cases q
 ·exact .inl ⟨rfl,h⟩
 ·rename_i i ver ep p
  split at h
  ·rename_i ver' ep' d hki
   cases hb:Nat.beq ver ver' && (emp p || Nat.beq ep ep') with
   | false=>rw [hb] at h; exact h.elim
   | true =>
    rw [hb] at h
    simp only [cond_true] at h
    obtain ⟨rfl,hcur⟩:=vis_cur hb
    obtain ⟨nd,h,hnd⟩:=getN_sound h
    have hnd:=hnd rfl
    cases nd with
    | osl sz l =>
     have hdr':∀{G:Gh} {κ':Nat→Box} {w:World} {x:Value},κ' i=κ i→Fit G w κ'→VRel G (.own i ver ep p) x→hdr G.H i ver ep' p=some x:=by
      intro G κ' w x he hf hv
      cases hv with | own _ _ _ _ _ hh hc=>rw [←hdr_cur hcur]; exact hh
     rcases h with ⟨hcl,h⟩ | ⟨rfl,hq⟩
     ·refine .inr ⟨sz,l,[i],[],h,by simp [hki],by simp,fun κ' G w x hag hf hv=>⟨fun _=>none,?_,?_⟩⟩
      ·have he:=hag i (by simp)
       have hx:=hdr' he hf hv
       obtain ⟨u,h1,h2,h3⟩:=hf.node (he.trans hki) hnd rfl
       rw [hx] at h1; injection h1 with h1; subst h1
       refine .closed ?_ rfl
       have h4:RowG w x sz l fun i j d u=>d.owning=false∧DRel G.M d u:=by
        rcases rowG_iff.1 h3 with h3 | ⟨g,o,cap,c,t,a1,a2,a3,a4,a5⟩
        ·exact .inl h3
        ·refine .inr ⟨g,o,cap,c,t,a1,a2,a3,a4,fun i y hy=>⟨(a5 i y hy).1,fun j d hd=>?_⟩⟩
         obtain ⟨b1,u,b2,b3⟩:=(a5 i y hy).2 j d hd
         have hcd:=hcl y (List.mem_of_getElem? hy) d (List.mem_of_getElem? hd)
         refine ⟨b1,u,b2,hcd,?_⟩
         rcases b3 with ⟨c1,_⟩ | ⟨_,c2⟩
         ·rw [hcd] at c1; cases c1
         ·exact c2
       exact SrcG.of_row h4 fun i j d u hr hc=>hr.2.oneCell hc
      ·rintro b ⟨_,_,_,_,_,q,_⟩; cases q
     ·refine .inr ⟨sz,l,[i],[i],hq,by simp [hki],by simp,fun κ' G w x hag hf hv=>?_⟩
      have he:=hag i (by simp)
      have hx:=hdr' he hf hv
      have hbx:=hf.box i
      rw [he,hki] at hbx
      simp [get] at hnd
      subst hnd
      refine ⟨hdr G.H i ver ep',.tree hbx.1 hbx.2.1 hx,fun b hb=>⟨i,by simp,?_⟩⟩
      rw [he,hki]; exact hb
    | _=>exact h.elim
  ·exact h.elim
 ·exact h.elim
theorem run_append_op {c:Call} {s x:Operand} {t:Nat} {a:Act} {w w':World} {v':Value} (ho:o.op=.call c) (hc:c.callee=.builtin .append) (ha:c.args.toList=[s,x]) (hat:c.argTypes.toList=[t,t])
  (h:(Builtin.append_ #[t,t] o.type #[a.eval s,a.eval x]).run P w=.ok v' w'):(execOp a.eval o).run P w=.ok (.value v') w':=by
 have hargs:c.args=#[s,x]:=Array.ext' (by simpa using ha)
 have hats:c.argTypes=#[t,t]:=Array.ext' (by simpa using hat)
 simp [execOp,ho,resolve,hc,hargs,hats,invoke,builtin,h]
theorem StM.append (hT:TOk P T) {t ty:TypeId} (hok:(nth T t).ok=true) (hsl:(nth T t).isSl=true) (hel:(nth T (nth T t).elem).ok=true) (hpos:0<(nth T (nth T t).elem).size)
  {g:Org} {κ' κ2:Nat→Box} {a:Act} {w:World} {G:Gh} (hst:StM g n ρ κ' a w G) {i ver':Nat} {l ys zs:List DV} {kill:List Nat} {h hs:List PS→Option Value} {v x:Value}
  (ht:TreeAt G.M w h (.osl (nth T (nth T t).elem).size l)) (hi:TInj h (.osl (nth T (nth T t).elem).size l)) (hv:h []=some v)
  (hk:(κ' i=.none∧ver'=0∧∀b,¬ TOwn h (.osl (nth T (nth T t).elem).size l) b) ∨ ∃ver ep,κ' i=.tree ver ep (.osl (nth T (nth T t).elem).size l)∧ver'=ver+1∧h=hdr G.H i ver ep)
  (hsrc:Src G.M w x (nth T (nth T t).elem).size ys hs) (hskill:∀b,TOwn hs (.osl (nth T (nth T t).elem).size ys) b→∃j,j∈kill∧Own G j (κ' j) b) (hik:i ∉ kill) (hle:ELes ys zs)
  (h63:l.length+zs.length≤9223372036854775807) (hby:(l.length+zs.length) * (nth T (nth T t).elem).bytes≤140737488355328)
  (h1:κ2 i=.tree ver' 0 (.osl (nth T (nth T t).elem).size (l++zs))) (h2:∀j,j∈kill→κ2 j=.dead) (h3:∀j,j ≠ i→j ∉ kill→κ2 j=κ' j) :
  ∃v' w' G',(Builtin.append_ #[t,t] ty #[v,x]).run P w=.ok v' w'∧StM g n ρ κ2 a w' G'∧VRel G' (.own i ver' 0 []) v':=by
 have hown_i:∀b,TOwn h (.osl (nth T (nth T t).elem).size l) b→Own G i (κ' i) b:=fun b hb=>by
  rcases hk with ⟨_,_,h0⟩ | ⟨ver,ep,hki,_,rfl⟩
  ·exact absurd hb (h0 b)
  ·rw [hki]; exact hb
 obtain ⟨v',w',hrun,hgrow,hvc,t1,t2,t3⟩:=append_tree (P:=P) (ty:=ty) hT hok hsl hel hpos ht hi hv hsrc
  (fun b hb hb'=>by obtain ⟨j,hj,ho⟩:=hskill b hb'; exact hik (hst.fit.inj i j b (hown_i b hb) ho ▸ hj))
  (fun b hb=>by obtain ⟨j,_,ho⟩:=hskill b hb; exact ho.lt hst.fit) hle h63 hby
 have hblkv:∀b,blk v=some b→TOwn h (.osl (nth T (nth T t).elem).size l) b:=fun b hb=>⟨[],_,v,rfl,rfl,hv,hb⟩
 obtain ⟨G',g1,g2,_,g4,_,_,g7⟩:=hst.setTree (κ':=κ2) (i:=i) (ver:=ver') (ep:=0) (d:=.osl (nth T (nth T t).elem).size (l++zs)) (fun j=>j∈kill) (catH l.length v' h hs) hik
  (by
   rcases hk with ⟨hki,_,_⟩ | ⟨ver,ep,hki,rfl,_⟩
   ·exact .inl hki
   ·exact .inr ⟨ver,ep,_,hki,by omega,by omega⟩)
  h2 h1 h3
  (fun p y hy=>by
   have hb:=hst.fit.box i
   rcases hk with ⟨hki,rfl,_⟩ | ⟨ver,ep,hki,rfl,_⟩
   ·rw [hki] at hb; cases p <;> simp [hdr,hb.2] at hy
   ·rw [hki] at hb; cases p <;> simp [hdr,hb.2.2.1 (ver+1) (by omega)] at hy)
  t1 t2
  (fun b hb=>by
   rcases t3 b hb with h5 | h5 | h5
   ·exact .inr (.inl (hown_i b h5))
   ·exact .inr (.inr (hskill b h5))
   ·exact .inl h5)
  (fun b hb hno _=>hgrow.block b hb fun e=>hno (hown_i b (hblkv b e.symm)))
  (fun b hb=>by
   rcases hb with h5 | ⟨j,_,h5⟩
   ·exact hst.fit.own i b h5
   ·exact hst.fit.own j b h5)
  hgrow.size hgrow.os hgrow.tape hgrow.output
 exact ⟨v',w',G',hrun,g7,.own _ _ _ _ _ ((g4 []).trans rfl) hvc⟩
theorem op_append (hT:TOk P T) {t:Nat} {s x:Operand} {c:Call} {sv xv:AV} (hg:gval ρ ops o.guard=some gd) (ho:o.op=.call c) (hc:c.callee=.builtin .append) (ha:c.args.toList=[s,x]) (hat:c.argTypes.toList=[t,t])
  (hn:∀i,nx≤i→κ i=.none) (h:aappend T n o nx κ k t sv xv) (hes:EvOk ρ κ gd s sv) (hex:EvOk ρ κ gd x xv):Good P C ops n o nx ρ κ k:=by
 have hnd:∀c',o.op ≠ .defer c':=fun c'=>by rw [ho]; simp
 have hargs:c.args=#[s,x]:=Array.ext' (by simpa using ha)
 have ms:s∈o.op.operands:=by rw [ho]; simp [Op.operands,Call.operands,hc,hargs]
 have mx:x∈o.op.operands:=by rw [ho]; simp [Op.operands,Call.operands,hc,hargs]
 unfold aappend at h
 simp only at h
 cases hb0:(nth T t).ok && (nth T t).isSl && (nth T (nth T t).elem).ok && Nat.blt 0 (nth T (nth T t).elem).size with
 | false=>rw [hb0] at h; exact h.elim
 | true =>
 rw [hb0] at h
 simp only [cond_true] at h
 simp only [Bool.and_eq_true,Nat.blt_eq] at hb0
 obtain ⟨⟨⟨hok,hsl⟩,hel⟩,hpos⟩:=hb0
 have lt_of:∀j,(∃v e d,κ j=.tree v e d)→j<nx:=fun j ⟨v,e,d,hj⟩=>by
  rcases Nat.lt_or_ge j nx with h | h
  ·exact h
  ·rw [hn j h] at hj; cases hj
 have deadlt:∀{kill:List Nat} {nx':Nat},(∀j,j∈kill→∃v e d,κ j=.tree v e d)→nx≤nx'→∀p,p∈deadL kill→p.1<nx':=by
  intro kill nx' hk hle p hp
  have:p.1∈kill:=by
   clear hk
   induction kill with
   | nil=>simp [deadL] at hp
   | cons i r ih=>simp only [deadL] at hp; rcases List.mem_cons.1 hp with rfl | hp; exact List.mem_cons_self; exact List.mem_cons_of_mem _ (ih hp)
  have:=lt_of _ (hk _ this); omega
 have nothing:∀{v:Value} {w:World},((∃l ob gb cap,v=.slice (some ⟨gb,ob,none⟩) l cap∧l≤cap) ∨ v=.slice none 0 0)→(Builtin.append_ #[t,t] o.type #[v,.slice none 0 0]).run P w=.ok v w:=by
  intro v w hv
  obtain ⟨i,u,z,tf⟩:=hT.facts hok
  obtain ⟨te,ue,ze,tfe⟩:=hT.facts hel
  rcases hv with ⟨l,ob,gb,cap,rfl,hcap⟩ | rfl
  ·simp [Builtin.append_,run_underlying (tf.slice hsl),sizeOf,typeInfo,tfe.info,Builtin.lenOf,Builtin.firstCells,hcap,storeCells]
  ·simp [Builtin.append_,run_underlying (tf.slice hsl),sizeOf,typeInfo,tfe.info,Builtin.lenOf,Builtin.firstCells]
 split at h
 ·-- a nil slice
  rcases asList_sound h with ⟨rfl,hk⟩ | ⟨sz,ys,rd,kill,hk,hrd,hkr,hsrc⟩
  ·refine snd_run hnd hg hk (Nat.le_refl _) (by simp) fun ρ' κ' hag g a w G hgm hst hgd=>?_
   have hv:=hes ρ' κ' (hag.op ms) g n a w G hst hgd
   have hv2:=hex ρ' κ' (hag.op mx) g n a w G hst hgd
   generalize hx:a.eval s=v at hv
   generalize hi:a.eval x=vi at hv2
   cases hv with | dv hv=>cases hv with | nils=>cases hv2 with | dv hv2=>cases hv2 with | nils =>
   refine ⟨_,w,G,.inl (run_append_op ho hc ha hat (by rw [hx,hi]; exact nothing (.inr rfl))),hst,.dv .nils⟩
  ·cases hsz:Nat.beq sz (nth T (nth T t).elem).size with
   | false=>rw [hsz] at hk; exact hk.elim
   | true =>
   rw [hsz] at hk
   have:=Nat.eq_of_beq_eq_true hsz
   subst this
   obtain ⟨zs,hle,hby,h63,hk⟩:=hk
   refine snd_run hnd hg hk (by omega) (fun p hp=>?_) fun ρ' κ' hag g a w G hgm hst hgd=>?_
   ·rcases List.mem_cons.1 hp with rfl | hp
    ·simp
    ·exact deadlt (fun j hj=>hrd j (hkr j hj)) (by omega) p hp
   ·have hfr:κ' nx=.none:=(hag.reads nx (by simp)).trans (hn nx (Nat.le_refl _))
    have hv:=hes ρ' κ' (hag.op ms) g n a w G hst hgd
    have hv2:=hex ρ' κ' (hag.op mx) g n a w G hst hgd
    obtain ⟨hs,hsr,hsk⟩:=hsrc κ' G w _ (fun i hi=>hag.reads i (by simp [hi])) hst.fit hv2
    have hnk:nx ∉ kill:=fun hm=>by have:=lt_of nx (hrd nx (hkr nx hm)); omega
    generalize hx:a.eval s=v at hv
    cases hv with | dv hv=>cases hv with | nils =>
    obtain ⟨v',w',G',r1,r2,r3⟩:=hst.append (κ2:=updl κ' ((nx,.tree 0 0 (.osl (nth T (nth T t).elem).size zs))::deadL kill)) (ty:=o.type) (i:=nx) (ver':=0) (l:=[]) hT hok hsl hel hpos (nil_tree _ _ _) (nil_inj _) rfl (.inl ⟨hfr,rfl,fun b hb=>nil_own hb⟩) hsr hsk hnk hle (by simpa using h63) (by simpa using hby)
     (by simp [updl]) (fun j hj=>by simp only [updl]; rw [upd_other _ _ (by rintro rfl; exact hnk hj),updl_dead,if_pos hj]) (fun j h1 h2=>by simp only [updl]; rw [upd_other _ _ h1,updl_dead,if_neg h2])
    exact ⟨v',w',G',.inl (run_append_op ho hc ha hat (by rw [hx]; exact r1)),r2,r3⟩
 ·-- a slice that owns its array
  rename_i i ver ep p
  split at h
  ·rename_i ver' ep' d hki
   cases hb:Nat.beq ver ver' && (emp p || Nat.beq ep ep') with
   | false=>rw [hb] at h; exact h.elim
   | true =>
   rw [hb] at h
   simp only [cond_true] at h
   obtain ⟨rfl,hcur⟩:=vis_cur hb
   obtain ⟨nd,h,hnd'⟩:=getN_sound h
   have hgn:=hnd' rfl
   have hilt:i<nx:=lt_of i ⟨_,_,_,hki⟩
   cases nd with
   | osl sz l =>
    simp only at h
    cases hsz:Nat.beq sz (nth T (nth T t).elem).size with
    | false=>rw [hsz] at h; exact h.elim
    | true =>
    rw [hsz] at h
    simp only [cond_true] at h
    have:=Nat.eq_of_beq_eq_true hsz
    subst this
    have hdrx:∀{g:Org} {a:Act} {G:Gh} {κ':Nat→Box} {w:World},VRel G (.own i ver ep p) (a.eval s)→hdr G.H i ver ep' p=some (a.eval s):=by
     intro g a G κ' w hv
     generalize a.eval s=v at hv ⊢
     cases hv with | own _ _ _ _ _ hh hcc=>rw [←hdr_cur hcur]; exact hh
    rcases asList_sound h with ⟨rfl,hk⟩ | ⟨sz',ys,rd,kill,hk,hrd,hkr,hsrc⟩
    ·-- nothing comes in
     have node:∀{G:Gh} {w:World} {κ':Nat→Box},κ' i=κ i→Fit G w κ'→∀{v:Value},hdr G.H i ver ep' p=some v→((∃l ob gb cap,v=.slice (some ⟨gb,ob,none⟩) l cap∧l≤cap) ∨ v=.slice none 0 0):=by
      intro G w κ' he hf v hv
      obtain ⟨u,h1,_,h3⟩:=hf.node (he.trans hki) hgn rfl
      rw [hv] at h1; injection h1 with h1; subst h1
      rcases h3 with ⟨_,rfl⟩ | ⟨gb,ob,cap,c,t,rfl,hcap,_⟩
      ·exact .inr rfl
      ·exact .inl ⟨_,_,_,_,rfl,hcap⟩
     cases p with
     | nil =>
      simp [get] at hgn
      subst hgn
      refine snd_run hnd hg hk (Nat.le_refl _) (by simpa using hilt) fun ρ' κ' hag g a w G hgm hst hgd=>?_
      have he:=hag.reads i (by simp)
      have hv:=hes ρ' κ' (hag.op ms) g n a w G hst hgd
      have hv2:=hex ρ' κ' (hag.op mx) g n a w G hst hgd
      have hx:=hdrx (g:=g) (κ':=κ') (w:=w) hv
      generalize hi:a.eval x=vi at hv2
      cases hv2 with | dv hv2=>cases hv2 with | nils =>
      have hbx:=hst.fit.box i
      rw [he,hki] at hbx
      obtain ⟨G',g1,g2,_,g4,_,_,g7⟩:=hst.setTree (κ':=updl κ' [(i,.tree (ver+1) 0 (.osl (nth T (nth T t).elem).size l))]) (w':=w) (i:=i) (ver:=ver+1) (ep:=0) (d:=.osl (nth T (nth T t).elem).size l) (fun _=>False) (hdr G.H i ver ep') (fun h=>h.elim) (.inr ⟨ver,ep',_,he.trans hki,by omega,by omega⟩) (fun _ h=>h.elim) (by simp [updl]) (fun j hj _=>by simp [updl,upd_other _ _ hj])
       (fun q y hy=>by cases q <;> simp [hdr,hbx.2.2.1 (ver+1) (by omega)] at hy) hbx.1 hbx.2.1 (fun b hb=>.inr (.inl (by rw [he,hki]; exact hb))) (fun _ _ _ _=>rfl) (fun b hb=>by
        rcases hb with h5 | ⟨_,h5,_⟩
        ·exact hst.fit.own i b h5
        ·exact h5.elim) (Nat.le_refl _) rfl rfl rfl
      have hvc:(a.eval s).oneCell'=true:=by rcases node he hst.fit hx with ⟨_,_,_,_,e,_⟩ | e <;> rw [e] <;> rfl
      exact ⟨a.eval s,w,G',.inl (run_append_op ho hc ha hat (by rw [hi]; exact nothing (node he hst.fit hx))),g7,.own _ _ _ _ _ ((g4 []).trans hx) hvc⟩
     | cons ps pr =>
      obtain ⟨hk,_⟩:=setN_sound hk
      refine snd_run hnd hg hk (by omega) (fun q hq=>by
       rcases List.mem_cons.1 hq with rfl | hq
       ·simp
       ·simp at hq; subst hq; simp; omega) fun ρ' κ' hag g a w G hgm hst hgd=>?_
      have he:=hag.reads i (by simp)
      have hfr:κ' nx=.none:=(hag.reads nx (by simp)).trans (hn nx (Nat.le_refl _))
      have hv:=hes ρ' κ' (hag.op ms) g n a w G hst hgd
      have hv2:=hex ρ' κ' (hag.op mx) g n a w G hst hgd
      have hx:=hdrx (g:=g) (κ':=κ') (w:=w) hv
      generalize hi:a.eval x=vi at hv2
      cases hv2 with | dv hv2=>cases hv2 with | nils =>
      obtain ⟨G',g1,g2,_,g4,g7⟩:=hst.split (κ':=updl κ' [(nx,.tree 0 0 (.osl (nth T (nth T t).elem).size l)),(i,.tree ver (ep'+1) (setP d (ps::pr) .any))]) (i:=i) (nx:=nx) (he.trans hki) hfr hgn rfl (by simp) (by simp only [updl]; rw [upd_other _ _ (by omega)]; simp) (by simp [updl]) (fun j h1 h2=>by simp only [updl]; rw [upd_other _ _ h2,upd_other _ _ h1])
      have hvc:(a.eval s).oneCell'=true:=by rcases node he hst.fit hx with ⟨_,_,_,_,e,_⟩ | e <;> rw [e] <;> rfl
      refine ⟨a.eval s,w,G',.inl (run_append_op ho hc ha hat (by rw [hi]; exact nothing (node he hst.fit hx))),g7,.own _ _ _ _ _ ((g4 []).trans ?_) hvc⟩
      rw [List.append_nil]; exact hx
    ·cases hb2:Nat.beq sz' (nth T (nth T t).elem).size && !memN i rd with
     | false=>rw [hb2] at hk; exact hk.elim
     | true =>
     rw [hb2] at hk
     simp only [cond_true] at hk
     simp only [Bool.and_eq_true,Bool.not_eq_true'] at hb2
     have:=Nat.eq_of_beq_eq_true hb2.1
     subst this
     have hird:=memN_false hb2.2
     have hik:i ∉ kill:=fun hm=>hird (hkr i hm)
     obtain ⟨zs,hle,hby,h63,hk⟩:=hk
     cases p with
     | nil =>
      simp [get] at hgn
      subst hgn
      refine snd_run hnd hg hk (Nat.le_refl _) (fun q hq=>by
       rcases List.mem_cons.1 hq with rfl | hq
       ·exact hilt
       ·exact deadlt (fun j hj=>hrd j (hkr j hj)) (Nat.le_refl _) q hq) fun ρ' κ' hag g a w G hgm hst hgd=>?_
      have he:=hag.reads i (by simp)
      have hv:=hes ρ' κ' (hag.op ms) g n a w G hst hgd
      have hv2:=hex ρ' κ' (hag.op mx) g n a w G hst hgd
      have hx:=hdrx (g:=g) (κ':=κ') (w:=w) hv
      obtain ⟨hs,hsr,hsk⟩:=hsrc κ' G w _ (fun i hi=>hag.reads i (by simp [hi])) hst.fit hv2
      have hbx:=hst.fit.box i
      rw [he,hki] at hbx
      obtain ⟨v',w',G',r1,r2,r3⟩:=hst.append (κ2:=updl κ' ((i,.tree (ver+1) 0 (.osl (nth T (nth T t).elem).size (l++zs)))::deadL kill)) (ty:=o.type) (i:=i) (ver':=ver+1) hT hok hsl hel hpos hbx.1 hbx.2.1 hx (.inr ⟨ver,ep',he.trans hki,rfl,rfl⟩) hsr hsk hik hle h63 hby
       (by simp [updl]) (fun j hj=>by simp only [updl]; rw [upd_other _ _ (by rintro rfl; exact hik hj),updl_dead,if_pos hj]) (fun j h1 h2=>by simp only [updl]; rw [upd_other _ _ h1,updl_dead,if_neg h2])
      exact ⟨v',w',G',.inl (run_append_op ho hc ha hat r1),r2,r3⟩
     | cons ps pr =>
      obtain ⟨hk,_⟩:=setN_sound hk
      refine snd_run hnd hg hk (by omega) (fun q hq=>by
       rcases List.mem_cons.1 hq with rfl | hq
       ·simp
       ·rcases List.mem_cons.1 hq with rfl | hq
        ·show i<nx+1; omega
        ·exact deadlt (fun j hj=>hrd j (hkr j hj)) (by omega) q hq) fun ρ' κ' hag g a w G hgm hst hgd=>?_
      have he:=hag.reads i (by simp)
      have hfr:κ' nx=.none:=(hag.reads nx (by simp)).trans (hn nx (Nat.le_refl _))
      have hv:=hes ρ' κ' (hag.op ms) g n a w G hst hgd
      have hv2:=hex ρ' κ' (hag.op mx) g n a w G hst hgd
      have hx:=hdrx (g:=g) (κ':=κ') (w:=w) hv
      have hnk:nx ∉ kill:=fun hm=>by have:=lt_of nx (hrd nx (hkr nx hm)); omega
      have hnrd:nx ∉ rd:=fun hm=>by have:=lt_of nx (hrd nx hm); omega
      obtain ⟨G1,g1,g2,_,g4,g7⟩:=hst.split (κ':=updl κ' [(nx,.tree 0 0 (.osl (nth T (nth T t).elem).size l)),(i,.tree ver (ep'+1) (setP d (ps::pr) .any))]) (i:=i) (nx:=nx) (he.trans hki) hfr hgn rfl (by simp) (by simp only [updl]; rw [upd_other _ _ (by omega)]; simp) (by simp [updl]) (fun j h1 h2=>by simp only [updl]; rw [upd_other _ _ h2,upd_other _ _ h1])
      obtain ⟨hs,hsr,hsk⟩:=hsrc (updl κ' [(nx,.tree 0 0 (.osl (nth T (nth T t).elem).size l)),(i,.tree ver (ep'+1) (setP d (ps::pr) .any))]) G1 w _ (fun j hj=>by simp only [updl]; rw [upd_other _ _ (by rintro rfl; exact hnrd hj),upd_other _ _ (by rintro rfl; exact hird hj)]; exact hag.reads j (by simp [hj])) g7.fit (hv2.mono g1)
      have hbx:=g7.fit.box nx
      have hxx:updl κ' [(nx,.tree 0 0 (.osl (nth T (nth T t).elem).size l)),(i,.tree ver (ep'+1) (setP d (ps::pr) .any))] nx=.tree 0 0 (.osl (nth T (nth T t).elem).size l):=by simp [updl]
      rw [hxx] at hbx
      obtain ⟨v',w',G',r1,r2,r3⟩:=g7.append (κ2:=updl κ' ((nx,.tree 1 0 (.osl (nth T (nth T t).elem).size (l++zs)))::(i,.tree ver (ep'+1) (setP d (ps::pr) .any))::deadL kill)) (ty:=o.type) (i:=nx) (ver':=1) hT hok hsl hel hpos hbx.1 hbx.2.1 (v:=a.eval s) (by rw [g4 [],List.append_nil]; exact hx) (.inr ⟨0,0,hxx,rfl,rfl⟩) hsr hsk hnk hle h63 hby
       (by simp [updl]) (fun j hj=>by simp only [updl]; rw [upd_other _ _ (by rintro rfl; exact hnk hj),upd_other _ _ (by rintro rfl; exact hik hj),updl_dead,if_pos hj]) (fun j h1 h2=>by
        simp only [updl]
        rw [upd_other _ _ h1,upd_other _ _ h1]
        by_cases e:j=i
        ·subst e; simp
        ·rw [upd_other _ _ e,upd_other _ _ e,updl_dead,if_neg h2])
      exact ⟨v',w',G',.inl (run_append_op ho hc ha hat r1),r2,r3⟩
   | _=>exact h.elim
  ·exact h.elim
 ·exact h.elim
end
end Go.TM
