import Derived.Test.YtmojfblpbcficaaGreatDoorCM5
set_option linter.all false
namespace Go.TM
section
open Go.RowKit
variable [cn]
section
variable {w w':World}
theorem bB.sub{M:Mem}{h:List PS->Option Value}{d c:DV}{p:List PS}(ht:bB M w h d)(hp:get d p=some c)(hc:c.ar=true):bB M w (fun r=>h (p++r)) c:=by
 refine⟨hc,fun q m hq hm=>?_⟩
 obtain⟨v,h1,h2,h3⟩:=ht.2 (p++q) m (by rw[get_append,hp];exact hq) hm
 exact⟨v,h1,h2,by simpa only[acK]using h3⟩
theorem iX.sub{h:List PS->Option Value}{d c:DV}{p:List PS}(hi:iX h d)(hp:get d p=some c):iX (fun r=>h (p++r)) c:=by
 intro q q' n m u v b e1 e2 e3 e4 f1 f2 f3 f4
 have:=hi (p++q) (p++q') n m u v b (by rw[get_append,hp];exact e1) e2 e3 e4 (by rw[get_append,hp];exact f1) f2 f3 f4
 exact List.append_cancel_left this
theorem bK.sub{h:List PS->Option Value}{d c:DV}{p:List PS}{b:Nat}(hp:get d p=some c)(ho:bK (fun r=>h (p++r)) c b):bK h d b:=by
 obtain⟨q,m,v,h1,h2,h3,h4⟩:=ho
 exact⟨p++q,m,v,by rw[get_append,hp];exact h1,h2,h3,h4⟩
theorem iX.jX{h h':List PS->Option Value}{d:DV}(hi:iX h d)(hh:∀p n v,get d p=some n->n.ar=true->h' p=some v->h p=some v):iX h' d:=
 fun p q n m u v b e1 e2 e3 e4 f1 f2 f3 f4=>hi p q n m u v b e1 e2 (hh p n u e1 e2 e3) e4 f1 f2 (hh q m v f1 f2 f3) f4
def Rf:List PS->Option Value
 |[]=>some (.slice none 0 0)
 |_=>none
theorem xf{sz:Nat}{p:List PS}{m:DV}(h:get (.aC sz []) p=some m):p=[]/\m=.aC sz []:=by
 cases p with
 |nil=>simp[get]at h;exact⟨rfl,h.symm⟩
 |cons s p=>cases s<;>simp[get,step]at h
theorem zy(M:Mem)(w:World)(sz:Nat):bB M w Rf (.aC sz []):=by
 refine⟨rfl,fun p m hp _=>?_⟩
 obtain⟨rfl,rfl⟩:=xf hp
 exact⟨_,rfl,rfl,.inl ⟨rfl,rfl⟩⟩
theorem DL(sz:Nat):iX Rf (.aC sz []):=by
 intro p q n m u v b e1 _ _ _ f1 _ _ _
 rw[(xf e1).1,(xf f1).1]
theorem kC{sz b:Nat}(h:bK Rf (.aC sz []) b):False:=by
 obtain⟨p,m,v,h1,_,h3,h4⟩:=h
 obtain⟨rfl,rfl⟩:=xf h1
 simp[Rf]at h3
 subst h3
 simp[cS]at h4
def u3(n:Nat)(v:Value)(h hs:List PS->Option Value):List PS->Option Value
 |[]=>some v
 |.el i j::r=>if i<n then h (.el i j::r)else hs (.el (i-n) j::r)
 |s::r=>h (s::r)
inductive Src(M:Mem)(w:World)(x:Value)(sz:Nat)(ys:List DV)(hs:List PS->Option Value):Prop
 |closed (h:pZ w x sz ys fun _ _ d u=>d.ar=false/\bq M d u) (hn:hs=fun _=>none)
 |tree (ht:bB M w hs (.aC sz ys)) (hi:iX hs (.aC sz ys)) (hx:hs []=some x)
theorem dD.cV{M:Mem}{h:Option Value}{d:DV}{u:Value}(r:dD M h d u)(hc:d.aj=true)(ho:d.ar=true->∀v,h=some v->v.oneCell'=true):u.oneCell'=true:=by
 rcases r with⟨a,b⟩|⟨a,b⟩
 ·exact ho a u b
 ·exact b.cV hc
theorem bB.Rg{M:Mem}{h:List PS->Option Value}{d c:DV}{s:PS}(ht:bB M w h d)(hs:step d s=some c)(hc:c.ar=true){v:Value}(hv:h [s]=some v):v.oneCell'=true:=by
 obtain⟨u,h1,h2,_⟩:=ht.2 [s] c (by simp[get,hs]) hc
 rw[h1]at hv;injection hv with hv;subst hv;exact h2
theorem Src.XA{M:Mem}{x:Value}{sz:Nat}{ys:List DV}{hs:List PS->Option Value}(h:Src M w x sz ys hs):pZ w x sz ys fun i j d u=>d.aj=true/\dD M (hs [.el i j]) d u:=by
 cases h with
 |closed h hn=>
  refine h.mono rfl fun i x' y hx hy=>?_
  rw[hx]at hy;injection hy with hy;subst hy
  refine⟨rfl,fun j d e u hd he Df hS=>?_⟩
  rw[hd]at he;injection he with he;subst he
  exact⟨Df,Df,.inr hS⟩
 |tree ht hi hx=>
  obtain⟨v,h1,h2,h3⟩:=ht.2 [] _ rfl rfl
  rw[hx]at h1;injection h1 with h1;subst h1
  have h4:uY w x sz ys fun i j d u=>d.aj=true/\step (.aC sz ys) (.el i j)=some d/\dD M (hs [.el i j]) d u:=by
   rcases fU.1 h3 with h3|⟨g,o,cap,c,t,a1,a2,a3,a4,a5⟩
   ·exact .inl h3
   ·refine .inr ⟨g,o,cap,c,t,a1,a2,a3,a4,fun i y hy=>⟨(a5 i y hy).1,fun j d hd=>?_⟩⟩
    obtain⟨b1,u,b2,b3⟩:=(a5 i y hy).2 j d hd
    exact⟨b1,u,b2,b1,by simp only[step,hy];exact hd,b3⟩
  refine(pZ.Ra h4 fun i j d u hr _=>?_).mono rfl fun i x' y hx hy=>?_
  ·exact hr.2.2.cV hr.1 fun ho v hv=>ht.Rg hr.2.1 ho hv
  ·rw[hx]at hy;injection hy with hy;subst hy
   refine⟨rfl,fun j d e u hd he Df hS=>?_⟩
   rw[hd]at he;injection he with he;subst he
   exact⟨Df,hS.1,hS.2.2⟩
theorem mr.length:∀{l r:List DV},mr l r->l.length=r.length
 |[],[],_=>rfl
 |_::_,_::_,h=>by simp[mr.length h.2]
 |[],_::_,h=>h.elim
 |_::_,[],h=>h.elim
theorem mr.at:∀{l r:List DV},mr l r->∀(j:Nat) (d e:DV),l[j]?=some d->r[j]?=some e->(d.ar=true/\d=e)\/(d.ar=false/\d.Le e)
 |[],[],_,j,d,e,h,_=>by simp at h
 |a::l,b::r,h,0,d,e,e1,e2=>by
  simp at e1 e2;subst e1;subst e2
  have:=h.1
  cases ho:a.ar with
  |true=>rw[ho]at this;exact .inl ⟨rfl,this⟩
  |false=>rw[ho]at this;exact .inr ⟨rfl,this⟩
 |a::l,b::r,h,j+1,d,e,e1,e2=>by simp at e1 e2;exact mr.at h.2 j d e e1 e2
 |[],_::_,h,_,_,_,_,_=>h.elim
 |_::_,[],h,_,_,_,_,_=>h.elim
theorem ca.length:∀{l r:List DV},ca l r->l.length=r.length
 |[],[],_=>rfl
 |_::_,_::_,h=>by simp[ca.length h.2]
 |[],_::_,h=>h.elim
 |_::_,[],h=>h.elim
theorem ca.at:∀{l r:List DV},ca l r->∀(i:Nat) (x y:DV),l[i]?=some x->r[i]?=some y->mr x.cells y.cells
 |[],[],_,j,d,e,h,_=>by simp at h
 |a::l,b::r,h,0,d,e,e1,e2=>by simp at e1 e2;subst e1;subst e2;exact h.1
 |a::l,b::r,h,j+1,d,e,e1,e2=>by simp at e1 e2;exact ca.at h.2 j d e e1 e2
 |[],_::_,h,_,_,_,_,_=>h.elim
 |_::_,[],h,_,_,_,_,_=>h.elim
theorem bq.aj{M:Mem}{d:DV}{v:Value}(h:bq M d v)(hv:v.oneCell'=true):d.aj=true:=by
 cases h with
 |agg=>simp[Value.oneCell']at hv
 |_=>rfl
theorem dD.le{M:Mem}{h:Option Value}{d e:DV}{u:Value}(r:dD M h d u)(hle:(d.ar=true/\d=e)\/(d.ar=false/\d.Le e))(hc:d.aj=true):e.aj=true/\dD M h e u/\(e.ar=true->d=e):=by
 rcases hle with⟨h1,rfl⟩|⟨h1,h2⟩
 ·exact⟨hc,r,fun _=>rfl⟩
 ·rcases r with⟨a,b⟩|⟨a,b⟩
  ·rw[h1]at a;cases a
  ·have h3:=h2 M u b
   exact⟨h3.aj (b.cV hc),.inr ⟨h3.fe,h3⟩,fun ho=>by rw[h3.fe]at ho;cases ho⟩
theorem GJ{P:Program}{T:List TI}(hT:fh P T){t ty:TypeId}(cw:(nth T t).ok=true)(gB:(nth T t).isSl=true)(vK:(nth T (nth T t).elem).ok=true)(dc:0<(nth T (nth T t).elem).size)
 {M:Mem} {h hs:List PS->Option Value} {l ys zs:List DV} {v x:Value} (ht:bB M w h (.aC (nth T (nth T t).elem).size l)) (hi:iX h (.aC (nth T (nth T t).elem).size l)) (hv:h []=some v)
 (lu:Src M w x (nth T (nth T t).elem).size ys hs) (XB:∀b,bK h (.aC (nth T (nth T t).elem).size l) b->¬bK hs (.aC (nth T (nth T t).elem).size ys) b) (aw:∀b,bK hs (.aC (nth T (nth T t).elem).size ys) b->b<w.heap.size) (hle:ca ys zs)
 (D8:l.length+zs.length<=9223372036854775807) (zR:(l.length+zs.length)*(nth T (nth T t).elem).bytes<=140737488355328):
 ∃v' w',(Builtin.append_ #[t,t] ty #[v,x]).run P w=.ok v' w'/\w.grownBy w' (cS v)/\v'.oneCell'=true/\bB M w' (u3 l.length v' h hs) (.aC (nth T (nth T t).elem).size (l++zs))/\iX (u3 l.length v' h hs) (.aC (nth T (nth T t).elem).size (l++zs))/\
  ∀b,bK (u3 l.length v' h hs) (.aC (nth T (nth T t).elem).size (l++zs)) b->bK h (.aC (nth T (nth T t).elem).size l) b\/bK hs (.aC (nth T (nth T t).elem).size ys) b\/w.heap.size<=b:=by
 obtain⟨i,u,z,tf⟩:=hT.facts cw
 obtain⟨te,ue,ze,iY⟩:=hT.facts vK
 generalize bz:(nth T (nth T t).elem).size=sz at*
 have ma:te.size=sz:=by rw[<-bz,iY.size]
 obtain⟨v0,G8,wZ,bn⟩:=ht.2 [] _ rfl rfl
 rw[hv]at G8;injection G8 with G8;subst G8
 have As:=fU.1 bn
 have hsg:=lu.XA
 have Rh:pZ w x sz zs fun i j d u=>d.aj=true/\dD M (hs [.el i j]) d u:=by
  refine hsg.mono hle.length fun i x y hx hy=>?_
  have h1:=hle.at i x y hx hy
  refine⟨h1.length,fun j d e u hd he Df hS=>?_⟩
  obtain⟨k1,k2,_⟩:=hS.2.le (h1.at j d e hd he) Df
  exact⟨k1,k1,k2⟩
 have zA:∀i j e,step (.aC sz zs) (.el i j)=some e->e.ar=true->step (.aC sz ys) (.el i j)=some e:=by
  intro i j e he ho
  simp only[step]at he⊢
  split at he
  ·rename_i y hy
   have Hc:i<ys.length:=by rw[hle.length];exact(aci.1 hy).1
   have hx:ys[i]?=some ys[i]:=aaS Hc
   rw[hx]
   have h1:=hle.at i _ y hx hy
   have hj:j<ys[i].cells.length:=by rw[h1.length];exact(aci.1 he).1
   have hd:ys[i].cells[j]?=some ys[i].cells[j]:=aaS hj
   simp only
   rcases h1.at j _ e hd he with⟨a,b⟩|⟨a,b⟩
   ·rw[hd,b]
   ·-- a closed cell abF abG an ar one:there is a value of it
    rcases hsg with⟨c,_,uz⟩|⟨A,cap,cell,_,cH⟩
    ·rw[uz]at Hc;simp at Hc
    ·obtain⟨_,h3⟩:=cH i _ hx
     obtain⟨_,_,_,h4⟩:=h3 j _ hd
     rcases h4.2 with⟨c1,_⟩|⟨_,c2⟩
     ·rw[a]at c1;cases c1
     ·rw[(b M _ c2).fe]at ho;cases ho
  ·cases he
 have XD:ze.cells.size=te.size:=by
  have:=(ec (M:=M) iY.zc).1.1
  simp at this
  rw[<-this,iY.zl]
 obtain⟨v',w',bE,GK,iV,hblk,DM,_⟩:=zx (P:=P) (t:=t) (ty:=ty) (tf.slice gB) iY.info iY.zero XD (by rw[ma];exact dc) (by rw[ma];exact As) (by rw[ma];exact Rh) D8 (by rw[<-iY.bytes];exact zR)
 rw[ma]at GK
 refine⟨v',w',bE,iV,DM,?_⟩
 have Ri:∀b,b<w.heap.size->cS v≠some b->w'.heap[b]?=w.heap[b]?:=fun b hb cC=>iV.block b hb (fun e=>cC e.symm)
 have XE:cG M w' v' (fun s=>u3 l.length v' h hs ([]++[s])) (.aC sz (l++zs)):=by
  refine fU.2 ?_
  rcases GK with h1|⟨g,o,cap,c,tt,a1,a2,a3,a4,a5⟩
  ·exact .inl h1
  ·refine .inr ⟨g,o,cap,c,tt,a1,a2,a3,a4,fun i x hx=>⟨(a5 i x hx).1,fun j d hd=>?_⟩⟩
   obtain⟨b1,u,b2,b3⟩:=(a5 i x hx).2 j d hd
   refine⟨b1,u,b2,?_⟩
   unfold tG at b3
   simp only[List.nil_append,u3]
   split at b3
   ·rename_i kU;rw[if_pos kU];exact b3
   ·rename_i kU;rw[if_neg kU];exact b3.2
 have XF:∀i j c,i<l.length->(step (.aC sz (l++zs)) (.el i j)=some c↔step (.aC sz l) (.el i j)=some c):=by
  intro i j c kU
  simp only[step]
  rw[List.getElem?_append_left kU]
 have Jk:∀i j c,¬i<l.length->step (.aC sz (l++zs)) (.el i j)=some c->step (.aC sz zs) (.el (i-l.length) j)=some c:=by
  intro i j c gE hc
  simp only[step]at hc⊢
  rw[List.getElem?_append_right (by omega)]at hc
  exact hc
 have el:∀s c,step (.aC sz (l++zs)) s=some c->∃i j,s=.el i j:=by
  intro s c fH
  cases s with
  |el i j=>exact⟨i,j,rfl⟩
  |key=>simp[step]at fH
 have sub:∀i j c,¬i<l.length->step (.aC sz (l++zs)) (.el i j)=some c->c.ar=true->bB M w' (fun r=>hs (.el (i-l.length) j::r)) c/\iX (fun r=>hs (.el (i-l.length) j::r)) c/\∀b,bK (fun r=>hs (.el (i-l.length) j::r)) c b->bK hs (.aC sz ys) b:=by
  intro i j c gE hc ho
  have h1:=zA _ _ _ (Jk i j c gE hc) ho
  have hg:get (.aC sz ys) [.el (i-l.length) j]=some c:=by simp[get,h1]
  cases lu with
  |closed om hn=>
   exfalso
   rcases om with⟨_,_,uz⟩|⟨A,cap,cell,_,cH⟩
   ·subst uz;simp[step]at h1
   ·simp only[step]at h1
    split at h1
    ·rename_i x hx
     obtain⟨_,h3⟩:=cH _ x hx
     have:=(h3 j c h1).2.2.2.1
     rw[ho]at this;cases this
    ·cases h1
  |tree ak hsi hsx=>
   have t1:=ak.sub hg ho
   have t2:∀b,bK (fun r=>hs ([.el (i-l.length) j]++r)) c b->bK hs (.aC sz ys) b:=fun b hb=>hb.sub hg
   refine⟨t1.jX (Mem.Le.refl _) (fun b hb=>Ri b (aw b (t2 b hb)) fun e=>?_) (fun _ _ _ _ _ q=>q),hsi.sub hg,t2⟩
   exact XB b ⟨[],_,v,rfl,rfl,hv,e⟩ (t2 b hb)
 have main:=bB.rQ (w:=w) (w':=w') (h':=u3 l.length v' h hs) (p:=[]) (n:=.aC sz l) (n':=.aC sz (l++zs)) (v:=v) (v':=v') (fun s=>∃i j,s=.el i j/\¬i<l.length) ht hi rfl rfl hv rfl rfl DM (.inl rfl) XE
  (fun q hq=>absurd (List.nil_prefix) hq)
  (fun s c fH ho hN=>by
   obtain⟨i,j,rfl⟩:=el s c fH
   by_cases kU:i<l.length
   ·exact⟨(XF i j c kU).1 fH,fun r=>by simp only[List.nil_append,u3,if_pos kU]⟩
   ·exact absurd ⟨i,j,rfl,kU⟩ hN)
  (fun s c fH ho hN=>by
   obtain⟨i,j,rfl,gE⟩:=hN
   obtain⟨t1,t2,t3⟩:=sub i j c gE fH ho
   have e:(fun r=>u3 l.length v' h hs ([]++.el i j::r))=fun r=>hs (.el (i-l.length) j::r):=by funext r;simp only[List.nil_append,u3,if_neg gE]
   rw[e]
   refine⟨t1,t2,fun b hb=>⟨fun kS=>XB b kS (t3 b hb),fun eB=>?_⟩⟩
   rcases hblk b eB with h5|h5
   ·have:=aw b (t3 b hb);omega
   ·exact XB b ⟨[],_,v,rfl,rfl,hv,h5⟩ (t3 b hb))
  (fun s s' c c' b j5 Rj XG lV M7 hN2 jw ck=>by
   obtain⟨i,j,rfl,gE⟩:=XG
   obtain⟨i',j',rfl,aaI⟩:=hN2
   have e:∀i j,¬i<l.length->(fun r=>u3 l.length v' h hs ([]++.el i j::r))=fun r=>hs (.el (i-l.length) j::r):=fun i j gE=>by funext r;simp only[List.nil_append,u3,if_neg gE]
   rw[e i j gE]at jw
   rw[e i' j' aaI]at ck
   have g1:=zA _ _ _ (Jk i j c gE j5) Rj
   have g2:=zA _ _ _ (Jk i' j' c' aaI lV) M7
   cases lu with
   |closed om hn=>rw[hn]at jw;obtain⟨_,_,_,_,_,q,_⟩:=jw;cases q
   |tree ak hsi hsx=>
    obtain⟨q,m,u,a1,a2,a3,a4⟩:=jw
    obtain⟨q',m',u',b1,b2,b3,b4⟩:=ck
    have:=hsi (.el (i-l.length) j::q) (.el (i'-l.length) j'::q') m m' u u' b (by simp only[get,g1];exact a1) a2 a3 a4 (by simp only[get,g2];exact b1) b2 b3 b4
    injection this with e1 e2
    injection e1 with e1 e3
    have:i=i':=by omega
    rw[this,e3])
  (fun b hb=>by
   rcases hblk b hb with h5|h5
   ·right;intro ho
    obtain⟨p,m,u,a1,a2,a3,a4⟩:=ho
    obtain⟨u',c1,_,c3⟩:=ht.2 p m a1 a2
    rw[a3]at c1;injection c1 with c1;subst c1
    have:=xj c3 a4;omega
   ·exact .inl h5)
  (fun b ho cC=>by
   obtain⟨p,m,u,a1,a2,a3,a4⟩:=ho
   obtain⟨u',c1,_,c3⟩:=ht.2 p m a1 a2
   rw[a3]at c1;injection c1 with c1;subst c1
   exact Ri b (xj c3 a4) cC)
 obtain⟨m1,m2,m3⟩:=main
 refine⟨m1,m2,fun b hb=>?_⟩
 rcases m3 b hb with h1|h1|⟨s,c,s1,s2,⟨i,j,rfl,gE⟩,s4⟩
 ·exact .inl h1
 ·rcases hblk b h1 with h5|h5
  ·exact .inr (.inr h5)
  ·exact .inl ⟨[],_,v,rfl,rfl,hv,h5⟩
 ·have e:(fun r=>u3 l.length v' h hs ([]++.el i j::r))=fun r=>hs (.el (i-l.length) j::r):=by funext r;simp only[List.nil_append,u3,if_neg gE]
  rw[e]at s4
  exact .inr (.inl ((sub i j c gE s1 s2).2.2 b s4))
end
end
section
open Go.RowKit
variable [cn]
theorem MU{d nq n:DV}{q:List PS}{s:PS}{c:DV}(hq:get d q=some nq)(hs:step nq s=some c):ed d (q++[s]) n=ed d q (put nq s n):=by
 induction q generalizing d with
 |nil=>simp[get]at hq;subst hq;simp[ed,hs]
 |cons s' q ih=>
  simp only[get]at hq
  simp only[List.cons_append,ed]
  cases h1:step d s' with
  |none=>simp[h1]at hq
  |some c1=>rw[h1]at hq;simp only[ih hq]
theorem bB.lt{M:Mem}{w:World}{h:List PS->Option Value}{d:DV}(ht:bB M w h d){b:Nat}(ho:bK h d b):b<w.heap.size:=by
 obtain⟨p,m,u,a1,a2,a3,a4⟩:=ho
 obtain⟨u',c1,_,c3⟩:=ht.2 p m a1 a2
 rw[a3]at c1;injection c1 with c1;subst c1
 exact xj c3 a4
theorem bB.forget{M:Mem}{w:World}{h:List PS->Option Value}{d c:DV}{p:List PS}(ht:bB M w h d)(hi:iX h d)(hp:get d p=some c)(hc:c.ar=true)(cC:p≠[]):
 bB M w h (ed d p .any)/\iX h (ed d p .any)/\∀b,bK h (ed d p .any) b->bK h d b/\¬bK (fun r=>h (p++r)) c b:=by
 have dL:∀(q:List PS) (x:DV),get d q=some x->q≠[]->x.aj=true:=fun q x hx _=>ht.cells q x hx
 have oO:∀b,bK h (ed d p .any) b->bK h d b->¬bK (fun r=>h (p++r)) c b:=by
  rintro b ⟨q,m,u,a1,a2,a3,a4⟩ _ ⟨r,m',u',b1,b2,b3,b4⟩
  by_cases tM:p <+: q
  ·obtain⟨r',rfl⟩:=eu tM
   rw[nz hp rfl dL]at a1
   cases r' with
   |nil=>simp[get]at a1;subst a1;cases a2
   |cons s r'=>simp[get,step]at a1
  ·rw[nA rfl dL tM]at a1
   cases hx:get d q with
   |none=>rw[hx]at a1;cases a1
   |some x=>
    rw[hx]at a1
    simp only[Option.some.injEq]at a1
    have SZ:x.ar=true:=by
     by_cases hq:q <+: p
     ·rw[if_pos hq]at a1
      obtain⟨r',rfl⟩:=eu hq
      cases r' with
      |nil=>exact absurd (by simp) tM
      |cons s r'=>simp only[List.drop_left]at a1;rw[<-a1,lQ]at a2;exact a2
     ·rw[if_neg hq]at a1;rw[a1];exact a2
    have:=hi q (p++r) x m' u u' b hx SZ a3 a4 (by rw[get_append,hp];exact b1) b2 b3 b4
    exact tM ⟨r,this.symm⟩
 rcases List.eq_nil_or_concat p with rfl|⟨q,s,rfl⟩
 ·exact absurd rfl cC
 ·rw[List.concat_eq_append]at hp oO⊢
  rw[get_append]at hp
  cases hq:get d q with
  |none=>rw[hq]at hp;cases hp
  |some nq=>
   rw[hq]at hp
   simp only[get]at hp
   cases hs:step nq s with
   |none=>rw[hs]at hp;cases hp
   |some c0=>
    rw[hs]at hp
    simp at hp
    subst hp
    have hnq:=fJ hs
    obtain⟨v,hv,wZ,bn⟩:=ht.2 q nq hq hnq
    rw[MU hq hs]at oO⊢
    have Fu:cG M w v (fun s=>h (q++[s])) (put nq s .any):=by
     refine bn.Kj hs rfl fun u hr=>.inr ⟨rfl,.any u ?_⟩
     rcases hr with⟨_,b⟩|⟨a,_⟩
     ·obtain⟨u',c1,c2,_⟩:=ht.2 (q++[s]) c0 (by rw[get_append,hq];simp[get,hs]) hc
      have b':h (q++[s])=some u:=b
      rw[c1]at b';injection b' with b';subst b';exact c2
     ·rw[hc]at a;cases a
    obtain⟨m1,m2,m3⟩:=bB.rQ (w:=w) (w':=w) (h':=h) (n':=put nq s .any) (fun _=>False) ht hi hq hnq hv (by rw[rh];exact hnq) hv wZ (.inr rfl) Fu (fun _ _=>rfl)
     (fun s' c' fH ho _=>by
      by_cases e:s=s'
      ·subst e;rw[mf hs rfl]at fH;injection fH with fH;subst fH;cases ho
      ·rw[oT rfl e]at fH;exact⟨fH,fun _=>rfl⟩)
     (fun _ _ _ _ hN=>hN.elim) (fun _ _ _ _ _ _ _ hN=>hN.elim) (fun b hb=>.inl hb) (fun _ _ _=>rfl)
    refine⟨m1,m2,fun b hb=>?_⟩
    have h1:bK h d b:=by
     rcases m3 b hb with h1|h1|⟨_,_,_,_,hN,_⟩
     ·exact h1
     ·exact⟨q,nq,v,hq,hnq,hv,h1⟩
     ·exact hN.elim
    exact⟨h1,oO b hb h1⟩
section
variable {g:dW} {n:Nat} {ρ:Nat->AV} {κ κ':Nat->au} {a:Act} {w w':World} {G:Gh}
theorem cx.split(h:cx g n ρ κ a w G){i nx ver ep:Nat}{d c:DV}{p:List PS}(hi:κ i=.tree ver ep d)(hx:κ nx=.none)(hp:get d p=some c)(hc:c.ar=true)(cC:p≠[])(h1:κ' i=.tree ver (ep+1) (ed d p .any))(h2:κ' nx=.tree 0 0 c)(h3:∀j,j≠i->j≠nx->κ' j=κ j):
 ∃G',Gh.Le G G'/\G'.M=G.M/\G'.β=G.β/\(∀r,aJ G'.H nx 0 0 r=aJ G.H i ver ep (p++r))/\cx g n ρ κ' a w G':=by
 have Pn:i≠nx:=fun e=>by rw[e,hx]at hi;cases hi
 have ns:=h.fit.box i
 have fk:=h.fit.box nx
 rw[hi]at ns
 rw[hx]at fk
 obtain⟨ht,gH,ML,dU⟩:=ns
 obtain⟨f1,f2,f3⟩:=ht.forget gH hp hc cC
 have AS:∀r,p++r≠[]:=fun r e=>cC (List.append_eq_nil_iff.1 e).1
 let fi:Nat->Nat->List PS->Option Value:=fun v e q=>if v=ver/\e=ep+1/\q≠[]then aJ G.H i ver ep q else G.H i v e q
 let fx:Nat->Nat->List PS->Option Value:=fun v e q=>if v=0/\e=0 then aJ G.H i ver ep (p++q)else none
 let G':Gh:={ G with H:=sy (sy G.H i fi) nx fx }
 have Xv:G'.H i=fi:=by show sy (sy G.H i fi) nx fx i=fi;rw[kT _ _ Pn,mF]
 have hHx:G'.H nx=fx:=mF _ _ _
 have hHo:∀j,j≠i->j≠nx->G'.H j=G.H j:=fun j e1 e2=>by show sy (sy G.H i fi) nx fx j=_;rw[kT _ _ e2,kT _ _ e1]
 have En:aJ G'.H i ver (ep+1)=aJ G.H i ver ep:=by
  funext q
  cases q with
  |nil=>simp only[aJ,Xv];show(if _ then _ else _)=_;rw[if_neg (by simp)]
  |cons s q=>simp only[aJ,Xv];show(if _ then _ else _)=_;rw[if_pos ⟨rfl,rfl,by simp⟩];rfl
 have hhx:aJ G'.H nx 0 0=fun r=>aJ G.H i ver ep (p++r):=by
  funext q
  cases q with
  |nil=>show G'.H nx 0 0 []=_;rw[hHx];show(if 0=0/\0=0 then aJ G.H i ver ep (p++[])else none)=_;rw[if_pos ⟨rfl,rfl⟩]
  |cons s q=>show G'.H nx 0 0 (s::q)=_;rw[hHx];show(if 0=0/\0=0 then aJ G.H i ver ep (p++s::q)else none)=_;rw[if_pos ⟨rfl,rfl⟩]
 have hle:Gh.Le G G':=⟨Mem.Le.refl _,fun _ _ q=>q,fun j v e q x hq=>by
  by_cases e1:j=i
  ·subst e1
   rw[Xv]
   show(if v=ver/\e=ep+1/\q≠[]then _ else _)=_
   split
   ·rename_i jH;obtain⟨rfl,rfl,_⟩:=jH;rw[dU (ep+1) (by omega)]at hq;cases hq
   ·exact hq
  ·by_cases e2:j=nx
   ·subst e2;rw[fk.2]at hq;cases hq
   ·rw[hHo j e1 e2];exact hq⟩
 have XH:∀b,cA G' i (κ' i) b->bK (aJ G.H i ver ep) d b/\¬bK (fun r=>aJ G.H i ver ep (p++r)) c b:=fun b hb=>by
  rw[h1]at hb;simp only[cA]at hb;rw[En]at hb;exact f3 b hb
 have XI:∀b,cA G' nx (κ' nx) b->bK (fun r=>aJ G.H i ver ep (p++r)) c b:=fun b hb=>by
  rw[h2]at hb;simp only[cA]at hb;rw[hhx]at hb;exact hb
 refine⟨G',hle,rfl,rfl,fun r=>congrFun hhx r,h.sw (C:=fun j=>j=i\/j=nx) ⟨hle,fun _ _=>rfl,fun j hj=>h3 j (fun e=>hj (.inl e)) (fun e=>hj (.inr e)),fun j hj=>⟨fun _ q=>q,fun v e q x hq=>?_⟩,fun _ _ _=>⟨rfl,rfl⟩,h.fit.sub,?_,?_,?_,acN _,rfl,rfl,rfl⟩ (fun _ _=>rfl)⟩
 ·rw[hHo j (fun e=>hj (.inl e)) (fun e=>hj (.inr e))]at hq;exact hq
 ·rintro j (rfl|rfl)
  ·rw[h1]
   refine⟨by rw[En];exact f1,by rw[En];exact f2,fun v hv e q=>?_,fun e he q=>?_⟩
   ·rw[Xv];show(if v=ver/\_ then _ else _)=_;rw[if_neg (by omega)];exact ML v hv e q
   ·rw[Xv];show(if ver=ver/\e=ep+1/\q≠[]then _ else _)=_;rw[if_neg (by omega)];exact dU e (by omega) q
  ·rw[h2]
   refine⟨by rw[hhx];exact ht.sub hp hc,by rw[hhx];exact gH.sub hp,fun v hv e q=>?_,fun e he q=>?_⟩
   ·rw[hHx];show(if v=0/\e=0 then _ else _)=_;rw[if_neg (by omega)]
   ·rw[hHx];show(if 0=0/\e=0 then _ else _)=_;rw[if_neg (by omega)]
 ·rintro j b (rfl|rfl) hb
  ·have eB:=(XH b hb).1
   have:cA G j (κ j) b:=by rw[hi];exact eB
   exact⟨.inr ⟨j,.inl rfl,this⟩,h.fit.own j b this⟩
  ·have eB:=(XI b hb).sub hp
   have:cA G i (κ i) b:=by rw[hi];exact eB
   exact⟨.inr ⟨i,.inl rfl,this⟩,h.fit.own i b this⟩
 ·rintro j j' b (rfl|rfl) (rfl|rfl) hb eB
  ·rfl
  ·exact absurd (XI b eB) (XH b hb).2
  ·exact absurd (XI b hb) (XH b eB).2
  ·rfl
end
end
section
open Go.RowKit
variable [cn]
section
variable {g:dW} {n:Nat} {ρ:Nat->AV} {κ κ':Nat->au} {a:Act} {w w':World} {G:Gh}
theorem cx.MV(h:cx g n ρ κ a w G){i b:Nat}{l l':List AV}{vs:Array Value}{t:TypeId}(hi:κ i=.cells l)(hb:G.β i=some b)(kY:κ' i=.cells l')(pc:∀j,j≠i->κ' j=κ j)
 (hw:w'.heap[b]?=some (.cells vs t (0,0))) (hl:cd G l' vs.toList) (hc:∀v,v∈l'->v.aj=true) (bz:w.heap.size<=w'.heap.size) (fL:∀k,k<w.heap.size->k≠b->w'.heap[k]?=w.heap[k]?)
 (S0:w'.os=w.os) (S1:w'.tape=w.tape) (gF:w'.output=w.output):cx g n ρ κ' a w' G:=by
 have gS:cA G i (κ i) b:=by rwa[hi]
 refine h.sw ⟨Gh.Le.refl G,fun _ _=>rfl,pc,fun j _=>⟨fun _ q=>q,fun _ _ _ _ q=>q⟩,fun k hk dR=>⟨fL k hk fun e=>dR i rfl (by grind),rfl⟩,fun k o hk=>?_,?_,?_,fun j j' k e1 e2 _ _=>by grind,bz,S0,S1,gF⟩ (fun _ _=>rfl)
 ·have h1:=h.fit.sub k o hk
  rw[fL k (acx.1 h1).1 fun e=>?_]
  ·grind
  ·rw[e]at hk;rw[h.fit.own i b gS]at hk;grind
 ·rintro j rfl
  rw[kY]
  exact⟨b,vs,t,hb,hw,by have:=hl.1;grind,hc,fun j d v hd hv=>hl.2 j d v hd (by grind)⟩
 ·rintro j k rfl ho
  rw[kY]at ho
  have:cA G j (κ j) k:=by rwa[hi]
  exact⟨.inr ⟨j,rfl,this⟩,h.fit.own j k this⟩
theorem cx.qD(h:cx g n ρ κ a w G){i:Nat}{d:DV}(D:Nat->Prop)(h':List PS->Option Value)(hDi:¬D i)(hi:κ i=.none)(iG:∀j,D j->κ' j=.dead)(kY:κ' i=.tree 0 0 d)(pc:∀j,j≠i->¬D j->κ' j=κ j)
 (ht:bB G.M w' h' d) (gH:iX h' d) (gS:∀b,bK h' d b->w.heap.size<=b\/∃j,D j/\cA G j (κ j) b) (fL:∀b,b<w.heap.size->(∀j,D j->¬cA G j (κ j) b)->w'.heap[b]?=w.heap[b]?)
 (bz:w.heap.size<=w'.heap.size) (S0:w'.os=w.os) (S1:w'.tape=w.tape) (gF:w'.output=w.output):
 ∃G',Gh.Le G G'/\G'.M=G.M/\(∀p,aJ G'.H i 0 0 p=h' p)/\cx g n ρ κ' a w' G':=by
 have hb:=h.fit.box i
 rw[hi]at hb
 obtain⟨G',h1,h2,_,h4,_,_,h7⟩:=h.l8 D h' hDi (.inl hi) iG kY pc (fun p x hx=>by cases p<;>simp[aJ,hb.2]at hx) ht gH
  (fun b eB=>(gS b eB).imp id fun h=>.inr h) (fun b eB _ hD=>fL b eB hD) (fun b eB=>by
   rcases eB with h1|⟨j,_,h1⟩
   ·rw[hi]at h1;exact h1.elim
   ·exact h.fit.own j b h1) bz S0 S1 gF
 grind
end
section
variable {P:Program} {C:dW->Prop} {T:List TI} {ops:List Oper} {n:Nat} {o:Oper} {nx:Nat} {ρ:Nat->AV} {κ:Nat->au} {k:lN->Nat->Prop} {gd:Bool}
theorem mc{w:World}(e:TypeId)(c:Array Value):(newRow e c).run P w=.ok ⟨w.heap.size,0,none⟩ (w.alloc (.cells c e)):=by
 rfl
theorem zB(G:Gh){t:Nat}{ti:TI}{i:TypeInfo}{u:TypeDesc}{z:Value}(tf:gA P t ti i u z):cd G (eV ti.zero) z.cells.toList/\∀v,v∈eV ti.zero->v.aj=true:=by
 obtain⟨h3,h4⟩:=ec tf.zc
 refine⟨jg h3,fun v hv=>?_⟩
 rw[rV]at hv
 obtain⟨d,hd,rfl⟩:=acL.1 hv
 exact(h4 d hd).1
theorem Ny(hT:fh P T){t:Nat}(hg:b8 ρ ops o.guard=some gd)(ho:o.op=.alloc t)(cw:(nth T t).ok=true)(p5:κ nx=.none)
 (hk:dM n o (nx+1) k (.ptr nx 0) [(nx,.cells (eV (nth T t).zero))] [nx]):Good P C ops n o nx ρ κ k:=by
 obtain⟨i,u,z,tf⟩:=hT.facts cw
 refine c7 (fun c=>by grind) hg hk (by omega) (by simp) fun ρ' κ' ax g a w G dF ak aV=>?_
 obtain⟨hz,hc⟩:=zB G tf
 obtain⟨G',h1,h2,h3⟩:=ak.xk ((ax.reads nx (by simp)).trans p5) dF t hz hc
 refine⟨.pointer _,w.alloc _,G',.inl ?_,h2,.ptr nx 0 _ h3⟩
 simp[execOp,ho,Instr.alloc,tf.tB w,newVar,mc]
theorem Vs{t:Nat}{x:Operand}{av:AV}(hg:b8 ρ ops o.guard=some gd)(ho:o.op=.box t x)(p5:κ nx=.none)(hc:b9 (cellsOf av)=true)
 (hk:dM n o (nx+1) k (.ptr nx 0) [(nx,.cells (cellsOf av))] [nx]) (bR:bJ ρ κ gd x av):Good P C ops n o nx ρ κ k:=by
 refine c7 (fun c=>by grind) hg hk (by omega) (by simp) fun ρ' κ' ax g a w G dF ak aV=>?_
 obtain⟨G',h1,h2,h3⟩:=ak.xk ((ax.reads nx (by simp)).trans p5) dF t (ng (bR ρ' κ' (ax.op (by grind [Op.operands])) g n a w G ak aV) hc) (fO hc)
 refine⟨.pointer _,w.alloc _,G',.inl ?_,h2,.ptr nx 0 _ h3⟩
 simp[execOp,ho,Instr.box,newVar,mc]
theorem B2(hT:fh P T){t i off:Nat}{x y:Operand}{av:AV}{l:List AV}(hg:b8 ρ ops o.guard=some gd)(ho:o.op=.store t x y)(cw:(nth T t).ok=true)(hb:κ i=.cells l)
 (bz:(cellsOf av).length=(nth T t).size) (hc:b9 (cellsOf av)=true) (hle:off+(nth T t).size<=l.length)
 (hk:dM n o nx k .any [(i,.cells (iE l off (cellsOf av)))] [i]) (dh:i<nx) (bR:bJ ρ κ gd x (.ptr i off)) (Jx:bJ ρ κ gd y av):Good P C ops n o nx ρ κ k:=by
 obtain⟨ti,u,z,tf⟩:=hT.facts cw
 refine c7 (fun c=>by grind) hg hk (acN _) (by grind) fun ρ' κ' ax g a w G dF ak aV=>?_
 have gr:=(ax.reads i (by simp)).trans hb
 have hv:=bR ρ' κ' (ax.op (by grind [Op.operands])) g n a w G ak aV
 have jF:=ng (Jx ρ' κ' (ax.op (by grind [Op.operands])) g n a w G ak aV) hc
 have ua:=ak.fit.box i
 rw[gr]at ua
 obtain⟨b,c,tt,hbe,hw,FP,om,hr⟩:=ua
 generalize hx:a.eval x=v at hv
 cases hv with
 |ptr _ _ b' Cm=>
 rw[hbe]at Cm;injection Cm with Cm;subst Cm
 have hlen:(a.eval y).cells.toList.length=(nth T t).size:=by rw[<-jF.1,bz]
 have ji:=run_storeCells_at P b off tt (a.eval y).cells.toList 0 c w hw (by grind) (jF.cV hc)
 simp[Nat.add_zero]at ji
 have hold:cd G l c.toList:=⟨by grind,fun j d v hd hv=>hr j d v hd (by grind)⟩
 refine⟨undef,w.setRow b (c.toList.take off++(a.eval y).cells.toList++c.toList.drop (off+(a.eval y).cells.toList.length)).toArray,G,.inr ⟨?_,rfl⟩,
  ak.MV (l':=iE l off (cellsOf av)) gr hbe (by simp[aB]) (fun j hj=>by simp[aB,ah _ _ hj]) (setRow_heap w b c _ tt _ hw) ?_ ?_ (by simp) (fun k _ cC=>setRow_other w b k _ cC) rfl rfl rfl,.any _⟩
 ·simp[execOp,ho,hx,Instr.storeAt,Instr.sureAddr,Sem.run_bind,Sem.run_pure,Result.andThen_ok,storeVar,tf.fW w,if_false]
  simp_all
 ·simpa using hold.iE jF off (by grind)
 grind [iE,List.mem_of_mem_take,fO,List.mem_of_mem_drop]
theorem mG{i:Nat}:∀{l:List Nat},iF i l=true->i∈l
 |[],h=>by simp[iF]at h
 |j::r,h=>by
  simp[iF,Bool.or_eq_true]at h
  rcases h with h|h
  ·simp_all
  ·exact acq _ (mG h)
theorem fg{i:Nat}:∀{l:List Nat},iF i l=false->i∉l
 |[],_=>by simp
 |j::r,h=>by
  simp[iF,Bool.or_eq_false_iff]at h
  intro hm
  rcases acp.1 hm with rfl|hm
  ·simp_all
  ·exact(fg h.2) hm
theorem c5{γ:Nat->au}:∀{ids:List Nat} (j:Nat),aB γ (fa ids) j=if j∈ids then .dead else γ j
 |[],j=>by rfl
 |i::r,j=>by
  simp[fa,aB]
  by_cases e:j=i
  ·subst e;simp
  ·rw[ah _ _ e,c5 j];grind
theorem kD{v:AV}{q:(sz:Nat)->List DV->List Nat->List Nat->Prop}{nl:Prop}(h:pw κ v q nl):
 (v=.dv .ay/\nl)\/∃(sz:Nat) (ys:List DV) (rd kill:List Nat),q sz ys rd kill/\(∀j,j∈rd->∃v e d,κ j=.tree v e d)/\(∀j,j∈kill->j∈rd)/\
  ∀κ' G w x,(∀i,i∈rd->κ' i=κ i)->Fit G w κ'->aG G v x->∃hs,Src G.M w x sz ys hs/\∀b,bK hs (.aC sz ys) b->∃j,j∈kill/\cA G j (κ' j) b:=by
 unfold pw at h
 split at h
 ·rename_i sz l
  refine .inr ⟨sz,l,[],[],h,by simp,by simp,fun κ' G w x _ hf hv=>⟨fun _=>none,?_,?_⟩⟩
  ·cases hv with|dv hv=>
   refine .closed ((pZ.aaH hf.sub hv).mono rfl fun i x y hx hy=>?_) rfl
   rw[hx]at hy;injection hy with hy;subst hy
   refine⟨rfl,fun j d e u hd he Df hS=>?_⟩
   rw[hd]at he;injection he with he;subst he
   exact⟨Df,hS.fe,hS⟩
  ·rintro b ⟨_,_,_,_,_,q,_⟩;grind
 ·grind
 ·rename_i i ver ep p
  split at h
  ·rename_i bo cb d gr
   cases hb:Nat.beq ver bo&&(emp p||Nat.beq ep cb)with
   |false=>grind
   |true=>
    rw[hb]at h
    simp only[cond_true]at h
    obtain⟨rfl,eW⟩:=dB hb
    obtain⟨nd,h,dS⟩:=bX h
    have dS:=dS rfl
    cases nd with
    |aC sz l=>
     have aaJ:∀{G:Gh} {κ':Nat->au} {w:World} {x:Value},κ' i=κ i->Fit G w κ'->aG G (.own i ver ep p) x->aJ G.H i ver cb p=some x:=by
      intro G κ' w x he hf hv
      cases hv with|own _ _ _ _ _ hh hc=>grind [cW]
     rcases h with⟨om,h⟩|⟨rfl,hq⟩
     ·refine .inr ⟨sz,l,[i],[],h,by grind,by simp,fun κ' G w x ax hf hv=>⟨fun _=>none,?_,?_⟩⟩
      ·have he:=ax i (by simp)
       obtain⟨u,h1,h2,h3⟩:=hf.node (he.trans gr) dS rfl
       rw[(aaJ he hf hv)]at h1;injection h1 with h1;subst h1
       refine .closed ?_ rfl
       have h4:uY w x sz l fun i j d u=>d.ar=false/\bq G.M d u:=by
        rcases fU.1 h3 with h3|⟨g,o,cap,c,t,a1,a2,a3,a4,a5⟩
        ·exact .inl h3
        ·refine .inr ⟨g,o,cap,c,t,a1,a2,a3,a4,fun i y hy=>⟨(a5 i y hy).1,fun j d hd=>?_⟩⟩
         obtain⟨b1,u,b2,b3⟩:=(a5 i y hy).2 j d hd
         have Df:=om y (ack hy) d (ack hd)
         refine⟨b1,u,b2,Df,?_⟩
         rcases b3 with⟨c1,_⟩|⟨_,c2⟩
         ·grind
         grind
       exact pZ.Ra h4 fun i j d u hr hc=>hr.2.cV hc
      ·rintro b ⟨_,_,_,_,_,q,_⟩;grind
     ·refine .inr ⟨sz,l,[i],[i],hq,by grind,by simp,fun κ' G w x ax hf hv=>?_⟩
      have he:=ax i (by simp)
      have fk:=hf.box i
      rw[he,gr]at fk
      simp[get]at dS
      subst dS
      refine⟨aJ G.H i ver cb,.tree fk.1 fk.2.1 (aaJ he hf hv),fun b hb=>⟨i,by simp,?_⟩⟩
      rwa[he,gr]
    |_=>grind
  grind
 ·rename_i i ver ep p sz lo m
  split at h
  ·rename_i bo cb d gr
   cases hb:Nat.beq ver bo&&(emp p||Nat.beq ep cb)with
   |false=>grind
   |true=>
    rw[hb]at h
    simp only[cond_true]at h
    obtain⟨rfl,eW⟩:=dB hb
    obtain⟨nd,h,dS⟩:=bX h
    cases nd with
    |aC oX l=>
     simp only at h
     cases hz:Nat.beq sz oX with
     |false=>grind
     |true=>
     rw[hz]at h
     have:=acm hz
     subst this
     obtain⟨hlen,om,h⟩:=h
     refine .inr ⟨sz,(l.drop lo).take m,[i],[],h,by grind,by simp,fun κ' G w x ax hf hv=>⟨fun _=>none,?_,?_⟩⟩
     ·have he:=ax i (by simp)
      obtain⟨u,h1,h2,h3⟩:=hf.node (he.trans gr) (dS rfl) rfl
      have Ao:((l.drop lo).take m).length=m:=by grind
      refine .closed ?_ rfl
      cases hv with|pre _ _ _ _ _ _ _ q cp hh=>
      by_cases hm:m=0
      ·subst hm
       cases q with
       |none=>exact .inl ⟨cp,rfl,by simp⟩
       |some A=>exact .inr ⟨A,cp,fun _ _=>undef,by simp,nofun⟩
      ·obtain⟨A,N,c',CM,rfl⟩:=hh hm
       rw[cW eW,h1]at CM
       injection CM with CM
       rcases fU.1 h3 with⟨rfl,_⟩|⟨g,o,cap,c,t,rfl,a2,a3,a4,a5⟩
       ·grind
       injection CM with hA _ _
       injection hA with hA
       subst hA
       refine .inr ⟨_,cp,fun a b=>c.getD (o+(lo+a)*sz+b) undef,by rw[Ao],fun a y hy=>?_⟩
       have hy':=by
        rw[List.getElem?_take]at hy
        split at hy
        ·rwa[List.getElem?_drop]at hy
        grind
       obtain⟨b1,b2⟩:=a5 _ y hy'
       refine⟨b1,fun j d hd=>?_⟩
       obtain⟨d1,u,d2,d3⟩:=b2 j d hd
       have e:c.getD (o+(lo+a)*sz+j) undef=u:=by rw[acu,d2];rfl
       have Df:=om y (ack hy') d (ack hd)
       have hr:bq G.M d u:=by
        rcases d3 with⟨c1,_⟩|⟨_,c2⟩
        ·grind
        ·exact c2
       refine⟨d1,?_,?_,Df,?_⟩
       ·rw[cJ,eN]
        simp only[World.cell?,a3]
        rw[show o+(lo*sz+(a*sz+j))=o+(lo+a)*sz+j by rw[Nat.add_mul];omega,e]
        simpa using d2
       ·show(c.getD (o+(lo+a)*sz+j) undef).oneCell'=true
        rw[e];exact hr.cV d1
       grind
     ·rintro b ⟨_,_,_,_,_,q,_⟩;cases q
    |_=>exact h.elim
  grind
 grind
theorem dE{c:Call}{s x:Operand}{t:Nat}{a:Act}{w w':World}{v':Value}(ho:o.op=.call c)(hc:c.callee=.builtin .append)(ha:c.args.toList=[s,x])(lK:c.argTypes.toList=[t,t])
 (h:(Builtin.append_ #[t,t] o.type #[a.eval s,a.eval x]).run P w=.ok v' w'):(execOp a.eval o).run P w=.ok (.value v') w':=by
 have cI:c.args=#[s,x]:=Array.ext' (by grind)
 have MT:c.argTypes=#[t,t]:=Array.ext' (by grind)
 simp_all [execOp,resolve,invoke,builtin]
theorem cx.append(hT:fh P T){t ty:TypeId}(cw:(nth T t).ok=true)(gB:(nth T t).isSl=true)(vK:(nth T (nth T t).elem).ok=true)(dc:0<(nth T (nth T t).elem).size)
 {g:dW} {κ' κ2:Nat->au} {a:Act} {w:World} {G:Gh} (ak:cx g n ρ κ' a w G) {i bo:Nat} {l ys zs:List DV} {kill:List Nat} {h hs:List PS->Option Value} {v x:Value}
 (ht:bB G.M w h (.aC (nth T (nth T t).elem).size l)) (hi:iX h (.aC (nth T (nth T t).elem).size l)) (hv:h []=some v)
 (hk:(κ' i=.none/\bo=0/\∀b,¬bK h (.aC (nth T (nth T t).elem).size l) b)\/∃ver ep,κ' i=.tree ver ep (.aC (nth T (nth T t).elem).size l)/\bo=ver+1/\h=aJ G.H i ver ep)
 (lu:Src G.M w x (nth T (nth T t).elem).size ys hs) (Rk:∀b,bK hs (.aC (nth T (nth T t).elem).size ys) b->∃j,j∈kill/\cA G j (κ' j) b) (H8:i∉kill) (hle:ca ys zs)
 (D8:l.length+zs.length<=9223372036854775807) (zR:(l.length+zs.length)*(nth T (nth T t).elem).bytes<=140737488355328)
 (h1:κ2 i=.tree bo 0 (.aC (nth T (nth T t).elem).size (l++zs))) (h2:∀j,j∈kill->κ2 j=.dead) (h3:∀j,j≠i->j∉kill->κ2 j=κ' j):
 ∃v' w' G',(Builtin.append_ #[t,t] ty #[v,x]).run P w=.ok v' w'/\cx g n ρ κ2 a w' G'/\aG G' (.own i bo 0 []) v':=by
 have Rl:∀b,bK h (.aC (nth T (nth T t).elem).size l) b->cA G i (κ' i) b:=fun b hb=>by
  rcases hk with⟨_,_,h0⟩|⟨ver,ep,gr,_,rfl⟩
  ·grind
  ·rwa[gr]
 obtain⟨v',w',bE,iV,wZ,t1,t2,t3⟩:=GJ hT cw gB vK dc ht hi hv lu
  (fun b hb eB=>by obtain⟨j,hj,ho⟩:=Rk b eB;exact H8 (ak.fit.inj i j b (Rl b hb) ho▸hj))
  (fun b hb=>by obtain⟨j,_,ho⟩:=Rk b hb;exact ho.lt ak.fit) hle D8 zR
 obtain⟨G',g1,g2,_,g4,_,_,g7⟩:=ak.l8 (fun j=>j∈kill) _ H8
  (by
   grind)
  h2 h1 h3
  (fun p y hy=>by
   have hb:=ak.fit.box i
   rcases hk with⟨gr,rfl,_⟩|⟨ver,ep,gr,rfl,_⟩
   ·rw[gr]at hb;cases p<;>simp[aJ,hb.2]at hy
   ·rw[gr]at hb;cases p<;>simp[aJ,hb.2.2.1 (ver+1) (by omega)]at hy)
  t1 t2
  (fun b hb=>by
   grind)
  (fun b hb dR _=>iV.block b hb fun e=>dR (Rl b ((fun b hb=>⟨[],_,v,rfl,rfl,hv,hb⟩) b e.symm)))
  (fun b hb=>by
   rcases hb with h5|⟨j,_,h5⟩
   ·exact ak.fit.own i b h5
   ·exact ak.fit.own j b h5)
  iV.size iV.os iV.tape iV.output
 exact⟨v',w',G',bE,g7,.own _ _ _ _ _ ((g4 []).trans rfl) wZ⟩
theorem Ld(hT:fh P T){t:Nat}{s x:Operand}{c:Call}{sv xv:AV}(hg:b8 ρ ops o.guard=some gd)(ho:o.op=.call c)(hc:c.callee=.builtin .append)(ha:c.args.toList=[s,x])(lK:c.argTypes.toList=[t,t])
 (hn:∀i,nx<=i->κ i=.none) (h:nW T n o nx κ k t sv xv) (xM:bJ ρ κ gd s sv) (hex:bJ ρ κ gd x xv):Good P C ops n o nx ρ κ k:=by
 have dS:∀c',o.op≠.defer c':=fun c'=>by rw[ho];simp
 have cI:c.args=#[s,x]:=Array.ext' (by simpa using ha)
 have ms:s∈o.op.operands:=by rw[ho];simp[Op.operands,Call.operands,hc,cI]
 have mx:x∈o.op.operands:=by rw[ho];simp[Op.operands,Call.operands,hc,cI]
 unfold nW at h
 simp only at h
 cases mj:(nth T t).ok&&(nth T t).isSl&&(nth T (nth T t).elem).ok&&Nat.blt 0 (nth T (nth T t).elem).size with
 |false=>rw[mj]at h;exact h.elim
 |true=>
 rw[mj]at h
 simp only[cond_true]at h
 simp only[acU,Nat.blt_eq]at mj
 obtain⟨⟨⟨cw,gB⟩,vK⟩,dc⟩:=mj
 have GL:∀j,(∃v e d,κ j=.tree v e d)->j<nx:=fun j ⟨v,e,d,hj⟩=>by
  rcases acD j nx with h|h
  ·exact h
  ·rw[hn j h]at hj;cases hj
 have Jl:∀{kill:List Nat} {fj:Nat},(∀j,j∈kill->∃v e d,κ j=.tree v e d)->nx<=fj->∀p,p∈fa kill->p.1<fj:=by
  intro kill fj hk hle p hp
  have:p.1∈kill:=by
   clear hk
   induction kill with
   |nil=>simp[fa]at hp
   |cons i r ih=>simp only[fa]at hp;rcases acp.1 hp with rfl|hp;exact acv;exact acq _ (ih hp)
  have:=GL _ (hk _ this);omega
 have nothing:∀{v:Value} {w:World},((∃l ob gb cap,v=.slice (some ⟨gb,ob,none⟩) l cap/\l<=cap)\/v=.slice none 0 0)->(Builtin.append_ #[t,t] o.type #[v,.slice none 0 0]).run P w=.ok v w:=by
  intro v w hv
  obtain⟨i,u,z,tf⟩:=hT.facts cw
  obtain⟨te,ue,ze,iY⟩:=hT.facts vK
  rcases hv with⟨l,ob,gb,cap,rfl,dY⟩|rfl
  ·simp[Builtin.append_,run_underlying (tf.slice gB),sizeOf,typeInfo,iY.info,Builtin.lenOf,Builtin.firstCells,dY,storeCells]
  ·simp[Builtin.append_,run_underlying (tf.slice gB),sizeOf,typeInfo,iY.info,Builtin.lenOf,Builtin.firstCells]
 split at h
 ·-- a nil slice
  rcases kD h with⟨rfl,hk⟩|⟨sz,ys,rd,kill,hk,T4,T5,lu⟩
  ·refine c7 dS hg hk (acN _) (by simp) fun ρ' κ' ax g a w G dF ak aV=>?_
   have hv:=xM ρ' κ' (ax.op ms) g n a w G ak aV
   have dU:=hex ρ' κ' (ax.op mx) g n a w G ak aV
   generalize hx:a.eval s=v at hv
   generalize hi:a.eval x=vi at dU
   cases hv with|dv hv=>cases hv with|ay=>cases dU with|dv dU=>cases dU with|ay=>
   refine⟨_,w,G,.inl (dE ho hc ha lK (by rw[hx,hi];exact nothing (.inr rfl))),ak,.dv .ay⟩
  ·cases bz:Nat.beq sz (nth T (nth T t).elem).size with
   |false=>rw[bz]at hk;exact hk.elim
   |true=>
   rw[bz]at hk
   have:=acm bz
   subst this
   obtain⟨zs,hle,zR,D8,hk⟩:=hk
   refine c7 dS hg hk (by omega) (fun p hp=>?_) fun ρ' κ' ax g a w G dF ak aV=>?_
   ·rcases acp.1 hp with rfl|hp
    ·simp
    ·exact Jl (fun j hj=>T4 j (T5 j hj)) (by omega) p hp
   ·have eZ:=(ax.reads nx (by simp)).trans (hn nx (acN _))
    have hv:=xM ρ' κ' (ax.op ms) g n a w G ak aV
    have dU:=hex ρ' κ' (ax.op mx) g n a w G ak aV
    obtain⟨hs,MN,hsk⟩:=lu κ' G w _ (fun i hi=>ax.reads i (by simp[hi])) ak.fit dU
    have RA:nx∉kill:=fun hm=>by have:=GL nx (T4 nx (T5 nx hm));omega
    generalize hx:a.eval s=v at hv
    cases hv with|dv hv=>cases hv with|ay=>
    obtain⟨v',w',G',r1,r2,r3⟩:=ak.append (κ2:=aB κ' ((nx,.tree 0 0 (.aC (nth T (nth T t).elem).size zs))::fa kill)) hT cw gB vK dc (zy _ _ _) (DL _) rfl (.inl ⟨eZ,rfl,fun b hb=>kC hb⟩) MN hsk RA hle (by simpa using D8) (by simpa using zR)
     (by simp[aB]) (fun j hj=>by simp only[aB];rw[ah _ _ (by rintro rfl;exact RA hj),c5,if_pos hj]) (fun j h1 h2=>by simp only[aB];rw[ah _ _ h1,c5,if_neg h2])
    exact⟨v',w',G',.inl (dE ho hc ha lK (by rw[hx];exact r1)),r2,r3⟩
 ·-- a slice acd ace its array
  rename_i i ver ep p
  split at h
  ·rename_i bo cb d gr
   cases hb:Nat.beq ver bo&&(emp p||Nat.beq ep cb)with
   |false=>rw[hb]at h;exact h.elim
   |true=>
   rw[hb]at h
   simp only[cond_true]at h
   obtain⟨rfl,eW⟩:=dB hb
   obtain⟨nd,h,GM⟩:=bX h
   have ye:=GM rfl
   have MW:=GL i ⟨_,_,_,gr⟩
   cases nd with
   |aC sz l=>
    simp only at h
    cases bz:Nat.beq sz (nth T (nth T t).elem).size with
    |false=>rw[bz]at h;exact h.elim
    |true=>
    rw[bz]at h
    simp only[cond_true]at h
    have:=acm bz
    subst this
    have T6:∀{g:dW} {a:Act} {G:Gh} {κ':Nat->au} {w:World},aG G (.own i ver ep p) (a.eval s)->aJ G.H i ver cb p=some (a.eval s):=by
     intro g a G κ' w hv
     generalize a.eval s=v at hv⊢
     cases hv with|own _ _ _ _ _ hh jH=>rw[<-cW eW];exact hh
    rcases kD h with⟨rfl,hk⟩|⟨oX,ys,rd,kill,hk,T4,T5,lu⟩
    ·-- nothing comes in
     have node:∀{G:Gh} {w:World} {κ':Nat->au},κ' i=κ i->Fit G w κ'->∀{v:Value},aJ G.H i ver cb p=some v->((∃l ob gb cap,v=.slice (some ⟨gb,ob,none⟩) l cap/\l<=cap)\/v=.slice none 0 0):=by
      intro G w κ' he hf v hv
      obtain⟨u,h1,_,h3⟩:=hf.node (he.trans gr) ye rfl
      rw[hv]at h1;injection h1 with h1;subst h1
      rcases h3 with⟨_,rfl⟩|⟨gb,ob,cap,c,t,rfl,dY,_⟩
      ·exact .inr rfl
      ·exact .inl ⟨_,_,_,_,rfl,dY⟩
     cases p with
     |nil=>
      simp[get]at ye
      subst ye
      refine c7 dS hg hk (acN _) (by simpa using MW) fun ρ' κ' ax g a w G dF ak aV=>?_
      have he:=ax.reads i (by simp)
      have hv:=xM ρ' κ' (ax.op ms) g n a w G ak aV
      have dU:=hex ρ' κ' (ax.op mx) g n a w G ak aV
      have hx:=T6 (g:=g) (κ':=κ') (w:=w) hv
      generalize hi:a.eval x=vi at dU
      cases dU with|dv dU=>cases dU with|ay=>
      have fk:=ak.fit.box i
      rw[he,gr]at fk
      obtain⟨G',g1,g2,_,g4,_,_,g7⟩:=ak.l8 (κ':=aB κ' [(i,.tree (ver+1) 0 (.aC (nth T (nth T t).elem).size l))]) (ver:=ver+1) (ep:=0) (fun _=>False) (aJ G.H i ver cb) (fun h=>h.elim) (.inr ⟨ver,cb,_,he.trans gr,by omega,by omega⟩) (fun _ h=>h.elim) (by simp[aB]) (fun j hj _=>by simp[aB,ah _ _ hj])
       (fun q y hy=>by cases q<;>simp[aJ,fk.2.2.1 (ver+1) (by omega)]at hy) fk.1 fk.2.1 (fun b hb=>.inr (.inl (by rw[he,gr];exact hb))) (fun _ _ _ _=>rfl) (fun b hb=>by
        rcases hb with h5|⟨_,h5,_⟩
        ·exact ak.fit.own i b h5
        ·exact h5.elim) (acN _) rfl rfl rfl
      have wZ:(a.eval s).oneCell'=true:=by rcases node he ak.fit hx with⟨_,_,_,_,e,_⟩|e<;>rw[e]<;>rfl
      exact⟨a.eval s,w,G',.inl (dE ho hc ha lK (by rw[hi];exact nothing (node he ak.fit hx))),g7,.own _ _ _ _ _ ((g4 []).trans hx) wZ⟩
     |cons ps pr=>
      obtain⟨hk,_⟩:=fX hk
      refine c7 dS hg hk (by omega) (fun q hq=>by
       rcases acp.1 hq with rfl|hq
       ·simp
       ·simp at hq;subst hq;simp;omega) fun ρ' κ' ax g a w G dF ak aV=>?_
      have he:=ax.reads i (by simp)
      have eZ:=(ax.reads nx (by simp)).trans (hn nx (acN _))
      have hv:=xM ρ' κ' (ax.op ms) g n a w G ak aV
      have dU:=hex ρ' κ' (ax.op mx) g n a w G ak aV
      have hx:=T6 (g:=g) (κ':=κ') (w:=w) hv
      generalize hi:a.eval x=vi at dU
      cases dU with|dv dU=>cases dU with|ay=>
      obtain⟨G',g1,g2,_,g4,g7⟩:=ak.split (κ':=aB κ' [(nx,.tree 0 0 (.aC (nth T (nth T t).elem).size l)),(i,.tree ver (cb+1) (ed d (ps::pr) .any))]) (nx:=nx) (he.trans gr) eZ ye rfl (by simp) (by simp only[aB];rw[ah _ _ (by omega)];simp) (by simp[aB]) (fun j h1 h2=>by simp only[aB];rw[ah _ _ h2,ah _ _ h1])
      have wZ:(a.eval s).oneCell'=true:=by rcases node he ak.fit hx with⟨_,_,_,_,e,_⟩|e<;>rw[e]<;>rfl
      refine⟨a.eval s,w,G',.inl (dE ho hc ha lK (by rw[hi];exact nothing (node he ak.fit hx))),g7,.own _ _ _ _ _ ((g4 []).trans ?_) wZ⟩
      rw[List.append_nil];exact hx
    ·cases ck:Nat.beq oX (nth T (nth T t).elem).size&& !iF i rd with
     |false=>rw[ck]at hk;exact hk.elim
     |true=>
     rw[ck]at hk
     simp only[cond_true]at hk
     simp only[acU,acW]at ck
     have:=acm ck.1
     subst this
     have aaK:=fg ck.2
     have H8:=fun hm=>aaK (T5 i hm)
     obtain⟨zs,hle,zR,D8,hk⟩:=hk
     cases p with
     |nil=>
      simp[get]at ye
      subst ye
      refine c7 dS hg hk (acN _) (fun q hq=>by
       rcases acp.1 hq with rfl|hq
       ·exact MW
       ·exact Jl (fun j hj=>T4 j (T5 j hj)) (acN _) q hq) fun ρ' κ' ax g a w G dF ak aV=>?_
      have he:=ax.reads i (by simp)
      have hv:=xM ρ' κ' (ax.op ms) g n a w G ak aV
      have dU:=hex ρ' κ' (ax.op mx) g n a w G ak aV
      have hx:=T6 (g:=g) (κ':=κ') (w:=w) hv
      obtain⟨hs,MN,hsk⟩:=lu κ' G w _ (fun i hi=>ax.reads i (by simp[hi])) ak.fit dU
      have fk:=ak.fit.box i
      rw[he,gr]at fk
      obtain⟨v',w',G',r1,r2,r3⟩:=ak.append (κ2:=aB κ' ((i,.tree (ver+1) 0 (.aC (nth T (nth T t).elem).size (l++zs)))::fa kill)) (ty:=o.type) (i:=i) (bo:=ver+1) hT cw gB vK dc fk.1 fk.2.1 hx (.inr ⟨ver,cb,he.trans gr,rfl,rfl⟩) MN hsk H8 hle D8 zR
       (by simp[aB]) (fun j hj=>by simp only[aB];rw[ah _ _ (by rintro rfl;exact H8 hj),c5,if_pos hj]) (fun j h1 h2=>by simp only[aB];rw[ah _ _ h1,c5,if_neg h2])
      exact⟨v',w',G',.inl (dE ho hc ha lK r1),r2,r3⟩
     |cons ps pr=>
      obtain⟨hk,_⟩:=fX hk
      refine c7 dS hg hk (by omega) (fun q hq=>by
       rcases acp.1 hq with rfl|hq
       ·simp
       ·rcases acp.1 hq with rfl|hq
        ·show i<nx+1;omega
        ·exact Jl (fun j hj=>T4 j (T5 j hj)) (by omega) q hq) fun ρ' κ' ax g a w G dF ak aV=>?_
      have he:=ax.reads i (by simp)
      have eZ:=(ax.reads nx (by simp)).trans (hn nx (acN _))
      have hv:=xM ρ' κ' (ax.op ms) g n a w G ak aV
      have dU:=hex ρ' κ' (ax.op mx) g n a w G ak aV
      have hx:=T6 (g:=g) (κ':=κ') (w:=w) hv
      have RA:nx∉kill:=fun hm=>by have:=GL nx (T4 nx (T5 nx hm));omega
      have abH:nx∉rd:=fun hm=>by have:=GL nx (T4 nx hm);omega
      obtain⟨G1,g1,g2,_,g4,g7⟩:=ak.split (κ':=aB κ' [(nx,.tree 0 0 (.aC (nth T (nth T t).elem).size l)),(i,.tree ver (cb+1) (ed d (ps::pr) .any))]) (i:=i) (nx:=nx) (he.trans gr) eZ ye rfl (by simp) (by simp only[aB];rw[ah _ _ (by omega)];simp) (by simp[aB]) (fun j h1 h2=>by simp only[aB];rw[ah _ _ h2,ah _ _ h1])
      obtain⟨hs,MN,hsk⟩:=lu (aB κ' [(nx,.tree 0 0 (.aC (nth T (nth T t).elem).size l)),(i,.tree ver (cb+1) (ed d (ps::pr) .any))]) G1 w _ (fun j hj=>by simp only[aB];rw[ah _ _ (by rintro rfl;exact abH hj),ah _ _ (by rintro rfl;exact aaK hj)];exact ax.reads j (by simp[hj])) g7.fit (dU.mono g1)
      have fk:=g7.fit.box nx
      have su:aB κ' [(nx,.tree 0 0 (.aC (nth T (nth T t).elem).size l)),(i,.tree ver (cb+1) (ed d (ps::pr) .any))] nx=.tree 0 0 (.aC (nth T (nth T t).elem).size l):=by simp[aB]
      rw[su]at fk
      obtain⟨v',w',G',r1,r2,r3⟩:=g7.append (κ2:=aB κ' ((nx,.tree 1 0 (.aC (nth T (nth T t).elem).size (l++zs)))::(i,.tree ver (cb+1) (ed d (ps::pr) .any))::fa kill)) (ty:=o.type) (i:=nx) (bo:=1) hT cw gB vK dc fk.1 fk.2.1 (v:=a.eval s) (by rw[g4 [],List.append_nil];exact hx) (.inr ⟨0,0,su,rfl,rfl⟩) MN hsk RA hle D8 zR
       (by simp[aB]) (fun j hj=>by simp only[aB];rw[ah _ _ (by rintro rfl;exact RA hj),ah _ _ (by rintro rfl;exact H8 hj),c5,if_pos hj]) (fun j h1 h2=>by
        simp only[aB]
        rw[ah _ _ h1,ah _ _ h1]
        by_cases e:j=i
        ·subst e;simp
        ·rw[ah _ _ e,ah _ _ e,c5,if_neg h2])
      exact⟨v',w',G',.inl (dE ho hc ha lK r1),r2,r3⟩
   |_=>exact h.elim
  ·exact h.elim
 ·exact h.elim
end
end
end Go.TM
