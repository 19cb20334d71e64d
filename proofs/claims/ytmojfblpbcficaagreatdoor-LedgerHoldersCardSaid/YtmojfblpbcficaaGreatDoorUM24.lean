import Derived.Test.YtmojfblpbcficaaGreatDoorUM22
import Derived.Test.YtmojfblpbcficaaGreatDoorUM15
import Derived.Shelf.SlSortCmp.WholeK
import Derived.Shelf.SlSortCmp.Whole1
set_option linter.all false
namespace Go.TM
open Go.RowKit
open Go.Proofs Go.Sort
variable [cj]
structure Gt{α:Type}(vals:α->List Int)(k:Nat)(w w':World)(cT off:Nat)(l':List α):Prop where
 grown:w.grownBy w' (some cT)
 row:∀c t fr,w.heap[cT]?=some (.cells c t fr)->∃c':Array Value,w'.heap[cT]?=some (.cells c' t fr)/\c'.size=c.size/\∀(i:Nat) (x:α) (j:Nat) (n:Int),l'[i]?=some x->(vals x)[j]?=some n->c'[off+i*k+j]?=some (.int .i64 n)
theorem wm{P:Program}{f:Nat}(o7:fF P f){α:Type}{vals:α->List Int}{e:α->DV}{k:Nat}(he:∀x,(e x).cells=(vals x).map fun n=>DV.int .i64 n)(hk:∀x,(vals x).length=k){rest:List AV}{m:Nat}{K3:ae}{l:List α}(cF:l≠[])(hm:1<=m)(hK3:∀i,m<=i->aa K3 i=.none)(R:List α->Prop)(hR:∀l',R l'->l'.length=l.length)
 (bG:∀(w:World) (G:Gh) (cT off cap:Nat) (xs:List Value),Fit G w (aa ((0,.tree 0 0 (.aD k (l.map e)))::K3))->mJ G.M->ck G rest xs->cD G 0 (.tree 0 0 (.aD k (l.map e))) cT->(∃c t,w.heap[cT]?=some (.cells c t (0,0))/\∀(i:Nat) (x:α) (j:Nat) (n:Int),l[i]?=some x->(vals x)[j]?=some n->c[off+i*k+j]?=some (.int .i64 n))->
  Calls P f (.slice (some ⟨cT,off,none⟩) l.length cap::xs).toArray w fun en w'=>en=.returned (.tuple #[])/\∃l',R l'/\Gt vals k w w' cT off l'):
 bW P f (.own 0 0 0 []::rest) m ((0,.tree 0 0 (.aD k (l.map e)))::K3) 0 fun rs K'=>rs=[]/\∃l',R l'/\K'=(0,.tree 0 0 (.aD k (l'.map e)))::K3:=by
 refine⟨o7,fun w G vs mq cP hr=>?_⟩
 obtain⟨x0,Ot,rfl⟩:∃x0 Ot,vs=x0::Ot:=by
  cases vs with
  |nil=>have:=hr.1;simp at this
  |cons a l=>exact⟨a,l,rfl⟩
 have OP:=hr.2 0 _ x0 rfl rfl
 have Tc:ck G rest Ot:=⟨by have:=hr.1;simpa using this,fun j d v hd hv=>hr.2 (j+1) d v hd hv⟩
 cases OP with|own _ _ _ _ _ hu Qk=>
 have hl0:∀d,aa ((0,aw.tree 0 0 d)::K3) 0=.tree 0 0 d:=fun _=>rfl
 have Uf:∀d i,i≠0->aa ((0,aw.tree 0 0 d)::K3) i=aa K3 i:=fun d i hi=>by
  simp only[aa];rw[beq_false hi];rfl
 have l7:∀(l:List α) x,x∈l.map e->x.aT:=fun l x hx d hd=>by
  obtain⟨y,_,rfl⟩:=adK.1 hx
  rw[he]at hd
  obtain⟨n,_,rfl⟩:=adK.1 hd
  rfl
 obtain⟨u0,LB,_,bq⟩:=cP.node (p:=[]) (hl0 (.aD k (l.map e))) rfl rfl
 rw[hu]at LB;injection LB with LB;subst LB
 let g:dV:=⟨fun b=>∃i,cD G i (aa ((0,.tree 0 0 (.aD k (l.map e)))::K3) i) b,w,G.M,m,G.β,fun i p=>G.H i 0 0 p⟩
 have X3:cB g 0 (fun _=>.any) (aa ((0,.tree 0 0 (.aD k (l.map e)))::K3)) { tmps:=#[],defers:=[] } w G:=
  {fit:=cP,env:=fun t=>.any _,size:=rfl,xc:=fun _ _ _=>rfl,os:=rfl,tape:=rfl,output:=rfl,grow:=adM _,mem:=.refl G.M,mM:=fun _ _ _=>rfl,fV:=fun i b ho=>.inr ⟨i,ho⟩,fm:=fun _ _=>rfl,uw:=fun _ _ _ _ hx=>hx,o5:=mq,sK:=⟨[],rfl,List.nodup_nil,by simp⟩ }
 rcases gl.1 bq with⟨h1,_⟩|⟨cT,off,cap,c,t,rfl,eJ,hblk,bP,wo⟩
 ·exact absurd (List.map_eq_nil_iff.1 h1) cF
 have cL:∀(i:Nat) (x:α) (j:Nat) (n:Int),l[i]?=some x->(vals x)[j]?=some n->c[off+i*k+j]?=some (.int .i64 n):=fun i x j n hx hn=>by
  have h1:=(wo i (e x) (by rw[abW,hx];rfl)).2 j (.int .i64 n) (by rw[he,abW,hn];rfl)
  obtain⟨_,u,h2,h3⟩:=h1
  rcases h3 with⟨h4,_⟩|⟨_,h4⟩
  ·cases h4
  ·cases h4;exact h2
 have iT:=bG w G cT off cap Ot cP mq Tc ⟨[],_,_,rfl,rfl,hu,rfl⟩ ⟨c,t,hblk,cL⟩
 rw[show l.length=(l.map e).length from(WY ..).symm]at iT
 refine Calls.mono iT ?_
 rintro en w' ⟨rfl,l',hRl,B1⟩
 have hlen:=hR l' hRl
 obtain⟨c',eT,Gu,X4⟩:=B1.row c t _ hblk
 have QR:∀b,some cT=some b->cD G 0 (aa ((0,.tree 0 0 (.aD k (l.map e)))::K3) 0) b:=fun b hb=>⟨[],_,_,rfl,rfl,hu,hb⟩
 obtain⟨G',k1,k2,k3,k4,_,_,k7⟩:=X3.mz (κ':=aa ((0,.tree 0 0 (.aD k (l'.map e)))::K3)) (w':=w') (i:=0) (ver:=0) (ep:=0) (d:=.aD k (l'.map e)) (fun _=>False) (aO G.H 0 0 0) (fun h=>h)
  (.inr ⟨0,0,_,hl0 _,adM _,fun _=>adM _⟩) (fun _ h=>h.elim) (hl0 _) (fun j hj _=>by rw[Uf _ j hj,Uf _ j hj])
  (fun _ _ h=>h)
  ⟨rfl,fun q y hy ho=>by
   obtain⟨rfl,rfl⟩:=j7 (l7 l') hy ho
   refine⟨_,hu,Qk,gl.2 (.inr ⟨cT,off,cap,c',t,by rw[WY,WY,hlen],by rw[WY]at eJ⊢;omega,eT,by rw[Gu];exact bP,fun i x hx=>?_⟩)⟩
   rw[abW]at hx
   cases Up:l'[i]? with
   |none=>rw[Up]at hx;cases hx
   |some y=>
    rw[Up]at hx;injection hx with hx;subst hx
    refine⟨by rw[he,WY,hk],fun j d hd=>?_⟩
    rw[he,abW]at hd
    cases hn:(vals y)[j]? with
    |none=>rw[hn]at hd;cases hd
    |some n=>
     rw[hn]at hd;injection hd with hd;subst hd
     exact⟨rfl,_,X4 i y j n Up hn,.inr ⟨rfl,.int _ _⟩⟩⟩
  (fun q q' y y' u v b e1 e2 _ _ f1 f2 _ _=>by rw[(j7 (l7 l') e1 e2).1,(j7 (l7 l') f1 f2).1])
  (fun b ⟨q,y,u,h1,h2,h3,h4⟩=>by
   obtain⟨rfl,rfl⟩:=j7 (l7 l') h1 h2
   rw[hu]at h3;injection h3 with h3;subst h3
   exact .inr (.inl (QR b h4)))
  (fun b hb dI _=>B1.grown.block b hb fun h=>dI (QR b h.symm))
  (fun b hb=>by
   rcases hb with h5|⟨_,h5,_⟩
   ·exact cP.own 0 b h5
   ·exact h5.elim)
  B1.grown.size B1.grown.os B1.grown.tape B1.grown.output
 refine⟨_,[],_,G',rfl,⟨rfl,l',hRl,rfl⟩,?_⟩
 refine⟨k7.fit,fun i hi=>?_,.gr [] [] rfl (by simp),k7.mem,k7.fm,k7.uw,fun b hb hO=>⟨k7.xc b hb (fun⟨i,h⟩=>hO i h),k7.mM b hb (fun⟨i,h⟩=>hO i h)⟩,k7.fV,k7.os,k7.tape,k7.output,k7.grow⟩
 rw[Uf _ i (by omega)]
 exact hK3 i (by omega)
theorem zx(w:World)(cT b:Nat)(f:Array Value->Array Value)(h:b≠cT):(mapBlock w cT f).heap[b]?=w.heap[b]?:=by
 unfold mapBlock
 simp only[Array.getElem?_modify]
 rw[if_neg (fun e=>h e.symm)]
theorem AQ(w:World)(cT:Nat)(f:Array Value->Array Value){c:Array Value}{t:TypeId}{fr:Nat×Nat}(h:w.heap[cT]?=some (.cells c t fr)):(mapBlock w cT f).heap[cT]?=some (.cells (f c) t fr):=by
 unfold mapBlock
 simp only[Array.getElem?_modify,if_true,h]
 rfl
theorem wu{α:Type}{vals:α->List Int}{k:Nat}{β:Type}[Inhabited β]{enc:β->Value}{F:Array β}{w:World}{cT off n:Nat}{os:Array Obj}{l':List α}(hw:cT<w.heap.size)
 (hF:∀(i:Nat) (x:α) (j:Nat) (n:Int),l'[i]?=some x->(vals x)[j]?=some n->i*k+j<F.size/\enc F[i*k+j]! = .int .i64 n)
 (hc:∀c t fr,w.heap[cT]?=some (.cells c t fr)->off+F.size<=c.size):Gt vals k w (grow (putRow enc (Sort.ahead w n) cT off F) os) cT off l':=by
 have hs:(putRow enc (Sort.ahead w n) cT off F).heap.size=w.heap.size:=by simp[putRow,mapBlock,Sort.ahead]
 refine⟨⟨rfl,rfl,rfl,?_,fun b hb cF=>?_⟩,fun c t fr h=>?_⟩
 ·show w.heap.size<=(_++os).size
  rw[Array.size_append,hs];omega
 ·show((putRow enc (Sort.ahead w n) cT off F).heap++os)[b]?=_
  rw[Array.getElem?_append_left (by omega)]
  exact zx _ _ _ _ fun h=>cF (by rw[h])
 ·refine⟨putCells enc off F c,?_,by simp[putCells],fun i x j m hx hm=>?_⟩
  ·show((putRow enc (Sort.ahead w n) cT off F).heap++os)[cT]?=_
   rw[Array.getElem?_append_left (by omega)]
   exact AQ _ _ _ h
  ·obtain⟨h1,h2⟩:=hF i x j m hx hm
   have h3:=hc c t fr h
   rw[putCells,Array.getElem?_mapIdx,adS (by omega)]
   simp only[Option.map_some]
   rw[if_pos ⟨by omega,by omega⟩,show off+i*k+j-off=i*k+j by omega,h2]
end Go.TM
