import Derived.Test.YtknnpcfhekkjjaaGreatDoorFM27
import Derived.Test.YtknnpcfhekkjjaaGreatDoorFM19
import Derived.Shelf.SlSortCmp.WholeK
import Derived.Shelf.SlSortCmp.Whole1
set_option linter.all false
namespace Go.TM
open Go.RowKit
open Go.Proofs Go.Sort
variable [cn]
structure FE{α:Type}(vals:α->List Int)(k:Nat)(w w':World)(cF off:Nat)(l':List α):Prop where
 grown:w.grownBy w' (some cF)
 row:∀c t fr,w.heap[cF]?=some (.cells c t fr)->∃c':Array Value,w'.heap[cF]?=some (.cells c' t fr)/\c'.size=c.size/\∀(i:Nat) (x:α) (j:Nat) (n:Int),l'[i]?=some x->(vals x)[j]?=some n->c'[off+i*k+j]?=some (.int .i64 n)
theorem v7{P:Program}{f:Nat}(qq:fQ P f){α:Type}{vals:α->List Int}{e:α->DV}{k:Nat}(he:∀x,(e x).cells=(vals x).map fun n=>DV.int .i64 n)(hk:∀x,(vals x).length=k){rest:List AV}{m:Nat}{K3:ae}{l:List α}(b7:l≠[])(hm:1<=m)(hK3:∀i,m<=i->aa K3 i=.none)(R:List α->Prop)(hR:∀l',R l'->l'.length=l.length)
 (aX:∀(w:World) (G:Gh) (cF off cap:Nat) (xs:List Value),Fit G w (aa ((0,.tree 0 0 (.aB k (l.map e)))::K3))->nj G.M->cj G rest xs->cx G 0 (.tree 0 0 (.aB k (l.map e))) cF->(∃c t,w.heap[cF]?=some (.cells c t (0,0))/\∀(i:Nat) (x:α) (j:Nat) (n:Int),l[i]?=some x->(vals x)[j]?=some n->c[off+i*k+j]?=some (.int .i64 n))->
  Calls P f (.slice (some ⟨cF,off,none⟩) l.length cap::xs).toArray w fun en w'=>en=.returned (.tuple #[])/\∃l',R l'/\FE vals k w w' cF off l'):
 bV P f (.own 0 0 0 []::rest) m ((0,.tree 0 0 (.aB k (l.map e)))::K3) 0 fun rs K'=>rs=[]/\∃l',R l'/\K'=(0,.tree 0 0 (.aB k (l'.map e)))::K3:=by
 refine⟨qq,fun w G vs nF cP hr=>?_⟩
 obtain⟨x0,MB,rfl⟩:∃x0 MB,vs=x0::MB:=by
  cases vs with
  |nil=>have:=hr.1;simp at this
  |cons a l=>exact⟨a,l,rfl⟩
 have GI:=hr.2 0 _ x0 rfl rfl
 have U7:cj G rest MB:=⟨by have:=hr.1;simpa using this,fun j d v hd hv=>hr.2 (j+1) d v hd hv⟩
 cases GI with|own _ _ _ _ _ hu OF=>
 have Zf:∀d,aa ((0,aq.tree 0 0 d)::K3) 0=.tree 0 0 d:=fun _=>rfl
 have Sz:∀d i,i≠0->aa ((0,aq.tree 0 0 d)::K3) i=aa K3 i:=fun d i hi=>by
  simp only[aa];rw[beq_false hi];rfl
 have mq:∀(l:List α) x,x∈l.map e->x.aQ:=fun l x hx d hd=>by
  obtain⟨y,_,rfl⟩:=ab9.1 hx
  rw[he]at hd
  obtain⟨n,_,rfl⟩:=ab9.1 hd
  rfl
 obtain⟨u0,Kf,_,aZ⟩:=cP.node (p:=[]) (Zf (.aB k (l.map e))) rfl rfl
 rw[hu]at Kf;injection Kf with Kf;subst Kf
 let g:dP:=⟨fun b=>∃i,cx G i (aa ((0,.tree 0 0 (.aB k (l.map e)))::K3) i) b,w,G.M,m,G.β,fun i p=>G.H i 0 0 p⟩
 have V4:cy g 0 (fun _=>.any) (aa ((0,.tree 0 0 (.aB k (l.map e)))::K3)) { tmps:=#[],defers:=[] } w G:=
  {fit:=cP,env:=fun t=>.any _,size:=rfl,zL:=fun _ _ _=>rfl,os:=rfl,tape:=rfl,output:=rfl,grow:=acb _,mem:=.refl G.M,nu:=fun _ _ _=>rfl,gB:=fun i b ho=>.inr ⟨i,ho⟩,fe:=fun _ _=>rfl,wz:=fun _ _ _ _ hx=>hx,oK:=nF,tR:=⟨[],rfl,List.nodup_nil,by simp⟩ }
 rcases eP.1 aZ with⟨h1,_⟩|⟨cF,off,cap,c,t,rfl,dI,hblk,aV,r8⟩
 ·exact absurd (List.map_eq_nil_iff.1 h1) b7
 have cK:∀(i:Nat) (x:α) (j:Nat) (n:Int),l[i]?=some x->(vals x)[j]?=some n->c[off+i*k+j]?=some (.int .i64 n):=fun i x j n hx hn=>by
  have h1:=(r8 i (e x) (by rw[abJ,hx];rfl)).2 j (.int .i64 n) (by rw[he,abJ,hn];rfl)
  obtain⟨_,u,h2,h3⟩:=h1
  rcases h3 with⟨h4,_⟩|⟨_,h4⟩
  ·cases h4
  ·cases h4;exact h2
 have jD:=aX w G cF off cap MB cP nF U7 ⟨[],_,_,rfl,rfl,hu,rfl⟩ ⟨c,t,hblk,cK⟩
 rw[show l.length=(l.map e).length from(abH ..).symm]at jD
 refine Calls.mono jD ?_
 rintro en w' ⟨rfl,l',hRl,BB⟩
 have hlen:=hR l' hRl
 obtain⟨c',dV,tU,V5⟩:=BB.row c t _ hblk
 have xw:∀b,some cF=some b->cx G 0 (aa ((0,.tree 0 0 (.aB k (l.map e)))::K3) 0) b:=fun b hb=>⟨[],_,_,rfl,rfl,hu,hb⟩
 obtain⟨G',k1,k2,k3,k4,_,_,k7⟩:=V4.kl (κ':=aa ((0,.tree 0 0 (.aB k (l'.map e)))::K3)) (w':=w') (i:=0) (ver:=0) (ep:=0) (d:=.aB k (l'.map e)) (fun _=>False) (aH G.H 0 0 0) (fun h=>h)
  (.inr ⟨0,0,_,Zf _,acb _,fun _=>acb _⟩) (fun _ h=>h.elim) (Zf _) (fun j hj _=>by rw[Sz _ j hj,Sz _ j hj])
  (fun _ _ h=>h)
  ⟨rfl,fun q y hy ho=>by
   obtain⟨rfl,rfl⟩:=jA (mq l') hy ho
   refine⟨_,hu,OF,eP.2 (.inr ⟨cF,off,cap,c',t,by rw[abH,abH,hlen],by rw[abH]at dI⊢;omega,dV,by rw[tU];exact aV,fun i x hx=>?_⟩)⟩
   rw[abJ]at hx
   cases LY:l'[i]? with
   |none=>rw[LY]at hx;cases hx
   |some y=>
    rw[LY]at hx;injection hx with hx;subst hx
    refine⟨by rw[he,abH,hk],fun j d hd=>?_⟩
    rw[he,abJ]at hd
    cases hn:(vals y)[j]? with
    |none=>rw[hn]at hd;cases hd
    |some n=>
     rw[hn]at hd;injection hd with hd;subst hd
     exact⟨rfl,_,V5 i y j n LY hn,.inr ⟨rfl,.int _ _⟩⟩⟩
  (fun q q' y y' u v b e1 e2 _ _ f1 f2 _ _=>by rw[(jA (mq l') e1 e2).1,(jA (mq l') f1 f2).1])
  (fun b ⟨q,y,u,h1,h2,h3,h4⟩=>by
   obtain⟨rfl,rfl⟩:=jA (mq l') h1 h2
   rw[hu]at h3;injection h3 with h3;subst h3
   exact .inr (.inl (xw b h4)))
  (fun b hb cW _=>BB.grown.block b hb fun h=>cW (xw b h.symm))
  (fun b hb=>by
   rcases hb with h5|⟨_,h5,_⟩
   ·exact cP.own 0 b h5
   ·exact h5.elim)
  BB.grown.size BB.grown.os BB.grown.tape BB.grown.output
 refine⟨_,[],_,G',rfl,⟨rfl,l',hRl,rfl⟩,?_⟩
 refine⟨k7.fit,fun i hi=>?_,.fL [] [] rfl (by simp),k7.mem,k7.fe,k7.wz,fun b hb hO=>⟨k7.zL b hb (fun⟨i,h⟩=>hO i h),k7.nu b hb (fun⟨i,h⟩=>hO i h)⟩,k7.gB,k7.os,k7.tape,k7.output,k7.grow⟩
 rw[Sz _ i (by omega)]
 exact hK3 i (by omega)
theorem y5(w:World)(cF b:Nat)(f:Array Value->Array Value)(h:b≠cF):(mapBlock w cF f).heap[b]?=w.heap[b]?:=by
 unfold mapBlock
 simp only[Array.getElem?_modify]
 rw[if_neg (fun e=>h e.symm)]
theorem Aq(w:World)(cF:Nat)(f:Array Value->Array Value){c:Array Value}{t:TypeId}{fr:Nat×Nat}(h:w.heap[cF]?=some (.cells c t fr)):(mapBlock w cF f).heap[cF]?=some (.cells (f c) t fr):=by
 unfold mapBlock
 simp only[Array.getElem?_modify,if_true,h]
 rfl
theorem v8{α:Type}{vals:α->List Int}{k:Nat}{β:Type}[Inhabited β]{enc:β->Value}{F:Array β}{w:World}{cF off n:Nat}{os:Array Obj}{l':List α}(hw:cF<w.heap.size)
 (hF:∀(i:Nat) (x:α) (j:Nat) (n:Int),l'[i]?=some x->(vals x)[j]?=some n->i*k+j<F.size/\enc F[i*k+j]! = .int .i64 n)
 (hc:∀c t fr,w.heap[cF]?=some (.cells c t fr)->off+F.size<=c.size):FE vals k w (grow (putRow enc (Sort.ahead w n) cF off F) os) cF off l':=by
 have hs:(putRow enc (Sort.ahead w n) cF off F).heap.size=w.heap.size:=by simp[putRow,mapBlock,Sort.ahead]
 refine⟨⟨rfl,rfl,rfl,?_,fun b hb b7=>?_⟩,fun c t fr h=>?_⟩
 ·show w.heap.size<=(_++os).size
  rw[Array.size_append,hs];omega
 ·show((putRow enc (Sort.ahead w n) cF off F).heap++os)[b]?=_
  rw[Array.getElem?_append_left (by omega)]
  exact y5 _ _ _ _ fun h=>b7 (by rw[h])
 ·refine⟨putCells enc off F c,?_,by simp[putCells],fun i x j m hx hm=>?_⟩
  ·show((putRow enc (Sort.ahead w n) cF off F).heap++os)[cF]?=_
   rw[Array.getElem?_append_left (by omega)]
   exact Aq _ _ _ h
  ·obtain⟨h1,h2⟩:=hF i x j m hx hm
   have h3:=hc c t fr h
   rw[putCells,Array.getElem?_mapIdx,aci (by omega)]
   simp only[Option.map_some]
   rw[if_pos ⟨by omega,by omega⟩,show off+i*k+j-off=i*k+j by omega,h2]
end Go.TM
