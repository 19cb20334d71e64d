import Derived.Test.YtmojfblpbcficaaGreatDoorCM23
import Derived.Test.YtmojfblpbcficaaGreatDoorCM17
import Derived.Shelf.SlSortCmp.WholeK
import Derived.Shelf.SlSortCmp.Whole1
set_option linter.all false
namespace Go.TM
open Go.RowKit
open Go.Proofs Go.Sort
variable [cn]
structure FN{α:Type}(vals:α->List Int)(k:Nat)(w w':World)(cS off:Nat)(l':List α):Prop where
 grown:w.grownBy w' (some cS)
 row:∀c t fr,w.heap[cS]?=some (.cells c t fr)->∃c':Array Value,w'.heap[cS]?=some (.cells c' t fr)/\c'.size=c.size/\∀(i:Nat) (x:α) (j:Nat) (n:Int),l'[i]?=some x->(vals x)[j]?=some n->c'[off+i*k+j]?=some (.int .i64 n)
theorem vJ{P:Program}{f:Nat}(qF:fM P f){α:Type}{vals:α->List Int}{e:α->DV}{k:Nat}(he:∀x,(e x).cells=(vals x).map fun n=>DV.int .i64 n)(hk:∀x,(vals x).length=k){rest:List AV}{m:Nat}{K3:ae}{l:List α}(cC:l≠[])(hm:1<=m)(hK3:∀i,m<=i->aa K3 i=.none)(R:List α->Prop)(hR:∀l',R l'->l'.length=l.length)
 (bE:∀(w:World) (G:Gh) (cS off cap:Nat) (xs:List Value),Fit G w (aa ((0,.tree 0 0 (.aC k (l.map e)))::K3))->ny G.M->cd G rest xs->cA G 0 (.tree 0 0 (.aC k (l.map e))) cS->(∃c t,w.heap[cS]?=some (.cells c t (0,0))/\∀(i:Nat) (x:α) (j:Nat) (n:Int),l[i]?=some x->(vals x)[j]?=some n->c[off+i*k+j]?=some (.int .i64 n))->
  Calls P f (.slice (some ⟨cS,off,none⟩) l.length cap::xs).toArray w fun en w'=>en=.returned (.tuple #[])/\∃l',R l'/\FN vals k w w' cS off l'):
 bU P f (.own 0 0 0 []::rest) m ((0,.tree 0 0 (.aC k (l.map e)))::K3) 0 fun rs K'=>rs=[]/\∃l',R l'/\K'=(0,.tree 0 0 (.aC k (l'.map e)))::K3:=by
 refine⟨qF,fun w G vs nt cP hr=>?_⟩
 obtain⟨x0,M4,rfl⟩:∃x0 M4,vs=x0::M4:=by
  cases vs with
  |nil=>have:=hr.1;simp at this
  |cons a l=>exact⟨a,l,rfl⟩
 have NN:=hr.2 0 _ x0 rfl rfl
 have VC:cd G rest M4:=⟨by have:=hr.1;simpa using this,fun j d v hd hv=>hr.2 (j+1) d v hd hv⟩
 cases NN with|own _ _ _ _ _ hu Pm=>
 have Z5:∀d,aa ((0,au.tree 0 0 d)::K3) 0=.tree 0 0 d:=fun _=>rfl
 have Tc:∀d i,i≠0->aa ((0,au.tree 0 0 d)::K3) i=aa K3 i:=fun d i hi=>by
  simp only[aa];rw[beq_false hi];rfl
 have om:∀(l:List α) x,x∈l.map e->x.aU:=fun l x hx d hd=>by
  obtain⟨y,_,rfl⟩:=acL.1 hx
  rw[he]at hd
  obtain⟨n,_,rfl⟩:=acL.1 hd
  rfl
 obtain⟨u0,Kz,_,bn⟩:=cP.node (p:=[]) (Z5 (.aC k (l.map e))) rfl rfl
 rw[hu]at Kz;injection Kz with Kz;subst Kz
 let g:dW:=⟨fun b=>∃i,cA G i (aa ((0,.tree 0 0 (.aC k (l.map e)))::K3) i) b,w,G.M,m,G.β,fun i p=>G.H i 0 0 p⟩
 have abj:cx g 0 (fun _=>.any) (aa ((0,.tree 0 0 (.aC k (l.map e)))::K3)) { tmps:=#[],defers:=[] } w G:=
  {fit:=cP,env:=fun t=>.any _,size:=rfl,zK:=fun _ _ _=>rfl,os:=rfl,tape:=rfl,output:=rfl,grow:=acN _,mem:=.refl G.M,nD:=fun _ _ _=>rfl,gD:=fun i b ho=>.inr ⟨i,ho⟩,eY:=fun _ _=>rfl,wh:=fun _ _ _ _ hx=>hx,oU:=nt,tK:=⟨[],rfl,List.nodup_nil,by simp⟩ }
 rcases fU.1 bn with⟨h1,_⟩|⟨cS,off,cap,c,t,rfl,dY,hblk,bz,vK⟩
 ·exact absurd (List.map_eq_nil_iff.1 h1) cC
 have cH:∀(i:Nat) (x:α) (j:Nat) (n:Int),l[i]?=some x->(vals x)[j]?=some n->c[off+i*k+j]?=some (.int .i64 n):=fun i x j n hx hn=>by
  have h1:=(vK i (e x) (by rw[acj,hx];rfl)).2 j (.int .i64 n) (by rw[he,acj,hn];rfl)
  obtain⟨_,u,h2,h3⟩:=h1
  rcases h3 with⟨h4,_⟩|⟨_,h4⟩
  ·cases h4
  ·cases h4;exact h2
 have jG:=bE w G cS off cap M4 cP nt VC ⟨[],_,_,rfl,rfl,hu,rfl⟩ ⟨c,t,hblk,cH⟩
 rw[show l.length=(l.map e).length from(ach ..).symm]at jG
 refine Calls.mono jG ?_
 rintro en w' ⟨rfl,l',hRl,Bv⟩
 have hlen:=hR l' hRl
 obtain⟨c',eB,FP,WK⟩:=Bv.row c t _ hblk
 have PX:∀b,some cS=some b->cA G 0 (aa ((0,.tree 0 0 (.aC k (l.map e)))::K3) 0) b:=fun b hb=>⟨[],_,_,rfl,rfl,hu,hb⟩
 obtain⟨G',k1,k2,k3,k4,_,_,k7⟩:=abj.l8 (κ':=aa ((0,.tree 0 0 (.aC k (l'.map e)))::K3)) (w':=w') (i:=0) (ver:=0) (ep:=0) (d:=.aC k (l'.map e)) (fun _=>False) (aJ G.H 0 0 0) (fun h=>h)
  (.inr ⟨0,0,_,Z5 _,acN _,fun _=>acN _⟩) (fun _ h=>h.elim) (Z5 _) (fun j hj _=>by rw[Tc _ j hj,Tc _ j hj])
  (fun _ _ h=>h)
  ⟨rfl,fun q y hy ho=>by
   obtain⟨rfl,rfl⟩:=tg (om l') hy ho
   refine⟨_,hu,Pm,fU.2 (.inr ⟨cS,off,cap,c',t,by rw[ach,ach,hlen],by rw[ach]at dY⊢;omega,eB,by rw[FP];exact bz,fun i x hx=>?_⟩)⟩
   rw[acj]at hx
   cases Tm:l'[i]? with
   |none=>rw[Tm]at hx;cases hx
   |some y=>
    rw[Tm]at hx;injection hx with hx;subst hx
    refine⟨by rw[he,ach,hk],fun j d hd=>?_⟩
    rw[he,acj]at hd
    cases hn:(vals y)[j]? with
    |none=>rw[hn]at hd;cases hd
    |some n=>
     rw[hn]at hd;injection hd with hd;subst hd
     exact⟨rfl,_,WK i y j n Tm hn,.inr ⟨rfl,.int _ _⟩⟩⟩
  (fun q q' y y' u v b e1 e2 _ _ f1 f2 _ _=>by rw[(tg (om l') e1 e2).1,(tg (om l') f1 f2).1])
  (fun b ⟨q,y,u,h1,h2,h3,h4⟩=>by
   obtain⟨rfl,rfl⟩:=tg (om l') h1 h2
   rw[hu]at h3;injection h3 with h3;subst h3
   exact .inr (.inl (PX b h4)))
  (fun b hb dR _=>Bv.grown.block b hb fun h=>dR (PX b h.symm))
  (fun b hb=>by
   rcases hb with h5|⟨_,h5,_⟩
   ·exact cP.own 0 b h5
   ·exact h5.elim)
  Bv.grown.size Bv.grown.os Bv.grown.tape Bv.grown.output
 refine⟨_,[],_,G',rfl,⟨rfl,l',hRl,rfl⟩,?_⟩
 refine⟨k7.fit,fun i hi=>?_,.fY [] [] rfl (by simp),k7.mem,k7.eY,k7.wh,fun b hb hO=>⟨k7.zK b hb (fun⟨i,h⟩=>hO i h),k7.nD b hb (fun⟨i,h⟩=>hO i h)⟩,k7.gD,k7.os,k7.tape,k7.output,k7.grow⟩
 rw[Tc _ i (by omega)]
 exact hK3 i (by omega)
theorem y1(w:World)(cS b:Nat)(f:Array Value->Array Value)(h:b≠cS):(mapBlock w cS f).heap[b]?=w.heap[b]?:=by
 unfold mapBlock
 simp only[Array.getElem?_modify]
 rw[if_neg (fun e=>h e.symm)]
theorem An(w:World)(cS:Nat)(f:Array Value->Array Value){c:Array Value}{t:TypeId}{fr:Nat×Nat}(h:w.heap[cS]?=some (.cells c t fr)):(mapBlock w cS f).heap[cS]?=some (.cells (f c) t fr):=by
 unfold mapBlock
 simp only[Array.getElem?_modify,if_true,h]
 rfl
theorem vL{α:Type}{vals:α->List Int}{k:Nat}{β:Type}[Inhabited β]{enc:β->Value}{F:Array β}{w:World}{cS off n:Nat}{os:Array Obj}{l':List α}(hw:cS<w.heap.size)
 (hF:∀(i:Nat) (x:α) (j:Nat) (n:Int),l'[i]?=some x->(vals x)[j]?=some n->i*k+j<F.size/\enc F[i*k+j]! = .int .i64 n)
 (hc:∀c t fr,w.heap[cS]?=some (.cells c t fr)->off+F.size<=c.size):FN vals k w (grow (putRow enc (Sort.ahead w n) cS off F) os) cS off l':=by
 have hs:(putRow enc (Sort.ahead w n) cS off F).heap.size=w.heap.size:=by simp[putRow,mapBlock,Sort.ahead]
 refine⟨⟨rfl,rfl,rfl,?_,fun b hb cC=>?_⟩,fun c t fr h=>?_⟩
 ·show w.heap.size<=(_++os).size
  rw[Array.size_append,hs];omega
 ·show((putRow enc (Sort.ahead w n) cS off F).heap++os)[b]?=_
  rw[Array.getElem?_append_left (by omega)]
  exact y1 _ _ _ _ fun h=>cC (by rw[h])
 ·refine⟨putCells enc off F c,?_,by simp[putCells],fun i x j m hx hm=>?_⟩
  ·show((putRow enc (Sort.ahead w n) cS off F).heap++os)[cS]?=_
   rw[Array.getElem?_append_left (by omega)]
   exact An _ _ _ h
  ·obtain⟨h1,h2⟩:=hF i x j m hx hm
   have h3:=hc c t fr h
   rw[putCells,Array.getElem?_mapIdx,acT (by omega)]
   simp only[Option.map_some]
   rw[if_pos ⟨by omega,by omega⟩,show off+i*k+j-off=i*k+j by omega,h2]
end Go.TM
