import Derived.Test.YtpbiiigpphehbaaGreatDoorFM34
import Derived.Test.YtpbiiigpphehbaaGreatDoorFM26
import Derived.Shelf.SlSortCmp.WholeK
import Derived.Shelf.SlSortCmp.Whole1
set_option linter.all false
namespace Go.TM
open Go.RowKit
open Go.Proofs Go.Sort
variable [cj]
structure FR{α:Type}(vals:α->List Int)(k:Nat)(w w':World)(cS off:Nat)(l':List α):Prop where
 grown:w.grownBy w' (some cS)
 row:∀c t fr,w.heap[cS]?=some (.cells c t fr)->∃c':Array Value,w'.heap[cS]?=some (.cells c' t fr)/\c'.size=c.size/\∀(i:Nat) (x:α) (j:Nat) (n:Int),l'[i]?=some x->(vals x)[j]?=some n->c'[off+i*k+j]?=some (.int .i64 n)
theorem vP{P:Program}{f:Nat}(qn:fQ P f){α:Type}{vals:α->List Int}{e:α->DV}{k:Nat}(he:∀x,(e x).cells=(vals x).map fun n=>DV.int .i64 n)(hk:∀x,(vals x).length=k){rest:List AV}{m:Nat}{K3:ae}{l:List α}(ck:l≠[])(hm:1<=m)(hK3:∀i,m<=i->aa K3 i=.none)(R:List α->Prop)(hR:∀l',R l'->l'.length=l.length)
 (aZ:∀(w:World) (G:Gh) (cS off cap:Nat) (xs:List Value),Fit G w (aa ((0,.tree 0 0 (.aB k (l.map e)))::K3))->ng G.M->cb G rest xs->cx G 0 (.tree 0 0 (.aB k (l.map e))) cS->(∃c t,w.heap[cS]?=some (.cells c t (0,0))/\∀(i:Nat) (x:α) (j:Nat) (n:Int),l[i]?=some x->(vals x)[j]?=some n->c[off+i*k+j]?=some (.int .i64 n))->
  Calls P f (.slice (some ⟨cS,off,none⟩) l.length cap::xs).toArray w fun en w'=>en=.returned (.tuple #[])/\∃l',R l'/\FR vals k w w' cS off l'):
 bV P f (.own 0 0 0 []::rest) m ((0,.tree 0 0 (.aB k (l.map e)))::K3) 0 fun rs K'=>rs=[]/\∃l',R l'/\K'=(0,.tree 0 0 (.aB k (l'.map e)))::K3:=by
 refine⟨qn,fun w G vs na cL hr=>?_⟩
 obtain⟨x0,MH,rfl⟩:∃x0 MH,vs=x0::MH:=by
  cases vs with
  |nil=>have:=hr.1;simp at this
  |cons a l=>exact⟨a,l,rfl⟩
 have K4:=hr.2 0 _ x0 rfl rfl
 have U4:cb G rest MH:=⟨by have:=hr.1;simpa using this,fun j d v hd hv=>hr.2 (j+1) d v hd hv⟩
 cases K4 with|own _ _ _ _ _ hu Pk=>
 have Zn:∀d,aa ((0,ar.tree 0 0 d)::K3) 0=.tree 0 0 d:=fun _=>rfl
 have SB:∀d i,i≠0->aa ((0,ar.tree 0 0 d)::K3) i=aa K3 i:=fun d i hi=>by
  simp only[aa];rw[beq_false hi];rfl
 have mX:∀(l:List α) x,x∈l.map e->x.aV:=fun l x hx d hd=>by
  obtain⟨y,_,rfl⟩:=ab1.1 hx
  rw[he]at hd
  obtain⟨n,_,rfl⟩:=ab1.1 hd
  rfl
 obtain⟨u0,Ko,_,bn⟩:=cL.node (p:=[]) (Zn (.aB k (l.map e))) rfl rfl
 rw[hu]at Ko;injection Ko with Ko;subst Ko
 let g:dO:=⟨fun b=>∃i,cx G i (aa ((0,.tree 0 0 (.aB k (l.map e)))::K3) i) b,w,G.M,m,G.β,fun i p=>G.H i 0 0 p⟩
 have Uw:cu g 0 (fun _=>.any) (aa ((0,.tree 0 0 (.aB k (l.map e)))::K3)) { tmps:=#[],defers:=[] } w G:=
  {fit:=cL,env:=fun t=>.any _,size:=rfl,zQ:=fun _ _ _=>rfl,os:=rfl,tape:=rfl,output:=rfl,grow:=ab3 _,mem:=.refl G.M,nL:=fun _ _ _=>rfl,gB:=fun i b ho=>.inr ⟨i,ho⟩,eX:=fun _ _=>rfl,wv:=fun _ _ _ _ hx=>hx,oT:=na,tL:=⟨[],rfl,List.nodup_nil,by simp⟩ }
 rcases fM.1 bn with⟨h1,_⟩|⟨cS,off,cap,c,t,rfl,dW,hblk,aW,tK⟩
 ·exact absurd (List.map_eq_nil_iff.1 h1) ck
 have cH:∀(i:Nat) (x:α) (j:Nat) (n:Int),l[i]?=some x->(vals x)[j]?=some n->c[off+i*k+j]?=some (.int .i64 n):=fun i x j n hx hn=>by
  have h1:=(tK i (e x) (by rw[abB,hx];rfl)).2 j (.int .i64 n) (by rw[he,abB,hn];rfl)
  obtain⟨_,u,h2,h3⟩:=h1
  rcases h3 with⟨h4,_⟩|⟨_,h4⟩
  ·cases h4
  ·cases h4;exact h2
 have jx:=aZ w G cS off cap MH cL na U4 ⟨[],_,_,rfl,rfl,hu,rfl⟩ ⟨c,t,hblk,cH⟩
 rw[show l.length=(l.map e).length from(abz ..).symm]at jx
 refine Calls.mono jx ?_
 rintro en w' ⟨rfl,l',hRl,BH⟩
 have hlen:=hR l' hRl
 obtain⟨c',dI,Az,V2⟩:=BH.row c t _ hblk
 have PM:∀b,some cS=some b->cx G 0 (aa ((0,.tree 0 0 (.aB k (l.map e)))::K3) 0) b:=fun b hb=>⟨[],_,_,rfl,rfl,hu,hb⟩
 obtain⟨G',k1,k2,k3,k4,_,_,k7⟩:=Uw.lG (κ':=aa ((0,.tree 0 0 (.aB k (l'.map e)))::K3)) (w':=w') (i:=0) (ver:=0) (ep:=0) (d:=.aB k (l'.map e)) (fun _=>False) (aJ G.H 0 0 0) (fun h=>h)
  (.inr ⟨0,0,_,Zn _,ab3 _,fun _=>ab3 _⟩) (fun _ h=>h.elim) (Zn _) (fun j hj _=>by rw[SB _ j hj,SB _ j hj])
  (fun _ _ h=>h)
  ⟨rfl,fun q y hy ho=>by
   obtain⟨rfl,rfl⟩:=sV (mX l') hy ho
   refine⟨_,hu,Pk,fM.2 (.inr ⟨cS,off,cap,c',t,by rw[abz,abz,hlen],by rw[abz]at dW⊢;omega,dI,by rw[Az];exact aW,fun i x hx=>?_⟩)⟩
   rw[abB]at hx
   cases MK:l'[i]? with
   |none=>rw[MK]at hx;cases hx
   |some y=>
    rw[MK]at hx;injection hx with hx;subst hx
    refine⟨by rw[he,abz,hk],fun j d hd=>?_⟩
    rw[he,abB]at hd
    cases hn:(vals y)[j]? with
    |none=>rw[hn]at hd;cases hd
    |some n=>
     rw[hn]at hd;injection hd with hd;subst hd
     exact⟨rfl,_,V2 i y j n MK hn,.inr ⟨rfl,.int _ _⟩⟩⟩
  (fun q q' y y' u v b e1 e2 _ _ f1 f2 _ _=>by rw[(sV (mX l') e1 e2).1,(sV (mX l') f1 f2).1])
  (fun b ⟨q,y,u,h1,h2,h3,h4⟩=>by
   obtain⟨rfl,rfl⟩:=sV (mX l') h1 h2
   rw[hu]at h3;injection h3 with h3;subst h3
   exact .inr (.inl (PM b h4)))
  (fun b hb c6 _=>BH.grown.block b hb fun h=>c6 (PM b h.symm))
  (fun b hb=>by
   rcases hb with h5|⟨_,h5,_⟩
   ·exact cL.own 0 b h5
   ·exact h5.elim)
  BH.grown.size BH.grown.os BH.grown.tape BH.grown.output
 refine⟨_,[],_,G',rfl,⟨rfl,l',hRl,rfl⟩,?_⟩
 refine⟨k7.fit,fun i hi=>?_,.fO [] [] rfl (by simp),k7.mem,k7.eX,k7.wv,fun b hb hO=>⟨k7.zQ b hb (fun⟨i,h⟩=>hO i h),k7.nL b hb (fun⟨i,h⟩=>hO i h)⟩,k7.gB,k7.os,k7.tape,k7.output,k7.grow⟩
 rw[SB _ i (by omega)]
 exact hK3 i (by omega)
theorem zd(w:World)(cS b:Nat)(f:Array Value->Array Value)(h:b≠cS):(mapBlock w cS f).heap[b]?=w.heap[b]?:=by
 unfold mapBlock
 simp only[Array.getElem?_modify]
 rw[if_neg (fun e=>h e.symm)]
theorem Aq(w:World)(cS:Nat)(f:Array Value->Array Value){c:Array Value}{t:TypeId}{fr:Nat×Nat}(h:w.heap[cS]?=some (.cells c t fr)):(mapBlock w cS f).heap[cS]?=some (.cells (f c) t fr):=by
 unfold mapBlock
 simp only[Array.getElem?_modify,if_true,h]
 rfl
theorem vQ{α:Type}{vals:α->List Int}{k:Nat}{β:Type}[Inhabited β]{enc:β->Value}{F:Array β}{w:World}{cS off n:Nat}{os:Array Obj}{l':List α}(hw:cS<w.heap.size)
 (hF:∀(i:Nat) (x:α) (j:Nat) (n:Int),l'[i]?=some x->(vals x)[j]?=some n->i*k+j<F.size/\enc F[i*k+j]! = .int .i64 n)
 (hc:∀c t fr,w.heap[cS]?=some (.cells c t fr)->off+F.size<=c.size):FR vals k w (grow (putRow enc (Sort.ahead w n) cS off F) os) cS off l':=by
 have hs:(putRow enc (Sort.ahead w n) cS off F).heap.size=w.heap.size:=by simp[putRow,mapBlock,Sort.ahead]
 refine⟨⟨rfl,rfl,rfl,?_,fun b hb ck=>?_⟩,fun c t fr h=>?_⟩
 ·show w.heap.size<=(_++os).size
  rw[Array.size_append,hs];omega
 ·show((putRow enc (Sort.ahead w n) cS off F).heap++os)[b]?=_
  rw[Array.getElem?_append_left (by omega)]
  exact zd _ _ _ _ fun h=>ck (by rw[h])
 ·refine⟨putCells enc off F c,?_,by simp[putCells],fun i x j m hx hm=>?_⟩
  ·show((putRow enc (Sort.ahead w n) cS off F).heap++os)[cS]?=_
   rw[Array.getElem?_append_left (by omega)]
   exact Aq _ _ _ h
  ·obtain⟨h1,h2⟩:=hF i x j m hx hm
   have h3:=hc c t fr h
   rw[putCells,Array.getElem?_mapIdx,ab9 (by omega)]
   simp only[Option.map_some]
   rw[if_pos ⟨by omega,by omega⟩,show off+i*k+j-off=i*k+j by omega,h2]
end Go.TM
