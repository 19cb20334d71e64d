import Derived.Test.YtfpebgpgabjieaaGreatDoorHM20
import Derived.Test.YtfpebgpgabjieaaGreatDoorHM15
import Derived.Shelf.SlSortCmp.WholeK
import Derived.Shelf.SlSortCmp.Whole1
set_option linter.all false
namespace Go.TM
open Go.RowKit
open Go.Proofs Go.Sort
variable [cy]
structure Fy{α:Type}(vals:α->List Int)(k:Nat)(w w':World)(c5 off:Nat)(l':List α):Prop where
 grown:w.grownBy w' (some c5)
 row:∀c t fr,w.heap[c5]?=some (.cells c t fr)->∃c':Array Value,w'.heap[c5]?=some (.cells c' t fr)/\c'.size=c.size/\∀(i:Nat) (x:α) (j:Nat) (n:Int),l'[i]?=some x->(vals x)[j]?=some n->c'[off+i*k+j]?=some (.int .i64 n)
theorem vG{P:Program}{f:Nat}(qM:gS P f){α:Type}{vals:α->List Int}{e:α->DV}{k:Nat}(he:∀x,(e x).cells=(vals x).map fun n=>DV.int .i64 n)(hk:∀x,(vals x).length=k){rest:List AV}{m:Nat}{K3:ae}{l:List α}(dw:l≠[])(hm:1<=m)(hK3:∀i,m<=i->aa K3 i=.none)(R:List α->Prop)(hR:∀l',R l'->l'.length=l.length)
 (bG:∀(w:World) (G:Gh) (c5 off cap:Nat) (xs:List Value),Fit G w (aa ((0,.tree 0 0 (.aI k (l.map e)))::K3))->nu G.M->cG G rest xs->cH G 0 (.tree 0 0 (.aI k (l.map e))) c5->(∃c t,w.heap[c5]?=some (.cells c t (0,0))/\∀(i:Nat) (x:α) (j:Nat) (n:Int),l[i]?=some x->(vals x)[j]?=some n->c[off+i*k+j]?=some (.int .i64 n))->
  Calls P f (.slice (some ⟨c5,off,none⟩) l.length cap::xs).toArray w fun en w'=>en=.returned (.tuple #[])/\∃l',R l'/\Fy vals k w w' c5 off l'):
 bX P f (.own 0 0 0 []::rest) m ((0,.tree 0 0 (.aI k (l.map e)))::K3) 0 fun rs K'=>rs=[]/\∃l',R l'/\K'=(0,.tree 0 0 (.aI k (l'.map e)))::K3:=by
 refine⟨qM,fun w G vs nr di hr=>?_⟩
 obtain⟨x0,SU,rfl⟩:∃x0 SU,vs=x0::SU:=by
  cases vs with
  |nil=>have:=hr.1;grind
  |cons a l=>grind
 cases(hr.2 0 _ x0 rfl rfl)with|own _ _ _ _ _ hu PE=>
 have hl0:∀d,aa ((0,ax.tree 0 0 d)::K3) 0=.tree 0 0 d:=fun _=>rfl
 have Uo:∀d i,i≠0->aa ((0,ax.tree 0 0 d)::K3) i=aa K3 i:=fun d i hi=>by
  grind [aa,beq_false]
 have og:∀(l:List α) x,x∈l.map e->x.aQ:=fun l x hx d hd=>by
  obtain⟨y,_,rfl⟩:=adK.1 hx
  rw[he]at hd
  obtain⟨n,_,rfl⟩:=adK.1 hd
  rfl
 obtain⟨u0,Kq,_,bo⟩:=di.node (p:=[]) (hl0 (.aI k (l.map e))) rfl rfl
 rw[hu]at Kq;injection Kq with Kq;subst Kq
 let g:eb:=⟨fun b=>∃i,cH G i (aa ((0,.tree 0 0 (.aI k (l.map e)))::K3) i) b,w,G.M,m,G.β,fun i p=>G.H i 0 0 p⟩
 have aca:cE g 0 (fun _=>.any) _ { tmps:=#[],defers:=[] } w G:=
  {fit:=di,env:=fun t=>.any _,size:=rfl,zC:=fun _ _ _=>rfl,os:=rfl,tape:=rfl,output:=rfl,grow:=adM _,mem:=.refl G.M,ny:=fun _ _ _=>rfl,gR:=fun i b ho=>.inr ⟨i,ho⟩,fE:=fun _ _=>rfl,wb:=fun _ _ _ _ hx=>hx,oW:=nr,tU:=⟨[],rfl,List.nodup_nil,by simp⟩ }
 rcases gX.1 bo with⟨h1,_⟩|⟨c5,off,cap,c,t,rfl,eP,hblk,ck,vH⟩
 ·simp_all
 have cV:∀(i:Nat) (x:α) (j:Nat) (n:Int),l[i]?=some x->(vals x)[j]?=some n->c[off+i*k+j]?=some _:=fun i x j n hx hn=>by
  obtain⟨_,u,h2,h3⟩:=((vH i _ (by rw[adk,hx];rfl)).2 j _ (by rw[he,adk,hn];rfl))
  rcases h3 with⟨h4,_⟩|⟨_,h4⟩
  ·cases h4
  ·cases h4;exact h2
 have jU:=bG w G c5 off cap SU di nr ⟨by have:=hr.1;simpa using this,fun j d v hd hv=>hr.2 (j+1) d v hd hv⟩ ⟨[],_,_,rfl,rfl,hu,rfl⟩ ⟨c,t,hblk,cV⟩
 rw[(adi ..).symm]at jU
 refine Calls.mono jU ?_
 rintro en w' ⟨rfl,l',hRl,Bk⟩
 have hlen:=hR l' hRl
 obtain⟨c',fD,Fz,XQ⟩:=Bk.row c t _ hblk
 have PY:∀b,some c5=some b->cH G 0 (aa ((0,.tree 0 0 (.aI k (l.map e)))::K3) 0) b:=fun b hb=>⟨[],_,_,rfl,rfl,hu,hb⟩
 obtain⟨G',k1,k2,k3,k4,_,_,k7⟩:=aca.lX (d:=.aI k (l'.map e)) (fun _=>False) _ (fun h=>h)
  (.inr ⟨0,0,_,hl0 _,adM _,fun _=>adM _⟩) (fun _ h=>h.elim) (hl0 _) (fun j hj _=>by rw[Uo _ j hj,Uo _ j hj])
  (fun _ _ h=>h)
  ⟨rfl,fun q y hy ho=>by
   obtain⟨rfl,rfl⟩:=tn (og l') hy ho
   refine⟨_,hu,PE,gX.2 (.inr ⟨c5,off,cap,c',t,by rw[adi,adi,hlen],by rw[adi]at eP⊢;omega,fD,by rwa[Fz],fun i x hx=>?_⟩)⟩
   rw[adk]at hx
   cases Up:l'[i]? with
   |none=>rw[Up]at hx;cases hx
   |some y=>
    rw[Up]at hx;injection hx with hx;subst hx
    refine⟨by rw[he,adi,hk],fun j d hd=>?_⟩
    rw[he,adk]at hd
    cases hn:(vals y)[j]? with
    |none=>rw[hn]at hd;cases hd
    |some n=>
     rw[hn]at hd;injection hd with hd;subst hd
     exact⟨rfl,_,XQ i y j n Up hn,.inr ⟨rfl,.int _ _⟩⟩⟩
  (fun q q' y y' u v b e1 e2 _ _ f1 f2 _ _=>by rw[(tn (og l') e1 e2).1,(tn (og l') f1 f2).1])
  (fun b ⟨q,y,u,h1,h2,h3,h4⟩=>by
   obtain⟨rfl,rfl⟩:=tn (og l') h1 h2
   rw[hu]at h3;injection h3 with h3;subst h3
   exact .inr (.inl (PY b h4)))
  (fun b hb fP _=>Bk.grown.block b hb fun h=>fP (PY b h.symm))
  (fun b hb=>by
   rcases hb with h5|⟨_,h5,_⟩
   ·exact di.own 0 b h5
   ·exact h5.elim)
  Bk.grown.size Bk.grown.os Bk.grown.tape Bk.grown.output
 refine⟨_,[],_,G',rfl,⟨rfl,l',hRl,rfl⟩,?_⟩
 refine⟨k7.fit,fun i hi=>?_,.gr [] [] rfl (by simp),k7.mem,k7.fE,k7.wb,fun b hb hO=>⟨k7.zC b hb (fun⟨i,h⟩=>hO i h),k7.ny b hb (fun⟨i,h⟩=>hO i h)⟩,k7.gR,k7.os,k7.tape,k7.output,k7.grow⟩
 rw[Uo _ i (by omega)]
 exact hK3 i (by omega)
theorem yJ(w:World)(c5 b:Nat)(f:Array Value->Array Value)(h:b≠c5):(mapBlock w c5 f).heap[b]?=w.heap[b]?:=by
 unfold mapBlock
 grind
theorem Af(w:World)(c5:Nat)(f:Array Value->Array Value){c:Array Value}{t:TypeId}{fr:Nat×Nat}(h:w.heap[c5]?=some (.cells c t fr)):(mapBlock w c5 f).heap[c5]?=some (.cells (f c) t fr):=by
 unfold mapBlock
 simp[Array.getElem?_modify,h]
 rfl
theorem vI{α:Type}{vals:α->List Int}{k:Nat}{β:Type}[Inhabited β]{enc:β->Value}{F:Array β}{w:World}{c5 off n:Nat}{os:Array Obj}{l':List α}(hw:c5<w.heap.size)
 (hF:∀(i:Nat) (x:α) (j:Nat) (n:Int),l'[i]?=some x->(vals x)[j]?=some n->i*k+j<F.size/\enc F[i*k+j]! = .int .i64 n)
 (hc:∀c t fr,w.heap[c5]?=some (.cells c t fr)->off+F.size<=c.size):Fy vals k w (grow (putRow enc (Sort.ahead w n) c5 off F) os) c5 off l':=by
 have hs:(putRow enc (Sort.ahead w n) c5 off F).heap.size=w.heap.size:=by simp_all
 refine⟨⟨rfl,rfl,rfl,?_,fun b hb dw=>?_⟩,fun c t fr h=>?_⟩
 ·simp_all
 ·show((putRow enc _ c5 off F).heap++os)[b]?=_
  rw[Array.getElem?_append_left (by omega)]
  exact yJ _ _ _ _ fun h=>dw (by grind)
 ·refine⟨putCells enc off F c,?_,by simp[putCells],fun i x j m hx hm=>?_⟩
  ·show((putRow enc _ c5 off F).heap++os)[c5]?=_
   rw[Array.getElem?_append_left (by omega)]
   exact Af _ _ _ h
  ·obtain⟨h1,h2⟩:=hF i x j m hx hm
   have h3:=hc c t fr h
   rw[putCells,Array.getElem?_mapIdx,adS (by omega)]
   grind
end Go.TM
