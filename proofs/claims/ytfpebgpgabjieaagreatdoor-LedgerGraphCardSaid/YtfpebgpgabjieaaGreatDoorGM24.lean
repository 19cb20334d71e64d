import Derived.Test.YtfpebgpgabjieaaGreatDoorGM22
import Derived.Test.YtfpebgpgabjieaaGreatDoorGM15
import Derived.Shelf.SlSortCmp.WholeK
import Derived.Shelf.SlSortCmp.Whole1
set_option linter.all false
namespace Go.TM
open Go.RowKit
open Go.Proofs Go.Sort
variable [cq]
structure Gc{α:Type}(vals:α->List Int)(k:Nat)(w w':World)(cR off:Nat)(l':List α):Prop where
 grown:w.grownBy w' (some cR)
 row:∀c t fr,w.heap[cR]?=some (.cells c t fr)->∃c':Array Value,w'.heap[cR]?=some (.cells c' t fr)/\c'.size=c.size/\∀(i:Nat) (x:α) (j:Nat) (n:Int),l'[i]?=some x->(vals x)[j]?=some n->c'[off+i*k+j]?=some (.int .i64 n)
theorem vW{P:Program}{f:Nat}(qV:gM P f){α:Type}{vals:α->List Int}{e:α->DV}{k:Nat}(he:∀x,(e x).cells=(vals x).map fun n=>DV.int .i64 n)(hk:∀x,(vals x).length=k){rest:List AV}{m:Nat}{K3:ad}{l:List α}(c6:l≠[])(hm:1<=m)(hK3:∀i,m<=i->aa K3 i=.none)(R:List α->Prop)(hR:∀l',R l'->l'.length=l.length)
 (bH:∀(w:World) (G:Gh) (cR off cap:Nat) (xs:List Value),Fit G w (aa ((0,.tree 0 0 (.aD k (l.map e)))::K3))->nC G.M->cC G rest xs->cD G 0 (.tree 0 0 (.aD k (l.map e))) cR->(∃c t,w.heap[cR]?=some (.cells c t (0,0))/\∀(i:Nat) (x:α) (j:Nat) (n:Int),l[i]?=some x->(vals x)[j]?=some n->c[off+i*k+j]?=some (.int .i64 n))->
  Calls P f (.slice (some ⟨cR,off,none⟩) l.length cap::xs).toArray w fun en w'=>en=.returned (.tuple #[])/\∃l',R l'/\Gc vals k w w' cR off l'):
 bU P f (.own 0 0 0 []::rest) m ((0,.tree 0 0 (.aD k (l.map e)))::K3) 0 fun rs K'=>rs=[]/\∃l',R l'/\K'=(0,.tree 0 0 (.aD k (l'.map e)))::K3:=by
 refine⟨qV,fun w G vs nM cY hr=>?_⟩
 obtain⟨x0,S4,rfl⟩:∃x0 S4,vs=x0::S4:=by
  cases vs with
  |nil=>have:=hr.1;grind
  |cons a l=>grind
 cases(hr.2 0 _ x0 rfl rfl)with|own _ _ _ _ _ hu PY=>
 have hl0:∀d,aa ((0,az.tree 0 0 d)::K3) 0=.tree 0 0 d:=fun _=>rfl
 have Uu:∀d i,i≠0->aa ((0,az.tree 0 0 d)::K3) i=aa K3 i:=fun d i hi=>by
  grind [aa,beq_false]
 have oq:∀(l:List α) x,x∈l.map e->x.aW:=fun l x hx d hd=>by
  obtain⟨y,_,rfl⟩:=aeg.1 hx
  rw[he]at hd
  obtain⟨n,_,rfl⟩:=aeg.1 hd
  rfl
 obtain⟨u0,Li,_,bq⟩:=cY.node (p:=[]) (hl0 (.aD k (l.map e))) rfl rfl
 rw[hu]at Li;injection Li with Li;subst Li
 let g:dY:=⟨fun b=>∃i,cD G i (aa ((0,.tree 0 0 (.aD k (l.map e)))::K3) i) b,w,G.M,m,G.β,fun i p=>G.H i 0 0 p⟩
 have acI:cA g 0 (fun _=>.any) _ { tmps:=#[],defers:=[] } w G:=
  {fit:=cY,env:=fun t=>.any _,size:=rfl,zZ:=fun _ _ _=>rfl,os:=rfl,tape:=rfl,output:=rfl,grow:=aei _,mem:=.refl G.M,nF:=fun _ _ _=>rfl,gJ:=fun i b ho=>.inr ⟨i,ho⟩,fE:=fun _ _=>rfl,wC:=fun _ _ _ _ hx=>hx,o7:=nM,ua:=⟨[],rfl,List.nodup_nil,by simp⟩ }
 rcases gS.1 bq with⟨h1,_⟩|⟨cR,off,cap,c,t,rfl,eU,hblk,cb,vX⟩
 ·simp_all
 have cK:∀(i:Nat) (x:α) (j:Nat) (n:Int),l[i]?=some x->(vals x)[j]?=some n->c[off+i*k+j]?=some _:=fun i x j n hx hn=>by
  obtain⟨_,u,h2,h3⟩:=((vX i _ (by rw[adQ,hx];rfl)).2 j _ (by rw[he,adQ,hn];rfl))
  rcases h3 with⟨h4,_⟩|⟨_,h4⟩
  ·cases h4
  ·cases h4;exact h2
 have jS:=bH w G cR off cap S4 cY nM ⟨by have:=hr.1;simpa using this,fun j d v hd hv=>hr.2 (j+1) d v hd hv⟩ ⟨[],_,_,rfl,rfl,hu,rfl⟩ ⟨c,t,hblk,cK⟩
 rw[(adO ..).symm]at jS
 refine Calls.mono jS ?_
 rintro en w' ⟨rfl,l',hRl,BL⟩
 have hlen:=hR l' hRl
 obtain⟨c',fp,Gd,X7⟩:=BL.row c t _ hblk
 have Qs:∀b,some cR=some b->cD G 0 (aa ((0,.tree 0 0 (.aD k (l.map e)))::K3) 0) b:=fun b hb=>⟨[],_,_,rfl,rfl,hu,hb⟩
 obtain⟨G',k1,k2,k3,k4,_,_,k7⟩:=acI.mf (d:=.aD k (l'.map e)) (fun _=>False) _ (fun h=>h)
  (.inr ⟨0,0,_,hl0 _,aei _,fun _=>aei _⟩) (fun _ h=>h.elim) (hl0 _) (fun j hj _=>by rw[Uu _ j hj,Uu _ j hj])
  (fun _ _ h=>h)
  ⟨rfl,fun q y hy ho=>by
   obtain⟨rfl,rfl⟩:=tC (oq l') hy ho
   refine⟨_,hu,PY,gS.2 (.inr ⟨cR,off,cap,c',t,by rw[adO,adO,hlen],by rw[adO]at eU⊢;omega,fp,by rwa[Gd],fun i x hx=>?_⟩)⟩
   rw[adQ]at hx
   cases UF:l'[i]? with
   |none=>rw[UF]at hx;cases hx
   |some y=>
    rw[UF]at hx;injection hx with hx;subst hx
    refine⟨by rw[he,adO,hk],fun j d hd=>?_⟩
    rw[he,adQ]at hd
    cases hn:(vals y)[j]? with
    |none=>rw[hn]at hd;cases hd
    |some n=>
     rw[hn]at hd;injection hd with hd;subst hd
     exact⟨rfl,_,X7 i y j n UF hn,.inr ⟨rfl,.int _ _⟩⟩⟩
  (fun q q' y y' u v b e1 e2 _ _ f1 f2 _ _=>by rw[(tC (oq l') e1 e2).1,(tC (oq l') f1 f2).1])
  (fun b ⟨q,y,u,h1,h2,h3,h4⟩=>by
   obtain⟨rfl,rfl⟩:=tC (oq l') h1 h2
   rw[hu]at h3;injection h3 with h3;subst h3
   exact .inr (.inl (Qs b h4)))
  (fun b hb fy _=>BL.grown.block b hb fun h=>fy (Qs b h.symm))
  (fun b hb=>by
   rcases hb with h5|⟨_,h5,_⟩
   ·exact cY.own 0 b h5
   ·exact h5.elim)
  BL.grown.size BL.grown.os BL.grown.tape BL.grown.output
 refine⟨_,[],_,G',rfl,⟨rfl,l',hRl,rfl⟩,?_⟩
 refine⟨k7.fit,fun i hi=>?_,.gm [] [] rfl (by simp),k7.mem,k7.fE,k7.wC,fun b hb hO=>⟨k7.zZ b hb (fun⟨i,h⟩=>hO i h),k7.nF b hb (fun⟨i,h⟩=>hO i h)⟩,k7.gJ,k7.os,k7.tape,k7.output,k7.grow⟩
 rw[Uu _ i (by omega)]
 exact hK3 i (by omega)
theorem y7(w:World)(cR b:Nat)(f:Array Value->Array Value)(h:b≠cR):(mapBlock w cR f).heap[b]?=w.heap[b]?:=by
 unfold mapBlock
 grind
theorem AH(w:World)(cR:Nat)(f:Array Value->Array Value){c:Array Value}{t:TypeId}{fr:Nat×Nat}(h:w.heap[cR]?=some (.cells c t fr)):(mapBlock w cR f).heap[cR]?=some (.cells (f c) t fr):=by
 unfold mapBlock
 simp[Array.getElem?_modify,h]
 rfl
theorem vY{α:Type}{vals:α->List Int}{k:Nat}{β:Type}[Inhabited β]{enc:β->Value}{F:Array β}{w:World}{cR off n:Nat}{os:Array Obj}{l':List α}(hw:cR<w.heap.size)
 (hF:∀(i:Nat) (x:α) (j:Nat) (n:Int),l'[i]?=some x->(vals x)[j]?=some n->i*k+j<F.size/\enc F[i*k+j]! = .int .i64 n)
 (hc:∀c t fr,w.heap[cR]?=some (.cells c t fr)->off+F.size<=c.size):Gc vals k w (grow (putRow enc (Sort.ahead w n) cR off F) os) cR off l':=by
 have hs:(putRow enc (Sort.ahead w n) cR off F).heap.size=w.heap.size:=by simp_all
 refine⟨⟨rfl,rfl,rfl,?_,fun b hb c6=>?_⟩,fun c t fr h=>?_⟩
 ·simp_all
 ·show((putRow enc _ cR off F).heap++os)[b]?=_
  rw[Array.getElem?_append_left (by omega)]
  exact y7 _ _ _ _ fun h=>c6 (by grind)
 ·refine⟨putCells enc off F c,?_,by simp[putCells],fun i x j m hx hm=>?_⟩
  ·show((putRow enc _ cR off F).heap++os)[cR]?=_
   rw[Array.getElem?_append_left (by omega)]
   exact AH _ _ _ h
  ·obtain⟨h1,h2⟩:=hF i x j m hx hm
   have h3:=hc c t fr h
   rw[putCells,Array.getElem?_mapIdx,aeo (by omega)]
   grind
end Go.TM
