import Derived.Test.YtmojfblpbcficaaGreatDoorUM43
import Derived.Test.YtmojfblpbcficaaGreatDoorUM40
import Derived.Test.YtmojfblpbcficaaGreatDoorUM18
import Derived.Test.YtmojfblpbcficaaGreatDoorCards
import Derived.Test.YtmojfblpbcficaaGreatDoorTie
import Derived.WalkKit
import Derived.ProofKit
import Derived.OpenShut
import Derived.JoinedCond
import Derived.Carry
import Derived.ChangeSlices
import Derived.Deep.DeepHandedRow
import Derived.Lib.LaidTab
set_option linter.all false
open Go.TM.oA Go.TM.oB Go.TM.oC Go.TM.oD Go.TM.oE
namespace Go.Proofs.YtmojfblpbcficaaGreatDoor
set_option maxRecDepth 100000
set_option maxHeartbeats 4000000
section
open Go.TM
def abH(sh:Int):ae:=[(1,.tree 0 0 (.omap eb [])),(2,.tree 0 0 (.omap cr [])),(3,.tree 0 0 (.omap cr [])),(4,.tree 0 0 (.omap cr [])),(5,.cells (.dv (I sh)::ed gE++[.own 1 0 0 [],.own 2 0 0 [],.own 6 0 0 [],.own 7 0 0 [],.own 3 0 0 [],.own 4 0 0 []])),(6,.tree 0 0 (.aD 7 [])),(7,.tree 0 0 (.aD 11 []))]
def sp1:cJ:=⟨0,0,0,0,-1,0,[⟨0,1,1,5,[]⟩]⟩
def sp2:cJ:=⟨0,2,0,0,-1,0,[⟨1,2,1,3,[]⟩]⟩
def R0:RL:=⟨0,[],[],[]⟩
def R1:RL:=LW R0 sp1
def R2:RL:=LW R1 sp2
theorem R5(R:RL)(k fr to n:Int)(h5:om k=false)(hb:du ⟨fr,to,1,n,[]⟩=true):fA R ⟨0,k,0,0,-1,0,[⟨fr,to,1,n,[]⟩]⟩:=
 ⟨by unfold tw;simp,by simp,fun m hm=>by rw[ado]at hm;subst hm;simp,fun _=>Wb fun m hm=>by
  rw[ado]at hm;subst hm
  have hn:¬(k=5\/k=7\/k=9):=adA h5
  exact⟨hb,.inr ⟨fun e=>hn (.inl e),fun e=>hn (.inr (.inr e)),rfl⟩⟩⟩
variable [bp]
theorem J9(sh:Int)(h:0<=sh/\sh<=11):aj Tryz.prog 42 [.dv (I sh),cH F3] 0 [] 8 [.ptr 5 0,.dv (I 0)] (abH sh):=by
 refine cO Tryz.func42 rfl (by kernel_rfl) ?_
 repeat refine gG ?_
 refine T5 (fun hc=>?_) fun _=>?_
 ·simp[bw]at hc;omega
 refine .inl ⟨_,fun _=>y9.ok,?_⟩
 refine T5 (fun h=>by cases h) fun _=>?_
 refine .inl ⟨_,fun _=>BI.ok,?_⟩
 refine⟨eb,cr,cr,cr,?_⟩
 refine⟨_,_,⟨rfl,rfl⟩,by kernel_rfl,⟨rfl,rf,tv⟩,?_⟩
 repeat' first|exact trivial|rfl|exact rf|exact zC|exact⟨rfl,rfl,rfl,rfl,_,rfl⟩|exact⟨rfl,rfl,_,rfl⟩|refine T5 ?_ ?_
theorem zZ:aN Tryz.prog 12 [] [B true]:=by
 have o1:pj R0 sp1=0:=by kernel_rfl
 have o2:pj R1 sp2=0:=by kernel_rfl
 have o3:pj R2 sp2=10:=by kernel_rfl
 have DB:Inv ⟨0,[],[],[],[],[],[]⟩ R0:=YM (by omega)
 rcases qZ (s:=sp1) xG DB (by simp[R0]) (R5 R0 0 0 1 5 rfl rfl)with⟨h,_⟩|⟨_,P1,Oc,h1,_⟩
 ·exact absurd o1 h
 have Oc:Inv P1 R1:=Oc
 rcases qZ (s:=sp2) xG Oc (by simp[R0,R1,LW]) (R5 _ 2 1 2 3 rfl rfl)with⟨h,_⟩|⟨_,P2,uo,h2,_⟩
 ·exact absurd o2 h
 have uo:Inv P2 R2:=uo
 rcases qZ (s:=sp2) xG uo (by simp[R0,R1,R2,LW]) (R5 _ 2 1 2 3 rfl rfl)with⟨_,h3,_⟩|⟨h,_⟩
 rotate_left
 ·exact absurd (o3.symm.trans h) (by decide)
 rw[o3]at h3
 rw[show R1.sh*4294967296+(R1.sp.length:Int)=1 by kernel_rfl]at h2
 have q1:=mE P2 1 1 (by rw[uo.mB];exact Nat.le_trans (uo.fj.mB _).2 (by have:=uo.fj.fl;omega))
 have q2:=mE P2 2 1 (by rw[uo.mB];exact Nat.le_trans (uo.fj.mB _).2 (by have:=uo.fj.fl;omega))
 have q3:=wx P2 1
 rw[uo.mB,show aW R2.st (1,1)=[⟨0,3,2⟩]by kernel_rfl]at q1
 rw[uo.mB,show aW R2.st (2,1)=[⟨1,0,3⟩]by kernel_rfl]at q2
 rw[uo.b9,show bK R2.st 1=5 by kernel_rfl]at q3
 clear DB Oc uo o1 o2 o3
 refine pO Tryz.func12 rfl (by kernel_rfl) rfl ?_
 refine .inl ⟨_,fun _=>y8.ok,?_⟩
 refine .inr (cl [] (J9 0 (by omega)) (by kernel_rfl) rfl rfl ?_)
 repeat refine gG ?_
 refine T5 (fun h=>by cases h) fun _=>?_
 refine .inl ⟨[ao ⟨0,1,1,5,[]⟩],rfl,⟨rf,rf,rf,rf,DV.aI 3,tv⟩,(by simp;rfl),?_⟩
 refine .inr (cl [5,1,2,6,7,3,4] h1 (by kernel_rfl) rfl rfl ?_)
 refine .inl ⟨[ao ⟨1,2,1,3,[]⟩],rfl,⟨rf,rf,rf,rf,DV.aI 3,tv⟩,(by simp;rfl),?_⟩
 refine .inr (cl [5,1,2,6,7,3,4] h2 (by kernel_rfl) rfl rfl ?_)
 refine .inl ⟨[ao ⟨1,2,1,3,[]⟩],rfl,⟨rf,rf,rf,rf,DV.aI 3,tv⟩,(by simp;rfl),?_⟩
 refine .inr (cl [5,1,2,6,7,3,4] h3 (by kernel_rfl) rfl rfl ?_)
 repeat refine gG ?_
 refine .inr (cl [5,1,2,6,7,3,4] q1 (by kernel_rfl) rfl rfl ?_)
 refine⟨by kernel_rfl,?_⟩
 repeat refine gG ?_
 conv=>whnf
 refine Or.inl ?_
 refine T5 id ?_
 refine Or.inl ?_
 refine⟨[aA ⟨0,3,2⟩],rfl,⟨rf,rf,rf,tv⟩,(by simp;rfl),?_⟩
 refine⟨by kernel_rfl,?_⟩
 repeat refine gG ?_
 conv=>whnf
 refine Or.inl ?_
 refine⟨_,fun _=>(kX [⟨0,3,2⟩] (by simp)).ok,?_⟩
 repeat refine gG ?_
 conv=>whnf
 refine .inr (cl [5,1,2,6,7,3,4] q2 (by kernel_rfl) rfl rfl ?_)
 refine⟨by kernel_rfl,?_⟩
 repeat refine gG ?_
 conv=>whnf
 refine Or.inl ?_
 refine T5 id ?_
 refine Or.inl ?_
 refine⟨[aA ⟨1,0,3⟩],rfl,⟨rf,rf,rf,tv⟩,(by simp;rfl),?_⟩
 refine⟨by kernel_rfl,?_⟩
 repeat refine gG ?_
 conv=>whnf
 refine Or.inl ?_
 refine⟨_,fun _=>(kX [⟨1,0,3⟩] (by simp)).ok,?_⟩
 repeat refine gG ?_
 conv=>whnf
 refine .inr (cl [5,1,2,6,7,3,4] q3 (by kernel_rfl) rfl rfl ?_)
 refine⟨by kernel_rfl,?_⟩
 repeat refine gG ?_
 exact⟨rf,tv⟩
end
section
open Go.TM Go.ChangeShapes Go.WideShapes Go.ChangeAt Go.RowKit
theorem own:ownKnob Tryz.prog.godebug=none:=by kernel_rfl
theorem laidOut:laidOutB Tryz.prog=true:=by kernel_rfl
theorem R6{n:Int}(h:(Lit.int .i64 n).wf=true):tw n:=by simpa[tw,Lit.wf,IntKind.min,IntKind.max,IntKind.signed,IntKind.bits]using h
theorem xH{H:Type}{enc:TypeId×Value->H}{W:World}{v:Value}{d:DataW H}{p:List MemPlace}(hv:∃a len cap,v=.slice a len cap)(h:DataW.Trod enc Tryz.prog W 0 (fun _=>true) true 22 v d p):
 ∃zs:List Int,bz (fun b=>W.heap[b]?) (Ints zs) v/\∀x,x∈zs->tw x:=by
 obtain⟨fuel,h⟩:=h
 obtain⟨a0,l0,c0,rfl⟩:=hv
 rcases open_ints Tryz.underlying22 Tryz.underlying3 (by kernel_rfl) h with⟨h1,-⟩|⟨a,len,cap,zs,h1,h2,h3,h4,h5,h6,h7,h8⟩
 ·simp[Value.cells]at h1
  obtain⟨rfl,rfl,rfl⟩:=h1
  exact⟨[],.slnil 1,fun x hx=>by simp at hx⟩
 ·simp[Value.cells]at h1
  obtain⟨rfl,rfl,rfl⟩:=h1
  simp only[if_true]at h5
  have hlen:((zs.take l0).map I).length=l0:=by simp;omega
  refine⟨zs.take l0,?_,fun x hx=>R6 (h8 x (List.mem_of_mem_take hx))⟩
  ·have hd:=bz.sl (M:=fun b=>W.heap[b]?) 1 ((zs.take l0).map I) a c0 (fun i _=>.int .i64 (zs.getD i 0)) (by rw[hlen];exact h3) (fun x hx=>by
    obtain⟨n,-,rfl⟩:=adK.1 hx
    exact⟨rfl,fun d hd=>by simp only[DV.cells,ado]at hd;subst hd;rfl⟩) (fun i j hi hj=>by
    have hj0:j=0:=by omega
    subst hj0
    rw[hlen]at hi
    have:=h7 i (by omega)
    rw[Nat.mul_one,Nat.add_zero]
    exact this) (fun i x j d hx hd=>by
    have hi:i<l0:=by
     have:=(W8.1 hx).1
     rw[hlen]at this;exact this
    rw[abW,List.getElem?_take_of_lt hi,IF (by omega)]at hx
    simp only[Option.map_some,Option.some.injEq]at hx
    subst hx
    match j,hd with
    |0,hd=>
     simp only[DV.cells,List.getElem?_cons_zero,Option.some.injEq]at hd
     subst hd
     have e:zs.getD i 0=zs[i]'(by omega):=by simp[List.getD,IF (show i<zs.length by omega)]
     rw[e]
     exact .int .i64 _
    |j+1,hd=>simp[DV.cells]at hd)
   rw[hlen]at hd
   exact hd
theorem Ho{W:World}(h:laidMetH Tryz.prog [("worldmint/lexer.kinds",Rows.laid_worldmint_lexer_kinds)] W):∃(ty:TypeId) (fr:Nat×Nat),W.heap[0]?=some (.cells MQ ty fr):=by
 have ht:Lib.TabIs Tryz.prog W "worldmint/lexer.kinds" .u8 (BH.map fun n=>((n:Nat):Int)):=
  Lib.tabIs_of_head (rest:=[]) (g:=0) (t:=314) (e:=5) (n:=128) (by kernel_rfl) (by kernel_rfl) Tryz.underlying314 Tryz.underlying5 (by kernel_rfl) (by kernel_rfl) h
 have hg:Tryz.prog.globalNamed "worldmint/lexer.kinds"=some 0:=by kernel_rfl
 unfold Lib.TabIs World.var? at ht
 rw[hg]at ht
 simp only[Option.bind_some]at ht
 split at ht
 ·rename_i cs ty fr hh
  injection ht with ht
  refine⟨ty,fr,?_⟩
  rw[hh,ht]
  simp only[MQ,List.map_map]
  rfl
 ·cases ht
def Ci(w:World):World:={ w with heap:=w.heap.modify 0 fun
 |.cells _ t frozen=>.cells MQ t frozen
 |o=>o }
end
end Go.Proofs.YtmojfblpbcficaaGreatDoor
