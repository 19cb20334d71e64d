import Derived.Test.YtmojfblpbcficaaGreatDoorCM43
import Derived.Test.YtmojfblpbcficaaGreatDoorCM44
import Derived.Test.YtmojfblpbcficaaGreatDoorCM42
import Derived.Test.YtmojfblpbcficaaGreatDoorCM40
import Derived.Test.YtmojfblpbcficaaGreatDoorCM19
import Derived.Test.YtmojfblpbcficaaGreatDoorCards
import Derived.Test.YtmojfblpbcficaaGreatDoorTie
import Derived.WalkKit
import Derived.ProofKit
import Derived.OpenShut
import Derived.JoinedCond
import Derived.Carry
import Derived.ChangeSlices
import Derived.Deep.DeepHandedRow
import Derived.Lib.LaidTab
set_option linter.all false
open Go.TM.oA Go.TM.oB Go.TM.oC Go.TM.oD Go.TM.oE
namespace Go.Proofs.YtmojfblpbcficaaGreatDoor
set_option maxRecDepth 100000
set_option maxHeartbeats 4000000
section
open Go.TM
variable [bp]
theorem zw(hLv:aQ Tryz.prog 12 [] [B true])(n k:List Int):aQ Tryz.prog 3 [Ints n,Ints k] [B true]:=by
 obtain⟨P,R,hF,hs⟩:=GD (J:=Cons) (A:=fun _=>True) ⟨fun _=>rfl,nofun⟩ (fun P R s h lU hs _ h0 hC=>MS h.fI h.dx hC (by have:=hs.len;have:=h.fll;omega) hs h0) n k fun _ _=>trivial
 exact DJ hF.inv hF.j hLv n k hs
end
section
open Go.TM
def aaG(sh:Int):ae:=[(1,.tree 0 0 (.omap eh [])),(2,.tree 0 0 (.omap cy [])),(3,.tree 0 0 (.omap cy [])),(4,.tree 0 0 (.omap cy [])),(5,.cells (.dv (I sh)::eV iP++[.own 1 0 0 [],.own 2 0 0 [],.own 6 0 0 [],.own 7 0 0 [],.own 3 0 0 [],.own 4 0 0 []])),(6,.tree 0 0 (.aC 7 [])),(7,.tree 0 0 (.aC 11 []))]
def sp1:cM:=⟨0,0,0,0,-1,0,[⟨0,1,1,5,[]⟩]⟩
def sp2:cM:=⟨0,2,0,0,-1,0,[⟨1,2,1,3,[]⟩]⟩
def R0:RL:=⟨0,[],[],[]⟩
def R1:RL:=Nj R0 sp1
def R2:RL:=Nj R1 sp2
theorem Q7(R:RL)(k fr to n:Int)(h5:nZ k=false)(hb:dA ⟨fr,to,1,n,[]⟩=true):fQ R ⟨0,k,0,0,-1,0,[⟨fr,to,1,n,[]⟩]⟩:=
 ⟨by unfold vD;simp,by simp,fun m hm=>by rw[aco]at hm;subst hm;simp,fun _=>U9 fun m hm=>by
  rw[aco]at hm;subst hm
  have hn:¬(k=5\/k=7\/k=9):=acB h5
  exact⟨hb,.inr ⟨fun e=>hn (.inl e),fun e=>hn (.inr (.inr e)),rfl⟩⟩⟩
variable [bp]
theorem Jf(sh:Int)(h:0<=sh/\sh<=11):ao Tryz.prog 42 [.dv (I sh),cF Fl] 0 [] 8 [.ptr 5 0,.dv (I 0)] (aaG sh):=by
 refine cO Tryz.func42 rfl (by kernel_rfl) ?_
 repeat refine gG ?_
 refine acg (fun hc=>?_) fun _=>?_
 ·simp[bw]at hc;omega
 refine .inl ⟨_,fun _=>yI.ok,?_⟩
 refine acg (fun h=>by cases h) fun _=>?_
 refine .inl ⟨_,fun _=>Bg.ok,?_⟩
 refine⟨eh,cy,cy,cy,?_⟩
 refine⟨_,_,⟨rfl,rfl⟩,by kernel_rfl,⟨rfl,rf,tv⟩,?_⟩
 repeat' first|exact trivial|rfl|exact rf|exact y6|exact⟨rfl,rfl,rfl,rfl,_,rfl⟩|exact⟨rfl,rfl,_,rfl⟩|refine acg ?_ ?_
theorem Jg:aQ Tryz.prog 12 [] [B true]:=by
 have o1:r6 R0 sp1=0:=by kernel_rfl
 have o2:r6 R1 sp2=0:=by kernel_rfl
 have o3:r6 R2 sp2=10:=by kernel_rfl
 have FF:Inv ⟨0,[],[],[],[],[],[]⟩ R0:=aaF (by omega)
 rcases qA (s:=sp1) xe FF (by simp[R0]) (Q7 R0 0 0 1 5 rfl rfl)with⟨h,_⟩|⟨_,P1,Nc,h1,_⟩
 ·exact absurd o1 h
 have Nc:Inv P1 R1:=Nc
 rcases qA (s:=sp2) xe Nc (by simp[R0,R1,Nj]) (Q7 _ 2 1 2 3 rfl rfl)with⟨h,_⟩|⟨_,P2,tL,h2,_⟩
 ·exact absurd o2 h
 have tL:Inv P2 R2:=tL
 rcases qA (s:=sp2) xe tL (by simp[R0,R1,R2,Nj]) (Q7 _ 2 1 2 3 rfl rfl)with⟨_,h3,_⟩|⟨h,_⟩
 rotate_left
 ·exact absurd (o3.symm.trans h) (by decide)
 rw[o3]at h3
 rw[show R1.sh*4294967296+(R1.sp.length:Int)=1 by kernel_rfl]at h2
 have q1:=vP P2 1 1 (by rw[tL.sj];exact Nat.le_trans (tL.fI.sj _).2 (by have:=tL.fI.fl;omega))
 have q2:=vP P2 2 1 (by rw[tL.sj];exact Nat.le_trans (tL.fI.sj _).2 (by have:=tL.fI.fl;omega))
 have q3:=vQ P2 1
 rw[tL.sj,show bP R2.st (1,1)=[⟨0,3,2⟩]by kernel_rfl]at q1
 rw[tL.sj,show bP R2.st (2,1)=[⟨1,0,3⟩]by kernel_rfl]at q2
 rw[tL.b7,show bG R2.st 1=5 by kernel_rfl]at q3
 clear FF Nc tL o1 o2 o3
 refine pO Tryz.func12 rfl (by kernel_rfl) rfl ?_
 refine .inl ⟨_,fun _=>yH.ok,?_⟩
 refine .inr (cl [] (Jf 0 (by omega)) (by kernel_rfl) rfl rfl ?_)
 repeat refine gG ?_
 refine acg (fun h=>by cases h) fun _=>?_
 refine .inl ⟨[aq ⟨0,1,1,5,[]⟩],rfl,⟨rf,rf,rf,rf,DV.aK 3,tv⟩,(by simp;rfl),?_⟩
 refine .inr (cl [5,1,2,6,7,3,4] h1 (by kernel_rfl) rfl rfl ?_)
 refine .inl ⟨[aq ⟨1,2,1,3,[]⟩],rfl,⟨rf,rf,rf,rf,DV.aK 3,tv⟩,(by simp;rfl),?_⟩
 refine .inr (cl [5,1,2,6,7,3,4] h2 (by kernel_rfl) rfl rfl ?_)
 refine .inl ⟨[aq ⟨1,2,1,3,[]⟩],rfl,⟨rf,rf,rf,rf,DV.aK 3,tv⟩,(by simp;rfl),?_⟩
 refine .inr (cl [5,1,2,6,7,3,4] h3 (by kernel_rfl) rfl rfl ?_)
 repeat refine gG ?_
 refine .inr (cl [5,1,2,6,7,3,4] q1 (by kernel_rfl) rfl rfl ?_)
 refine⟨by kernel_rfl,?_⟩
 repeat refine gG ?_
 conv=>whnf
 refine Or.inl ?_
 refine acg id ?_
 refine Or.inl ?_
 refine⟨[az ⟨0,3,2⟩],rfl,⟨rf,rf,rf,tv⟩,(by simp;rfl),?_⟩
 refine⟨by kernel_rfl,?_⟩
 repeat refine gG ?_
 conv=>whnf
 refine Or.inl ?_
 refine⟨_,fun _=>(Bw [⟨0,3,2⟩] (by simp)).ok,?_⟩
 repeat refine gG ?_
 conv=>whnf
 refine .inr (cl [5,1,2,6,7,3,4] q2 (by kernel_rfl) rfl rfl ?_)
 refine⟨by kernel_rfl,?_⟩
 repeat refine gG ?_
 conv=>whnf
 refine Or.inl ?_
 refine acg id ?_
 refine Or.inl ?_
 refine⟨[az ⟨1,0,3⟩],rfl,⟨rf,rf,rf,tv⟩,(by simp;rfl),?_⟩
 refine⟨by kernel_rfl,?_⟩
 repeat refine gG ?_
 conv=>whnf
 refine Or.inl ?_
 refine⟨_,fun _=>(Bw [⟨1,0,3⟩] (by simp)).ok,?_⟩
 repeat refine gG ?_
 conv=>whnf
 refine .inr (cl [5,1,2,6,7,3,4] q3 (by kernel_rfl) rfl rfl ?_)
 refine⟨by kernel_rfl,?_⟩
 repeat refine gG ?_
 exact⟨rf,tv⟩
end
section
open Go.TM Go.ChangeShapes Go.WideShapes Go.ChangeAt Go.RowKit
theorem own:ownKnob Tryz.prog.godebug=none:=by kernel_rfl
theorem laidOut:laidOutB Tryz.prog=true:=by kernel_rfl
theorem Xw{n:Int}(h:(Lit.int .i64 n).wf=true):vD n:=by simpa[vD,Lit.wf,IntKind.min,IntKind.max,IntKind.signed,IntKind.bits]using h
theorem KY{H:Type}{enc:TypeId×Value->H}{W:World}{v:Value}{d:DataW H}{p:List MemPlace}(hv:∃a len cap,v=.slice a len cap)(h:DataW.Trod enc Tryz.prog W 0 (fun _=>true) true 22 v d p):
 ∃zs:List Int,bq (fun b=>W.heap[b]?) (Ints zs) v/\∀x,x∈zs->vD x:=by
 obtain⟨fuel,h⟩:=h
 obtain⟨a0,l0,c0,rfl⟩:=hv
 rcases open_ints Tryz.underlying22 Tryz.underlying3 (by kernel_rfl) h with⟨h1,-⟩|⟨a,len,cap,zs,h1,h2,h3,h4,h5,h6,h7,h8⟩
 ·simp[Value.cells]at h1
  obtain⟨rfl,rfl,rfl⟩:=h1
  exact⟨[],.slnil 1,fun x hx=>by simp at hx⟩
 ·simp[Value.cells]at h1
  obtain⟨rfl,rfl,rfl⟩:=h1
  simp only[if_true]at h5
  have hlen:((zs.take l0).map I).length=l0:=by simp;omega
  refine⟨zs.take l0,?_,fun x hx=>Xw (h8 x (List.mem_of_mem_take hx))⟩
  ·have hd:=bq.sl (M:=fun b=>W.heap[b]?) 1 ((zs.take l0).map I) a c0 (fun i _=>.int .i64 (zs.getD i 0)) (by rw[hlen];exact h3) (fun x hx=>by
    obtain⟨n,-,rfl⟩:=acL.1 hx
    exact⟨rfl,fun d hd=>by simp only[DV.cells,aco]at hd;subst hd;rfl⟩) (fun i j hi hj=>by
    have hj0:j=0:=by omega
    subst hj0
    rw[hlen]at hi
    have:=h7 i (by omega)
    rw[Nat.mul_one,Nat.add_zero]
    exact this) (fun i x j d hx hd=>by
    have hi:i<l0:=by
     have:=(aci.1 hx).1
     rw[hlen]at this;exact this
    rw[acj,List.getElem?_take_of_lt hi,aaS (by omega)]at hx
    simp only[Option.map_some,Option.some.injEq]at hx
    subst hx
    match j,hd with
    |0,hd=>
     simp only[DV.cells,List.getElem?_cons_zero,Option.some.injEq]at hd
     subst hd
     have e:zs.getD i 0=zs[i]'(by omega):=by simp[List.getD,aaS (show i<zs.length by omega)]
     rw[e]
     exact .int .i64 _
    |j+1,hd=>simp[DV.cells]at hd)
   rw[hlen]at hd
   exact hd
theorem Q8{W:World}(h:laidMetH Tryz.prog [("worldmint/lexer.kinds",Rows.laid_worldmint_lexer_kinds)] W):∃(ty:TypeId) (fr:Nat×Nat),W.heap[0]?=some (.cells LQ ty fr):=by
 have ht:Lib.TabIs Tryz.prog W "worldmint/lexer.kinds" .u8 (Bf.map fun n=>((n:Nat):Int)):=
  Lib.tabIs_of_head (rest:=[]) (g:=0) (t:=314) (e:=5) (n:=128) (by kernel_rfl) (by kernel_rfl) Tryz.underlying314 Tryz.underlying5 (by kernel_rfl) (by kernel_rfl) h
 have hg:Tryz.prog.globalNamed "worldmint/lexer.kinds"=some 0:=by kernel_rfl
 unfold Lib.TabIs World.var? at ht
 rw[hg]at ht
 simp only[Option.bind_some]at ht
 split at ht
 ·rename_i cs ty fr hh
  injection ht with ht
  refine⟨ty,fr,?_⟩
  rw[hh,ht]
  simp only[LQ,List.map_map]
  rfl
 ·cases ht
def Q9(w:World):World:={ w with heap:=w.heap.modify 0 fun
 |.cells _ t frozen=>.cells LQ t frozen
 |o=>o }
end
end Go.Proofs.YtmojfblpbcficaaGreatDoor
