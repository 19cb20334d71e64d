/- LedgerSteps: for every input the law returns true. The card: the lexer's table is as the program's text lays it. -/
import Derived.Test.YtpbiiigpphehbaaGreatDoorFM49
import Derived.Test.YtpbiiigpphehbaaGreatDoorFM28
import Derived.Test.YtpbiiigpphehbaaGreatDoorCards
import Derived.Test.YtpbiiigpphehbaaGreatDoorTie
import Derived.WalkKit
import Derived.ProofKit
import Derived.OpenShut
import Derived.JoinedCond
import Derived.Carry
import Derived.ChangeSlices
import Derived.Deep.DeepHandedRow
import Derived.Lib.LaidTab
set_option linter.all false
namespace Go.Proofs.YtpbiiigpphehbaaGreatDoor
set_option maxRecDepth 100000
set_option maxHeartbeats 4000000
section
open Go.TM
def lsK(P:PL)(R:RL):ae:=[(1,.tree 0 0 (.omap ey (pI P.st))),(2,.tree 0 0 (.omap cC (nZ P.b8))),(3,.tree 0 0 (.omap cC (pJ P.imp))),(4,.tree 0 0 (.omap cC (pJ P.ret))),(5,.cells (.dv (I P.sh)::eB iO++[.own 1 0 0 [],.own 2 0 0 [],.own 8 0 0 [],.own 9 0 0 [],.own 3 0 0 [],.own 4 0 0 []])),(7,.cells (.dv (I R.sh)::eB iO++[.own 10 0 0 [],.own 11 0 0 [],.own 12 0 0 []])),(8,.tree 0 0 (.aB 7 (P.sp.map aC))),(9,.tree 0 0 (.aB 11 (P.fl.map aM))),(10,.tree 0 0 (.aB 3 (R.st.map gy))),(11,.tree 0 0 (.aB 11 (R.fl.map aM))),(12,.tree 0 0 (.aB 7 (R.sp.map aC)))]
variable [bJ]
theorem I5(hLv:aO Tryz.prog 11 [] [B true])(sh w y:Int)(n:List Int)(hy:oC y):aO Tryz.prog 4 [I sh,Ints n,.we .i64 w w,I y] [B true]:=by
 have hb:=uY sh 12 (by omega)
 refine pO Tryz.func4 rfl (by kernel_rfl) rfl ?_
 refine .inr (cl [] (MA sh) (by kernel_rfl) rfl rfl ?_)
 refine aby (fun h=>by cases h) fun _=>?_
 refine⟨Nat×PL×RL,fun x=>⟨13,[(1,.dv (Ints n)),(2,.dv (.we .i64 w w)),(3,.dv (I y)),(9,.ptr 5 0),(10,.ptr 7 0),(12,.dv (I x.1))],lsK x.2.1 x.2.2⟩,fun x=>x.1<=14/\Inv x.2.1 x.2.2/\x.2.2.sp.length<=x.1,fun x=>14-x.1,(0,⟨cV sh 12,[],[],[],[],[],[]⟩,⟨cV sh 12,[],[],[]⟩),fun _=>rfl,?_,⟨by simp,Z2 ⟨hb.1,by omega⟩,by simp⟩,?_⟩
 ·refine⟨⟨rf,rf,rf,rfl,rfl,rf,tv⟩,?_,rfl,rfl⟩
  repeat' first|exact trivial|rfl|exact rf|exact⟨rfl,rfl,rfl,rfl,_,rfl⟩|exact⟨rfl,rfl,_,rfl⟩|refine aby ?_ ?_
 rintro⟨i,P,R⟩ ⟨hi,hI,l6⟩
 simp only at hi hI l6
 refine aby (fun h=>?_) fun h=>?_
 rotate_left
 ·refine .inl ⟨_,fun _=>hLv.ok,?_⟩
  exact⟨rf,tv⟩
 have au:i<14:=by have:=abQ h;omega
 have hG:=hI.mg
 refine⟨fun _=>⟨by omega,by omega⟩,?_⟩
 refine .inr (cl [7,10,11,12] (MB R n (6*i) ⟨by omega,by omega⟩ hG.rg) (by kernel_rfl) rfl rfl ?_)
 have dQ:=Td R n (6*i) hG.sh
 generalize zG R n (6*i)=s at*
 refine⟨fun _=>⟨by omega,by omega⟩,fun _=>⟨by omega,by omega⟩,?_⟩
 refine .inl ⟨_,fun _=>(bB n (6*i+5) 4 (by omega) (by omega)).ok,?_⟩
 refine aby (fun hc=>?_) fun hc=>?_
 conv=>whnf
 rw[abW (rfl:w=w)]
 have hg:=MC dQ (IntKind.i64.wrap (w+i)) hy
 have aa3:=Gz s (IntKind.i64.wrap (w+i)) y (by have:=dQ.len.1;intro e;rw[e]at this;simp at this) (by have:=dQ.len.2;omega)
 generalize pT s (IntKind.i64.wrap (w+i)) y=t at*
 refine .inl ⟨_,fun _=>aa3.ok,?_⟩
 rotate_left
 have hg:=WC dQ
 generalize s=t at*
 all_goals
  have hlR:(S9 R t).sp.length=R.sp.length+1:=by simp[S9]
  have hss:=tD xg hI (by omega) (Te hg)
  generalize zC R t=e at*
  generalize S9 R t=R' at*
  generalize R.sh*4294967296+(R.sp.length:Int)=x at*
  rcases hss with⟨he,h1,h2,h3⟩|⟨_,P',hI',h1,h2,h3⟩
  ·refine .inr (cl [5,1,2,8,9,3,4] h1 (by kernel_rfl) rfl rfl ?_)
   refine .inr (cl [5,1,2,8,9,3,4] h2 (by kernel_rfl) rfl rfl ?_)
   rcases h3 with h3|h3
   ·refine .inr (cl [7,10,11,12] h3 (by kernel_rfl) rfl rfl ?_)
    repeat first|apply g1|apply g2|apply g3|apply g4|apply g5
    conv=>whnf
    rw[(bne_self_eq_false e:(e !=e)=false)]
    refine .inr (cl [5,1,2,8,9,3,4,7,10,11,12] (rW hI) (by kernel_rfl) rfl rfl ?_)
    refine⟨by kernel_rfl,?_⟩
    repeat first|apply g1|apply g2|apply g3|apply g4|apply g5
    refine aby (fun h=>?_) fun _=>?_
    ·exact Bool.noConfusion (show false=true from h)
    exact⟨fun _=>⟨by omega,by omega⟩,(i+1,P,R),jn rfl rfl rfl rfl,⟨au,hI,by simp only;omega⟩,mlt au⟩
   ·refine .inr (cl [7,10,11,12] h3 (by kernel_rfl) rfl rfl ?_)
    repeat first|apply g1|apply g2|apply g3|apply g4|apply g5
    conv=>whnf
    rw[(bne_self_eq_false e:(e !=e)=false)]
    refine .inr (cl [5,1,2,8,9,3,4,7,10,11,12] (rW hI) (by kernel_rfl) rfl rfl ?_)
    refine⟨by kernel_rfl,?_⟩
    repeat first|apply g1|apply g2|apply g3|apply g4|apply g5
    refine aby (fun h=>?_) fun _=>?_
    ·exact Bool.noConfusion (show false=true from h)
    exact⟨fun _=>⟨by omega,by omega⟩,(i+1,P,R),jn rfl rfl rfl rfl,⟨au,hI,by simp only;omega⟩,mlt au⟩
  ·refine .inr (cl [5,1,2,8,9,3,4] h1 (by kernel_rfl) rfl rfl ?_)
   refine .inr (cl [5,1,2,8,9,3,4] h2 (by kernel_rfl) rfl rfl ?_)
   refine .inr (cl [7,10,11,12] h3 (by kernel_rfl) rfl rfl ?_)
   repeat first|apply g1|apply g2|apply g3|apply g4|apply g5
   conv=>whnf
   rw[(bne_self_eq_false x:(x !=x)=false)]
   refine .inr (cl [5,1,2,8,9,3,4,7,10,11,12] (rW hI') (by kernel_rfl) rfl rfl ?_)
   refine⟨by kernel_rfl,?_⟩
   repeat first|apply g1|apply g2|apply g3|apply g4|apply g5
   refine aby (fun h=>?_) fun _=>?_
   ·exact Bool.noConfusion (show false=true from h)
   exact⟨fun _=>⟨by omega,by omega⟩,(i+1,P',R'),jn rfl rfl rfl rfl,⟨au,hI',by simp only;omega⟩,mlt au⟩
end
section
open Go.TM
def Z4(sh:Int):ae:=[(1,.tree 0 0 (.omap ey [])),(2,.tree 0 0 (.omap cC [])),(3,.tree 0 0 (.omap cC [])),(4,.tree 0 0 (.omap cC [])),(5,.cells (.dv (I sh)::eB iO++[.own 1 0 0 [],.own 2 0 0 [],.own 6 0 0 [],.own 7 0 0 [],.own 3 0 0 [],.own 4 0 0 []])),(6,.tree 0 0 (.aB 7 [])),(7,.tree 0 0 (.aB 11 []))]
def sp1:dJ:=⟨0,0,0,0,-1,0,[⟨0,1,1,5,[]⟩]⟩
def Z5:dJ:=⟨0,2,0,0,-1,0,[⟨1,2,1,3,[]⟩]⟩
def R0:RL:=⟨0,[],[],[]⟩
def R1:RL:=S9 R0 sp1
def R2:RL:=S9 R1 Z5
theorem QI(R:RL)(k fr to n:Int)(h5:mc k=false)(hb:fV ⟨fr,to,1,n,[]⟩=true):pt R ⟨0,k,0,0,-1,0,[⟨fr,to,1,n,[]⟩]⟩:=
 ⟨by unfold oC;simp,by simp,fun m hm=>by rw[abF]at hm;subst hm;simp,fun _ m hm=>by
  rw[abF]at hm;subst hm
  have hn:¬(k=5\/k=7\/k=9):=abR h5
  exact⟨hb,.inr (.inr ⟨fun e=>hn (.inl e),fun e=>hn (.inr (.inr e)),rfl⟩)⟩⟩
variable [bJ]
theorem I6(sh:Int)(h:0<=sh/\sh<=11):aq Tryz.prog 16 [.dv (I sh),cJ FC] 0 [] 8 [.ptr 5 0,.dv (I 0)] (Z4 sh):=by
 refine cO Tryz.func16 rfl (by kernel_rfl) ?_
 repeat first|apply g1|apply g2|apply g3|apply g4|apply g5
 refine aby (fun hc=>?_) fun _=>?_
 ·simp[bw]at hc;omega
 refine .inl ⟨_,fun _=>yT.ok,?_⟩
 refine aby (fun h=>by cases h) fun _=>?_
 refine .inl ⟨_,fun _=>Br.ok,?_⟩
 refine⟨ey,cC,cC,cC,?_⟩
 refine⟨_,_,⟨rfl,rfl⟩,by kernel_rfl,⟨rfl,rf,tv⟩,?_⟩
 repeat' first|exact trivial|rfl|exact rf|exact zk|exact⟨rfl,rfl,rfl,rfl,_,rfl⟩|exact⟨rfl,rfl,_,rfl⟩|refine aby ?_ ?_
theorem I7:aO Tryz.prog 11 [] [B true]:=by
 have o1:zC R0 sp1=0:=by kernel_rfl
 have o2:zC R1 Z5=0:=by kernel_rfl
 have o3:zC R2 Z5=10:=by kernel_rfl
 have FP:Inv ⟨0,[],[],[],[],[],[]⟩ R0:=Z2 ⟨by omega,by omega⟩
 rcases tD (s:=sp1) xg FP (by simp[R0]) (QI R0 0 0 1 5 rfl rfl)with⟨h,_⟩|⟨_,P1,MQ,_,h1,_⟩
 ·exact absurd o1 h
 have MQ:Inv P1 R1:=MQ
 rcases tD (s:=Z5) xg MQ (by simp[R0,R1,S9]) (QI _ 2 1 2 3 rfl rfl)with⟨h,_⟩|⟨_,P2,wB,_,h2,_⟩
 ·exact absurd o2 h
 have wB:Inv P2 R2:=wB
 rcases tD (s:=Z5) xg wB (by simp[R0,R1,R2,S9]) (QI _ 2 1 2 3 rfl rfl)with⟨_,_,h3,_⟩|⟨h,_⟩
 rotate_left
 ·exact absurd (o3.symm.trans h) (by decide)
 rw[o3]at h3
 rw[show R1.sh*4294967296+(R1.sp.length:Int)=1 by kernel_rfl]at h2
 have q1:=pK P2 1 1 (by rw[wB.wG];exact Nat.le_trans (wB.mg.wG _).2 (by have:=wB.mg.fl;omega))
 have q2:=pK P2 2 1 (by rw[wB.wG];exact Nat.le_trans (wB.mg.wG _).2 (by have:=wB.mg.fl;omega))
 have q3:=vU P2 1
 rw[wB.wG,show cr R2.st (1,1)=[⟨0,3,2⟩]by kernel_rfl]at q1
 rw[wB.wG,show cr R2.st (2,1)=[⟨1,0,3⟩]by kernel_rfl]at q2
 rw[wB.b8,show dp R2.st 1=5 by kernel_rfl]at q3
 clear FP MQ wB o1 o2 o3
 refine pO Tryz.func11 rfl (by kernel_rfl) rfl ?_
 refine .inl ⟨_,fun _=>yS.ok,?_⟩
 refine .inr (cl [] (I6 0 ⟨by omega,by omega⟩) (by kernel_rfl) rfl rfl ?_)
 repeat first|apply g1|apply g2|apply g3|apply g4|apply g5
 refine aby (fun h=>by cases h) fun _=>?_
 refine .inl ⟨[ak ⟨0,1,1,5,[]⟩],rfl,⟨rf,rf,rf,rf,DV.aL 3,tv⟩,(by simp;rfl),?_⟩
 refine .inr (cl [5,1,2,6,7,3,4] h1 (by kernel_rfl) rfl rfl ?_)
 refine .inl ⟨[ak ⟨1,2,1,3,[]⟩],rfl,⟨rf,rf,rf,rf,DV.aL 3,tv⟩,(by simp;rfl),?_⟩
 refine .inr (cl [5,1,2,6,7,3,4] h2 (by kernel_rfl) rfl rfl ?_)
 refine .inl ⟨[ak ⟨1,2,1,3,[]⟩],rfl,⟨rf,rf,rf,rf,DV.aL 3,tv⟩,(by simp;rfl),?_⟩
 refine .inr (cl [5,1,2,6,7,3,4] h3 (by kernel_rfl) rfl rfl ?_)
 repeat first|apply g1|apply g2|apply g3|apply g4|apply g5
 refine .inr (cl [5,1,2,6,7,3,4] q1 (by kernel_rfl) rfl rfl ?_)
 refine⟨by kernel_rfl,?_⟩
 repeat first|apply g1|apply g2|apply g3|apply g4|apply g5
 conv=>whnf
 refine Or.inl ?_
 refine aby id ?_
 refine Or.inl ?_
 refine⟨[aF ⟨0,3,2⟩],rfl,⟨rf,rf,rf,tv⟩,(by simp;rfl),?_⟩
 refine⟨by kernel_rfl,?_⟩
 repeat first|apply g1|apply g2|apply g3|apply g4|apply g5
 conv=>whnf
 refine Or.inl ?_
 refine⟨_,fun _=>(mT [⟨0,3,2⟩] (by simp)).ok,?_⟩
 repeat first|apply g1|apply g2|apply g3|apply g4|apply g5
 conv=>whnf
 refine .inr (cl [5,1,2,6,7,3,4] q2 (by kernel_rfl) rfl rfl ?_)
 refine⟨by kernel_rfl,?_⟩
 repeat first|apply g1|apply g2|apply g3|apply g4|apply g5
 conv=>whnf
 refine Or.inl ?_
 refine aby id ?_
 refine Or.inl ?_
 refine⟨[aF ⟨1,0,3⟩],rfl,⟨rf,rf,rf,tv⟩,(by simp;rfl),?_⟩
 refine⟨by kernel_rfl,?_⟩
 repeat first|apply g1|apply g2|apply g3|apply g4|apply g5
 conv=>whnf
 refine Or.inl ?_
 refine⟨_,fun _=>(mT [⟨1,0,3⟩] (by simp)).ok,?_⟩
 repeat first|apply g1|apply g2|apply g3|apply g4|apply g5
 conv=>whnf
 refine .inr (cl [5,1,2,6,7,3,4] q3 (by kernel_rfl) rfl rfl ?_)
 refine⟨by kernel_rfl,?_⟩
 repeat first|apply g1|apply g2|apply g3|apply g4|apply g5
 exact⟨rf,tv⟩
end
section
open Go.TM Go.ChangeShapes Go.WideShapes Go.ChangeAt Go.RowKit
theorem own:ownKnob Tryz.prog.godebug=none:=by kernel_rfl
theorem laidOut:laidOutB Tryz.prog=true:=by kernel_rfl
theorem DO{n:Int}(h:(Lit.int .i64 n).wf=true):oC n:=by simpa[oC,Lit.wf,IntKind.min,IntKind.max,IntKind.signed,IntKind.bits]using h
theorem Tg{H:Type}{enc:TypeId×Value->H}{W:World}{v:Value}{d:DataW H}{p:List MemPlace}(hv:∃a len cap,v=.slice a len cap)(h:DataW.Trod enc Tryz.prog W 0 (fun _=>true) true 22 v d p):
 ∃zs:List Int,bz (fun b=>W.heap[b]?) (Ints zs) v/\∀x,x∈zs->oC x:=by
 obtain⟨fuel,h⟩:=h
 obtain⟨a0,l0,c0,rfl⟩:=hv
 rcases open_ints Tryz.underlying22 Tryz.underlying3 (by kernel_rfl) h with⟨h1,-⟩|⟨a,len,cap,zs,h1,h2,h3,h4,h5,h6,h7,h8⟩
 ·simp[Value.cells]at h1
  obtain⟨rfl,rfl,rfl⟩:=h1
  exact⟨[],.slnil 1,fun x hx=>by simp at hx⟩
 ·simp[Value.cells]at h1
  obtain⟨rfl,rfl,rfl⟩:=h1
  simp only[if_true]at h5
  have hlen:((zs.take l0).map I).length=l0:=by simp;omega
  refine⟨zs.take l0,?_,fun x hx=>DO (h8 x (List.mem_of_mem_take hx))⟩
  ·have hd:=bz.sl (M:=fun b=>W.heap[b]?) 1 ((zs.take l0).map I) a c0 (fun i _=>.int .i64 (zs.getD i 0)) (by rw[hlen];exact h3) (fun x hx=>by
    obtain⟨n,-,rfl⟩:=ab1.1 hx
    exact⟨rfl,fun d hd=>by simp only[DV.cells,abF]at hd;subst hd;rfl⟩) (fun i j hi hj=>by
    have hj0:j=0:=by omega
    subst hj0
    rw[hlen]at hi
    have:=h7 i (by omega)
    rw[Nat.mul_one,Nat.add_zero]
    exact this) (fun i x j d hx hd=>by
    have hi:i<l0:=by
     have:=(abA.1 hx).1
     rw[hlen]at this;exact this
    rw[abB,List.getElem?_take_of_lt hi,aaa (by omega)]at hx
    simp only[Option.map_some,Option.some.injEq]at hx
    subst hx
    match j,hd with
    |0,hd=>
     simp only[DV.cells,List.getElem?_cons_zero,Option.some.injEq]at hd
     subst hd
     have e:zs.getD i 0=zs[i]'(by omega):=by simp[List.getD,aaa (show i<zs.length by omega)]
     rw[e]
     exact .int .i64 _
    |j+1,hd=>simp[DV.cells]at hd)
   rw[hlen]at hd
   exact hd
theorem QJ{W:World}(h:laidMetH Tryz.prog [("worldmint/lexer.kinds",Rows.laid_worldmint_lexer_kinds)] W):∃(ty:TypeId) (fr:Nat×Nat),W.heap[0]?=some (.cells LL ty fr):=by
 have ht:Lib.TabIs Tryz.prog W "worldmint/lexer.kinds" .u8 (Bq.map fun n=>((n:Nat):Int)):=
  Lib.tabIs_of_head (rest:=[]) (g:=0) (t:=287) (e:=5) (n:=128) (by kernel_rfl) (by kernel_rfl) Tryz.underlying287 Tryz.underlying5 (by kernel_rfl) (by kernel_rfl) h
 have hg:Tryz.prog.globalNamed "worldmint/lexer.kinds"=some 0:=by kernel_rfl
 unfold Lib.TabIs World.var? at ht
 rw[hg]at ht
 simp only[Option.bind_some]at ht
 split at ht
 ·rename_i cs ty fr hh
  injection ht with ht
  refine⟨ty,fr,?_⟩
  rw[hh,ht]
  simp only[LL,List.map_map]
  rfl
 ·cases ht
def QK(w:World):World:={ w with heap:=w.heap.modify 0 fun
 |.cells _ t frozen=>.cells LL t frozen
 |o=>o }
end
open Go.TM Go.ChangeShapes Go.WideShapes Go.ChangeAt Go.RowKit
theorem GI[bJ](sh:Int)(n:List Int)(w y:Int)(_:oC sh)(_:∀x,x∈n->oC x)(_:oC w)(hy:oC y):aO Tryz.prog 4 [I sh,Ints n,.we .i64 w w,I y] [B true]:=I5 I7 sh w y n hy
theorem QU(os:Os):laidMet Tryz.prog Rows.ledgerStepsRow.laid ((QK (World.holding Tryz.prog os ⟨#[],#[],[]⟩)).forCall (fun _ _=>0) ⟨#[],#[.int .i64 0,.slice none 0 0,.int .i64 0,.int .i64 0],[]⟩).memory:=
 laidMet_of_run' 8 (by kernel_rfl) (by kernel_rfl)
theorem reads(os:Os){H:Type}(enc:TypeId×Value->H):∃places,DataW.whole enc Tryz.prog ((QK (World.holding Tryz.prog os ⟨#[],#[],[]⟩)).forCall (fun _ _=>0) ⟨#[],#[.int .i64 0,.slice none 0 0,.int .i64 0,.int .i64 0],[]⟩).memory Tryz.f4.params.toList Rows.ledgerStepsSpec.vars false #[Value.int .i64 0,.slice none 0 0,.int .i64 0,.int .i64 0].toList 8=some ([.lit (.int .i64 0),.nil,.lit (.int .i64 0),.lit (.int .i64 0)],[],places):=
 ⟨[],by kernel_rfl⟩
theorem QV(H:Type)(enc:TypeId×Value->H)(W:World)(base:Nat)(args:Array Value)(ds gs:List (DataW H))(before:List MemPlace)
 (wy:∀(j:Nat) t v,Tryz.f4.params[j]?=some t->args[j]?=some v->Value.okWide Tryz.prog W .any base t v)
 (hW:DataW.Whole enc Tryz.prog Tryz.f4.params.toList Rows.ledgerStepsSpec.vars false W args.toList ds gs before) (hL:laidMetH Tryz.prog Rows.ledgerStepsRow.laid W):
 Calls Tryz.prog 4 args W fun e W'=>∃v,e=.returned v/\Rows.ledgerStepsSpec.post enc Tryz.prog Tryz.f4 false true false false W args v W':=by
 have hW':=hW
 obtain⟨p,q,hA0,hV,rfl,ln,dh⟩:=hW
 have hA:DataW.TrodAll enc Tryz.prog W 0 (fun _=>true) true Tryz.f4.params.toList args.toList ds p:=hA0
 rw[Tryz.params4]at hA wy
 obtain⟨v0,vs0,d0,ds0,p0,q0,bW,rfl,rfl,h0,r0⟩:=trodAll_cons hA
 obtain⟨v1,vs1,d1,ds1,p1,q1,rfl,rfl,rfl,h1,r1⟩:=trodAll_cons r0
 obtain⟨v2,vs2,d2,ds2,p2,q2,rfl,rfl,rfl,h2,r2⟩:=trodAll_cons r1
 obtain⟨v3,vs3,d3,ds3,p3,q3,rfl,rfl,rfl,h3,r3⟩:=trodAll_cons r2
 obtain⟨rfl,rfl,rfl⟩:=trodAll_nil r3
 obtain rfl:args=#[v0,v1,v2,v3]:=by cases args;simp_all
 obtain⟨rfl,rfl⟩:=trodVars_none hV
 have js:=okWide_slice Tryz.underlying22 (wy 1 22 v1 rfl rfl)
 obtain⟨zs1,hz1,hy1⟩:=Tg js h1
 obtain⟨a0,rfl,rfl,rfl,wa0⟩:=open_int Tryz.underlying3 (wy 0 3 v0 rfl rfl) h0
 obtain⟨a2,rfl,rfl,rfl,wa2⟩:=open_int Tryz.underlying3 (wy 2 3 v2 rfl rfl) h2
 obtain⟨a3,rfl,rfl,rfl,wa3⟩:=open_int Tryz.underlying3 (wy 3 3 v3 rfl rfl) h3
 clear hA0
 simp only[List.append_nil,List.nil_append]at hW'
 have QB:∀x,x∈p1->x.block<W.heap.size:=fun x hx=>hW'.lt x hx
 have hrel:fD (fun b=>W.heap[b]?) [I a0,Ints zs1,.we .i64 a2 a2,I a3] [.int .i64 a0,v1,.int .i64 a2,.int .i64 a3]:=by
  refine⟨rfl,fun j d v hd hv=>?_⟩
  match j,hd,hv with
  |0,hd,hv=>simp at hd hv;subst hd;subst hv;exact .int _ _
  |1,hd,hv=>simp at hd hv;subst hd;subst hv;exact hz1
  |2,hd,hv=>simp at hd hv;subst hd;subst hv;exact .we _ _ _ _ (Int.le_refl _) (Int.le_refl _)
  |3,hd,hv=>simp at hd hv;subst hd;subst hv;exact .int _ _
  |j+4,hd,hv=>simp at hd
 obtain⟨ty,fr,hk⟩:=QJ hL
 letI:bJ:=⟨ty,fr⟩
 have na:ng (fun b=>W.heap[b]?):=by
  intro j o hj
  have hj:Pc j=some o:=hj
  unfold Pc at hj
  cases hb:Nat.beq j 0 with
  |false=>rw[hb]at hj;cases hj
  |true=>
   rw[hb]at hj
   have:=abD hb
   subst this
   exact hk.trans hj
 have jx:=(GI a0 zs1 a2 a3 (DO wa0) hy1 (DO wa2) (DO wa3)).2 W (fun b=>W.heap[b]?) _ (fun _ _ h=>h) na hrel
 refine Calls.mono jx fun e W' ⟨v,M',he,hb,hle,dP,od,iZ⟩=>?_
 subst he
 have VS:v=.bool true:=by
  have iZ:bz M' (B true) v:=iZ
  cases iZ with|bool=>rfl
 subst VS
 exact⟨_,rfl,[_,d1,_,_],[],p1,[],p1,[],hW',trodAll_mk1 (shut_bool Tryz.underlying4 _),(by
  have h4:=trodAll_cons_mk (shut_int Tryz.underlying3 wa0) (trodAll_cons_mk (Below.trod laidOut (by kernel_rfl) (by decide+kernel) h1 hb QB) (trodAll_cons_mk (shut_int Tryz.underlying3 wa2) (trodAll_cons_mk (shut_int Tryz.underlying3 wa3) trodAll_mk0)))
  simp only[List.append_nil,List.nil_append]at h4
  exact h4),rfl,hb.frame _,fun h=>by cases h⟩
theorem lifted(os:Os)(started:os.Started)(H:Type)(enc:TypeId×Value->H)(F:Stop.Interp):
 ReturnsInHanded {} Tryz.checked os 4 .any ((OpenSpec.ofChange Rows.ledgerStepsSpec).preRow enc Tryz.prog Tryz.f4 Rows.ledgerStepsRow.domain false Rows.ledgerStepsRow.laid) (((OpenSpec.ofChange Rows.ledgerStepsSpec).at F).post enc Tryz.prog Tryz.f4 false true false false):=by
 obtain⟨places,hx⟩:=reads os enc
 refine returnsInHanded_of_row (C:=Tryz.checked) (s:=OpenSpec.ofChange Rows.ledgerStepsSpec) own started (by kernel_rfl) Tryz.func4
  (witness_row_at (enc:=enc) (C:=Tryz.checked) false (QK (World.holding Tryz.prog os ⟨#[],#[],[]⟩)) #[.int .i64 0,.slice none 0 0,.int .i64 0,.int .i64 0] rfl (by kernel_rfl) (by kernel_rfl) (by kernel_rfl)
   (OpenSpec.preRow_of_cond 8 hx (by kernel_rfl) (fun k hk=>by cases hk) (by kernel_rfl) (QU os))) ?_
 intro W base args ds gs before wy hW _ _ _ hL _ _
 exact QV H enc W base args ds gs before wy hW hL
theorem said:Rows.LedgerStepsSaid:=
 OpenClaim.holds_of_cond 4 Tryz.f4 rfl rfl rfl rfl rfl rfl rfl ⟨rfl,rfl,rfl,rfl,rfl⟩ rfl rfl rfl rfl rfl (by kernel_rfl) Tryz.func4 (by kernel_rfl)
  (abQ (by kernel_rfl)) (by unfold Func.isWrapper;first|(rw[if_pos (by decide+kernel)];kernel_rfl)|(rw[if_neg (by decide+kernel)];exact⟨rfl,rfl⟩))
  (fun os started H enc _ F=>by rw[OpenClaim.pre_eq_preRow];exact lifted os started H enc F)
theorem plain(f:FuncId)(fn:Func)(hf:Tryz.pinned.checked.prog.funcNamed "worldmint/worldmintlaw16.LedgerSteps"=some f)(Wd:Tryz.pinned.checked.prog.funcs[f]?=some fn):
 false=Tryz.pinned.checked.prog.looks []/\∀(j:Nat) t,fn.params[j]?=some t->Tryz.pinned.checked.prog.wantsStandIn t=false:=by
 obtain rfl:f=4:=Option.some.inj ((show Tryz.prog.funcNamed "worldmint/worldmintlaw16.LedgerSteps"=some 4 by kernel_rfl).symm.trans hf) |>.symm
 obtain rfl:fn=Tryz.f4:=(Option.some.inj (Tryz.func4.symm.trans Wd)).symm
 refine⟨by kernel_rfl,fun j t ht=>?_⟩
 rw[Tryz.params4]at ht
 match j,ht with
 |0,ht=>simp at ht;subst ht;exact(show Tryz.prog.wantsStandIn 3=false by kernel_rfl)
 |1,ht=>simp at ht;subst ht;exact(show Tryz.prog.wantsStandIn 22=false by kernel_rfl)
 |2,ht=>simp at ht;subst ht;exact(show Tryz.prog.wantsStandIn 3=false by kernel_rfl)
 |3,ht=>simp at ht;subst ht;exact(show Tryz.prog.wantsStandIn 3=false by kernel_rfl)
 |j+4,ht=>simp at ht
theorem steps_proved:Rows.LedgerStepsCardSaid:=
 Claim7.holds_tied_plain_at .later [] _ _ _ _ said (fun _ h=>by cases h) (by kernel_rfl) (fun _ h=>by cases h) ledgerSteps_row_tie rfl ⟨rfl,rfl⟩ (by kernel_rfl) rfl plain (by kernel_rfl)
end Go.Proofs.YtpbiiigpphehbaaGreatDoor
