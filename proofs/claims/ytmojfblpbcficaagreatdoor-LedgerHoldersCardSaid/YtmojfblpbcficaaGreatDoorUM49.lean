import Derived.Test.YtmojfblpbcficaaGreatDoorUM46
import Derived.Test.YtmojfblpbcficaaGreatDoorUM48
import Derived.Test.YtmojfblpbcficaaGreatDoorUM25
import Derived.Test.YtmojfblpbcficaaGreatDoorUM29
set_option linter.all false
open Go.TM.oA Go.TM.oB Go.TM.oC Go.TM.oD Go.TM.oE
namespace Go.Proofs.YtmojfblpbcficaaGreatDoor
set_option maxRecDepth 100000
set_option maxHeartbeats 4000000
open Go.TM
def hdK(P:PL):ae:=[(1,.tree 0 0 (.omap eb (oq P.st))),(2,.tree 0 0 (.omap cr (nG P.b9))),(3,.tree 0 0 (.omap cr (mU P.imp))),(4,.tree 0 0 (.omap cr (mU P.ret))),(5,.cells (.dv (I P.sh)::ed gE++[.own 1 0 0 [],.own 2 0 0 [],.own 8 0 0 [],.own 9 0 0 [],.own 3 0 0 [],.own 4 0 0 []])),(8,.tree 0 0 (.aD 7 (P.sp.map aC))),(9,.tree 0 0 (.aD 11 (P.fl.map aG)))]
variable [bp]
theorem Kf{P:PL}{R:RL}(hI:Inv P R)(hF:HF P R)(hLv:aN Tryz.prog 12 [] [B true])(n k:List Int)(hs:aj Tryz.prog 8 [.dv (Ints n),.dv (Ints k)] 0 [] 13 [.ptr 5 0] (lfK P R)):aN Tryz.prog 5 [Ints n,Ints k] [B true]:=by
 have hG:=hI.fj
 have kP:=hF.fl
 have lf:(P.fl.map aG).length=P.fl.length:=WY ..
 refine pO Tryz.func5 rfl (by kernel_rfl) rfl ?_
 refine .inr (cl [] hs (by kernel_rfl) rfl rfl ?_)
 refine T5 (fun h=>by cases h) fun _=>?_
 refine .inr (cl [5,1,2,8,9,3,4] (wy P (by omega) (by rw[hI.fl];exact fun f hf=>by have:=hG.AP f hf;omega)) (by kernel_rfl) rfl rfl ?_)
 refine⟨Nat,fun a=>⟨13,[(5,.ptr 5 0),(6,.dv (.sl 11 (P.fl.map aG))),(7,.dv (aM (A_ P.st (5*a)))),(8,.dv (I (T_ P.st (5*a)))),(9,.dv (I ((a:Int)+1)))],hdK P⟩,fun a=>a<=6,fun a=>6-a,0,fun _=>rfl,⟨⟨rfl,rf,DV.aI 3,rf,rf,tv⟩,?_,rfl,rfl⟩,adx _,?_⟩
 ·repeat' first|exact trivial|rfl|exact rf|refine T5 ?_ ?_
 intro a ha
 refine T5 (fun h=>?_) fun h=>?_
 ·have au:a<6:=by have:=adz h;omega
  refine⟨Nat,fun i=>⟨13,[(5,.ptr 5 0),(6,.dv (.sl 11 (P.fl.map aG))),(7,.dv (aM (A_ P.st (5*a+i)))),(8,.dv (I (T_ P.st (5*a+i)))),(9,.dv (I ((a:Int)+1))),(10,.dv (I i))],hdK P⟩,fun i=>i<=5,fun i=>5-i,0,fun _=>rfl,jn rfl rfl rfl rfl,adx _,?_⟩
  intro i hi
  refine T5 (fun h=>?_) fun h=>?_
  ·have Zj:i<5:=by have:=adz h;omega
   have ek:((a:Int)+1,(i:Int))=kJ (5*a+i):=by unfold kJ;rw[Prod.ext_iff];simp only;omega
   have hp:=mE P ((a:Int)+1) i (by have:=(hF.st ((a:Int)+1,(i:Int))).2;omega)
   rw[ek]at hp
   have e1:A_ P.st (5*a+(i+1))=_:=(Se P.st (j:=5*a+i) (by omega)).1
   have e2:T_ P.st (5*a+(i+1))=_:=(Se P.st (j:=5*a+i) (by omega)).2
   obtain⟨v1,v2⟩:=hF.a (j:=5*a+i) (by omega)
   obtain⟨s1,s2⟩:=hF.st (kJ (5*a+i))
   have t1:=T_b P.st (5*a+i)
   have t2:=vl (aW P.st (kJ (5*a+i)))
   refine .inr (cl [5,1,2,8,9,3,4] hp (by kernel_rfl) rfl rfl ?_)
   refine .inl ⟨_,fun _=>(oM (A_ P.st (5*a+i)) (aW P.st (kJ (5*a+i))) (qt v1 v2 (by omega)) (qt s1 s2 (by omega)) (by omega)).ok,?_⟩
   refine .inl ⟨_,fun _=>(jF (aW P.st (kJ (5*a+i))) (by omega)).ok,?_⟩
   refine⟨fun _=>by omega,?_⟩
   exact⟨fun _=>by omega,i+1,jn (by simp only[e1,e2];rfl) rfl rfl rfl,Zj,mlt Zj⟩
  ·obtain rfl:i=5:=by have:=adA h;omega
   exact⟨fun _=>by omega,a+1,jn rfl rfl rfl rfl,au,mlt au⟩
 obtain rfl:a=6:=by have:=adA h;omega
 have eB:A_ P.st (5*6)=B_ P 0:=(Wj P.st).1.trans (by unfold B_;rw[List.take_zero];rw[show CP []=[]from rfl,List.append_nil])
 have eV:T_ P.st (5*6)=V_ P 0:=(Wj P.st).2.trans (by unfold V_;rw[List.take_zero];rw[show tN (CP [])=0 from rfl,Int.add_zero])
 rw[eB,eV]
 refine⟨Nat,fun j=>⟨13,[(6,.dv (.sl 11 (P.fl.map aG))),(7,.dv (aM (B_ P j))),(8,.dv (I (V_ P j))),(12,.dv (aM (W_ P j))),(13,.dv (I j))],hdK P⟩,fun j=>j<=P.fl.length,fun j=>P.fl.length-j,0,fun _=>rfl,⟨⟨rf,rf,rf,DV.aI 3,rf,tv⟩,?_,rfl,rfl⟩,adx _,?_⟩
 ·repeat' first|exact trivial|rfl|exact rf|refine T5 ?_ ?_
 intro j hj
 refine T5 (fun h=>?_) fun h=>?_
 ·have au:j<P.fl.length:=by have:=adz h;omega
  obtain⟨f,hf⟩:∃f,P.fl[j]?=some f:=⟨_,IF au⟩
  have hm:=ab6 hf
  have im:(P.fl.map aG)[(j:Int).toNat]?=some (aG f):=by rw[abW];simp[hf]
  obtain⟨b1,b2⟩:=YR hf
  obtain⟨w1,w2⟩:=YS hf
  obtain⟨v1,v2⟩:=hF.b hj
  obtain⟨v3,v4⟩:=hF.w hj
  have v5:=hF.v j
  have v6:=vl f.ps
  obtain⟨f1,f2⟩:=hF.fp f hm
  refine⟨aG f,fun _=>⟨by omega,im⟩,?_⟩
  repeat refine gG ?_
  refine T5 (fun h=>?_) fun h=>?_
  ·have hc:ua f:=by unfold ua;grind
   obtain⟨e1,e2⟩:=b1 hc
   obtain⟨f3,f4⟩:=f1 hc
   refine .inl ⟨_,fun _=>(oM (B_ P j) f.ps (qt v1 v2 (by omega)) (qt f3 f4 (by omega)) (by omega)).ok,?_⟩
   refine .inl ⟨_,fun _=>(jF f.ps (by omega)).ok,?_⟩
   refine⟨fun _=>by omega,?_⟩
   refine T5 (fun h2=>?_) fun h2=>?_
   ·have e3:=w1 (adz h2)
    refine .inl ⟨[aA (wF f)],rfl,⟨rf,rf,rf,tv⟩,(by simp;rfl),?_⟩
    refine .inl ⟨_,fun _=>(oM (W_ P j) [wF f] (qt v3 v4 (by omega)) (val_one f2) (by simp;omega)).ok,?_⟩
    exact⟨fun _=>by omega,j+1,jn (by simp only[e1,e2,e3];rfl) rfl rfl rfl,au,mlt au⟩
   ·have e3:=w2 (adA h2)
    exact⟨fun _=>by omega,j+1,jn (by simp only[e1,e2,e3];rfl) rfl rfl rfl,au,mlt au⟩
  ·have hc:¬ua f:=by unfold ua;grind
   obtain⟨e1,e2⟩:=b2 hc
   refine T5 (fun h2=>?_) fun h2=>?_
   ·have e3:=w1 (adz h2)
    refine .inl ⟨[aA (wF f)],rfl,⟨rf,rf,rf,tv⟩,(by simp;rfl),?_⟩
    refine .inl ⟨_,fun _=>(oM (W_ P j) [wF f] (qt v3 v4 (by omega)) (val_one f2) (by simp;omega)).ok,?_⟩
    exact⟨fun _=>by omega,j+1,jn (by simp only[e1,e2,e3];rfl) rfl rfl rfl,au,mlt au⟩
   ·have e3:=w2 (adA h2)
    exact⟨fun _=>by omega,j+1,jn (by simp only[e1,e2,e3];rfl) rfl rfl rfl,au,mlt au⟩
 obtain rfl:j=P.fl.length:=by have:=adA h;omega
 rw[hF.eq,hF.b9]
 obtain⟨v3,v4⟩:=hF.w (adM _)
 have hsm:=kX (W_ P P.fl.length) (by omega)
 have htt:=jF (W_ P P.fl.length) (by omega)
 generalize W_ P P.fl.length=w at*
 refine .inl ⟨_,fun _=>hsm.ok,?_⟩
 repeat refine gG ?_
 refine Or.inl ?_
 refine⟨_,fun _=>htt.ok,?_⟩
 repeat refine gG ?_
 conv=>whnf
 rw[beq_self_eq_true (br w)]
 conv=>whnf
 refine Or.inl ?_
 refine⟨_,fun _=>hLv.ok,?_⟩
 repeat refine gG ?_
 exact⟨rf,tv⟩
end Go.Proofs.YtmojfblpbcficaaGreatDoor
