import Derived.Test.YtmojfblpbcficaaGreatDoorUM43
import Derived.Test.YtmojfblpbcficaaGreatDoorUM41
set_option linter.all false
open Go.TM.oA Go.TM.oB Go.TM.oC Go.TM.oD Go.TM.oE
namespace Go.Proofs.YtmojfblpbcficaaGreatDoor
set_option maxRecDepth 100000
set_option maxHeartbeats 4000000
open Go.TM
def lqK(P:PL)(R:RL):ae:=[(1,.tree 0 0 (.omap eb (oq P.st))),(2,.tree 0 0 (.omap cr (nG P.b9))),(3,.tree 0 0 (.omap cr (mU P.imp))),(4,.tree 0 0 (.omap cr (mU P.ret))),(5,.cells (.dv (I P.sh)::ed gE++[.own 1 0 0 [],.own 2 0 0 [],.own 8 0 0 [],.own 9 0 0 [],.own 3 0 0 [],.own 4 0 0 []])),(7,.cells (.dv (I R.sh)::ed gE++[.own 10 0 0 [],.own 11 0 0 [],.own 12 0 0 []])),(8,.tree 0 0 (.aD 7 (P.sp.map aC))),(9,.tree 0 0 (.aD 11 (P.fl.map aG))),(10,.tree 0 0 (.aD 3 (R.st.map fB))),(11,.tree 0 0 (.aD 11 (R.fl.map aG))),(12,.tree 0 0 (.aD 7 (R.sp.map aC)))]
variable [bp]
theorem J8(hLv:aN Tryz.prog 12 [] [B true])(sh:Int)(n k:List Int):aN Tryz.prog 4 [I sh,Ints n,Ints k] [B true]:=by
 have hb:=qU sh 12 (by omega)
 refine pO Tryz.func4 rfl (by kernel_rfl) rfl ?_
 refine .inr (cl [] (Cg sh) (by kernel_rfl) rfl rfl ?_)
 refine T5 (fun h=>by cases h) fun _=>?_
 refine⟨Nat×PL×RL,fun x=>⟨13,[(1,.dv (Ints n)),(2,.dv (Ints k)),(7,.ptr 5 0),(8,.ptr 7 0),(10,.dv (I x.1))],lqK x.2.1 x.2.2⟩,fun x=>x.1<=10/\Inv x.2.1 x.2.2/\x.2.2.sp.length<=x.1,fun x=>10-x.1,(0,⟨fC sh 12,[],[],[],[],[],[]⟩,⟨fC sh 12,[],[],[]⟩),fun _=>rfl,?_,⟨by simp,YM ⟨hb.1,by omega⟩,by simp⟩,?_⟩
 ·refine⟨⟨rf,rf,rfl,rfl,rf,tv⟩,?_,rfl,rfl⟩
  repeat' first|exact trivial|rfl|exact rf|exact⟨rfl,rfl,rfl,rfl,_,rfl⟩|exact⟨rfl,rfl,_,rfl⟩|refine T5 ?_ ?_
 rintro⟨i,P,R⟩ ⟨hi,hI,jv⟩
 simp only at hi hI jv
 refine T5 (fun h=>?_) fun h=>?_
 ·have au:i<10:=by have:=adz h;omega
  have hG:=hI.fj
  obtain⟨⟨P',R'⟩,YO,R4,_,hF⟩:=El hI jv (by omega) (LZ (LY R n (6*i) hG.sh))
  simp only at YO R4 hF
  refine⟨fun _=>by omega,?_⟩
  refine .inr (cl [7,10,11,12] (Ce R n (6*i) (by omega) hG.rg) (by kernel_rfl) rfl rfl ?_)
  generalize qo R n (6*i)=s at*
  rcases hF with⟨e,h1,h2⟩|⟨a,_,_,h1,h2⟩
  ·refine .inr (cl [5,1,2,8,9,3,4] h1 (by kernel_rfl) rfl rfl ?_)
   rcases h2 with h2|h2
   all_goals
    refine .inr (cl [7,10,11,12] h2 (by kernel_rfl) rfl rfl ?_)
    exact⟨fun _=>by omega,(i+1,P,R),jn rfl rfl rfl rfl,⟨au,YO,R4⟩,mlt au⟩
  ·refine .inr (cl [5,1,2,8,9,3,4] h1 (by kernel_rfl) rfl rfl ?_)
   refine .inr (cl [7,10,11,12] h2 (by kernel_rfl) rfl rfl ?_)
   exact⟨fun _=>by omega,(i+1,P',R'),jn rfl rfl rfl rfl,⟨au,YO,R4⟩,mlt au⟩
 obtain rfl:i=10:=by have:=adA h;omega
 clear hb
 refine⟨Nat×PL×RL,fun x=>⟨13,[(2,.dv (Ints k)),(7,.ptr 5 0),(8,.ptr 7 0),(12,.dv (I x.1))],lqK x.2.1 x.2.2⟩,fun x=>x.1<=8/\Inv x.2.1 x.2.2/\x.2.2.sp.length<=10+x.1,fun x=>8-x.1,(0,P,R),fun _=>rfl,jn rfl rfl rfl rfl,⟨by simp,hI,jv⟩,?_⟩
 clear hi hI jv h P R
 rintro⟨i,P,R⟩ ⟨hi,hI,jv⟩
 simp only at hi hI jv
 refine T5 (fun h=>?_) fun h=>?_
 rotate_left
 ·refine .inl ⟨_,fun _=>hLv.ok,?_⟩
  exact⟨rf,tv⟩
 have au:i<8:=by have:=adz h;omega
 obtain⟨⟨P',R'⟩,YO,R4,_,hF⟩:=El hI jv (by omega) (Hh hI.fj hI.dx k (6*i))
 simp only at YO R4 hF
 refine⟨fun _=>by omega,?_⟩
 refine .inr (cl [7,10,11,12] (R3 hI k (6*i) (by omega)) (by kernel_rfl) rfl rfl ?_)
 generalize oK R k (6*i)=s at*
 rcases hF with⟨e,h1,h2|h2⟩|⟨e,_,_,h1,h2⟩
 all_goals
  refine .inr (cl [5,1,2,8,9,3,4] h1 (by kernel_rfl) rfl rfl ?_)
  refine .inr (cl [7,10,11,12] h2 (by kernel_rfl) rfl rfl ?_)
  repeat refine gG ?_
  conv=>whnf
  rw[(bne_self_eq_false e:(e !=e)=false)]
  refine .inr (cl [5,1,2,8,9,3,4,7,10,11,12] (J6 YO) (by kernel_rfl) rfl rfl ?_)
  refine⟨by kernel_rfl,?_⟩
  repeat refine gG ?_
  refine T5 (fun h=>?_) fun _=>?_
  ·exact Bool.noConfusion (show false=true from h)
  exact⟨fun _=>by omega,(i+1,_,_),jn rfl rfl rfl rfl,⟨au,YO,by simp only;omega⟩,mlt au⟩
end Go.Proofs.YtmojfblpbcficaaGreatDoor
