import Derived.Test.YtfcfbfkjdenpdaaK4B5
import Derived.Test.YtfcfbfkjdenpdaaK4R1
import Derived.Test.YtfcfbfkjdenpdaaK4R2
import Derived.Test.YtfcfbfkjdenpdaaK4R3
import Derived.Test.YtfcfbfkjdenpdaaK4R4
import Derived.Test.YtfcfbfkjdenpdaaK4R5
set_option linter.unusedVariables false
set_option linter.unusedSimpArgs false
set_option linter.unusedSectionVars false
namespace Go.Proofs.Ytfcfbfkjdenpdaa
open Go.TM
set_option maxRecDepth 100000 in
set_option maxHeartbeats 4000000 in
theorem lives_spec:PSpec Try.prog 15 [] [B true]:=by
 refine pspec_of tab_ok mixed (calls_snd _) (range_snd _) Try.func15 rfl (by kernel_rfl) rfl ?_
 refine .inr ⟨[],[.dv (I 10),.dv (I 0)],[],0,_,_,xfun_spec tab_ok mixed names_ok ex_run1,rfl,rfl,⟨rf,rf,tv⟩,tv,?_⟩
 refine .inr ⟨[],[.dv (I 2),.agg (dvs (exC 10 0))],[],0,_,_,xfun_spec tab_ok mixed names_ok run1,rfl,rfl,⟨rf,⟨rf,rf,rf,tv⟩,tv⟩,tv,?_⟩
 refine .inr ⟨[],[.dv (I 0),.dv (I 0)],[],0,_,_,xfun_spec tab_ok mixed names_ok ex_run2,rfl,rfl,⟨rf,rf,tv⟩,tv,?_⟩
 refine .inr ⟨[],[.dv (I 2),.agg (dvs (exC 0 0))],[],39,_,_,xfun_spec tab_ok mixed names_ok run2,rfl,rfl,⟨rf,⟨rf,rf,rf,tv⟩,tv⟩,tv,?_⟩
 refine .inr ⟨[],[.dv (I 10),.dv (I 1)],[],0,_,_,xfun_spec tab_ok mixed names_ok ex_run3,rfl,rfl,⟨rf,rf,tv⟩,tv,?_⟩
 refine .inr ⟨[],[.dv (I 2),.agg (dvs (exC 10 1))],[],60,_,_,xfun_spec tab_ok mixed names_ok run3,rfl,rfl,⟨rf,⟨rf,rf,rf,tv⟩,tv⟩,tv,?_⟩
 refine .inr ⟨[],[.dv (I 10),.dv (I 0)],[],0,_,_,xfun_spec tab_ok mixed names_ok ex_run1,rfl,rfl,⟨rf,rf,tv⟩,tv,?_⟩
 refine .inr ⟨[],[.dv (I 2),.agg (dvs (exC 10 0))],[],21,_,_,xfun_spec tab_ok mixed names_ok run4,rfl,rfl,⟨rf,⟨rf,rf,rf,tv⟩,tv⟩,tv,?_⟩
 refine .inr ⟨[],[.dv (I 10),.dv (I 0)],[],0,_,_,xfun_spec tab_ok mixed names_ok ex_run1,rfl,rfl,⟨rf,rf,tv⟩,tv,?_⟩
 refine .inr ⟨[],[.agg (dvs (exC 10 0)),.dv (I 3)],[],15,_,_,xfun_spec tab_ok mixed names_ok run5,rfl,rfl,⟨⟨rf,rf,rf,tv⟩,rf,tv⟩,tv,?_⟩
 refine ⟨id,id,fun _ h=>bw_f h,id,id,fun _ h=>bw_f h,id,id,fun _ h=>bw_f h,id,id,fun _ h=>bw_f h,id,id,fun _ h=>bw_f h,id,id,fun _ h=>bw_f h,id,id,fun _ h=>bw_f h,id,id,fun _ h=>bw_f h,(fun h=>absurd h (by decide)),fun _=>?_⟩
 refine .inl (.inl ⟨[I 0,I (-1)],rfl,⟨rf,rf,tv⟩,(fun y hy=>by rcases List.mem_cons.1 hy with rfl | hy; rfl; rcases List.mem_singleton.1 hy with rfl; rfl),rfl,?_⟩)
 refine ⟨id,fun _=>rfl,.inl (.inl ⟨_,fun _=>(same_spec [0,-1] [0,-1] (by decide)).ok,rfl,?_⟩)⟩
 refine ⟨fun _ _=>rfl,id,id,id,.inl (.inl ⟨_,fun _=>(same_spec [0,-1] [0,-1] (by decide)).ok,rfl,?_⟩)⟩
 refine ⟨fun _ h=>bw_t h,id,fun _=>⟨by decide,by decide⟩,id,.osl 1 [I 5,I 7],fun _=>rfl,?_⟩
 refine .inl (.inl ⟨[I 5,I 7],rfl,⟨rf,rf,tv⟩,(fun y hy=>by rcases List.mem_cons.1 hy with rfl | hy; rfl; rcases List.mem_singleton.1 hy with rfl; rfl),by decide,?_⟩)
 refine ⟨id,fun _=>rfl,.inl ⟨.osl 1 [I 5,I 7],fun _=>rfl,_,fun _=>(same_spec [5,7] [5,7] (by decide)).ok,rfl,fun _ h=>bw_t h,DV.Le.of_eq ?_,tv⟩⟩
 kernel_rfl
end Go.Proofs.Ytfcfbfkjdenpdaa
