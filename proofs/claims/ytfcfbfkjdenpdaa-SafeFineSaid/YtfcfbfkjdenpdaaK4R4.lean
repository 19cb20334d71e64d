import Derived.Test.YtfcfbfkjdenpdaaK4R1
set_option linter.unusedVariables false
set_option linter.unusedSimpArgs false
set_option linter.unusedSectionVars false
namespace Go.Proofs.Ytfcfbfkjdenpdaa
open Go.TM
theorem run4:xfun Try.prog tab pol 100000 10 [.dv (I 2),.agg (dvs (exC 10 0))] 0 []=.ok ([.ownf 20 0,.agg [.dv (I 0),.dv (I 0),.dv (I 0),.dv .nils]],[(20,.tree 0 0 (.osl 1 [.osl 1 [I 0,I 0],.osl 1 [I 5,I 0],.osl 1 [I 5,I 7],.osl 1 [I 5,I 0]]))],21):=by kernel_rfl
end Go.Proofs.Ytfcfbfkjdenpdaa
