import Derived.Test.YtfcfbfkjdenpdaaK4R1
set_option linter.unusedVariables false
set_option linter.unusedSimpArgs false
set_option linter.unusedSectionVars false
namespace Go.Proofs.Ytfcfbfkjdenpdaa
open Go.TM
theorem run2:xfun Try.prog tab pol 100000 16 [.dv (I 2),.agg (dvs (exC 0 0))] 0 []=.ok ([.agg [.dv (I 13),.dv (I 1),.dv (I 0),.own 38 0 0 []]],[(38,.tree 0 0 (.osl 1 [I 0]))],39):=by kernel_rfl
end Go.Proofs.Ytfcfbfkjdenpdaa
